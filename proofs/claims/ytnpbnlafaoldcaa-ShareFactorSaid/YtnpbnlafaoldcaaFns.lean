/- The functions of the program in the small language, written by my own program (wip/bench/gen.py). No statement is claimed here. -/
import Derived.Test.YtnpbnlafaoldcaaVj
import Derived.Test.YtnpbnlafaoldcaaChecked
import Derived.KernelRfl
namespace Go.Proofs.Ytnpbnlafaoldcaa
open Go Go.Lft
set_option maxRecDepth 100000
noncomputable abbrev P : Program := Go.Proofs.Try.prog
theorem P_mixed : P.follows .mixedOrders = true := by kernel_rfl

/-- recycling/recyclinglaw11.ShareNew -/
abbrev n_law11_ShareNew : Nat := 3
def s_law11_ShareNew : S :=
 (.set 2 (.lit (.bool false))
 (.call false (some 9) 11 (.cn (.var 0) .nl)
 (.set 3 (.var 9)
 (.call false (some 10) 12 (.cn (.var 0) .nl)
 (.chk (.u (.ext 0) (.var 10))
 (.chk (.u (.ext 1) (.var 10))
 (.set 4 (.u (.ext 0) (.var 10))
 (.set 5 (.u (.ext 1) (.var 10))
 (.set 6 (.lit (.pointer none))
 (.call false (some 11) 13 (.cn (.var 6) (.cn (.var 1) .nl))
 (.chk (.u (.ext 0) (.var 11))
 (.chk (.u (.ext 1) (.var 11))
 (.set 7 (.u (.ext 0) (.var 11))
 (.set 8 (.u (.ext 1) (.var 11))
 (.chk (.ite (.ite (.ite (.ite (.b (.bin .neq) (.var 5) (.var 3)) (.lit (.bool true)) (.b (.eqb true) (.b (.eqp false) (.var 4) (.lit (.pointer none))) (.b (.bin .neq) (.var 3) (.lit (.int .i64 0))))) (.lit (.bool true)) (.b (.bin .neq) (.var 8) (.lit (.int .i64 14)))) (.lit (.bool true)) (.b (.bin .neq) (.u .len (.var 7)) (.lit (.int .i64 0)))) (.lit undef) (.var 6))
 (.seq
  (.ite (.ite (.ite (.ite (.b (.bin .neq) (.var 5) (.var 3)) (.lit (.bool true)) (.b (.eqb true) (.b (.eqp false) (.var 4) (.lit (.pointer none))) (.b (.bin .neq) (.var 3) (.lit (.int .i64 0))))) (.lit (.bool true)) (.b (.bin .neq) (.var 8) (.lit (.int .i64 14)))) (.lit (.bool true)) (.b (.bin .neq) (.u .len (.var 7)) (.lit (.int .i64 0))))
   (.set 12 (.lit undef)
   (.ite (.lit (.bool true))
    (.set 2 (.lit (.bool false))
    .ret)
    .nxt))
   (.call false (some 12) 14 (.cn (.var 6) .nl)
   (.ite (.b (.bin .neq) (.u .len (.var 12)) (.lit (.int .i64 0)))
    (.set 2 (.lit (.bool false))
    .ret)
    .nxt)))
 (.chk (.ite (.b (.eqp false) (.var 4) (.lit (.pointer none))) (.lit undef) (.var 4))
 (.seq
  (.ite (.b (.eqp false) (.var 4) (.lit (.pointer none)))
   (.set 14 (.lit undef)
   (.set 15 (.lit undef)
   (.set 16 (.lit undef)
   (.call false (some 13) 16 .nl
   (.set 2 (.var 13)
   .nxt)))))
   (.call false (some 14) 14 (.cn (.var 4) .nl)
   (.chk (.ite (.b (.bin .eql) (.u .len (.var 14)) (.u .len (.var 0))) (.var 4) (.lit undef))
   (.ite (.b (.bin .eql) (.u .len (.var 14)) (.u .len (.var 0)))
    (.call false (some 15) 14 (.cn (.var 4) .nl)
    (.call false (some 16) 15 (.cn (.var 15) .nl)
    (.ite (.b (.bin .eql) (.var 16) (.lit (.int .i64 0)))
     (.call false (some 13) 16 .nl
     (.set 2 (.var 13)
     .nxt))
     (.set 13 (.lit undef)
     (.set 2 (.lit (.bool false))
     .nxt)))))
    (.set 15 (.lit undef)
    (.set 16 (.lit undef)
    (.set 13 (.lit undef)
    (.set 2 (.lit (.bool false))
    .nxt))))))))
 .ret))))))))))))))))))
def f_law11_ShareNew : Fun := ⟨s_law11_ShareNew, [(.var 2)]⟩
abbrev v_law11_ShareNew : List Nat := [0, 1, 4, 5, 6, 7, 8, 9, 10, 12, 15, 21, 45, 66, 53, 60, 61]
theorem c_law11_ShareNew : compF P Go.Proofs.Try.f3 v_law11_ShareNew = some f_law11_ShareNew := by kernel_rfl
theorem of_law11_ShareNew {args : List Value} (hn : args.length ≤ 68) {h : Heap} {R : Value → Heap → Prop} (hs : s_law11_ShareNew.wp P (f_law11_ShareNew.post R) (env0 v_law11_ShareNew args) h) : Runs P n_law11_ShareNew args h R := fn_of P_mixed Go.Proofs.Try.func3 c_law11_ShareNew (by rw [Go.Proofs.Try.ntmps3]; exact hn) hs
theorem vr_law11_ShareNew {kp : Bool} {args : List A} {H : List Blk} {R : A → List Blk → Prop} (hlen : args.length ≤ 68) (hk : kp = false ∨ H = []) (hw : (∀ B ∈ H, A.bdL H.length B.cells = true) → A.bdL H.length args = true → s_law11_ShareNew.aw P H.length (postA H.length f_law11_ShareNew R) (envA v_law11_ShareNew args) H) : VR P kp n_law11_ShareNew args H R := VR.of (F := f_law11_ShareNew) (V := v_law11_ShareNew) of_law11_ShareNew hlen hk fun h1 h2 => aw_sound (hw h1 h2)
theorem r_law11_ShareNew : Fun.res f_law11_ShareNew = [(.var 2)] := rfl

/-- recycling/recyclinglaw11.ShareCarry -/
abbrev n_law11_ShareCarry : Nat := 4
def s_law11_ShareCarry : S :=
 (.set 2 (.lit (.bool false))
 (.call false (some 14) 12 (.cn (.var 0) .nl)
 (.chk (.u (.ext 0) (.var 14))
 (.chk (.u (.ext 1) (.var 14))
 (.set 3 (.u (.ext 0) (.var 14))
 (.set 4 (.u (.ext 1) (.var 14))
 (.call false (some 15) 11 (.cn (.var 0) .nl)
 (.seq
  (.ite (.ite (.b (.bin .neq) (.var 15) (.lit (.int .i64 0))) (.lit (.bool true)) (.b (.bin .gtr) (.u .len (.var 1)) (.lit (.int .i64 40))))
   (.call false (some 16) 11 (.cn (.var 0) .nl)
   (.seq
    (.ite (.b (.eqb false) (.b (.bin .eql) (.var 16) (.lit (.int .i64 0))) (.b (.bin .eql) (.var 4) (.lit (.int .i64 0))))
     (.call false (some 23) 16 .nl
     (.set 2 (.var 23)
     .nxt))
     (.set 23 (.lit undef)
     (.set 2 (.lit (.bool false))
     .nxt)))
   .ret))
   .nxt)
 (.seq
  (.ite (.ite (.b (.eqp false) (.var 3) (.lit (.pointer none))) (.lit (.bool true)) (.b (.bin .neq) (.var 4) (.lit (.int .i64 0))))
   (.set 2 (.lit (.bool false))
   .ret)
   .nxt)
 (.call false (some 17) 17 (.cn (.var 0) .nl)
 (.eff false (some 11) (.alloc 35 [(.slice none 0 0), (.slice none 0 0)])
 (.eff false none (.st 2 (.var 11) (.var 17))
 (.set 6 (.u .len (.var 1))
 (.set 5 (.lit (.int .i64 0))
 (.seq
  (.blk 0
   (.loop
    (.set 7 (.b (.bin .lss) (.var 5) (.var 6))
    (.seq
     (.ite (.var 7)
      .nxt
      (.exit 0))
    (.seq
     (.blk 1
      (.set 8 (.var 5)
      (.call false (some 18) 13 (.cn (.var 3) (.cn (.u .ld1 (.b (.idx 1) (.var 1) (.var 8))) .nl))
      (.chk (.u (.ext 0) (.var 18))
      (.chk (.u (.ext 1) (.var 18))
      (.set 9 (.u (.ext 0) (.var 18))
      (.set 10 (.u (.ext 1) (.var 18))
      (.seq
       (.ite (.ite (.b (.bin .lss) (.u .ld1 (.b (.idx 1) (.var 1) (.var 8))) (.lit (.int .i64 0))) (.lit (.bool true)) (.b (.bin .gtr) (.u .ld1 (.b (.idx 1) (.var 1) (.var 8))) (.lit (.int .i64 1073741824))))
        (.seq
         (.ite (.ite (.b (.bin .neq) (.var 10) (.lit (.int .i64 1))) (.lit (.bool true)) (.b (.bin .neq) (.u .len (.var 9)) (.lit (.int .i64 0))))
          (.set 2 (.lit (.bool false))
          .ret)
          .nxt)
        (.exit 1))
        .nxt)
      (.seq
       (.both
        (.chk (.u (.lda 2) (.var 11))
        (.chk (.u .ld1 (.b (.idx 1) (.var 1) (.var 8)))
        (.eff false (some 13) (.alloc 35 [(.slice none 0 0), (.slice none 0 0)])
        (.call false (some 19) 18 (.cn (.u (.lda 2) (.var 11)) (.cn (.u .ld1 (.b (.idx 1) (.var 1) (.var 8))) .nl))
        (.chk (.u (.ext 0) (.var 19))
        (.chk (.u (.ext 1) (.var 19))
        (.set 12 (.u (.ext 0) (.var 19))
        (.eff false none (.st 2 (.var 13) (.u (.ext 1) (.var 19)))
        .nxt))))))))
        (.call false (some 19) 18 (.cn (.u (.lda 2) (.var 11)) (.cn (.u .ld1 (.b (.idx 1) (.var 1) (.var 8))) .nl))
        (.chk (.u (.ext 0) (.var 19))
        (.chk (.u (.ext 1) (.var 19))
        (.eff false (some 13) (.alloc 35 [(.slice none 0 0), (.slice none 0 0)])
        (.set 12 (.u (.ext 0) (.var 19))
        (.eff false none (.st 2 (.var 13) (.u (.ext 1) (.var 19)))
        .nxt)))))))
      (.chk (.ite (.b (.bin .neq) (.var 10) (.lit (.int .i64 0))) (.lit undef) (.var 12))
      (.seq
       (.ite (.b (.bin .neq) (.var 10) (.lit (.int .i64 0)))
        (.set 20 (.lit undef)
        (.set 25 (.lit undef)
        (.set 24 (.lit undef)
        (.set 27 (.lit undef)
        (.ite (.lit (.bool true))
         (.set 2 (.lit (.bool false))
         .ret)
         .nxt)))))
        (.call false (some 20) 19 (.cn (.var 9) (.cn (.var 12) .nl))
        (.set 25 (.ite (.u (.un .not) (.var 20)) (.lit undef) (.u .ld1 (.u (.fld 1) (.var 13))))
        (.ite (.u (.un .not) (.var 20))
         (.set 24 (.lit undef)
         (.set 27 (.lit undef)
         (.ite (.lit (.bool true))
          (.set 2 (.lit (.bool false))
          .ret)
          .nxt)))
         (.call true (some 24) 14 (.cn (.var 3) .nl)
         (.call false (some 27) 19 (.cn (.var 24) (.cn (.var 25) .nl))
         (.ite (.u (.un .not) (.var 27))
          (.set 2 (.lit (.bool false))
          .ret)
          .nxt)))))))
      (.eff false none (.st 2 (.var 11) (.u (.lda 2) (.var 13)))
      .nxt))))))))))))
    (.set 5 (.b (.bin .add) (.var 5) (.lit (.int .i64 1)))
    .nxt))))))
 (.set 22 (.u .ld1 (.u (.fld 1) (.var 11)))
 (.call true (some 21) 14 (.cn (.var 3) .nl)
 (.call false (some 26) 19 (.cn (.var 21) (.cn (.var 22) .nl))
 (.seq
  (.ite (.var 26)
   (.call false (some 28) 16 .nl
   (.set 2 (.var 28)
   .nxt))
   (.set 28 (.lit undef)
   (.set 2 (.lit (.bool false))
   .nxt)))
 .ret)))))))))))))))))))
def f_law11_ShareCarry : Fun := ⟨s_law11_ShareCarry, [(.var 2)]⟩
abbrev v_law11_ShareCarry : List Nat := [0, 1, 4, 5, 6, 45, 44, 46, 8, 9, 10, 7, 11, 12, 15, 19, 27, 42, 54, 82, 90, 104, 106, 33, 95, 97, 107, 98, 109]
theorem c_law11_ShareCarry : compF P Go.Proofs.Try.f4 v_law11_ShareCarry = some f_law11_ShareCarry := by kernel_rfl
theorem of_law11_ShareCarry {args : List Value} (hn : args.length ≤ 111) {h : Heap} {R : Value → Heap → Prop} (hs : s_law11_ShareCarry.wp P (f_law11_ShareCarry.post R) (env0 v_law11_ShareCarry args) h) : Runs P n_law11_ShareCarry args h R := fn_of P_mixed Go.Proofs.Try.func4 c_law11_ShareCarry (by rw [Go.Proofs.Try.ntmps4]; exact hn) hs
theorem vr_law11_ShareCarry {kp : Bool} {args : List A} {H : List Blk} {R : A → List Blk → Prop} (hlen : args.length ≤ 111) (hk : kp = false ∨ H = []) (hw : (∀ B ∈ H, A.bdL H.length B.cells = true) → A.bdL H.length args = true → s_law11_ShareCarry.aw P H.length (postA H.length f_law11_ShareCarry R) (envA v_law11_ShareCarry args) H) : VR P kp n_law11_ShareCarry args H R := VR.of (F := f_law11_ShareCarry) (V := v_law11_ShareCarry) of_law11_ShareCarry hlen hk fun h1 h2 => aw_sound (hw h1 h2)
theorem r_law11_ShareCarry : Fun.res f_law11_ShareCarry = [(.var 2)] := rfl
abbrev g_law11_ShareCarry_0 : List Nat := [2, 5, 7, 8, 9, 10, 12, 13, 18, 19, 20, 24, 25, 27]

/-- recycling/recyclinglaw11.ShareFollows -/
abbrev n_law11_ShareFollows : Nat := 5
def s_law11_ShareFollows : S :=
 (.set 2 (.lit (.bool false))
 (.call false (some 23) 12 (.cn (.var 0) .nl)
 (.chk (.u (.ext 0) (.var 23))
 (.chk (.u (.ext 1) (.var 23))
 (.set 3 (.u (.ext 0) (.var 23))
 (.set 4 (.u (.ext 1) (.var 23))
 (.call false (some 24) 11 (.cn (.var 0) .nl)
 (.seq
  (.ite (.ite (.b (.bin .neq) (.var 24) (.lit (.int .i64 0))) (.lit (.bool true)) (.b (.bin .gtr) (.u .len (.var 1)) (.lit (.int .i64 40))))
   (.call false (some 25) 11 (.cn (.var 0) .nl)
   (.seq
    (.ite (.b (.eqb false) (.b (.bin .eql) (.var 25) (.lit (.int .i64 0))) (.b (.bin .eql) (.var 4) (.lit (.int .i64 0))))
     (.call false (some 32) 16 .nl
     (.set 2 (.var 32)
     .nxt))
     (.set 32 (.lit undef)
     (.set 2 (.lit (.bool false))
     .nxt)))
   .ret))
   .nxt)
 (.seq
  (.ite (.ite (.b (.eqp false) (.var 3) (.lit (.pointer none))) (.lit (.bool true)) (.b (.bin .neq) (.var 4) (.lit (.int .i64 0))))
   (.set 2 (.lit (.bool false))
   .ret)
   .nxt)
 (.set 5 (.lit (.int .i64 0))
 (.eff false (some 26) (.mk 3 1 8 [(.int .i64 0)] (.u .len (.var 0)) (.u .len (.var 0)))
 (.set 6 (.var 26)
 (.set 8 (.u .len (.var 1))
 (.set 7 (.lit (.int .i64 0))
 (.seq
  (.blk 0
   (.loop
    (.set 9 (.b (.bin .lss) (.var 7) (.var 8))
    (.seq
     (.ite (.var 9)
      .nxt
      (.exit 0))
    (.seq
     (.blk 1
      (.set 10 (.var 7)
      (.set 11 (.b .mx (.lit (.int .i64 0)) (.b .mn (.u .ld1 (.b (.idx 1) (.var 1) (.var 10))) (.lit (.int .i64 1073741824))))
      (.call false (some 27) 13 (.cn (.var 3) (.cn (.var 11) .nl))
      (.chk (.u (.ext 0) (.var 27))
      (.chk (.u (.ext 1) (.var 27))
      (.set 12 (.u (.ext 0) (.var 27))
      (.set 13 (.u (.ext 1) (.var 27))
      (.chk (.ite (.ite (.b (.bin .neq) (.var 13) (.lit (.int .i64 0))) (.lit (.bool true)) (.b (.bin .neq) (.u .len (.var 12)) (.u .len (.var 0)))) (.lit undef) (.var 12))
      (.seq
       (.ite (.ite (.b (.bin .neq) (.var 13) (.lit (.int .i64 0))) (.lit (.bool true)) (.b (.bin .neq) (.u .len (.var 12)) (.u .len (.var 0))))
        (.set 28 (.lit undef)
        (.ite (.lit (.bool true))
         (.set 2 (.lit (.bool false))
         .ret)
         .nxt))
        (.call false (some 28) 15 (.cn (.var 12) .nl)
        (.ite (.b (.bin .neq) (.var 28) (.var 11))
         (.set 2 (.lit (.bool false))
         .ret)
         .nxt)))
      (.set 5 (.b (.bin .add) (.var 5) (.var 11))
      (.set 15 (.u .len (.var 12))
      (.set 14 (.lit (.int .i64 0))
      (.blk 2
       (.loop
        (.set 16 (.b (.bin .lss) (.var 14) (.var 15))
        (.seq
         (.ite (.var 16)
          .nxt
          (.exit 2))
        (.seq
         (.blk 3
          (.set 17 (.var 14)
          (.seq
           (.ite (.b (.bin .lss) (.u .ld1 (.b (.idx 1) (.var 12) (.var 17))) (.lit (.int .i64 0)))
            (.set 2 (.lit (.bool false))
            .ret)
            .nxt)
          (.eff false none (.st 1 (.b (.idx 1) (.var 6) (.var 17)) (.b (.bin .add) (.u .ld1 (.b (.idx 1) (.var 6) (.var 17))) (.u .ld1 (.b (.idx 1) (.var 12) (.var 17)))))
          .nxt))))
        (.set 14 (.b (.bin .add) (.var 14) (.lit (.int .i64 1)))
        .nxt)))))))))))))))))))
    (.set 7 (.b (.bin .add) (.var 7) (.lit (.int .i64 1)))
    .nxt))))))
 (.call false (some 29) 14 (.cn (.var 3) .nl)
 (.set 18 (.var 29)
 (.chk (.ite (.b (.bin .neq) (.u .len (.var 18)) (.u .len (.var 0))) (.lit undef) (.var 18))
 (.seq
  (.ite (.b (.bin .neq) (.u .len (.var 18)) (.u .len (.var 0)))
   (.set 30 (.lit undef)
   (.ite (.lit (.bool true))
    (.set 2 (.lit (.bool false))
    .ret)
    .nxt))
   (.call false (some 30) 15 (.cn (.var 18) .nl)
   (.ite (.b (.bin .neq) (.var 30) (.lit (.int .i64 0)))
    (.set 2 (.lit (.bool false))
    .ret)
    .nxt)))
 (.set 20 (.u .len (.var 18))
 (.set 19 (.lit (.int .i64 0))
 (.seq
  (.blk 4
   (.loop
    (.set 21 (.b (.bin .lss) (.var 19) (.var 20))
    (.seq
     (.ite (.var 21)
      .nxt
      (.exit 4))
    (.seq
     (.blk 5
      (.set 22 (.var 19)
      (.ite (.ite (.ite (.b (.bin .leq) (.u .ld1 (.b (.idx 1) (.var 18) (.var 22))) (.lit (.int .i64 (-1000)))) (.lit (.bool true)) (.b (.bin .neq) (.b (.bin .add) (.b (.bin .mul) (.lit (.int .i64 1000)) (.u .ld1 (.b (.idx 1) (.var 6) (.var 22)))) (.u .ld1 (.b (.idx 1) (.var 18) (.var 22)))) (.b (.bin .mul) (.u .ld1 (.b (.idx 1) (.var 0) (.var 22))) (.var 5)))) (.lit (.bool true)) (.ite (.b (.bin .eql) (.u .ld1 (.b (.idx 1) (.var 0) (.var 22))) (.lit (.int .i64 0))) (.b (.bin .neq) (.u .ld1 (.b (.idx 1) (.var 6) (.var 22))) (.lit (.int .i64 0))) (.lit (.bool false))))
       (.set 2 (.lit (.bool false))
       .ret)
       .nxt)))
    (.set 19 (.b (.bin .add) (.var 19) (.lit (.int .i64 1)))
    .nxt))))))
 (.call false (some 31) 16 .nl
 (.set 2 (.var 31)
 .ret))))))))))))))))))))))))
def f_law11_ShareFollows : Fun := ⟨s_law11_ShareFollows, [(.var 2)]⟩
abbrev v_law11_ShareFollows : List Nat := [0, 1, 4, 5, 6, 7, 8, 49, 48, 50, 9, 10, 11, 12, 84, 83, 85, 13, 14, 120, 119, 121, 15, 18, 22, 30, 46, 61, 75, 107, 115, 162, 36]
theorem c_law11_ShareFollows : compF P Go.Proofs.Try.f5 v_law11_ShareFollows = some f_law11_ShareFollows := by kernel_rfl
theorem of_law11_ShareFollows {args : List Value} (hn : args.length ≤ 163) {h : Heap} {R : Value → Heap → Prop} (hs : s_law11_ShareFollows.wp P (f_law11_ShareFollows.post R) (env0 v_law11_ShareFollows args) h) : Runs P n_law11_ShareFollows args h R := fn_of P_mixed Go.Proofs.Try.func5 c_law11_ShareFollows (by rw [Go.Proofs.Try.ntmps5]; exact hn) hs
theorem vr_law11_ShareFollows {kp : Bool} {args : List A} {H : List Blk} {R : A → List Blk → Prop} (hlen : args.length ≤ 163) (hk : kp = false ∨ H = []) (hw : (∀ B ∈ H, A.bdL H.length B.cells = true) → A.bdL H.length args = true → s_law11_ShareFollows.aw P H.length (postA H.length f_law11_ShareFollows R) (envA v_law11_ShareFollows args) H) : VR P kp n_law11_ShareFollows args H R := VR.of (F := f_law11_ShareFollows) (V := v_law11_ShareFollows) of_law11_ShareFollows hlen hk fun h1 h2 => aw_sound (hw h1 h2)
theorem r_law11_ShareFollows : Fun.res f_law11_ShareFollows = [(.var 2)] := rfl
abbrev g_law11_ShareFollows_0 : List Nat := [2, 5, 7, 9, 10, 11, 12, 13, 14, 15, 16, 17, 27, 28]
abbrev g_law11_ShareFollows_1 : List Nat := [2, 14, 16, 17]
abbrev g_law11_ShareFollows_2 : List Nat := [2, 19, 21, 22]

/-- recycling/recyclinglaw11.ShareExact -/
abbrev n_law11_ShareExact : Nat := 6
def s_law11_ShareExact : S :=
 (.set 2 (.lit (.bool false))
 (.chk (.ite (.ite (.b (.bin .lss) (.var 0) (.lit (.int .i64 0))) (.lit (.bool true)) (.b (.bin .gtr) (.var 0) (.lit (.int .i64 1073741824)))) (.lit undef) (.var 1))
 (.seq
  (.ite (.ite (.b (.bin .lss) (.var 0) (.lit (.int .i64 0))) (.lit (.bool true)) (.b (.bin .gtr) (.var 0) (.lit (.int .i64 1073741824))))
   (.set 11 (.lit undef)
   (.ite (.lit (.bool true))
    (.call false (some 12) 21 .nl
    (.set 2 (.var 12)
    .ret))
    .nxt))
   (.call false (some 11) 20 (.cn (.var 1) .nl)
   (.ite (.u (.un .not) (.var 11))
    (.call false (some 12) 21 .nl
    (.set 2 (.var 12)
    .ret))
    .nxt)))
 (.call false (some 13) 22 (.cn (.var 0) (.cn (.var 1) .nl))
 (.chk (.u (.ext 0) (.var 13))
 (.chk (.u (.ext 1) (.var 13))
 (.set 3 (.u (.ext 0) (.var 13))
 (.set 4 (.u (.ext 1) (.var 13))
 (.seq
  (.ite (.ite (.b (.bin .neq) (.var 4) (.lit (.int .i64 0))) (.lit (.bool true)) (.b (.bin .neq) (.u .len (.var 3)) (.u .len (.var 1))))
   (.set 2 (.lit (.bool false))
   .ret)
   .nxt)
 (.call false (some 14) 15 (.cn (.var 1) .nl)
 (.set 5 (.var 14)
 (.set 7 (.u .len (.var 3))
 (.set 6 (.lit (.int .i64 0))
 (.seq
  (.blk 0
   (.loop
    (.set 8 (.b (.bin .lss) (.var 6) (.var 7))
    (.seq
     (.ite (.var 8)
      .nxt
      (.exit 0))
    (.seq
     (.blk 1
      (.set 9 (.var 6)
      (.set 10 (.b (.bin .quo) (.b (.bin .mul) (.var 0) (.u .ld1 (.b (.idx 1) (.var 1) (.var 9)))) (.var 5))
      (.ite (.ite (.ite (.b (.bin .lss) (.u .ld1 (.b (.idx 1) (.var 3) (.var 9))) (.var 10)) (.lit (.bool true)) (.b (.bin .gtr) (.u .ld1 (.b (.idx 1) (.var 3) (.var 9))) (.b (.bin .add) (.var 10) (.lit (.int .i64 1))))) (.lit (.bool true)) (.ite (.b (.bin .eql) (.u .ld1 (.b (.idx 1) (.var 3) (.var 9))) (.b (.bin .add) (.var 10) (.lit (.int .i64 1)))) (.b (.bin .eql) (.b (.bin .rem) (.b (.bin .mul) (.var 0) (.u .ld1 (.b (.idx 1) (.var 1) (.var 9)))) (.var 5)) (.lit (.int .i64 0))) (.lit (.bool false))))
       (.set 2 (.lit (.bool false))
       .ret)
       .nxt))))
    (.set 6 (.b (.bin .add) (.var 6) (.lit (.int .i64 1)))
    .nxt))))))
 (.call false (some 15) 15 (.cn (.var 3) .nl)
 (.seq
  (.ite (.b (.bin .eql) (.var 15) (.var 0))
   (.call false (some 16) 21 .nl
   (.set 2 (.var 16)
   .nxt))
   (.set 16 (.lit undef)
   (.set 2 (.lit (.bool false))
   .nxt)))
 .ret))))))))))))))))
def f_law11_ShareExact : Fun := ⟨s_law11_ShareExact, [(.var 2)]⟩
abbrev v_law11_ShareExact : List Nat := [0, 1, 4, 5, 6, 7, 41, 40, 42, 8, 9, 18, 21, 25, 38, 89, 93]
theorem c_law11_ShareExact : compF P Go.Proofs.Try.f6 v_law11_ShareExact = some f_law11_ShareExact := by kernel_rfl
theorem of_law11_ShareExact {args : List Value} (hn : args.length ≤ 95) {h : Heap} {R : Value → Heap → Prop} (hs : s_law11_ShareExact.wp P (f_law11_ShareExact.post R) (env0 v_law11_ShareExact args) h) : Runs P n_law11_ShareExact args h R := fn_of P_mixed Go.Proofs.Try.func6 c_law11_ShareExact (by rw [Go.Proofs.Try.ntmps6]; exact hn) hs
theorem vr_law11_ShareExact {kp : Bool} {args : List A} {H : List Blk} {R : A → List Blk → Prop} (hlen : args.length ≤ 95) (hk : kp = false ∨ H = []) (hw : (∀ B ∈ H, A.bdL H.length B.cells = true) → A.bdL H.length args = true → s_law11_ShareExact.aw P H.length (postA H.length f_law11_ShareExact R) (envA v_law11_ShareExact args) H) : VR P kp n_law11_ShareExact args H R := VR.of (F := f_law11_ShareExact) (V := v_law11_ShareExact) of_law11_ShareExact hlen hk fun h1 h2 => aw_sound (hw h1 h2)
theorem r_law11_ShareExact : Fun.res f_law11_ShareExact = [(.var 2)] := rfl
abbrev g_law11_ShareExact_0 : List Nat := [2, 6, 8, 9, 10]

/-- recycling/recyclinglaw11.ShareSplit -/
abbrev n_law11_ShareSplit : Nat := 7
def s_law11_ShareSplit : S :=
 (.set 2 (.lit (.bool false))
 (.call false (some 7) 23 (.cn (.var 0) (.cn (.var 1) .nl))
 (.chk (.u (.ext 0) (.var 7))
 (.chk (.u (.ext 1) (.var 7))
 (.set 3 (.u (.ext 0) (.var 7))
 (.set 4 (.u (.ext 1) (.var 7))
 (.call false (some 8) 22 (.cn (.var 0) (.cn (.var 1) .nl))
 (.chk (.u (.ext 0) (.var 8))
 (.chk (.u (.ext 1) (.var 8))
 (.set 5 (.u (.ext 0) (.var 8))
 (.set 6 (.u (.ext 1) (.var 8))
 (.chk (.ite (.b (.bin .eql) (.var 4) (.var 6)) (.var 3) (.lit undef))
 (.seq
  (.ite (.b (.bin .eql) (.var 4) (.var 6))
   (.call false (some 9) 19 (.cn (.var 5) (.cn (.var 3) .nl))
   (.ite (.var 9)
    (.call false (some 10) 21 .nl
    (.set 2 (.var 10)
    .nxt))
    (.set 10 (.lit undef)
    (.set 2 (.lit (.bool false))
    .nxt))))
   (.set 9 (.lit undef)
   (.set 10 (.lit undef)
   (.set 2 (.lit (.bool false))
   .nxt))))
 .ret)))))))))))))
def f_law11_ShareSplit : Fun := ⟨s_law11_ShareSplit, [(.var 2)]⟩
abbrev v_law11_ShareSplit : List Nat := [0, 1, 4, 5, 6, 7, 8, 12, 18, 27, 30]
theorem c_law11_ShareSplit : compF P Go.Proofs.Try.f7 v_law11_ShareSplit = some f_law11_ShareSplit := by kernel_rfl
theorem of_law11_ShareSplit {args : List Value} (hn : args.length ≤ 32) {h : Heap} {R : Value → Heap → Prop} (hs : s_law11_ShareSplit.wp P (f_law11_ShareSplit.post R) (env0 v_law11_ShareSplit args) h) : Runs P n_law11_ShareSplit args h R := fn_of P_mixed Go.Proofs.Try.func7 c_law11_ShareSplit (by rw [Go.Proofs.Try.ntmps7]; exact hn) hs
theorem vr_law11_ShareSplit {kp : Bool} {args : List A} {H : List Blk} {R : A → List Blk → Prop} (hlen : args.length ≤ 32) (hk : kp = false ∨ H = []) (hw : (∀ B ∈ H, A.bdL H.length B.cells = true) → A.bdL H.length args = true → s_law11_ShareSplit.aw P H.length (postA H.length f_law11_ShareSplit R) (envA v_law11_ShareSplit args) H) : VR P kp n_law11_ShareSplit args H R := VR.of (F := f_law11_ShareSplit) (V := v_law11_ShareSplit) of_law11_ShareSplit hlen hk fun h1 h2 => aw_sound (hw h1 h2)
theorem r_law11_ShareSplit : Fun.res f_law11_ShareSplit = [(.var 2)] := rfl

/-- recycling/recyclinglaw11.ShareLargest -/
abbrev n_law11_ShareLargest : Nat := 8
def s_law11_ShareLargest : S :=
 (.set 4 (.lit (.bool false))
 (.chk (.ite (.ite (.b (.bin .lss) (.var 0) (.lit (.int .i64 0))) (.lit (.bool true)) (.b (.bin .gtr) (.var 0) (.lit (.int .i64 1073741824)))) (.lit undef) (.var 1))
 (.seq
  (.ite (.ite (.b (.bin .lss) (.var 0) (.lit (.int .i64 0))) (.lit (.bool true)) (.b (.bin .gtr) (.var 0) (.lit (.int .i64 1073741824))))
   (.set 11 (.lit undef)
   (.ite (.lit (.bool true))
    (.call false (some 12) 21 .nl
    (.set 4 (.var 12)
    .ret))
    .nxt))
   (.call false (some 11) 20 (.cn (.var 1) .nl)
   (.ite (.ite (.ite (.ite (.ite (.u (.un .not) (.var 11)) (.lit (.bool true)) (.b (.bin .lss) (.var 2) (.lit (.int .i64 0)))) (.lit (.bool true)) (.b (.bin .geq) (.var 2) (.u .len (.var 1)))) (.lit (.bool true)) (.b (.bin .lss) (.var 3) (.lit (.int .i64 0)))) (.lit (.bool true)) (.b (.bin .geq) (.var 3) (.u .len (.var 1))))
    (.call false (some 12) 21 .nl
    (.set 4 (.var 12)
    .ret))
    .nxt)))
 (.call false (some 13) 22 (.cn (.var 0) (.cn (.var 1) .nl))
 (.chk (.u (.ext 0) (.var 13))
 (.chk (.u (.ext 1) (.var 13))
 (.set 5 (.u (.ext 0) (.var 13))
 (.set 6 (.u (.ext 1) (.var 13))
 (.seq
  (.ite (.ite (.b (.bin .neq) (.var 6) (.lit (.int .i64 0))) (.lit (.bool true)) (.b (.bin .neq) (.u .len (.var 5)) (.u .len (.var 1))))
   (.set 4 (.lit (.bool false))
   .ret)
   .nxt)
 (.call false (some 14) 15 (.cn (.var 1) .nl)
 (.set 7 (.var 14)
 (.chk (.b (.bin .rem) (.b (.bin .mul) (.var 0) (.u .ld1 (.b (.idx 1) (.var 1) (.var 2)))) (.var 7))
 (.chk (.b (.bin .rem) (.b (.bin .mul) (.var 0) (.u .ld1 (.b (.idx 1) (.var 1) (.var 3)))) (.var 7))
 (.set 8 (.b (.bin .rem) (.b (.bin .mul) (.var 0) (.u .ld1 (.b (.idx 1) (.var 1) (.var 2)))) (.var 7))
 (.set 9 (.b (.bin .rem) (.b (.bin .mul) (.var 0) (.u .ld1 (.b (.idx 1) (.var 1) (.var 3)))) (.var 7))
 (.set 10 (.b (.bin .gtr) (.u .ld1 (.b (.idx 1) (.var 5) (.var 3))) (.b (.bin .quo) (.b (.bin .mul) (.var 0) (.u .ld1 (.b (.idx 1) (.var 1) (.var 3)))) (.var 7)))
 (.seq
  (.ite (.ite (.ite (.var 10) (.ite (.b (.bin .lss) (.var 9) (.var 8)) (.lit (.bool true)) (.ite (.b (.bin .eql) (.var 9) (.var 8)) (.b (.bin .lss) (.var 2) (.var 3)) (.lit (.bool false)))) (.lit (.bool false))) (.b (.bin .eql) (.u .ld1 (.b (.idx 1) (.var 5) (.var 2))) (.b (.bin .quo) (.b (.bin .mul) (.var 0) (.u .ld1 (.b (.idx 1) (.var 1) (.var 2)))) (.var 7))) (.lit (.bool false)))
   (.set 4 (.lit (.bool false))
   .ret)
   .nxt)
 (.call false (some 15) 21 .nl
 (.set 4 (.var 15)
 .ret)))))))))))))))))))
def f_law11_ShareLargest : Fun := ⟨s_law11_ShareLargest, [(.var 4)]⟩
abbrev v_law11_ShareLargest : List Nat := [0, 1, 2, 3, 8, 9, 10, 11, 12, 13, 14, 23, 46, 50, 63, 124]
theorem c_law11_ShareLargest : compF P Go.Proofs.Try.f8 v_law11_ShareLargest = some f_law11_ShareLargest := by kernel_rfl
theorem of_law11_ShareLargest {args : List Value} (hn : args.length ≤ 125) {h : Heap} {R : Value → Heap → Prop} (hs : s_law11_ShareLargest.wp P (f_law11_ShareLargest.post R) (env0 v_law11_ShareLargest args) h) : Runs P n_law11_ShareLargest args h R := fn_of P_mixed Go.Proofs.Try.func8 c_law11_ShareLargest (by rw [Go.Proofs.Try.ntmps8]; exact hn) hs
theorem vr_law11_ShareLargest {kp : Bool} {args : List A} {H : List Blk} {R : A → List Blk → Prop} (hlen : args.length ≤ 125) (hk : kp = false ∨ H = []) (hw : (∀ B ∈ H, A.bdL H.length B.cells = true) → A.bdL H.length args = true → s_law11_ShareLargest.aw P H.length (postA H.length f_law11_ShareLargest R) (envA v_law11_ShareLargest args) H) : VR P kp n_law11_ShareLargest args H R := VR.of (F := f_law11_ShareLargest) (V := v_law11_ShareLargest) of_law11_ShareLargest hlen hk fun h1 h2 => aw_sound (hw h1 h2)
theorem r_law11_ShareLargest : Fun.res f_law11_ShareLargest = [(.var 4)] := rfl

/-- recycling/recyclinglaw11.ShareFactor -/
abbrev n_law11_ShareFactor : Nat := 9
def s_law11_ShareFactor : S :=
 (.set 3 (.lit (.bool false))
 (.chk (.ite (.ite (.b (.bin .lss) (.var 0) (.lit (.int .i64 0))) (.lit (.bool true)) (.b (.bin .gtr) (.var 0) (.lit (.int .i64 70368744177664)))) (.lit undef) (.var 1))
 (.seq
  (.ite (.ite (.b (.bin .lss) (.var 0) (.lit (.int .i64 0))) (.lit (.bool true)) (.b (.bin .gtr) (.var 0) (.lit (.int .i64 70368744177664))))
   (.set 17 (.lit undef)
   (.ite (.lit (.bool true))
    (.call false (some 18) 21 .nl
    (.set 3 (.var 18)
    .ret))
    .nxt))
   (.call false (some 17) 20 (.cn (.var 1) .nl)
   (.ite (.ite (.ite (.u (.un .not) (.var 17)) (.lit (.bool true)) (.b (.bin .lss) (.var 2) (.lit (.int .i64 1)))) (.lit (.bool true)) (.b (.bin .gtr) (.var 2) (.lit (.int .i64 1000))))
    (.call false (some 18) 21 .nl
    (.set 3 (.var 18)
    .ret))
    .nxt)))
 (.set 4 (.lit (.slice none 0 0))
 (.set 6 (.u .len (.var 1))
 (.set 5 (.lit (.int .i64 0))
 (.seq
  (.blk 0
   (.loop
    (.set 7 (.b (.bin .lss) (.var 5) (.var 6))
    (.seq
     (.ite (.var 7)
      .nxt
      (.exit 0))
    (.seq
     (.blk 1
      (.set 8 (.var 5)
      (.eff false (some 19) (.lit 3 1 1 [(.int .i64 0)] (.pl 0 1 (.b (.bin .mul) (.u .ld1 (.b (.idx 1) (.var 1) (.var 8))) (.var 2)) .nl))
      (.eff false (some 24) (.app 3 1 8 [(.int .i64 0)] (.var 4) (.var 19))
      (.set 4 (.var 24)
      .nxt)))))
    (.set 5 (.b (.bin .add) (.var 5) (.lit (.int .i64 1)))
    .nxt))))))
 (.call false (some 20) 22 (.cn (.var 0) (.cn (.var 1) .nl))
 (.chk (.u (.ext 0) (.var 20))
 (.chk (.u (.ext 1) (.var 20))
 (.set 9 (.u (.ext 0) (.var 20))
 (.set 10 (.u (.ext 1) (.var 20))
 (.call false (some 21) 22 (.cn (.var 0) (.cn (.var 4) .nl))
 (.chk (.u (.ext 0) (.var 21))
 (.chk (.u (.ext 1) (.var 21))
 (.set 11 (.u (.ext 0) (.var 21))
 (.set 12 (.u (.ext 1) (.var 21))
 (.chk (.ite (.ite (.ite (.b (.bin .neq) (.var 10) (.lit (.int .i64 0))) (.lit (.bool true)) (.b (.bin .neq) (.var 12) (.lit (.int .i64 0)))) (.lit (.bool true)) (.b (.bin .neq) (.u .len (.var 9)) (.u .len (.var 1)))) (.lit undef) (.var 11))
 (.seq
  (.ite (.ite (.ite (.b (.bin .neq) (.var 10) (.lit (.int .i64 0))) (.lit (.bool true)) (.b (.bin .neq) (.var 12) (.lit (.int .i64 0)))) (.lit (.bool true)) (.b (.bin .neq) (.u .len (.var 9)) (.u .len (.var 1))))
   (.set 22 (.lit undef)
   (.ite (.lit (.bool true))
    (.set 3 (.lit (.bool false))
    .ret)
    .nxt))
   (.call false (some 22) 19 (.cn (.var 9) (.cn (.var 11) .nl))
   (.ite (.u (.un .not) (.var 22))
    (.set 3 (.lit (.bool false))
    .ret)
    .nxt)))
 (.set 14 (.u .len (.var 9))
 (.set 13 (.lit (.int .i64 0))
 (.seq
  (.blk 2
   (.loop
    (.set 15 (.b (.bin .lss) (.var 13) (.var 14))
    (.seq
     (.ite (.var 15)
      .nxt
      (.exit 2))
    (.seq
     (.blk 3
      (.set 16 (.var 13)
      (.ite (.ite (.b (.bin .eql) (.u .ld1 (.b (.idx 1) (.var 1) (.var 16))) (.lit (.int .i64 0))) (.b (.bin .neq) (.u .ld1 (.b (.idx 1) (.var 9) (.var 16))) (.lit (.int .i64 0))) (.lit (.bool false)))
       (.set 3 (.lit (.bool false))
       .ret)
       .nxt)))
    (.set 13 (.b (.bin .add) (.var 13) (.lit (.int .i64 1)))
    .nxt))))))
 (.call false (some 23) 21 .nl
 (.set 3 (.var 23)
 .ret))))))))))))))))))))))))
def f_law11_ShareFactor : Fun := ⟨s_law11_ShareFactor, [(.var 3)]⟩
abbrev v_law11_ShareFactor : List Nat := [0, 1, 2, 6, 7, 36, 35, 37, 8, 9, 10, 11, 12, 82, 81, 83, 13, 22, 33, 46, 52, 58, 77, 98, 47]
theorem c_law11_ShareFactor : compF P Go.Proofs.Try.f9 v_law11_ShareFactor = some f_law11_ShareFactor := by kernel_rfl
theorem of_law11_ShareFactor {args : List Value} (hn : args.length ≤ 99) {h : Heap} {R : Value → Heap → Prop} (hs : s_law11_ShareFactor.wp P (f_law11_ShareFactor.post R) (env0 v_law11_ShareFactor args) h) : Runs P n_law11_ShareFactor args h R := fn_of P_mixed Go.Proofs.Try.func9 c_law11_ShareFactor (by rw [Go.Proofs.Try.ntmps9]; exact hn) hs
theorem vr_law11_ShareFactor {kp : Bool} {args : List A} {H : List Blk} {R : A → List Blk → Prop} (hlen : args.length ≤ 99) (hk : kp = false ∨ H = []) (hw : (∀ B ∈ H, A.bdL H.length B.cells = true) → A.bdL H.length args = true → s_law11_ShareFactor.aw P H.length (postA H.length f_law11_ShareFactor R) (envA v_law11_ShareFactor args) H) : VR P kp n_law11_ShareFactor args H R := VR.of (F := f_law11_ShareFactor) (V := v_law11_ShareFactor) of_law11_ShareFactor hlen hk fun h1 h2 => aw_sound (hw h1 h2)
theorem r_law11_ShareFactor : Fun.res f_law11_ShareFactor = [(.var 3)] := rfl
abbrev g_law11_ShareFactor_0 : List Nat := [4, 5, 7, 8, 19, 24]
abbrev g_law11_ShareFactor_1 : List Nat := [3, 13, 15, 16]

/-- recycling/recyclinglaw11.ShareEven -/
abbrev n_law11_ShareEven : Nat := 10
def s_law11_ShareEven : S :=
 (.set 2 (.lit (.bool false))
 (.call false (some 13) 24 (.cn (.var 0) (.cn (.var 1) .nl))
 (.chk (.u (.ext 0) (.var 13))
 (.chk (.u (.ext 1) (.var 13))
 (.set 3 (.u (.ext 0) (.var 13))
 (.set 4 (.u (.ext 1) (.var 13))
 (.call false (some 14) 25 (.cn (.var 0) (.cn (.var 1) .nl))
 (.chk (.u (.ext 0) (.var 14))
 (.chk (.u (.ext 1) (.var 14))
 (.set 5 (.u (.ext 0) (.var 14))
 (.set 6 (.u (.ext 1) (.var 14))
 (.chk (.ite (.b (.bin .neq) (.var 4) (.var 6)) (.lit undef) (.var 3))
 (.seq
  (.ite (.b (.bin .neq) (.var 4) (.var 6))
   (.set 15 (.lit undef)
   (.ite (.lit (.bool true))
    (.set 2 (.lit (.bool false))
    .ret)
    .nxt))
   (.call false (some 15) 19 (.cn (.var 5) (.cn (.var 3) .nl))
   (.ite (.u (.un .not) (.var 15))
    (.set 2 (.lit (.bool false))
    .ret)
    .nxt)))
 (.seq
  (.ite (.b (.bin .neq) (.var 4) (.lit (.int .i64 0)))
   (.call false (some 16) 21 .nl
   (.set 2 (.var 16)
   .ret))
   .nxt)
 (.set 7 (.lit (.slice none 0 0))
 (.set 9 (.var 1)
 (.set 8 (.lit (.int .i64 0))
 (.seq
  (.blk 0
   (.loop
    (.set 10 (.b (.bin .lss) (.var 8) (.var 9))
    (.seq
     (.ite (.var 10)
      .nxt
      (.exit 0))
    (.seq
     (.blk 1
      (.eff false (some 17) (.lit 3 1 1 [(.int .i64 0)] (.pl 0 1 (.lit (.int .i64 1)) .nl))
      (.eff false (some 20) (.app 3 1 8 [(.int .i64 0)] (.var 7) (.var 17))
      (.set 7 (.var 20)
      .nxt))))
    (.set 8 (.b (.bin .add) (.var 8) (.lit (.int .i64 1)))
    .nxt))))))
 (.call false (some 18) 22 (.cn (.var 0) (.cn (.var 7) .nl))
 (.chk (.u (.ext 0) (.var 18))
 (.chk (.u (.ext 1) (.var 18))
 (.set 11 (.u (.ext 0) (.var 18))
 (.set 12 (.u (.ext 1) (.var 18))
 (.chk (.ite (.b (.bin .eql) (.var 12) (.lit (.int .i64 0))) (.var 3) (.lit undef))
 (.seq
  (.ite (.b (.bin .eql) (.var 12) (.lit (.int .i64 0)))
   (.call false (some 19) 19 (.cn (.var 11) (.cn (.var 3) .nl))
   (.ite (.var 19)
    (.call false (some 21) 21 .nl
    (.set 2 (.var 21)
    .nxt))
    (.set 21 (.lit undef)
    (.set 2 (.lit (.bool false))
    .nxt))))
   (.set 19 (.lit undef)
   (.set 21 (.lit undef)
   (.set 2 (.lit (.bool false))
   .nxt))))
 .ret)))))))))))))))))))))))))
def f_law11_ShareEven : Fun := ⟨s_law11_ShareEven, [(.var 2)]⟩
abbrev v_law11_ShareEven : List Nat := [0, 1, 4, 5, 6, 7, 8, 9, 37, 36, 38, 10, 11, 15, 21, 30, 35, 40, 46, 54, 41, 57]
theorem c_law11_ShareEven : compF P Go.Proofs.Try.f10 v_law11_ShareEven = some f_law11_ShareEven := by kernel_rfl
theorem of_law11_ShareEven {args : List Value} (hn : args.length ≤ 59) {h : Heap} {R : Value → Heap → Prop} (hs : s_law11_ShareEven.wp P (f_law11_ShareEven.post R) (env0 v_law11_ShareEven args) h) : Runs P n_law11_ShareEven args h R := fn_of P_mixed Go.Proofs.Try.func10 c_law11_ShareEven (by rw [Go.Proofs.Try.ntmps10]; exact hn) hs
theorem vr_law11_ShareEven {kp : Bool} {args : List A} {H : List Blk} {R : A → List Blk → Prop} (hlen : args.length ≤ 59) (hk : kp = false ∨ H = []) (hw : (∀ B ∈ H, A.bdL H.length B.cells = true) → A.bdL H.length args = true → s_law11_ShareEven.aw P H.length (postA H.length f_law11_ShareEven R) (envA v_law11_ShareEven args) H) : VR P kp n_law11_ShareEven args H R := VR.of (F := f_law11_ShareEven) (V := v_law11_ShareEven) of_law11_ShareEven hlen hk fun h1 h2 => aw_sound (hw h1 h2)
theorem r_law11_ShareEven : Fun.res f_law11_ShareEven = [(.var 2)] := rfl
abbrev g_law11_ShareEven_0 : List Nat := [7, 8, 10, 17, 20]

/-- recycling/recyclingref11.Check -/
abbrev n_ref11_Check : Nat := 11
def s_ref11_Check : S :=
 (.set 1 (.lit (.int .i64 0))
 (.seq
  (.ite (.ite (.b (.bin .lss) (.u .len (.var 0)) (.lit (.int .i64 1))) (.lit (.bool true)) (.b (.bin .gtr) (.u .len (.var 0)) (.lit (.int .i64 4))))
   (.set 1 (.lit (.int .i64 1))
   .ret)
   .nxt)
 (.set 2 (.lit (.int .i64 0))
 (.set 3 (.lit (.int .i64 0))
 (.seq
  (.blk 0
   (.loop
    (.seq
     (.ite (.b (.bin .lss) (.var 3) (.u .len (.var 0)))
      .nxt
      (.exit 0))
    (.seq
     (.blk 1
      (.seq
       (.ite (.ite (.b (.bin .lss) (.u .ld1 (.b (.idx 1) (.var 0) (.var 3))) (.lit (.int .i64 0))) (.lit (.bool true)) (.b (.bin .gtr) (.u .ld1 (.b (.idx 1) (.var 0) (.var 3))) (.lit (.int .i64 1000))))
        (.set 1 (.lit (.int .i64 1))
        .ret)
        .nxt)
      (.set 2 (.b (.bin .add) (.var 2) (.u .ld1 (.b (.idx 1) (.var 0) (.var 3))))
      .nxt)))
    (.set 3 (.b (.bin .add) (.var 3) (.lit (.int .i64 1)))
    .nxt)))))
 (.seq
  (.ite (.b (.bin .neq) (.var 2) (.lit (.int .i64 1000)))
   (.set 1 (.lit (.int .i64 17))
   .ret)
   .nxt)
 (.set 1 (.lit (.int .i64 0))
 .ret)))))))
def f_ref11_Check : Fun := ⟨s_ref11_Check, [(.var 1)]⟩
abbrev v_ref11_Check : List Nat := [0, 2, 3, 4]
theorem c_ref11_Check : compF P Go.Proofs.Try.f11 v_ref11_Check = some f_ref11_Check := by kernel_rfl
theorem of_ref11_Check {args : List Value} (hn : args.length ≤ 39) {h : Heap} {R : Value → Heap → Prop} (hs : s_ref11_Check.wp P (f_ref11_Check.post R) (env0 v_ref11_Check args) h) : Runs P n_ref11_Check args h R := fn_of P_mixed Go.Proofs.Try.func11 c_ref11_Check (by rw [Go.Proofs.Try.ntmps11]; exact hn) hs
theorem vr_ref11_Check {kp : Bool} {args : List A} {H : List Blk} {R : A → List Blk → Prop} (hlen : args.length ≤ 39) (hk : kp = false ∨ H = []) (hw : (∀ B ∈ H, A.bdL H.length B.cells = true) → A.bdL H.length args = true → s_ref11_Check.aw P H.length (postA H.length f_ref11_Check R) (envA v_ref11_Check args) H) : VR P kp n_ref11_Check args H R := VR.of (F := f_ref11_Check) (V := v_ref11_Check) of_ref11_Check hlen hk fun h1 h2 => aw_sound (hw h1 h2)
theorem r_ref11_Check : Fun.res f_ref11_Check = [(.var 1)] := rfl
abbrev g_ref11_Check_0 : List Nat := [1, 2, 3]

/-- recycling/share.New -/
abbrev n_share_New : Nat := 12
def s_share_New : S :=
 (.set 1 (.lit (.pointer none))
 (.set 2 (.lit (.int .i64 0))
 (.seq
  (.ite (.ite (.b (.bin .lss) (.u .len (.var 0)) (.lit (.int .i64 1))) (.lit (.bool true)) (.b (.bin .gtr) (.u .len (.var 0)) (.lit (.int .i64 4))))
   (.set 1 (.lit (.pointer none))
   (.set 2 (.lit (.int .i64 1))
   .ret))
   .nxt)
 (.chk (.bld (List.replicate 9 (.int .i64 0)) (.pl 0 1 (.u .len (.var 0)) .nl))
 (.eff false (some 11) (.box 49 (.bld (List.replicate 9 (.int .i64 0)) (.pl 0 1 (.u .len (.var 0)) .nl)))
 (.set 3 (.var 11)
 (.set 4 (.lit (.int .i64 0))
 (.set 8 (.var 0)
 (.set 6 (.u .len (.var 8))
 (.set 5 (.lit (.int .i64 0))
 (.seq
  (.blk 0
   (.loop
    (.set 7 (.b (.bin .lss) (.var 5) (.var 6))
    (.seq
     (.ite (.var 7)
      .nxt
      (.exit 0))
    (.seq
     (.blk 1
      (.chk (.u .ld1 (.b (.idx 1) (.var 8) (.var 5)))
      (.set 9 (.var 5)
      (.set 10 (.u .ld1 (.b (.idx 1) (.var 8) (.var 5)))
      (.seq
       (.ite (.ite (.b (.bin .lss) (.var 10) (.lit (.int .i64 0))) (.lit (.bool true)) (.b (.bin .gtr) (.var 10) (.lit (.int .i64 1000))))
        (.set 1 (.lit (.pointer none))
        (.set 2 (.lit (.int .i64 1))
        .ret))
        .nxt)
      (.eff false none (.st 1 (.b (.idxa 4 1) (.u (.fld 1) (.u .nilc (.var 3))) (.var 9)) (.var 10))
      (.set 4 (.b (.bin .add) (.var 4) (.var 10))
      .nxt)))))))
    (.set 5 (.b (.bin .add) (.var 5) (.lit (.int .i64 1)))
    .nxt))))))
 (.seq
  (.ite (.b (.bin .neq) (.var 4) (.lit (.int .i64 1000)))
   (.set 1 (.lit (.pointer none))
   (.set 2 (.lit (.int .i64 17))
   .ret))
   .nxt)
 (.set 1 (.var 3)
 (.set 2 (.lit (.int .i64 0))
 .ret))))))))))))))
def f_share_New : Fun := ⟨s_share_New, [(.var 1), (.var 2)]⟩
abbrev v_share_New : List Nat := [0, 2, 3, 4, 5, 22, 21, 23, 20, 6, 7, 19]
theorem c_share_New : compF P Go.Proofs.Try.f12 v_share_New = some f_share_New := by kernel_rfl
theorem of_share_New {args : List Value} (hn : args.length ≤ 46) {h : Heap} {R : Value → Heap → Prop} (hs : s_share_New.wp P (f_share_New.post R) (env0 v_share_New args) h) : Runs P n_share_New args h R := fn_of P_mixed Go.Proofs.Try.func12 c_share_New (by rw [Go.Proofs.Try.ntmps12]; exact hn) hs
theorem vr_share_New {kp : Bool} {args : List A} {H : List Blk} {R : A → List Blk → Prop} (hlen : args.length ≤ 46) (hk : kp = false ∨ H = []) (hw : (∀ B ∈ H, A.bdL H.length B.cells = true) → A.bdL H.length args = true → s_share_New.aw P H.length (postA H.length f_share_New R) (envA v_share_New args) H) : VR P kp n_share_New args H R := VR.of (F := f_share_New) (V := v_share_New) of_share_New hlen hk fun h1 h2 => aw_sound (hw h1 h2)
theorem r_share_New : Fun.res f_share_New = [(.var 1), (.var 2)] := rfl
abbrev g_share_New_0 : List Nat := [1, 2, 4, 5, 7, 9, 10]

/-- (*recycling/share.Carry).Next -/
abbrev n_share_Carry_Next : Nat := 13
def s_share_Carry_Next : S :=
 (.set 2 (.lit (.slice none 0 0))
 (.set 3 (.lit (.int .i64 0))
 (.seq
  (.ite (.b (.eqp false) (.var 0) (.lit (.pointer none)))
   (.set 2 (.lit (.slice none 0 0))
   (.set 3 (.lit (.int .i64 14))
   .ret))
   .nxt)
 (.seq
  (.ite (.ite (.b (.bin .lss) (.var 1) (.lit (.int .i64 0))) (.lit (.bool true)) (.b (.bin .gtr) (.var 1) (.lit (.int .i64 1073741824))))
   (.set 2 (.lit (.slice none 0 0))
   (.set 3 (.lit (.int .i64 1))
   .ret))
   .nxt)
 (.eff false (some 17) (.mk 3 1 8 [(.int .i64 0)] (.u .ld1 (.u (.fld 0) (.u .nilc (.var 0)))) (.u .ld1 (.u (.fld 0) (.u .nilc (.var 0)))))
 (.set 4 (.var 17)
 (.set 6 (.u .len (.var 4))
 (.set 5 (.lit (.int .i64 0))
 (.seq
  (.blk 0
   (.loop
    (.set 7 (.b (.bin .lss) (.var 5) (.var 6))
    (.seq
     (.ite (.var 7)
      .nxt
      (.exit 0))
    (.seq
     (.blk 1
      (.set 8 (.var 5)
      (.eff false none (.st 1 (.b (.idx 1) (.var 4) (.var 8)) (.b (.bin .mul) (.b (.bin .quo) (.var 1) (.lit (.int .i64 1000))) (.u .ld1 (.b (.idxa 4 1) (.u (.fld 1) (.u .nilc (.var 0))) (.var 8)))))
      .nxt)))
    (.set 5 (.b (.bin .add) (.var 5) (.lit (.int .i64 1)))
    .nxt))))))
 (.set 10 (.b (.bin .rem) (.var 1) (.lit (.int .i64 1000)))
 (.set 9 (.lit (.int .i64 0))
 (.seq
  (.blk 2
   (.loop
    (.set 11 (.b (.bin .lss) (.var 9) (.var 10))
    (.seq
     (.ite (.var 11)
      .nxt
      (.exit 2))
    (.seq
     (.blk 3
      (.set 12 (.lit (.int .i64 0))
      (.set 14 (.u .ld1 (.u (.fld 0) (.u .nilc (.var 0))))
      (.set 13 (.lit (.int .i64 0))
      (.seq
       (.blk 4
        (.loop
         (.set 15 (.b (.bin .lss) (.var 13) (.var 14))
         (.seq
          (.ite (.var 15)
           .nxt
           (.exit 4))
         (.seq
          (.blk 5
           (.set 16 (.var 13)
           (.eff false none (.st 1 (.b (.idxa 4 1) (.u (.fld 5) (.u .nilc (.var 0))) (.var 16)) (.b (.bin .add) (.u .ld1 (.b (.idxa 4 1) (.u (.fld 5) (.u .nilc (.var 0))) (.var 16))) (.u .ld1 (.b (.idxa 4 1) (.u (.fld 1) (.u .nilc (.var 0))) (.var 16)))))
           (.ite (.b (.bin .gtr) (.u .ld1 (.b (.idxa 4 1) (.u (.fld 5) (.u .nilc (.var 0))) (.var 16))) (.u .ld1 (.b (.idxa 4 1) (.u (.fld 5) (.u .nilc (.var 0))) (.var 12))))
            (.set 12 (.var 16)
            .nxt)
            .nxt))))
         (.set 13 (.b (.bin .add) (.var 13) (.lit (.int .i64 1)))
         .nxt))))))
      (.eff false none (.st 1 (.b (.idx 1) (.var 4) (.var 12)) (.b (.bin .add) (.u .ld1 (.b (.idx 1) (.var 4) (.var 12))) (.lit (.int .i64 1))))
      (.eff false none (.st 1 (.b (.idxa 4 1) (.u (.fld 5) (.u .nilc (.var 0))) (.var 12)) (.b (.bin .sub) (.u .ld1 (.b (.idxa 4 1) (.u (.fld 5) (.u .nilc (.var 0))) (.var 12))) (.lit (.int .i64 1000))))
      .nxt)))))))
    (.set 9 (.b (.bin .add) (.var 9) (.lit (.int .i64 1)))
    .nxt))))))
 (.set 2 (.var 4)
 (.set 3 (.lit (.int .i64 0))
 .ret))))))))))))))
def f_share_Carry_Next : Fun := ⟨s_share_Carry_Next, [(.var 2), (.var 3)]⟩
abbrev v_share_Carry_Next : List Nat := [0, 1, 4, 5, 6, 25, 24, 26, 7, 43, 42, 44, 8, 49, 48, 50, 9, 22]
theorem c_share_Carry_Next : compF P Go.Proofs.Try.f13 v_share_Carry_Next = some f_share_Carry_Next := by kernel_rfl
theorem of_share_Carry_Next {args : List Value} (hn : args.length ≤ 101) {h : Heap} {R : Value → Heap → Prop} (hs : s_share_Carry_Next.wp P (f_share_Carry_Next.post R) (env0 v_share_Carry_Next args) h) : Runs P n_share_Carry_Next args h R := fn_of P_mixed Go.Proofs.Try.func13 c_share_Carry_Next (by rw [Go.Proofs.Try.ntmps13]; exact hn) hs
theorem vr_share_Carry_Next {kp : Bool} {args : List A} {H : List Blk} {R : A → List Blk → Prop} (hlen : args.length ≤ 101) (hk : kp = false ∨ H = []) (hw : (∀ B ∈ H, A.bdL H.length B.cells = true) → A.bdL H.length args = true → s_share_Carry_Next.aw P H.length (postA H.length f_share_Carry_Next R) (envA v_share_Carry_Next args) H) : VR P kp n_share_Carry_Next args H R := VR.of (F := f_share_Carry_Next) (V := v_share_Carry_Next) of_share_Carry_Next hlen hk fun h1 h2 => aw_sound (hw h1 h2)
theorem r_share_Carry_Next : Fun.res f_share_Carry_Next = [(.var 2), (.var 3)] := rfl
abbrev g_share_Carry_Next_0 : List Nat := [5, 7, 8]
abbrev g_share_Carry_Next_1 : List Nat := [9, 11, 12, 13, 14, 15, 16]
abbrev g_share_Carry_Next_2 : List Nat := [12, 13, 15, 16]

/-- (*recycling/share.Carry).Owed -/
abbrev n_share_Carry_Owed : Nat := 14
def s_share_Carry_Owed : S :=
 (.set 1 (.lit (.slice none 0 0))
 (.seq
  (.ite (.b (.eqp false) (.var 0) (.lit (.pointer none)))
   (.set 1 (.lit (.slice none 0 0))
   .ret)
   .nxt)
 (.chk (.slc (some 4) 1 (.u (.fld 5) (.u .nilc (.var 0))) (.lit (.int .i64 0)) (.u .ld1 (.u (.fld 0) (.u .nilc (.var 0)))) .nl)
 (.call false (some 2) 26 (.cn (.slc (some 4) 1 (.u (.fld 5) (.u .nilc (.var 0))) (.lit (.int .i64 0)) (.u .ld1 (.u (.fld 0) (.u .nilc (.var 0)))) .nl) .nl)
 (.set 1 (.var 2)
 .ret)))))
def f_share_Carry_Owed : Fun := ⟨s_share_Carry_Owed, [(.var 1)]⟩
abbrev v_share_Carry_Owed : List Nat := [0, 2, 13]
theorem c_share_Carry_Owed : compF P Go.Proofs.Try.f14 v_share_Carry_Owed = some f_share_Carry_Owed := by kernel_rfl
theorem of_share_Carry_Owed {args : List Value} (hn : args.length ≤ 14) {h : Heap} {R : Value → Heap → Prop} (hs : s_share_Carry_Owed.wp P (f_share_Carry_Owed.post R) (env0 v_share_Carry_Owed args) h) : Runs P n_share_Carry_Owed args h R := fn_of P_mixed Go.Proofs.Try.func14 c_share_Carry_Owed (by rw [Go.Proofs.Try.ntmps14]; exact hn) hs
theorem vr_share_Carry_Owed {kp : Bool} {args : List A} {H : List Blk} {R : A → List Blk → Prop} (hlen : args.length ≤ 14) (hk : kp = false ∨ H = []) (hw : (∀ B ∈ H, A.bdL H.length B.cells = true) → A.bdL H.length args = true → s_share_Carry_Owed.aw P H.length (postA H.length f_share_Carry_Owed R) (envA v_share_Carry_Owed args) H) : VR P kp n_share_Carry_Owed args H R := VR.of (F := f_share_Carry_Owed) (V := v_share_Carry_Owed) of_share_Carry_Owed hlen hk fun h1 h2 => aw_sound (hw h1 h2)
theorem r_share_Carry_Owed : Fun.res f_share_Carry_Owed = [(.var 1)] := rfl

/-- recycling/recyclingref11.Total -/
abbrev n_ref11_Total : Nat := 15
def s_ref11_Total : S :=
 (.set 1 (.lit (.int .i64 0))
 (.set 2 (.lit (.int .i64 0))
 (.set 3 (.lit (.int .i64 0))
 (.seq
  (.blk 0
   (.loop
    (.seq
     (.ite (.b (.bin .lss) (.var 3) (.u .len (.var 0)))
      .nxt
      (.exit 0))
    (.seq
     (.blk 1
      (.set 2 (.b (.bin .add) (.var 2) (.u .ld1 (.b (.idx 1) (.var 0) (.var 3))))
      .nxt))
    (.set 3 (.b (.bin .add) (.var 3) (.lit (.int .i64 1)))
    .nxt)))))
 (.set 1 (.var 2)
 .ret)))))
def f_ref11_Total : Fun := ⟨s_ref11_Total, [(.var 1)]⟩
abbrev v_ref11_Total : List Nat := [0, 2, 3, 4]
theorem c_ref11_Total : compF P Go.Proofs.Try.f15 v_ref11_Total = some f_ref11_Total := by kernel_rfl
theorem of_ref11_Total {args : List Value} (hn : args.length ≤ 18) {h : Heap} {R : Value → Heap → Prop} (hs : s_ref11_Total.wp P (f_ref11_Total.post R) (env0 v_ref11_Total args) h) : Runs P n_ref11_Total args h R := fn_of P_mixed Go.Proofs.Try.func15 c_ref11_Total (by rw [Go.Proofs.Try.ntmps15]; exact hn) hs
theorem vr_ref11_Total {kp : Bool} {args : List A} {H : List Blk} {R : A → List Blk → Prop} (hlen : args.length ≤ 18) (hk : kp = false ∨ H = []) (hw : (∀ B ∈ H, A.bdL H.length B.cells = true) → A.bdL H.length args = true → s_ref11_Total.aw P H.length (postA H.length f_ref11_Total R) (envA v_ref11_Total args) H) : VR P kp n_ref11_Total args H R := VR.of (F := f_ref11_Total) (V := v_ref11_Total) of_ref11_Total hlen hk fun h1 h2 => aw_sound (hw h1 h2)
theorem r_ref11_Total : Fun.res f_ref11_Total = [(.var 1)] := rfl
abbrev g_ref11_Total_0 : List Nat := [2, 3]

/-- recycling/recyclinglaw11.carries -/
abbrev n_law11_carries : Nat := 16
def s_law11_carries : S :=
 (.set 0 (.lit (.bool false))
 (.eff false (some 7) (.lit 3 1 2 [(.int .i64 0)] (.pl 0 1 (.lit (.int .i64 300)) (.pl 1 1 (.lit (.int .i64 700)) .nl)))
 (.call false (some 11) 12 (.cn (.var 7) .nl)
 (.chk (.u (.ext 0) (.var 11))
 (.chk (.u (.ext 1) (.var 11))
 (.set 1 (.u (.ext 0) (.var 11))
 (.set 2 (.u (.ext 1) (.var 11))
 (.seq
  (.ite (.ite (.b (.eqp false) (.var 1) (.lit (.pointer none))) (.lit (.bool true)) (.b (.bin .neq) (.var 2) (.lit (.int .i64 0))))
   (.set 0 (.lit (.bool false))
   .ret)
   .nxt)
 (.call false (some 8) 13 (.cn (.var 1) (.cn (.lit (.int .i64 1)) .nl))
 (.chk (.u (.ext 0) (.var 8))
 (.chk (.u (.ext 1) (.var 8))
 (.set 3 (.u (.ext 0) (.var 8))
 (.set 4 (.u (.ext 1) (.var 8))
 (.call false (some 9) 13 (.cn (.var 1) (.cn (.lit (.int .i64 1)) .nl))
 (.chk (.u (.ext 0) (.var 9))
 (.chk (.u (.ext 1) (.var 9))
 (.set 5 (.u (.ext 0) (.var 9))
 (.set 6 (.u (.ext 1) (.var 9))
 (.chk (.ite (.ite (.b (.bin .eql) (.var 4) (.lit (.int .i64 0))) (.b (.bin .eql) (.var 6) (.lit (.int .i64 0))) (.lit (.bool false))) (.var 3) (.lit undef))
 (.seq
  (.ite (.ite (.b (.bin .eql) (.var 4) (.lit (.int .i64 0))) (.b (.bin .eql) (.var 6) (.lit (.int .i64 0))) (.lit (.bool false)))
   (.eff false (some 10) (.lit 3 1 2 [(.int .i64 0)] (.pl 0 1 (.lit (.int .i64 0)) (.pl 1 1 (.lit (.int .i64 1)) .nl)))
   (.call false (some 12) 19 (.cn (.var 3) (.cn (.var 10) .nl))
   (.chk (.ite (.var 12) (.var 5) (.lit undef))
   (.ite (.var 12)
    (.eff false (some 13) (.lit 3 1 2 [(.int .i64 0)] (.pl 0 1 (.lit (.int .i64 1)) (.pl 1 1 (.lit (.int .i64 0)) .nl)))
    (.call false (some 14) 19 (.cn (.var 5) (.cn (.var 13) .nl))
    (.set 0 (.var 14)
    .nxt)))
    (.set 13 (.lit undef)
    (.set 14 (.lit undef)
    (.set 0 (.lit (.bool false))
    .nxt)))))))
   (.set 10 (.lit undef)
   (.set 12 (.lit undef)
   (.set 13 (.lit undef)
   (.set 14 (.lit undef)
   (.set 0 (.lit (.bool false))
   .nxt))))))
 .ret))))))))))))))))))))
def f_law11_carries : Fun := ⟨s_law11_carries, [(.var 0)]⟩
abbrev v_law11_carries : List Nat := [0, 1, 2, 3, 4, 5, 6, 8, 20, 25, 36, 9, 37, 41, 42]
theorem c_law11_carries : compF P Go.Proofs.Try.f16 v_law11_carries = some f_law11_carries := by kernel_rfl
theorem of_law11_carries {args : List Value} (hn : args.length ≤ 44) {h : Heap} {R : Value → Heap → Prop} (hs : s_law11_carries.wp P (f_law11_carries.post R) (env0 v_law11_carries args) h) : Runs P n_law11_carries args h R := fn_of P_mixed Go.Proofs.Try.func16 c_law11_carries (by rw [Go.Proofs.Try.ntmps16]; exact hn) hs
theorem vr_law11_carries {kp : Bool} {args : List A} {H : List Blk} {R : A → List Blk → Prop} (hlen : args.length ≤ 44) (hk : kp = false ∨ H = []) (hw : (∀ B ∈ H, A.bdL H.length B.cells = true) → A.bdL H.length args = true → s_law11_carries.aw P H.length (postA H.length f_law11_carries R) (envA v_law11_carries args) H) : VR P kp n_law11_carries args H R := VR.of (F := f_law11_carries) (V := v_law11_carries) of_law11_carries hlen hk fun h1 h2 => aw_sound (hw h1 h2)
theorem r_law11_carries : Fun.res f_law11_carries = [(.var 0)] := rfl

/-- recycling/recyclingref11.Start -/
abbrev n_ref11_Start : Nat := 17
def s_ref11_Start : S :=
 (.eff false (some 1) (.alloc 35 [(.slice none 0 0), (.slice none 0 0)])
 (.chk (.bld [(.slice none 0 0), (.slice none 0 0)] .nl)
 (.eff false (some 3) (.alloc 35 [(.slice none 0 0), (.slice none 0 0)])
 (.eff false none (.st 2 (.var 3) (.bld [(.slice none 0 0), (.slice none 0 0)] .nl))
 (.set 2 (.lit (.int .i64 0))
 (.seq
  (.blk 0
   (.loop
    (.seq
     (.ite (.b (.bin .lss) (.var 2) (.u .len (.var 0)))
      .nxt
      (.exit 0))
    (.seq
     (.blk 1
      (.chk (.u .ld1 (.u (.fld 0) (.var 3)))
      (.eff false (some 4) (.lit 3 1 1 [(.int .i64 0)] (.pl 0 1 (.u .ld1 (.b (.idx 1) (.var 0) (.var 2))) .nl))
      (.eff false (some 6) (.app 3 1 8 [(.int .i64 0)] (.u .ld1 (.u (.fld 0) (.var 3))) (.var 4))
      (.eff false none (.st 1 (.u (.fld 0) (.var 3)) (.var 6))
      (.chk (.u .ld1 (.u (.fld 1) (.var 3)))
      (.eff false (some 5) (.lit 3 1 1 [(.int .i64 0)] (.pl 0 1 (.lit (.int .i64 0)) .nl))
      (.eff false (some 7) (.app 3 1 8 [(.int .i64 0)] (.u .ld1 (.u (.fld 1) (.var 3))) (.var 5))
      (.eff false none (.st 1 (.u (.fld 1) (.var 3)) (.var 7))
      .nxt)))))))))
    (.set 2 (.b (.bin .add) (.var 2) (.lit (.int .i64 1)))
    .nxt)))))
 (.eff false none (.st 2 (.var 1) (.u (.lda 2) (.var 3)))
 .ret)))))))
def f_ref11_Start : Fun := ⟨s_ref11_Start, [(.u (.lda 2) (.var 1))]⟩
abbrev v_ref11_Start : List Nat := [0, 2, 4, 3, 18, 23, 19, 24]
theorem c_ref11_Start : compF P Go.Proofs.Try.f17 v_ref11_Start = some f_ref11_Start := by kernel_rfl
theorem of_ref11_Start {args : List Value} (hn : args.length ≤ 27) {h : Heap} {R : Value → Heap → Prop} (hs : s_ref11_Start.wp P (f_ref11_Start.post R) (env0 v_ref11_Start args) h) : Runs P n_ref11_Start args h R := fn_of P_mixed Go.Proofs.Try.func17 c_ref11_Start (by rw [Go.Proofs.Try.ntmps17]; exact hn) hs
theorem vr_ref11_Start {kp : Bool} {args : List A} {H : List Blk} {R : A → List Blk → Prop} (hlen : args.length ≤ 27) (hk : kp = false ∨ H = []) (hw : (∀ B ∈ H, A.bdL H.length B.cells = true) → A.bdL H.length args = true → s_ref11_Start.aw P H.length (postA H.length f_ref11_Start R) (envA v_ref11_Start args) H) : VR P kp n_ref11_Start args H R := VR.of (F := f_ref11_Start) (V := v_ref11_Start) of_ref11_Start hlen hk fun h1 h2 => aw_sound (hw h1 h2)
theorem r_ref11_Start : Fun.res f_ref11_Start = [(.u (.lda 2) (.var 1))] := rfl
abbrev g_ref11_Start_0 : List Nat := [2, 4, 5, 6, 7]

/-- recycling/recyclingref11.Next -/
abbrev n_ref11_Next : Nat := 18
def s_ref11_Next : S :=
 (.eff false (some 5) (.box 35 (.var 0))
 (.set 2 (.lit (.slice none 0 0))
 (.eff false (some 3) (.alloc 35 [(.slice none 0 0), (.slice none 0 0)])
 (.eff false (some 11) (.lit 3 1 0 [(.int .i64 0)] .nl)
 (.set 4 (.var 11)
 (.call false (some 12) 17 (.cn (.u .ld1 (.u (.fld 0) (.var 5))) .nl)
 (.eff false (some 7) (.alloc 35 [(.slice none 0 0), (.slice none 0 0)])
 (.eff false none (.st 2 (.var 7) (.var 12))
 (.set 6 (.lit (.int .i64 0))
 (.seq
  (.blk 0
   (.loop
    (.seq
     (.ite (.b (.bin .lss) (.var 6) (.u .len (.u .ld1 (.u (.fld 0) (.var 5)))))
      .nxt
      (.exit 0))
    (.seq
     (.blk 1
      (.eff false (some 13) (.lit 3 1 1 [(.int .i64 0)] (.pl 0 1 (.b (.bin .mul) (.b (.bin .quo) (.var 1) (.lit (.int .i64 1000))) (.u .ld1 (.b (.idx 1) (.u .ld1 (.u (.fld 0) (.var 5))) (.var 6)))) .nl))
      (.eff false (some 14) (.app 3 1 8 [(.int .i64 0)] (.var 4) (.var 13))
      (.set 4 (.var 14)
      (.eff false none (.st 1 (.b (.idx 1) (.u .ld1 (.u (.fld 1) (.var 7))) (.var 6)) (.u .ld1 (.b (.idx 1) (.u .ld1 (.u (.fld 1) (.var 5))) (.var 6))))
      .nxt)))))
    (.set 6 (.b (.bin .add) (.var 6) (.lit (.int .i64 1)))
    .nxt)))))
 (.set 8 (.lit (.int .i64 0))
 (.seq
  (.blk 2
   (.loop
    (.seq
     (.ite (.b (.bin .lss) (.var 8) (.b (.bin .rem) (.var 1) (.lit (.int .i64 1000))))
      .nxt
      (.exit 2))
    (.seq
     (.blk 3
      (.set 9 (.lit (.int .i64 0))
      (.set 10 (.lit (.int .i64 0))
      (.seq
       (.blk 4
        (.loop
         (.seq
          (.ite (.b (.bin .lss) (.var 10) (.u .len (.u .ld1 (.u (.fld 1) (.var 7)))))
           .nxt
           (.exit 4))
         (.seq
          (.blk 5
           (.eff false none (.st 1 (.b (.idx 1) (.u .ld1 (.u (.fld 1) (.var 7))) (.var 10)) (.b (.bin .add) (.u .ld1 (.b (.idx 1) (.u .ld1 (.u (.fld 1) (.var 7))) (.var 10))) (.u .ld1 (.b (.idx 1) (.u .ld1 (.u (.fld 0) (.var 5))) (.var 10)))))
           (.ite (.b (.bin .gtr) (.u .ld1 (.b (.idx 1) (.u .ld1 (.u (.fld 1) (.var 7))) (.var 10))) (.u .ld1 (.b (.idx 1) (.u .ld1 (.u (.fld 1) (.var 7))) (.var 9))))
            (.set 9 (.var 10)
            .nxt)
            .nxt)))
         (.set 10 (.b (.bin .add) (.var 10) (.lit (.int .i64 1)))
         .nxt)))))
      (.eff false none (.st 1 (.b (.idx 1) (.u .ld1 (.u (.fld 1) (.var 7))) (.var 9)) (.b (.bin .sub) (.u .ld1 (.b (.idx 1) (.u .ld1 (.u (.fld 1) (.var 7))) (.var 9))) (.lit (.int .i64 1000))))
      (.eff false none (.st 1 (.b (.idx 1) (.var 4) (.var 9)) (.b (.bin .add) (.u .ld1 (.b (.idx 1) (.var 4) (.var 9))) (.lit (.int .i64 1))))
      .nxt))))))
    (.set 8 (.b (.bin .add) (.var 8) (.lit (.int .i64 1)))
    .nxt)))))
 (.chk (.u (.lda 2) (.var 7))
 (.set 2 (.var 4)
 (.eff false none (.st 2 (.var 3) (.u (.lda 2) (.var 7)))
 .ret)))))))))))))))
def f_ref11_Next : Fun := ⟨s_ref11_Next, [(.var 2), (.u (.lda 2) (.var 3))]⟩
abbrev v_ref11_Next : List Nat := [0, 1, 4, 5, 6, 2, 8, 7, 9, 10, 11, 12, 15, 32, 33]
theorem c_ref11_Next : compF P Go.Proofs.Try.f18 v_ref11_Next = some f_ref11_Next := by kernel_rfl
theorem of_ref11_Next {args : List Value} (hn : args.length ≤ 103) {h : Heap} {R : Value → Heap → Prop} (hs : s_ref11_Next.wp P (f_ref11_Next.post R) (env0 v_ref11_Next args) h) : Runs P n_ref11_Next args h R := fn_of P_mixed Go.Proofs.Try.func18 c_ref11_Next (by rw [Go.Proofs.Try.ntmps18]; exact hn) hs
theorem vr_ref11_Next {kp : Bool} {args : List A} {H : List Blk} {R : A → List Blk → Prop} (hlen : args.length ≤ 103) (hk : kp = false ∨ H = []) (hw : (∀ B ∈ H, A.bdL H.length B.cells = true) → A.bdL H.length args = true → s_ref11_Next.aw P H.length (postA H.length f_ref11_Next R) (envA v_ref11_Next args) H) : VR P kp n_ref11_Next args H R := VR.of (F := f_ref11_Next) (V := v_ref11_Next) of_ref11_Next hlen hk fun h1 h2 => aw_sound (hw h1 h2)
theorem r_ref11_Next : Fun.res f_ref11_Next = [(.var 2), (.u (.lda 2) (.var 3))] := rfl
abbrev g_ref11_Next_0 : List Nat := [4, 6, 13, 14]
abbrev g_ref11_Next_1 : List Nat := [8, 9, 10]
abbrev g_ref11_Next_2 : List Nat := [9, 10]

/-- recycling/recyclingref11.Same -/
abbrev n_ref11_Same : Nat := 19
def s_ref11_Same : S :=
 (.set 2 (.lit (.bool false))
 (.seq
  (.ite (.b (.bin .neq) (.u .len (.var 0)) (.u .len (.var 1)))
   (.set 2 (.lit (.bool false))
   .ret)
   .nxt)
 (.set 3 (.lit (.int .i64 0))
 (.seq
  (.blk 0
   (.loop
    (.seq
     (.ite (.b (.bin .lss) (.var 3) (.u .len (.var 0)))
      .nxt
      (.exit 0))
    (.seq
     (.blk 1
      (.ite (.b (.bin .neq) (.u .ld1 (.b (.idx 1) (.var 0) (.var 3))) (.u .ld1 (.b (.idx 1) (.var 1) (.var 3))))
       (.set 2 (.lit (.bool false))
       .ret)
       .nxt))
    (.set 3 (.b (.bin .add) (.var 3) (.lit (.int .i64 1)))
    .nxt)))))
 (.set 2 (.lit (.bool true))
 .ret)))))
def f_ref11_Same : Fun := ⟨s_ref11_Same, [(.var 2)]⟩
abbrev v_ref11_Same : List Nat := [0, 1, 4, 5]
theorem c_ref11_Same : compF P Go.Proofs.Try.f19 v_ref11_Same = some f_ref11_Same := by kernel_rfl
theorem of_ref11_Same {args : List Value} (hn : args.length ≤ 26) {h : Heap} {R : Value → Heap → Prop} (hs : s_ref11_Same.wp P (f_ref11_Same.post R) (env0 v_ref11_Same args) h) : Runs P n_ref11_Same args h R := fn_of P_mixed Go.Proofs.Try.func19 c_ref11_Same (by rw [Go.Proofs.Try.ntmps19]; exact hn) hs
theorem vr_ref11_Same {kp : Bool} {args : List A} {H : List Blk} {R : A → List Blk → Prop} (hlen : args.length ≤ 26) (hk : kp = false ∨ H = []) (hw : (∀ B ∈ H, A.bdL H.length B.cells = true) → A.bdL H.length args = true → s_ref11_Same.aw P H.length (postA H.length f_ref11_Same R) (envA v_ref11_Same args) H) : VR P kp n_ref11_Same args H R := VR.of (F := f_ref11_Same) (V := v_ref11_Same) of_ref11_Same hlen hk fun h1 h2 => aw_sound (hw h1 h2)
theorem r_ref11_Same : Fun.res f_ref11_Same = [(.var 2)] := rfl
abbrev g_ref11_Same_0 : List Nat := [2, 3]

/-- recycling/recyclinglaw11.small -/
abbrev n_law11_small : Nat := 20
def s_law11_small : S :=
 (.set 1 (.lit (.bool false))
 (.seq
  (.ite (.ite (.b (.bin .lss) (.u .len (.var 0)) (.lit (.int .i64 1))) (.lit (.bool true)) (.b (.bin .gtr) (.u .len (.var 0)) (.lit (.int .i64 40))))
   (.set 1 (.lit (.bool false))
   .ret)
   .nxt)
 (.set 2 (.lit (.int .i64 0))
 (.set 4 (.u .len (.var 0))
 (.set 3 (.lit (.int .i64 0))
 (.seq
  (.blk 0
   (.loop
    (.set 5 (.b (.bin .lss) (.var 3) (.var 4))
    (.seq
     (.ite (.var 5)
      .nxt
      (.exit 0))
    (.seq
     (.blk 1
      (.set 6 (.var 3)
      (.seq
       (.ite (.ite (.b (.bin .lss) (.u .ld1 (.b (.idx 1) (.var 0) (.var 6))) (.lit (.int .i64 0))) (.lit (.bool true)) (.b (.bin .gtr) (.u .ld1 (.b (.idx 1) (.var 0) (.var 6))) (.lit (.int .i64 1048576))))
        (.set 1 (.lit (.bool false))
        .ret)
        .nxt)
      (.set 2 (.b (.bin .add) (.var 2) (.u .ld1 (.b (.idx 1) (.var 0) (.var 6))))
      .nxt))))
    (.set 3 (.b (.bin .add) (.var 3) (.lit (.int .i64 1)))
    .nxt))))))
 (.set 1 (.b (.bin .gtr) (.var 2) (.lit (.int .i64 0)))
 .ret)))))))
def f_law11_small : Fun := ⟨s_law11_small, [(.var 1)]⟩
abbrev v_law11_small : List Nat := [0, 2, 3, 15, 14, 16, 4]
theorem c_law11_small : compF P Go.Proofs.Try.f20 v_law11_small = some f_law11_small := by kernel_rfl
theorem of_law11_small {args : List Value} (hn : args.length ≤ 39) {h : Heap} {R : Value → Heap → Prop} (hs : s_law11_small.wp P (f_law11_small.post R) (env0 v_law11_small args) h) : Runs P n_law11_small args h R := fn_of P_mixed Go.Proofs.Try.func20 c_law11_small (by rw [Go.Proofs.Try.ntmps20]; exact hn) hs
theorem vr_law11_small {kp : Bool} {args : List A} {H : List Blk} {R : A → List Blk → Prop} (hlen : args.length ≤ 39) (hk : kp = false ∨ H = []) (hw : (∀ B ∈ H, A.bdL H.length B.cells = true) → A.bdL H.length args = true → s_law11_small.aw P H.length (postA H.length f_law11_small R) (envA v_law11_small args) H) : VR P kp n_law11_small args H R := VR.of (F := f_law11_small) (V := v_law11_small) of_law11_small hlen hk fun h1 h2 => aw_sound (hw h1 h2)
theorem r_law11_small : Fun.res f_law11_small = [(.var 1)] := rfl
abbrev g_law11_small_0 : List Nat := [1, 2, 3, 5, 6]

/-- recycling/recyclinglaw11.exampleHolds -/
abbrev n_law11_exampleHolds : Nat := 21
def s_law11_exampleHolds : S :=
 (.set 0 (.lit (.bool false))
 (.eff false (some 5) (.lit 3 1 3 [(.int .i64 0)] (.pl 0 1 (.lit (.int .i64 1)) (.pl 1 1 (.lit (.int .i64 1)) (.pl 2 1 (.lit (.int .i64 1)) .nl))))
 (.call false (some 8) 22 (.cn (.lit (.int .i64 100)) (.cn (.var 5) .nl))
 (.chk (.u (.ext 0) (.var 8))
 (.chk (.u (.ext 1) (.var 8))
 (.set 1 (.u (.ext 0) (.var 8))
 (.set 2 (.u (.ext 1) (.var 8))
 (.call false (some 6) 25 (.cn (.lit (.int .i64 11)) (.cn (.lit (.int .i64 4)) .nl))
 (.chk (.u (.ext 0) (.var 6))
 (.chk (.u (.ext 1) (.var 6))
 (.set 3 (.u (.ext 0) (.var 6))
 (.set 4 (.u (.ext 1) (.var 6))
 (.chk (.ite (.ite (.b (.bin .eql) (.var 2) (.lit (.int .i64 0))) (.b (.bin .eql) (.var 4) (.lit (.int .i64 0))) (.lit (.bool false))) (.var 1) (.lit undef))
 (.seq
  (.ite (.ite (.b (.bin .eql) (.var 2) (.lit (.int .i64 0))) (.b (.bin .eql) (.var 4) (.lit (.int .i64 0))) (.lit (.bool false)))
   (.eff false (some 7) (.lit 3 1 3 [(.int .i64 0)] (.pl 0 1 (.lit (.int .i64 34)) (.pl 1 1 (.lit (.int .i64 33)) (.pl 2 1 (.lit (.int .i64 33)) .nl))))
   (.call false (some 9) 19 (.cn (.var 1) (.cn (.var 7) .nl))
   (.chk (.ite (.var 9) (.var 3) (.lit undef))
   (.ite (.var 9)
    (.eff false (some 10) (.lit 3 1 4 [(.int .i64 0)] (.pl 0 1 (.lit (.int .i64 3)) (.pl 1 1 (.lit (.int .i64 3)) (.pl 2 1 (.lit (.int .i64 3)) (.pl 3 1 (.lit (.int .i64 2)) .nl)))))
    (.call false (some 11) 19 (.cn (.var 3) (.cn (.var 10) .nl))
    (.set 0 (.var 11)
    .nxt)))
    (.set 10 (.lit undef)
    (.set 11 (.lit undef)
    (.set 0 (.lit (.bool false))
    .nxt)))))))
   (.set 7 (.lit undef)
   (.set 9 (.lit undef)
   (.set 10 (.lit undef)
   (.set 11 (.lit undef)
   (.set 0 (.lit (.bool false))
   .nxt))))))
 .ret))))))))))))))
def f_law11_exampleHolds : Fun := ⟨s_law11_exampleHolds, [(.var 0)]⟩
abbrev v_law11_exampleHolds : List Nat := [0, 1, 2, 3, 4, 6, 11, 22, 7, 23, 27, 28]
theorem c_law11_exampleHolds : compF P Go.Proofs.Try.f21 v_law11_exampleHolds = some f_law11_exampleHolds := by kernel_rfl
theorem of_law11_exampleHolds {args : List Value} (hn : args.length ≤ 30) {h : Heap} {R : Value → Heap → Prop} (hs : s_law11_exampleHolds.wp P (f_law11_exampleHolds.post R) (env0 v_law11_exampleHolds args) h) : Runs P n_law11_exampleHolds args h R := fn_of P_mixed Go.Proofs.Try.func21 c_law11_exampleHolds (by rw [Go.Proofs.Try.ntmps21]; exact hn) hs
theorem vr_law11_exampleHolds {kp : Bool} {args : List A} {H : List Blk} {R : A → List Blk → Prop} (hlen : args.length ≤ 30) (hk : kp = false ∨ H = []) (hw : (∀ B ∈ H, A.bdL H.length B.cells = true) → A.bdL H.length args = true → s_law11_exampleHolds.aw P H.length (postA H.length f_law11_exampleHolds R) (envA v_law11_exampleHolds args) H) : VR P kp n_law11_exampleHolds args H R := VR.of (F := f_law11_exampleHolds) (V := v_law11_exampleHolds) of_law11_exampleHolds hlen hk fun h1 h2 => aw_sound (hw h1 h2)
theorem r_law11_exampleHolds : Fun.res f_law11_exampleHolds = [(.var 0)] := rfl

/-- recycling/share.Split -/
abbrev n_share_Split : Nat := 22
def s_share_Split : S :=
 (.set 2 (.lit (.slice none 0 0))
 (.set 3 (.lit (.int .i64 0))
 (.seq
  (.ite (.ite (.b (.bin .lss) (.var 0) (.lit (.int .i64 0))) (.lit (.bool true)) (.b (.bin .gtr) (.var 0) (.lit (.int .i64 70368744177664))))
   (.set 2 (.lit (.slice none 0 0))
   (.set 3 (.lit (.int .i64 1))
   .ret))
   .nxt)
 (.call false (some 25) 27 (.cn (.var 1) .nl)
 (.chk (.u (.ext 0) (.var 25))
 (.chk (.u (.ext 1) (.var 25))
 (.set 4 (.u (.ext 0) (.var 25))
 (.set 5 (.u (.ext 1) (.var 25))
 (.seq
  (.ite (.b (.bin .neq) (.var 5) (.lit (.int .i64 0)))
   (.set 2 (.lit (.slice none 0 0))
   (.set 3 (.var 5)
   .ret))
   .nxt)
 (.seq
  (.ite (.ite (.b (.bin .eql) (.var 4) (.lit (.int .i64 0))) (.b (.bin .gtr) (.var 0) (.lit (.int .i64 0))) (.lit (.bool false)))
   (.set 2 (.lit (.slice none 0 0))
   (.set 3 (.lit (.int .i64 10))
   .ret))
   .nxt)
 (.eff false (some 26) (.mk 3 1 8 [(.int .i64 0)] (.u .len (.var 1)) (.u .len (.var 1)))
 (.eff false (some 30) (.mk 3 1 8 [(.int .i64 0)] (.u .len (.var 1)) (.u .len (.var 1)))
 (.eff false (some 31) (.mk 3 1 8 [(.int .i64 0)] (.u .len (.var 1)) (.u .len (.var 1)))
 (.eff false (some 19) (.alloc 22 [(.slice none 0 0)])
 (.set 6 (.var 26)
 (.eff false none (.st 1 (.var 19) (.var 30))
 (.set 7 (.var 31)
 (.set 8 (.var 0)
 (.set 12 (.var 1)
 (.set 10 (.u .len (.var 12))
 (.set 9 (.lit (.int .i64 0))
 (.seq
  (.blk 0
   (.loop
    (.set 11 (.b (.bin .lss) (.var 9) (.var 10))
    (.seq
     (.ite (.var 11)
      .nxt
      (.exit 0))
    (.seq
     (.blk 1
      (.chk (.u .ld1 (.b (.idx 1) (.var 12) (.var 9)))
      (.set 13 (.var 9)
      (.set 14 (.u .ld1 (.b (.idx 1) (.var 12) (.var 9)))
      (.eff false none (.st 1 (.b (.idx 1) (.var 7) (.var 13)) (.var 13))
      (.seq
       (.ite (.b (.bin .gtr) (.var 4) (.lit (.int .i64 0)))
        (.call false (some 27) 28 (.cn (.u (.conv .u64) (.var 0)) (.cn (.u (.conv .u64) (.var 14)) .nl))
        (.chk (.u (.ext 0) (.var 27))
        (.chk (.u (.ext 1) (.var 27))
        (.set 15 (.u (.ext 0) (.var 27))
        (.set 16 (.u (.ext 1) (.var 27))
        (.call false (some 28) 29 (.cn (.var 15) (.cn (.var 16) (.cn (.u (.conv .u64) (.var 4)) .nl)))
        (.chk (.u (.ext 0) (.var 28))
        (.chk (.u (.ext 1) (.var 28))
        (.set 17 (.u (.ext 0) (.var 28))
        (.set 18 (.u (.ext 1) (.var 28))
        (.both
         (.set 29 (.u .ld1 (.var 19))
         (.chk (.u (.conv .i64) (.var 17))
         (.chk (.u (.conv .i64) (.var 18))
         (.eff false none (.st 1 (.b (.idx 1) (.var 6) (.var 13)) (.u (.conv .i64) (.var 17)))
         (.eff false none (.st 1 (.b (.idx 1) (.var 29) (.var 13)) (.u (.conv .i64) (.var 18)))
         .nxt)))))
         (.chk (.u (.conv .i64) (.var 17))
         (.chk (.u (.conv .i64) (.var 18))
         (.eff false none (.st 1 (.b (.idx 1) (.var 6) (.var 13)) (.u (.conv .i64) (.var 17)))
         (.set 29 (.u .ld1 (.var 19))
         (.eff false none (.st 1 (.b (.idx 1) (.var 29) (.var 13)) (.u (.conv .i64) (.var 18)))
         .nxt))))))))))))))))
        .nxt)
      (.set 8 (.b (.bin .sub) (.var 8) (.u .ld1 (.b (.idx 1) (.var 6) (.var 13))))
      .nxt)))))))
    (.set 9 (.b (.bin .add) (.var 9) (.lit (.int .i64 1)))
    .nxt))))))
 (.chk (.fn 31 (.cn (.var 19) .nl))
 (.call false none 30 (.cn (.var 7) (.cn (.fn 31 (.cn (.var 19) .nl)) .nl))
 (.set 23 (.slc none 1 (.var 7) (.lit (.int .i64 0)) (.var 8) .nl)
 (.set 21 (.u .len (.var 23))
 (.set 20 (.lit (.int .i64 0))
 (.seq
  (.blk 2
   (.loop
    (.set 22 (.b (.bin .lss) (.var 20) (.var 21))
    (.seq
     (.ite (.var 22)
      .nxt
      (.exit 2))
    (.seq
     (.blk 3
      (.set 24 (.u .ld1 (.b (.idx 1) (.var 23) (.var 20)))
      (.eff false none (.st 1 (.b (.idx 1) (.var 6) (.var 24)) (.b (.bin .add) (.u .ld1 (.b (.idx 1) (.var 6) (.var 24))) (.lit (.int .i64 1))))
      .nxt)))
    (.set 20 (.b (.bin .add) (.var 20) (.lit (.int .i64 1)))
    .nxt))))))
 (.set 2 (.var 6)
 (.set 3 (.lit (.int .i64 0))
 .ret))))))))))))))))))))))))))))))
def f_share_Split : Fun := ⟨s_share_Split, [(.var 2), (.var 3)]⟩
abbrev v_share_Split : List Nat := [0, 1, 4, 5, 6, 7, 8, 10, 11, 52, 51, 53, 50, 12, 13, 14, 15, 16, 17, 9, 103, 102, 104, 101, 19, 28, 42, 68, 76, 81, 45, 48]
theorem c_share_Split : compF P Go.Proofs.Try.f22 v_share_Split = some f_share_Split := by kernel_rfl
theorem of_share_Split {args : List Value} (hn : args.length ≤ 115) {h : Heap} {R : Value → Heap → Prop} (hs : s_share_Split.wp P (f_share_Split.post R) (env0 v_share_Split args) h) : Runs P n_share_Split args h R := fn_of P_mixed Go.Proofs.Try.func22 c_share_Split (by rw [Go.Proofs.Try.ntmps22]; exact hn) hs
theorem vr_share_Split {kp : Bool} {args : List A} {H : List Blk} {R : A → List Blk → Prop} (hlen : args.length ≤ 115) (hk : kp = false ∨ H = []) (hw : (∀ B ∈ H, A.bdL H.length B.cells = true) → A.bdL H.length args = true → s_share_Split.aw P H.length (postA H.length f_share_Split R) (envA v_share_Split args) H) : VR P kp n_share_Split args H R := VR.of (F := f_share_Split) (V := v_share_Split) of_share_Split hlen hk fun h1 h2 => aw_sound (hw h1 h2)
theorem r_share_Split : Fun.res f_share_Split = [(.var 2), (.var 3)] := rfl
abbrev g_share_Split_0 : List Nat := [8, 9, 11, 13, 14, 15, 16, 17, 18, 27, 28, 29]
abbrev g_share_Split_1 : List Nat := [20, 22, 24]

/-- recycling/recyclingref11.Split -/
abbrev n_ref11_Split : Nat := 23
def s_ref11_Split : S :=
 (.set 2 (.lit (.slice none 0 0))
 (.set 3 (.lit (.int .i64 0))
 (.seq
  (.ite (.ite (.b (.bin .lss) (.var 0) (.lit (.int .i64 0))) (.lit (.bool true)) (.b (.bin .gtr) (.var 0) (.lit (.int .i64 70368744177664))))
   (.set 2 (.lit (.slice none 0 0))
   (.set 3 (.lit (.int .i64 1))
   .ret))
   .nxt)
 (.call false (some 14) 32 (.cn (.var 1) .nl)
 (.chk (.u (.ext 0) (.var 14))
 (.chk (.u (.ext 1) (.var 14))
 (.set 4 (.u (.ext 0) (.var 14))
 (.set 5 (.u (.ext 1) (.var 14))
 (.seq
  (.ite (.b (.bin .neq) (.var 5) (.lit (.int .i64 0)))
   (.set 2 (.lit (.slice none 0 0))
   (.set 3 (.var 5)
   .ret))
   .nxt)
 (.seq
  (.ite (.ite (.b (.bin .eql) (.var 4) (.lit (.int .i64 0))) (.b (.bin .gtr) (.var 0) (.lit (.int .i64 0))) (.lit (.bool false)))
   (.set 2 (.lit (.slice none 0 0))
   (.set 3 (.lit (.int .i64 10))
   .ret))
   .nxt)
 (.eff false (some 15) (.lit 3 1 0 [(.int .i64 0)] .nl)
 (.set 6 (.var 15)
 (.eff false (some 16) (.lit 3 1 0 [(.int .i64 0)] .nl)
 (.set 7 (.var 16)
 (.set 8 (.var 0)
 (.set 9 (.lit (.int .i64 0))
 (.seq
  (.blk 0
   (.loop
    (.seq
     (.ite (.b (.bin .lss) (.var 9) (.u .len (.var 1)))
      .nxt
      (.exit 0))
    (.seq
     (.blk 1
      (.set 10 (.lit (.int .i64 0))
      (.set 11 (.lit (.int .i64 0))
      (.seq
       (.ite (.b (.bin .gtr) (.var 4) (.lit (.int .i64 0)))
        (.call false (some 17) 33 (.cn (.var 0) (.cn (.u .ld1 (.b (.idx 1) (.var 1) (.var 9))) (.cn (.var 4) .nl)))
        (.chk (.u (.ext 0) (.var 17))
        (.chk (.u (.ext 1) (.var 17))
        (.set 10 (.u (.ext 0) (.var 17))
        (.set 11 (.u (.ext 1) (.var 17))
        .nxt)))))
        .nxt)
      (.eff false (some 18) (.lit 3 1 1 [(.int .i64 0)] (.pl 0 1 (.var 10) .nl))
      (.eff false (some 20) (.app 3 1 8 [(.int .i64 0)] (.var 6) (.var 18))
      (.set 6 (.var 20)
      (.eff false (some 19) (.lit 3 1 1 [(.int .i64 0)] (.pl 0 1 (.var 11) .nl))
      (.eff false (some 21) (.app 3 1 8 [(.int .i64 0)] (.var 7) (.var 19))
      (.set 7 (.var 21)
      (.set 8 (.b (.bin .sub) (.var 8) (.var 10))
      .nxt)))))))))))
    (.set 9 (.b (.bin .add) (.var 9) (.lit (.int .i64 1)))
    .nxt)))))
 (.seq
  (.blk 2
   (.loop
    (.seq
     (.ite (.b (.bin .gtr) (.var 8) (.lit (.int .i64 0)))
      .nxt
      (.exit 2))
    (.blk 3
     (.set 12 (.lit (.int .i64 0))
     (.set 13 (.lit (.int .i64 1))
     (.seq
      (.blk 4
       (.loop
        (.seq
         (.ite (.b (.bin .lss) (.var 13) (.u .len (.var 7)))
          .nxt
          (.exit 4))
        (.seq
         (.blk 5
          (.ite (.b (.bin .gtr) (.u .ld1 (.b (.idx 1) (.var 7) (.var 13))) (.u .ld1 (.b (.idx 1) (.var 7) (.var 12))))
           (.set 12 (.var 13)
           .nxt)
           .nxt))
        (.set 13 (.b (.bin .add) (.var 13) (.lit (.int .i64 1)))
        .nxt)))))
     (.eff false none (.st 1 (.b (.idx 1) (.var 6) (.var 12)) (.b (.bin .add) (.u .ld1 (.b (.idx 1) (.var 6) (.var 12))) (.lit (.int .i64 1))))
     (.eff false none (.st 1 (.b (.idx 1) (.var 7) (.var 12)) (.lit (.int .i64 (-1))))
     (.set 8 (.b (.bin .sub) (.var 8) (.lit (.int .i64 1)))
     .nxt))))))))))
 (.set 2 (.var 6)
 (.set 3 (.lit (.int .i64 0))
 .ret))))))))))))))))))))
def f_ref11_Split : Fun := ⟨s_ref11_Split, [(.var 2), (.var 3)]⟩
abbrev v_ref11_Split : List Nat := [0, 1, 4, 5, 6, 7, 8, 9, 10, 11, 12, 13, 14, 15, 24, 36, 37, 54, 59, 63, 60, 64]
theorem c_ref11_Split : compF P Go.Proofs.Try.f23 v_ref11_Split = some f_ref11_Split := by kernel_rfl
theorem of_ref11_Split {args : List Value} (hn : args.length ≤ 100) {h : Heap} {R : Value → Heap → Prop} (hs : s_ref11_Split.wp P (f_ref11_Split.post R) (env0 v_ref11_Split args) h) : Runs P n_ref11_Split args h R := fn_of P_mixed Go.Proofs.Try.func23 c_ref11_Split (by rw [Go.Proofs.Try.ntmps23]; exact hn) hs
theorem vr_ref11_Split {kp : Bool} {args : List A} {H : List Blk} {R : A → List Blk → Prop} (hlen : args.length ≤ 100) (hk : kp = false ∨ H = []) (hw : (∀ B ∈ H, A.bdL H.length B.cells = true) → A.bdL H.length args = true → s_ref11_Split.aw P H.length (postA H.length f_ref11_Split R) (envA v_ref11_Split args) H) : VR P kp n_ref11_Split args H R := VR.of (F := f_ref11_Split) (V := v_ref11_Split) of_ref11_Split hlen hk fun h1 h2 => aw_sound (hw h1 h2)
theorem r_ref11_Split : Fun.res f_ref11_Split = [(.var 2), (.var 3)] := rfl
abbrev g_ref11_Split_0 : List Nat := [6, 7, 8, 9, 10, 11, 17, 18, 19, 20, 21]
abbrev g_ref11_Split_1 : List Nat := [8, 12, 13]
abbrev g_ref11_Split_2 : List Nat := [12, 13]

/-- recycling/recyclingref11.Even -/
abbrev n_ref11_Even : Nat := 24
def s_ref11_Even : S :=
 (.set 2 (.lit (.slice none 0 0))
 (.set 3 (.lit (.int .i64 0))
 (.seq
  (.ite (.ite (.ite (.ite (.b (.bin .lss) (.var 0) (.lit (.int .i64 0))) (.lit (.bool true)) (.b (.bin .gtr) (.var 0) (.lit (.int .i64 70368744177664)))) (.lit (.bool true)) (.b (.bin .lss) (.var 1) (.lit (.int .i64 1)))) (.lit (.bool true)) (.b (.bin .gtr) (.var 1) (.lit (.int .i64 512))))
   (.set 2 (.lit (.slice none 0 0))
   (.set 3 (.lit (.int .i64 1))
   .ret))
   .nxt)
 (.eff false (some 7) (.lit 3 1 0 [(.int .i64 0)] .nl)
 (.set 4 (.var 7)
 (.set 5 (.lit (.int .i64 0))
 (.seq
  (.blk 0
   (.loop
    (.seq
     (.ite (.b (.bin .lss) (.var 5) (.var 1))
      .nxt
      (.exit 0))
    (.seq
     (.blk 1
      (.set 6 (.b (.bin .quo) (.var 0) (.var 1))
      (.seq
       (.ite (.b (.bin .lss) (.var 5) (.b (.bin .rem) (.var 0) (.var 1)))
        (.set 6 (.b (.bin .add) (.var 6) (.lit (.int .i64 1)))
        .nxt)
        .nxt)
      (.eff false (some 8) (.lit 3 1 1 [(.int .i64 0)] (.pl 0 1 (.var 6) .nl))
      (.eff false (some 9) (.app 3 1 8 [(.int .i64 0)] (.var 4) (.var 8))
      (.set 4 (.var 9)
      .nxt))))))
    (.set 5 (.b (.bin .add) (.var 5) (.lit (.int .i64 1)))
    .nxt)))))
 (.set 2 (.var 4)
 (.set 3 (.lit (.int .i64 0))
 .ret)))))))))
def f_ref11_Even : Fun := ⟨s_ref11_Even, [(.var 2), (.var 3)]⟩
abbrev v_ref11_Even : List Nat := [0, 1, 4, 5, 6, 7, 8, 23, 41, 42]
theorem c_ref11_Even : compF P Go.Proofs.Try.f24 v_ref11_Even = some f_ref11_Even := by kernel_rfl
theorem of_ref11_Even {args : List Value} (hn : args.length ≤ 44) {h : Heap} {R : Value → Heap → Prop} (hs : s_ref11_Even.wp P (f_ref11_Even.post R) (env0 v_ref11_Even args) h) : Runs P n_ref11_Even args h R := fn_of P_mixed Go.Proofs.Try.func24 c_ref11_Even (by rw [Go.Proofs.Try.ntmps24]; exact hn) hs
theorem vr_ref11_Even {kp : Bool} {args : List A} {H : List Blk} {R : A → List Blk → Prop} (hlen : args.length ≤ 44) (hk : kp = false ∨ H = []) (hw : (∀ B ∈ H, A.bdL H.length B.cells = true) → A.bdL H.length args = true → s_ref11_Even.aw P H.length (postA H.length f_ref11_Even R) (envA v_ref11_Even args) H) : VR P kp n_ref11_Even args H R := VR.of (F := f_ref11_Even) (V := v_ref11_Even) of_ref11_Even hlen hk fun h1 h2 => aw_sound (hw h1 h2)
theorem r_ref11_Even : Fun.res f_ref11_Even = [(.var 2), (.var 3)] := rfl
abbrev g_ref11_Even_0 : List Nat := [4, 5, 6, 8, 9]

/-- recycling/share.Even -/
abbrev n_share_Even : Nat := 25
def s_share_Even : S :=
 (.set 2 (.lit (.slice none 0 0))
 (.set 3 (.lit (.int .i64 0))
 (.seq
  (.ite (.ite (.ite (.ite (.b (.bin .lss) (.var 0) (.lit (.int .i64 0))) (.lit (.bool true)) (.b (.bin .gtr) (.var 0) (.lit (.int .i64 70368744177664)))) (.lit (.bool true)) (.b (.bin .lss) (.var 1) (.lit (.int .i64 1)))) (.lit (.bool true)) (.b (.bin .gtr) (.var 1) (.lit (.int .i64 512))))
   (.set 2 (.lit (.slice none 0 0))
   (.set 3 (.lit (.int .i64 1))
   .ret))
   .nxt)
 (.eff false (some 9) (.mk 3 1 8 [(.int .i64 0)] (.var 1) (.var 1))
 (.set 4 (.var 9)
 (.set 6 (.u .len (.var 4))
 (.set 5 (.lit (.int .i64 0))
 (.seq
  (.blk 0
   (.loop
    (.set 7 (.b (.bin .lss) (.var 5) (.var 6))
    (.seq
     (.ite (.var 7)
      .nxt
      (.exit 0))
    (.seq
     (.blk 1
      (.set 8 (.var 5)
      (.eff false none (.st 1 (.b (.idx 1) (.var 4) (.var 8)) (.b (.bin .quo) (.var 0) (.var 1)))
      (.ite (.b (.bin .lss) (.var 8) (.b (.bin .rem) (.var 0) (.var 1)))
       (.eff false none (.st 1 (.b (.idx 1) (.var 4) (.var 8)) (.b (.bin .add) (.u .ld1 (.b (.idx 1) (.var 4) (.var 8))) (.lit (.int .i64 1))))
       .nxt)
       .nxt))))
    (.set 5 (.b (.bin .add) (.var 5) (.lit (.int .i64 1)))
    .nxt))))))
 (.set 2 (.var 4)
 (.set 3 (.lit (.int .i64 0))
 .ret))))))))))
def f_share_Even : Fun := ⟨s_share_Even, [(.var 2), (.var 3)]⟩
abbrev v_share_Even : List Nat := [0, 1, 4, 5, 6, 26, 25, 27, 7, 23]
theorem c_share_Even : compF P Go.Proofs.Try.f25 v_share_Even = some f_share_Even := by kernel_rfl
theorem of_share_Even {args : List Value} (hn : args.length ≤ 48) {h : Heap} {R : Value → Heap → Prop} (hs : s_share_Even.wp P (f_share_Even.post R) (env0 v_share_Even args) h) : Runs P n_share_Even args h R := fn_of P_mixed Go.Proofs.Try.func25 c_share_Even (by rw [Go.Proofs.Try.ntmps25]; exact hn) hs
theorem vr_share_Even {kp : Bool} {args : List A} {H : List Blk} {R : A → List Blk → Prop} (hlen : args.length ≤ 48) (hk : kp = false ∨ H = []) (hw : (∀ B ∈ H, A.bdL H.length B.cells = true) → A.bdL H.length args = true → s_share_Even.aw P H.length (postA H.length f_share_Even R) (envA v_share_Even args) H) : VR P kp n_share_Even args H R := VR.of (F := f_share_Even) (V := v_share_Even) of_share_Even hlen hk fun h1 h2 => aw_sound (hw h1 h2)
theorem r_share_Even : Fun.res f_share_Even = [(.var 2), (.var 3)] := rfl
abbrev g_share_Even_0 : List Nat := [5, 7, 8]

/-- slices.Clone[[]int,int] -/
abbrev n_slices_Cloneint_int : Nat := 26
def s_slices_Cloneint_int : S :=
 (.set 1 (.lit (.slice none 0 0))
 (.seq
  (.ite (.b (.eqs false) (.var 0) (.lit (.slice none 0 0)))
   (.set 1 (.lit (.slice none 0 0))
   .ret)
   .nxt)
 (.eff false (some 2) (.lit 3 1 0 [(.int .i64 0)] .nl)
 (.eff false (some 3) (.app 3 1 8 [(.int .i64 0)] (.var 2) (.var 0))
 (.set 1 (.var 3)
 .ret)))))
def f_slices_Cloneint_int : Fun := ⟨s_slices_Cloneint_int, [(.var 1)]⟩
abbrev v_slices_Cloneint_int : List Nat := [0, 2, 5, 7]
theorem c_slices_Cloneint_int : compF P Go.Proofs.Try.f26 v_slices_Cloneint_int = some f_slices_Cloneint_int := by kernel_rfl
theorem of_slices_Cloneint_int {args : List Value} (hn : args.length ≤ 8) {h : Heap} {R : Value → Heap → Prop} (hs : s_slices_Cloneint_int.wp P (f_slices_Cloneint_int.post R) (env0 v_slices_Cloneint_int args) h) : Runs P n_slices_Cloneint_int args h R := fn_of P_mixed Go.Proofs.Try.func26 c_slices_Cloneint_int (by rw [Go.Proofs.Try.ntmps26]; exact hn) hs
theorem vr_slices_Cloneint_int {kp : Bool} {args : List A} {H : List Blk} {R : A → List Blk → Prop} (hlen : args.length ≤ 8) (hk : kp = false ∨ H = []) (hw : (∀ B ∈ H, A.bdL H.length B.cells = true) → A.bdL H.length args = true → s_slices_Cloneint_int.aw P H.length (postA H.length f_slices_Cloneint_int R) (envA v_slices_Cloneint_int args) H) : VR P kp n_slices_Cloneint_int args H R := VR.of (F := f_slices_Cloneint_int) (V := v_slices_Cloneint_int) of_slices_Cloneint_int hlen hk fun h1 h2 => aw_sound (hw h1 h2)
theorem r_slices_Cloneint_int : Fun.res f_slices_Cloneint_int = [(.var 1)] := rfl

/-- recycling/share.weighed -/
abbrev n_share_weighed : Nat := 27
def s_share_weighed : S :=
 (.set 1 (.lit (.int .i64 0))
 (.set 2 (.lit (.int .i64 0))
 (.seq
  (.ite (.ite (.b (.bin .lss) (.u .len (.var 0)) (.lit (.int .i64 1))) (.lit (.bool true)) (.b (.bin .gtr) (.u .len (.var 0)) (.lit (.int .i64 512))))
   (.set 1 (.lit (.int .i64 0))
   (.set 2 (.lit (.int .i64 1))
   .ret))
   .nxt)
 (.set 6 (.var 0)
 (.set 4 (.u .len (.var 6))
 (.set 3 (.lit (.int .i64 0))
 (.seq
  (.blk 0
   (.loop
    (.set 5 (.b (.bin .lss) (.var 3) (.var 4))
    (.seq
     (.ite (.var 5)
      .nxt
      (.exit 0))
    (.seq
     (.blk 1
      (.set 7 (.u .ld1 (.b (.idx 1) (.var 6) (.var 3)))
      (.ite (.ite (.b (.bin .lss) (.var 7) (.lit (.int .i64 0))) (.lit (.bool true)) (.b (.bin .gtr) (.var 7) (.lit (.int .i64 1125899906842624))))
       (.set 1 (.lit (.int .i64 0))
       (.set 2 (.lit (.int .i64 1))
       .ret))
       .nxt)))
    (.set 3 (.b (.bin .add) (.var 3) (.lit (.int .i64 1)))
    .nxt))))))
 (.call false (some 8) 34 (.cn (.var 0) .nl)
 (.chk (.u (.ext 0) (.var 8))
 (.chk (.u (.ext 1) (.var 8))
 (.set 1 (.u (.ext 0) (.var 8))
 (.set 2 (.u (.ext 1) (.var 8))
 .ret))))))))))))
def f_share_weighed : Fun := ⟨s_share_weighed, [(.var 1), (.var 2)]⟩
abbrev v_share_weighed : List Nat := [0, 2, 3, 16, 15, 17, 14, 5, 28]
theorem c_share_weighed : compF P Go.Proofs.Try.f27 v_share_weighed = some f_share_weighed := by kernel_rfl
theorem of_share_weighed {args : List Value} (hn : args.length ≤ 31) {h : Heap} {R : Value → Heap → Prop} (hs : s_share_weighed.wp P (f_share_weighed.post R) (env0 v_share_weighed args) h) : Runs P n_share_weighed args h R := fn_of P_mixed Go.Proofs.Try.func27 c_share_weighed (by rw [Go.Proofs.Try.ntmps27]; exact hn) hs
theorem vr_share_weighed {kp : Bool} {args : List A} {H : List Blk} {R : A → List Blk → Prop} (hlen : args.length ≤ 31) (hk : kp = false ∨ H = []) (hw : (∀ B ∈ H, A.bdL H.length B.cells = true) → A.bdL H.length args = true → s_share_weighed.aw P H.length (postA H.length f_share_weighed R) (envA v_share_weighed args) H) : VR P kp n_share_weighed args H R := VR.of (F := f_share_weighed) (V := v_share_weighed) of_share_weighed hlen hk fun h1 h2 => aw_sound (hw h1 h2)
theorem r_share_weighed : Fun.res f_share_weighed = [(.var 1), (.var 2)] := rfl
abbrev g_share_weighed_0 : List Nat := [1, 2, 3, 5, 7]

/-- math/bits.Mul64 -/
abbrev n_bits_Mul64 : Nat := 28
def s_bits_Mul64 : S :=
 (.set 2 (.lit (.int .u64 0))
 (.set 3 (.lit (.int .u64 0))
 (.set 4 (.b (.bin .and) (.var 0) (.lit (.int .u64 4294967295)))
 (.set 5 (.b (.bin .shr) (.var 0) (.lit (.int .u64 32)))
 (.set 6 (.b (.bin .and) (.var 1) (.lit (.int .u64 4294967295)))
 (.set 7 (.b (.bin .shr) (.var 1) (.lit (.int .u64 32)))
 (.set 8 (.b (.bin .mul) (.var 4) (.var 6))
 (.set 9 (.b (.bin .add) (.b (.bin .mul) (.var 5) (.var 6)) (.b (.bin .shr) (.var 8) (.lit (.int .u64 32))))
 (.set 10 (.b (.bin .and) (.var 9) (.lit (.int .u64 4294967295)))
 (.set 11 (.b (.bin .shr) (.var 9) (.lit (.int .u64 32)))
 (.set 10 (.b (.bin .add) (.var 10) (.b (.bin .mul) (.var 4) (.var 7)))
 (.set 2 (.b (.bin .add) (.b (.bin .add) (.b (.bin .mul) (.var 5) (.var 7)) (.var 11)) (.b (.bin .shr) (.var 10) (.lit (.int .u64 32))))
 (.set 3 (.b (.bin .mul) (.var 0) (.var 1))
 .ret)))))))))))))
def f_bits_Mul64 : Fun := ⟨s_bits_Mul64, [(.var 2), (.var 3)]⟩
abbrev v_bits_Mul64 : List Nat := [0, 1, 4, 5, 6, 7, 8, 9, 10, 11, 12, 13]
theorem c_bits_Mul64 : compF P Go.Proofs.Try.f28 v_bits_Mul64 = some f_bits_Mul64 := by kernel_rfl
theorem of_bits_Mul64 {args : List Value} (hn : args.length ≤ 51) {h : Heap} {R : Value → Heap → Prop} (hs : s_bits_Mul64.wp P (f_bits_Mul64.post R) (env0 v_bits_Mul64 args) h) : Runs P n_bits_Mul64 args h R := fn_of P_mixed Go.Proofs.Try.func28 c_bits_Mul64 (by rw [Go.Proofs.Try.ntmps28]; exact hn) hs
theorem vr_bits_Mul64 {kp : Bool} {args : List A} {H : List Blk} {R : A → List Blk → Prop} (hlen : args.length ≤ 51) (hk : kp = false ∨ H = []) (hw : (∀ B ∈ H, A.bdL H.length B.cells = true) → A.bdL H.length args = true → s_bits_Mul64.aw P H.length (postA H.length f_bits_Mul64 R) (envA v_bits_Mul64 args) H) : VR P kp n_bits_Mul64 args H R := VR.of (F := f_bits_Mul64) (V := v_bits_Mul64) of_bits_Mul64 hlen hk fun h1 h2 => aw_sound (hw h1 h2)
theorem r_bits_Mul64 : Fun.res f_bits_Mul64 = [(.var 2), (.var 3)] := rfl

/-- math/bits.Div64 -/
abbrev n_bits_Div64 : Nat := 29
def s_bits_Div64 : S :=
 (.set 3 (.lit (.int .u64 0))
 (.set 4 (.lit (.int .u64 0))
 (.seq
  (.ite (.b (.bin .eql) (.var 2) (.lit (.int .u64 0)))
   (.chk (.u .ld1 (.lit (.pointer (some ⟨0, 0, none⟩))))
   .stop)
   .nxt)
 (.seq
  (.ite (.b (.bin .leq) (.var 2) (.var 0))
   (.chk (.u .ld1 (.lit (.pointer (some ⟨1, 0, none⟩))))
   .stop)
   .nxt)
 (.seq
  (.ite (.b (.bin .eql) (.var 0) (.lit (.int .u64 0)))
   (.chk (.b (.bin .quo) (.var 1) (.var 2))
   (.chk (.b (.bin .rem) (.var 1) (.var 2))
   (.set 3 (.b (.bin .quo) (.var 1) (.var 2))
   (.set 4 (.b (.bin .rem) (.var 1) (.var 2))
   .ret))))
   .nxt)
 (.call false (some 16) 35 (.cn (.var 2) .nl)
 (.set 5 (.u (.conv .u64) (.var 16))
 (.set 2 (.b (.bin .shl) (.var 2) (.var 5))
 (.set 6 (.b (.bin .shr) (.var 2) (.lit (.int .u64 32)))
 (.set 7 (.b (.bin .and) (.var 2) (.lit (.int .u64 4294967295)))
 (.set 8 (.b (.bin .or) (.b (.bin .shl) (.var 0) (.var 5)) (.b (.bin .shr) (.var 1) (.b (.bin .sub) (.lit (.int .u64 64)) (.var 5))))
 (.set 9 (.b (.bin .shl) (.var 1) (.var 5))
 (.set 10 (.b (.bin .shr) (.var 9) (.lit (.int .u64 32)))
 (.set 11 (.b (.bin .and) (.var 9) (.lit (.int .u64 4294967295)))
 (.set 12 (.b (.bin .quo) (.var 8) (.var 6))
 (.set 13 (.b (.bin .sub) (.var 8) (.b (.bin .mul) (.var 12) (.var 6)))
 (.seq
  (.blk 0
   (.loop
    (.seq
     (.ite (.ite (.b (.bin .geq) (.var 12) (.lit (.int .u64 4294967296))) (.lit (.bool true)) (.b (.bin .gtr) (.b (.bin .mul) (.var 12) (.var 7)) (.b (.bin .add) (.b (.bin .mul) (.lit (.int .u64 4294967296)) (.var 13)) (.var 10))))
      .nxt
      (.exit 0))
    (.blk 1
     (.set 12 (.b (.bin .sub) (.var 12) (.lit (.int .u64 1)))
     (.set 13 (.b (.bin .add) (.var 13) (.var 6))
     (.ite (.b (.bin .geq) (.var 13) (.lit (.int .u64 4294967296)))
      (.exit 0)
      .nxt)))))))
 (.set 14 (.b (.bin .sub) (.b (.bin .add) (.b (.bin .mul) (.var 8) (.lit (.int .u64 4294967296))) (.var 10)) (.b (.bin .mul) (.var 12) (.var 2)))
 (.set 15 (.b (.bin .quo) (.var 14) (.var 6))
 (.set 13 (.b (.bin .sub) (.var 14) (.b (.bin .mul) (.var 15) (.var 6)))
 (.seq
  (.blk 2
   (.loop
    (.seq
     (.ite (.ite (.b (.bin .geq) (.var 15) (.lit (.int .u64 4294967296))) (.lit (.bool true)) (.b (.bin .gtr) (.b (.bin .mul) (.var 15) (.var 7)) (.b (.bin .add) (.b (.bin .mul) (.lit (.int .u64 4294967296)) (.var 13)) (.var 11))))
      .nxt
      (.exit 2))
    (.blk 3
     (.set 15 (.b (.bin .sub) (.var 15) (.lit (.int .u64 1)))
     (.set 13 (.b (.bin .add) (.var 13) (.var 6))
     (.ite (.b (.bin .geq) (.var 13) (.lit (.int .u64 4294967296)))
      (.exit 2)
      .nxt)))))))
 (.chk (.b (.bin .add) (.b (.bin .mul) (.var 12) (.lit (.int .u64 4294967296))) (.var 15))
 (.chk (.b (.bin .shr) (.b (.bin .sub) (.b (.bin .add) (.b (.bin .mul) (.var 14) (.lit (.int .u64 4294967296))) (.var 11)) (.b (.bin .mul) (.var 15) (.var 2))) (.var 5))
 (.set 3 (.b (.bin .add) (.b (.bin .mul) (.var 12) (.lit (.int .u64 4294967296))) (.var 15))
 (.set 4 (.b (.bin .shr) (.b (.bin .sub) (.b (.bin .add) (.b (.bin .mul) (.var 14) (.lit (.int .u64 4294967296))) (.var 11)) (.b (.bin .mul) (.var 15) (.var 2))) (.var 5))
 .ret)))))))))))))))))))))))))
def f_bits_Div64 : Fun := ⟨s_bits_Div64, [(.var 3), (.var 4)]⟩
abbrev v_bits_Div64 : List Nat := [0, 1, 2, 6, 7, 8, 9, 10, 11, 12, 13, 14, 15, 16, 17, 18, 35]
theorem c_bits_Div64 : compF P Go.Proofs.Try.f29 v_bits_Div64 = some f_bits_Div64 := by kernel_rfl
theorem of_bits_Div64 {args : List Value} (hn : args.length ≤ 135) {h : Heap} {R : Value → Heap → Prop} (hs : s_bits_Div64.wp P (f_bits_Div64.post R) (env0 v_bits_Div64 args) h) : Runs P n_bits_Div64 args h R := fn_of P_mixed Go.Proofs.Try.func29 c_bits_Div64 (by rw [Go.Proofs.Try.ntmps29]; exact hn) hs
theorem vr_bits_Div64 {kp : Bool} {args : List A} {H : List Blk} {R : A → List Blk → Prop} (hlen : args.length ≤ 135) (hk : kp = false ∨ H = []) (hw : (∀ B ∈ H, A.bdL H.length B.cells = true) → A.bdL H.length args = true → s_bits_Div64.aw P H.length (postA H.length f_bits_Div64 R) (envA v_bits_Div64 args) H) : VR P kp n_bits_Div64 args H R := VR.of (F := f_bits_Div64) (V := v_bits_Div64) of_bits_Div64 hlen hk fun h1 h2 => aw_sound (hw h1 h2)
theorem r_bits_Div64 : Fun.res f_bits_Div64 = [(.var 3), (.var 4)] := rfl
abbrev g_bits_Div64_0 : List Nat := [12, 13]
abbrev g_bits_Div64_1 : List Nat := [13, 15]

/-- slices.SortStableFunc[[]int,int] -/
abbrev n_slices_SortStableFuncint_int : Nat := 30
def s_slices_SortStableFuncint_int : S :=
 (.call false none 36 (.cn (.var 0) (.cn (.u .len (.var 0)) (.cn (.var 1) .nl)))
 .nxt)
def f_slices_SortStableFuncint_int : Fun := ⟨s_slices_SortStableFuncint_int, []⟩
abbrev v_slices_SortStableFuncint_int : List Nat := [0, 1]
theorem c_slices_SortStableFuncint_int : compF P Go.Proofs.Try.f30 v_slices_SortStableFuncint_int = some f_slices_SortStableFuncint_int := by kernel_rfl
theorem of_slices_SortStableFuncint_int {args : List Value} (hn : args.length ≤ 9) {h : Heap} {R : Value → Heap → Prop} (hs : s_slices_SortStableFuncint_int.wp P (f_slices_SortStableFuncint_int.post R) (env0 v_slices_SortStableFuncint_int args) h) : Runs P n_slices_SortStableFuncint_int args h R := fn_of P_mixed Go.Proofs.Try.func30 c_slices_SortStableFuncint_int (by rw [Go.Proofs.Try.ntmps30]; exact hn) hs
theorem vr_slices_SortStableFuncint_int {kp : Bool} {args : List A} {H : List Blk} {R : A → List Blk → Prop} (hlen : args.length ≤ 9) (hk : kp = false ∨ H = []) (hw : (∀ B ∈ H, A.bdL H.length B.cells = true) → A.bdL H.length args = true → s_slices_SortStableFuncint_int.aw P H.length (postA H.length f_slices_SortStableFuncint_int R) (envA v_slices_SortStableFuncint_int args) H) : VR P kp n_slices_SortStableFuncint_int args H R := VR.of (F := f_slices_SortStableFuncint_int) (V := v_slices_SortStableFuncint_int) of_slices_SortStableFuncint_int hlen hk fun h1 h2 => aw_sound (hw h1 h2)
theorem r_slices_SortStableFuncint_int : Fun.res f_slices_SortStableFuncint_int = [] := rfl

/-- recycling/share.Split$1 -/
abbrev n_share_Split_1 : Nat := 31
def s_share_Split_1 : S :=
 (.set 3 (.lit (.int .i64 0))
 (.set 3 (.b (.bin .sub) (.u .ld1 (.b (.idx 1) (.u .ld1 (.var 2)) (.var 1))) (.u .ld1 (.b (.idx 1) (.u .ld1 (.var 2)) (.var 0))))
 .ret))
def f_share_Split_1 : Fun := ⟨s_share_Split_1, [(.var 3)]⟩
abbrev v_share_Split_1 : List Nat := [0, 1, 2, 5]
theorem c_share_Split_1 : compF P Go.Proofs.Try.f31 v_share_Split_1 = some f_share_Split_1 := by kernel_rfl
theorem of_share_Split_1 {args : List Value} (hn : args.length ≤ 15) {h : Heap} {R : Value → Heap → Prop} (hs : s_share_Split_1.wp P (f_share_Split_1.post R) (env0 v_share_Split_1 args) h) : Runs P n_share_Split_1 args h R := fn_of P_mixed Go.Proofs.Try.func31 c_share_Split_1 (by rw [Go.Proofs.Try.ntmps31]; exact hn) hs
theorem vr_share_Split_1 {kp : Bool} {args : List A} {H : List Blk} {R : A → List Blk → Prop} (hlen : args.length ≤ 15) (hk : kp = false ∨ H = []) (hw : (∀ B ∈ H, A.bdL H.length B.cells = true) → A.bdL H.length args = true → s_share_Split_1.aw P H.length (postA H.length f_share_Split_1 R) (envA v_share_Split_1 args) H) : VR P kp n_share_Split_1 args H R := VR.of (F := f_share_Split_1) (V := v_share_Split_1) of_share_Split_1 hlen hk fun h1 h2 => aw_sound (hw h1 h2)
theorem r_share_Split_1 : Fun.res f_share_Split_1 = [(.var 3)] := rfl

/-- recycling/recyclingref11.sum -/
abbrev n_ref11_sum : Nat := 32
def s_ref11_sum : S :=
 (.set 1 (.lit (.int .i64 0))
 (.set 2 (.lit (.int .i64 0))
 (.seq
  (.ite (.ite (.b (.bin .lss) (.u .len (.var 0)) (.lit (.int .i64 1))) (.lit (.bool true)) (.b (.bin .gtr) (.u .len (.var 0)) (.lit (.int .i64 512))))
   (.set 1 (.lit (.int .i64 0))
   (.set 2 (.lit (.int .i64 1))
   .ret))
   .nxt)
 (.set 3 (.lit (.int .i64 0))
 (.seq
  (.blk 0
   (.loop
    (.seq
     (.ite (.b (.bin .lss) (.var 3) (.u .len (.var 0)))
      .nxt
      (.exit 0))
    (.seq
     (.blk 1
      (.ite (.ite (.b (.bin .lss) (.u .ld1 (.b (.idx 1) (.var 0) (.var 3))) (.lit (.int .i64 0))) (.lit (.bool true)) (.b (.bin .gtr) (.u .ld1 (.b (.idx 1) (.var 0) (.var 3))) (.lit (.int .i64 1125899906842624))))
       (.set 1 (.lit (.int .i64 0))
       (.set 2 (.lit (.int .i64 1))
       .ret))
       .nxt))
    (.set 3 (.b (.bin .add) (.var 3) (.lit (.int .i64 1)))
    .nxt)))))
 (.set 4 (.lit (.int .i64 0))
 (.set 5 (.lit (.int .i64 0))
 (.seq
  (.blk 2
   (.loop
    (.seq
     (.ite (.b (.bin .lss) (.var 5) (.u .len (.var 0)))
      .nxt
      (.exit 2))
    (.seq
     (.blk 3
      (.set 4 (.b (.bin .add) (.var 4) (.u .ld1 (.b (.idx 1) (.var 0) (.var 5))))
      (.ite (.b (.bin .gtr) (.var 4) (.lit (.int .i64 1125899906842624)))
       (.set 1 (.lit (.int .i64 0))
       (.set 2 (.lit (.int .i64 2))
       .ret))
       .nxt)))
    (.set 5 (.b (.bin .add) (.var 5) (.lit (.int .i64 1)))
    .nxt)))))
 (.set 1 (.var 4)
 (.set 2 (.lit (.int .i64 0))
 .ret))))))))))
def f_ref11_sum : Fun := ⟨s_ref11_sum, [(.var 1), (.var 2)]⟩
abbrev v_ref11_sum : List Nat := [0, 2, 3, 4, 5, 6]
theorem c_ref11_sum : compF P Go.Proofs.Try.f32 v_ref11_sum = some f_ref11_sum := by kernel_rfl
theorem of_ref11_sum {args : List Value} (hn : args.length ≤ 48) {h : Heap} {R : Value → Heap → Prop} (hs : s_ref11_sum.wp P (f_ref11_sum.post R) (env0 v_ref11_sum args) h) : Runs P n_ref11_sum args h R := fn_of P_mixed Go.Proofs.Try.func32 c_ref11_sum (by rw [Go.Proofs.Try.ntmps32]; exact hn) hs
theorem vr_ref11_sum {kp : Bool} {args : List A} {H : List Blk} {R : A → List Blk → Prop} (hlen : args.length ≤ 48) (hk : kp = false ∨ H = []) (hw : (∀ B ∈ H, A.bdL H.length B.cells = true) → A.bdL H.length args = true → s_ref11_sum.aw P H.length (postA H.length f_ref11_sum R) (envA v_ref11_sum args) H) : VR P kp n_ref11_sum args H R := VR.of (F := f_ref11_sum) (V := v_ref11_sum) of_ref11_sum hlen hk fun h1 h2 => aw_sound (hw h1 h2)
theorem r_ref11_sum : Fun.res f_ref11_sum = [(.var 1), (.var 2)] := rfl
abbrev g_ref11_sum_0 : List Nat := [1, 2, 3]
abbrev g_ref11_sum_1 : List Nat := [1, 2, 4, 5]

/-- recycling/recyclingref11.divide -/
abbrev n_ref11_divide : Nat := 33
def s_ref11_divide : S :=
 (.set 3 (.lit (.int .i64 0))
 (.set 4 (.lit (.int .i64 0))
 (.set 5 (.lit (.int .i64 0))
 (.set 6 (.lit (.int .i64 0))
 (.set 7 (.lit (.int .i64 50))
 (.seq
  (.blk 0
   (.loop
    (.seq
     (.ite (.b (.bin .geq) (.var 7) (.lit (.int .i64 0)))
      .nxt
      (.exit 0))
    (.seq
     (.blk 1
      (.set 5 (.b (.bin .mul) (.lit (.int .i64 2)) (.var 5))
      (.set 6 (.b (.bin .mul) (.lit (.int .i64 2)) (.var 6))
      (.seq
       (.ite (.b (.bin .eql) (.b (.bin .and) (.b (.bin .shr) (.var 0) (.u (.conv .u64) (.var 7))) (.lit (.int .i64 1))) (.lit (.int .i64 1)))
        (.set 6 (.b (.bin .add) (.var 6) (.var 1))
        .nxt)
        .nxt)
      (.blk 2
       (.loop
        (.seq
         (.ite (.b (.bin .geq) (.var 6) (.var 2))
          .nxt
          (.exit 2))
        (.blk 3
         (.set 6 (.b (.bin .sub) (.var 6) (.var 2))
         (.set 5 (.b (.bin .add) (.var 5) (.lit (.int .i64 1)))
         .nxt))))))))))
    (.set 7 (.b (.bin .sub) (.var 7) (.lit (.int .i64 1)))
    .nxt)))))
 (.set 3 (.var 5)
 (.set 4 (.var 6)
 .ret))))))))
def f_ref11_divide : Fun := ⟨s_ref11_divide, [(.var 3), (.var 4)]⟩
abbrev v_ref11_divide : List Nat := [0, 1, 2, 6, 7, 8, 9, 10]
theorem c_ref11_divide : compF P Go.Proofs.Try.f33 v_ref11_divide = some f_ref11_divide := by kernel_rfl
theorem of_ref11_divide {args : List Value} (hn : args.length ≤ 38) {h : Heap} {R : Value → Heap → Prop} (hs : s_ref11_divide.wp P (f_ref11_divide.post R) (env0 v_ref11_divide args) h) : Runs P n_ref11_divide args h R := fn_of P_mixed Go.Proofs.Try.func33 c_ref11_divide (by rw [Go.Proofs.Try.ntmps33]; exact hn) hs
theorem vr_ref11_divide {kp : Bool} {args : List A} {H : List Blk} {R : A → List Blk → Prop} (hlen : args.length ≤ 38) (hk : kp = false ∨ H = []) (hw : (∀ B ∈ H, A.bdL H.length B.cells = true) → A.bdL H.length args = true → s_ref11_divide.aw P H.length (postA H.length f_ref11_divide R) (envA v_ref11_divide args) H) : VR P kp n_ref11_divide args H R := VR.of (F := f_ref11_divide) (V := v_ref11_divide) of_ref11_divide hlen hk fun h1 h2 => aw_sound (hw h1 h2)
theorem r_ref11_divide : Fun.res f_ref11_divide = [(.var 3), (.var 4)] := rfl
abbrev g_ref11_divide_0 : List Nat := [5, 6, 7]
abbrev g_ref11_divide_1 : List Nat := [5, 6]

/-- recycling/num.Sum -/
abbrev n_num_Sum : Nat := 34
def s_num_Sum : S :=
 (.set 1 (.lit (.int .i64 0))
 (.set 2 (.lit (.int .i64 0))
 (.set 3 (.lit (.int .i64 0))
 (.set 4 (.lit (.int .i64 0))
 (.set 8 (.var 0)
 (.set 6 (.u .len (.var 8))
 (.set 5 (.lit (.int .i64 0))
 (.seq
  (.blk 0
   (.loop
    (.set 7 (.b (.bin .lss) (.var 5) (.var 6))
    (.seq
     (.ite (.var 7)
      .nxt
      (.exit 0))
    (.seq
     (.blk 1
      (.set 9 (.u .ld1 (.b (.idx 1) (.var 8) (.var 5)))
      (.eff false (some 10) (.lit 3 1 1 [(.int .i64 0)] (.pl 0 1 (.var 9) .nl))
      (.call false (some 12) 37 (.cn (.var 10) .nl)
      (.seq
       (.ite (.u (.un .not) (.var 12))
        (.set 1 (.lit (.int .i64 0))
        (.set 2 (.lit (.int .i64 1))
        .ret))
        .nxt)
      (.set 3 (.b (.bin .add) (.var 3) (.b (.bin .shr) (.var 9) (.lit (.int .u64 25))))
      (.set 4 (.b (.bin .add) (.var 4) (.b (.bin .and) (.var 9) (.lit (.int .i64 33554431))))
      .nxt)))))))
    (.set 5 (.b (.bin .add) (.var 5) (.lit (.int .i64 1)))
    .nxt))))))
 (.set 3 (.b (.bin .add) (.var 3) (.b (.bin .shr) (.var 4) (.lit (.int .u64 25))))
 (.seq
  (.ite (.ite (.b (.bin .lss) (.var 3) (.lit (.int .i64 (-67108864)))) (.lit (.bool true)) (.b (.bin .gtr) (.var 3) (.lit (.int .i64 67108864))))
   (.set 1 (.lit (.int .i64 0))
   (.set 2 (.lit (.int .i64 2))
   .ret))
   .nxt)
 (.call false (some 11) 38 (.cn (.b (.bin .add) (.b (.bin .shl) (.var 3) (.lit (.int .u64 25))) (.b (.bin .and) (.var 4) (.lit (.int .i64 33554431)))) .nl)
 (.chk (.u (.ext 0) (.var 11))
 (.chk (.u (.ext 1) (.var 11))
 (.set 1 (.u (.ext 0) (.var 11))
 (.set 2 (.u (.ext 1) (.var 11))
 .ret)))))))))))))))
def f_num_Sum : Fun := ⟨s_num_Sum, [(.var 1), (.var 2)]⟩
abbrev v_num_Sum : List Nat := [0, 2, 3, 4, 5, 10, 9, 11, 8, 7, 15, 42, 16]
theorem c_num_Sum : compF P Go.Proofs.Try.f34 v_num_Sum = some f_num_Sum := by kernel_rfl
theorem of_num_Sum {args : List Value} (hn : args.length ≤ 45) {h : Heap} {R : Value → Heap → Prop} (hs : s_num_Sum.wp P (f_num_Sum.post R) (env0 v_num_Sum args) h) : Runs P n_num_Sum args h R := fn_of P_mixed Go.Proofs.Try.func34 c_num_Sum (by rw [Go.Proofs.Try.ntmps34]; exact hn) hs
theorem vr_num_Sum {kp : Bool} {args : List A} {H : List Blk} {R : A → List Blk → Prop} (hlen : args.length ≤ 45) (hk : kp = false ∨ H = []) (hw : (∀ B ∈ H, A.bdL H.length B.cells = true) → A.bdL H.length args = true → s_num_Sum.aw P H.length (postA H.length f_num_Sum R) (envA v_num_Sum args) H) : VR P kp n_num_Sum args H R := VR.of (F := f_num_Sum) (V := v_num_Sum) of_num_Sum hlen hk fun h1 h2 => aw_sound (hw h1 h2)
theorem r_num_Sum : Fun.res f_num_Sum = [(.var 1), (.var 2)] := rfl
abbrev g_num_Sum_0 : List Nat := [1, 2, 3, 4, 5, 7, 9, 10, 12]

/-- math/bits.LeadingZeros64 -/
abbrev n_bits_LeadingZeros64 : Nat := 35
def s_bits_LeadingZeros64 : S :=
 (.set 1 (.lit (.int .i64 0))
 (.call false (some 2) 39 (.cn (.var 0) .nl)
 (.set 1 (.b (.bin .sub) (.lit (.int .i64 64)) (.var 2))
 .ret)))
def f_bits_LeadingZeros64 : Fun := ⟨s_bits_LeadingZeros64, [(.var 1)]⟩
abbrev v_bits_LeadingZeros64 : List Nat := [0, 2, 4]
theorem c_bits_LeadingZeros64 : compF P Go.Proofs.Try.f35 v_bits_LeadingZeros64 = some f_bits_LeadingZeros64 := by kernel_rfl
theorem of_bits_LeadingZeros64 {args : List Value} (hn : args.length ≤ 6) {h : Heap} {R : Value → Heap → Prop} (hs : s_bits_LeadingZeros64.wp P (f_bits_LeadingZeros64.post R) (env0 v_bits_LeadingZeros64 args) h) : Runs P n_bits_LeadingZeros64 args h R := fn_of P_mixed Go.Proofs.Try.func35 c_bits_LeadingZeros64 (by rw [Go.Proofs.Try.ntmps35]; exact hn) hs
theorem vr_bits_LeadingZeros64 {kp : Bool} {args : List A} {H : List Blk} {R : A → List Blk → Prop} (hlen : args.length ≤ 6) (hk : kp = false ∨ H = []) (hw : (∀ B ∈ H, A.bdL H.length B.cells = true) → A.bdL H.length args = true → s_bits_LeadingZeros64.aw P H.length (postA H.length f_bits_LeadingZeros64 R) (envA v_bits_LeadingZeros64 args) H) : VR P kp n_bits_LeadingZeros64 args H R := VR.of (F := f_bits_LeadingZeros64) (V := v_bits_LeadingZeros64) of_bits_LeadingZeros64 hlen hk fun h1 h2 => aw_sound (hw h1 h2)
theorem r_bits_LeadingZeros64 : Fun.res f_bits_LeadingZeros64 = [(.var 1)] := rfl

/-- slices.stableCmpFunc[int] -/
abbrev n_slices_stableCmpFunc : Nat := 36
def s_slices_stableCmpFunc : S :=
 (.set 3 (.lit (.int .i64 20))
 (.set 4 (.lit (.int .i64 0))
 (.set 5 (.var 3)
 (.seq
  (.blk 0
   (.loop
    (.seq
     (.ite (.b (.bin .leq) (.var 5) (.var 1))
      .nxt
      (.exit 0))
    (.blk 1
     (.call false none 40 (.cn (.var 0) (.cn (.var 4) (.cn (.var 5) (.cn (.var 2) .nl))))
     (.set 4 (.var 5)
     (.set 5 (.b (.bin .add) (.var 5) (.var 3))
     .nxt)))))))
 (.call false none 40 (.cn (.var 0) (.cn (.var 4) (.cn (.var 1) (.cn (.var 2) .nl))))
 (.blk 2
  (.loop
   (.seq
    (.ite (.b (.bin .lss) (.var 3) (.var 1))
     .nxt
     (.exit 2))
   (.blk 3
    (.chk (.b (.bin .mul) (.lit (.int .i64 2)) (.var 3))
    (.set 4 (.lit (.int .i64 0))
    (.set 5 (.b (.bin .mul) (.lit (.int .i64 2)) (.var 3))
    (.seq
     (.blk 4
      (.loop
       (.seq
        (.ite (.b (.bin .leq) (.var 5) (.var 1))
         .nxt
         (.exit 4))
       (.blk 5
        (.call false none 41 (.cn (.var 0) (.cn (.var 4) (.cn (.b (.bin .add) (.var 4) (.var 3)) (.cn (.var 5) (.cn (.var 2) .nl)))))
        (.set 4 (.var 5)
        (.set 5 (.b (.bin .add) (.var 5) (.b (.bin .mul) (.lit (.int .i64 2)) (.var 3)))
        .nxt)))))))
    (.set 6 (.b (.bin .add) (.var 4) (.var 3))
    (.seq
     (.ite (.b (.bin .lss) (.var 6) (.var 1))
      (.call false none 41 (.cn (.var 0) (.cn (.var 4) (.cn (.var 6) (.cn (.var 1) (.cn (.var 2) .nl)))))
      .nxt)
      .nxt)
    (.set 3 (.b (.bin .mul) (.var 3) (.lit (.int .i64 2)))
    .nxt))))))))))))))))
def f_slices_stableCmpFunc : Fun := ⟨s_slices_stableCmpFunc, []⟩
abbrev v_slices_stableCmpFunc : List Nat := [0, 1, 2, 6, 7, 8, 9]
theorem c_slices_stableCmpFunc : compF P Go.Proofs.Try.f36 v_slices_stableCmpFunc = some f_slices_stableCmpFunc := by kernel_rfl
theorem of_slices_stableCmpFunc {args : List Value} (hn : args.length ≤ 63) {h : Heap} {R : Value → Heap → Prop} (hs : s_slices_stableCmpFunc.wp P (f_slices_stableCmpFunc.post R) (env0 v_slices_stableCmpFunc args) h) : Runs P n_slices_stableCmpFunc args h R := fn_of P_mixed Go.Proofs.Try.func36 c_slices_stableCmpFunc (by rw [Go.Proofs.Try.ntmps36]; exact hn) hs
theorem vr_slices_stableCmpFunc {kp : Bool} {args : List A} {H : List Blk} {R : A → List Blk → Prop} (hlen : args.length ≤ 63) (hk : kp = false ∨ H = []) (hw : (∀ B ∈ H, A.bdL H.length B.cells = true) → A.bdL H.length args = true → s_slices_stableCmpFunc.aw P H.length (postA H.length f_slices_stableCmpFunc R) (envA v_slices_stableCmpFunc args) H) : VR P kp n_slices_stableCmpFunc args H R := VR.of (F := f_slices_stableCmpFunc) (V := v_slices_stableCmpFunc) of_slices_stableCmpFunc hlen hk fun h1 h2 => aw_sound (hw h1 h2)
theorem r_slices_stableCmpFunc : Fun.res f_slices_stableCmpFunc = [] := rfl
abbrev g_slices_stableCmpFunc_0 : List Nat := [4, 5]
abbrev g_slices_stableCmpFunc_1 : List Nat := [3, 4, 5, 6]
abbrev g_slices_stableCmpFunc_2 : List Nat := [4, 5]

/-- recycling/num.in -/
abbrev n_num_in : Nat := 37
def s_num_in : S :=
 (.set 1 (.lit (.bool false))
 (.set 5 (.var 0)
 (.set 3 (.u .len (.var 5))
 (.set 2 (.lit (.int .i64 0))
 (.seq
  (.blk 0
   (.loop
    (.set 4 (.b (.bin .lss) (.var 2) (.var 3))
    (.seq
     (.ite (.var 4)
      .nxt
      (.exit 0))
    (.seq
     (.blk 1
      (.set 6 (.u .ld1 (.b (.idx 1) (.var 5) (.var 2)))
      (.ite (.ite (.b (.bin .lss) (.var 6) (.lit (.int .i64 (-1125899906842624)))) (.lit (.bool true)) (.b (.bin .gtr) (.var 6) (.lit (.int .i64 1125899906842624))))
       (.set 1 (.lit (.bool false))
       .ret)
       .nxt)))
    (.set 2 (.b (.bin .add) (.var 2) (.lit (.int .i64 1)))
    .nxt))))))
 (.set 1 (.lit (.bool true))
 .ret))))))
def f_num_in : Fun := ⟨s_num_in, [(.var 1)]⟩
abbrev v_num_in : List Nat := [0, 2, 7, 6, 8, 5, 4]
theorem c_num_in : compF P Go.Proofs.Try.f37 v_num_in = some f_num_in := by kernel_rfl
theorem of_num_in {args : List Value} (hn : args.length ≤ 18) {h : Heap} {R : Value → Heap → Prop} (hs : s_num_in.wp P (f_num_in.post R) (env0 v_num_in args) h) : Runs P n_num_in args h R := fn_of P_mixed Go.Proofs.Try.func37 c_num_in (by rw [Go.Proofs.Try.ntmps37]; exact hn) hs
theorem vr_num_in {kp : Bool} {args : List A} {H : List Blk} {R : A → List Blk → Prop} (hlen : args.length ≤ 18) (hk : kp = false ∨ H = []) (hw : (∀ B ∈ H, A.bdL H.length B.cells = true) → A.bdL H.length args = true → s_num_in.aw P H.length (postA H.length f_num_in R) (envA v_num_in args) H) : VR P kp n_num_in args H R := VR.of (F := f_num_in) (V := v_num_in) of_num_in hlen hk fun h1 h2 => aw_sound (hw h1 h2)
theorem r_num_in : Fun.res f_num_in = [(.var 1)] := rfl
abbrev g_num_in_0 : List Nat := [1, 2, 4, 6]

/-- recycling/num.checked -/
abbrev n_num_checked : Nat := 38
def s_num_checked : S :=
 (.set 1 (.lit (.int .i64 0))
 (.set 2 (.lit (.int .i64 0))
 (.eff false (some 3) (.lit 3 1 1 [(.int .i64 0)] (.pl 0 1 (.var 0) .nl))
 (.call false (some 4) 37 (.cn (.var 3) .nl)
 (.seq
  (.ite (.u (.un .not) (.var 4))
   (.set 1 (.lit (.int .i64 0))
   (.set 2 (.lit (.int .i64 2))
   .ret))
   .nxt)
 (.set 1 (.var 0)
 (.set 2 (.lit (.int .i64 0))
 .ret)))))))
def f_num_checked : Fun := ⟨s_num_checked, [(.var 1), (.var 2)]⟩
abbrev v_num_checked : List Nat := [0, 2, 3, 5, 6]
theorem c_num_checked : compF P Go.Proofs.Try.f38 v_num_checked = some f_num_checked := by kernel_rfl
theorem of_num_checked {args : List Value} (hn : args.length ≤ 9) {h : Heap} {R : Value → Heap → Prop} (hs : s_num_checked.wp P (f_num_checked.post R) (env0 v_num_checked args) h) : Runs P n_num_checked args h R := fn_of P_mixed Go.Proofs.Try.func38 c_num_checked (by rw [Go.Proofs.Try.ntmps38]; exact hn) hs
theorem vr_num_checked {kp : Bool} {args : List A} {H : List Blk} {R : A → List Blk → Prop} (hlen : args.length ≤ 9) (hk : kp = false ∨ H = []) (hw : (∀ B ∈ H, A.bdL H.length B.cells = true) → A.bdL H.length args = true → s_num_checked.aw P H.length (postA H.length f_num_checked R) (envA v_num_checked args) H) : VR P kp n_num_checked args H R := VR.of (F := f_num_checked) (V := v_num_checked) of_num_checked hlen hk fun h1 h2 => aw_sound (hw h1 h2)
theorem r_num_checked : Fun.res f_num_checked = [(.var 1), (.var 2)] := rfl

/-- math/bits.Len64 -/
abbrev n_bits_Len64 : Nat := 39
def s_bits_Len64 : S :=
 (.set 1 (.lit (.int .i64 0))
 (.seq
  (.ite (.b (.bin .geq) (.var 0) (.lit (.int .u64 4294967296)))
   (.set 0 (.b (.bin .shr) (.var 0) (.lit (.int .u64 32)))
   (.set 1 (.lit (.int .i64 32))
   .nxt))
   .nxt)
 (.seq
  (.ite (.b (.bin .geq) (.var 0) (.lit (.int .u64 65536)))
   (.set 0 (.b (.bin .shr) (.var 0) (.lit (.int .u64 16)))
   (.set 1 (.b (.bin .add) (.var 1) (.lit (.int .i64 16)))
   .nxt))
   .nxt)
 (.seq
  (.ite (.b (.bin .geq) (.var 0) (.lit (.int .u64 256)))
   (.set 0 (.b (.bin .shr) (.var 0) (.lit (.int .u64 8)))
   (.set 1 (.b (.bin .add) (.var 1) (.lit (.int .i64 8)))
   .nxt))
   .nxt)
 (.chk (.b .ixs (.lit (.string ⟨#[0, 1, 2, 2, 3, 3, 3, 3, 4, 4, 4, 4, 4, 4, 4, 4, 5, 5, 5, 5, 5, 5, 5, 5, 5, 5, 5, 5, 5, 5, 5, 5, 6, 6, 6, 6, 6, 6, 6, 6, 6, 6, 6, 6, 6, 6, 6, 6, 6, 6, 6, 6, 6, 6, 6, 6, 6, 6, 6, 6, 6, 6, 6, 6, 7, 7, 7, 7, 7, 7, 7, 7, 7, 7, 7, 7, 7, 7, 7, 7, 7, 7, 7, 7, 7, 7, 7, 7, 7, 7, 7, 7, 7, 7, 7, 7, 7, 7, 7, 7, 7, 7, 7, 7, 7, 7, 7, 7, 7, 7, 7, 7, 7, 7, 7, 7, 7, 7, 7, 7, 7, 7, 7, 7, 7, 7, 7, 7, 8, 8, 8, 8, 8, 8, 8, 8, 8, 8, 8, 8, 8, 8, 8, 8, 8, 8, 8, 8, 8, 8, 8, 8, 8, 8, 8, 8, 8, 8, 8, 8, 8, 8, 8, 8, 8, 8, 8, 8, 8, 8, 8, 8, 8, 8, 8, 8, 8, 8, 8, 8, 8, 8, 8, 8, 8, 8, 8, 8, 8, 8, 8, 8, 8, 8, 8, 8, 8, 8, 8, 8, 8, 8, 8, 8, 8, 8, 8, 8, 8, 8, 8, 8, 8, 8, 8, 8, 8, 8, 8, 8, 8, 8, 8, 8, 8, 8, 8, 8, 8, 8, 8, 8, 8, 8, 8, 8, 8, 8, 8, 8, 8, 8, 8, 8, 8, 8, 8, 8, 8, 8, 8, 8, 8, 8, 8, 8]⟩)) (.u (.conv .u8) (.var 0)))
 (.chk (.u (.conv .i64) (.b .ixs (.lit (.string ⟨#[0, 1, 2, 2, 3, 3, 3, 3, 4, 4, 4, 4, 4, 4, 4, 4, 5, 5, 5, 5, 5, 5, 5, 5, 5, 5, 5, 5, 5, 5, 5, 5, 6, 6, 6, 6, 6, 6, 6, 6, 6, 6, 6, 6, 6, 6, 6, 6, 6, 6, 6, 6, 6, 6, 6, 6, 6, 6, 6, 6, 6, 6, 6, 6, 7, 7, 7, 7, 7, 7, 7, 7, 7, 7, 7, 7, 7, 7, 7, 7, 7, 7, 7, 7, 7, 7, 7, 7, 7, 7, 7, 7, 7, 7, 7, 7, 7, 7, 7, 7, 7, 7, 7, 7, 7, 7, 7, 7, 7, 7, 7, 7, 7, 7, 7, 7, 7, 7, 7, 7, 7, 7, 7, 7, 7, 7, 7, 7, 8, 8, 8, 8, 8, 8, 8, 8, 8, 8, 8, 8, 8, 8, 8, 8, 8, 8, 8, 8, 8, 8, 8, 8, 8, 8, 8, 8, 8, 8, 8, 8, 8, 8, 8, 8, 8, 8, 8, 8, 8, 8, 8, 8, 8, 8, 8, 8, 8, 8, 8, 8, 8, 8, 8, 8, 8, 8, 8, 8, 8, 8, 8, 8, 8, 8, 8, 8, 8, 8, 8, 8, 8, 8, 8, 8, 8, 8, 8, 8, 8, 8, 8, 8, 8, 8, 8, 8, 8, 8, 8, 8, 8, 8, 8, 8, 8, 8, 8, 8, 8, 8, 8, 8, 8, 8, 8, 8, 8, 8, 8, 8, 8, 8, 8, 8, 8, 8, 8, 8, 8, 8, 8, 8, 8, 8, 8, 8]⟩)) (.u (.conv .u8) (.var 0))))
 (.chk (.b (.bin .add) (.var 1) (.u (.conv .i64) (.b .ixs (.lit (.string ⟨#[0, 1, 2, 2, 3, 3, 3, 3, 4, 4, 4, 4, 4, 4, 4, 4, 5, 5, 5, 5, 5, 5, 5, 5, 5, 5, 5, 5, 5, 5, 5, 5, 6, 6, 6, 6, 6, 6, 6, 6, 6, 6, 6, 6, 6, 6, 6, 6, 6, 6, 6, 6, 6, 6, 6, 6, 6, 6, 6, 6, 6, 6, 6, 6, 7, 7, 7, 7, 7, 7, 7, 7, 7, 7, 7, 7, 7, 7, 7, 7, 7, 7, 7, 7, 7, 7, 7, 7, 7, 7, 7, 7, 7, 7, 7, 7, 7, 7, 7, 7, 7, 7, 7, 7, 7, 7, 7, 7, 7, 7, 7, 7, 7, 7, 7, 7, 7, 7, 7, 7, 7, 7, 7, 7, 7, 7, 7, 7, 8, 8, 8, 8, 8, 8, 8, 8, 8, 8, 8, 8, 8, 8, 8, 8, 8, 8, 8, 8, 8, 8, 8, 8, 8, 8, 8, 8, 8, 8, 8, 8, 8, 8, 8, 8, 8, 8, 8, 8, 8, 8, 8, 8, 8, 8, 8, 8, 8, 8, 8, 8, 8, 8, 8, 8, 8, 8, 8, 8, 8, 8, 8, 8, 8, 8, 8, 8, 8, 8, 8, 8, 8, 8, 8, 8, 8, 8, 8, 8, 8, 8, 8, 8, 8, 8, 8, 8, 8, 8, 8, 8, 8, 8, 8, 8, 8, 8, 8, 8, 8, 8, 8, 8, 8, 8, 8, 8, 8, 8, 8, 8, 8, 8, 8, 8, 8, 8, 8, 8, 8, 8, 8, 8, 8, 8, 8, 8]⟩)) (.u (.conv .u8) (.var 0)))))
 (.set 1 (.b (.bin .add) (.var 1) (.u (.conv .i64) (.b .ixs (.lit (.string ⟨#[0, 1, 2, 2, 3, 3, 3, 3, 4, 4, 4, 4, 4, 4, 4, 4, 5, 5, 5, 5, 5, 5, 5, 5, 5, 5, 5, 5, 5, 5, 5, 5, 6, 6, 6, 6, 6, 6, 6, 6, 6, 6, 6, 6, 6, 6, 6, 6, 6, 6, 6, 6, 6, 6, 6, 6, 6, 6, 6, 6, 6, 6, 6, 6, 7, 7, 7, 7, 7, 7, 7, 7, 7, 7, 7, 7, 7, 7, 7, 7, 7, 7, 7, 7, 7, 7, 7, 7, 7, 7, 7, 7, 7, 7, 7, 7, 7, 7, 7, 7, 7, 7, 7, 7, 7, 7, 7, 7, 7, 7, 7, 7, 7, 7, 7, 7, 7, 7, 7, 7, 7, 7, 7, 7, 7, 7, 7, 7, 8, 8, 8, 8, 8, 8, 8, 8, 8, 8, 8, 8, 8, 8, 8, 8, 8, 8, 8, 8, 8, 8, 8, 8, 8, 8, 8, 8, 8, 8, 8, 8, 8, 8, 8, 8, 8, 8, 8, 8, 8, 8, 8, 8, 8, 8, 8, 8, 8, 8, 8, 8, 8, 8, 8, 8, 8, 8, 8, 8, 8, 8, 8, 8, 8, 8, 8, 8, 8, 8, 8, 8, 8, 8, 8, 8, 8, 8, 8, 8, 8, 8, 8, 8, 8, 8, 8, 8, 8, 8, 8, 8, 8, 8, 8, 8, 8, 8, 8, 8, 8, 8, 8, 8, 8, 8, 8, 8, 8, 8, 8, 8, 8, 8, 8, 8, 8, 8, 8, 8, 8, 8, 8, 8, 8, 8, 8, 8]⟩)) (.u (.conv .u8) (.var 0)))))
 .ret))))))))
def f_bits_Len64 : Fun := ⟨s_bits_Len64, [(.var 1)]⟩
abbrev v_bits_Len64 : List Nat := [0, 2]
theorem c_bits_Len64 : compF P Go.Proofs.Try.f39 v_bits_Len64 = some f_bits_Len64 := by kernel_rfl
theorem of_bits_Len64 {args : List Value} (hn : args.length ≤ 25) {h : Heap} {R : Value → Heap → Prop} (hs : s_bits_Len64.wp P (f_bits_Len64.post R) (env0 v_bits_Len64 args) h) : Runs P n_bits_Len64 args h R := fn_of P_mixed Go.Proofs.Try.func39 c_bits_Len64 (by rw [Go.Proofs.Try.ntmps39]; exact hn) hs
theorem vr_bits_Len64 {kp : Bool} {args : List A} {H : List Blk} {R : A → List Blk → Prop} (hlen : args.length ≤ 25) (hk : kp = false ∨ H = []) (hw : (∀ B ∈ H, A.bdL H.length B.cells = true) → A.bdL H.length args = true → s_bits_Len64.aw P H.length (postA H.length f_bits_Len64 R) (envA v_bits_Len64 args) H) : VR P kp n_bits_Len64 args H R := VR.of (F := f_bits_Len64) (V := v_bits_Len64) of_bits_Len64 hlen hk fun h1 h2 => aw_sound (hw h1 h2)
theorem r_bits_Len64 : Fun.res f_bits_Len64 = [(.var 1)] := rfl

/-- slices.insertionSortCmpFunc[int] -/
abbrev n_slices_insertionSortCmpFunc : Nat := 40
def s_slices_insertionSortCmpFunc : S :=
 (.set 4 (.b (.bin .add) (.var 1) (.lit (.int .i64 1)))
 (.blk 0
  (.loop
   (.seq
    (.ite (.b (.bin .lss) (.var 4) (.var 2))
     .nxt
     (.exit 0))
   (.seq
    (.blk 1
     (.set 5 (.var 4)
     (.blk 2
      (.loop
       (.chk (.ite (.b (.bin .gtr) (.var 5) (.var 1)) (.u .ld1 (.b (.idx 1) (.var 0) (.var 5))) (.lit undef))
       (.chk (.ite (.b (.bin .gtr) (.var 5) (.var 1)) (.u .ld1 (.b (.idx 1) (.var 0) (.b (.bin .sub) (.var 5) (.lit (.int .i64 1))))) (.lit undef))
       (.seq
        (.ite (.b (.bin .gtr) (.var 5) (.var 1))
         (.callv false (some 6) (.var 3) (.cn (.u .ld1 (.b (.idx 1) (.var 0) (.var 5))) (.cn (.u .ld1 (.b (.idx 1) (.var 0) (.b (.bin .sub) (.var 5) (.lit (.int .i64 1))))) .nl))
         (.ite (.b (.bin .lss) (.var 6) (.lit (.int .i64 0)))
          .nxt
          (.exit 2)))
         (.set 6 (.lit undef)
         (.ite (.lit (.bool false))
          .nxt
          (.exit 2))))
       (.seq
        (.blk 3
         (.chk (.u .ld1 (.b (.idx 1) (.var 0) (.b (.bin .sub) (.var 5) (.lit (.int .i64 1)))))
         (.set 7 (.u .ld1 (.b (.idx 1) (.var 0) (.var 5)))
         (.eff false none (.st 1 (.b (.idx 1) (.var 0) (.var 5)) (.u .ld1 (.b (.idx 1) (.var 0) (.b (.bin .sub) (.var 5) (.lit (.int .i64 1))))))
         (.eff false none (.st 1 (.b (.idx 1) (.var 0) (.b (.bin .sub) (.var 5) (.lit (.int .i64 1)))) (.var 7))
         .nxt)))))
       (.set 5 (.b (.bin .sub) (.var 5) (.lit (.int .i64 1)))
       .nxt)))))))))
   (.set 4 (.b (.bin .add) (.var 4) (.lit (.int .i64 1)))
   .nxt))))))
def f_slices_insertionSortCmpFunc : Fun := ⟨s_slices_insertionSortCmpFunc, []⟩
abbrev v_slices_insertionSortCmpFunc : List Nat := [0, 1, 2, 3, 8, 9, 32, 50]
theorem c_slices_insertionSortCmpFunc : compF P Go.Proofs.Try.f40 v_slices_insertionSortCmpFunc = some f_slices_insertionSortCmpFunc := by kernel_rfl
theorem of_slices_insertionSortCmpFunc {args : List Value} (hn : args.length ≤ 53) {h : Heap} {R : Value → Heap → Prop} (hs : s_slices_insertionSortCmpFunc.wp P (f_slices_insertionSortCmpFunc.post R) (env0 v_slices_insertionSortCmpFunc args) h) : Runs P n_slices_insertionSortCmpFunc args h R := fn_of P_mixed Go.Proofs.Try.func40 c_slices_insertionSortCmpFunc (by rw [Go.Proofs.Try.ntmps40]; exact hn) hs
theorem vr_slices_insertionSortCmpFunc {kp : Bool} {args : List A} {H : List Blk} {R : A → List Blk → Prop} (hlen : args.length ≤ 53) (hk : kp = false ∨ H = []) (hw : (∀ B ∈ H, A.bdL H.length B.cells = true) → A.bdL H.length args = true → s_slices_insertionSortCmpFunc.aw P H.length (postA H.length f_slices_insertionSortCmpFunc R) (envA v_slices_insertionSortCmpFunc args) H) : VR P kp n_slices_insertionSortCmpFunc args H R := VR.of (F := f_slices_insertionSortCmpFunc) (V := v_slices_insertionSortCmpFunc) of_slices_insertionSortCmpFunc hlen hk fun h1 h2 => aw_sound (hw h1 h2)
theorem r_slices_insertionSortCmpFunc : Fun.res f_slices_insertionSortCmpFunc = [] := rfl
abbrev g_slices_insertionSortCmpFunc_0 : List Nat := [4, 5, 6, 7]
abbrev g_slices_insertionSortCmpFunc_1 : List Nat := [5, 6, 7]

/-- slices.symMergeCmpFunc[int] -/
abbrev n_slices_symMergeCmpFunc : Nat := 41
def s_slices_symMergeCmpFunc : S :=
 (.seq
  (.ite (.b (.bin .eql) (.b (.bin .sub) (.var 2) (.var 1)) (.lit (.int .i64 1)))
   (.set 5 (.var 2)
   (.set 6 (.var 3)
   (.seq
    (.blk 0
     (.loop
      (.seq
       (.ite (.b (.bin .lss) (.var 5) (.var 6))
        .nxt
        (.exit 0))
      (.blk 1
       (.set 7 (.u (.conv .i64) (.b (.bin .shr) (.u (.conv .u64) (.b (.bin .add) (.var 5) (.var 6))) (.lit (.int .u64 1))))
       (.callv false (some 20) (.var 4) (.cn (.u .ld1 (.b (.idx 1) (.var 0) (.var 7))) (.cn (.u .ld1 (.b (.idx 1) (.var 0) (.var 1))) .nl))
       (.ite (.b (.bin .lss) (.var 20) (.lit (.int .i64 0)))
        (.set 5 (.b (.bin .add) (.var 7) (.lit (.int .i64 1)))
        .nxt)
        (.set 6 (.var 7)
        .nxt))))))))
   (.set 8 (.var 1)
   (.seq
    (.blk 2
     (.loop
      (.seq
       (.ite (.b (.bin .lss) (.var 8) (.b (.bin .sub) (.var 5) (.lit (.int .i64 1))))
        .nxt
        (.exit 2))
      (.seq
       (.blk 3
        (.chk (.u .ld1 (.b (.idx 1) (.var 0) (.b (.bin .add) (.var 8) (.lit (.int .i64 1)))))
        (.set 21 (.u .ld1 (.b (.idx 1) (.var 0) (.var 8)))
        (.eff false none (.st 1 (.b (.idx 1) (.var 0) (.var 8)) (.u .ld1 (.b (.idx 1) (.var 0) (.b (.bin .add) (.var 8) (.lit (.int .i64 1))))))
        (.eff false none (.st 1 (.b (.idx 1) (.var 0) (.b (.bin .add) (.var 8) (.lit (.int .i64 1)))) (.var 21))
        .nxt)))))
      (.set 8 (.b (.bin .add) (.var 8) (.lit (.int .i64 1)))
      .nxt)))))
   .ret)))))
   .nxt)
 (.seq
  (.ite (.b (.bin .eql) (.b (.bin .sub) (.var 3) (.var 2)) (.lit (.int .i64 1)))
   (.set 9 (.var 1)
   (.set 10 (.var 2)
   (.seq
    (.blk 4
     (.loop
      (.seq
       (.ite (.b (.bin .lss) (.var 9) (.var 10))
        .nxt
        (.exit 4))
      (.blk 5
       (.set 11 (.u (.conv .i64) (.b (.bin .shr) (.u (.conv .u64) (.b (.bin .add) (.var 9) (.var 10))) (.lit (.int .u64 1))))
       (.callv false (some 22) (.var 4) (.cn (.u .ld1 (.b (.idx 1) (.var 0) (.var 2))) (.cn (.u .ld1 (.b (.idx 1) (.var 0) (.var 11))) .nl))
       (.ite (.u (.un .not) (.b (.bin .lss) (.var 22) (.lit (.int .i64 0))))
        (.set 9 (.b (.bin .add) (.var 11) (.lit (.int .i64 1)))
        .nxt)
        (.set 10 (.var 11)
        .nxt))))))))
   (.set 12 (.var 2)
   (.seq
    (.blk 6
     (.loop
      (.seq
       (.ite (.b (.bin .gtr) (.var 12) (.var 9))
        .nxt
        (.exit 6))
      (.seq
       (.blk 7
        (.chk (.u .ld1 (.b (.idx 1) (.var 0) (.b (.bin .sub) (.var 12) (.lit (.int .i64 1)))))
        (.set 23 (.u .ld1 (.b (.idx 1) (.var 0) (.var 12)))
        (.eff false none (.st 1 (.b (.idx 1) (.var 0) (.var 12)) (.u .ld1 (.b (.idx 1) (.var 0) (.b (.bin .sub) (.var 12) (.lit (.int .i64 1))))))
        (.eff false none (.st 1 (.b (.idx 1) (.var 0) (.b (.bin .sub) (.var 12) (.lit (.int .i64 1)))) (.var 23))
        .nxt)))))
      (.set 12 (.b (.bin .sub) (.var 12) (.lit (.int .i64 1)))
      .nxt)))))
   .ret)))))
   .nxt)
 (.set 13 (.u (.conv .i64) (.b (.bin .shr) (.u (.conv .u64) (.b (.bin .add) (.var 1) (.var 3))) (.lit (.int .u64 1))))
 (.set 14 (.b (.bin .add) (.var 13) (.var 2))
 (.set 15 (.lit (.int .i64 0))
 (.set 16 (.lit (.int .i64 0))
 (.seq
  (.ite (.b (.bin .gtr) (.var 2) (.var 13))
   (.set 15 (.b (.bin .sub) (.var 14) (.var 3))
   (.set 16 (.var 13)
   .nxt))
   (.set 15 (.var 1)
   (.set 16 (.var 2)
   .nxt)))
 (.set 17 (.b (.bin .sub) (.var 14) (.lit (.int .i64 1)))
 (.seq
  (.blk 8
   (.loop
    (.seq
     (.ite (.b (.bin .lss) (.var 15) (.var 16))
      .nxt
      (.exit 8))
    (.blk 9
     (.set 18 (.u (.conv .i64) (.b (.bin .shr) (.u (.conv .u64) (.b (.bin .add) (.var 15) (.var 16))) (.lit (.int .u64 1))))
     (.callv false (some 24) (.var 4) (.cn (.u .ld1 (.b (.idx 1) (.var 0) (.b (.bin .sub) (.var 17) (.var 18)))) (.cn (.u .ld1 (.b (.idx 1) (.var 0) (.var 18))) .nl))
     (.ite (.u (.un .not) (.b (.bin .lss) (.var 24) (.lit (.int .i64 0))))
      (.set 15 (.b (.bin .add) (.var 18) (.lit (.int .i64 1)))
      .nxt)
      (.set 16 (.var 18)
      .nxt))))))))
 (.set 19 (.b (.bin .sub) (.var 14) (.var 15))
 (.seq
  (.ite (.ite (.b (.bin .lss) (.var 15) (.var 2)) (.b (.bin .lss) (.var 2) (.var 19)) (.lit (.bool false)))
   (.call false none 42 (.cn (.var 0) (.cn (.var 15) (.cn (.var 2) (.cn (.var 19) (.cn (.var 4) .nl)))))
   .nxt)
   .nxt)
 (.seq
  (.ite (.ite (.b (.bin .lss) (.var 1) (.var 15)) (.b (.bin .lss) (.var 15) (.var 13)) (.lit (.bool false)))
   (.call false none 41 (.cn (.var 0) (.cn (.var 1) (.cn (.var 15) (.cn (.var 13) (.cn (.var 4) .nl)))))
   .nxt)
   .nxt)
 (.ite (.ite (.b (.bin .lss) (.var 13) (.var 19)) (.b (.bin .lss) (.var 19) (.var 3)) (.lit (.bool false)))
  (.call false none 41 (.cn (.var 0) (.cn (.var 13) (.cn (.var 19) (.cn (.var 3) (.cn (.var 4) .nl)))))
  .nxt)
  .nxt)))))))))))))
def f_slices_symMergeCmpFunc : Fun := ⟨s_slices_symMergeCmpFunc, []⟩
abbrev v_slices_symMergeCmpFunc : List Nat := [0, 1, 2, 3, 4, 10, 11, 12, 13, 14, 15, 16, 17, 18, 19, 20, 21, 22, 23, 24, 49, 74, 101, 126, 169]
theorem c_slices_symMergeCmpFunc : compF P Go.Proofs.Try.f41 v_slices_symMergeCmpFunc = some f_slices_symMergeCmpFunc := by kernel_rfl
theorem of_slices_symMergeCmpFunc {args : List Value} (hn : args.length ≤ 220) {h : Heap} {R : Value → Heap → Prop} (hs : s_slices_symMergeCmpFunc.wp P (f_slices_symMergeCmpFunc.post R) (env0 v_slices_symMergeCmpFunc args) h) : Runs P n_slices_symMergeCmpFunc args h R := fn_of P_mixed Go.Proofs.Try.func41 c_slices_symMergeCmpFunc (by rw [Go.Proofs.Try.ntmps41]; exact hn) hs
theorem vr_slices_symMergeCmpFunc {kp : Bool} {args : List A} {H : List Blk} {R : A → List Blk → Prop} (hlen : args.length ≤ 220) (hk : kp = false ∨ H = []) (hw : (∀ B ∈ H, A.bdL H.length B.cells = true) → A.bdL H.length args = true → s_slices_symMergeCmpFunc.aw P H.length (postA H.length f_slices_symMergeCmpFunc R) (envA v_slices_symMergeCmpFunc args) H) : VR P kp n_slices_symMergeCmpFunc args H R := VR.of (F := f_slices_symMergeCmpFunc) (V := v_slices_symMergeCmpFunc) of_slices_symMergeCmpFunc hlen hk fun h1 h2 => aw_sound (hw h1 h2)
theorem r_slices_symMergeCmpFunc : Fun.res f_slices_symMergeCmpFunc = [] := rfl
abbrev g_slices_symMergeCmpFunc_0 : List Nat := [5, 6, 7, 20]
abbrev g_slices_symMergeCmpFunc_1 : List Nat := [8, 21]
abbrev g_slices_symMergeCmpFunc_2 : List Nat := [9, 10, 11, 22]
abbrev g_slices_symMergeCmpFunc_3 : List Nat := [12, 23]
abbrev g_slices_symMergeCmpFunc_4 : List Nat := [15, 16, 18, 24]

/-- slices.rotateCmpFunc[int] -/
abbrev n_slices_rotateCmpFunc : Nat := 42
def s_slices_rotateCmpFunc : S :=
 (.set 5 (.b (.bin .sub) (.var 2) (.var 1))
 (.set 6 (.b (.bin .sub) (.var 3) (.var 2))
 (.seq
  (.blk 0
   (.loop
    (.seq
     (.ite (.b (.bin .neq) (.var 5) (.var 6))
      .nxt
      (.exit 0))
    (.blk 1
     (.ite (.b (.bin .gtr) (.var 5) (.var 6))
      (.call false none 43 (.cn (.var 0) (.cn (.b (.bin .sub) (.var 2) (.var 5)) (.cn (.var 2) (.cn (.var 6) (.cn (.var 4) .nl)))))
      (.set 5 (.b (.bin .sub) (.var 5) (.var 6))
      .nxt))
      (.call false none 43 (.cn (.var 0) (.cn (.b (.bin .sub) (.var 2) (.var 5)) (.cn (.b (.bin .sub) (.b (.bin .add) (.var 2) (.var 6)) (.var 5)) (.cn (.var 5) (.cn (.var 4) .nl)))))
      (.set 6 (.b (.bin .sub) (.var 6) (.var 5))
      .nxt)))))))
 (.call false none 43 (.cn (.var 0) (.cn (.b (.bin .sub) (.var 2) (.var 5)) (.cn (.var 2) (.cn (.var 5) (.cn (.var 4) .nl)))))
 .nxt))))
def f_slices_rotateCmpFunc : Fun := ⟨s_slices_rotateCmpFunc, []⟩
abbrev v_slices_rotateCmpFunc : List Nat := [0, 1, 2, 3, 4, 10, 11]
theorem c_slices_rotateCmpFunc : compF P Go.Proofs.Try.f42 v_slices_rotateCmpFunc = some f_slices_rotateCmpFunc := by kernel_rfl
theorem of_slices_rotateCmpFunc {args : List Value} (hn : args.length ≤ 58) {h : Heap} {R : Value → Heap → Prop} (hs : s_slices_rotateCmpFunc.wp P (f_slices_rotateCmpFunc.post R) (env0 v_slices_rotateCmpFunc args) h) : Runs P n_slices_rotateCmpFunc args h R := fn_of P_mixed Go.Proofs.Try.func42 c_slices_rotateCmpFunc (by rw [Go.Proofs.Try.ntmps42]; exact hn) hs
theorem vr_slices_rotateCmpFunc {kp : Bool} {args : List A} {H : List Blk} {R : A → List Blk → Prop} (hlen : args.length ≤ 58) (hk : kp = false ∨ H = []) (hw : (∀ B ∈ H, A.bdL H.length B.cells = true) → A.bdL H.length args = true → s_slices_rotateCmpFunc.aw P H.length (postA H.length f_slices_rotateCmpFunc R) (envA v_slices_rotateCmpFunc args) H) : VR P kp n_slices_rotateCmpFunc args H R := VR.of (F := f_slices_rotateCmpFunc) (V := v_slices_rotateCmpFunc) of_slices_rotateCmpFunc hlen hk fun h1 h2 => aw_sound (hw h1 h2)
theorem r_slices_rotateCmpFunc : Fun.res f_slices_rotateCmpFunc = [] := rfl
abbrev g_slices_rotateCmpFunc_0 : List Nat := [5, 6]

/-- slices.swapRangeCmpFunc[int] -/
abbrev n_slices_swapRangeCmpFunc : Nat := 43
def s_slices_swapRangeCmpFunc : S :=
 (.set 5 (.lit (.int .i64 0))
 (.blk 0
  (.loop
   (.seq
    (.ite (.b (.bin .lss) (.var 5) (.var 3))
     .nxt
     (.exit 0))
   (.seq
    (.blk 1
     (.chk (.b (.bin .add) (.var 1) (.var 5))
     (.chk (.u .ld1 (.b (.idx 1) (.var 0) (.b (.bin .add) (.var 2) (.var 5))))
     (.set 6 (.u .ld1 (.b (.idx 1) (.var 0) (.b (.bin .add) (.var 1) (.var 5))))
     (.eff false none (.st 1 (.b (.idx 1) (.var 0) (.b (.bin .add) (.var 1) (.var 5))) (.u .ld1 (.b (.idx 1) (.var 0) (.b (.bin .add) (.var 2) (.var 5)))))
     (.eff false none (.st 1 (.b (.idx 1) (.var 0) (.b (.bin .add) (.var 2) (.var 5))) (.var 6))
     .nxt))))))
   (.set 5 (.b (.bin .add) (.var 5) (.lit (.int .i64 1)))
   .nxt))))))
def f_slices_swapRangeCmpFunc : Fun := ⟨s_slices_swapRangeCmpFunc, []⟩
abbrev v_slices_swapRangeCmpFunc : List Nat := [0, 1, 2, 3, 4, 10, 35]
theorem c_slices_swapRangeCmpFunc : compF P Go.Proofs.Try.f43 v_slices_swapRangeCmpFunc = some f_slices_swapRangeCmpFunc := by kernel_rfl
theorem of_slices_swapRangeCmpFunc {args : List Value} (hn : args.length ≤ 38) {h : Heap} {R : Value → Heap → Prop} (hs : s_slices_swapRangeCmpFunc.wp P (f_slices_swapRangeCmpFunc.post R) (env0 v_slices_swapRangeCmpFunc args) h) : Runs P n_slices_swapRangeCmpFunc args h R := fn_of P_mixed Go.Proofs.Try.func43 c_slices_swapRangeCmpFunc (by rw [Go.Proofs.Try.ntmps43]; exact hn) hs
theorem vr_slices_swapRangeCmpFunc {kp : Bool} {args : List A} {H : List Blk} {R : A → List Blk → Prop} (hlen : args.length ≤ 38) (hk : kp = false ∨ H = []) (hw : (∀ B ∈ H, A.bdL H.length B.cells = true) → A.bdL H.length args = true → s_slices_swapRangeCmpFunc.aw P H.length (postA H.length f_slices_swapRangeCmpFunc R) (envA v_slices_swapRangeCmpFunc args) H) : VR P kp n_slices_swapRangeCmpFunc args H R := VR.of (F := f_slices_swapRangeCmpFunc) (V := v_slices_swapRangeCmpFunc) of_slices_swapRangeCmpFunc hlen hk fun h1 h2 => aw_sound (hw h1 h2)
theorem r_slices_swapRangeCmpFunc : Fun.res f_slices_swapRangeCmpFunc = [] := rfl
abbrev g_slices_swapRangeCmpFunc_0 : List Nat := [5, 6]

end Go.Proofs.Ytnpbnlafaoldcaa
