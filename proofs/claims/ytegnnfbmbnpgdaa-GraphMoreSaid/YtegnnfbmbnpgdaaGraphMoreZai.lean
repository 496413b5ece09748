/- Lemmas and walks that the proof of GraphMore uses. No statement is claimed here. -/
import Derived.Test.YtegnnfbmbnpgdaaGraphMoreZah
import Derived.Test.YtegnnfbmbnpgdaaChecked
import Derived.KernelRfl
namespace Go.Proofs.Ytegnnfbmbnpgdaa
open Go Go.Lft
set_option maxRecDepth 100000
noncomputable abbrev P : Program := Go.Proofs.Try.prog
theorem P_mixed : P.follows .mixedOrders = true := by kernel_rfl

/-- recycling/recyclinglaw09.GraphMore -/
abbrev n_law09_GraphMore : Nat := 3
def s_law09_GraphMore : S :=
 (.eff false (some 4) (.box 24 (.var 0))
 (.eff false (some 7) (.box 26 (.var 2))
 (.set 3 (.lit (.bool false))
 (.call false (some 15) 4 (.cn (.u (.lda 2) (.var 4)) (.cn (.var 1) .nl))
 (.chk (.u (.ext 0) (.var 15))
 (.chk (.u (.ext 1) (.var 15))
 (.set 5 (.u (.ext 0) (.var 15))
 (.set 6 (.u (.ext 1) (.var 15))
 (.seq
  (.ite (.ite (.b (.bin .neq) (.var 6) (.lit (.int .i64 0))) (.lit (.bool true)) (.b (.bin .gtr) (.u .len (.u .ld1 (.u (.fld 1) (.var 4)))) (.lit (.int .i64 500))))
   (.call false (some 16) 5 .nl
   (.set 3 (.var 16)
   .ret))
   .nxt)
 (.seq
  (.both
   (.both
    (.both
     (.both
      (.set 24 (.u .ld1 (.u (.fld 0) (.var 4)))
      (.chk (.u .ld1 (.u (.fld 1) (.var 4)))
      (.set 23 (.u (.lda 2) (.var 7))
      (.eff false (some 17) (.lit 26 2 0 [(.int .i64 0), (.int .i64 0)] .nl)
      (.eff false (some 22) (.lit 26 2 1 [(.int .i64 0), (.int .i64 0)] (.pl 0 2 (.var 23) .nl))
      (.eff false (some 8) (.alloc 24 [(.int .i64 0), (.slice none 0 0)])
      (.eff false (some 21) (.app 26 2 16 [(.int .i64 0), (.int .i64 0)] (.var 17) (.u .ld1 (.u (.fld 1) (.var 4))))
      (.eff false (some 25) (.app 26 2 16 [(.int .i64 0), (.int .i64 0)] (.var 21) (.var 22))
      (.chk (.bld [(.int .i64 0), (.slice none 0 0)] (.pl 0 1 (.var 24) (.pl 1 1 (.var 25) .nl)))
      (.eff false none (.st 2 (.var 8) (.bld [(.int .i64 0), (.slice none 0 0)] (.pl 0 1 (.var 24) (.pl 1 1 (.var 25) .nl))))
      .nxt))))))))))
      (.both
       (.set 24 (.u .ld1 (.u (.fld 0) (.var 4)))
       (.chk (.u .ld1 (.u (.fld 1) (.var 4)))
       (.set 23 (.u (.lda 2) (.var 7))
       (.eff false (some 17) (.lit 26 2 0 [(.int .i64 0), (.int .i64 0)] .nl)
       (.eff false (some 22) (.lit 26 2 1 [(.int .i64 0), (.int .i64 0)] (.pl 0 2 (.var 23) .nl))
       (.eff false (some 21) (.app 26 2 16 [(.int .i64 0), (.int .i64 0)] (.var 17) (.u .ld1 (.u (.fld 1) (.var 4))))
       (.eff false (some 8) (.alloc 24 [(.int .i64 0), (.slice none 0 0)])
       (.eff false (some 25) (.app 26 2 16 [(.int .i64 0), (.int .i64 0)] (.var 21) (.var 22))
       (.chk (.bld [(.int .i64 0), (.slice none 0 0)] (.pl 0 1 (.var 24) (.pl 1 1 (.var 25) .nl)))
       (.eff false none (.st 2 (.var 8) (.bld [(.int .i64 0), (.slice none 0 0)] (.pl 0 1 (.var 24) (.pl 1 1 (.var 25) .nl))))
       .nxt))))))))))
       (.set 24 (.u .ld1 (.u (.fld 0) (.var 4)))
       (.chk (.u .ld1 (.u (.fld 1) (.var 4)))
       (.set 23 (.u (.lda 2) (.var 7))
       (.eff false (some 17) (.lit 26 2 0 [(.int .i64 0), (.int .i64 0)] .nl)
       (.eff false (some 22) (.lit 26 2 1 [(.int .i64 0), (.int .i64 0)] (.pl 0 2 (.var 23) .nl))
       (.eff false (some 21) (.app 26 2 16 [(.int .i64 0), (.int .i64 0)] (.var 17) (.u .ld1 (.u (.fld 1) (.var 4))))
       (.eff false (some 25) (.app 26 2 16 [(.int .i64 0), (.int .i64 0)] (.var 21) (.var 22))
       (.chk (.bld [(.int .i64 0), (.slice none 0 0)] (.pl 0 1 (.var 24) (.pl 1 1 (.var 25) .nl)))
       (.eff false (some 8) (.alloc 24 [(.int .i64 0), (.slice none 0 0)])
       (.eff false none (.st 2 (.var 8) (.bld [(.int .i64 0), (.slice none 0 0)] (.pl 0 1 (.var 24) (.pl 1 1 (.var 25) .nl))))
       .nxt))))))))))))
     (.both
      (.set 24 (.u .ld1 (.u (.fld 0) (.var 4)))
      (.chk (.u .ld1 (.u (.fld 1) (.var 4)))
      (.set 23 (.u (.lda 2) (.var 7))
      (.eff false (some 17) (.lit 26 2 0 [(.int .i64 0), (.int .i64 0)] .nl)
      (.eff false (some 8) (.alloc 24 [(.int .i64 0), (.slice none 0 0)])
      (.eff false (some 21) (.app 26 2 16 [(.int .i64 0), (.int .i64 0)] (.var 17) (.u .ld1 (.u (.fld 1) (.var 4))))
      (.eff false (some 22) (.lit 26 2 1 [(.int .i64 0), (.int .i64 0)] (.pl 0 2 (.var 23) .nl))
      (.eff false (some 25) (.app 26 2 16 [(.int .i64 0), (.int .i64 0)] (.var 21) (.var 22))
      (.chk (.bld [(.int .i64 0), (.slice none 0 0)] (.pl 0 1 (.var 24) (.pl 1 1 (.var 25) .nl)))
      (.eff false none (.st 2 (.var 8) (.bld [(.int .i64 0), (.slice none 0 0)] (.pl 0 1 (.var 24) (.pl 1 1 (.var 25) .nl))))
      .nxt))))))))))
      (.both
       (.set 24 (.u .ld1 (.u (.fld 0) (.var 4)))
       (.chk (.u .ld1 (.u (.fld 1) (.var 4)))
       (.set 23 (.u (.lda 2) (.var 7))
       (.eff false (some 17) (.lit 26 2 0 [(.int .i64 0), (.int .i64 0)] .nl)
       (.eff false (some 21) (.app 26 2 16 [(.int .i64 0), (.int .i64 0)] (.var 17) (.u .ld1 (.u (.fld 1) (.var 4))))
       (.eff false (some 22) (.lit 26 2 1 [(.int .i64 0), (.int .i64 0)] (.pl 0 2 (.var 23) .nl))
       (.eff false (some 8) (.alloc 24 [(.int .i64 0), (.slice none 0 0)])
       (.eff false (some 25) (.app 26 2 16 [(.int .i64 0), (.int .i64 0)] (.var 21) (.var 22))
       (.chk (.bld [(.int .i64 0), (.slice none 0 0)] (.pl 0 1 (.var 24) (.pl 1 1 (.var 25) .nl)))
       (.eff false none (.st 2 (.var 8) (.bld [(.int .i64 0), (.slice none 0 0)] (.pl 0 1 (.var 24) (.pl 1 1 (.var 25) .nl))))
       .nxt))))))))))
       (.set 24 (.u .ld1 (.u (.fld 0) (.var 4)))
       (.chk (.u .ld1 (.u (.fld 1) (.var 4)))
       (.set 23 (.u (.lda 2) (.var 7))
       (.eff false (some 17) (.lit 26 2 0 [(.int .i64 0), (.int .i64 0)] .nl)
       (.eff false (some 21) (.app 26 2 16 [(.int .i64 0), (.int .i64 0)] (.var 17) (.u .ld1 (.u (.fld 1) (.var 4))))
       (.eff false (some 22) (.lit 26 2 1 [(.int .i64 0), (.int .i64 0)] (.pl 0 2 (.var 23) .nl))
       (.eff false (some 25) (.app 26 2 16 [(.int .i64 0), (.int .i64 0)] (.var 21) (.var 22))
       (.chk (.bld [(.int .i64 0), (.slice none 0 0)] (.pl 0 1 (.var 24) (.pl 1 1 (.var 25) .nl)))
       (.eff false (some 8) (.alloc 24 [(.int .i64 0), (.slice none 0 0)])
       (.eff false none (.st 2 (.var 8) (.bld [(.int .i64 0), (.slice none 0 0)] (.pl 0 1 (.var 24) (.pl 1 1 (.var 25) .nl))))
       .nxt)))))))))))))
    (.both
     (.set 24 (.u .ld1 (.u (.fld 0) (.var 4)))
     (.chk (.u .ld1 (.u (.fld 1) (.var 4)))
     (.eff false (some 17) (.lit 26 2 0 [(.int .i64 0), (.int .i64 0)] .nl)
     (.eff false (some 8) (.alloc 24 [(.int .i64 0), (.slice none 0 0)])
     (.eff false (some 21) (.app 26 2 16 [(.int .i64 0), (.int .i64 0)] (.var 17) (.u .ld1 (.u (.fld 1) (.var 4))))
     (.set 23 (.u (.lda 2) (.var 7))
     (.eff false (some 22) (.lit 26 2 1 [(.int .i64 0), (.int .i64 0)] (.pl 0 2 (.var 23) .nl))
     (.eff false (some 25) (.app 26 2 16 [(.int .i64 0), (.int .i64 0)] (.var 21) (.var 22))
     (.chk (.bld [(.int .i64 0), (.slice none 0 0)] (.pl 0 1 (.var 24) (.pl 1 1 (.var 25) .nl)))
     (.eff false none (.st 2 (.var 8) (.bld [(.int .i64 0), (.slice none 0 0)] (.pl 0 1 (.var 24) (.pl 1 1 (.var 25) .nl))))
     .nxt))))))))))
     (.both
      (.set 24 (.u .ld1 (.u (.fld 0) (.var 4)))
      (.chk (.u .ld1 (.u (.fld 1) (.var 4)))
      (.eff false (some 17) (.lit 26 2 0 [(.int .i64 0), (.int .i64 0)] .nl)
      (.eff false (some 21) (.app 26 2 16 [(.int .i64 0), (.int .i64 0)] (.var 17) (.u .ld1 (.u (.fld 1) (.var 4))))
      (.set 23 (.u (.lda 2) (.var 7))
      (.eff false (some 22) (.lit 26 2 1 [(.int .i64 0), (.int .i64 0)] (.pl 0 2 (.var 23) .nl))
      (.eff false (some 8) (.alloc 24 [(.int .i64 0), (.slice none 0 0)])
      (.eff false (some 25) (.app 26 2 16 [(.int .i64 0), (.int .i64 0)] (.var 21) (.var 22))
      (.chk (.bld [(.int .i64 0), (.slice none 0 0)] (.pl 0 1 (.var 24) (.pl 1 1 (.var 25) .nl)))
      (.eff false none (.st 2 (.var 8) (.bld [(.int .i64 0), (.slice none 0 0)] (.pl 0 1 (.var 24) (.pl 1 1 (.var 25) .nl))))
      .nxt))))))))))
      (.set 24 (.u .ld1 (.u (.fld 0) (.var 4)))
      (.chk (.u .ld1 (.u (.fld 1) (.var 4)))
      (.eff false (some 17) (.lit 26 2 0 [(.int .i64 0), (.int .i64 0)] .nl)
      (.eff false (some 21) (.app 26 2 16 [(.int .i64 0), (.int .i64 0)] (.var 17) (.u .ld1 (.u (.fld 1) (.var 4))))
      (.set 23 (.u (.lda 2) (.var 7))
      (.eff false (some 22) (.lit 26 2 1 [(.int .i64 0), (.int .i64 0)] (.pl 0 2 (.var 23) .nl))
      (.eff false (some 25) (.app 26 2 16 [(.int .i64 0), (.int .i64 0)] (.var 21) (.var 22))
      (.chk (.bld [(.int .i64 0), (.slice none 0 0)] (.pl 0 1 (.var 24) (.pl 1 1 (.var 25) .nl)))
      (.eff false (some 8) (.alloc 24 [(.int .i64 0), (.slice none 0 0)])
      (.eff false none (.st 2 (.var 8) (.bld [(.int .i64 0), (.slice none 0 0)] (.pl 0 1 (.var 24) (.pl 1 1 (.var 25) .nl))))
      .nxt)))))))))))))
   (.both
    (.both
     (.both
      (.both
       (.chk (.u (.fld 0) (.var 4))
       (.chk (.u .ld1 (.u (.fld 1) (.var 4)))
       (.set 23 (.u (.lda 2) (.var 7))
       (.eff false (some 17) (.lit 26 2 0 [(.int .i64 0), (.int .i64 0)] .nl)
       (.eff false (some 22) (.lit 26 2 1 [(.int .i64 0), (.int .i64 0)] (.pl 0 2 (.var 23) .nl))
       (.eff false (some 8) (.alloc 24 [(.int .i64 0), (.slice none 0 0)])
       (.eff false (some 21) (.app 26 2 16 [(.int .i64 0), (.int .i64 0)] (.var 17) (.u .ld1 (.u (.fld 1) (.var 4))))
       (.set 24 (.u .ld1 (.u (.fld 0) (.var 4)))
       (.eff false (some 25) (.app 26 2 16 [(.int .i64 0), (.int .i64 0)] (.var 21) (.var 22))
       (.chk (.bld [(.int .i64 0), (.slice none 0 0)] (.pl 0 1 (.var 24) (.pl 1 1 (.var 25) .nl)))
       (.eff false none (.st 2 (.var 8) (.bld [(.int .i64 0), (.slice none 0 0)] (.pl 0 1 (.var 24) (.pl 1 1 (.var 25) .nl))))
       .nxt)))))))))))
       (.chk (.u (.fld 0) (.var 4))
       (.chk (.u .ld1 (.u (.fld 1) (.var 4)))
       (.set 23 (.u (.lda 2) (.var 7))
       (.eff false (some 17) (.lit 26 2 0 [(.int .i64 0), (.int .i64 0)] .nl)
       (.eff false (some 22) (.lit 26 2 1 [(.int .i64 0), (.int .i64 0)] (.pl 0 2 (.var 23) .nl))
       (.eff false (some 8) (.alloc 24 [(.int .i64 0), (.slice none 0 0)])
       (.eff false (some 21) (.app 26 2 16 [(.int .i64 0), (.int .i64 0)] (.var 17) (.u .ld1 (.u (.fld 1) (.var 4))))
       (.eff false (some 25) (.app 26 2 16 [(.int .i64 0), (.int .i64 0)] (.var 21) (.var 22))
       (.set 24 (.u .ld1 (.u (.fld 0) (.var 4)))
       (.chk (.bld [(.int .i64 0), (.slice none 0 0)] (.pl 0 1 (.var 24) (.pl 1 1 (.var 25) .nl)))
       (.eff false none (.st 2 (.var 8) (.bld [(.int .i64 0), (.slice none 0 0)] (.pl 0 1 (.var 24) (.pl 1 1 (.var 25) .nl))))
       .nxt))))))))))))
      (.both
       (.both
        (.chk (.u (.fld 0) (.var 4))
        (.chk (.u .ld1 (.u (.fld 1) (.var 4)))
        (.set 23 (.u (.lda 2) (.var 7))
        (.eff false (some 17) (.lit 26 2 0 [(.int .i64 0), (.int .i64 0)] .nl)
        (.eff false (some 22) (.lit 26 2 1 [(.int .i64 0), (.int .i64 0)] (.pl 0 2 (.var 23) .nl))
        (.eff false (some 21) (.app 26 2 16 [(.int .i64 0), (.int .i64 0)] (.var 17) (.u .ld1 (.u (.fld 1) (.var 4))))
        (.set 24 (.u .ld1 (.u (.fld 0) (.var 4)))
        (.eff false (some 8) (.alloc 24 [(.int .i64 0), (.slice none 0 0)])
        (.eff false (some 25) (.app 26 2 16 [(.int .i64 0), (.int .i64 0)] (.var 21) (.var 22))
        (.chk (.bld [(.int .i64 0), (.slice none 0 0)] (.pl 0 1 (.var 24) (.pl 1 1 (.var 25) .nl)))
        (.eff false none (.st 2 (.var 8) (.bld [(.int .i64 0), (.slice none 0 0)] (.pl 0 1 (.var 24) (.pl 1 1 (.var 25) .nl))))
        .nxt)))))))))))
        (.chk (.u (.fld 0) (.var 4))
        (.chk (.u .ld1 (.u (.fld 1) (.var 4)))
        (.set 23 (.u (.lda 2) (.var 7))
        (.eff false (some 17) (.lit 26 2 0 [(.int .i64 0), (.int .i64 0)] .nl)
        (.eff false (some 22) (.lit 26 2 1 [(.int .i64 0), (.int .i64 0)] (.pl 0 2 (.var 23) .nl))
        (.eff false (some 21) (.app 26 2 16 [(.int .i64 0), (.int .i64 0)] (.var 17) (.u .ld1 (.u (.fld 1) (.var 4))))
        (.set 24 (.u .ld1 (.u (.fld 0) (.var 4)))
        (.eff false (some 25) (.app 26 2 16 [(.int .i64 0), (.int .i64 0)] (.var 21) (.var 22))
        (.chk (.bld [(.int .i64 0), (.slice none 0 0)] (.pl 0 1 (.var 24) (.pl 1 1 (.var 25) .nl)))
        (.eff false (some 8) (.alloc 24 [(.int .i64 0), (.slice none 0 0)])
        (.eff false none (.st 2 (.var 8) (.bld [(.int .i64 0), (.slice none 0 0)] (.pl 0 1 (.var 24) (.pl 1 1 (.var 25) .nl))))
        .nxt))))))))))))
       (.both
        (.chk (.u (.fld 0) (.var 4))
        (.chk (.u .ld1 (.u (.fld 1) (.var 4)))
        (.set 23 (.u (.lda 2) (.var 7))
        (.eff false (some 17) (.lit 26 2 0 [(.int .i64 0), (.int .i64 0)] .nl)
        (.eff false (some 22) (.lit 26 2 1 [(.int .i64 0), (.int .i64 0)] (.pl 0 2 (.var 23) .nl))
        (.eff false (some 21) (.app 26 2 16 [(.int .i64 0), (.int .i64 0)] (.var 17) (.u .ld1 (.u (.fld 1) (.var 4))))
        (.eff false (some 8) (.alloc 24 [(.int .i64 0), (.slice none 0 0)])
        (.eff false (some 25) (.app 26 2 16 [(.int .i64 0), (.int .i64 0)] (.var 21) (.var 22))
        (.set 24 (.u .ld1 (.u (.fld 0) (.var 4)))
        (.chk (.bld [(.int .i64 0), (.slice none 0 0)] (.pl 0 1 (.var 24) (.pl 1 1 (.var 25) .nl)))
        (.eff false none (.st 2 (.var 8) (.bld [(.int .i64 0), (.slice none 0 0)] (.pl 0 1 (.var 24) (.pl 1 1 (.var 25) .nl))))
        .nxt)))))))))))
        (.chk (.u (.fld 0) (.var 4))
        (.chk (.u .ld1 (.u (.fld 1) (.var 4)))
        (.set 23 (.u (.lda 2) (.var 7))
        (.eff false (some 17) (.lit 26 2 0 [(.int .i64 0), (.int .i64 0)] .nl)
        (.eff false (some 22) (.lit 26 2 1 [(.int .i64 0), (.int .i64 0)] (.pl 0 2 (.var 23) .nl))
        (.eff false (some 21) (.app 26 2 16 [(.int .i64 0), (.int .i64 0)] (.var 17) (.u .ld1 (.u (.fld 1) (.var 4))))
        (.eff false (some 25) (.app 26 2 16 [(.int .i64 0), (.int .i64 0)] (.var 21) (.var 22))
        (.set 24 (.u .ld1 (.u (.fld 0) (.var 4)))
        (.chk (.bld [(.int .i64 0), (.slice none 0 0)] (.pl 0 1 (.var 24) (.pl 1 1 (.var 25) .nl)))
        (.eff false (some 8) (.alloc 24 [(.int .i64 0), (.slice none 0 0)])
        (.eff false none (.st 2 (.var 8) (.bld [(.int .i64 0), (.slice none 0 0)] (.pl 0 1 (.var 24) (.pl 1 1 (.var 25) .nl))))
        .nxt))))))))))))))
     (.both
      (.both
       (.chk (.u (.fld 0) (.var 4))
       (.chk (.u .ld1 (.u (.fld 1) (.var 4)))
       (.set 23 (.u (.lda 2) (.var 7))
       (.eff false (some 17) (.lit 26 2 0 [(.int .i64 0), (.int .i64 0)] .nl)
       (.eff false (some 8) (.alloc 24 [(.int .i64 0), (.slice none 0 0)])
       (.eff false (some 21) (.app 26 2 16 [(.int .i64 0), (.int .i64 0)] (.var 17) (.u .ld1 (.u (.fld 1) (.var 4))))
       (.set 24 (.u .ld1 (.u (.fld 0) (.var 4)))
       (.eff false (some 22) (.lit 26 2 1 [(.int .i64 0), (.int .i64 0)] (.pl 0 2 (.var 23) .nl))
       (.eff false (some 25) (.app 26 2 16 [(.int .i64 0), (.int .i64 0)] (.var 21) (.var 22))
       (.chk (.bld [(.int .i64 0), (.slice none 0 0)] (.pl 0 1 (.var 24) (.pl 1 1 (.var 25) .nl)))
       (.eff false none (.st 2 (.var 8) (.bld [(.int .i64 0), (.slice none 0 0)] (.pl 0 1 (.var 24) (.pl 1 1 (.var 25) .nl))))
       .nxt)))))))))))
       (.chk (.u (.fld 0) (.var 4))
       (.chk (.u .ld1 (.u (.fld 1) (.var 4)))
       (.set 23 (.u (.lda 2) (.var 7))
       (.eff false (some 17) (.lit 26 2 0 [(.int .i64 0), (.int .i64 0)] .nl)
       (.eff false (some 8) (.alloc 24 [(.int .i64 0), (.slice none 0 0)])
       (.eff false (some 21) (.app 26 2 16 [(.int .i64 0), (.int .i64 0)] (.var 17) (.u .ld1 (.u (.fld 1) (.var 4))))
       (.eff false (some 22) (.lit 26 2 1 [(.int .i64 0), (.int .i64 0)] (.pl 0 2 (.var 23) .nl))
       (.eff false (some 25) (.app 26 2 16 [(.int .i64 0), (.int .i64 0)] (.var 21) (.var 22))
       (.set 24 (.u .ld1 (.u (.fld 0) (.var 4)))
       (.chk (.bld [(.int .i64 0), (.slice none 0 0)] (.pl 0 1 (.var 24) (.pl 1 1 (.var 25) .nl)))
       (.eff false none (.st 2 (.var 8) (.bld [(.int .i64 0), (.slice none 0 0)] (.pl 0 1 (.var 24) (.pl 1 1 (.var 25) .nl))))
       .nxt))))))))))))
      (.both
       (.both
        (.chk (.u (.fld 0) (.var 4))
        (.chk (.u .ld1 (.u (.fld 1) (.var 4)))
        (.set 23 (.u (.lda 2) (.var 7))
        (.eff false (some 17) (.lit 26 2 0 [(.int .i64 0), (.int .i64 0)] .nl)
        (.eff false (some 21) (.app 26 2 16 [(.int .i64 0), (.int .i64 0)] (.var 17) (.u .ld1 (.u (.fld 1) (.var 4))))
        (.set 24 (.u .ld1 (.u (.fld 0) (.var 4)))
        (.eff false (some 22) (.lit 26 2 1 [(.int .i64 0), (.int .i64 0)] (.pl 0 2 (.var 23) .nl))
        (.eff false (some 8) (.alloc 24 [(.int .i64 0), (.slice none 0 0)])
        (.eff false (some 25) (.app 26 2 16 [(.int .i64 0), (.int .i64 0)] (.var 21) (.var 22))
        (.chk (.bld [(.int .i64 0), (.slice none 0 0)] (.pl 0 1 (.var 24) (.pl 1 1 (.var 25) .nl)))
        (.eff false none (.st 2 (.var 8) (.bld [(.int .i64 0), (.slice none 0 0)] (.pl 0 1 (.var 24) (.pl 1 1 (.var 25) .nl))))
        .nxt)))))))))))
        (.chk (.u (.fld 0) (.var 4))
        (.chk (.u .ld1 (.u (.fld 1) (.var 4)))
        (.set 23 (.u (.lda 2) (.var 7))
        (.eff false (some 17) (.lit 26 2 0 [(.int .i64 0), (.int .i64 0)] .nl)
        (.eff false (some 21) (.app 26 2 16 [(.int .i64 0), (.int .i64 0)] (.var 17) (.u .ld1 (.u (.fld 1) (.var 4))))
        (.set 24 (.u .ld1 (.u (.fld 0) (.var 4)))
        (.eff false (some 22) (.lit 26 2 1 [(.int .i64 0), (.int .i64 0)] (.pl 0 2 (.var 23) .nl))
        (.eff false (some 25) (.app 26 2 16 [(.int .i64 0), (.int .i64 0)] (.var 21) (.var 22))
        (.chk (.bld [(.int .i64 0), (.slice none 0 0)] (.pl 0 1 (.var 24) (.pl 1 1 (.var 25) .nl)))
        (.eff false (some 8) (.alloc 24 [(.int .i64 0), (.slice none 0 0)])
        (.eff false none (.st 2 (.var 8) (.bld [(.int .i64 0), (.slice none 0 0)] (.pl 0 1 (.var 24) (.pl 1 1 (.var 25) .nl))))
        .nxt))))))))))))
       (.both
        (.chk (.u (.fld 0) (.var 4))
        (.chk (.u .ld1 (.u (.fld 1) (.var 4)))
        (.set 23 (.u (.lda 2) (.var 7))
        (.eff false (some 17) (.lit 26 2 0 [(.int .i64 0), (.int .i64 0)] .nl)
        (.eff false (some 21) (.app 26 2 16 [(.int .i64 0), (.int .i64 0)] (.var 17) (.u .ld1 (.u (.fld 1) (.var 4))))
        (.eff false (some 22) (.lit 26 2 1 [(.int .i64 0), (.int .i64 0)] (.pl 0 2 (.var 23) .nl))
        (.eff false (some 8) (.alloc 24 [(.int .i64 0), (.slice none 0 0)])
        (.eff false (some 25) (.app 26 2 16 [(.int .i64 0), (.int .i64 0)] (.var 21) (.var 22))
        (.set 24 (.u .ld1 (.u (.fld 0) (.var 4)))
        (.chk (.bld [(.int .i64 0), (.slice none 0 0)] (.pl 0 1 (.var 24) (.pl 1 1 (.var 25) .nl)))
        (.eff false none (.st 2 (.var 8) (.bld [(.int .i64 0), (.slice none 0 0)] (.pl 0 1 (.var 24) (.pl 1 1 (.var 25) .nl))))
        .nxt)))))))))))
        (.chk (.u (.fld 0) (.var 4))
        (.chk (.u .ld1 (.u (.fld 1) (.var 4)))
        (.set 23 (.u (.lda 2) (.var 7))
        (.eff false (some 17) (.lit 26 2 0 [(.int .i64 0), (.int .i64 0)] .nl)
        (.eff false (some 21) (.app 26 2 16 [(.int .i64 0), (.int .i64 0)] (.var 17) (.u .ld1 (.u (.fld 1) (.var 4))))
        (.eff false (some 22) (.lit 26 2 1 [(.int .i64 0), (.int .i64 0)] (.pl 0 2 (.var 23) .nl))
        (.eff false (some 25) (.app 26 2 16 [(.int .i64 0), (.int .i64 0)] (.var 21) (.var 22))
        (.set 24 (.u .ld1 (.u (.fld 0) (.var 4)))
        (.chk (.bld [(.int .i64 0), (.slice none 0 0)] (.pl 0 1 (.var 24) (.pl 1 1 (.var 25) .nl)))
        (.eff false (some 8) (.alloc 24 [(.int .i64 0), (.slice none 0 0)])
        (.eff false none (.st 2 (.var 8) (.bld [(.int .i64 0), (.slice none 0 0)] (.pl 0 1 (.var 24) (.pl 1 1 (.var 25) .nl))))
        .nxt)))))))))))))))
    (.both
     (.both
      (.chk (.u (.fld 0) (.var 4))
      (.chk (.u .ld1 (.u (.fld 1) (.var 4)))
      (.eff false (some 17) (.lit 26 2 0 [(.int .i64 0), (.int .i64 0)] .nl)
      (.eff false (some 8) (.alloc 24 [(.int .i64 0), (.slice none 0 0)])
      (.eff false (some 21) (.app 26 2 16 [(.int .i64 0), (.int .i64 0)] (.var 17) (.u .ld1 (.u (.fld 1) (.var 4))))
      (.set 24 (.u .ld1 (.u (.fld 0) (.var 4)))
      (.set 23 (.u (.lda 2) (.var 7))
      (.eff false (some 22) (.lit 26 2 1 [(.int .i64 0), (.int .i64 0)] (.pl 0 2 (.var 23) .nl))
      (.eff false (some 25) (.app 26 2 16 [(.int .i64 0), (.int .i64 0)] (.var 21) (.var 22))
      (.chk (.bld [(.int .i64 0), (.slice none 0 0)] (.pl 0 1 (.var 24) (.pl 1 1 (.var 25) .nl)))
      (.eff false none (.st 2 (.var 8) (.bld [(.int .i64 0), (.slice none 0 0)] (.pl 0 1 (.var 24) (.pl 1 1 (.var 25) .nl))))
      .nxt)))))))))))
      (.chk (.u (.fld 0) (.var 4))
      (.chk (.u .ld1 (.u (.fld 1) (.var 4)))
      (.eff false (some 17) (.lit 26 2 0 [(.int .i64 0), (.int .i64 0)] .nl)
      (.eff false (some 8) (.alloc 24 [(.int .i64 0), (.slice none 0 0)])
      (.eff false (some 21) (.app 26 2 16 [(.int .i64 0), (.int .i64 0)] (.var 17) (.u .ld1 (.u (.fld 1) (.var 4))))
      (.set 23 (.u (.lda 2) (.var 7))
      (.eff false (some 22) (.lit 26 2 1 [(.int .i64 0), (.int .i64 0)] (.pl 0 2 (.var 23) .nl))
      (.eff false (some 25) (.app 26 2 16 [(.int .i64 0), (.int .i64 0)] (.var 21) (.var 22))
      (.set 24 (.u .ld1 (.u (.fld 0) (.var 4)))
      (.chk (.bld [(.int .i64 0), (.slice none 0 0)] (.pl 0 1 (.var 24) (.pl 1 1 (.var 25) .nl)))
      (.eff false none (.st 2 (.var 8) (.bld [(.int .i64 0), (.slice none 0 0)] (.pl 0 1 (.var 24) (.pl 1 1 (.var 25) .nl))))
      .nxt))))))))))))
     (.both
      (.both
       (.chk (.u (.fld 0) (.var 4))
       (.chk (.u .ld1 (.u (.fld 1) (.var 4)))
       (.eff false (some 17) (.lit 26 2 0 [(.int .i64 0), (.int .i64 0)] .nl)
       (.eff false (some 21) (.app 26 2 16 [(.int .i64 0), (.int .i64 0)] (.var 17) (.u .ld1 (.u (.fld 1) (.var 4))))
       (.set 24 (.u .ld1 (.u (.fld 0) (.var 4)))
       (.set 23 (.u (.lda 2) (.var 7))
       (.eff false (some 22) (.lit 26 2 1 [(.int .i64 0), (.int .i64 0)] (.pl 0 2 (.var 23) .nl))
       (.eff false (some 8) (.alloc 24 [(.int .i64 0), (.slice none 0 0)])
       (.eff false (some 25) (.app 26 2 16 [(.int .i64 0), (.int .i64 0)] (.var 21) (.var 22))
       (.chk (.bld [(.int .i64 0), (.slice none 0 0)] (.pl 0 1 (.var 24) (.pl 1 1 (.var 25) .nl)))
       (.eff false none (.st 2 (.var 8) (.bld [(.int .i64 0), (.slice none 0 0)] (.pl 0 1 (.var 24) (.pl 1 1 (.var 25) .nl))))
       .nxt)))))))))))
       (.chk (.u (.fld 0) (.var 4))
       (.chk (.u .ld1 (.u (.fld 1) (.var 4)))
       (.eff false (some 17) (.lit 26 2 0 [(.int .i64 0), (.int .i64 0)] .nl)
       (.eff false (some 21) (.app 26 2 16 [(.int .i64 0), (.int .i64 0)] (.var 17) (.u .ld1 (.u (.fld 1) (.var 4))))
       (.set 24 (.u .ld1 (.u (.fld 0) (.var 4)))
       (.set 23 (.u (.lda 2) (.var 7))
       (.eff false (some 22) (.lit 26 2 1 [(.int .i64 0), (.int .i64 0)] (.pl 0 2 (.var 23) .nl))
       (.eff false (some 25) (.app 26 2 16 [(.int .i64 0), (.int .i64 0)] (.var 21) (.var 22))
       (.chk (.bld [(.int .i64 0), (.slice none 0 0)] (.pl 0 1 (.var 24) (.pl 1 1 (.var 25) .nl)))
       (.eff false (some 8) (.alloc 24 [(.int .i64 0), (.slice none 0 0)])
       (.eff false none (.st 2 (.var 8) (.bld [(.int .i64 0), (.slice none 0 0)] (.pl 0 1 (.var 24) (.pl 1 1 (.var 25) .nl))))
       .nxt))))))))))))
      (.both
       (.chk (.u (.fld 0) (.var 4))
       (.chk (.u .ld1 (.u (.fld 1) (.var 4)))
       (.eff false (some 17) (.lit 26 2 0 [(.int .i64 0), (.int .i64 0)] .nl)
       (.eff false (some 21) (.app 26 2 16 [(.int .i64 0), (.int .i64 0)] (.var 17) (.u .ld1 (.u (.fld 1) (.var 4))))
       (.set 23 (.u (.lda 2) (.var 7))
       (.eff false (some 22) (.lit 26 2 1 [(.int .i64 0), (.int .i64 0)] (.pl 0 2 (.var 23) .nl))
       (.eff false (some 8) (.alloc 24 [(.int .i64 0), (.slice none 0 0)])
       (.eff false (some 25) (.app 26 2 16 [(.int .i64 0), (.int .i64 0)] (.var 21) (.var 22))
       (.set 24 (.u .ld1 (.u (.fld 0) (.var 4)))
       (.chk (.bld [(.int .i64 0), (.slice none 0 0)] (.pl 0 1 (.var 24) (.pl 1 1 (.var 25) .nl)))
       (.eff false none (.st 2 (.var 8) (.bld [(.int .i64 0), (.slice none 0 0)] (.pl 0 1 (.var 24) (.pl 1 1 (.var 25) .nl))))
       .nxt)))))))))))
       (.chk (.u (.fld 0) (.var 4))
       (.chk (.u .ld1 (.u (.fld 1) (.var 4)))
       (.eff false (some 17) (.lit 26 2 0 [(.int .i64 0), (.int .i64 0)] .nl)
       (.eff false (some 21) (.app 26 2 16 [(.int .i64 0), (.int .i64 0)] (.var 17) (.u .ld1 (.u (.fld 1) (.var 4))))
       (.set 23 (.u (.lda 2) (.var 7))
       (.eff false (some 22) (.lit 26 2 1 [(.int .i64 0), (.int .i64 0)] (.pl 0 2 (.var 23) .nl))
       (.eff false (some 25) (.app 26 2 16 [(.int .i64 0), (.int .i64 0)] (.var 21) (.var 22))
       (.set 24 (.u .ld1 (.u (.fld 0) (.var 4)))
       (.chk (.bld [(.int .i64 0), (.slice none 0 0)] (.pl 0 1 (.var 24) (.pl 1 1 (.var 25) .nl)))
       (.eff false (some 8) (.alloc 24 [(.int .i64 0), (.slice none 0 0)])
       (.eff false none (.st 2 (.var 8) (.bld [(.int .i64 0), (.slice none 0 0)] (.pl 0 1 (.var 24) (.pl 1 1 (.var 25) .nl))))
       .nxt))))))))))))))))
 (.call false (some 18) 4 (.cn (.u (.lda 2) (.var 8)) (.cn (.var 1) .nl))
 (.chk (.u (.ext 0) (.var 18))
 (.chk (.u (.ext 1) (.var 18))
 (.set 9 (.u (.ext 0) (.var 18))
 (.set 10 (.u (.ext 1) (.var 18))
 (.seq
  (.ite (.ite (.ite (.ite (.b (.bin .lss) (.u .ld1 (.u (.fld 0) (.var 7))) (.lit (.int .i64 0))) (.lit (.bool true)) (.b (.bin .geq) (.u .ld1 (.u (.fld 0) (.var 7))) (.u .ld1 (.u (.fld 0) (.var 4))))) (.lit (.bool true)) (.b (.bin .lss) (.u .ld1 (.u (.fld 1) (.var 7))) (.lit (.int .i64 0)))) (.lit (.bool true)) (.b (.bin .geq) (.u .ld1 (.u (.fld 1) (.var 7))) (.u .ld1 (.u (.fld 0) (.var 4)))))
   (.seq
    (.ite (.b (.bin .eql) (.var 10) (.lit (.int .i64 7)))
     (.call false (some 19) 5 .nl
     (.set 3 (.var 19)
     .nxt))
     (.set 19 (.lit undef)
     (.set 3 (.lit (.bool false))
     .nxt)))
   .ret)
   .nxt)
 (.seq
  (.ite (.ite (.ite (.ite (.b (.bin .neq) (.var 10) (.lit (.int .i64 0))) (.lit (.bool true)) (.b (.bin .neq) (.u .len (.var 5)) (.u .ld1 (.u (.fld 0) (.var 4))))) (.lit (.bool true)) (.b (.bin .neq) (.u .len (.var 9)) (.u .ld1 (.u (.fld 0) (.var 4))))) (.lit (.bool true)) (.ite (.u .ld1 (.b (.idx 1) (.var 9) (.u .ld1 (.u (.fld 0) (.var 7))))) (.u (.un .not) (.u .ld1 (.b (.idx 1) (.var 9) (.u .ld1 (.u (.fld 1) (.var 7)))))) (.lit (.bool false))))
   (.set 3 (.lit (.bool false))
   .ret)
   .nxt)
 (.set 12 (.u .len (.var 5))
 (.set 11 (.lit (.int .i64 0))
 (.seq
  (.blk 0
   (.loop
    (.set 13 (.b (.bin .lss) (.var 11) (.var 12))
    (.seq
     (.ite (.var 13)
      .nxt
      (.exit 0))
    (.seq
     (.blk 1
      (.set 14 (.var 11)
      (.ite (.ite (.u .ld1 (.b (.idx 1) (.var 5) (.var 14))) (.u (.un .not) (.u .ld1 (.b (.idx 1) (.var 9) (.var 14)))) (.lit (.bool false)))
       (.set 3 (.lit (.bool false))
       .ret)
       .nxt)))
    (.set 11 (.b (.bin .add) (.var 11) (.lit (.int .i64 1)))
    .nxt))))))
 (.call false (some 20) 5 .nl
 (.set 3 (.var 20)
 .ret))))))))))))))))))))))
def f_law09_GraphMore : Fun := ⟨s_law09_GraphMore, [(.var 3)]⟩
abbrev v_law09_GraphMore : List Nat := [0, 1, 2, 6, 3, 7, 8, 5, 9, 10, 11, 104, 103, 105, 12, 16, 27, 30, 41, 69, 119, 33, 35, 34, 29, 36]
theorem c_law09_GraphMore : compF P Go.Proofs.Try.f3 v_law09_GraphMore true = some f_law09_GraphMore := by kernel_rfl
theorem of_law09_GraphMore {args : List Value} (hn : args.length ≤ 120) {h : Heap} {R : Value → Heap → Prop} (hs : s_law09_GraphMore.wp P (f_law09_GraphMore.post R) (env0 v_law09_GraphMore args) h) : Runs P n_law09_GraphMore args h R := fn_of P_mixed Go.Proofs.Try.func3 c_law09_GraphMore (by rw [Go.Proofs.Try.ntmps3]; exact hn) hs
theorem vr_law09_GraphMore {kp : Bool} {args : List A} {H : List Blk} {R : A → List Blk → Prop} (hlen : args.length ≤ 120) (hk : kp = false ∨ H = []) (hw : (∀ B ∈ H, A.bdL H.length B.cells = true) → A.bdL H.length args = true → s_law09_GraphMore.aw P H.length (postA H.length f_law09_GraphMore R) (envA v_law09_GraphMore args) H) : VR P kp n_law09_GraphMore args H R := VR.of (F := f_law09_GraphMore) (V := v_law09_GraphMore) of_law09_GraphMore hlen hk fun h1 h2 => aw_sound (hw h1 h2)
theorem r_law09_GraphMore : Fun.res f_law09_GraphMore = [(.var 3)] := rfl
abbrev g_law09_GraphMore_0 : List Nat := [3, 11, 13, 14]

/-- recycling/graph.Reach -/
abbrev n_graph_Reach : Nat := 4
def s_graph_Reach : S :=
 (.eff false (some 4) (.box 24 (.var 0))
 (.set 2 (.lit (.slice none 0 0))
 (.set 3 (.lit (.int .i64 0))
 (.call false (some 5) 6 (.cn (.u (.lda 2) (.var 4)) (.cn (.var 1) (.cn (.lit (.func (.func 7) #[] #[])) .nl)))
 (.chk (.u (.ext 0) (.var 5))
 (.chk (.u (.ext 1) (.var 5))
 (.set 2 (.u (.ext 0) (.var 5))
 (.set 3 (.u (.ext 1) (.var 5))
 .ret))))))))
def f_graph_Reach : Fun := ⟨s_graph_Reach, [(.var 2), (.var 3)]⟩
abbrev v_graph_Reach : List Nat := [0, 1, 4, 5, 2, 8]
theorem c_graph_Reach : compF P Go.Proofs.Try.f4 v_graph_Reach = some f_graph_Reach := by kernel_rfl
theorem of_graph_Reach {args : List Value} (hn : args.length ≤ 11) {h : Heap} {R : Value → Heap → Prop} (hs : s_graph_Reach.wp P (f_graph_Reach.post R) (env0 v_graph_Reach args) h) : Runs P n_graph_Reach args h R := fn_of P_mixed Go.Proofs.Try.func4 c_graph_Reach (by rw [Go.Proofs.Try.ntmps4]; exact hn) hs
theorem vr_graph_Reach {kp : Bool} {args : List A} {H : List Blk} {R : A → List Blk → Prop} (hlen : args.length ≤ 11) (hk : kp = false ∨ H = []) (hw : (∀ B ∈ H, A.bdL H.length B.cells = true) → A.bdL H.length args = true → s_graph_Reach.aw P H.length (postA H.length f_graph_Reach R) (envA v_graph_Reach args) H) : VR P kp n_graph_Reach args H R := VR.of (F := f_graph_Reach) (V := v_graph_Reach) of_graph_Reach hlen hk fun h1 h2 => aw_sound (hw h1 h2)
theorem r_graph_Reach : Fun.res f_graph_Reach = [(.var 2), (.var 3)] := rfl

/-- recycling/recyclinglaw09.awake -/
abbrev n_law09_awake : Nat := 5
def s_law09_awake : S :=
 (.set 0 (.lit (.bool false))
 (.chk (.bld [(.int .i64 0), (.int .i64 0)] (.pl 0 1 (.lit (.int .i64 2)) (.pl 1 1 (.lit (.int .i64 0)) .nl)))
 (.chk (.bld [(.int .i64 0), (.int .i64 0)] (.pl 0 1 (.lit (.int .i64 0)) (.pl 1 1 (.lit (.int .i64 1)) .nl)))
 (.eff false (some 9) (.lit 26 2 2 [(.int .i64 0), (.int .i64 0)] (.pl 0 2 (.bld [(.int .i64 0), (.int .i64 0)] (.pl 0 1 (.lit (.int .i64 2)) (.pl 1 1 (.lit (.int .i64 0)) .nl))) (.pl 2 2 (.bld [(.int .i64 0), (.int .i64 0)] (.pl 0 1 (.lit (.int .i64 0)) (.pl 1 1 (.lit (.int .i64 1)) .nl))) .nl)))
 (.chk (.bld [(.int .i64 0), (.slice none 0 0)] (.pl 0 1 (.lit (.int .i64 3)) (.pl 1 1 (.var 9) .nl)))
 (.call false (some 14) 8 (.cn (.bld [(.int .i64 0), (.slice none 0 0)] (.pl 0 1 (.lit (.int .i64 3)) (.pl 1 1 (.var 9) .nl))) .nl)
 (.chk (.u (.ext 0) (.var 14))
 (.chk (.u (.ext 1) (.var 14))
 (.set 1 (.u (.ext 0) (.var 14))
 (.set 2 (.u (.ext 1) (.var 14))
 (.chk (.bld [(.int .i64 0), (.int .i64 0)] (.pl 0 1 (.lit (.int .i64 0)) (.pl 1 1 (.lit (.int .i64 1)) .nl)))
 (.chk (.bld [(.int .i64 0), (.int .i64 0)] (.pl 0 1 (.lit (.int .i64 1)) (.pl 1 1 (.lit (.int .i64 2)) .nl)))
 (.chk (.bld [(.int .i64 0), (.int .i64 0)] (.pl 0 1 (.lit (.int .i64 2)) (.pl 1 1 (.lit (.int .i64 0)) .nl)))
 (.chk (.bld [(.int .i64 0), (.int .i64 0)] (.pl 0 1 (.lit (.int .i64 2)) (.pl 1 1 (.lit (.int .i64 1)) .nl)))
 (.eff false (some 10) (.lit 26 2 4 [(.int .i64 0), (.int .i64 0)] (.pl 0 2 (.bld [(.int .i64 0), (.int .i64 0)] (.pl 0 1 (.lit (.int .i64 0)) (.pl 1 1 (.lit (.int .i64 1)) .nl))) (.pl 2 2 (.bld [(.int .i64 0), (.int .i64 0)] (.pl 0 1 (.lit (.int .i64 1)) (.pl 1 1 (.lit (.int .i64 2)) .nl))) (.pl 4 2 (.bld [(.int .i64 0), (.int .i64 0)] (.pl 0 1 (.lit (.int .i64 2)) (.pl 1 1 (.lit (.int .i64 0)) .nl))) (.pl 6 2 (.bld [(.int .i64 0), (.int .i64 0)] (.pl 0 1 (.lit (.int .i64 2)) (.pl 1 1 (.lit (.int .i64 1)) .nl))) .nl)))))
 (.chk (.bld [(.int .i64 0), (.slice none 0 0)] (.pl 0 1 (.lit (.int .i64 3)) (.pl 1 1 (.var 10) .nl)))
 (.call false (some 15) 9 (.cn (.bld [(.int .i64 0), (.slice none 0 0)] (.pl 0 1 (.lit (.int .i64 3)) (.pl 1 1 (.var 10) .nl))) .nl)
 (.chk (.u (.ext 0) (.var 15))
 (.chk (.u (.ext 1) (.var 15))
 (.set 3 (.u (.ext 0) (.var 15))
 (.set 4 (.u (.ext 1) (.var 15))
 (.chk (.bld [(.int .i64 0), (.int .i64 0)] (.pl 0 1 (.lit (.int .i64 0)) (.pl 1 1 (.lit (.int .i64 1)) .nl)))
 (.chk (.bld [(.int .i64 0), (.int .i64 0)] (.pl 0 1 (.lit (.int .i64 1)) (.pl 1 1 (.lit (.int .i64 0)) .nl)))
 (.chk (.bld [(.int .i64 0), (.int .i64 0)] (.pl 0 1 (.lit (.int .i64 1)) (.pl 1 1 (.lit (.int .i64 3)) .nl)))
 (.eff false (some 11) (.lit 26 2 3 [(.int .i64 0), (.int .i64 0)] (.pl 0 2 (.bld [(.int .i64 0), (.int .i64 0)] (.pl 0 1 (.lit (.int .i64 0)) (.pl 1 1 (.lit (.int .i64 1)) .nl))) (.pl 2 2 (.bld [(.int .i64 0), (.int .i64 0)] (.pl 0 1 (.lit (.int .i64 1)) (.pl 1 1 (.lit (.int .i64 0)) .nl))) (.pl 4 2 (.bld [(.int .i64 0), (.int .i64 0)] (.pl 0 1 (.lit (.int .i64 1)) (.pl 1 1 (.lit (.int .i64 3)) .nl))) .nl))))
 (.chk (.bld [(.int .i64 0), (.slice none 0 0)] (.pl 0 1 (.lit (.int .i64 4)) (.pl 1 1 (.var 11) .nl)))
 (.call false (some 16) 10 (.cn (.bld [(.int .i64 0), (.slice none 0 0)] (.pl 0 1 (.lit (.int .i64 4)) (.pl 1 1 (.var 11) .nl))) .nl)
 (.chk (.u (.ext 0) (.var 16))
 (.chk (.u (.ext 1) (.var 16))
 (.set 5 (.u (.ext 0) (.var 16))
 (.set 6 (.u (.ext 1) (.var 16))
 (.chk (.bld [(.int .i64 0), (.int .i64 0)] .nl)
 (.eff false (some 12) (.lit 26 2 1 [(.int .i64 0), (.int .i64 0)] (.pl 0 2 (.bld [(.int .i64 0), (.int .i64 0)] .nl) .nl))
 (.chk (.bld [(.int .i64 0), (.slice none 0 0)] (.pl 0 1 (.lit (.int .i64 1)) (.pl 1 1 (.var 12) .nl)))
 (.call false (some 17) 8 (.cn (.bld [(.int .i64 0), (.slice none 0 0)] (.pl 0 1 (.lit (.int .i64 1)) (.pl 1 1 (.var 12) .nl))) .nl)
 (.chk (.u (.ext 0) (.var 17))
 (.chk (.u (.ext 1) (.var 17))
 (.set 7 (.u (.ext 0) (.var 17))
 (.set 8 (.u (.ext 1) (.var 17))
 (.eff false (some 13) (.lit 3 1 3 [(.int .i64 0)] (.pl 0 1 (.lit (.int .i64 2)) (.pl 1 1 (.lit (.int .i64 0)) (.pl 2 1 (.lit (.int .i64 1)) .nl))))
 (.call false (some 18) 11 (.cn (.var 1) (.cn (.var 13) .nl))
 (.chk (.ite (.ite (.var 18) (.b (.bin .eql) (.var 2) (.lit (.int .i64 0))) (.lit (.bool false))) (.var 3) (.lit undef))
 (.seq
  (.ite (.ite (.var 18) (.b (.bin .eql) (.var 2) (.lit (.int .i64 0))) (.lit (.bool false)))
   (.eff false (some 19) (.lit 3 1 2 [(.int .i64 0)] (.pl 0 1 (.lit (.int .i64 1)) (.pl 1 1 (.lit (.int .i64 2)) .nl)))
   (.call false (some 20) 11 (.cn (.var 3) (.cn (.var 19) .nl))
   (.chk (.ite (.ite (.var 20) (.b (.bin .eql) (.var 4) (.lit (.int .i64 0))) (.lit (.bool false))) (.var 5) (.lit undef))
   (.ite (.ite (.var 20) (.b (.bin .eql) (.var 4) (.lit (.int .i64 0))) (.lit (.bool false)))
    (.eff false (some 21) (.lit 3 1 2 [(.int .i64 0)] (.pl 0 1 (.lit (.int .i64 0)) (.pl 1 1 (.lit (.int .i64 1)) .nl)))
    (.eff false (some 22) (.lit 3 1 1 [(.int .i64 0)] (.pl 0 1 (.lit (.int .i64 2)) .nl))
    (.eff false (some 23) (.lit 3 1 1 [(.int .i64 0)] (.pl 0 1 (.lit (.int .i64 3)) .nl))
    (.eff false (some 24) (.lit 35 1 3 [(.slice none 0 0)] (.pl 0 1 (.var 21) (.pl 1 1 (.var 22) (.pl 2 1 (.var 23) .nl))))
    (.call false (some 25) 12 (.cn (.var 5) (.cn (.var 24) .nl))
    (.set 0 (.ite (.ite (.var 25) (.b (.bin .eql) (.var 6) (.lit (.int .i64 0))) (.lit (.bool false))) (.b (.bin .eql) (.var 8) (.lit (.int .i64 11))) (.lit (.bool false)))
    .nxt))))))
    (.set 21 (.lit undef)
    (.set 22 (.lit undef)
    (.set 23 (.lit undef)
    (.set 24 (.lit undef)
    (.set 25 (.lit undef)
    (.set 0 (.lit (.bool false))
    .nxt))))))))))
   (.set 19 (.lit undef)
   (.set 20 (.lit undef)
   (.set 21 (.lit undef)
   (.set 22 (.lit undef)
   (.set 23 (.lit undef)
   (.set 24 (.lit undef)
   (.set 25 (.lit undef)
   (.set 0 (.lit (.bool false))
   .nxt)))))))))
 .ret)))))))))))))))))))))))))))))))))))))))))))
def f_law09_awake : Fun := ⟨s_law09_awake, [(.var 0)]⟩
abbrev v_law09_awake : List Nat := [0, 1, 2, 3, 4, 5, 6, 7, 8, 12, 22, 31, 38, 44, 14, 24, 33, 40, 45, 52, 53, 61, 62, 63, 64, 65]
theorem c_law09_awake : compF P Go.Proofs.Try.f5 v_law09_awake = some f_law09_awake := by kernel_rfl
theorem of_law09_awake {args : List Value} (hn : args.length ≤ 75) {h : Heap} {R : Value → Heap → Prop} (hs : s_law09_awake.wp P (f_law09_awake.post R) (env0 v_law09_awake args) h) : Runs P n_law09_awake args h R := fn_of P_mixed Go.Proofs.Try.func5 c_law09_awake (by rw [Go.Proofs.Try.ntmps5]; exact hn) hs
theorem vr_law09_awake {kp : Bool} {args : List A} {H : List Blk} {R : A → List Blk → Prop} (hlen : args.length ≤ 75) (hk : kp = false ∨ H = []) (hw : (∀ B ∈ H, A.bdL H.length B.cells = true) → A.bdL H.length args = true → s_law09_awake.aw P H.length (postA H.length f_law09_awake R) (envA v_law09_awake args) H) : VR P kp n_law09_awake args H R := VR.of (F := f_law09_awake) (V := v_law09_awake) of_law09_awake hlen hk fun h1 h2 => aw_sound (hw h1 h2)
theorem r_law09_awake : Fun.res f_law09_awake = [(.var 0)] := rfl

/-- recycling/graph.visit -/
abbrev n_graph_visit : Nat := 6
def s_graph_visit : S :=
 (.eff false (some 5) (.box 24 (.var 0))
 (.eff false (some 8) (.box 34 (.var 2))
 (.set 3 (.lit (.slice none 0 0))
 (.set 4 (.lit (.int .i64 0))
 (.call false (some 10) 13 (.cn (.u (.lda 2) (.var 5)) .nl)
 (.set 6 (.var 10)
 (.seq
  (.ite (.b (.bin .neq) (.var 6) (.lit (.int .i64 0)))
   (.set 3 (.lit (.slice none 0 0))
   (.set 4 (.var 6)
   .ret))
   .nxt)
 (.seq
  (.ite (.ite (.b (.bin .lss) (.var 1) (.lit (.int .i64 0))) (.lit (.bool true)) (.b (.bin .geq) (.var 1) (.u .ld1 (.u (.fld 0) (.var 5)))))
   (.set 3 (.lit (.slice none 0 0))
   (.set 4 (.lit (.int .i64 7))
   .ret))
   .nxt)
 (.eff false (some 11) (.mk 4 1 1 [(.bool false)] (.u .ld1 (.u (.fld 0) (.var 5))) (.u .ld1 (.u (.fld 0) (.var 5))))
 (.eff false (some 7) (.alloc 27 [(.slice none 0 0)])
 (.eff false none (.st 1 (.var 7) (.var 11))
 (.eff false (some 9) (.alloc 44 [.nilFunc])
 (.chk (.fn 14 (.cn (.var 7) (.cn (.var 5) (.cn (.var 8) (.cn (.var 9) .nl)))))
 (.eff false none (.st 1 (.var 9) (.fn 14 (.cn (.var 7) (.cn (.var 5) (.cn (.var 8) (.cn (.var 9) .nl))))))
 (.callv false none (.u .ld1 (.var 9)) (.cn (.var 1) .nl)
 (.set 3 (.u .ld1 (.var 7))
 (.set 4 (.lit (.int .i64 0))
 .ret)))))))))))))))))
def f_graph_visit : Fun := ⟨s_graph_visit, [(.var 3), (.var 4)]⟩
abbrev v_graph_visit : List Nat := [0, 1, 2, 6, 7, 3, 8, 9, 5, 10, 12, 26]
theorem c_graph_visit : compF P Go.Proofs.Try.f6 v_graph_visit = some f_graph_visit := by kernel_rfl
theorem of_graph_visit {args : List Value} (hn : args.length ≤ 32) {h : Heap} {R : Value → Heap → Prop} (hs : s_graph_visit.wp P (f_graph_visit.post R) (env0 v_graph_visit args) h) : Runs P n_graph_visit args h R := fn_of P_mixed Go.Proofs.Try.func6 c_graph_visit (by rw [Go.Proofs.Try.ntmps6]; exact hn) hs
theorem vr_graph_visit {kp : Bool} {args : List A} {H : List Blk} {R : A → List Blk → Prop} (hlen : args.length ≤ 32) (hk : kp = false ∨ H = []) (hw : (∀ B ∈ H, A.bdL H.length B.cells = true) → A.bdL H.length args = true → s_graph_visit.aw P H.length (postA H.length f_graph_visit R) (envA v_graph_visit args) H) : VR P kp n_graph_visit args H R := VR.of (F := f_graph_visit) (V := v_graph_visit) of_graph_visit hlen hk fun h1 h2 => aw_sound (hw h1 h2)
theorem r_graph_visit : Fun.res f_graph_visit = [(.var 3), (.var 4)] := rfl

/-- recycling/graph.Reach$1 -/
abbrev n_graph_Reach_1 : Nat := 7
def s_graph_Reach_1 : S :=
 (.eff false (some 3) (.box 26 (.var 0))
 (.set 1 (.lit (.int .i64 0))
 (.set 2 (.lit (.int .i64 0))
 (.chk (.u .ld1 (.u (.fld 0) (.var 3)))
 (.chk (.u .ld1 (.u (.fld 1) (.var 3)))
 (.set 1 (.u .ld1 (.u (.fld 0) (.var 3)))
 (.set 2 (.u .ld1 (.u (.fld 1) (.var 3)))
 .ret)))))))
def f_graph_Reach_1 : Fun := ⟨s_graph_Reach_1, [(.var 1), (.var 2)]⟩
abbrev v_graph_Reach_1 : List Nat := [0, 2, 3, 1]
theorem c_graph_Reach_1 : compF P Go.Proofs.Try.f7 v_graph_Reach_1 = some f_graph_Reach_1 := by kernel_rfl
theorem of_graph_Reach_1 {args : List Value} (hn : args.length ≤ 8) {h : Heap} {R : Value → Heap → Prop} (hs : s_graph_Reach_1.wp P (f_graph_Reach_1.post R) (env0 v_graph_Reach_1 args) h) : Runs P n_graph_Reach_1 args h R := fn_of P_mixed Go.Proofs.Try.func7 c_graph_Reach_1 (by rw [Go.Proofs.Try.ntmps7]; exact hn) hs
theorem vr_graph_Reach_1 {kp : Bool} {args : List A} {H : List Blk} {R : A → List Blk → Prop} (hlen : args.length ≤ 8) (hk : kp = false ∨ H = []) (hw : (∀ B ∈ H, A.bdL H.length B.cells = true) → A.bdL H.length args = true → s_graph_Reach_1.aw P H.length (postA H.length f_graph_Reach_1 R) (envA v_graph_Reach_1 args) H) : VR P kp n_graph_Reach_1 args H R := VR.of (F := f_graph_Reach_1) (V := v_graph_Reach_1) of_graph_Reach_1 hlen hk fun h1 h2 => aw_sound (hw h1 h2)
theorem r_graph_Reach_1 : Fun.res f_graph_Reach_1 = [(.var 1), (.var 2)] := rfl

/-- recycling/graph.Order -/
abbrev n_graph_Order : Nat := 8
def s_graph_Order : S :=
 (.eff false (some 3) (.box 24 (.var 0))
 (.set 1 (.lit (.slice none 0 0))
 (.set 2 (.lit (.int .i64 0))
 (.call false (some 24) 13 (.cn (.u (.lda 2) (.var 3)) .nl)
 (.set 4 (.var 24)
 (.seq
  (.ite (.b (.bin .neq) (.var 4) (.lit (.int .i64 0)))
   (.set 1 (.lit (.slice none 0 0))
   (.set 2 (.var 4)
   .ret))
   .nxt)
 (.eff false (some 10) (.alloc 46 (List.replicate 64 (.int .i64 0)))
 (.set 8 (.u .ld1 (.u (.fld 1) (.var 3)))
 (.set 6 (.u .len (.var 8))
 (.set 5 (.lit (.int .i64 0))
 (.seq
  (.blk 0
   (.loop
    (.set 7 (.b (.bin .lss) (.var 5) (.var 6))
    (.seq
     (.ite (.var 7)
      .nxt
      (.exit 0))
    (.seq
     (.blk 1
      (.chk (.u (.lda 2) (.b (.idx 2) (.var 8) (.var 5)))
      (.eff false (some 9) (.alloc 26 [(.int .i64 0), (.int .i64 0)])
      (.eff false none (.st 2 (.var 9) (.u (.lda 2) (.b (.idx 2) (.var 8) (.var 5))))
      (.eff false none (.st 1 (.b (.idxa 64 1) (.var 10) (.u .ld1 (.u (.fld 1) (.var 9)))) (.b (.bin .add) (.u .ld1 (.b (.idxa 64 1) (.var 10) (.u .ld1 (.u (.fld 1) (.var 9))))) (.lit (.int .i64 1))))
      .nxt)))))
    (.set 5 (.b (.bin .add) (.var 5) (.lit (.int .i64 1)))
    .nxt))))))
 (.call false (some 25) 15 (.cn (.lit (.func (.func 16) #[] #[])) .nl)
 (.set 11 (.var 25)
 (.set 13 (.u .ld1 (.u (.fld 0) (.var 3)))
 (.set 12 (.lit (.int .i64 0))
 (.seq
  (.blk 2
   (.loop
    (.set 14 (.b (.bin .lss) (.var 12) (.var 13))
    (.seq
     (.ite (.var 14)
      .nxt
      (.exit 2))
    (.seq
     (.blk 3
      (.set 15 (.var 12)
      (.ite (.b (.bin .eql) (.u .ld1 (.b (.idxa 64 1) (.var 10) (.var 15))) (.lit (.int .i64 0)))
       (.call false none 17 (.cn (.var 11) (.cn (.var 15) .nl))
       .nxt)
       .nxt)))
    (.set 12 (.b (.bin .add) (.var 12) (.lit (.int .i64 1)))
    .nxt))))))
 (.set 16 (.lit (.slice none 0 0))
 (.seq
  (.blk 4
   (.loop
    (.blk 5
     (.call false (some 26) 18 (.cn (.var 11) .nl)
     (.chk (.u (.ext 0) (.var 26))
     (.chk (.u (.ext 1) (.var 26))
     (.set 17 (.u (.ext 0) (.var 26))
     (.set 18 (.u (.ext 1) (.var 26))
     (.seq
      (.ite (.u (.un .not) (.var 18))
       (.exit 4)
       .nxt)
     (.eff false (some 27) (.lit 3 1 1 [(.int .i64 0)] (.pl 0 1 (.var 17) .nl))
     (.eff false (some 28) (.app 3 1 8 [(.int .i64 0)] (.var 16) (.var 27))
     (.set 16 (.var 28)
     (.set 22 (.u .ld1 (.u (.fld 1) (.var 3)))
     (.set 20 (.u .len (.var 22))
     (.set 19 (.lit (.int .i64 0))
     (.blk 6
      (.loop
       (.set 21 (.b (.bin .lss) (.var 19) (.var 20))
       (.seq
        (.ite (.var 21)
         .nxt
         (.exit 6))
       (.seq
        (.blk 7
         (.chk (.u (.lda 2) (.b (.idx 2) (.var 22) (.var 19)))
         (.eff false (some 23) (.alloc 26 [(.int .i64 0), (.int .i64 0)])
         (.eff false none (.st 2 (.var 23) (.u (.lda 2) (.b (.idx 2) (.var 22) (.var 19))))
         (.seq
          (.ite (.b (.bin .neq) (.u .ld1 (.u (.fld 0) (.var 23))) (.var 17))
           (.exit 7)
           .nxt)
         (.eff false none (.st 1 (.b (.idxa 64 1) (.var 10) (.u .ld1 (.u (.fld 1) (.var 23)))) (.b (.bin .sub) (.u .ld1 (.b (.idxa 64 1) (.var 10) (.u .ld1 (.u (.fld 1) (.var 23))))) (.lit (.int .i64 1))))
         (.ite (.b (.bin .eql) (.u .ld1 (.b (.idxa 64 1) (.var 10) (.u .ld1 (.u (.fld 1) (.var 23))))) (.lit (.int .i64 0)))
          (.call false none 17 (.cn (.var 11) (.cn (.u .ld1 (.u (.fld 1) (.var 23))) .nl))
          .nxt)
          .nxt)))))))
       (.set 19 (.b (.bin .add) (.var 19) (.lit (.int .i64 1)))
       .nxt)))))))))))))))))))))
 (.seq
  (.ite (.b (.bin .lss) (.u .len (.var 16)) (.u .ld1 (.u (.fld 0) (.var 3))))
   (.set 1 (.lit (.slice none 0 0))
   (.set 2 (.lit (.int .i64 11))
   .ret))
   .nxt)
 (.set 1 (.var 16)
 (.set 2 (.lit (.int .i64 0))
 .ret)))))))))))))))))))))
def f_graph_Order : Fun := ⟨s_graph_Order, [(.var 1), (.var 2)]⟩
abbrev v_graph_Order : List Nat := [0, 2, 3, 1, 4, 23, 22, 24, 21, 7, 5, 8, 37, 36, 38, 9, 10, 11, 12, 62, 61, 63, 60, 14, 16, 34, 50, 57, 58]
theorem c_graph_Order : compF P Go.Proofs.Try.f8 v_graph_Order = some f_graph_Order := by kernel_rfl
theorem of_graph_Order {args : List Value} (hn : args.length ≤ 92) {h : Heap} {R : Value → Heap → Prop} (hs : s_graph_Order.wp P (f_graph_Order.post R) (env0 v_graph_Order args) h) : Runs P n_graph_Order args h R := fn_of P_mixed Go.Proofs.Try.func8 c_graph_Order (by rw [Go.Proofs.Try.ntmps8]; exact hn) hs
theorem vr_graph_Order {kp : Bool} {args : List A} {H : List Blk} {R : A → List Blk → Prop} (hlen : args.length ≤ 92) (hk : kp = false ∨ H = []) (hw : (∀ B ∈ H, A.bdL H.length B.cells = true) → A.bdL H.length args = true → s_graph_Order.aw P H.length (postA H.length f_graph_Order R) (envA v_graph_Order args) H) : VR P kp n_graph_Order args H R := VR.of (F := f_graph_Order) (V := v_graph_Order) of_graph_Order hlen hk fun h1 h2 => aw_sound (hw h1 h2)
theorem r_graph_Order : Fun.res f_graph_Order = [(.var 1), (.var 2)] := rfl
abbrev g_graph_Order_0 : List Nat := [5, 7, 9]
abbrev g_graph_Order_1 : List Nat := [12, 14, 15]
abbrev g_graph_Order_2 : List Nat := [16, 17, 18, 19, 20, 21, 22, 23, 26, 27, 28]
abbrev g_graph_Order_3 : List Nat := [19, 21, 23]

/-- recycling/graph.Cycle -/
abbrev n_graph_Cycle : Nat := 9
def s_graph_Cycle : S :=
 (.eff false (some 3) (.box 24 (.var 0))
 (.set 1 (.lit (.slice none 0 0))
 (.set 2 (.lit (.int .i64 0))
 (.call false (some 15) 13 (.cn (.u (.lda 2) (.var 3)) .nl)
 (.set 4 (.var 15)
 (.seq
  (.ite (.b (.bin .neq) (.var 4) (.lit (.int .i64 0)))
   (.set 1 (.lit (.slice none 0 0))
   (.set 2 (.var 4)
   .ret))
   .nxt)
 (.set 5 (.lit (.int .i64 (-1)))
 (.set 6 (.lit (.int .i64 0))
 (.eff false (some 12) (.alloc 46 (List.replicate 64 (.int .i64 0)))
 (.set 7 (.lit (.int .i64 1))
 (.seq
  (.blk 0
   (.loop
    (.seq
     (.ite (.b (.bin .leq) (.var 7) (.u .ld1 (.u (.fld 0) (.var 3))))
      .nxt
      (.exit 0))
    (.seq
     (.blk 1
      (.set 9 (.u .ld1 (.u (.fld 0) (.var 3)))
      (.set 8 (.lit (.int .i64 0))
      (.blk 2
       (.loop
        (.set 10 (.b (.bin .lss) (.var 8) (.var 9))
        (.seq
         (.ite (.var 10)
          .nxt
          (.exit 2))
        (.seq
         (.blk 3
          (.set 11 (.var 8)
          (.call false (some 16) 19 (.cn (.u (.lda 2) (.var 3)) (.cn (.var 11) .nl))
          (.eff false none (.st 64 (.var 12) (.var 16))
          (.call false (some 17) 20 (.cn (.u (.lda 2) (.var 3)) (.cn (.var 11) (.cn (.b (.bin .sub) (.var 7) (.lit (.int .i64 1))) (.cn (.u (.lda 64) (.var 12)) .nl))))
          (.ite (.b (.bin .geq) (.var 17) (.lit (.int .i64 0)))
           (.set 5 (.var 11)
           (.set 6 (.var 7)
           (.exit 0)))
           .nxt))))))
        (.set 8 (.b (.bin .add) (.var 8) (.lit (.int .i64 1)))
        .nxt)))))))))
    (.set 7 (.b (.bin .add) (.var 7) (.lit (.int .i64 1)))
    .nxt)))))
 (.seq
  (.ite (.b (.bin .lss) (.var 5) (.lit (.int .i64 0)))
   (.set 1 (.lit (.slice none 0 0))
   (.set 2 (.lit (.int .i64 7))
   .ret))
   .nxt)
 (.eff false (some 18) (.lit 3 1 1 [(.int .i64 0)] (.pl 0 1 (.var 5) .nl))
 (.set 13 (.var 18)
 (.set 14 (.b (.bin .sub) (.var 6) (.lit (.int .i64 1)))
 (.seq
  (.blk 4
   (.loop
    (.seq
     (.ite (.b (.bin .gtr) (.var 14) (.lit (.int .i64 0)))
      .nxt
      (.exit 4))
    (.seq
     (.blk 5
      (.call false (some 19) 20 (.cn (.u (.lda 2) (.var 3)) (.cn (.u .ld1 (.b (.idx 1) (.var 13) (.b (.bin .sub) (.u .len (.var 13)) (.lit (.int .i64 1))))) (.cn (.var 14) (.cn (.u (.lda 64) (.var 12)) .nl))))
      (.eff false (some 20) (.lit 3 1 1 [(.int .i64 0)] (.pl 0 1 (.var 19) .nl))
      (.eff false (some 21) (.app 3 1 8 [(.int .i64 0)] (.var 13) (.var 20))
      (.set 13 (.var 21)
      .nxt)))))
    (.set 14 (.b (.bin .sub) (.var 14) (.lit (.int .i64 1)))
    .nxt)))))
 (.set 1 (.var 13)
 (.set 2 (.lit (.int .i64 0))
 .ret))))))))))))))))))
def f_graph_Cycle : Fun := ⟨s_graph_Cycle, [(.var 1), (.var 2)]⟩
abbrev v_graph_Cycle : List Nat := [0, 2, 3, 1, 4, 5, 6, 8, 25, 24, 26, 9, 7, 10, 11, 13, 30, 36, 44, 61, 62, 63]
theorem c_graph_Cycle : compF P Go.Proofs.Try.f9 v_graph_Cycle = some f_graph_Cycle := by kernel_rfl
theorem of_graph_Cycle {args : List Value} (hn : args.length ≤ 65) {h : Heap} {R : Value → Heap → Prop} (hs : s_graph_Cycle.wp P (f_graph_Cycle.post R) (env0 v_graph_Cycle args) h) : Runs P n_graph_Cycle args h R := fn_of P_mixed Go.Proofs.Try.func9 c_graph_Cycle (by rw [Go.Proofs.Try.ntmps9]; exact hn) hs
theorem vr_graph_Cycle {kp : Bool} {args : List A} {H : List Blk} {R : A → List Blk → Prop} (hlen : args.length ≤ 65) (hk : kp = false ∨ H = []) (hw : (∀ B ∈ H, A.bdL H.length B.cells = true) → A.bdL H.length args = true → s_graph_Cycle.aw P H.length (postA H.length f_graph_Cycle R) (envA v_graph_Cycle args) H) : VR P kp n_graph_Cycle args H R := VR.of (F := f_graph_Cycle) (V := v_graph_Cycle) of_graph_Cycle hlen hk fun h1 h2 => aw_sound (hw h1 h2)
theorem r_graph_Cycle : Fun.res f_graph_Cycle = [(.var 1), (.var 2)] := rfl
abbrev g_graph_Cycle_0 : List Nat := [5, 6, 7, 8, 9, 10, 11, 16, 17]
abbrev g_graph_Cycle_1 : List Nat := [5, 6, 8, 10, 11, 16, 17]
abbrev g_graph_Cycle_2 : List Nat := [13, 14, 19, 20, 21]

/-- recycling/graph.Groups -/
abbrev n_graph_Groups : Nat := 10
def s_graph_Groups : S :=
 (.eff false (some 3) (.box 24 (.var 0))
 (.set 1 (.lit (.slice none 0 0))
 (.set 2 (.lit (.int .i64 0))
 (.call false (some 20) 13 (.cn (.u (.lda 2) (.var 3)) .nl)
 (.set 4 (.var 20)
 (.seq
  (.ite (.b (.bin .neq) (.var 4) (.lit (.int .i64 0)))
   (.set 1 (.lit (.slice none 0 0))
   (.set 2 (.var 4)
   .ret))
   .nxt)
 (.set 5 (.lit (.slice none 0 0))
 (.eff false (some 21) (.mk 4 1 1 [(.bool false)] (.u .ld1 (.u (.fld 0) (.var 3))) (.u .ld1 (.u (.fld 0) (.var 3))))
 (.set 6 (.var 21)
 (.set 8 (.u .ld1 (.u (.fld 0) (.var 3)))
 (.set 7 (.lit (.int .i64 0))
 (.seq
  (.blk 0
   (.loop
    (.set 9 (.b (.bin .lss) (.var 7) (.var 8))
    (.seq
     (.ite (.var 9)
      .nxt
      (.exit 0))
    (.seq
     (.blk 1
      (.set 10 (.var 7)
      (.seq
       (.ite (.u .ld1 (.b (.idx 1) (.var 6) (.var 10)))
        (.exit 1)
        .nxt)
      (.call false (some 22) 4 (.cn (.u (.lda 2) (.var 3)) (.cn (.var 10) .nl))
      (.chk (.u (.ext 0) (.var 22))
      (.chk (.u (.ext 1) (.var 22))
      (.set 11 (.u (.ext 0) (.var 22))
      (.set 12 (.u (.ext 1) (.var 22))
      (.call false (some 23) 21 (.cn (.u (.lda 2) (.var 3)) (.cn (.var 10) .nl))
      (.chk (.u (.ext 0) (.var 23))
      (.chk (.u (.ext 1) (.var 23))
      (.set 13 (.u (.ext 0) (.var 23))
      (.set 14 (.u (.ext 1) (.var 23))
      (.set 15 (.lit (.slice none 0 0))
      (.set 17 (.u .ld1 (.u (.fld 0) (.var 3)))
      (.set 16 (.lit (.int .i64 0))
      (.seq
       (.blk 2
        (.loop
         (.set 18 (.b (.bin .lss) (.var 16) (.var 17))
         (.seq
          (.ite (.var 18)
           .nxt
           (.exit 2))
         (.seq
          (.blk 3
           (.set 19 (.var 16)
           (.ite (.ite (.u .ld1 (.b (.idx 1) (.var 11) (.var 19))) (.u .ld1 (.b (.idx 1) (.var 13) (.var 19))) (.lit (.bool false)))
            (.eff false none (.st 1 (.b (.idx 1) (.var 6) (.var 19)) (.lit (.bool true)))
            (.eff false (some 24) (.lit 3 1 1 [(.int .i64 0)] (.pl 0 1 (.var 19) .nl))
            (.eff false (some 26) (.app 3 1 8 [(.int .i64 0)] (.var 15) (.var 24))
            (.set 15 (.var 26)
            .nxt))))
            .nxt)))
         (.set 16 (.b (.bin .add) (.var 16) (.lit (.int .i64 1)))
         .nxt))))))
      (.eff false (some 25) (.lit 35 1 1 [(.slice none 0 0)] (.pl 0 1 (.var 15) .nl))
      (.eff false (some 27) (.app 35 1 24 [(.slice none 0 0)] (.var 5) (.var 25))
      (.set 5 (.var 27)
      .nxt))))))))))))))))))))
    (.set 7 (.b (.bin .add) (.var 7) (.lit (.int .i64 1)))
    .nxt))))))
 (.set 1 (.var 5)
 (.set 2 (.lit (.int .i64 0))
 .ret))))))))))))))
def f_graph_Groups : Fun := ⟨s_graph_Groups, [(.var 1), (.var 2)]⟩
abbrev v_graph_Groups : List Nat := [0, 2, 3, 1, 4, 5, 6, 24, 23, 25, 7, 8, 9, 10, 11, 12, 45, 44, 46, 13, 15, 21, 34, 40, 63, 68, 64, 69]
theorem c_graph_Groups : compF P Go.Proofs.Try.f10 v_graph_Groups = some f_graph_Groups := by kernel_rfl
theorem of_graph_Groups {args : List Value} (hn : args.length ≤ 72) {h : Heap} {R : Value → Heap → Prop} (hs : s_graph_Groups.wp P (f_graph_Groups.post R) (env0 v_graph_Groups args) h) : Runs P n_graph_Groups args h R := fn_of P_mixed Go.Proofs.Try.func10 c_graph_Groups (by rw [Go.Proofs.Try.ntmps10]; exact hn) hs
theorem vr_graph_Groups {kp : Bool} {args : List A} {H : List Blk} {R : A → List Blk → Prop} (hlen : args.length ≤ 72) (hk : kp = false ∨ H = []) (hw : (∀ B ∈ H, A.bdL H.length B.cells = true) → A.bdL H.length args = true → s_graph_Groups.aw P H.length (postA H.length f_graph_Groups R) (envA v_graph_Groups args) H) : VR P kp n_graph_Groups args H R := VR.of (F := f_graph_Groups) (V := v_graph_Groups) of_graph_Groups hlen hk fun h1 h2 => aw_sound (hw h1 h2)
theorem r_graph_Groups : Fun.res f_graph_Groups = [(.var 1), (.var 2)] := rfl
abbrev g_graph_Groups_0 : List Nat := [5, 7, 9, 10, 11, 12, 13, 14, 15, 16, 17, 18, 19, 22, 23, 24, 25, 26, 27]
abbrev g_graph_Groups_1 : List Nat := [15, 16, 18, 19, 24, 26]

/-- recycling/recyclingref09.Ints -/
abbrev n_ref09_Ints : Nat := 11
def s_ref09_Ints : S :=
 (.set 2 (.lit (.bool false))
 (.seq
  (.ite (.b (.bin .neq) (.u .len (.var 0)) (.u .len (.var 1)))
   (.set 2 (.lit (.bool false))
   .ret)
   .nxt)
 (.set 4 (.u .len (.var 0))
 (.set 3 (.lit (.int .i64 0))
 (.seq
  (.blk 0
   (.loop
    (.set 5 (.b (.bin .lss) (.var 3) (.var 4))
    (.seq
     (.ite (.var 5)
      .nxt
      (.exit 0))
    (.seq
     (.blk 1
      (.set 6 (.var 3)
      (.ite (.b (.bin .neq) (.u .ld1 (.b (.idx 1) (.var 0) (.var 6))) (.u .ld1 (.b (.idx 1) (.var 1) (.var 6))))
       (.set 2 (.lit (.bool false))
       .ret)
       .nxt)))
    (.set 3 (.b (.bin .add) (.var 3) (.lit (.int .i64 1)))
    .nxt))))))
 (.set 2 (.lit (.bool true))
 .ret))))))
def f_ref09_Ints : Fun := ⟨s_ref09_Ints, [(.var 2)]⟩
abbrev v_ref09_Ints : List Nat := [0, 1, 4, 13, 12, 14, 5]
theorem c_ref09_Ints : compF P Go.Proofs.Try.f11 v_ref09_Ints = some f_ref09_Ints := by kernel_rfl
theorem of_ref09_Ints {args : List Value} (hn : args.length ≤ 26) {h : Heap} {R : Value → Heap → Prop} (hs : s_ref09_Ints.wp P (f_ref09_Ints.post R) (env0 v_ref09_Ints args) h) : Runs P n_ref09_Ints args h R := fn_of P_mixed Go.Proofs.Try.func11 c_ref09_Ints (by rw [Go.Proofs.Try.ntmps11]; exact hn) hs
theorem vr_ref09_Ints {kp : Bool} {args : List A} {H : List Blk} {R : A → List Blk → Prop} (hlen : args.length ≤ 26) (hk : kp = false ∨ H = []) (hw : (∀ B ∈ H, A.bdL H.length B.cells = true) → A.bdL H.length args = true → s_ref09_Ints.aw P H.length (postA H.length f_ref09_Ints R) (envA v_ref09_Ints args) H) : VR P kp n_ref09_Ints args H R := VR.of (F := f_ref09_Ints) (V := v_ref09_Ints) of_ref09_Ints hlen hk fun h1 h2 => aw_sound (hw h1 h2)
theorem r_ref09_Ints : Fun.res f_ref09_Ints = [(.var 2)] := rfl
abbrev g_ref09_Ints_0 : List Nat := [2, 3, 5, 6]

/-- recycling/recyclingref09.Lists -/
abbrev n_ref09_Lists : Nat := 12
def s_ref09_Lists : S :=
 (.set 2 (.lit (.bool false))
 (.seq
  (.ite (.b (.bin .neq) (.u .len (.var 0)) (.u .len (.var 1)))
   (.set 2 (.lit (.bool false))
   .ret)
   .nxt)
 (.set 4 (.u .len (.var 0))
 (.set 3 (.lit (.int .i64 0))
 (.seq
  (.blk 0
   (.loop
    (.set 5 (.b (.bin .lss) (.var 3) (.var 4))
    (.seq
     (.ite (.var 5)
      .nxt
      (.exit 0))
    (.seq
     (.blk 1
      (.set 6 (.var 3)
      (.call false (some 7) 11 (.cn (.u .ld1 (.b (.idx 1) (.var 0) (.var 6))) (.cn (.u .ld1 (.b (.idx 1) (.var 1) (.var 6))) .nl))
      (.ite (.u (.un .not) (.var 7))
       (.set 2 (.lit (.bool false))
       .ret)
       .nxt))))
    (.set 3 (.b (.bin .add) (.var 3) (.lit (.int .i64 1)))
    .nxt))))))
 (.set 2 (.lit (.bool true))
 .ret))))))
def f_ref09_Lists : Fun := ⟨s_ref09_Lists, [(.var 2)]⟩
abbrev v_ref09_Lists : List Nat := [0, 1, 4, 13, 12, 14, 5, 24]
theorem c_ref09_Lists : compF P Go.Proofs.Try.f12 v_ref09_Lists = some f_ref09_Lists := by kernel_rfl
theorem of_ref09_Lists {args : List Value} (hn : args.length ≤ 27) {h : Heap} {R : Value → Heap → Prop} (hs : s_ref09_Lists.wp P (f_ref09_Lists.post R) (env0 v_ref09_Lists args) h) : Runs P n_ref09_Lists args h R := fn_of P_mixed Go.Proofs.Try.func12 c_ref09_Lists (by rw [Go.Proofs.Try.ntmps12]; exact hn) hs
theorem vr_ref09_Lists {kp : Bool} {args : List A} {H : List Blk} {R : A → List Blk → Prop} (hlen : args.length ≤ 27) (hk : kp = false ∨ H = []) (hw : (∀ B ∈ H, A.bdL H.length B.cells = true) → A.bdL H.length args = true → s_ref09_Lists.aw P H.length (postA H.length f_ref09_Lists R) (envA v_ref09_Lists args) H) : VR P kp n_ref09_Lists args H R := VR.of (F := f_ref09_Lists) (V := v_ref09_Lists) of_ref09_Lists hlen hk fun h1 h2 => aw_sound (hw h1 h2)
theorem r_ref09_Lists : Fun.res f_ref09_Lists = [(.var 2)] := rfl
abbrev g_ref09_Lists_0 : List Nat := [2, 3, 5, 6, 7]

/-- recycling/graph.Check -/
abbrev n_graph_Check : Nat := 13
def s_graph_Check : S :=
 (.eff false (some 2) (.box 24 (.var 0))
 (.set 1 (.lit (.int .i64 0))
 (.seq
  (.ite (.ite (.b (.bin .lss) (.u .ld1 (.u (.fld 0) (.var 2))) (.lit (.int .i64 0))) (.lit (.bool true)) (.b (.bin .gtr) (.u .ld1 (.u (.fld 0) (.var 2))) (.lit (.int .i64 64))))
   (.set 1 (.lit (.int .i64 1))
   .ret)
   .nxt)
 (.seq
  (.ite (.b (.bin .gtr) (.u .len (.u .ld1 (.u (.fld 1) (.var 2)))) (.lit (.int .i64 512)))
   (.set 1 (.lit (.int .i64 8))
   .ret)
   .nxt)
 (.set 6 (.u .ld1 (.u (.fld 1) (.var 2)))
 (.set 4 (.u .len (.var 6))
 (.set 3 (.lit (.int .i64 0))
 (.seq
  (.blk 0
   (.loop
    (.set 5 (.b (.bin .lss) (.var 3) (.var 4))
    (.seq
     (.ite (.var 5)
      .nxt
      (.exit 0))
    (.seq
     (.blk 1
      (.chk (.u (.lda 2) (.b (.idx 2) (.var 6) (.var 3)))
      (.eff false (some 7) (.alloc 26 [(.int .i64 0), (.int .i64 0)])
      (.eff false none (.st 2 (.var 7) (.u (.lda 2) (.b (.idx 2) (.var 6) (.var 3))))
      (.ite (.ite (.ite (.ite (.b (.bin .lss) (.u .ld1 (.u (.fld 0) (.var 7))) (.lit (.int .i64 0))) (.lit (.bool true)) (.b (.bin .geq) (.u .ld1 (.u (.fld 0) (.var 7))) (.u .ld1 (.u (.fld 0) (.var 2))))) (.lit (.bool true)) (.b (.bin .lss) (.u .ld1 (.u (.fld 1) (.var 7))) (.lit (.int .i64 0)))) (.lit (.bool true)) (.b (.bin .geq) (.u .ld1 (.u (.fld 1) (.var 7))) (.u .ld1 (.u (.fld 0) (.var 2)))))
       (.set 1 (.lit (.int .i64 7))
       .ret)
       .nxt)))))
    (.set 3 (.b (.bin .add) (.var 3) (.lit (.int .i64 1)))
    .nxt))))))
 (.set 1 (.lit (.int .i64 0))
 .ret)))))))))
def f_graph_Check : Fun := ⟨s_graph_Check, [(.var 1)]⟩
abbrev v_graph_Check : List Nat := [0, 2, 1, 20, 19, 21, 18, 4]
theorem c_graph_Check : compF P Go.Proofs.Try.f13 v_graph_Check = some f_graph_Check := by kernel_rfl
theorem of_graph_Check {args : List Value} (hn : args.length ≤ 47) {h : Heap} {R : Value → Heap → Prop} (hs : s_graph_Check.wp P (f_graph_Check.post R) (env0 v_graph_Check args) h) : Runs P n_graph_Check args h R := fn_of P_mixed Go.Proofs.Try.func13 c_graph_Check (by rw [Go.Proofs.Try.ntmps13]; exact hn) hs
theorem vr_graph_Check {kp : Bool} {args : List A} {H : List Blk} {R : A → List Blk → Prop} (hlen : args.length ≤ 47) (hk : kp = false ∨ H = []) (hw : (∀ B ∈ H, A.bdL H.length B.cells = true) → A.bdL H.length args = true → s_graph_Check.aw P H.length (postA H.length f_graph_Check R) (envA v_graph_Check args) H) : VR P kp n_graph_Check args H R := VR.of (F := f_graph_Check) (V := v_graph_Check) of_graph_Check hlen hk fun h1 h2 => aw_sound (hw h1 h2)
theorem r_graph_Check : Fun.res f_graph_Check = [(.var 1)] := rfl
abbrev g_graph_Check_0 : List Nat := [1, 3, 5, 7]

/-- recycling/graph.visit$1 -/
abbrev n_graph_visit_1 : Nat := 14
def s_graph_visit_1 : S :=
 (.seq
  (.ite (.u .ld1 (.b (.idx 1) (.u .ld1 (.var 1)) (.var 0)))
   .ret
   .nxt)
 (.eff false none (.st 1 (.b (.idx 1) (.u .ld1 (.var 1)) (.var 0)) (.lit (.bool true)))
 (.set 8 (.u .ld1 (.u (.fld 1) (.var 2)))
 (.set 6 (.u .len (.var 8))
 (.set 5 (.lit (.int .i64 0))
 (.blk 0
  (.loop
   (.set 7 (.b (.bin .lss) (.var 5) (.var 6))
   (.seq
    (.ite (.var 7)
     .nxt
     (.exit 0))
   (.seq
    (.blk 1
     (.chk (.u (.lda 2) (.b (.idx 2) (.var 8) (.var 5)))
     (.eff false (some 9) (.alloc 26 [(.int .i64 0), (.int .i64 0)])
     (.eff false none (.st 2 (.var 9) (.u (.lda 2) (.b (.idx 2) (.var 8) (.var 5))))
     (.callv false (some 12) (.u .ld1 (.var 3)) (.cn (.u (.lda 2) (.var 9)) .nl)
     (.chk (.u (.ext 0) (.var 12))
     (.chk (.u (.ext 1) (.var 12))
     (.set 10 (.u (.ext 0) (.var 12))
     (.set 11 (.u (.ext 1) (.var 12))
     (.ite (.b (.bin .eql) (.var 10) (.var 0))
      (.callv false none (.u .ld1 (.var 4)) (.cn (.var 11) .nl)
      .nxt)
      .nxt))))))))))
   (.set 5 (.b (.bin .add) (.var 5) (.lit (.int .i64 1)))
   .nxt)))))))))))
def f_graph_visit_1 : Fun := ⟨s_graph_visit_1, []⟩
abbrev v_graph_visit_1 : List Nat := [0, 1, 2, 3, 4, 20, 19, 21, 18, 7, 8, 9, 27]
theorem c_graph_visit_1 : compF P Go.Proofs.Try.f14 v_graph_visit_1 = some f_graph_visit_1 := by kernel_rfl
theorem of_graph_visit_1 {args : List Value} (hn : args.length ≤ 37) {h : Heap} {R : Value → Heap → Prop} (hs : s_graph_visit_1.wp P (f_graph_visit_1.post R) (env0 v_graph_visit_1 args) h) : Runs P n_graph_visit_1 args h R := fn_of P_mixed Go.Proofs.Try.func14 c_graph_visit_1 (by rw [Go.Proofs.Try.ntmps14]; exact hn) hs
theorem vr_graph_visit_1 {kp : Bool} {args : List A} {H : List Blk} {R : A → List Blk → Prop} (hlen : args.length ≤ 37) (hk : kp = false ∨ H = []) (hw : (∀ B ∈ H, A.bdL H.length B.cells = true) → A.bdL H.length args = true → s_graph_visit_1.aw P H.length (postA H.length f_graph_visit_1 R) (envA v_graph_visit_1 args) H) : VR P kp n_graph_visit_1 args H R := VR.of (F := f_graph_visit_1) (V := v_graph_visit_1) of_graph_visit_1 hlen hk fun h1 h2 => aw_sound (hw h1 h2)
theorem r_graph_visit_1 : Fun.res f_graph_visit_1 = [] := rfl
abbrev g_graph_visit_1_0 : List Nat := [5, 7, 9, 10, 11, 12]

/-- recycling/pqueue.New[int] -/
abbrev n_pqueue_New : Nat := 15
def s_pqueue_New : S :=
 (.set 1 (.lit (.pointer none))
 (.chk (.b (.eqf false) (.var 0) (.lit .nilFunc))
 (.seq
  (.ite (.b (.eqf false) (.var 0) (.lit .nilFunc))
   (.set 1 (.lit (.pointer none))
   .ret)
   .nxt)
 (.chk (.bld [.nilFunc, (.slice none 0 0), (.int .i64 0)] (.pl 0 1 (.var 0) .nl))
 (.eff false (some 2) (.box 56 (.bld [.nilFunc, (.slice none 0 0), (.int .i64 0)] (.pl 0 1 (.var 0) .nl)))
 (.set 1 (.var 2)
 .ret))))))
def f_pqueue_New : Fun := ⟨s_pqueue_New, [(.var 1)]⟩
abbrev v_pqueue_New : List Nat := [0, 2, 7]
theorem c_pqueue_New : compF P Go.Proofs.Try.f15 v_pqueue_New = some f_pqueue_New := by kernel_rfl
theorem of_pqueue_New {args : List Value} (hn : args.length ≤ 8) {h : Heap} {R : Value → Heap → Prop} (hs : s_pqueue_New.wp P (f_pqueue_New.post R) (env0 v_pqueue_New args) h) : Runs P n_pqueue_New args h R := fn_of P_mixed Go.Proofs.Try.func15 c_pqueue_New (by rw [Go.Proofs.Try.ntmps15]; exact hn) hs
theorem vr_pqueue_New {kp : Bool} {args : List A} {H : List Blk} {R : A → List Blk → Prop} (hlen : args.length ≤ 8) (hk : kp = false ∨ H = []) (hw : (∀ B ∈ H, A.bdL H.length B.cells = true) → A.bdL H.length args = true → s_pqueue_New.aw P H.length (postA H.length f_pqueue_New R) (envA v_pqueue_New args) H) : VR P kp n_pqueue_New args H R := VR.of (F := f_pqueue_New) (V := v_pqueue_New) of_pqueue_New hlen hk fun h1 h2 => aw_sound (hw h1 h2)
theorem r_pqueue_New : Fun.res f_pqueue_New = [(.var 1)] := rfl

/-- recycling/graph.Order$1 -/
abbrev n_graph_Order_1 : Nat := 16
def s_graph_Order_1 : S :=
 (.set 2 (.lit (.bool false))
 (.set 2 (.b (.bin .lss) (.var 0) (.var 1))
 .ret))
def f_graph_Order_1 : Fun := ⟨s_graph_Order_1, [(.var 2)]⟩
abbrev v_graph_Order_1 : List Nat := [0, 1, 4]
theorem c_graph_Order_1 : compF P Go.Proofs.Try.f16 v_graph_Order_1 = some f_graph_Order_1 := by kernel_rfl
theorem of_graph_Order_1 {args : List Value} (hn : args.length ≤ 8) {h : Heap} {R : Value → Heap → Prop} (hs : s_graph_Order_1.wp P (f_graph_Order_1.post R) (env0 v_graph_Order_1 args) h) : Runs P n_graph_Order_1 args h R := fn_of P_mixed Go.Proofs.Try.func16 c_graph_Order_1 (by rw [Go.Proofs.Try.ntmps16]; exact hn) hs
theorem vr_graph_Order_1 {kp : Bool} {args : List A} {H : List Blk} {R : A → List Blk → Prop} (hlen : args.length ≤ 8) (hk : kp = false ∨ H = []) (hw : (∀ B ∈ H, A.bdL H.length B.cells = true) → A.bdL H.length args = true → s_graph_Order_1.aw P H.length (postA H.length f_graph_Order_1 R) (envA v_graph_Order_1 args) H) : VR P kp n_graph_Order_1 args H R := VR.of (F := f_graph_Order_1) (V := v_graph_Order_1) of_graph_Order_1 hlen hk fun h1 h2 => aw_sound (hw h1 h2)
theorem r_graph_Order_1 : Fun.res f_graph_Order_1 = [(.var 2)] := rfl

/-- (*recycling/pqueue.Queue[int]).Push -/
abbrev n_pqueue_Queue_Push : Nat := 17
def s_pqueue_Queue_Push : S :=
 (.seq
  (.ite (.b (.eqp false) (.var 0) (.lit (.pointer none)))
   .ret
   .nxt)
 (.chk (.u .ld1 (.u (.fld 1) (.u .nilc (.var 0))))
 (.chk (.bld [(.int .i64 0), (.int .i64 0)] (.pl 0 1 (.var 1) (.pl 1 1 (.u .ld1 (.u (.fld 2) (.u .nilc (.var 0)))) .nl)))
 (.eff false (some 4) (.lit 58 2 1 [(.int .i64 0), (.int .i64 0)] (.pl 0 2 (.bld [(.int .i64 0), (.int .i64 0)] (.pl 0 1 (.var 1) (.pl 1 1 (.u .ld1 (.u (.fld 2) (.u .nilc (.var 0)))) .nl))) .nl))
 (.eff false (some 6) (.app 58 2 16 [(.int .i64 0), (.int .i64 0)] (.u .ld1 (.u (.fld 1) (.u .nilc (.var 0)))) (.var 4))
 (.eff false none (.st 1 (.u (.fld 1) (.u .nilc (.var 0))) (.var 6))
 (.eff false none (.st 1 (.u (.fld 2) (.u .nilc (.var 0))) (.b (.bin .add) (.u .ld1 (.u (.fld 2) (.u .nilc (.var 0)))) (.lit (.int .i64 1))))
 (.set 2 (.b (.bin .sub) (.u .len (.u .ld1 (.u (.fld 1) (.u .nilc (.var 0))))) (.lit (.int .i64 1)))
 (.blk 0
  (.loop
   (.seq
    (.ite (.b (.bin .gtr) (.var 2) (.lit (.int .i64 0)))
     .nxt
     (.exit 0))
   (.blk 1
    (.set 3 (.b (.bin .quo) (.b (.bin .sub) (.var 2) (.lit (.int .i64 1))) (.lit (.int .i64 2)))
    (.call false (some 5) 22 (.cn (.var 0) (.cn (.var 2) (.cn (.var 3) .nl)))
    (.seq
     (.ite (.u (.un .not) (.var 5))
      .ret
      .nxt)
    (.call false none 23 (.cn (.var 0) (.cn (.var 2) (.cn (.var 3) .nl)))
    (.set 2 (.var 3)
    .nxt)))))))))))))))))
def f_pqueue_Queue_Push : Fun := ⟨s_pqueue_Queue_Push, []⟩
abbrev v_pqueue_Queue_Push : List Nat := [0, 1, 4, 5, 19, 44, 20]
theorem c_pqueue_Queue_Push : compF P Go.Proofs.Try.f17 v_pqueue_Queue_Push = some f_pqueue_Queue_Push := by kernel_rfl
theorem of_pqueue_Queue_Push {args : List Value} (hn : args.length ≤ 51) {h : Heap} {R : Value → Heap → Prop} (hs : s_pqueue_Queue_Push.wp P (f_pqueue_Queue_Push.post R) (env0 v_pqueue_Queue_Push args) h) : Runs P n_pqueue_Queue_Push args h R := fn_of P_mixed Go.Proofs.Try.func17 c_pqueue_Queue_Push (by rw [Go.Proofs.Try.ntmps17]; exact hn) hs
theorem vr_pqueue_Queue_Push {kp : Bool} {args : List A} {H : List Blk} {R : A → List Blk → Prop} (hlen : args.length ≤ 51) (hk : kp = false ∨ H = []) (hw : (∀ B ∈ H, A.bdL H.length B.cells = true) → A.bdL H.length args = true → s_pqueue_Queue_Push.aw P H.length (postA H.length f_pqueue_Queue_Push R) (envA v_pqueue_Queue_Push args) H) : VR P kp n_pqueue_Queue_Push args H R := VR.of (F := f_pqueue_Queue_Push) (V := v_pqueue_Queue_Push) of_pqueue_Queue_Push hlen hk fun h1 h2 => aw_sound (hw h1 h2)
theorem r_pqueue_Queue_Push : Fun.res f_pqueue_Queue_Push = [] := rfl
/-- (*recycling/pqueue.Queue[int]).Pop -/
abbrev n_pqueue_Queue_Pop : Nat := 18
def s_pqueue_Queue_Pop : S :=
 (.set 1 (.lit (.int .i64 0))
 (.set 2 (.lit (.bool false))
 (.call false (some 6) 24 (.cn (.var 0) .nl)
 (.chk (.u (.ext 0) (.var 6))
 (.chk (.u (.ext 1) (.var 6))
 (.set 3 (.u (.ext 0) (.var 6))
 (.set 4 (.u (.ext 1) (.var 6))
 (.seq
  (.ite (.u (.un .not) (.var 4))
   (.set 1 (.var 3)
   (.set 2 (.lit (.bool false))
   .ret))
   .nxt)
 (.set 5 (.b (.bin .sub) (.u .len (.u .ld1 (.u (.fld 1) (.u .nilc (.var 0))))) (.lit (.int .i64 1)))
 (.call false none 23 (.cn (.var 0) (.cn (.lit (.int .i64 0)) (.cn (.var 5) .nl)))
 (.chk (.slc none 2 (.u .ld1 (.u (.fld 1) (.u .nilc (.var 0)))) (.var 5) (.u .len (.u .ld1 (.u (.fld 1) (.u .nilc (.var 0))))) .nl)
 (.eff false none (.clr [(.int .i64 0), (.int .i64 0)] (.slc none 2 (.u .ld1 (.u (.fld 1) (.u .nilc (.var 0)))) (.var 5) (.u .len (.u .ld1 (.u (.fld 1) (.u .nilc (.var 0))))) .nl))
 (.chk (.slc none 2 (.u .ld1 (.u (.fld 1) (.u .nilc (.var 0)))) (.lit (.int .i64 0)) (.var 5) .nl)
 (.eff false none (.st 1 (.u (.fld 1) (.u .nilc (.var 0))) (.slc none 2 (.u .ld1 (.u (.fld 1) (.u .nilc (.var 0)))) (.lit (.int .i64 0)) (.var 5) .nl))
 (.call false none 25 (.cn (.var 0) .nl)
 (.set 1 (.var 3)
 (.set 2 (.lit (.bool true))
 .ret)))))))))))))))))
def f_pqueue_Queue_Pop : Fun := ⟨s_pqueue_Queue_Pop, [(.var 1), (.var 2)]⟩
abbrev v_pqueue_Queue_Pop : List Nat := [0, 2, 3, 4, 5, 6, 9]
theorem c_pqueue_Queue_Pop : compF P Go.Proofs.Try.f18 v_pqueue_Queue_Pop = some f_pqueue_Queue_Pop := by kernel_rfl
theorem of_pqueue_Queue_Pop {args : List Value} (hn : args.length ≤ 42) {h : Heap} {R : Value → Heap → Prop} (hs : s_pqueue_Queue_Pop.wp P (f_pqueue_Queue_Pop.post R) (env0 v_pqueue_Queue_Pop args) h) : Runs P n_pqueue_Queue_Pop args h R := fn_of P_mixed Go.Proofs.Try.func18 c_pqueue_Queue_Pop (by rw [Go.Proofs.Try.ntmps18]; exact hn) hs
theorem vr_pqueue_Queue_Pop {kp : Bool} {args : List A} {H : List Blk} {R : A → List Blk → Prop} (hlen : args.length ≤ 42) (hk : kp = false ∨ H = []) (hw : (∀ B ∈ H, A.bdL H.length B.cells = true) → A.bdL H.length args = true → s_pqueue_Queue_Pop.aw P H.length (postA H.length f_pqueue_Queue_Pop R) (envA v_pqueue_Queue_Pop args) H) : VR P kp n_pqueue_Queue_Pop args H R := VR.of (F := f_pqueue_Queue_Pop) (V := v_pqueue_Queue_Pop) of_pqueue_Queue_Pop hlen hk fun h1 h2 => aw_sound (hw h1 h2)
theorem r_pqueue_Queue_Pop : Fun.res f_pqueue_Queue_Pop = [(.var 1), (.var 2)] := rfl

/-- recycling/graph.distances -/
abbrev n_graph_distances : Nat := 19
def s_graph_distances : S :=
 (.eff false (some 9) (.box 24 (.var 0))
 (.eff false (some 2) (.alloc 46 (List.replicate 64 (.int .i64 0)))
 (.eff false (some 6) (.alloc 46 (List.replicate 64 (.int .i64 0)))
 (.set 3 (.lit (.int .i64 0))
 (.seq
  (.blk 0
   (.loop
    (.set 4 (.b (.bin .lss) (.var 3) (.lit (.int .i64 64)))
    (.seq
     (.ite (.var 4)
      .nxt
      (.exit 0))
    (.seq
     (.blk 1
      (.set 5 (.var 3)
      (.eff false none (.st 1 (.b (.idxa 64 1) (.var 6) (.var 5)) (.lit (.int .i64 (-1))))
      .nxt)))
    (.set 3 (.b (.bin .add) (.var 3) (.lit (.int .i64 1)))
    .nxt))))))
 (.eff false none (.st 1 (.b (.idxa 64 1) (.var 6) (.var 1)) (.lit (.int .i64 0)))
 (.eff false (some 15) (.lit 3 1 1 [(.int .i64 0)] (.pl 0 1 (.var 1) .nl))
 (.set 7 (.var 15)
 (.seq
  (.blk 2
   (.loop
    (.seq
     (.ite (.b (.bin .gtr) (.u .len (.var 7)) (.lit (.int .i64 0)))
      .nxt
      (.exit 2))
    (.blk 3
     (.set 8 (.lit (.slice none 0 0))
     (.set 13 (.u .ld1 (.u (.fld 1) (.var 9)))
     (.set 11 (.u .len (.var 13))
     (.set 10 (.lit (.int .i64 0))
     (.seq
      (.blk 4
       (.loop
        (.set 12 (.b (.bin .lss) (.var 10) (.var 11))
        (.seq
         (.ite (.var 12)
          .nxt
          (.exit 4))
        (.seq
         (.blk 5
          (.chk (.u (.lda 2) (.b (.idx 2) (.var 13) (.var 10)))
          (.eff false (some 14) (.alloc 26 [(.int .i64 0), (.int .i64 0)])
          (.eff false none (.st 2 (.var 14) (.u (.lda 2) (.b (.idx 2) (.var 13) (.var 10))))
          (.chk (.ite (.ite (.b (.bin .geq) (.u .ld1 (.u (.fld 0) (.var 14))) (.var 1)) (.b (.bin .lss) (.u .ld1 (.b (.idxa 64 1) (.var 6) (.u .ld1 (.u (.fld 0) (.var 14))))) (.lit (.int .i64 0))) (.lit (.bool false))) (.u .ld1 (.u (.fld 1) (.var 14))) (.lit undef))
          (.ite (.ite (.b (.bin .geq) (.u .ld1 (.u (.fld 0) (.var 14))) (.var 1)) (.b (.bin .lss) (.u .ld1 (.b (.idxa 64 1) (.var 6) (.u .ld1 (.u (.fld 0) (.var 14))))) (.lit (.int .i64 0))) (.lit (.bool false)))
           (.call false (some 16) 26 (.cn (.var 7) (.cn (.u .ld1 (.u (.fld 1) (.var 14))) .nl))
           (.ite (.var 16)
            (.eff false none (.st 1 (.b (.idxa 64 1) (.var 6) (.u .ld1 (.u (.fld 0) (.var 14)))) (.b (.bin .add) (.u .ld1 (.b (.idxa 64 1) (.var 6) (.u .ld1 (.u (.fld 1) (.var 14))))) (.lit (.int .i64 1))))
            (.eff false (some 17) (.lit 3 1 1 [(.int .i64 0)] (.pl 0 1 (.u .ld1 (.u (.fld 0) (.var 14))) .nl))
            (.eff false (some 18) (.app 3 1 8 [(.int .i64 0)] (.var 8) (.var 17))
            (.set 8 (.var 18)
            .nxt))))
            .nxt))
           (.set 16 (.lit undef)
           (.ite (.lit (.bool false))
            (.eff false none (.st 1 (.b (.idxa 64 1) (.var 6) (.u .ld1 (.u (.fld 0) (.var 14)))) (.b (.bin .add) (.u .ld1 (.b (.idxa 64 1) (.var 6) (.u .ld1 (.u (.fld 1) (.var 14))))) (.lit (.int .i64 1))))
            (.eff false (some 17) (.lit 3 1 1 [(.int .i64 0)] (.pl 0 1 (.u .ld1 (.u (.fld 0) (.var 14))) .nl))
            (.eff false (some 18) (.app 3 1 8 [(.int .i64 0)] (.var 8) (.var 17))
            (.set 8 (.var 18)
            .nxt))))
            .nxt))))))))
        (.set 10 (.b (.bin .add) (.var 10) (.lit (.int .i64 1)))
        .nxt))))))
     (.set 7 (.var 8)
     .nxt))))))))))
 (.eff false none (.st 64 (.var 2) (.u (.lda 64) (.var 6)))
 .ret))))))))))
def f_graph_distances : Fun := ⟨s_graph_distances, [(.u (.lda 64) (.var 2))]⟩
abbrev v_graph_distances : List Nat := [0, 1, 4, 11, 12, 6, 5, 7, 8, 2, 27, 26, 28, 25, 10, 20, 46, 59, 60]
theorem c_graph_distances : compF P Go.Proofs.Try.f19 v_graph_distances = some f_graph_distances := by kernel_rfl
theorem of_graph_distances {args : List Value} (hn : args.length ≤ 64) {h : Heap} {R : Value → Heap → Prop} (hs : s_graph_distances.wp P (f_graph_distances.post R) (env0 v_graph_distances args) h) : Runs P n_graph_distances args h R := fn_of P_mixed Go.Proofs.Try.func19 c_graph_distances (by rw [Go.Proofs.Try.ntmps19]; exact hn) hs
theorem vr_graph_distances {kp : Bool} {args : List A} {H : List Blk} {R : A → List Blk → Prop} (hlen : args.length ≤ 64) (hk : kp = false ∨ H = []) (hw : (∀ B ∈ H, A.bdL H.length B.cells = true) → A.bdL H.length args = true → s_graph_distances.aw P H.length (postA H.length f_graph_distances R) (envA v_graph_distances args) H) : VR P kp n_graph_distances args H R := VR.of (F := f_graph_distances) (V := v_graph_distances) of_graph_distances hlen hk fun h1 h2 => aw_sound (hw h1 h2)
theorem r_graph_distances : Fun.res f_graph_distances = [(.u (.lda 64) (.var 2))] := rfl
abbrev g_graph_distances_0 : List Nat := [3, 4, 5]
abbrev g_graph_distances_1 : List Nat := [7, 8, 10, 11, 12, 13, 14, 16, 17, 18]
abbrev g_graph_distances_2 : List Nat := [8, 10, 12, 14, 16, 17, 18]

/-- recycling/graph.follow -/
abbrev n_graph_follow : Nat := 20
def s_graph_follow : S :=
 (.eff false (some 6) (.box 24 (.var 0))
 (.eff false (some 12) (.box 46 (.var 3))
 (.set 4 (.lit (.int .i64 0))
 (.set 5 (.lit (.int .i64 (-1)))
 (.set 10 (.u .ld1 (.u (.fld 1) (.var 6)))
 (.set 8 (.u .len (.var 10))
 (.set 7 (.lit (.int .i64 0))
 (.seq
  (.blk 0
   (.loop
    (.set 9 (.b (.bin .lss) (.var 7) (.var 8))
    (.seq
     (.ite (.var 9)
      .nxt
      (.exit 0))
    (.seq
     (.blk 1
      (.chk (.u (.lda 2) (.b (.idx 2) (.var 10) (.var 7)))
      (.eff false (some 11) (.alloc 26 [(.int .i64 0), (.int .i64 0)])
      (.eff false none (.st 2 (.var 11) (.u (.lda 2) (.b (.idx 2) (.var 10) (.var 7))))
      (.ite (.ite (.ite (.b (.bin .eql) (.u .ld1 (.u (.fld 0) (.var 11))) (.var 1)) (.b (.bin .eql) (.u .ld1 (.b (.idxa 64 1) (.var 12) (.u .ld1 (.u (.fld 1) (.var 11))))) (.var 2)) (.lit (.bool false))) (.ite (.b (.bin .lss) (.var 5) (.lit (.int .i64 0))) (.lit (.bool true)) (.b (.bin .lss) (.u .ld1 (.u (.fld 1) (.var 11))) (.var 5))) (.lit (.bool false)))
       (.set 5 (.u .ld1 (.u (.fld 1) (.var 11)))
       .nxt)
       .nxt)))))
    (.set 7 (.b (.bin .add) (.var 7) (.lit (.int .i64 1)))
    .nxt))))))
 (.set 4 (.var 5)
 .ret)))))))))
def f_graph_follow : Fun := ⟨s_graph_follow, [(.var 4)]⟩
abbrev v_graph_follow : List Nat := [0, 1, 2, 3, 8, 9, 4, 15, 14, 16, 13, 11, 7]
theorem c_graph_follow : compF P Go.Proofs.Try.f20 v_graph_follow = some f_graph_follow := by kernel_rfl
theorem of_graph_follow {args : List Value} (hn : args.length ≤ 45) {h : Heap} {R : Value → Heap → Prop} (hs : s_graph_follow.wp P (f_graph_follow.post R) (env0 v_graph_follow args) h) : Runs P n_graph_follow args h R := fn_of P_mixed Go.Proofs.Try.func20 c_graph_follow (by rw [Go.Proofs.Try.ntmps20]; exact hn) hs
theorem vr_graph_follow {kp : Bool} {args : List A} {H : List Blk} {R : A → List Blk → Prop} (hlen : args.length ≤ 45) (hk : kp = false ∨ H = []) (hw : (∀ B ∈ H, A.bdL H.length B.cells = true) → A.bdL H.length args = true → s_graph_follow.aw P H.length (postA H.length f_graph_follow R) (envA v_graph_follow args) H) : VR P kp n_graph_follow args H R := VR.of (F := f_graph_follow) (V := v_graph_follow) of_graph_follow hlen hk fun h1 h2 => aw_sound (hw h1 h2)
theorem r_graph_follow : Fun.res f_graph_follow = [(.var 4)] := rfl
abbrev g_graph_follow_0 : List Nat := [5, 7, 9, 11]

/-- recycling/graph.Back -/
abbrev n_graph_Back : Nat := 21
def s_graph_Back : S :=
 (.eff false (some 4) (.box 24 (.var 0))
 (.set 2 (.lit (.slice none 0 0))
 (.set 3 (.lit (.int .i64 0))
 (.call false (some 5) 6 (.cn (.u (.lda 2) (.var 4)) (.cn (.var 1) (.cn (.lit (.func (.func 27) #[] #[])) .nl)))
 (.chk (.u (.ext 0) (.var 5))
 (.chk (.u (.ext 1) (.var 5))
 (.set 2 (.u (.ext 0) (.var 5))
 (.set 3 (.u (.ext 1) (.var 5))
 .ret))))))))
def f_graph_Back : Fun := ⟨s_graph_Back, [(.var 2), (.var 3)]⟩
abbrev v_graph_Back : List Nat := [0, 1, 4, 5, 2, 8]
theorem c_graph_Back : compF P Go.Proofs.Try.f21 v_graph_Back = some f_graph_Back := by kernel_rfl
theorem of_graph_Back {args : List Value} (hn : args.length ≤ 11) {h : Heap} {R : Value → Heap → Prop} (hs : s_graph_Back.wp P (f_graph_Back.post R) (env0 v_graph_Back args) h) : Runs P n_graph_Back args h R := fn_of P_mixed Go.Proofs.Try.func21 c_graph_Back (by rw [Go.Proofs.Try.ntmps21]; exact hn) hs
theorem vr_graph_Back {kp : Bool} {args : List A} {H : List Blk} {R : A → List Blk → Prop} (hlen : args.length ≤ 11) (hk : kp = false ∨ H = []) (hw : (∀ B ∈ H, A.bdL H.length B.cells = true) → A.bdL H.length args = true → s_graph_Back.aw P H.length (postA H.length f_graph_Back R) (envA v_graph_Back args) H) : VR P kp n_graph_Back args H R := VR.of (F := f_graph_Back) (V := v_graph_Back) of_graph_Back hlen hk fun h1 h2 => aw_sound (hw h1 h2)
theorem r_graph_Back : Fun.res f_graph_Back = [(.var 2), (.var 3)] := rfl

/-- (*recycling/pqueue.Queue[int]).before -/
abbrev n_pqueue_Queue_before : Nat := 22
def s_pqueue_Queue_before : S :=
 (.set 3 (.lit (.bool false))
 (.seq
  (.both
   (.both
    (.chk (.u (.lda 2) (.b (.idx 2) (.u .ld1 (.u (.fld 1) (.u .nilc (.var 0)))) (.var 1)))
    (.set 7 (.b (.idx 2) (.u .ld1 (.u (.fld 1) (.u .nilc (.var 0)))) (.var 2))
    (.set 6 (.u (.lda 2) (.var 7))
    (.eff false (some 4) (.alloc 58 [(.int .i64 0), (.int .i64 0)])
    (.eff false (some 5) (.alloc 58 [(.int .i64 0), (.int .i64 0)])
    (.eff false none (.st 2 (.var 4) (.u (.lda 2) (.b (.idx 2) (.u .ld1 (.u (.fld 1) (.u .nilc (.var 0)))) (.var 1))))
    (.eff false none (.st 2 (.var 5) (.var 6))
    .nxt)))))))
    (.chk (.u (.lda 2) (.b (.idx 2) (.u .ld1 (.u (.fld 1) (.u .nilc (.var 0)))) (.var 1)))
    (.set 7 (.b (.idx 2) (.u .ld1 (.u (.fld 1) (.u .nilc (.var 0)))) (.var 2))
    (.eff false (some 4) (.alloc 58 [(.int .i64 0), (.int .i64 0)])
    (.eff false (some 5) (.alloc 58 [(.int .i64 0), (.int .i64 0)])
    (.eff false none (.st 2 (.var 4) (.u (.lda 2) (.b (.idx 2) (.u .ld1 (.u (.fld 1) (.u .nilc (.var 0)))) (.var 1))))
    (.set 6 (.u (.lda 2) (.var 7))
    (.eff false none (.st 2 (.var 5) (.var 6))
    .nxt))))))))
   (.chk (.u (.lda 2) (.b (.idx 2) (.u .ld1 (.u (.fld 1) (.u .nilc (.var 0)))) (.var 1)))
   (.chk (.u (.fld 1) (.u .nilc (.var 0)))
   (.chk (.var 2)
   (.eff false (some 4) (.alloc 58 [(.int .i64 0), (.int .i64 0)])
   (.eff false (some 5) (.alloc 58 [(.int .i64 0), (.int .i64 0)])
   (.eff false none (.st 2 (.var 4) (.u (.lda 2) (.b (.idx 2) (.u .ld1 (.u (.fld 1) (.u .nilc (.var 0)))) (.var 1))))
   (.set 7 (.b (.idx 2) (.u .ld1 (.u (.fld 1) (.u .nilc (.var 0)))) (.var 2))
   (.set 6 (.u (.lda 2) (.var 7))
   (.eff false none (.st 2 (.var 5) (.var 6))
   .nxt))))))))))
 (.callv false (some 8) (.u .ld1 (.u (.fld 0) (.u .nilc (.var 0)))) (.cn (.u .ld1 (.u (.fld 0) (.var 4))) (.cn (.u .ld1 (.u (.fld 0) (.var 5))) .nl))
 (.seq
  (.ite (.var 8)
   (.set 3 (.lit (.bool true))
   .ret)
   .nxt)
 (.chk (.ite (.b (.bin .lss) (.u .ld1 (.u (.fld 1) (.var 4))) (.u .ld1 (.u (.fld 1) (.var 5)))) (.u .ld1 (.u (.fld 0) (.u .nilc (.var 0)))) (.lit undef))
 (.chk (.ite (.b (.bin .lss) (.u .ld1 (.u (.fld 1) (.var 4))) (.u .ld1 (.u (.fld 1) (.var 5)))) (.u .ld1 (.u (.fld 0) (.var 5))) (.lit undef))
 (.chk (.ite (.b (.bin .lss) (.u .ld1 (.u (.fld 1) (.var 4))) (.u .ld1 (.u (.fld 1) (.var 5)))) (.u .ld1 (.u (.fld 0) (.var 4))) (.lit undef))
 (.seq
  (.ite (.b (.bin .lss) (.u .ld1 (.u (.fld 1) (.var 4))) (.u .ld1 (.u (.fld 1) (.var 5))))
   (.callv false (some 9) (.u .ld1 (.u (.fld 0) (.u .nilc (.var 0)))) (.cn (.u .ld1 (.u (.fld 0) (.var 5))) (.cn (.u .ld1 (.u (.fld 0) (.var 4))) .nl))
   (.set 3 (.u (.un .not) (.var 9))
   .nxt))
   (.set 9 (.lit undef)
   (.set 3 (.lit (.bool false))
   .nxt)))
 .ret))))))))
def f_pqueue_Queue_before : Fun := ⟨s_pqueue_Queue_before, [(.var 3)]⟩
abbrev v_pqueue_Queue_before : List Nat := [0, 1, 2, 6, 7, 8, 22, 21, 31, 46]
theorem c_pqueue_Queue_before : compF P Go.Proofs.Try.f22 v_pqueue_Queue_before = some f_pqueue_Queue_before := by kernel_rfl
theorem of_pqueue_Queue_before {args : List Value} (hn : args.length ≤ 49) {h : Heap} {R : Value → Heap → Prop} (hs : s_pqueue_Queue_before.wp P (f_pqueue_Queue_before.post R) (env0 v_pqueue_Queue_before args) h) : Runs P n_pqueue_Queue_before args h R := fn_of P_mixed Go.Proofs.Try.func22 c_pqueue_Queue_before (by rw [Go.Proofs.Try.ntmps22]; exact hn) hs
theorem vr_pqueue_Queue_before {kp : Bool} {args : List A} {H : List Blk} {R : A → List Blk → Prop} (hlen : args.length ≤ 49) (hk : kp = false ∨ H = []) (hw : (∀ B ∈ H, A.bdL H.length B.cells = true) → A.bdL H.length args = true → s_pqueue_Queue_before.aw P H.length (postA H.length f_pqueue_Queue_before R) (envA v_pqueue_Queue_before args) H) : VR P kp n_pqueue_Queue_before args H R := VR.of (F := f_pqueue_Queue_before) (V := v_pqueue_Queue_before) of_pqueue_Queue_before hlen hk fun h1 h2 => aw_sound (hw h1 h2)
theorem r_pqueue_Queue_before : Fun.res f_pqueue_Queue_before = [(.var 3)] := rfl

/-- (*recycling/pqueue.Queue[int]).swap -/
abbrev n_pqueue_Queue_swap : Nat := 23
def s_pqueue_Queue_swap : S :=
 (.set 3 (.u .ld1 (.u (.fld 1) (.u .nilc (.var 0))))
 (.chk (.u (.lda 2) (.b (.idx 2) (.u .ld1 (.u (.fld 1) (.u .nilc (.var 0)))) (.var 2)))
 (.set 4 (.u (.lda 2) (.b (.idx 2) (.u .ld1 (.u (.fld 1) (.u .nilc (.var 0)))) (.var 1)))
 (.eff false none (.st 2 (.b (.idx 2) (.u .ld1 (.u (.fld 1) (.u .nilc (.var 0)))) (.var 1)) (.u (.lda 2) (.b (.idx 2) (.u .ld1 (.u (.fld 1) (.u .nilc (.var 0)))) (.var 2))))
 (.eff false none (.st 2 (.b (.idx 2) (.var 3) (.var 2)) (.var 4))
 .nxt)))))
def f_pqueue_Queue_swap : Fun := ⟨s_pqueue_Queue_swap, []⟩
abbrev v_pqueue_Queue_swap : List Nat := [0, 1, 2, 14, 29]
theorem c_pqueue_Queue_swap : compF P Go.Proofs.Try.f23 v_pqueue_Queue_swap = some f_pqueue_Queue_swap := by kernel_rfl
theorem of_pqueue_Queue_swap {args : List Value} (hn : args.length ≤ 32) {h : Heap} {R : Value → Heap → Prop} (hs : s_pqueue_Queue_swap.wp P (f_pqueue_Queue_swap.post R) (env0 v_pqueue_Queue_swap args) h) : Runs P n_pqueue_Queue_swap args h R := fn_of P_mixed Go.Proofs.Try.func23 c_pqueue_Queue_swap (by rw [Go.Proofs.Try.ntmps23]; exact hn) hs
theorem vr_pqueue_Queue_swap {kp : Bool} {args : List A} {H : List Blk} {R : A → List Blk → Prop} (hlen : args.length ≤ 32) (hk : kp = false ∨ H = []) (hw : (∀ B ∈ H, A.bdL H.length B.cells = true) → A.bdL H.length args = true → s_pqueue_Queue_swap.aw P H.length (postA H.length f_pqueue_Queue_swap R) (envA v_pqueue_Queue_swap args) H) : VR P kp n_pqueue_Queue_swap args H R := VR.of (F := f_pqueue_Queue_swap) (V := v_pqueue_Queue_swap) of_pqueue_Queue_swap hlen hk fun h1 h2 => aw_sound (hw h1 h2)
theorem r_pqueue_Queue_swap : Fun.res f_pqueue_Queue_swap = [] := rfl

/-- (*recycling/pqueue.Queue[int]).Peek -/
abbrev n_pqueue_Queue_Peek : Nat := 24
def s_pqueue_Queue_Peek : S :=
 (.set 1 (.lit (.int .i64 0))
 (.set 2 (.lit (.bool false))
 (.call false (some 4) 28 (.cn (.var 0) .nl)
 (.seq
  (.ite (.b (.bin .eql) (.var 4) (.lit (.int .i64 0)))
   (.set 3 (.lit (.int .i64 0))
   (.set 1 (.var 3)
   (.set 2 (.lit (.bool false))
   .ret)))
   .nxt)
 (.set 1 (.u .ld1 (.u (.fld 0) (.b (.idx 2) (.u .ld1 (.u (.fld 1) (.u .nilc (.var 0)))) (.lit (.int .i64 0)))))
 (.set 2 (.lit (.bool true))
 .ret))))))
def f_pqueue_Queue_Peek : Fun := ⟨s_pqueue_Queue_Peek, [(.var 1), (.var 2)]⟩
abbrev v_pqueue_Queue_Peek : List Nat := [0, 2, 3, 4, 6]
theorem c_pqueue_Queue_Peek : compF P Go.Proofs.Try.f24 v_pqueue_Queue_Peek = some f_pqueue_Queue_Peek := by kernel_rfl
theorem of_pqueue_Queue_Peek {args : List Value} (hn : args.length ≤ 16) {h : Heap} {R : Value → Heap → Prop} (hs : s_pqueue_Queue_Peek.wp P (f_pqueue_Queue_Peek.post R) (env0 v_pqueue_Queue_Peek args) h) : Runs P n_pqueue_Queue_Peek args h R := fn_of P_mixed Go.Proofs.Try.func24 c_pqueue_Queue_Peek (by rw [Go.Proofs.Try.ntmps24]; exact hn) hs
theorem vr_pqueue_Queue_Peek {kp : Bool} {args : List A} {H : List Blk} {R : A → List Blk → Prop} (hlen : args.length ≤ 16) (hk : kp = false ∨ H = []) (hw : (∀ B ∈ H, A.bdL H.length B.cells = true) → A.bdL H.length args = true → s_pqueue_Queue_Peek.aw P H.length (postA H.length f_pqueue_Queue_Peek R) (envA v_pqueue_Queue_Peek args) H) : VR P kp n_pqueue_Queue_Peek args H R := VR.of (F := f_pqueue_Queue_Peek) (V := v_pqueue_Queue_Peek) of_pqueue_Queue_Peek hlen hk fun h1 h2 => aw_sound (hw h1 h2)
theorem r_pqueue_Queue_Peek : Fun.res f_pqueue_Queue_Peek = [(.var 1), (.var 2)] := rfl

/-- (*recycling/pqueue.Queue[int]).sink -/
abbrev n_pqueue_Queue_sink : Nat := 25
def s_pqueue_Queue_sink : S :=
 (.set 1 (.lit (.int .i64 0))
 (.blk 0
  (.loop
   (.blk 1
    (.set 2 (.var 1)
    (.set 3 (.b (.bin .add) (.b (.bin .mul) (.lit (.int .i64 2)) (.var 1)) (.lit (.int .i64 1)))
    (.seq
     (.blk 2
      (.loop
       (.seq
        (.ite (.ite (.b (.bin .leq) (.var 3) (.b (.bin .add) (.b (.bin .mul) (.lit (.int .i64 2)) (.var 1)) (.lit (.int .i64 2)))) (.b (.bin .lss) (.var 3) (.u .len (.u .ld1 (.u (.fld 1) (.u .nilc (.var 0)))))) (.lit (.bool false)))
         .nxt
         (.exit 2))
       (.seq
        (.blk 3
         (.call false (some 4) 22 (.cn (.var 0) (.cn (.var 3) (.cn (.var 2) .nl)))
         (.ite (.var 4)
          (.set 2 (.var 3)
          .nxt)
          .nxt)))
       (.set 3 (.b (.bin .add) (.var 3) (.lit (.int .i64 1)))
       .nxt)))))
    (.seq
     (.ite (.b (.bin .eql) (.var 2) (.var 1))
      .ret
      .nxt)
    (.call false none 23 (.cn (.var 0) (.cn (.var 1) (.cn (.var 2) .nl)))
    (.set 1 (.var 2)
    .nxt))))))))))
def f_pqueue_Queue_sink : Fun := ⟨s_pqueue_Queue_sink, []⟩
abbrev v_pqueue_Queue_sink : List Nat := [0, 2, 3, 4, 28]
theorem c_pqueue_Queue_sink : compF P Go.Proofs.Try.f25 v_pqueue_Queue_sink = some f_pqueue_Queue_sink := by kernel_rfl
theorem of_pqueue_Queue_sink {args : List Value} (hn : args.length ≤ 38) {h : Heap} {R : Value → Heap → Prop} (hs : s_pqueue_Queue_sink.wp P (f_pqueue_Queue_sink.post R) (env0 v_pqueue_Queue_sink args) h) : Runs P n_pqueue_Queue_sink args h R := fn_of P_mixed Go.Proofs.Try.func25 c_pqueue_Queue_sink (by rw [Go.Proofs.Try.ntmps25]; exact hn) hs
theorem vr_pqueue_Queue_sink {kp : Bool} {args : List A} {H : List Blk} {R : A → List Blk → Prop} (hlen : args.length ≤ 38) (hk : kp = false ∨ H = []) (hw : (∀ B ∈ H, A.bdL H.length B.cells = true) → A.bdL H.length args = true → s_pqueue_Queue_sink.aw P H.length (postA H.length f_pqueue_Queue_sink R) (envA v_pqueue_Queue_sink args) H) : VR P kp n_pqueue_Queue_sink args H R := VR.of (F := f_pqueue_Queue_sink) (V := v_pqueue_Queue_sink) of_pqueue_Queue_sink hlen hk fun h1 h2 => aw_sound (hw h1 h2)
theorem r_pqueue_Queue_sink : Fun.res f_pqueue_Queue_sink = [] := rfl
abbrev g_pqueue_Queue_sink_0 : List Nat := [1, 2, 3, 4]
abbrev g_pqueue_Queue_sink_1 : List Nat := [2, 3, 4]

/-- slices.Contains[[]int,int] -/
abbrev n_slices_Containsint_int : Nat := 26
def s_slices_Containsint_int : S :=
 (.set 2 (.lit (.bool false))
 (.call false (some 3) 29 (.cn (.var 0) (.cn (.var 1) .nl))
 (.set 2 (.b (.bin .geq) (.var 3) (.lit (.int .i64 0)))
 .ret)))
def f_slices_Containsint_int : Fun := ⟨s_slices_Containsint_int, [(.var 2)]⟩
abbrev v_slices_Containsint_int : List Nat := [0, 1, 4, 7]
theorem c_slices_Containsint_int : compF P Go.Proofs.Try.f26 v_slices_Containsint_int = some f_slices_Containsint_int := by kernel_rfl
theorem of_slices_Containsint_int {args : List Value} (hn : args.length ≤ 9) {h : Heap} {R : Value → Heap → Prop} (hs : s_slices_Containsint_int.wp P (f_slices_Containsint_int.post R) (env0 v_slices_Containsint_int args) h) : Runs P n_slices_Containsint_int args h R := fn_of P_mixed Go.Proofs.Try.func26 c_slices_Containsint_int (by rw [Go.Proofs.Try.ntmps26]; exact hn) hs
theorem vr_slices_Containsint_int {kp : Bool} {args : List A} {H : List Blk} {R : A → List Blk → Prop} (hlen : args.length ≤ 9) (hk : kp = false ∨ H = []) (hw : (∀ B ∈ H, A.bdL H.length B.cells = true) → A.bdL H.length args = true → s_slices_Containsint_int.aw P H.length (postA H.length f_slices_Containsint_int R) (envA v_slices_Containsint_int args) H) : VR P kp n_slices_Containsint_int args H R := VR.of (F := f_slices_Containsint_int) (V := v_slices_Containsint_int) of_slices_Containsint_int hlen hk fun h1 h2 => aw_sound (hw h1 h2)
theorem r_slices_Containsint_int : Fun.res f_slices_Containsint_int = [(.var 2)] := rfl

/-- recycling/graph.Back$1 -/
abbrev n_graph_Back_1 : Nat := 27
def s_graph_Back_1 : S :=
 (.eff false (some 3) (.box 26 (.var 0))
 (.set 1 (.lit (.int .i64 0))
 (.set 2 (.lit (.int .i64 0))
 (.chk (.u .ld1 (.u (.fld 1) (.var 3)))
 (.chk (.u .ld1 (.u (.fld 0) (.var 3)))
 (.set 1 (.u .ld1 (.u (.fld 1) (.var 3)))
 (.set 2 (.u .ld1 (.u (.fld 0) (.var 3)))
 .ret)))))))
def f_graph_Back_1 : Fun := ⟨s_graph_Back_1, [(.var 1), (.var 2)]⟩
abbrev v_graph_Back_1 : List Nat := [0, 2, 3, 1]
theorem c_graph_Back_1 : compF P Go.Proofs.Try.f27 v_graph_Back_1 = some f_graph_Back_1 := by kernel_rfl
theorem of_graph_Back_1 {args : List Value} (hn : args.length ≤ 8) {h : Heap} {R : Value → Heap → Prop} (hs : s_graph_Back_1.wp P (f_graph_Back_1.post R) (env0 v_graph_Back_1 args) h) : Runs P n_graph_Back_1 args h R := fn_of P_mixed Go.Proofs.Try.func27 c_graph_Back_1 (by rw [Go.Proofs.Try.ntmps27]; exact hn) hs
theorem vr_graph_Back_1 {kp : Bool} {args : List A} {H : List Blk} {R : A → List Blk → Prop} (hlen : args.length ≤ 8) (hk : kp = false ∨ H = []) (hw : (∀ B ∈ H, A.bdL H.length B.cells = true) → A.bdL H.length args = true → s_graph_Back_1.aw P H.length (postA H.length f_graph_Back_1 R) (envA v_graph_Back_1 args) H) : VR P kp n_graph_Back_1 args H R := VR.of (F := f_graph_Back_1) (V := v_graph_Back_1) of_graph_Back_1 hlen hk fun h1 h2 => aw_sound (hw h1 h2)
theorem r_graph_Back_1 : Fun.res f_graph_Back_1 = [(.var 1), (.var 2)] := rfl

/-- (*recycling/pqueue.Queue[int]).Len -/
abbrev n_pqueue_Queue_Len : Nat := 28
def s_pqueue_Queue_Len : S :=
 (.set 1 (.lit (.int .i64 0))
 (.seq
  (.ite (.b (.eqp false) (.var 0) (.lit (.pointer none)))
   (.set 1 (.lit (.int .i64 0))
   .ret)
   .nxt)
 (.set 1 (.u .len (.u .ld1 (.u (.fld 1) (.u .nilc (.var 0)))))
 .ret)))
def f_pqueue_Queue_Len : Fun := ⟨s_pqueue_Queue_Len, [(.var 1)]⟩
abbrev v_pqueue_Queue_Len : List Nat := [0, 2]
theorem c_pqueue_Queue_Len : compF P Go.Proofs.Try.f28 v_pqueue_Queue_Len = some f_pqueue_Queue_Len := by kernel_rfl
theorem of_pqueue_Queue_Len {args : List Value} (hn : args.length ≤ 10) {h : Heap} {R : Value → Heap → Prop} (hs : s_pqueue_Queue_Len.wp P (f_pqueue_Queue_Len.post R) (env0 v_pqueue_Queue_Len args) h) : Runs P n_pqueue_Queue_Len args h R := fn_of P_mixed Go.Proofs.Try.func28 c_pqueue_Queue_Len (by rw [Go.Proofs.Try.ntmps28]; exact hn) hs
theorem vr_pqueue_Queue_Len {kp : Bool} {args : List A} {H : List Blk} {R : A → List Blk → Prop} (hlen : args.length ≤ 10) (hk : kp = false ∨ H = []) (hw : (∀ B ∈ H, A.bdL H.length B.cells = true) → A.bdL H.length args = true → s_pqueue_Queue_Len.aw P H.length (postA H.length f_pqueue_Queue_Len R) (envA v_pqueue_Queue_Len args) H) : VR P kp n_pqueue_Queue_Len args H R := VR.of (F := f_pqueue_Queue_Len) (V := v_pqueue_Queue_Len) of_pqueue_Queue_Len hlen hk fun h1 h2 => aw_sound (hw h1 h2)
theorem r_pqueue_Queue_Len : Fun.res f_pqueue_Queue_Len = [(.var 1)] := rfl

/-- slices.Index[[]int,int] -/
abbrev n_slices_Indexint_int : Nat := 29
def s_slices_Indexint_int : S :=
 (.set 2 (.lit (.int .i64 0))
 (.set 4 (.u .len (.var 0))
 (.set 3 (.lit (.int .i64 0))
 (.seq
  (.blk 0
   (.loop
    (.set 5 (.b (.bin .lss) (.var 3) (.var 4))
    (.seq
     (.ite (.var 5)
      .nxt
      (.exit 0))
    (.seq
     (.blk 1
      (.set 6 (.var 3)
      (.ite (.b (.bin .eql) (.var 1) (.u .ld1 (.b (.idx 1) (.var 0) (.var 6))))
       (.set 2 (.var 6)
       .ret)
       .nxt)))
    (.set 3 (.b (.bin .add) (.var 3) (.lit (.int .i64 1)))
    .nxt))))))
 (.set 2 (.lit (.int .i64 (-1)))
 .ret)))))
def f_slices_Indexint_int : Fun := ⟨s_slices_Indexint_int, [(.var 2)]⟩
abbrev v_slices_Indexint_int : List Nat := [0, 1, 4, 8, 7, 9, 5]
theorem c_slices_Indexint_int : compF P Go.Proofs.Try.f29 v_slices_Indexint_int = some f_slices_Indexint_int := by kernel_rfl
theorem of_slices_Indexint_int {args : List Value} (hn : args.length ≤ 19) {h : Heap} {R : Value → Heap → Prop} (hs : s_slices_Indexint_int.wp P (f_slices_Indexint_int.post R) (env0 v_slices_Indexint_int args) h) : Runs P n_slices_Indexint_int args h R := fn_of P_mixed Go.Proofs.Try.func29 c_slices_Indexint_int (by rw [Go.Proofs.Try.ntmps29]; exact hn) hs
theorem vr_slices_Indexint_int {kp : Bool} {args : List A} {H : List Blk} {R : A → List Blk → Prop} (hlen : args.length ≤ 19) (hk : kp = false ∨ H = []) (hw : (∀ B ∈ H, A.bdL H.length B.cells = true) → A.bdL H.length args = true → s_slices_Indexint_int.aw P H.length (postA H.length f_slices_Indexint_int R) (envA v_slices_Indexint_int args) H) : VR P kp n_slices_Indexint_int args H R := VR.of (F := f_slices_Indexint_int) (V := v_slices_Indexint_int) of_slices_Indexint_int hlen hk fun h1 h2 => aw_sound (hw h1 h2)
theorem r_slices_Indexint_int : Fun.res f_slices_Indexint_int = [(.var 2)] := rfl
abbrev g_slices_Indexint_int_0 : List Nat := [2, 3, 5, 6]

end Go.Proofs.Ytegnnfbmbnpgdaa
namespace Go.Proofs.Ytegnnfbmbnpgdaa
open Go Go.Lft
set_option linter.unusedSimpArgs false
attribute [local congr] ob_congr bw_congr ib_congr ck_congr iwA_congr itA_congr aw_congr awp_congr sqA_congr bkA_congr vr_congr gd_congr

abbrev Arcs := List (Int × Int)
def arcBad (n : Int) (a : Int × Int) : Prop := ((a.1 < 0 ∨ n ≤ a.1) ∨ a.2 < 0) ∨ n ≤ a.2
instance (n : Int) (a : Int × Int) : Decidable (arcBad n a) := inferInstanceAs (Decidable (((a.1 < 0 ∨ n ≤ a.1) ∨ a.2 < 0) ∨ n ≤ a.2))
/-- The error of a graph. -/
def gcheck (n : Int) (l : Arcs) : Int := if n < 0 ∨ 64 < n then 1 else if 512 < l.length then 8 else if ∃ i, i < l.length ∧ arcBad n (l.getD i (0, 0)) then 7 else 0
def graphA (w : Bool) (n : Int) (l : Arcs) : A := .agg [.v (.int .i64 n), .fs w (pairs l)]

theorem check_vr {w : Bool} (n : Int) (l : Arcs) : VR P false n_graph_Check [graphA w n l] [] (isR (.v (.int .i64 (gcheck n l)))) := by
  refine vr_graph_Check (by simp) (.inr rfl) fun _ _ => ?_
  unfold graphA
  simp (disch := ((try simp only [List.length_set, List.length_replicate, List.length_append, List.length_cons, List.length_nil]); omega)) only [aW, aX, aV, aB, aN, aL, aP, aH, s_graph_Check, v_graph_Check]
  refine ib_intro (fun h1 => ?_) (fun h1 => ?_)
  · simp (disch := ((try simp only [List.length_set, List.length_replicate, List.length_append, List.length_cons, List.length_nil]); omega)) only [aW, aX, aV, aB, aN, aL, aP, aH, r_graph_Check]
    exact post_v ⟨by simp [gcheck, h1], rfl⟩
  simp (disch := ((try simp only [List.length_set, List.length_replicate, List.length_append, List.length_cons, List.length_nil]); omega)) only [aW, aX, aV, aB, aN, aL, aP, aH]
  refine ib_intro (fun h2 => ?_) (fun h2 => ?_)
  · simp (disch := ((try simp only [List.length_set, List.length_replicate, List.length_append, List.length_cons, List.length_nil]); omega)) only [aW, aX, aV, aB, aN, aL, aP, aH, r_graph_Check]
    exact post_v ⟨by unfold gcheck; rw [if_neg h1, if_pos (by omega)], rfl⟩
  simp (disch := ((try simp only [List.length_set, List.length_replicate, List.length_append, List.length_cons, List.length_nil]); omega)) only [aW, aX, aV, aB, aN, aL, aP, aH]
  refine AWP.loopP g_graph_Check_0 (fun k : Nat => k ≤ l.length ∧ ∀ i, i < k → ¬ arcBad n (l.getD i (0, 0))) (fun k => [(1, .v (.int .i64 0)), (3, .v (.int .i64 k))]) (fun _ => []) (fun k => l.length - k) 0 ⟨by omega, fun i hi => by omega⟩ (by refine Cut.of' (1) ?_ (by omega) ?_ ?_ <;> simp (disch := first | omega | simp (disch := omega) only [aF, aL, aN]) only [aW, aX, aV, aB, aN, aL, aP, aH, aF, Int.natCast_add, Int.natCast_mul, Int.add_sub_cancel, List.length_nil, Int.cast_ofNat_Int, and_true, true_and]) ?_
  rintro k ⟨hk, hg⟩
  by_cases hlt : k < l.length
  · simp (disch := ((try simp only [List.length_set, List.length_replicate, List.length_append, List.length_cons, List.length_nil]); omega)) only [aW, aX, aV, aB, aN, aL, aP, aH]
    refine ib_intro (fun h3 => ?_) (fun h3 => ?_)
    · simp (disch := ((try simp only [List.length_set, List.length_replicate, List.length_append, List.length_cons, List.length_nil]); omega)) only [aW, aX, aV, aB, aN, aL, aP, aH, r_graph_Check]
      refine post_v ⟨?_, rfl⟩
      unfold gcheck; rw [if_neg h1, if_neg (by omega), if_pos ⟨k, hlt, h3⟩]
    · simp (disch := ((try simp only [List.length_set, List.length_replicate, List.length_append, List.length_cons, List.length_nil]); omega)) only [aW, aX, aV, aB, aN, aL, aP, aH]
      refine ⟨k + 1, ⟨by omega, fun i hi => ?_⟩, by omega, ?_⟩
      · rcases Nat.lt_succ_iff_lt_or_eq.1 hi with h | rfl
        · exact hg i h
        · exact h3
      · exact (by refine Cut.of' (1) ?_ (by omega) ?_ ?_ <;> simp (disch := first | omega | simp (disch := omega) only [aF, aL, aN]) only [aW, aX, aV, aB, aN, aL, aP, aH, aF, Int.natCast_add, Int.natCast_mul, Int.add_sub_cancel, List.length_nil, Int.cast_ofNat_Int, and_true, true_and])
  · simp (disch := ((try simp only [List.length_set, List.length_replicate, List.length_append, List.length_cons, List.length_nil]); omega)) only [aW, aX, aV, aB, aN, aL, aP, aH, r_graph_Check]
    refine post_v ⟨?_, rfl⟩
    unfold gcheck; rw [if_neg h1, if_neg (by omega), if_neg]
    rintro ⟨i, hi, hb⟩; exact hg i (by omega) hb

end Go.Proofs.Ytegnnfbmbnpgdaa
namespace Go.Proofs.Ytegnnfbmbnpgdaa
open Go Go.Lft
set_option linter.unusedSimpArgs false
set_option linter.unusedVariables false
attribute [local congr] ob_congr bw_congr ib_congr ck_congr iwA_congr itA_congr aw_congr awp_congr sqA_congr bkA_congr vr_congr gd_congr

theorem eq_of_get {α : Type} {a b : List α} (d : α) (hl : a.length = b.length) (h : ∀ i, i < a.length → a.getD i d = b.getD i d) : a = b := by
  apply List.ext_getElem hl
  intro i h1 h2
  have := h i h1
  simpa [List.getD_eq_getElem?_getD, h1, h2] using this

theorem refInts_vr {w v : Bool} (a b : List Int) (ha : a.length < 1000000000) : VR P false n_ref09_Ints [.fs w (ints a), .fs v (ints b)] [] (isR (.v (.bool (decide (a = b))))) := by
  refine vr_ref09_Ints (by simp) (.inr rfl) fun _ _ => ?_
  simp (disch := ((try simp only [List.length_set, List.length_replicate, List.length_append, List.length_cons, List.length_nil]); omega)) only [aW, aX, aV, aB, aN, aL, aP, aH, s_ref09_Ints, v_ref09_Ints]
  refine ib_intro (fun h1 => ?_) (fun h1 => ?_)
  · simp (disch := ((try simp only [List.length_set, List.length_replicate, List.length_append, List.length_cons, List.length_nil]); omega)) only [aW, aX, aV, aB, aN, aL, aP, aH, r_ref09_Ints]
    exact post_v ⟨vfalse (fun h => h1 (by rw [h])), rfl⟩
  have hl : a.length = b.length := by omega
  simp (disch := ((try simp only [List.length_set, List.length_replicate, List.length_append, List.length_cons, List.length_nil]); omega)) only [aW, aX, aV, aB, aN, aL, aP, aH]
  refine AWP.loopP g_ref09_Ints_0 (fun k : Nat => k ≤ a.length ∧ ∀ i, i < k → a.getD i 0 = b.getD i 0) (fun k => [(2, .v (.bool false)), (3, .v (.int .i64 k))]) (fun _ => []) (fun k => a.length - k) 0 ⟨by omega, fun i hi => by omega⟩ (by refine Cut.of' (0) ?_ (by omega) ?_ ?_ <;> simp (disch := first | omega | simp (disch := omega) only [aF, aL, aN]) only [aW, aX, aV, aB, aN, aL, aP, aH, aF, Int.natCast_add, Int.natCast_mul, Int.add_sub_cancel, List.length_nil, Int.cast_ofNat_Int, and_true, true_and]) ?_
  rintro k ⟨hk, hg⟩
  by_cases hlt : k < a.length
  · simp (disch := ((try simp only [List.length_set, List.length_replicate, List.length_append, List.length_cons, List.length_nil]); omega)) only [aW, aX, aV, aB, aN, aL, aP, aH]
    refine ib_split (fun h3 => ?_) (fun h3 => ?_)
    · simp (disch := ((try simp only [List.length_set, List.length_replicate, List.length_append, List.length_cons, List.length_nil]); omega)) only [aW, aX, aV, aB, aN, aL, aP, aH, r_ref09_Ints]
      refine post_v ⟨vfalse (fun h => ?_), rfl⟩
      subst h; simp at h3
    · simp (disch := ((try simp only [List.length_set, List.length_replicate, List.length_append, List.length_cons, List.length_nil]); omega)) only [aW, aX, aV, aB, aN, aL, aP, aH]
      refine ⟨k + 1, ⟨by omega, fun i hi => ?_⟩, by omega, (by refine Cut.of' (0) ?_ (by omega) ?_ ?_ <;> simp (disch := first | omega | simp (disch := omega) only [aF, aL, aN]) only [aW, aX, aV, aB, aN, aL, aP, aH, aF, Int.natCast_add, Int.natCast_mul, Int.add_sub_cancel, List.length_nil, Int.cast_ofNat_Int, and_true, true_and])⟩
      rcases Nat.lt_succ_iff_lt_or_eq.1 hi with h | rfl
      · exact hg i h
      · simpa using h3
  · simp (disch := ((try simp only [List.length_set, List.length_replicate, List.length_append, List.length_cons, List.length_nil]); omega)) only [aW, aX, aV, aB, aN, aL, aP, aH, r_ref09_Ints]
    exact post_v ⟨vtrue (eq_of_get 0 hl (fun i hi => hg i (by omega))), rfl⟩

theorem refLists_vr {w v w' v' : Bool} (a b : List (List Int)) (ha : a.length < 1000000000) (hs : ∀ r ∈ a, r.length < 1000000000) : VR P false n_ref09_Lists [.fs w (rows w' a), .fs v (rows v' b)] [] (isR (.v (.bool (decide (a = b))))) := by
  refine vr_ref09_Lists (by simp) (.inr rfl) fun _ _ => ?_
  simp (disch := ((try simp only [List.length_set, List.length_replicate, List.length_append, List.length_cons, List.length_nil]); omega)) only [aW, aX, aV, aB, aN, aL, aP, aH, s_ref09_Lists, v_ref09_Lists]
  refine ib_intro (fun h1 => ?_) (fun h1 => ?_)
  · simp (disch := ((try simp only [List.length_set, List.length_replicate, List.length_append, List.length_cons, List.length_nil]); omega)) only [aW, aX, aV, aB, aN, aL, aP, aH, r_ref09_Lists]
    exact post_v ⟨vfalse (fun h => h1 (by rw [h])), rfl⟩
  have hl : a.length = b.length := by omega
  simp (disch := ((try simp only [List.length_set, List.length_replicate, List.length_append, List.length_cons, List.length_nil]); omega)) only [aW, aX, aV, aB, aN, aL, aP, aH]
  refine AWP.loopP g_ref09_Lists_0 (fun k : Nat => k ≤ a.length ∧ ∀ i, i < k → a.getD i [] = b.getD i []) (fun k => [(2, .v (.bool false)), (3, .v (.int .i64 k))]) (fun _ => []) (fun k => a.length - k) 0 ⟨by omega, fun i hi => by omega⟩ (by refine Cut.of' (0) ?_ (by omega) ?_ ?_ <;> simp (disch := first | omega | simp (disch := omega) only [aF, aL, aN]) only [aW, aX, aV, aB, aN, aL, aP, aH, aF, Int.natCast_add, Int.natCast_mul, Int.add_sub_cancel, List.length_nil, Int.cast_ofNat_Int, and_true, true_and]) ?_
  rintro k ⟨hk, hg⟩
  by_cases hlt : k < a.length
  · simp (disch := ((try simp only [List.length_set, List.length_replicate, List.length_append, List.length_cons, List.length_nil]); omega)) only [aW, aX, aV, aB, aN, aL, aP, aH]
    refine (refInts_vr (a.getD k []) (b.getD k []) (hs _ (by simp [List.getD_eq_getElem?_getD, hlt]))).same (by simp (disch := first | omega | simp (disch := omega) only [aF, aL, aN]) only [aW, aX, aV, aB, aN, aL, aP, aH, aF, Int.natCast_add, Int.natCast_mul, Int.add_sub_cancel, List.length_nil, Int.cast_ofNat_Int, and_true, true_and]) rfl (aret_of ?_)
    simp (disch := ((try simp only [List.length_set, List.length_replicate, List.length_append, List.length_cons, List.length_nil]); omega)) only [aW, aX, aV, aB, aN, aL, aP, aH]
    refine ib_intro (fun h3 => ?_) (fun h3 => ?_)
    · simp (disch := ((try simp only [List.length_set, List.length_replicate, List.length_append, List.length_cons, List.length_nil]); omega)) only [aW, aX, aV, aB, aN, aL, aP, aH, r_ref09_Lists]
      exact post_v ⟨vfalse (fun h => h3 (by rw [h])), rfl⟩
    · simp (disch := ((try simp only [List.length_set, List.length_replicate, List.length_append, List.length_cons, List.length_nil]); omega)) only [aW, aX, aV, aB, aN, aL, aP, aH]
      refine ⟨k + 1, ⟨by omega, fun i hi => ?_⟩, by omega, (by refine Cut.of' (0) ?_ (by omega) ?_ ?_ <;> simp (disch := first | omega | simp (disch := omega) only [aF, aL, aN]) only [aW, aX, aV, aB, aN, aL, aP, aH, aF, Int.natCast_add, Int.natCast_mul, Int.add_sub_cancel, List.length_nil, Int.cast_ofNat_Int, and_true, true_and])⟩
      rcases Nat.lt_succ_iff_lt_or_eq.1 hi with h | rfl
      · exact hg i h
      · exact Classical.not_not.1 h3
  · simp (disch := ((try simp only [List.length_set, List.length_replicate, List.length_append, List.length_cons, List.length_nil]); omega)) only [aW, aX, aV, aB, aN, aL, aP, aH, r_ref09_Lists]
    exact post_v ⟨vtrue (eq_of_get [] hl (fun i hi => hg i (by omega))), rfl⟩
end Go.Proofs.Ytegnnfbmbnpgdaa
namespace Go.Proofs.Ytegnnfbmbnpgdaa
open Go Go.Lft
set_option linter.unusedSimpArgs false
set_option linter.unusedVariables false
attribute [local congr] ob_congr bw_congr ib_congr ck_congr iwA_congr itA_congr aw_congr awp_congr sqA_congr bkA_congr vr_congr gd_congr

def vis (S : List Bool) (w : Int) : Prop := S.getD w.toNat false = true
instance (S : List Bool) (w : Int) : Decidable (vis S w) := inferInstanceAs (Decidable (S.getD w.toNat false = true))
theorem vis_set (S : List Bool) (v w : Int) (hv0 : 0 ≤ v) (hv : v.toNat < S.length) (hw : 0 ≤ w) : vis (S.set v.toNat true) w ↔ w = v ∨ vis S w := by
  unfold vis
  simp only [List.getD_eq_getElem?_getD, List.getElem?_set]
  by_cases h : v.toNat = w.toNat
  · rw [if_pos h]
    have : w = v := by omega
    subst this
    simp [hv]
  · rw [if_neg h]
    have : w ≠ v := fun hh => h (by rw [hh])
    simp [this]
/-- There is a way from u to w over es. -/
inductive Path (es : Arcs) : Int → Int → Prop
  | refl (u : Int) : Path es u u
  | step {u v w : Int} (h : (u, v) ∈ es) (p : Path es v w) : Path es u w
theorem Path.trans {es : Arcs} {u v w : Int} (p : Path es u v) (q : Path es v w) : Path es u w := by
  induction p with
  | refl u => exact q
  | step h _ ih => exact .step h (ih q)
theorem Path.snoc {es : Arcs} {u v w : Int} (p : Path es u v) (h : (v, w) ∈ es) : Path es u w := p.trans (.step h (.refl w))

/-- What a call turns S into. -/
structure Seen (es : Arcs) (S S' : List Bool) (v : Int) : Prop where
  len : S'.length = S.length
  mono : ∀ w, vis S w → vis S' w
  new : ∀ w, 0 ≤ w → vis S' w → vis S w ∨ Path es v w
  clo : ∀ w x, 0 ≤ w → vis S' w → ¬ vis S w → (w, x) ∈ es → vis S' x
  self : vis S' v
def inR (n : Int) (es : Arcs) : Prop := ∀ a ∈ es, (0 ≤ a.1 ∧ a.1 < n) ∧ 0 ≤ a.2 ∧ a.2 < n

theorem count_set (S : List Bool) (i : Nat) (h : i < S.length) (hf : S.getD i false = false) : (S.set i true).count false + 1 = S.count false := by
  induction S generalizing i with
  | nil => simp at h
  | cons a r ih =>
    cases i with
    | zero => simp at hf; subst hf; simp
    | succ i =>
      simp only [List.set_cons_succ, List.count_cons]
      have := ih i (by simpa using h) (by simpa using hf)
      omega
theorem count_mono {S S' : List Bool} (hl : S'.length = S.length) (h : ∀ i, S.getD i false = true → S'.getD i false = true) : S'.count false ≤ S.count false := by
  induction S generalizing S' with
  | nil => simp at hl; subst hl; simp
  | cons a r ih =>
    cases S' with
    | nil => simp at hl
    | cons b q =>
      have h1 := ih (S' := q) (by simpa using hl) fun i hi => by have := h (i + 1) (by simpa using hi); simpa using this
      have h0 := h 0
      simp only [List.count_cons]
      cases a <;> cases b <;> simp at h0 ⊢ <;> omega

/-- The function gives the two ends of an arc. -/
def IsEnds (f : Nat) (e : Int × Int → Int × Int) : Prop := bodied P f = true ∧ ∀ a : Int × Int, VR P false f [.agg [.v (.int .i64 a.1), .v (.int .i64 a.2)]] [] (isR (.tup [.v (.int .i64 (e a).1), .v (.int .i64 (e a).2)]))
theorem ends1 : IsEnds n_graph_Reach_1 id := ⟨by kernel_rfl, fun a => by
  refine vr_graph_Reach_1 (by simp) (.inr rfl) fun _ _ => ?_
  simp (disch := ((try simp only [List.length_set, List.length_replicate, List.length_append, List.length_cons, List.length_nil]); omega)) only [aW, aX, aV, aB, aN, aL, aP, aH, s_graph_Reach_1, v_graph_Reach_1, r_graph_Reach_1]
  exact post0 (Fz.refl rfl) ⟨rfl, rfl⟩⟩
theorem ends2 : IsEnds n_graph_Back_1 Prod.swap := ⟨by kernel_rfl, fun a => by
  refine vr_graph_Back_1 (by simp) (.inr rfl) fun _ _ => ?_
  simp (disch := ((try simp only [List.length_set, List.length_replicate, List.length_append, List.length_cons, List.length_nil]); omega)) only [aW, aX, aV, aB, aN, aL, aP, aH, s_graph_Back_1, v_graph_Back_1, r_graph_Back_1]
  exact post0 (Fz.refl rfl) ⟨rfl, rfl⟩⟩

/-- The memory of visit. -/
abbrev vmem (w : Bool) (n : Int) (l : Arcs) (f N : Nat) (S : List Bool) (T : List Blk) : List Blk :=
  ⟨0, [.v (.int .i64 n), .fs w (pairs l)]⟩ :: ⟨0, [.fn f []]⟩ :: ⟨0, bools S⟩ :: ⟨0, [.sl 2 0 1 0 N]⟩ :: ⟨0, [.fn n_graph_visit_1 [.lp 3 0 0, .lp 0 0 0, .lp 1 0 0, .lp 4 0 0]]⟩ :: T

theorem vm_ok {w : Bool} {n : Int} {l : Arcs} {f N : Nat} {S : List Bool} {T : List Blk} {k : Nat} (hk : 5 ≤ k) (hb : okB k (vmem w n l f N S T)) (S' : List Bool) : okB k (vmem w n l f N S' T) := fun B hB => by
  rcases List.mem_cons.1 hB with rfl | hB
  · simp (disch := first | omega | simp (disch := omega) only [aF, aL, aN]) only [aW, aX, aV, aB, aN, aL, aP, aH, aF, Int.natCast_add, Int.natCast_mul, Int.add_sub_cancel, List.length_nil, Int.cast_ofNat_Int, and_true, true_and]
  rcases List.mem_cons.1 hB with rfl | hB
  · simp (disch := first | omega | simp (disch := omega) only [aF, aL, aN]) only [aW, aX, aV, aB, aN, aL, aP, aH, aF, Int.natCast_add, Int.natCast_mul, Int.add_sub_cancel, List.length_nil, Int.cast_ofNat_Int, and_true, true_and]
  rcases List.mem_cons.1 hB with rfl | hB
  · simp (disch := first | omega | simp (disch := omega) only [aF, aL, aN]) only [aW, aX, aV, aB, aN, aL, aP, aH, aF, Int.natCast_add, Int.natCast_mul, Int.add_sub_cancel, List.length_nil, Int.cast_ofNat_Int, and_true, true_and]
  rcases List.mem_cons.1 hB with rfl | hB
  · simp (disch := first | omega | simp (disch := omega) only [aF, aL, aN]) only [aW, aX, aV, aB, aN, aL, aP, aH, aF, Int.natCast_add, Int.natCast_mul, Int.add_sub_cancel, List.length_nil, Int.cast_ofNat_Int, and_true, true_and]
  rcases List.mem_cons.1 hB with rfl | hB
  · simp (disch := first | omega | simp (disch := omega) only [aF, aL, aN]) only [aW, aX, aV, aB, aN, aL, aP, aH, aF, Int.natCast_add, Int.natCast_mul, Int.add_sub_cancel, List.length_nil, Int.cast_ofNat_Int, and_true, true_and]
  exact hb B (by simp [hB])

theorem visit1_vr {w : Bool} {n : Int} {l : Arcs} {f N : Nat} {e : Int × Int → Int × Int} (he : IsEnds f e) (hl : l.length < 1000000000) (hn : n < 1000000000) (hr : inR n (l.map e)) (hN : (N : Int) = n) :
    ∀ (m : Nat) (S : List Bool) (T : List Blk) (v : Int), S.count false ≤ m → S.length = N → 0 ≤ v → v < n →
    VR P false n_graph_visit_1 [.v (.int .i64 v), .lp 3 0 0, .lp 0 0 0, .lp 1 0 0, .lp 4 0 0] (vmem w n l f N S T) (fun r H' => ∃ S', Seen (l.map e) S S' v ∧ H' = vmem w n l f N S' T) := by
  intro m
  induction m with
  | zero =>
    intro S T v hm hs h0 h1
    refine vr_graph_visit_1 (by simp) (.inl rfl) fun hb _ => ?_
    have hv : S.getD v.toNat false = true := by
      cases hh : S.getD v.toNat false with
      | true => rfl
      | false =>
        have := count_set S v.toNat (by omega) hh
        omega
    simp (disch := ((try simp only [List.length_set, List.length_replicate, List.length_append, List.length_cons, List.length_nil]); omega)) only [aW, aX, aV, aB, aN, aL, aP, aH, s_graph_visit_1, v_graph_visit_1, r_graph_visit_1, vmem, hv]
    exact post2 (R := fun r H' => _) ⟨S, ⟨rfl, fun _ h => h, fun _ _ h => .inl h, fun w x _ h1 h2 => absurd h1 h2, hv⟩, rfl⟩
  | succ m ih =>
    intro S T v hm hs h0 h1
    refine vr_graph_visit_1 (by simp) (.inl rfl) fun hb _ => ?_
    cases hv : S.getD v.toNat false with
    | true =>
      simp (disch := ((try simp only [List.length_set, List.length_replicate, List.length_append, List.length_cons, List.length_nil]); omega)) only [aW, aX, aV, aB, aN, aL, aP, aH, s_graph_visit_1, v_graph_visit_1, r_graph_visit_1, vmem, hv]
      exact post2 (R := fun r H' => _) ⟨S, ⟨rfl, fun _ h => h, fun _ _ h => .inl h, fun w x _ h1 h2 => absurd h1 h2, hv⟩, rfl⟩
    | false =>
      have hS1 : (S.set v.toNat true).length = S.length := List.length_set
      simp (disch := ((try simp only [List.length_set, List.length_replicate, List.length_append, List.length_cons, List.length_nil]); omega)) only [aW, aX, aV, aB, aN, aL, aP, aH, s_graph_visit_1, v_graph_visit_1, vmem, hv]
      have okm := vm_ok (k := T.length + 1 + 1 + 1 + 1 + 1) (by omega) hb
      have hvl : v.toNat < S.length := by omega
      have vset := fun w (hw : 0 ≤ w) => vis_set S v w h0 hvl hw
      refine AWP.loopP (α := Nat × List Bool) g_graph_visit_1_0 (fun p => p.1 ≤ l.length ∧ p.2.length = S.length ∧ (∀ w, vis (S.set v.toNat true) w → vis p.2 w) ∧ (∀ w, 0 ≤ w → vis p.2 w → vis (S.set v.toNat true) w ∨ Path (l.map e) v w) ∧
          (∀ w x, 0 ≤ w → vis p.2 w → ¬ vis (S.set v.toNat true) w → (w, x) ∈ l.map e → vis p.2 x) ∧ ∀ i, i < p.1 → (e (l.getD i (0, 0))).1 = v → vis p.2 (e (l.getD i (0, 0))).2)
        (fun p => [(5, .v (.int .i64 p.1))]) (fun p => [(2, ⟨0, bools p.2⟩)]) (fun p => l.length - p.1) (0, S.set v.toNat true)
        ⟨by simp only; omega, hS1, fun _ h => h, fun _ _ h => .inl h, fun w x _ h1 h2 => absurd h1 h2, fun i hi => by simp only at hi; omega⟩ ?_ ?_
      · simp (disch := ((try simp only [List.length_set, List.length_replicate, List.length_append, List.length_cons, List.length_nil]); omega)) only [aW, aX, aV, aB, aN, aL, aP, aH]
        exact Cut.same (H := vmem w n l f N (S.set v.toNat true) T) (by simp) (by have := okm (S.set v.toNat true); simpa using this) (by simp (disch := first | omega | simp (disch := omega) only [aF, aL, aN]) only [aW, aX, aV, aB, aN, aL, aP, aH, aF, Int.natCast_add, Int.natCast_mul, Int.add_sub_cancel, List.length_nil, Int.cast_ofNat_Int, and_true, true_and])
      rintro ⟨k, Sk⟩ ⟨k1, k2, k3, k4, k5, k6⟩
      simp only at k1 k2 k3 k4 k5 k6
      by_cases hlt : k < l.length
      · have hmem : e (l.getD k (0, 0)) ∈ l.map e := by
          refine List.mem_map.2 ⟨l.getD k (0, 0), ?_, rfl⟩
          simp [List.getD_eq_getElem?_getD, hlt]
        obtain ⟨⟨r1, r2⟩, r3, r4⟩ := hr _ hmem
        have step : ∀ S', (∀ w, vis (S.set v.toNat true) w → vis S' w) → (∀ w, 0 ≤ w → vis S' w → vis (S.set v.toNat true) w ∨ Path (l.map e) v w) → (∀ w x, 0 ≤ w → vis S' w → ¬ vis (S.set v.toNat true) w → (w, x) ∈ l.map e → vis S' x) → S'.length = S.length →
            (∀ w, vis Sk w → vis S' w) → ((e (l.getD k (0, 0))).1 = v → vis S' (e (l.getD k (0, 0))).2) →
            (fun p : Nat × List Bool => p.1 ≤ l.length ∧ p.2.length = S.length ∧ (∀ w, vis (S.set v.toNat true) w → vis p.2 w) ∧ (∀ w, 0 ≤ w → vis p.2 w → vis (S.set v.toNat true) w ∨ Path (l.map e) v w) ∧
              (∀ w x, 0 ≤ w → vis p.2 w → ¬ vis (S.set v.toNat true) w → (w, x) ∈ l.map e → vis p.2 x) ∧ ∀ i, i < p.1 → (e (l.getD i (0, 0))).1 = v → vis p.2 (e (l.getD i (0, 0))).2) (k + 1, S') := by
          intro S' g1 g2 g3 g4 g5 g6
          refine ⟨by simp only; omega, g4, g1, g2, g3, fun i hi hiv => ?_⟩
          simp only at hi
          by_cases hik : i = k
          · subst hik; exact g6 hiv
          · exact g5 _ (k6 i (by omega) hiv)
        simp (disch := ((try simp only [List.length_set, List.length_replicate, List.length_append, List.length_cons, List.length_nil]); omega)) only [aW, aX, aV, aB, aN, aL, aP, aH]
        refine ⟨he.1, (he.2 (l.getD k (0, 0))).same (by simp (disch := first | omega | simp (disch := omega) only [aF, aL, aN]) only [aW, aX, aV, aB, aN, aL, aP, aH, aF, Int.natCast_add, Int.natCast_mul, Int.add_sub_cancel, List.length_nil, Int.cast_ofNat_Int, and_true, true_and]) rfl (aret_of ?_)⟩
        simp (disch := ((try simp only [List.length_set, List.length_replicate, List.length_append, List.length_cons, List.length_nil]); omega)) only [aW, aX, aV, aB, aN, aL, aP, aH]
        refine ib_intro (fun h3 => ?_) (fun h3 => ?_)
        · simp (disch := ((try simp only [List.length_set, List.length_replicate, List.length_append, List.length_cons, List.length_nil]); omega)) only [aW, aX, aV, aB, aN, aL, aP, aH]
          have hcnt : Sk.count false ≤ m := by
            have h4 := count_set S v.toNat hvl hv
            have h5 := count_mono (S := S.set v.toNat true) (S' := Sk) (by rw [k2, hS1]) (fun i hi => k3 i hi)
            omega
          refine ⟨by kernel_rfl, (ih Sk (T ++ [⟨0, [.v (.int .i64 (l.getD k (0, 0)).1), .v (.int .i64 (l.getD k (0, 0)).2)]⟩]) (e (l.getD k (0, 0))).2 hcnt (by omega) r3 r4).mono ?_⟩
          rintro r H' ⟨S', q, rfl⟩
          refine aret_of ?_
          have ql : S'.length = S.length := q.len.trans k2
          simp (disch := ((try simp only [List.length_set, List.length_replicate, List.length_append, List.length_cons, List.length_nil]); omega)) only [aW, aX, aV, aB, aN, aL, aP, aH, vmem]
          refine ⟨(k + 1, S'), step S' (fun w hw => q.mono w (k3 w hw)) (fun w hw0 hw => ?_) (fun w x hw0 hw hnw hwx => ?_) ql q.mono (fun _ => q.self), by simp only; omega, ?_⟩
          · rcases q.new w hw0 hw with h6 | h6
            · exact k4 w hw0 h6
            · exact .inr (.step (by rw [← h3]; exact hmem) h6)
          · by_cases h6 : vis Sk w
            · exact q.mono x (k5 w x hw0 h6 hnw hwx)
            · exact q.clo w x hw0 hw h6 hwx
          · simp (disch := ((try simp only [List.length_set, List.length_replicate, List.length_append, List.length_cons, List.length_nil]); omega)) only [aW, aX, aV, aB, aN, aL, aP, aH]
            exact Cut.app (H := vmem w n l f N S' T) (by simp) (by have := okm S'; simpa using this) (by simp (disch := first | omega | simp (disch := omega) only [aF, aL, aN]) only [aW, aX, aV, aB, aN, aL, aP, aH, aF, Int.natCast_add, Int.natCast_mul, Int.add_sub_cancel, List.length_nil, Int.cast_ofNat_Int, and_true, true_and])
        · simp (disch := ((try simp only [List.length_set, List.length_replicate, List.length_append, List.length_cons, List.length_nil]); omega)) only [aW, aX, aV, aB, aN, aL, aP, aH]
          refine ⟨(k + 1, Sk), step Sk k3 k4 k5 k2 (fun _ h => h) (fun hh => absurd hh h3), by simp only; omega, ?_⟩
          simp (disch := ((try simp only [List.length_set, List.length_replicate, List.length_append, List.length_cons, List.length_nil]); omega)) only [aW, aX, aV, aB, aN, aL, aP, aH]
          exact Cut.app (H := vmem w n l f N Sk T) (by simp) (by have := okm Sk; simpa using this) (by simp (disch := first | omega | simp (disch := omega) only [aF, aL, aN]) only [aW, aX, aV, aB, aN, aL, aP, aH, aF, Int.natCast_add, Int.natCast_mul, Int.add_sub_cancel, List.length_nil, Int.cast_ofNat_Int, and_true, true_and])
      · simp (disch := ((try simp only [List.length_set, List.length_replicate, List.length_append, List.length_cons, List.length_nil]); omega)) only [aW, aX, aV, aB, aN, aL, aP, aH, r_graph_visit_1]
        refine post2 (R := fun r H' => _) ⟨Sk, ⟨k2, fun w hw => k3 w (by
            unfold vis at hw ⊢
            simp only [List.getD_eq_getElem?_getD, List.getElem?_set] at hw ⊢
            split
            · simp [hvl]
            · exact hw), fun w hw0 hw => ?_, fun w x hw0 hw hnw hwx => ?_, k3 v ((vset v h0).2 (.inl rfl))⟩, rfl⟩
        · rcases k4 w hw0 hw with h6 | h6
          · rcases (vset w hw0).1 h6 with rfl | h7
            · exact .inr (.refl _)
            · exact .inl h7
          · exact .inr h6
        · by_cases h6 : w = v
          · subst h6
            obtain ⟨a, ha, hax⟩ := List.mem_map.1 hwx
            obtain ⟨i, hi, rfl⟩ := List.mem_iff_getElem.1 ha
            have hg : l.getD i (0, 0) = l[i] := by simp [List.getD_eq_getElem?_getD, hi]
            have := k6 i (by omega) (by rw [hg, hax])
            rw [hg, hax] at this; exact this
          · exact k5 w x hw0 hw (fun h7 => ((vset w hw0).1 h7).elim h6 hnw) hwx
end Go.Proofs.Ytegnnfbmbnpgdaa
namespace Go.Proofs.Ytegnnfbmbnpgdaa
open Go Go.Lft
set_option linter.unusedSimpArgs false
set_option linter.unusedVariables false
attribute [local congr] ob_congr bw_congr ib_congr ck_congr iwA_congr itA_congr aw_congr awp_congr sqA_congr bkA_congr vr_congr gd_congr

def iterN {α : Type} (f : α → α) : Nat → α → α
  | 0, x => x
  | k + 1, x => f (iterN f k x)
def relax1 (S : List Bool) (a : Int × Int) : List Bool := S.set a.2.toNat (S.getD a.2.toNat false || S.getD a.1.toNat false)
def relaxAll (es : Arcs) (S : List Bool) : List Bool := es.foldl relax1 S
def start0 (n from0 : Int) : List Bool := (List.replicate n.toNat false).set from0.toNat true
def reachL (n : Int) (es : Arcs) (from0 : Int) : List Bool := iterN (relaxAll es) n.toNat (start0 n from0)

theorem relax1_len (S : List Bool) (a : Int × Int) : (relax1 S a).length = S.length := List.length_set
theorem relaxAll_len (es : Arcs) (S : List Bool) : (relaxAll es S).length = S.length := by
  unfold relaxAll
  induction es generalizing S with
  | nil => rfl
  | cons a r ih => rw [List.foldl_cons, ih, relax1_len]
theorem iter_len (es : Arcs) (k : Nat) (S : List Bool) : (iterN (relaxAll es) k S).length = S.length := by
  induction k with
  | zero => rfl
  | succ k ih => simp only [iterN]; rw [relaxAll_len, ih]
theorem start_len (n v : Int) : (start0 n v).length = n.toNat := by simp [start0]
theorem reachL_len (n : Int) (es : Arcs) (v : Int) : (reachL n es v).length = n.toNat := by unfold reachL; rw [iter_len, start_len]

theorem relax1_get (S : List Bool) (a : Int × Int) (i : Nat) : (relax1 S a).getD i false = if a.2.toNat = i then (S.getD a.2.toNat false || S.getD a.1.toNat false) && decide (i < S.length) else S.getD i false := by
  unfold relax1
  simp only [List.getD_eq_getElem?_getD, List.getElem?_set]
  split
  · rename_i h; subst h
    by_cases hl : a.2.toNat < S.length <;> simp [hl]
  · rfl
theorem relax1_mono (S : List Bool) (a : Int × Int) (i : Nat) (h : S.getD i false = true) : (relax1 S a).getD i false = true := by
  rw [relax1_get]
  split
  · rename_i hi; subst hi
    have : a.2.toNat < S.length := by
      apply Nat.lt_of_not_le; intro hle
      rw [List.getD_eq_getElem?_getD, List.getElem?_eq_none hle] at h; cases h
    rw [h]; simp [this]
  · exact h
theorem relaxAll_mono (es : Arcs) (S : List Bool) (i : Nat) (h : S.getD i false = true) : (relaxAll es S).getD i false = true := by
  unfold relaxAll
  induction es generalizing S with
  | nil => exact h
  | cons a r ih => rw [List.foldl_cons]; exact ih _ (relax1_mono S a i h)
theorem iter_mono (es : Arcs) (k : Nat) (S : List Bool) (i : Nat) (h : S.getD i false = true) : (iterN (relaxAll es) k S).getD i false = true := by
  induction k with
  | zero => exact h
  | succ k ih => exact relaxAll_mono es _ i ih
/-- Nothing is reached but over ways. -/
theorem relaxAll_sound (n : Int) (es all : Arcs) (hsub : ∀ a ∈ es, a ∈ all) (hr : inR n all) (v : Int) (S : List Bool) (h : ∀ w, 0 ≤ w → vis S w → Path all v w) : ∀ w, 0 ≤ w → vis (relaxAll es S) w → Path all v w := by
  unfold relaxAll
  induction es generalizing S with
  | nil => exact h
  | cons a r ih =>
    rw [List.foldl_cons]
    refine ih (fun b hb => hsub b (by simp [hb])) _ (fun w hw hv => ?_)
    have ha := hsub a (by simp)
    obtain ⟨⟨r1, r2⟩, r3, r4⟩ := hr a ha
    unfold vis at hv
    rw [relax1_get] at hv
    split at hv
    · rename_i hi
      have hwa : w = a.2 := by omega
      subst hwa
      simp only [Bool.and_eq_true, Bool.or_eq_true] at hv
      rcases hv.1 with h1 | h1
      · exact h _ hw h1
      · exact (h a.1 r1 h1).snoc ha
    · exact h w hw hv
theorem iter_sound (n : Int) (es : Arcs) (hr : inR n es) (v : Int) (k : Nat) (S : List Bool) (h : ∀ w, 0 ≤ w → vis S w → Path es v w) : ∀ w, 0 ≤ w → vis (iterN (relaxAll es) k S) w → Path es v w := by
  induction k with
  | zero => exact h
  | succ k ih => exact relaxAll_sound n es es (fun _ h => h) hr v _ ih
/-- The number of those that are reached. -/
theorem count_le {S S' : List Bool} (hl : S'.length = S.length) (h : ∀ i, S.getD i false = true → S'.getD i false = true) : S.count true ≤ S'.count true ∧ (S.count true = S'.count true → S = S') := by
  induction S generalizing S' with
  | nil => simp at hl; subst hl; simp
  | cons a r ih =>
    cases S' with
    | nil => simp at hl
    | cons b q =>
      obtain ⟨h1, h2⟩ := ih (S' := q) (by simpa using hl) fun i hi => by have := h (i + 1) (by simpa using hi); simpa using this
      have h0 := h 0
      simp only [List.count_cons]
      cases a <;> cases b <;> simp at h0 ⊢
      · exact ⟨by omega, fun hc => h2 hc⟩
      · exact ⟨by omega, fun hc => by omega⟩
      · exact ⟨by omega, fun hc => h2 hc⟩
theorem iter_fix (es : Arcs) (S : List Bool) (h0 : 1 ≤ S.count true) (k : Nat) : relaxAll es (iterN (relaxAll es) k S) = iterN (relaxAll es) k S ∨ k + 1 ≤ (iterN (relaxAll es) k S).count true := by
  induction k with
  | zero => exact .inr (by simpa [iterN] using h0)
  | succ k ih =>
    simp only [iterN]
    rcases ih with h | h
    · rw [h]; exact .inl h
    · obtain ⟨h1, h2⟩ := count_le (S := iterN (relaxAll es) k S) (S' := relaxAll es (iterN (relaxAll es) k S)) (relaxAll_len _ _) (fun i hi => relaxAll_mono es _ i hi)
      by_cases hc : (iterN (relaxAll es) k S).count true = (relaxAll es (iterN (relaxAll es) k S)).count true
      · have := h2 hc
        rw [← this]; exact .inl this.symm
      · exact .inr (by omega)
/-- Where a round changes nothing, every arc leads from what is reached to what is. -/
theorem fix_clo (n : Int) (es : Arcs) (hr : inR n es) (S : List Bool) (hl : S.length = n.toNat) (hf : relaxAll es S = S) : ∀ a ∈ es, vis S a.1 → vis S a.2 := by
  have key : ∀ (l : Arcs) (T : List Bool), T.length = n.toNat → (∀ i, S.getD i false = true → T.getD i false = true) → (∀ a ∈ l, a ∈ es) → ∀ a ∈ l, vis S a.1 → vis (l.foldl relax1 T) a.2 := by
    intro l
    induction l with
    | nil => intro T _ _ _ a ha; cases ha
    | cons b r ih =>
      intro T hT hm hs a ha hv
      rw [List.foldl_cons]
      rcases List.mem_cons.1 ha with rfl | ha
      · obtain ⟨⟨r1, r2⟩, r3, r4⟩ := hr a (hs a (by simp))
        have h1 : (relax1 T a).getD a.2.toNat false = true := by
          rw [relax1_get, if_pos rfl, hm _ hv]
          simp; omega
        exact relaxAll_mono r _ _ h1
      · exact ih _ (by rw [relax1_len, hT]) (fun i hi => relax1_mono T b i (hm i hi)) (fun c hc => hs c (by simp [hc])) a ha hv
  intro a ha hv
  have := key es S hl (fun _ h => h) (fun _ h => h) a ha hv
  unfold relaxAll at hf
  rw [hf] at this; exact this
theorem vis_start (n v w : Int) (h0 : 0 ≤ v) (h1 : v < n) (hw : 0 ≤ w) : vis (start0 n v) w ↔ w = v := by
  unfold start0
  rw [vis_set _ _ _ h0 (by simp; omega) hw]
  have : ¬ vis (List.replicate n.toNat false) w := by
    unfold vis
    simp [List.getD_eq_getElem?_getD, List.getElem?_replicate]
    split <;> simp
  simp [this]
theorem reachL_iff {n : Int} {es : Arcs} (hr : inR n es) {v : Int} (h0 : 0 ≤ v) (h1 : v < n) {w : Int} (hw : 0 ≤ w) : vis (reachL n es v) w ↔ Path es v w := by
  constructor
  · refine iter_sound n es hr v _ _ (fun u hu hv => ?_) w hw
    rw [(vis_start n v u h0 h1 hu).1 hv]; exact .refl v
  · have hfix : relaxAll es (reachL n es v) = reachL n es v := by
      have hc : 1 ≤ (start0 n v).count true := by
        apply List.one_le_count_iff.2
        unfold start0
        exact List.mem_set (by simp; omega) _
      rcases iter_fix es (start0 n v) hc n.toNat with h | h
      · exact h
      · exfalso
        have := List.count_le_length (a := true) (l := iterN (relaxAll es) n.toNat (start0 n v))
        rw [iter_len, start_len] at this; omega
    have hclo := fix_clo n es hr (reachL n es v) (reachL_len n es v) hfix
    have hv : vis (reachL n es v) v := iter_mono es _ _ _ ((vis_start n v v h0 h1 h0).2 rfl)
    intro hp
    clear hw
    revert hv
    clear h0 h1
    generalize reachL n es v = S at *
    intro hv
    induction hp with
    | refl u => exact hv
    | step h p ih => exact ih (hclo _ h hv)
theorem bools_ext {S T : List Bool} {n : Int} (h1 : S.length = n.toNat) (h2 : T.length = n.toNat) (h : ∀ w, 0 ≤ w → w < n → (vis S w ↔ vis T w)) : S = T := by
  refine eq_of_get false (by omega) fun i hi => ?_
  have := h i (by omega) (by omega)
  unfold vis at this
  simp only [Int.toNat_natCast] at this
  cases ha : S.getD i false <;> cases hb : T.getD i false <;> rw [ha, hb] at this <;> simp at this ⊢

/-- What visit returns. -/
def visitR (n : Int) (l es : Arcs) (v : Int) : List Bool × Int := if gcheck n l ≠ 0 then ([], gcheck n l) else if v < 0 ∨ n ≤ v then ([], 7) else (reachL n es v, 0)
theorem gcheck_ok {n : Int} {l : Arcs} (h : gcheck n l = 0) : 0 ≤ n ∧ n ≤ 64 ∧ l.length ≤ 512 ∧ inR n l := by
  unfold gcheck at h
  split at h
  · cases h
  · split at h
    · cases h
    · split at h
      · cases h
      · rename_i h1 h2 h3
        refine ⟨by omega, by omega, by omega, fun a ha => ?_⟩
        obtain ⟨i, hi, rfl⟩ := List.mem_iff_getElem.1 ha
        have : ¬ arcBad n (l.getD i (0, 0)) := fun hb => h3 ⟨i, hi, hb⟩
        simp only [arcBad, List.getD_eq_getElem?_getD, List.getElem?_eq_getElem hi, Option.getD_some] at this
        omega
theorem inR_swap {n : Int} {l : Arcs} (h : inR n l) : inR n (l.map Prod.swap) := fun a ha => by
  obtain ⟨b, hb, rfl⟩ := List.mem_map.1 ha
  have := h b hb
  exact ⟨this.2, this.1⟩

theorem visit_vr {w : Bool} {n : Int} {l : Arcs} {f : Nat} {e : Int × Int → Int × Int} (he : IsEnds f e) (hin : inR n l → inR n (l.map e)) (v : Int) :
    VR P false n_graph_visit [graphA w n l, .v (.int .i64 v), .fn f []] [] (isR (.tup [.fs true (bools (visitR n l (l.map e) v).1), .v (.int .i64 (visitR n l (l.map e) v).2)])) := by
  refine vr_graph_visit (by simp) (.inr rfl) fun _ _ => ?_
  unfold graphA
  simp (disch := ((try simp only [List.length_set, List.length_replicate, List.length_append, List.length_cons, List.length_nil]); omega)) only [aW, aX, aV, aB, aN, aL, aP, aH, s_graph_visit, v_graph_visit]
  refine (check_vr (w := w) n l).same (by unfold graphA; simp (disch := first | omega | simp (disch := omega) only [aF, aL, aN]) only [aW, aX, aV, aB, aN, aL, aP, aH, aF, Int.natCast_add, Int.natCast_mul, Int.add_sub_cancel, List.length_nil, Int.cast_ofNat_Int, and_true, true_and]) rfl (aret_of ?_)
  simp (disch := ((try simp only [List.length_set, List.length_replicate, List.length_append, List.length_cons, List.length_nil]); omega)) only [aW, aX, aV, aB, aN, aL, aP, aH]
  refine ib_intro (fun h1 => ?_) (fun h1 => ?_)
  · simp (disch := ((try simp only [List.length_set, List.length_replicate, List.length_append, List.length_cons, List.length_nil]); omega)) only [aW, aX, aV, aB, aN, aL, aP, aH, r_graph_visit]
    refine post_err ⟨?_, rfl⟩
    unfold visitR; rw [if_pos h1]; rfl
  have h1 : gcheck n l = 0 := Classical.not_not.1 h1
  obtain ⟨c1, c2, c3, c4⟩ := gcheck_ok h1
  simp (disch := ((try simp only [List.length_set, List.length_replicate, List.length_append, List.length_cons, List.length_nil]); omega)) only [aW, aX, aV, aB, aN, aL, aP, aH]
  refine ib_intro (fun h2 => ?_) (fun h2 => ?_)
  · simp (disch := ((try simp only [List.length_set, List.length_replicate, List.length_append, List.length_cons, List.length_nil]); omega)) only [aW, aX, aV, aB, aN, aL, aP, aH, r_graph_visit]
    refine post_err ⟨?_, rfl⟩
    unfold visitR; rw [if_neg (by simp [h1]), if_pos h2]; rfl
  simp (disch := ((try simp only [List.length_set, List.length_replicate, List.length_append, List.length_cons, List.length_nil]); omega)) only [aW, aX, aV, aB, aN, aL, aP, aH]
  refine ⟨by kernel_rfl, (visit1_vr (N := n.toNat) he (by omega) (by omega) (hin c4) (by omega) _ (List.replicate n.toNat false) [] v (Nat.le_refl _) (by simp) (by omega) (by omega)).mono ?_⟩
  rintro r H' ⟨S', q, rfl⟩
  refine aret_of ?_
  have ql : S'.length = n.toNat := by rw [q.len]; simp
  simp (disch := ((try simp only [List.length_set, List.length_replicate, List.length_append, List.length_cons, List.length_nil]); omega)) only [aW, aX, aV, aB, aN, aL, aP, aH, vmem, r_graph_visit]
  refine post0 (r := .tup [.fs true (bools S'), .v (.int .i64 0)]) (Fz.tup ⟨fz_slB _ _ _ _ _ _ (by omega) ql.symm rfl, Fz.refl rfl, trivial⟩) ⟨?_, rfl⟩
  have hS : S' = reachL n (l.map e) v := by
    have hno : ∀ u, ¬ vis (List.replicate n.toNat false) u := fun u => by
      unfold vis; simp [List.getD_eq_getElem?_getD, List.getElem?_replicate]; split <;> simp
    refine bools_ext ql (reachL_len _ _ _) fun u u0 u1 => ?_
    rw [reachL_iff (hin c4) (by omega) (by omega) u0]
    constructor
    · intro hu
      rcases q.new u u0 hu with h3 | h3
      · exact absurd h3 (hno u)
      · exact h3
    · intro hp
      have key : ∀ a b, Path (l.map e) a b → 0 ≤ a → vis S' a → vis S' b := by
        intro a b hp
        induction hp with
        | refl a => exact fun _ h => h
        | step h p ih => exact fun ha hva => ih (hin c4 _ h).2.1 (q.clo _ _ ha hva (hno _) h)
      exact key v u hp (by omega) q.self
  unfold visitR; rw [if_neg (by simp [h1]), if_neg (by omega), hS]

def backL (l : Arcs) : Arcs := l.map Prod.swap
theorem reach_vr {w : Bool} (n : Int) (l : Arcs) (v : Int) : VR P false n_graph_Reach [graphA w n l, .v (.int .i64 v)] [] (isR (.tup [.fs true (bools (visitR n l l v).1), .v (.int .i64 (visitR n l l v).2)])) := by
  refine vr_graph_Reach (by simp) (.inr rfl) fun _ _ => ?_
  unfold graphA
  have hv := visit_vr (w := w) (n := n) (l := l) ends1 (fun h => by simpa using h) v
  simp only [List.map_id_fun, id_eq] at hv
  simp (disch := ((try simp only [List.length_set, List.length_replicate, List.length_append, List.length_cons, List.length_nil]); omega)) only [aW, aX, aV, aB, aN, aL, aP, aH, s_graph_Reach, v_graph_Reach]
  refine hv.same (by unfold graphA; simp (disch := first | omega | simp (disch := omega) only [aF, aL, aN]) only [aW, aX, aV, aB, aN, aL, aP, aH, aF, Int.natCast_add, Int.natCast_mul, Int.add_sub_cancel, List.length_nil, Int.cast_ofNat_Int, and_true, true_and]) (by simp (disch := first | omega | simp (disch := omega) only [aF, aL, aN]) only [aW, aX, aV, aB, aN, aL, aP, aH, aF, Int.natCast_add, Int.natCast_mul, Int.add_sub_cancel, List.length_nil, Int.cast_ofNat_Int, and_true, true_and]) (aret_of ?_)
  simp (disch := ((try simp only [List.length_set, List.length_replicate, List.length_append, List.length_cons, List.length_nil]); omega)) only [aW, aX, aV, aB, aN, aL, aP, aH, r_graph_Reach]
  exact post0 (Fz.refl (by simp (disch := first | omega | simp (disch := omega) only [aF, aL, aN]) only [aW, aX, aV, aB, aN, aL, aP, aH, aF, Int.natCast_add, Int.natCast_mul, Int.add_sub_cancel, List.length_nil, Int.cast_ofNat_Int, and_true, true_and])) ⟨rfl, rfl⟩
theorem back_vr {w : Bool} (n : Int) (l : Arcs) (v : Int) : VR P false n_graph_Back [graphA w n l, .v (.int .i64 v)] [] (isR (.tup [.fs true (bools (visitR n l (backL l) v).1), .v (.int .i64 (visitR n l (backL l) v).2)])) := by
  refine vr_graph_Back (by simp) (.inr rfl) fun _ _ => ?_
  unfold graphA
  have hv := visit_vr (w := w) (n := n) (l := l) ends2 (fun h => inR_swap h) v
  simp (disch := ((try simp only [List.length_set, List.length_replicate, List.length_append, List.length_cons, List.length_nil]); omega)) only [aW, aX, aV, aB, aN, aL, aP, aH, s_graph_Back, v_graph_Back]
  refine hv.same (by unfold graphA; simp (disch := first | omega | simp (disch := omega) only [aF, aL, aN]) only [aW, aX, aV, aB, aN, aL, aP, aH, aF, Int.natCast_add, Int.natCast_mul, Int.add_sub_cancel, List.length_nil, Int.cast_ofNat_Int, and_true, true_and]) (by simp (disch := first | omega | simp (disch := omega) only [aF, aL, aN]) only [aW, aX, aV, aB, aN, aL, aP, aH, aF, Int.natCast_add, Int.natCast_mul, Int.add_sub_cancel, List.length_nil, Int.cast_ofNat_Int, and_true, true_and]) (aret_of ?_)
  simp (disch := ((try simp only [List.length_set, List.length_replicate, List.length_append, List.length_cons, List.length_nil]); omega)) only [aW, aX, aV, aB, aN, aL, aP, aH, r_graph_Back]
  exact post0 (Fz.refl (by simp (disch := first | omega | simp (disch := omega) only [aF, aL, aN]) only [aW, aX, aV, aB, aN, aL, aP, aH, aF, Int.natCast_add, Int.natCast_mul, Int.add_sub_cancel, List.length_nil, Int.cast_ofNat_Int, and_true, true_and])) ⟨rfl, rfl⟩
end Go.Proofs.Ytegnnfbmbnpgdaa
namespace Go.Proofs.Ytegnnfbmbnpgdaa
open Go Go.Lft
set_option linter.unusedSimpArgs false
set_option linter.unusedVariables false
attribute [local congr] ob_congr bw_congr ib_congr ck_congr iwA_congr itA_congr aw_congr awp_congr sqA_congr bkA_congr vr_congr gd_congr

theorem take_succ_get {α : Type} (l : List α) (k : Nat) (d : α) (h : k < l.length) : l.take (k + 1) = l.take k ++ [l.getD k d] := by
  rw [List.take_succ_eq_append_getElem h]; simp [List.getD_eq_getElem?_getD, h]

end Go.Proofs.Ytegnnfbmbnpgdaa
