/- Several texts of ours, laid one behind the other. -/
import Derived.Test.YtambcnlkdnmekaaMA1
import Derived.Test.YtambcnlkdnmekaaProg
/-! Laid out by a program of ours: what each function of the cut comes to, over named values; and that it is so. -/
namespace Go.Proofs.Ytambcnlkdnmekaa
set_option linter.unusedVariables false
set_option maxRecDepth 100000
open Go SG

/-! number 24 -/
def a24 : Ann :=
 (.q (.r [.plain 3]) (.j [] 85070591730234615865843651857942052848 (.q (.r [.plain 2]) (.b (.q (.r [.plain 2]) (.c (.q (.r [.plain 4]) .s) (.q (.r [.plain 2]) (.c (.q (.r [.plain 6]) (.j [] 17592183947408 (.q (.r [.plain 1]) (.b (.l [7] 17592183947408 (.q (.q (.r [.plain 5]) (.c .s .s)) (.q (.b (.q (.d [0, 0, 2, 0, 14, 30, 63, 0, 0, 256, 0, 0, 2048, 7936, 16383, 32767] (.pur 0 (.pur 1 (.pur 3 (.pur 7 (.pur 8 (.pur 10 (.pur 11 (.pur 12 (.hld 2 (.pur 4 (.hld 5 (.hld 9 (.pur 13 (.act 6 (.act 14 (.pur 15 .fin))))))))))))))))) (.c (.q (.r [.plain 1]) .s) .s))) (.r [.plain 3]))))))
  (.q (.d [0, 1, 0, 7, 0, 16, 0, 64, 192, 448, 1023, 2047, 4095, 8191, 16383, 8191, 40959, 106495, 237567, 524287, 1048575, 2097151] (.pur 0 (.pur 2 (.pur 4 (.pur 6 (.pur 7 (.pur 8 (.hld 1 (.hld 5 (.hld 9 (.act 3 (.act 10 (.pur 11 (.pur 12 (.ite 12 (.pur 13 (.pur 15 (.pur 16 (.pur 17 (.hld 18 (.act 14 (.act 19 (.pur 20 (.pur 21 .fin))))))))) (.skp 13 (.skp 14 (.skp 15 (.skp 16 (.skp 17 (.skp 18 (.skp 19 (.pur 20 (.pur 21 .fin)))))))))))))))))))))))) .s))) (.q (.r [.plain 2]) (.c (.q (.d [0, 1, 0, 4, 15, 0, 32, 0, 128, 384, 896, 1920, 4095, 8191, 16383, 32767, 65535, 131071, 262143, 524287, 1048575] (.pur 0 (.pur 2 (.pur 5 (.pur 7 (.hld 1 (.hld 3 (.hld 6 (.hld 8 (.pur 9 (.pur 10 (.alt 4 (.act 11 (.act 12 (.pur 13 (.pur 14 (.ite 14 (.pur 15 (.hld 16 (.act 17 (.pur 18 (.pur 19 (.pur 20 .fin)))))) (.skp 15 (.skp 16 (.skp 17 (.skp 18 (.pur 19 (.pur 20 .fin))))))))))) (.act 11 (.act 4 (.act 12 (.pur 13 (.pur 14 (.ite 14 (.pur 15 (.hld 16 (.act 17 (.pur 18 (.pur 19 (.pur 20 .fin)))))) (.skp 15 (.skp 16 (.skp 17 (.skp 18 (.pur 19 (.pur 20 .fin)))))))))))))))))))))))) .s) (.q (.r [.plain 2]) (.c (.q (.r [.plain 3]) (.d [0, 1, 0, 4, 3, 19, 51, 127, 255, 511] (.pur 0 (.pur 2 (.hld 1 (.pur 4 (.pur 5 (.hld 3 (.act 6 (.pur 7 (.pur 8 (.act 9 .fin)))))))))))) (.q (.r [.plain 2]) (.c (.q (.r [.plain 3]) (.r [.plain 3])) (.q (.r [.plain 2]) (.c (.q (.d [0, 1, 3, 0, 8, 31, 63, 127] (.pur 0 (.pur 3 (.hld 1 (.hld 4 (.act 2 (.act 5 (.pur 6 (.pur 7 .fin))))))))) .s) (.q (.r [.plain 2]) (.c (.q (.d [0, 1, 3, 0, 8, 31, 63, 127] (.pur 0 (.pur 3 (.hld 1 (.hld 4 (.act 2 (.act 5 (.pur 6 (.pur 7 .fin))))))))) .s) .s))))))))))))))))
  (.q (.r [.plain 1]) .s)))
def s24 (x0 a1 : Value) (K : Value → World → Prop) (w : World) : Prop :=
 BoxS 53 x0 (fun x2 w =>
 BoxS 56 a1 (fun a3 w =>
 JoinS (fun (w : World) =>
 K (Value.bool true) w
 ) fun J0 =>
 PureS (fieldAddrV 0 a3) fun t8 =>
 LoadC t8 (fun t9 w =>
 PureS (binV .eql t9 (Value.int .i64 0)) fun t11 =>
 CondS t11 (
 LoadA 2 x2 (fun t12 w =>
 LoadA 7 a3 (fun t13 w =>
 CallS Try.prog 46 [t12, t13].toArray (fun t14 w =>
 K t14 w
 ) w
 ) w
 ) w
 ) (
 PureS (binV .eql t9 (Value.int .i64 1)) fun t16 =>
 CondS t16 (
 RunS Try.prog (Instr.build 26 [].toArray) (fun t17 w =>
 BoxS 26 t17 (fun t18 w =>
 RunS Try.prog (Instr.build 51 [].toArray) (fun t19 w =>
 BoxS 51 t19 (fun t20 w =>
 JoinS (fun (w : World) =>
 DrawS fun S2 => S2 w.drew ∧ (
 PureS (fieldAddrV 0 x2) fun t44 =>
 PureS (fieldAddrV 1 x2) fun t48 =>
 PureS (nilV t20) fun t51 =>
 PureS (fieldAddrV 0 t51) fun t52 =>
 HeldC S2 t44 (fun t45 =>
 HeldC S2 t48 (fun t49 =>
 HeldC S2 t52 (fun t53 =>
 CallS Try.prog 12 [t45, t18].toArray (fun t47 w =>
 S2 w ∧ (
 CallS Try.prog 47 [t49, t53].toArray (fun t54 w =>
 S2 w ∧ (
 PureS (binV .eql t47 t54) fun t55 =>
 CondS t55 (
 PureS (nilV t20) fun t60 =>
 PureS (fieldAddrV 0 t60) fun t61 =>
 HeldC S2 t61 (fun t62 =>
 CallS Try.prog 9 [t18].toArray (fun t58 w =>
 S2 w ∧ (
 CallS Try.prog 13 [t58, t62].toArray (fun t63 w =>
 PureS (pickV (Value.bool true) t63 (Value.bool false)) fun t64 =>
 K t64 w
 ) w
 )
 ) w
 )
 ) (
 PureS (pickV (Value.bool false) undef (Value.bool false)) fun t64_1 =>
 K t64_1 w
 )
 )
 ) w
 )
 ) w.drew
 )
 )
 )
 )
 ) fun J1 =>
 LoopS 1 (fun L3 (i7 : Value) (w : World) =>
 PureS (fieldAddrV 6 a3) fun t22 =>
 LoadC t22 (fun t23 w =>
 PureS (lenSliceV t23) fun t24 =>
 PureS (binV .lss i7 t24) fun t25 =>
 CondS t25 (
 DrawS fun S4 => S4 w.drew ∧ (
 PureS (fieldAddrV 6 a3) fun t29 =>
 PureS (fieldAddrV 6 a3) fun t36 =>
 PureS (binV .add i7 (Value.int .i64 1)) fun t40 =>
 HeldC S4 t29 (fun t30 =>
 PureS (indexAddrV 4 t30 i7) fun t32 =>
 HeldA 4 S4 t32 (fun t33 =>
 HeldC S4 t36 (fun t37 =>
 PureS (sliceV 4 t37 (some i7) (some t40)) fun t41 =>
 CallS Try.prog 8 [t18, t33].toArray (fun t34 w =>
 S4 w ∧ (
 CallS Try.prog 47 [t20, t41].toArray (fun t42 w =>
 PureS (binV .neq t34 t42) fun t43 =>
 CondS t43 (
 K (Value.bool false) w
 ) (
 PureS (binV .add i7 (Value.int .i64 1)) fun t27 =>
 L3 t27 w
 )
 ) w
 )
 ) w.drew
 )
 )
 )
 )
 ) (
 J1 w
 )
 ) w
 ) (Value.int .i64 0) w
 ) w
 ) w
 ) w
 ) w
 ) (
 PureS (binV .eql t9 (Value.int .i64 2)) fun t66 =>
 CondS t66 (
 DrawS fun S5 => S5 w.drew ∧ (
 PureS (fieldAddrV 0 x2) fun t67 =>
 PureS (fieldAddrV 0 x2) fun t69 =>
 PureS (fieldAddrV 1 x2) fun t72 =>
 PureS (fieldAddrV 1 x2) fun t74 =>
 HeldC S5 t67 (fun t68 =>
 HeldC S5 t69 (fun t70 =>
 HeldC S5 t72 (fun t73 =>
 HeldC S5 t74 (fun t75 =>
 PureS (nilV t75) fun t76 =>
 PureS (fieldAddrV 0 t76) fun t77 =>
 (
 CallS Try.prog 12 [t68, t70].toArray (fun t71 w =>
 S5 w ∧ (
 LoadC t77 (fun t78 w =>
 S5 w ∧ (
 CallS Try.prog 47 [t73, t78].toArray (fun t79 w =>
 S5 w ∧ (
 PureS (binV .eql t71 t79) fun t80 =>
 CondS t80 (
 PureS (fieldAddrV 0 x2) fun t82 =>
 HeldC S5 t82 (fun t83 =>
 CallS Try.prog 12 [t83, (Value.pointer none)].toArray (fun t84 w =>
 PureS (binV .eql t84 (Value.int .i64 1)) fun t85 =>
 PureS (pickV (Value.bool true) t85 (Value.bool false)) fun t86 =>
 K t86 w
 ) w
 )
 ) (
 PureS (pickV (Value.bool false) undef (Value.bool false)) fun t86_1 =>
 K t86_1 w
 )
 )
 ) w
 )
 ) w
 )
 ) w.drew
 ) ∧ (
 LoadC t77 (fun t78_1 w =>
 S5 w ∧ (
 CallS Try.prog 12 [t68, t70].toArray (fun t71_1 w =>
 S5 w ∧ (
 CallS Try.prog 47 [t73, t78_1].toArray (fun t79_1 w =>
 S5 w ∧ (
 PureS (binV .eql t71_1 t79_1) fun t80_1 =>
 CondS t80_1 (
 PureS (fieldAddrV 0 x2) fun t82_1 =>
 HeldC S5 t82_1 (fun t83_1 =>
 CallS Try.prog 12 [t83_1, (Value.pointer none)].toArray (fun t84_1 w =>
 PureS (binV .eql t84_1 (Value.int .i64 1)) fun t85_1 =>
 PureS (pickV (Value.bool true) t85_1 (Value.bool false)) fun t86_2 =>
 K t86_2 w
 ) w
 )
 ) (
 PureS (pickV (Value.bool false) undef (Value.bool false)) fun t86_3 =>
 K t86_3 w
 )
 )
 ) w
 )
 ) w
 )
 ) w.drew
 )
 )
 )
 )
 )
 )
 ) (
 PureS (binV .eql t9 (Value.int .i64 3)) fun t88 =>
 CondS t88 (
 PureS (fieldAddrV 0 x2) fun t89 =>
 LoadC t89 (fun t90 w =>
 CallS Try.prog 48 [t90].toArray (fun t91 w =>
 DrawS fun S6 => S6 w.drew ∧ (
 PureS (fieldAddrV 1 x2) fun t92 =>
 PureS (fieldAddrV 1 x2) fun t94 =>
 HeldC S6 t92 (fun t93 =>
 PureS (nilV t93) fun t96 =>
 PureS (fieldAddrV 0 t96) fun t97 =>
 HeldC S6 t94 (fun t95 =>
 StoreC t97 (Value.slice none 0 0) (fun w =>
 S6 w ∧ (
 PureS (nilV t95) fun t98 =>
 PureS (fieldAddrV 1 t98) fun t99 =>
 StoreC t99 (Value.slice none 0 0) (fun w =>
 J0 w
 ) w
 )
 ) w.drew
 )
 )
 )
 ) w
 ) w
 ) (
 PureS (binV .eql t9 (Value.int .i64 4)) fun t101 =>
 CondS t101 (
 PureS (fieldAddrV 0 x2) fun t102 =>
 LoadC t102 (fun t103 w =>
 CallS Try.prog 15 [t103].toArray (fun t104 w =>
 PureS (fieldAddrV 1 x2) fun t105 =>
 LoadC t105 (fun t106 w =>
 CallS Try.prog 49 [t106].toArray (fun t107 w =>
 J0 w
 ) w
 ) w
 ) w
 ) w
 ) (
 PureS (binV .eql t9 (Value.int .i64 5)) fun t109 =>
 CondS t109 (
 DrawS fun S7 => S7 w.drew ∧ (
 PureS (fieldAddrV 0 x2) fun t110 =>
 PureS (fieldAddrV 1 x2) fun t113 =>
 HeldC S7 t110 (fun t111 =>
 HeldC S7 t113 (fun t114 =>
 CallS Try.prog 16 [t111].toArray (fun t112 w =>
 S7 w ∧ (
 CallS Try.prog 50 [t114, (Value.bool true)].toArray (fun t115 w =>
 PureS (binV .eql t112 t115) fun t116 =>
 K t116 w
 ) w
 )
 ) w.drew
 )
 )
 )
 ) (
 PureS (binV .eql t9 (Value.int .i64 6)) fun t118 =>
 CondS t118 (
 DrawS fun S8 => S8 w.drew ∧ (
 PureS (fieldAddrV 0 x2) fun t119 =>
 PureS (fieldAddrV 1 x2) fun t122 =>
 HeldC S8 t119 (fun t120 =>
 HeldC S8 t122 (fun t123 =>
 CallS Try.prog 31 [t120].toArray (fun t121 w =>
 S8 w ∧ (
 CallS Try.prog 50 [t123, (Value.bool false)].toArray (fun t124 w =>
 PureS (binV .eql t121 t124) fun t125 =>
 K t125 w
 ) w
 )
 ) w.drew
 )
 )
 )
 ) (
 J0 w
 )
 )
 )
 )
 )
 )
 )
 ) w
 ) w
 ) w
theorem s24_den (x0 a1 : Value) (K : Value → World → Prop) (w : World) : denFn Try.prog false (bodyOf Try.f24) Try.f24.results a24 [x0, a1] K NoP w = s24 x0 a1 K w := by kernel_rfl
theorem s24_dst : dstsOk (2 + 124) (bodyOf Try.f24) = true := by kernel_rfl
theorem s24_ann : annOk (bodyOf Try.f24) a24 = true := by kernel_rfl
theorem s24_call {x0 a1 : Value} {K : Value → World → Prop} {w : World} (hm : Try.prog.follows .mixedOrders = true) (h : s24 x0 a1 K w) : CallS Try.prog 24 #[x0, a1] K w :=
  fn_call (args := [x0, a1]) (m := 124) hm Try.func24 (by kernel_rfl) (rs := Try.f24.results) rfl Try.ntmps24 s24_dst s24_ann (by rw [s24_den]; exact h)

/-! number 25 -/
def a25 : Ann :=
 (.q (.r [.plain 2]) (.q (.r [.plain 4]) (.q (.d [0, 1, 3, 0, 8, 24, 56, 120, 255, 511, 1023] (.pur 0 (.pur 3 (.hld 1 (.hld 4 (.pur 5 (.pur 6 (.hld 7 (.act 2 (.act 8 (.pur 9 (.pur 10 .fin)))))))))))) (.q (.j [58] 576460752302374912 (.d [0, 0, 2, 6, 14, 30, 63, 127, 255, 511, 1023, 2047, 511, 4607, 12799, 29183, 61951, 127487, 262143, 524287, 1048575, 2097151, 4194303, 8388607, 2097151, 18874367, 52428799, 119537663, 253755391, 536870911, 1073741823, 2147483647, 4294967295, 8589934591, 17179869183, 8589934591, 42949672959, 137438953471, 274877906943] (.pur 0 (.pur 1 (.hld 2 (.pur 3 (.pur 4 (.hld 5 (.act 6 (.pur 7 (.pur 8 (.ite 8 (.skp 9 (.skp 10 (.skp 11 (.skp 12 (.skp 13 (.skp 14 (.skp 15 (.skp 16 (.skp 17 (.skp 18 (.pur 19 (.pur 20 (.ite 20 (.skp 21 (.skp 22 (.skp 23 (.skp 24 (.skp 25 (.skp 26 (.skp 27 (.skp 28 (.skp 29 (.skp 30 (.pur 31 (.pur 32 (.ite 32 (.skp 33 (.skp 34 (.skp 35 (.skp 36 (.skp 37 (.pur 38 .fin)))))) (.pur 33 (.pur 34 (.pur 35 (.pur 36 (.pur 37 (.pur 38 .fin))))))))))))))))))) (.pur 21 (.pur 24 (.hld 22 (.hld 25 (.pur 26 (.pur 27 (.hld 28 (.act 23 (.act 29 (.pur 30 (.pur 31 (.pur 32 (.ite 32 (.skp 33 (.skp 34 (.skp 35 (.skp 36 (.skp 37 (.pur 38 .fin)))))) (.pur 33 (.pur 34 (.pur 35 (.pur 36 (.pur 37 (.pur 38 .fin)))))))))))))))))))))))))))))))) (.pur 9 (.pur 12 (.hld 10 (.hld 13 (.pur 14 (.pur 15 (.hld 16 (.pur 17 (.act 11 (.pur 18 (.pur 19 (.pur 20 (.ite 20 (.skp 21 (.skp 22 (.skp 23 (.skp 24 (.skp 25 (.skp 26 (.skp 27 (.skp 28 (.skp 29 (.skp 30 (.pur 31 (.pur 32 (.ite 32 (.skp 33 (.skp 34 (.skp 35 (.skp 36 (.skp 37 (.pur 38 .fin)))))) (.pur 33 (.pur 34 (.pur 35 (.pur 36 (.pur 37 (.pur 38 .fin))))))))))))))))))) (.pur 21 (.pur 24 (.hld 22 (.hld 25 (.pur 26 (.pur 27 (.hld 28 (.act 23 (.act 29 (.pur 30 (.pur 31 (.pur 32 (.ite 32 (.skp 33 (.skp 34 (.skp 35 (.skp 36 (.skp 37 (.pur 38 .fin)))))) (.pur 33 (.pur 34 (.pur 35 (.pur 36 (.pur 37 (.pur 38 .fin)))))))))))))))))))))))))))))))))))))))))))
  (.c (.q (.r [.plain 1]) .s) .s)) (.j [] 18888889470726277431364 (.q (.r [.plain 1]) (.b (.l [6] 18888889470726277431364 (.q (.q (.r [.plain 4]) (.c .s .s)) (.q (.b (.q (.d [0, 0, 3, 7, 0, 0, 48, 112, 255] (.pur 0 (.pur 1 (.pur 2 (.pur 4 (.pur 5 (.pur 6 (.hld 3 (.hld 7 (.pur 8 .fin)))))))))) (.c (.q (.r [.plain 1]) .s) .s))) (.r [.plain 3]))))))
  (.j [] 19323923647902588214444160 (.q (.r [.plain 1]) (.b (.l [7] 19323923647902588214444160 (.q (.q (.r [.plain 4]) (.c .s .s)) (.q (.b (.r [.plain 5])) (.r [.plain 3]))))))
  (.q (.r [.plain 1]) .s)))))))
def s25 (x0 : Value) (K : Value → World → Prop) (w : World) : Prop :=
 BoxS 53 x0 (fun x1 w =>
 PureS (fieldAddrV 0 x1) fun t8 =>
 LoadC t8 (fun t9 w =>
 CallS Try.prog 9 [t9].toArray (fun t10 w =>
 DrawS fun S0 => S0 w.drew ∧ (
 PureS (fieldAddrV 0 x1) fun t11 =>
 PureS (fieldAddrV 1 x1) fun t14 =>
 HeldC S0 t11 (fun t12 =>
 HeldC S0 t14 (fun t15 =>
 PureS (nilV t15) fun t16 =>
 PureS (fieldAddrV 0 t16) fun t17 =>
 HeldC S0 t17 (fun t18 =>
 CallS Try.prog 51 [t12].toArray (fun t13 w =>
 S0 w ∧ (
 CallS Try.prog 52 [t18].toArray (fun t19 w =>
 JoinS (fun (t58 : Value) (w : World) =>
 CondS t58 (
 K (Value.bool false) w
 ) (
 JoinS (fun (w : World) =>
 JoinS (fun (w : World) =>
 K (Value.bool true) w
 ) fun J3 =>
 LoopS 1 (fun L4 (i7 : Value) (w : World) =>
 PureS (lenSliceV t10) fun t76 =>
 PureS (binV .lss i7 t76) fun t77 =>
 CondS t77 (
 RunS Try.prog (Instr.build 31 [(2, (Value.string ⟨#[115, 112, 111, 105, 108, 116]⟩))].toArray) (fun t82 w =>
 PureS (indexAddrV 4 t10 i7) fun t83 =>
 StoreA 4 t83 t82 (fun w =>
 PureS (binV .add i7 (Value.int .i64 1)) fun t79 =>
 L4 t79 w
 ) w
 ) w
 ) (
 J3 w
 )
 ) (Value.int .i64 0) w
 ) fun J2 =>
 LoopS 1 (fun L5 (i6 : Value) (w : World) =>
 PureS (lenSliceV t13) fun t61 =>
 PureS (binV .lss i6 t61) fun t62 =>
 CondS t62 (
 DrawS fun S6 => S6 w.drew ∧ (
 PureS (indexAddrV 1 t13 i6) fun t67 =>
 PureS (indexAddrV 1 t19 i6) fun t71 =>
 HeldC S6 t67 (fun t68 =>
 HeldC S6 t71 (fun t72 =>
 PureS (binV .neq t68 t72) fun t73 =>
 CondS t73 (
 K (Value.bool false) w.drew
 ) (
 PureS (binV .add i6 (Value.int .i64 1)) fun t64 =>
 L5 t64 w.drew
 )
 )
 )
 )
 ) (
 J2 w
 )
 ) (Value.int .i64 0) w
 )
 ) fun J1 =>
 DrawS fun S7 => S7 w.drew ∧ (
 PureS (fieldAddrV 1 x1) fun t21 =>
 HeldC S7 t21 (fun t22 =>
 PureS (nilV t22) fun t23 =>
 PureS (fieldAddrV 0 t23) fun t24 =>
 HeldC S7 t24 (fun t25 =>
 CallS Try.prog 13 [t10, t25].toArray (fun t26 w =>
 S7 w ∧ (
 PureS (notV t26) fun t27 =>
 CondS t27 (
 PureS (pickV (Value.bool true) (Value.bool true) undef) fun t39 =>
 CondS t39 (
 PureS (pickV (Value.bool true) (Value.bool true) undef) fun t51 =>
 CondS t51 (
 PureS (pickV (Value.bool true) (Value.bool true) undef) fun t58_1 =>
 J1 t58_1 w
 ) (
 PureS (lenSliceV t13) fun t54 =>
 PureS (lenSliceV t19) fun t56 =>
 PureS (binV .neq t54 t56) fun t57 =>
 PureS (pickV (Value.bool false) (Value.bool true) t57) fun t58_2 =>
 J1 t58_2 w
 )
 ) (
 PureS (fieldAddrV 0 x1) fun t41 =>
 PureS (fieldAddrV 1 x1) fun t44 =>
 HeldC S7 t41 (fun t42 =>
 HeldC S7 t44 (fun t45 =>
 PureS (nilV t45) fun t46 =>
 PureS (fieldAddrV 0 t46) fun t47 =>
 HeldC S7 t47 (fun t48 =>
 CallS Try.prog 10 [t42].toArray (fun t43 w =>
 S7 w ∧ (
 CallS Try.prog 36 [t48].toArray (fun t49 w =>
 PureS (binV .neq t43 t49) fun t50 =>
 PureS (pickV (Value.bool false) (Value.bool true) t50) fun t51_1 =>
 CondS t51_1 (
 PureS (pickV (Value.bool true) (Value.bool true) undef) fun t58_3 =>
 J1 t58_3 w
 ) (
 PureS (lenSliceV t13) fun t54_1 =>
 PureS (lenSliceV t19) fun t56_1 =>
 PureS (binV .neq t54_1 t56_1) fun t57_1 =>
 PureS (pickV (Value.bool false) (Value.bool true) t57_1) fun t58_4 =>
 J1 t58_4 w
 )
 ) w
 )
 ) w
 )
 )
 )
 )
 ) (
 PureS (fieldAddrV 0 x1) fun t29 =>
 PureS (fieldAddrV 1 x1) fun t32 =>
 HeldC S7 t29 (fun t30 =>
 HeldC S7 t32 (fun t33 =>
 PureS (nilV t33) fun t34 =>
 PureS (fieldAddrV 0 t34) fun t35 =>
 HeldC S7 t35 (fun t36 =>
 PureS (lenSliceV t36) fun t37 =>
 CallS Try.prog 53 [t30].toArray (fun t31 w =>
 S7 w ∧ (
 PureS (binV .neq t31 t37) fun t38 =>
 PureS (pickV (Value.bool false) (Value.bool true) t38) fun t39_1 =>
 CondS t39_1 (
 PureS (pickV (Value.bool true) (Value.bool true) undef) fun t51_2 =>
 CondS t51_2 (
 PureS (pickV (Value.bool true) (Value.bool true) undef) fun t58_5 =>
 J1 t58_5 w
 ) (
 PureS (lenSliceV t13) fun t54_2 =>
 PureS (lenSliceV t19) fun t56_2 =>
 PureS (binV .neq t54_2 t56_2) fun t57_2 =>
 PureS (pickV (Value.bool false) (Value.bool true) t57_2) fun t58_6 =>
 J1 t58_6 w
 )
 ) (
 PureS (fieldAddrV 0 x1) fun t41_1 =>
 PureS (fieldAddrV 1 x1) fun t44_1 =>
 HeldC S7 t41_1 (fun t42_1 =>
 HeldC S7 t44_1 (fun t45_1 =>
 PureS (nilV t45_1) fun t46_1 =>
 PureS (fieldAddrV 0 t46_1) fun t47_1 =>
 HeldC S7 t47_1 (fun t48_1 =>
 CallS Try.prog 10 [t42_1].toArray (fun t43_1 w =>
 S7 w ∧ (
 CallS Try.prog 36 [t48_1].toArray (fun t49_1 w =>
 PureS (binV .neq t43_1 t49_1) fun t50_1 =>
 PureS (pickV (Value.bool false) (Value.bool true) t50_1) fun t51_3 =>
 CondS t51_3 (
 PureS (pickV (Value.bool true) (Value.bool true) undef) fun t58_7 =>
 J1 t58_7 w
 ) (
 PureS (lenSliceV t13) fun t54_3 =>
 PureS (lenSliceV t19) fun t56_3 =>
 PureS (binV .neq t54_3 t56_3) fun t57_3 =>
 PureS (pickV (Value.bool false) (Value.bool true) t57_3) fun t58_8 =>
 J1 t58_8 w
 )
 ) w
 )
 ) w
 )
 )
 )
 )
 )
 ) w
 )
 )
 )
 )
 )
 ) w.drew
 )
 )
 )
 ) w
 )
 ) w.drew
 )
 )
 )
 )
 ) w
 ) w
 ) w
theorem s25_den (x0 : Value) (K : Value → World → Prop) (w : World) : denFn Try.prog false (bodyOf Try.f25) Try.f25.results a25 [x0] K NoP w = s25 x0 K w := by kernel_rfl
theorem s25_dst : dstsOk (1 + 83) (bodyOf Try.f25) = true := by kernel_rfl
theorem s25_ann : annOk (bodyOf Try.f25) a25 = true := by kernel_rfl
theorem s25_call {x0 : Value} {K : Value → World → Prop} {w : World} (hm : Try.prog.follows .mixedOrders = true) (h : s25 x0 K w) : CallS Try.prog 25 #[x0] K w :=
  fn_call (args := [x0]) (m := 83) hm Try.func25 (by kernel_rfl) (rs := Try.f25.results) rfl Try.ntmps25 s25_dst s25_ann (by rw [s25_den]; exact h)

/-! number 26 -/
def a26 : Ann :=
 (.q (.r [.plain 1]) (.q (.r [.plain 6]) (.j [5] 8589869488 (.q (.r [.plain 3]) (.b (.l [5, 18] 8589672880 (.q (.r [.plain 1]) (.q (.c .s .s) (.q (.b (.q (.r [.plain 4]) (.q (.q (.r [.plain 3]) (.q (.r [.plain 2]) (.c (.q (.r [.plain 2]) .s) .s))) (.r [.plain 6])))) (.r [.plain 2])))))))
  (.q (.q (.r [.plain 10, .grp 2 [44] 26388279066624, .plain 1]) (.c (.q (.r [.plain 1]) .s) .s)) (.j [] 18446673704965374976 (.q (.r [.plain 3]) (.b (.l [48] 18446462598732841984 (.q (.r [.plain 1]) (.q (.c .s .s) (.q (.b (.q (.r [.plain 4]) (.d [0, 0, 2, 6, 14, 0, 32, 96, 254, 511, 1023, 2047] (.pur 0 (.pur 1 (.pur 2 (.pur 3 (.hld 4 (.hld 5 (.act 6 (.act 7 (.act 8 (.pur 9 (.pur 10 (.act 11 .fin))))))))))))))) (.r [.plain 2])))))))
  (.q (.r [.plain 5]) (.q (.r [.plain 1]) .s)))))))
def s26 (b0 l1 : Value) (K : Value → World → Prop) (w : World) : Prop :=
 PureS (nilV b0) fun t12 =>
 PureS (fieldAddrV 1 t12) fun t13 =>
 LoadC t13 (fun t14 w =>
 PureS (maxV t14 (Value.int .i64 12)) fun t15 =>
 JoinS (fun (size5 : Value) (w : World) =>
 PureS (nilV b0) fun t34 =>
 PureS (fieldAddrV 0 t34) fun t35 =>
 LoadC t35 (fun t36 w =>
 PureS (lenSliceV t36) fun t37 =>
 PureS (lenSliceV l1) fun t39 =>
 PureS (binV .add t37 t39) fun t40 =>
 PureS (binV .gtr t40 (Value.int .i64 4096)) fun t41 =>
 JoinS (fun (t44 : Value) (w : World) =>
 PureS (pickV t41 (Value.bool true) t44) fun t45 =>
 CondS t45 (
 K (Value.int .i64 2) w
 ) (
 JoinS (fun (w : World) =>
 PureS (nilV b0) fun t66 =>
 PureS (fieldAddrV 1 t66) fun t67 =>
 StoreC t67 size5 (fun w =>
 K (Value.int .i64 0) w
 ) w
 ) fun J2 =>
 PureS (lenSliceV l1) fun t47 =>
 LoopS 1 (fun L3 (t48 : Value) (w : World) =>
 PureS (binV .lss t48 t47) fun t49 =>
 CondS t49 (
 PureS (indexAddrV 4 l1 t48) fun t50 =>
 LoadA 4 t50 (fun t51 w =>
 BoxS 31 (Value.agg #[(Value.int .u32 0), (Value.int .i64 0), (Value.string ⟨#[]⟩), (Value.string ⟨#[]⟩)]) (fun r10 w =>
 StoreA 4 r10 t51 (fun w =>
 DrawS fun S4 => S4 w.drew ∧ (
 PureS (nilV b0) fun t54 =>
 PureS (fieldAddrV 0 t54) fun t55 =>
 HeldC S4 t55 (fun t56 =>
 HeldA 4 S4 r10 (fun t57 =>
 CallS Try.prog 54 [t57].toArray (fun t58 w =>
 S4 w ∧ (
 RunS Try.prog (Instr.buildSlice 22 1 [(0, t58)].toArray) (fun t59 w =>
 S4 w ∧ (
 RunS Try.prog (Builtin.append_ #[22, 22] 22 [t56, t59].toArray) (fun t60 w =>
 PureS (nilV b0) fun t61 =>
 PureS (fieldAddrV 0 t61) fun t62 =>
 StoreC t62 t60 (fun w =>
 PureS (binV .add t48 (Value.int .i64 1)) fun t63 =>
 L3 t63 w
 ) w
 ) w
 )
 ) w
 )
 ) w.drew
 )
 )
 )
 ) w
 ) w
 ) w
 ) (
 J2 w
 )
 ) (Value.int .i64 0) w
 )
 ) fun J1 =>
 IfB t41 false (
 PureS (binV .gtr size5 (Value.int .i64 4194304)) fun t44_1 =>
 J1 t44_1 w
 ) (
 J1 undef w
 )
 ) w
 ) fun J0 =>
 PureS (lenSliceV l1) fun t17 =>
 LoopS 2 (fun L5 (size5_1 t18 : Value) (w : World) =>
 PureS (binV .lss t18 t17) fun t19 =>
 CondS t19 (
 PureS (indexAddrV 4 l1 t18) fun t20 =>
 LoadA 4 t20 (fun t21 w =>
 BoxS 31 (Value.agg #[(Value.int .u32 0), (Value.int .i64 0), (Value.string ⟨#[]⟩), (Value.string ⟨#[]⟩)]) (fun r7 w =>
 StoreA 4 r7 t21 (fun w =>
 LoadA 4 r7 (fun t22 w =>
 CallS Try.prog 19 [t22].toArray (fun t23 w =>
 PureS (binV .neq t23 (Value.int .i64 0)) fun t25 =>
 CondS t25 (
 K t23 w
 ) (
 LoadA 4 r7 (fun t28 w =>
 CallS Try.prog 30 [t28].toArray (fun t29 w =>
 PureS (lenSliceV t29) fun t30 =>
 PureS (binV .add size5_1 t30) fun t31 =>
 PureS (binV .add t18 (Value.int .i64 1)) fun t32 =>
 L5 t31 t32 w
 ) w
 ) w
 )
 ) w
 ) w
 ) w
 ) w
 ) w
 ) (
 J0 size5_1 w
 )
 ) t15 (Value.int .i64 0) w
 ) w
theorem s26_den (b0 l1 : Value) (K : Value → World → Prop) (w : World) : denFn Try.prog false (bodyOf Try.f26) Try.f26.results a26 [b0, l1] K NoP w = s26 b0 l1 K w := by kernel_rfl
theorem s26_dst : dstsOk (2 + 66) (bodyOf Try.f26) = true := by kernel_rfl
theorem s26_ann : annOk (bodyOf Try.f26) a26 = true := by kernel_rfl
theorem s26_call {b0 l1 : Value} {K : Value → World → Prop} {w : World} (hm : Try.prog.follows .mixedOrders = true) (h : s26 b0 l1 K w) : CallS Try.prog 26 #[b0, l1] K w :=
  fn_call (args := [b0, l1]) (m := 66) hm Try.func26 (by kernel_rfl) (rs := Try.f26.results) rfl Try.ntmps26 s26_dst s26_ann (by rw [s26_den]; exact h)

/-! number 27 -/
def a27 : Ann :=
 (.q (.r [.plain 1]) (.q (.q (.r [.plain 2]) (.c (.q (.r [.plain 1]) .s) .s)) (.q (.r [.plain 4]) .s)))
def s27 (s0 : Value) (K : Value → World → Prop) (w : World) : Prop :=
 RunS Try.prog (do eqGuard .eql 22 (Operand.tmp 3) (Operand.const (Value.slice none 0 0)) s0 (Value.slice none 0 0); binOp .eql 22 s0 (Value.slice none 0 0)) (fun t4 w =>
 CondS t4 (
 K (Value.slice none 0 0) w
 ) (
 RunS Try.prog (Instr.buildSlice 22 0 [].toArray) (fun t5 w =>
 RunS Try.prog (Builtin.append_ #[22, 22] 22 [t5, s0].toArray) (fun t7 w =>
 K t7 w
 ) w
 ) w
 )
 ) w
theorem s27_den (s0 : Value) (K : Value → World → Prop) (w : World) : denFn Try.prog false (bodyOf Try.f27) Try.f27.results a27 [s0] K NoP w = s27 s0 K w := by kernel_rfl
theorem s27_dst : dstsOk (1 + 7) (bodyOf Try.f27) = true := by kernel_rfl
theorem s27_ann : annOk (bodyOf Try.f27) a27 = true := by kernel_rfl
theorem s27_call {s0 : Value} {K : Value → World → Prop} {w : World} (hm : Try.prog.follows .mixedOrders = true) (h : s27 s0 K w) : CallS Try.prog 27 #[s0] K w :=
  fn_call (args := [s0]) (m := 7) hm Try.func27 (by kernel_rfl) (rs := Try.f27.results) rfl Try.ntmps27 s27_dst s27_ann (by rw [s27_den]; exact h)

/-! number 28 -/
def a28 : Ann :=
 (.q (.r [.plain 1]) (.q (.r [.plain 2]) (.j [0, 3] 65513 (.b (.l [0, 3] 65513 (.q (.q (.r [.plain 2]) (.c .s .s)) (.b (.q (.r [.plain 8]) (.r [.plain 3]))))))
  (.q (.r [.plain 6]) .s))))
def s28 (n0 : Value) (K : Value → World → Prop) (w : World) : Prop :=
 RunS Try.prog (Instr.buildSlice 40 0 [].toArray) (fun t4 w =>
 JoinS (fun (n0_1 b3 : Value) (w : World) =>
 PureS (convIntV .u8 n0_1) fun t18 =>
 RunS Try.prog (Instr.buildSlice 40 1 [(0, t18)].toArray) (fun t19 w =>
 RunS Try.prog (Builtin.append_ #[40, 40] 40 [b3, t19].toArray) (fun t20 w =>
 K t20 w
 ) w
 ) w
 ) fun J0 =>
 LoopS 2 (fun L1 (n0_2 b3_1 : Value) (w : World) =>
 PureS (binV .geq n0_2 (Value.int .u64 128)) fun t6 =>
 CondS t6 (
 PureS (binV .and n0_2 (Value.int .u64 127)) fun t9 =>
 PureS (convIntV .u8 t9) fun t10 =>
 PureS (binV .or t10 (Value.int .u8 128)) fun t11 =>
 RunS Try.prog (Instr.buildSlice 40 1 [(0, t11)].toArray) (fun t12 w =>
 RunS Try.prog (Builtin.append_ #[40, 40] 40 [b3_1, t12].toArray) (fun t13 w =>
 PureS (binV .shr n0_2 (Value.int .u64 7)) fun t15 =>
 L1 t15 t13 w
 ) w
 ) w
 ) (
 J0 n0_2 b3_1 w
 )
 ) n0 t4 w
 ) w
theorem s28_den (n0 : Value) (K : Value → World → Prop) (w : World) : denFn Try.prog false (bodyOf Try.f28) Try.f28.results a28 [n0] K NoP w = s28 n0 K w := by kernel_rfl
theorem s28_dst : dstsOk (1 + 20) (bodyOf Try.f28) = true := by kernel_rfl
theorem s28_ann : annOk (bodyOf Try.f28) a28 = true := by kernel_rfl
theorem s28_call {n0 : Value} {K : Value → World → Prop} {w : World} (hm : Try.prog.follows .mixedOrders = true) (h : s28 n0 K w) : CallS Try.prog 28 #[n0] K w :=
  fn_call (args := [n0]) (m := 20) hm Try.func28 (by kernel_rfl) (rs := Try.f28.results) rfl Try.ntmps28 s28_dst s28_ann (by rw [s28_den]; exact h)

/-! number 29 -/
def a29 : Ann :=
 (.q (.r [.plain 1]) (.q (.r [.plain 7]) .s))
def s29 (b0 family1 key2 value3 : Value) (K : Value → World → Prop) (w : World) : Prop :=
 RunS Try.prog (Instr.build 31 [(0, family1), (1, (Value.int .i64 1)), (2, key2), (3, value3)].toArray) (fun t13 w =>
 CallS Try.prog 8 [b0, t13].toArray (fun t14 w =>
 K t14 w
 ) w
 ) w
theorem s29_den (b0 family1 key2 value3 : Value) (K : Value → World → Prop) (w : World) : denFn Try.prog false (bodyOf Try.f29) Try.f29.results a29 [b0, family1, key2, value3] K NoP w = s29 b0 family1 key2 value3 K w := by kernel_rfl
theorem s29_dst : dstsOk (4 + 11) (bodyOf Try.f29) = true := by kernel_rfl
theorem s29_ann : annOk (bodyOf Try.f29) a29 = true := by kernel_rfl
theorem s29_call {b0 family1 key2 value3 : Value} {K : Value → World → Prop} {w : World} (hm : Try.prog.follows .mixedOrders = true) (h : s29 b0 family1 key2 value3 K w) : CallS Try.prog 29 #[b0, family1, key2, value3] K w :=
  fn_call (args := [b0, family1, key2, value3]) (m := 11) hm Try.func29 (by kernel_rfl) (rs := Try.f29.results) rfl Try.ntmps29 s29_dst s29_ann (by rw [s29_den]; exact h)

/-! number 30 -/
def a30 : Ann :=
 (.q (.r [.plain 2]) (.j [3] 8184 (.d [0, 1, 3, 7, 0, 16, 48, 112, 255, 511] (.pur 0 (.pur 4 (.hld 1 (.pur 2 (.hld 5 (.pur 6 (.alt 3 (.act 7 (.act 8 (.pur 9 .fin))) (.act 7 (.act 3 (.act 8 (.pur 9 .fin))))))))))))
  (.q (.r [.plain 5]) (.j [3] 16646152 (.q (.r [.plain 3]) (.c (.r [.plain 5]) .s))
  (.q (.r [.plain 2]) .s)))))
def s30 (r0 : Value) (K : Value → World → Prop) (w : World) : Prop :=
 BoxS 31 r0 (fun r1 w =>
 JoinS (fun (b3 : Value) (w : World) =>
 PureS (fieldAddrV 2 r1) fun t14 =>
 LoadC t14 (fun t15 w =>
 CallS Try.prog 56 [b3, t15].toArray (fun t16 w =>
 JoinS (fun (b3_1 : Value) (w : World) =>
 K b3_1 w
 ) fun J1 =>
 PureS (fieldAddrV 1 r1) fun t17 =>
 LoadC t17 (fun t18 w =>
 PureS (binV .neq t18 (Value.int .i64 0)) fun t19 =>
 CondS t19 (
 PureS (fieldAddrV 3 r1) fun t21 =>
 LoadC t21 (fun t22 w =>
 CallS Try.prog 56 [t16, t22].toArray (fun t23 w =>
 J1 t23 w
 ) w
 ) w
 ) (
 J1 t16 w
 )
 ) w
 ) w
 ) w
 ) fun J0 =>
 DrawS fun S2 => S2 w.drew ∧ (
 PureS (fieldAddrV 1 r1) fun t4 =>
 PureS (fieldAddrV 0 r1) fun t8 =>
 HeldC S2 t4 (fun t5 =>
 PureS (convIntV .u8 t5) fun t6 =>
 HeldC S2 t8 (fun t9 =>
 PureS (convIntV .u64 t9) fun t10 =>
 (
 RunS Try.prog (Instr.buildSlice 40 1 [(0, t6)].toArray) (fun t7 w =>
 S2 w ∧ (
 CallS Try.prog 55 [t10].toArray (fun t11 w =>
 S2 w ∧ (
 RunS Try.prog (Builtin.append_ #[40, 40] 40 [t7, t11].toArray) (fun t12 w =>
 J0 t12 w
 ) w
 )
 ) w
 )
 ) w.drew
 ) ∧ (
 CallS Try.prog 55 [t10].toArray (fun t11_1 w =>
 S2 w ∧ (
 RunS Try.prog (Instr.buildSlice 40 1 [(0, t6)].toArray) (fun t7_1 w =>
 S2 w ∧ (
 RunS Try.prog (Builtin.append_ #[40, 40] 40 [t7_1, t11_1].toArray) (fun t12_1 w =>
 J0 t12_1 w
 ) w
 )
 ) w
 )
 ) w.drew
 )
 )
 )
 )
 ) w
theorem s30_den (r0 : Value) (K : Value → World → Prop) (w : World) : denFn Try.prog false (bodyOf Try.f30) Try.f30.results a30 [r0] K NoP w = s30 r0 K w := by kernel_rfl
theorem s30_dst : dstsOk (1 + 24) (bodyOf Try.f30) = true := by kernel_rfl
theorem s30_ann : annOk (bodyOf Try.f30) a30 = true := by kernel_rfl
theorem s30_call {r0 : Value} {K : Value → World → Prop} {w : World} (hm : Try.prog.follows .mixedOrders = true) (h : s30 r0 K w) : CallS Try.prog 30 #[r0] K w :=
  fn_call (args := [r0]) (m := 24) hm Try.func30 (by kernel_rfl) (rs := Try.f30.results) rfl Try.ntmps30 s30_dst s30_ann (by rw [s30_den]; exact h)

/-! number 31 -/
def a31 : Ann :=
 (.q (.r [.plain 1]) (.q (.q (.r [.plain 6]) (.c (.q (.r [.plain 1]) .s) .s)) (.q (.d [0, 0, 2, 6, 14, 0, 32, 96, 224, 480, 992, 2046, 4095, 8191, 16383] (.pur 0 (.pur 1 (.pur 2 (.pur 3 (.pur 5 (.pur 6 (.pur 7 (.hld 4 (.hld 8 (.pur 9 (.pur 10 (.pur 11 (.pur 12 (.pur 13 (.act 14 .fin)))))))))))))))) (.q (.r [.plain 1]) .s))))
def s31 (b0 : Value) (K : Value → World → Prop) (w : World) : Prop :=
 PureS (nilV b0) fun t4 =>
 PureS (fieldAddrV 2 t4) fun t5 =>
 LoadC t5 (fun t6 w =>
 PureS (lenSliceV t6) fun t7 =>
 PureS (binV .eql t7 (Value.int .i64 0)) fun t8 =>
 CondS t8 (
 K (Value.int .i64 6) w
 ) (
 DrawS fun S0 => S0 w.drew ∧ (
 PureS (nilV b0) fun t11 =>
 PureS (fieldAddrV 2 t11) fun t12 =>
 PureS (nilV b0) fun t15 =>
 PureS (fieldAddrV 2 t15) fun t16 =>
 HeldC S0 t12 (fun t13 =>
 HeldC S0 t16 (fun t17 =>
 PureS (lenSliceV t17) fun t18 =>
 PureS (binV .sub t18 (Value.int .i64 1)) fun t19 =>
 PureS (sliceV 1 t13 none (some t19)) fun t20 =>
 PureS (nilV b0) fun t21 =>
 PureS (fieldAddrV 2 t21) fun t22 =>
 StoreC t22 t20 (fun w =>
 K (Value.int .i64 0) w
 ) w.drew
 )
 )
 )
 )
 ) w
theorem s31_den (b0 : Value) (K : Value → World → Prop) (w : World) : denFn Try.prog false (bodyOf Try.f31) Try.f31.results a31 [b0] K NoP w = s31 b0 K w := by kernel_rfl
theorem s31_dst : dstsOk (1 + 22) (bodyOf Try.f31) = true := by kernel_rfl
theorem s31_ann : annOk (bodyOf Try.f31) a31 = true := by kernel_rfl
theorem s31_call {b0 : Value} {K : Value → World → Prop} {w : World} (hm : Try.prog.follows .mixedOrders = true) (h : s31 b0 K w) : CallS Try.prog 31 #[b0] K w :=
  fn_call (args := [b0]) (m := 22) hm Try.func31 (by kernel_rfl) (rs := Try.f31.results) rfl Try.ntmps31 s31_dst s31_ann (by rw [s31_den]; exact h)

/-! number 32 -/
def a32 : Ann :=
 (.q (.r [.plain 1]) (.q (.r [.plain 3, .grp 3 [10] 1792, .grp 6 [16] 129024, .grp 1 [17] 131072, .plain 2]) .s))
def s32 (seq0 n1 : Value) (K : Value → World → Prop) (w : World) : Prop :=
 PureS (binV .leq seq0 (Value.int .u64 72057594037927935)) fun t6 =>
 JoinS (fun (t10 : Value) (w : World) =>
 JoinS (fun (t16 : Value) (w : World) =>
 JoinS (fun (t17 : Value) (w : World) =>
 PureS (pickV t6 t17 (Value.bool false)) fun t18 =>
 K t18 w
 ) fun J2 =>
 IfB t6 true (
 PureS (pickV t10 (Value.bool true) t16) fun t17_1 =>
 J2 t17_1 w
 ) (
 J2 undef w
 )
 ) fun J1 =>
 IfB t10 false (
 PureS (binV .sub n1 (Value.int .i64 1)) fun t12 =>
 PureS (convIntV .u64 t12) fun t13 =>
 PureS (binV .sub (Value.int .u64 72057594037927935) seq0) fun t15 =>
 PureS (binV .leq t13 t15) fun t16_1 =>
 J1 t16_1 w
 ) (
 J1 undef w
 )
 ) fun J0 =>
 IfB t6 true (
 PureS (binV .eql n1 (Value.int .i64 0)) fun t9 =>
 J0 t9 w
 ) (
 J0 undef w
 )
theorem s32_den (seq0 n1 : Value) (K : Value → World → Prop) (w : World) : denFn Try.prog false (bodyOf Try.f32) Try.f32.results a32 [seq0, n1] K NoP w = s32 seq0 n1 K w := by kernel_rfl
theorem s32_dst : dstsOk (2 + 17) (bodyOf Try.f32) = true := by kernel_rfl
theorem s32_ann : annOk (bodyOf Try.f32) a32 = true := by kernel_rfl
theorem s32_call {seq0 n1 : Value} {K : Value → World → Prop} {w : World} (hm : Try.prog.follows .mixedOrders = true) (h : s32 seq0 n1 K w) : CallS Try.prog 32 #[seq0, n1] K w :=
  fn_call (args := [seq0, n1]) (m := 17) hm Try.func32 (by kernel_rfl) (rs := Try.f32.results) rfl Try.ntmps32 s32_dst s32_ann (by rw [s32_den]; exact h)

/-! number 33 -/
def a33 : Ann :=
 (.q (.r [.plain 1]) (.q (.r [.plain 3]) .s))
def s33 (n0 : Value) (K : Value → World → Prop) (w : World) : Prop :=
 CallS Try.prog 57 [n0, (Value.int .i64 8)].toArray (fun t4 w =>
 K t4 w
 ) w
theorem s33_den (n0 : Value) (K : Value → World → Prop) (w : World) : denFn Try.prog false (bodyOf Try.f33) Try.f33.results a33 [n0] K NoP w = s33 n0 K w := by kernel_rfl
theorem s33_dst : dstsOk (1 + 4) (bodyOf Try.f33) = true := by kernel_rfl
theorem s33_ann : annOk (bodyOf Try.f33) a33 = true := by kernel_rfl
theorem s33_call {n0 : Value} {K : Value → World → Prop} {w : World} (hm : Try.prog.follows .mixedOrders = true) (h : s33 n0 K w) : CallS Try.prog 33 #[n0] K w :=
  fn_call (args := [n0]) (m := 4) hm Try.func33 (by kernel_rfl) (rs := Try.f33.results) rfl Try.ntmps33 s33_dst s33_ann (by rw [s33_den]; exact h)

/-! number 34 -/
def a34 : Ann :=
 (.q (.r [.plain 1]) (.q (.r [.plain 4]) .s))
def s34 (n0 : Value) (K : Value → World → Prop) (w : World) : Prop :=
 PureS (convIntV .u64 n0) fun t4 =>
 CallS Try.prog 57 [t4, (Value.int .i64 4)].toArray (fun t5 w =>
 K t5 w
 ) w
theorem s34_den (n0 : Value) (K : Value → World → Prop) (w : World) : denFn Try.prog false (bodyOf Try.f34) Try.f34.results a34 [n0] K NoP w = s34 n0 K w := by kernel_rfl
theorem s34_dst : dstsOk (1 + 5) (bodyOf Try.f34) = true := by kernel_rfl
theorem s34_ann : annOk (bodyOf Try.f34) a34 = true := by kernel_rfl
theorem s34_call {n0 : Value} {K : Value → World → Prop} {w : World} (hm : Try.prog.follows .mixedOrders = true) (h : s34 n0 K w) : CallS Try.prog 34 #[n0] K w :=
  fn_call (args := [n0]) (m := 5) hm Try.func34 (by kernel_rfl) (rs := Try.f34.results) rfl Try.ntmps34 s34_dst s34_ann (by rw [s34_den]; exact h)

/-! number 35 -/
def a35 : Ann :=
 (.q (.r [.plain 1]) (.q (.r [.plain 3, .grp 3 [10] 1792, .grp 6 [16] 129024, .grp 1 [17] 131072, .plain 2]) .s))
def s35 (seq0 n1 : Value) (K : Value → World → Prop) (w : World) : Prop :=
 PureS (binV .leq seq0 (Value.int .u64 72057594037927935)) fun t6 =>
 JoinS (fun (t10 : Value) (w : World) =>
 JoinS (fun (t16 : Value) (w : World) =>
 JoinS (fun (t17 : Value) (w : World) =>
 PureS (pickV t6 t17 (Value.bool false)) fun t18 =>
 K t18 w
 ) fun J2 =>
 IfB t6 true (
 PureS (pickV t10 (Value.bool true) t16) fun t17_1 =>
 J2 t17_1 w
 ) (
 J2 undef w
 )
 ) fun J1 =>
 IfB t10 false (
 PureS (binV .sub n1 (Value.int .i64 1)) fun t12 =>
 PureS (convIntV .u64 t12) fun t13 =>
 PureS (binV .sub (Value.int .u64 72057594037927935) seq0) fun t15 =>
 PureS (binV .leq t13 t15) fun t16_1 =>
 J1 t16_1 w
 ) (
 J1 undef w
 )
 ) fun J0 =>
 IfB t6 true (
 PureS (binV .eql n1 (Value.int .i64 0)) fun t9 =>
 J0 t9 w
 ) (
 J0 undef w
 )
theorem s35_den (seq0 n1 : Value) (K : Value → World → Prop) (w : World) : denFn Try.prog false (bodyOf Try.f35) Try.f35.results a35 [seq0, n1] K NoP w = s35 seq0 n1 K w := by kernel_rfl
theorem s35_dst : dstsOk (2 + 17) (bodyOf Try.f35) = true := by kernel_rfl
theorem s35_ann : annOk (bodyOf Try.f35) a35 = true := by kernel_rfl
theorem s35_call {seq0 n1 : Value} {K : Value → World → Prop} {w : World} (hm : Try.prog.follows .mixedOrders = true) (h : s35 seq0 n1 K w) : CallS Try.prog 35 #[seq0, n1] K w :=
  fn_call (args := [seq0, n1]) (m := 17) hm Try.func35 (by kernel_rfl) (rs := Try.f35.results) rfl Try.ntmps35 s35_dst s35_ann (by rw [s35_den]; exact h)

/-! number 36 -/
def a36 : Ann :=
 (.q (.r [.plain 1]) (.q (.r [.plain 1]) (.j [3] 262136 (.q (.r [.plain 1]) (.b (.l [3, 4] 262136 (.q (.q (.r [.plain 4]) (.c .s .s)) (.q (.b (.r [.plain 8])) (.r [.plain 3]))))))
  (.q (.r [.plain 2]) .s))))
def s36 (l0 : Value) (K : Value → World → Prop) (w : World) : Prop :=
 JoinS (fun (n3 : Value) (w : World) =>
 K n3 w
 ) fun J0 =>
 LoopS 2 (fun L1 (n3_1 i4 : Value) (w : World) =>
 PureS (lenSliceV l0) fun t7 =>
 PureS (binV .lss i4 t7) fun t8 =>
 CondS t8 (
 PureS (indexAddrV 4 l0 i4) fun t14 =>
 LoadA 4 t14 (fun t15 w =>
 CallS Try.prog 11 [t15].toArray (fun t16 w =>
 PureS (binV .add n3_1 t16) fun t17 =>
 PureS (binV .add i4 (Value.int .i64 1)) fun t10 =>
 L1 t17 t10 w
 ) w
 ) w
 ) (
 J0 n3_1 w
 )
 ) (Value.int .i64 12) (Value.int .i64 0) w
theorem s36_den (l0 : Value) (K : Value → World → Prop) (w : World) : denFn Try.prog false (bodyOf Try.f36) Try.f36.results a36 [l0] K NoP w = s36 l0 K w := by kernel_rfl
theorem s36_dst : dstsOk (1 + 18) (bodyOf Try.f36) = true := by kernel_rfl
theorem s36_ann : annOk (bodyOf Try.f36) a36 = true := by kernel_rfl
theorem s36_call {l0 : Value} {K : Value → World → Prop} {w : World} (hm : Try.prog.follows .mixedOrders = true) (h : s36 l0 K w) : CallS Try.prog 36 #[l0] K w :=
  fn_call (args := [l0]) (m := 18) hm Try.func36 (by kernel_rfl) (rs := Try.f36.results) rfl Try.ntmps36 s36_dst s36_ann (by rw [s36_den]; exact h)

/-! number 37 -/
def a37 : Ann :=
 (.q (.r [.plain 1]) (.q (.r [.plain 2]) (.j [5] 4194144 (.q (.r [.plain 1]) (.b (.l [5, 6] 4194144 (.q (.q (.r [.plain 3]) (.c .s .s)) (.q (.b (.r [.plain 10])) (.r [.plain 3]))))))
  (.q (.r [.plain 2]) .s))))
def s37 (n0 many1 : Value) (K : Value → World → Prop) (w : World) : Prop :=
 RunS Try.prog (Instr.buildSlice 40 0 [].toArray) (fun t7 w =>
 JoinS (fun (b5 : Value) (w : World) =>
 K b5 w
 ) fun J0 =>
 LoopS 2 (fun L1 (b5_1 i6 : Value) (w : World) =>
 PureS (binV .lss i6 many1) fun t10 =>
 CondS t10 (
 PureS (binV .mul (Value.int .i64 8) i6) fun t16 =>
 PureS (convIntV .u64 t16) fun t17 =>
 PureS (binV .shr n0 t17) fun t18 =>
 PureS (convIntV .u8 t18) fun t19 =>
 RunS Try.prog (Instr.buildSlice 40 1 [(0, t19)].toArray) (fun t20 w =>
 RunS Try.prog (Builtin.append_ #[40, 40] 40 [b5_1, t20].toArray) (fun t21 w =>
 PureS (binV .add i6 (Value.int .i64 1)) fun t12 =>
 L1 t21 t12 w
 ) w
 ) w
 ) (
 J0 b5_1 w
 )
 ) t7 (Value.int .i64 0) w
 ) w
theorem s37_den (n0 many1 : Value) (K : Value → World → Prop) (w : World) : denFn Try.prog false (bodyOf Try.f37) Try.f37.results a37 [n0, many1] K NoP w = s37 n0 many1 K w := by kernel_rfl
theorem s37_dst : dstsOk (2 + 21) (bodyOf Try.f37) = true := by kernel_rfl
theorem s37_ann : annOk (bodyOf Try.f37) a37 = true := by kernel_rfl
theorem s37_call {n0 many1 : Value} {K : Value → World → Prop} {w : World} (hm : Try.prog.follows .mixedOrders = true) (h : s37 n0 many1 K w) : CallS Try.prog 37 #[n0, many1] K w :=
  fn_call (args := [n0, many1]) (m := 21) hm Try.func37 (by kernel_rfl) (rs := Try.f37.results) rfl Try.ntmps37 s37_dst s37_ann (by rw [s37_den]; exact h)

/-! number 38 -/
def a38 : Ann :=
 (.q (.r [.plain 1]) (.q (.q (.r [.plain 1]) (.b (.q (.r [.plain 2]) (.c (.q (.r [.plain 1]) .s) (.q (.r [.plain 2]) (.c (.q (.r [.plain 1]) .s) .s)))))) (.q (.r [.plain 1]) .s)))
def s38 (kind0 : Value) (K : Value → World → Prop) (w : World) : Prop :=
 PureS (binV .eql kind0 (Value.int .i64 1)) fun t5 =>
 CondS t5 (
 K (Value.int .i64 16384) w
 ) (
 PureS (binV .eql kind0 (Value.int .i64 2)) fun t7 =>
 CondS t7 (
 K (Value.int .i64 1024) w
 ) (
 K (Value.int .i64 9223372036854775807) w
 )
 )
theorem s38_den (kind0 : Value) (K : Value → World → Prop) (w : World) : denFn Try.prog false (bodyOf Try.f38) Try.f38.results a38 [kind0] K NoP w = s38 kind0 K w := by kernel_rfl
theorem s38_dst : dstsOk (1 + 7) (bodyOf Try.f38) = true := by kernel_rfl
theorem s38_ann : annOk (bodyOf Try.f38) a38 = true := by kernel_rfl
theorem s38_call {kind0 : Value} {K : Value → World → Prop} {w : World} (hm : Try.prog.follows .mixedOrders = true) (h : s38 kind0 K w) : CallS Try.prog 38 #[kind0] K w :=
  fn_call (args := [kind0]) (m := 7) hm Try.func38 (by kernel_rfl) (rs := Try.f38.results) rfl Try.ntmps38 s38_dst s38_ann (by rw [s38_den]; exact h)

/-! number 40 -/
def a40 : Ann :=
 (.q (.r [.plain 2]) (.q (.r [.plain 6]) .s))
def s40 (b0 : Value) (K : Value → World → Prop) (w : World) : Prop :=
 CallS Try.prog 58 [b0, (Value.int .i64 8)].toArray (fun t5 w =>
 PureS (extractV 0 t5) fun t6 =>
 PureS (extractV 1 t5) fun t7 =>
 K (Value.tuple [t6, t7].toArray) w
 ) w
theorem s40_den (b0 : Value) (K : Value → World → Prop) (w : World) : denFn Try.prog false (bodyOf Try.f40) Try.f40.results a40 [b0] K NoP w = s40 b0 K w := by kernel_rfl
theorem s40_dst : dstsOk (1 + 7) (bodyOf Try.f40) = true := by kernel_rfl
theorem s40_ann : annOk (bodyOf Try.f40) a40 = true := by kernel_rfl
theorem s40_call {b0 : Value} {K : Value → World → Prop} {w : World} (hm : Try.prog.follows .mixedOrders = true) (h : s40 b0 K w) : CallS Try.prog 40 #[b0] K w :=
  fn_call (args := [b0]) (m := 7) hm Try.func40 (by kernel_rfl) (rs := Try.f40.results) rfl Try.ntmps40 s40_dst s40_ann (by rw [s40_den]; exact h)

/-! number 41 -/
def a41 : Ann :=
 (.q (.r [.plain 2]) (.q (.r [.plain 7]) (.q (.r [.plain 5]) .s)))
def s41 (b0 : Value) (K : Value → World → Prop) (w : World) : Prop :=
 CallS Try.prog 58 [b0, (Value.int .i64 4)].toArray (fun t8 w =>
 PureS (extractV 0 t8) fun t9 =>
 PureS (extractV 1 t8) fun t10 =>
 PureS (convIntV .u32 t9) fun t12 =>
 K (Value.tuple [t12, t10].toArray) w
 ) w
theorem s41_den (b0 : Value) (K : Value → World → Prop) (w : World) : denFn Try.prog false (bodyOf Try.f41) Try.f41.results a41 [b0] K NoP w = s41 b0 K w := by kernel_rfl
theorem s41_dst : dstsOk (1 + 13) (bodyOf Try.f41) = true := by kernel_rfl
theorem s41_ann : annOk (bodyOf Try.f41) a41 = true := by kernel_rfl
theorem s41_call {b0 : Value} {K : Value → World → Prop} {w : World} (hm : Try.prog.follows .mixedOrders = true) (h : s41 b0 K w) : CallS Try.prog 41 #[b0] K w :=
  fn_call (args := [b0]) (m := 13) hm Try.func41 (by kernel_rfl) (rs := Try.f41.results) rfl Try.ntmps41 s41_dst s41_ann (by rw [s41_den]; exact h)

/-! number 42 -/
def a42 : Ann :=
 (.q (.r [.plain 1]) (.q (.r [.plain 6]) (.j [] 3840 (.q (.r [.plain 3]) (.c (.r [.plain 2]) .s))
  (.q (.r [.plain 5]) (.q (.r [.plain 4]) (.j [] 2146959360 (.q (.r [.plain 2]) (.b (.q (.r [.plain 2]) (.c (.r [.plain 4]) (.q (.r [.plain 2]) (.c (.r [.plain 4]) .s))))))
  (.q (.r [.plain 2]) .s)))))))
def s42 (r0 : Value) (Kp : List PanicEntry → World → Prop) (K : Value → World → Prop) (w : World) : Prop :=
 BoxS 31 (Value.agg #[(Value.int .u32 0), (Value.int .i64 0), (Value.string ⟨#[]⟩), (Value.string ⟨#[]⟩)]) (fun t2 w =>
 CallP' Try.prog 59 [r0].toArray Kp (fun t5 w =>
 PureS (convIntV .i64 t5) fun t6 =>
 RunS Try.prog (Instr.build 31 [(1, t6)].toArray) (fun t7 w =>
 BoxS 31 (Value.agg #[(Value.int .u32 0), (Value.int .i64 0), (Value.string ⟨#[]⟩), (Value.string ⟨#[]⟩)]) (fun x3 w =>
 StoreA 4 x3 t7 (fun w =>
 JoinS (fun (w : World) =>
 CallP' Try.prog 60 [r0, (Value.int .u64 4294967295)].toArray Kp (fun t13 w =>
 PureS (convIntV .u32 t13) fun t14 =>
 PureS (fieldAddrV 0 x3) fun t15 =>
 StoreC t15 t14 (fun w =>
 CallP' Try.prog 61 [r0, (Value.int .u64 1024)].toArray Kp (fun t17 w =>
 PureS (fieldAddrV 2 x3) fun t18 =>
 StoreC t18 t17 (fun w =>
 JoinS (fun (w : World) =>
 LoadA 4 x3 (fun t31 w =>
 StoreA 4 t2 t31 (fun w =>
 LoadA 4 t2 (fun t2_1 _ =>
 K t2_1 w
 ) w
 ) w
 ) w
 ) fun J1 =>
 PureS (fieldAddrV 1 x3) fun t19 =>
 LoadC t19 (fun t20 w =>
 PureS (binV .eql t20 (Value.int .i64 1)) fun t22 =>
 CondS t22 (
 CallP' Try.prog 61 [r0, (Value.int .u64 16384)].toArray Kp (fun t24 w =>
 PureS (fieldAddrV 3 x3) fun t25 =>
 StoreC t25 t24 (fun w =>
 J1 w
 ) w
 ) w
 ) (
 PureS (binV .eql t20 (Value.int .i64 2)) fun t27 =>
 CondS t27 (
 CallP' Try.prog 61 [r0, (Value.int .u64 1024)].toArray Kp (fun t29 w =>
 PureS (fieldAddrV 3 x3) fun t30 =>
 StoreC t30 t29 (fun w =>
 J1 w
 ) w
 ) w
 ) (
 J1 w
 )
 )
 ) w
 ) w
 ) w
 ) w
 ) w
 ) fun J0 =>
 PureS (fieldAddrV 1 x3) fun t8 =>
 LoadC t8 (fun t9 w =>
 PureS (binV .gtr t9 (Value.int .i64 2)) fun t10 =>
 CondS t10 (
 PanicS Try.prog (Value.iface 27 (Value.int .i64 3)) Kp w
 ) (
 J0 w
 )
 ) w
 ) w
 ) w
 ) w
 ) w
 ) w
theorem s42_den (r0 : Value) (Kp : List PanicEntry → World → Prop) (K : Value → World → Prop) (w : World) : denFn Try.prog true (bodyOf Try.f42) Try.f42.results a42 [r0] K Kp w = s42 r0 Kp K w := by kernel_rfl
theorem s42_dst : dstsOk (1 + 31) (bodyOf Try.f42) = true := by kernel_rfl
theorem s42_ann : annOk (bodyOf Try.f42) a42 = true := by kernel_rfl
theorem s42_call {r0 : Value} {Kp : List PanicEntry → World → Prop} {K : Value → World → Prop} {w : World} (hm : Try.prog.follows .mixedOrders = true) (h : s42 r0 Kp K w) : CallP Try.prog 42 #[r0] K Kp w :=
  fn_callP (args := [r0]) (m := 31) hm Try.func42 (by kernel_rfl) (rs := Try.f42.results) rfl Try.ntmps42 s42_dst s42_ann (by rw [s42_den]; exact h)

/-! number 43 -/
def a43 : Ann :=
 (.q (.r [.plain 2]) (.j [] 120 (.q (.r [.plain 3]) (.c (.r [.plain 2]) .s))
  (.q (.r [.plain 2]) .s)))
def s43 (r0 : Value) (K : Value → World → Prop) (w : World) : Prop :=
 BoxS 31 r0 (fun r1 w =>
 BoxS 31 (Value.agg #[(Value.int .u32 0), (Value.int .i64 0), (Value.string ⟨#[]⟩), (Value.string ⟨#[]⟩)]) (fun t2 w =>
 JoinS (fun (w : World) =>
 LoadA 4 r1 (fun t7 w =>
 StoreA 4 t2 t7 (fun w =>
 LoadA 4 t2 (fun t2_1 _ =>
 K t2_1 w
 ) w
 ) w
 ) w
 ) fun J0 =>
 PureS (fieldAddrV 1 r1) fun t3 =>
 LoadC t3 (fun t4 w =>
 PureS (binV .eql t4 (Value.int .i64 0)) fun t5 =>
 CondS t5 (
 PureS (fieldAddrV 3 r1) fun t6 =>
 StoreC t6 (Value.string ⟨#[]⟩) (fun w =>
 J0 w
 ) w
 ) (
 J0 w
 )
 ) w
 ) w
 ) w
theorem s43_den (r0 : Value) (K : Value → World → Prop) (w : World) : denFn Try.prog false (bodyOf Try.f43) Try.f43.results a43 [r0] K NoP w = s43 r0 K w := by kernel_rfl
theorem s43_dst : dstsOk (1 + 7) (bodyOf Try.f43) = true := by kernel_rfl
theorem s43_ann : annOk (bodyOf Try.f43) a43 = true := by kernel_rfl
theorem s43_call {r0 : Value} {K : Value → World → Prop} {w : World} (hm : Try.prog.follows .mixedOrders = true) (h : s43 r0 K w) : CallS Try.prog 43 #[r0] K w :=
  fn_call (args := [r0]) (m := 7) hm Try.func43 (by kernel_rfl) (rs := Try.f43.results) rfl Try.ntmps43 s43_dst s43_ann (by rw [s43_den]; exact h)

/-! number 44 -/
def a44 : Ann :=
 (.q (.r [.plain 2]) (.q (.q (.r [.plain 4]) (.c (.q (.r [.plain 2]) .s) .s)) (.q (.r [.plain 1]) (.j [6] 67104960 (.q (.r [.plain 3]) (.b (.l [6, 7] 67092672 (.q (.q (.r [.plain 2]) (.c .s .s)) (.q (.b (.r [.plain 9])) (.r [.plain 3]))))))
  (.q (.r [.plain 3]) .s)))))
def s44 (b0 many1 : Value) (K : Value → World → Prop) (w : World) : Prop :=
 PureS (lenSliceV b0) fun t9 =>
 PureS (binV .lss t9 many1) fun t11 =>
 CondS t11 (
 K (Value.tuple [(Value.int .u64 0), (Value.int .i64 4)].toArray) w
 ) (
 JoinS (fun (n6 : Value) (w : World) =>
 K (Value.tuple [n6, (Value.int .i64 0)].toArray) w
 ) fun J0 =>
 PureS (binV .sub many1 (Value.int .i64 1)) fun t13 =>
 LoopS 2 (fun L1 (n6_1 i7 : Value) (w : World) =>
 PureS (binV .geq i7 (Value.int .i64 0)) fun t15 =>
 CondS t15 (
 PureS (binV .shl n6_1 (Value.int .u64 8)) fun t19 =>
 PureS (indexAddrV 1 b0 i7) fun t22 =>
 LoadC t22 (fun t23 w =>
 PureS (convIntV .u64 t23) fun t24 =>
 PureS (binV .or t19 t24) fun t25 =>
 PureS (binV .sub i7 (Value.int .i64 1)) fun t17 =>
 L1 t25 t17 w
 ) w
 ) (
 J0 n6_1 w
 )
 ) (Value.int .u64 0) t13 w
 )
theorem s44_den (b0 many1 : Value) (K : Value → World → Prop) (w : World) : denFn Try.prog false (bodyOf Try.f44) Try.f44.results a44 [b0, many1] K NoP w = s44 b0 many1 K w := by kernel_rfl
theorem s44_dst : dstsOk (2 + 25) (bodyOf Try.f44) = true := by kernel_rfl
theorem s44_ann : annOk (bodyOf Try.f44) a44 = true := by kernel_rfl
theorem s44_call {b0 many1 : Value} {K : Value → World → Prop} {w : World} (hm : Try.prog.follows .mixedOrders = true) (h : s44 b0 many1 K w) : CallS Try.prog 44 #[b0, many1] K w :=
  fn_call (args := [b0, many1]) (m := 25) hm Try.func44 (by kernel_rfl) (rs := Try.f44.results) rfl Try.ntmps44 s44_dst s44_ann (by rw [s44_den]; exact h)

/-! number 45 -/
def a45 : Ann :=
 (.q (.r [.plain 1]) (.q (.q (.r [.plain 6]) (.c (.q (.r [.plain 4]) (.q (.r [.plain 2]) .s)) .s)) (.q (.r [.plain 10]) (.q (.r [.plain 9]) (.q (.q (.r [.plain 3]) (.c (.q (.r [.plain 4]) (.q (.r [.plain 2]) .s)) .s)) (.q (.r [.plain 3]) (.j [] 4502500115742720 (.q (.r [.plain 6, .grp 2 [47] 211106232532992, .plain 1]) (.c (.r [.plain 4]) .s))
  (.q (.r [.plain 4]) (.q (.r [.plain 4]) (.j [] 147285722213524701184 (.q (.r [.plain 3]) (.c (.r [.plain 7]) .s))
  (.q (.r [.plain 2]) .s)))))))))))
def s45 (r0 : Value) (K : Value → World → Prop) (w : World) : Prop :=
 BoxS 31 (Value.agg #[(Value.int .u32 0), (Value.int .i64 0), (Value.string ⟨#[]⟩), (Value.string ⟨#[]⟩)]) (fun t2 w =>
 PureS (nilV r0) fun t6 =>
 PureS (fieldAddrV 0 t6) fun t7 =>
 LoadC t7 (fun t8 w =>
 PureS (lenSliceV t8) fun t9 =>
 PureS (binV .eql t9 (Value.int .i64 0)) fun t10 =>
 CondS t10 (
 PureS (nilV r0) fun t12 =>
 PureS (fieldAddrV 1 t12) fun t13 =>
 StoreC t13 (Value.int .i64 4) (fun w =>
 RunS Try.prog (Instr.build 31 [].toArray) (fun t14 w =>
 StoreA 4 t2 t14 (fun w =>
 LoadA 4 t2 (fun t2_1 _ =>
 K t2_1 w
 ) w
 ) w
 ) w
 ) w
 ) (
 PureS (nilV r0) fun t16 =>
 PureS (fieldAddrV 0 t16) fun t17 =>
 LoadC t17 (fun t18 w =>
 PureS (indexAddrV 1 t18 (Value.int .i64 0)) fun t19 =>
 LoadC t19 (fun t20 w =>
 PureS (convIntV .i64 t20) fun t21 =>
 RunS Try.prog (Instr.build 31 [(1, t21)].toArray) (fun t22 w =>
 BoxS 31 (Value.agg #[(Value.int .u32 0), (Value.int .i64 0), (Value.string ⟨#[]⟩), (Value.string ⟨#[]⟩)]) (fun x3 w =>
 StoreA 4 x3 t22 (fun w =>
 PureS (nilV r0) fun t25 =>
 PureS (fieldAddrV 0 t25) fun t26 =>
 LoadC t26 (fun t27 w =>
 PureS (sliceV 1 t27 (some (Value.int .i64 1)) none) fun t28 =>
 PureS (nilV r0) fun t29 =>
 PureS (fieldAddrV 0 t29) fun t30 =>
 StoreC t30 t28 (fun w =>
 PureS (fieldAddrV 1 x3) fun t31 =>
 LoadC t31 (fun t32 w =>
 PureS (binV .gtr t32 (Value.int .i64 2)) fun t33 =>
 CondS t33 (
 PureS (nilV r0) fun t35 =>
 PureS (fieldAddrV 1 t35) fun t36 =>
 StoreC t36 (Value.int .i64 3) (fun w =>
 LoadA 4 x3 (fun t37 w =>
 StoreA 4 t2 t37 (fun w =>
 LoadA 4 t2 (fun t2_2 _ =>
 K t2_2 w
 ) w
 ) w
 ) w
 ) w
 ) (
 CallS Try.prog 62 [r0].toArray (fun t39 w =>
 JoinS (fun (w : World) =>
 PureS (convIntV .u32 t39) fun t53 =>
 PureS (fieldAddrV 0 x3) fun t54 =>
 StoreC t54 t53 (fun w =>
 CallS Try.prog 63 [r0, (Value.int .i64 1024)].toArray (fun t56 w =>
 PureS (fieldAddrV 2 x3) fun t57 =>
 StoreC t57 t56 (fun w =>
 JoinS (fun (w : World) =>
 LoadA 4 x3 (fun t67 w =>
 StoreA 4 t2 t67 (fun w =>
 LoadA 4 t2 (fun t2_3 _ =>
 K t2_3 w
 ) w
 ) w
 ) w
 ) fun J1 =>
 PureS (fieldAddrV 1 x3) fun t58 =>
 LoadC t58 (fun t59 w =>
 PureS (binV .neq t59 (Value.int .i64 0)) fun t60 =>
 CondS t60 (
 PureS (fieldAddrV 1 x3) fun t62 =>
 LoadC t62 (fun t63 w =>
 CallS Try.prog 38 [t63].toArray (fun t64 w =>
 CallS Try.prog 63 [r0, t64].toArray (fun t65 w =>
 PureS (fieldAddrV 3 x3) fun t66 =>
 StoreC t66 t65 (fun w =>
 J1 w
 ) w
 ) w
 ) w
 ) w
 ) (
 J1 w
 )
 ) w
 ) w
 ) w
 ) w
 ) fun J0 =>
 PureS (nilV r0) fun t41 =>
 PureS (fieldAddrV 1 t41) fun t42 =>
 LoadC t42 (fun t43 w =>
 PureS (binV .eql t43 (Value.int .i64 0)) fun t44 =>
 JoinS (fun (t47 : Value) (w : World) =>
 PureS (pickV t44 t47 (Value.bool false)) fun t48 =>
 CondS t48 (
 PureS (nilV r0) fun t50 =>
 PureS (fieldAddrV 1 t50) fun t51 =>
 StoreC t51 (Value.int .i64 3) (fun w =>
 J0 w
 ) w
 ) (
 J0 w
 )
 ) fun J2 =>
 IfB t44 true (
 PureS (binV .geq t39 (Value.int .u64 4294967296)) fun t47_1 =>
 J2 t47_1 w
 ) (
 J2 undef w
 )
 ) w
 ) w
 )
 ) w
 ) w
 ) w
 ) w
 ) w
 ) w
 ) w
 ) w
 )
 ) w
 ) w
theorem s45_den (r0 : Value) (K : Value → World → Prop) (w : World) : denFn Try.prog false (bodyOf Try.f45) Try.f45.results a45 [r0] K NoP w = s45 r0 K w := by kernel_rfl
theorem s45_dst : dstsOk (1 + 67) (bodyOf Try.f45) = true := by kernel_rfl
theorem s45_ann : annOk (bodyOf Try.f45) a45 = true := by kernel_rfl
theorem s45_call {r0 : Value} {K : Value → World → Prop} {w : World} (hm : Try.prog.follows .mixedOrders = true) (h : s45 r0 K w) : CallS Try.prog 45 #[r0] K w :=
  fn_call (args := [r0]) (m := 67) hm Try.func45 (by kernel_rfl) (rs := Try.f45.results) rfl Try.ntmps45 s45_dst s45_ann (by rw [s45_den]; exact h)

/-! number 46 -/
def a46 : Ann :=
 (.q (.r [.plain 3]) (.q (.r [.plain 8]) (.j [5] 302231454903657293668384 (.b (.q (.r [.plain 3, .grp 4 [25] 62914560, .plain 2]) (.c (.r [.plain 13]) (.q (.r [.plain 3, .grp 4 [46] 131941395333120, .plain 2]) (.c (.r [.plain 10]) (.q (.r [.plain 3, .grp 4 [64] 34587645138205409280, .plain 2]) (.c (.r [.plain 13]) (.r [.plain 6]))))))))
  (.q (.r [.plain 4]) .s))))
def s46 (x0 a1 : Value) (K : Value → World → Prop) (w : World) : Prop :=
 BoxS 53 x0 (fun x2 w =>
 BoxS 56 a1 (fun a3 w =>
 PureS (fieldAddrV 1 x2) fun t7 =>
 LoadC t7 (fun t8 w =>
 PureS (fieldAddrV 2 a3) fun t9 =>
 LoadA 4 t9 (fun t10 w =>
 RunS Try.prog (Instr.buildSlice 22 1 [(0, t10)].toArray) (fun t11 w =>
 CallS Try.prog 47 [t8, t11].toArray (fun t12 w =>
 JoinS (fun (e5 : Value) (w : World) =>
 PureS (binV .eql e5 t12) fun t80 =>
 K t80 w
 ) fun J0 =>
 PureS (fieldAddrV 1 a3) fun t19 =>
 LoadC t19 (fun t20 w =>
 JoinS (fun (t25 : Value) (w : World) =>
 PureS (pickV t20 t25 (Value.bool false)) fun t26 =>
 CondS t26 (
 PureS (fieldAddrV 0 x2) fun t27 =>
 LoadC t27 (fun t28 w =>
 PureS (fieldAddrV 2 a3) fun t29 =>
 PureS (fieldAddrV 0 t29) fun t30 =>
 LoadC t30 (fun t31 w =>
 PureS (fieldAddrV 2 a3) fun t32 =>
 PureS (fieldAddrV 2 t32) fun t33 =>
 LoadC t33 (fun t34 w =>
 PureS (fieldAddrV 2 a3) fun t35 =>
 PureS (fieldAddrV 3 t35) fun t36 =>
 LoadC t36 (fun t37 w =>
 CallS Try.prog 29 [t28, t31, t34, t37].toArray (fun t38 w =>
 J0 t38 w
 ) w
 ) w
 ) w
 ) w
 ) w
 ) (
 PureS (fieldAddrV 1 a3) fun t40 =>
 LoadC t40 (fun t41 w =>
 JoinS (fun (t46 : Value) (w : World) =>
 PureS (pickV t41 t46 (Value.bool false)) fun t47 =>
 CondS t47 (
 PureS (fieldAddrV 0 x2) fun t48 =>
 LoadC t48 (fun t49 w =>
 PureS (fieldAddrV 2 a3) fun t50 =>
 PureS (fieldAddrV 0 t50) fun t51 =>
 LoadC t51 (fun t52 w =>
 PureS (fieldAddrV 2 a3) fun t53 =>
 PureS (fieldAddrV 2 t53) fun t54 =>
 LoadC t54 (fun t55 w =>
 CallS Try.prog 64 [t49, t52, t55].toArray (fun t56 w =>
 J0 t56 w
 ) w
 ) w
 ) w
 ) w
 ) (
 PureS (fieldAddrV 1 a3) fun t58 =>
 LoadC t58 (fun t59 w =>
 JoinS (fun (t64 : Value) (w : World) =>
 PureS (pickV t59 t64 (Value.bool false)) fun t65 =>
 CondS t65 (
 PureS (fieldAddrV 0 x2) fun t66 =>
 LoadC t66 (fun t67 w =>
 PureS (fieldAddrV 2 a3) fun t68 =>
 PureS (fieldAddrV 0 t68) fun t69 =>
 LoadC t69 (fun t70 w =>
 PureS (fieldAddrV 2 a3) fun t71 =>
 PureS (fieldAddrV 2 t71) fun t72 =>
 LoadC t72 (fun t73 w =>
 PureS (fieldAddrV 2 a3) fun t74 =>
 PureS (fieldAddrV 3 t74) fun t75 =>
 LoadC t75 (fun t76 w =>
 CallS Try.prog 65 [t67, t70, t73, t76].toArray (fun t77 w =>
 J0 t77 w
 ) w
 ) w
 ) w
 ) w
 ) w
 ) (
 PureS (fieldAddrV 0 x2) fun t13 =>
 LoadC t13 (fun t14 w =>
 PureS (fieldAddrV 2 a3) fun t15 =>
 LoadA 4 t15 (fun t16 w =>
 CallS Try.prog 8 [t14, t16].toArray (fun t17 w =>
 J0 t17 w
 ) w
 ) w
 ) w
 )
 ) fun J3 =>
 IfB t59 true (
 PureS (fieldAddrV 2 a3) fun t61 =>
 PureS (fieldAddrV 1 t61) fun t62 =>
 LoadC t62 (fun t63 w =>
 PureS (binV .eql t63 (Value.int .i64 2)) fun t64_1 =>
 J3 t64_1 w
 ) w
 ) (
 J3 undef w
 )
 ) w
 )
 ) fun J2 =>
 IfB t41 true (
 PureS (fieldAddrV 2 a3) fun t43 =>
 PureS (fieldAddrV 1 t43) fun t44 =>
 LoadC t44 (fun t45 w =>
 PureS (binV .eql t45 (Value.int .i64 0)) fun t46_1 =>
 J2 t46_1 w
 ) w
 ) (
 J2 undef w
 )
 ) w
 )
 ) fun J1 =>
 IfB t20 true (
 PureS (fieldAddrV 2 a3) fun t22 =>
 PureS (fieldAddrV 1 t22) fun t23 =>
 LoadC t23 (fun t24 w =>
 PureS (binV .eql t24 (Value.int .i64 1)) fun t25_1 =>
 J1 t25_1 w
 ) w
 ) (
 J1 undef w
 )
 ) w
 ) w
 ) w
 ) w
 ) w
 ) w
 ) w
theorem s46_den (x0 a1 : Value) (K : Value → World → Prop) (w : World) : denFn Try.prog false (bodyOf Try.f46) Try.f46.results a46 [x0, a1] K NoP w = s46 x0 a1 K w := by kernel_rfl
theorem s46_dst : dstsOk (2 + 79) (bodyOf Try.f46) = true := by kernel_rfl
theorem s46_ann : annOk (bodyOf Try.f46) a46 = true := by kernel_rfl
theorem s46_call {x0 a1 : Value} {K : Value → World → Prop} {w : World} (hm : Try.prog.follows .mixedOrders = true) (h : s46 x0 a1 K w) : CallS Try.prog 46 #[x0, a1] K w :=
  fn_call (args := [x0, a1]) (m := 79) hm Try.func46 (by kernel_rfl) (rs := Try.f46.results) rfl Try.ntmps46 s46_dst s46_ann (by rw [s46_den]; exact h)

/-! number 47 -/
def a47 : Ann :=
 (.q (.r [.plain 1]) (.j [] 8388208 (.q (.r [.plain 1]) (.b (.l [5] 8388208 (.q (.q (.r [.plain 4]) (.c .s .s)) (.q (.b (.q (.r [.plain 6]) (.q (.r [.plain 2]) (.c (.q (.r [.plain 2]) .s) .s)))) (.r [.plain 3]))))))
  (.q (.r [.plain 9]) (.q (.q (.r [.plain 4, .grp 3 [37] 240518168576, .plain 1]) (.c (.q (.r [.plain 1]) .s) .s)) (.j [] 9006649498927360 (.q (.r [.plain 1]) (.b (.l [8] 9006649498927360 (.q (.q (.r [.plain 4]) (.c .s .s)) (.q (.b (.r [.plain 9])) (.r [.plain 3]))))))
  (.q (.r [.plain 5]) (.q (.r [.plain 1]) .s)))))))
def s47 (b0 l1 : Value) (K : Value → World → Prop) (w : World) : Prop :=
 JoinS (fun (w : World) =>
 RunS Try.prog (Instr.buildSlice 22 0 [].toArray) (fun t23 w =>
 PureS (nilV b0) fun t25 =>
 PureS (fieldAddrV 0 t25) fun t26 =>
 LoadC t26 (fun t27 w =>
 RunS Try.prog (Builtin.append_ #[22, 22] 22 [t23, t27].toArray) (fun t28 w =>
 RunS Try.prog (Builtin.append_ #[22, 22] 22 [t28, l1].toArray) (fun t30 w =>
 PureS (lenSliceV t30) fun t32 =>
 PureS (binV .gtr t32 (Value.int .i64 4096)) fun t33 =>
 JoinS (fun (t37 : Value) (w : World) =>
 PureS (pickV t33 (Value.bool true) t37) fun t38 =>
 CondS t38 (
 K (Value.int .i64 2) w
 ) (
 JoinS (fun (w : World) =>
 PureS (nilV b0) fun t55 =>
 PureS (fieldAddrV 0 t55) fun t56 =>
 StoreC t56 t30 (fun w =>
 K (Value.int .i64 0) w
 ) w
 ) fun J2 =>
 LoopS 1 (fun L3 (i8 : Value) (w : World) =>
 PureS (lenSliceV t30) fun t41 =>
 PureS (binV .lss i8 t41) fun t42 =>
 CondS t42 (
 PureS (indexAddrV 4 t30 i8) fun t49 =>
 LoadA 4 t49 (fun t50 w =>
 CallS Try.prog 43 [t50].toArray (fun t51 w =>
 PureS (indexAddrV 4 t30 i8) fun t52 =>
 StoreA 4 t52 t51 (fun w =>
 PureS (binV .add i8 (Value.int .i64 1)) fun t44 =>
 L3 t44 w
 ) w
 ) w
 ) w
 ) (
 J2 w
 )
 ) (Value.int .i64 0) w
 )
 ) fun J1 =>
 IfB t33 false (
 CallS Try.prog 36 [t30].toArray (fun t36 w =>
 PureS (binV .gtr t36 (Value.int .i64 4194304)) fun t37_1 =>
 J1 t37_1 w
 ) w
 ) (
 J1 undef w
 )
 ) w
 ) w
 ) w
 ) w
 ) fun J0 =>
 LoopS 1 (fun L4 (i5 : Value) (w : World) =>
 PureS (lenSliceV l1) fun t11 =>
 PureS (binV .lss i5 t11) fun t12 =>
 CondS t12 (
 PureS (indexAddrV 4 l1 i5) fun t17 =>
 LoadA 4 t17 (fun t18 w =>
 CallS Try.prog 20 [t18].toArray (fun t19 w =>
 PureS (binV .neq t19 (Value.int .i64 0)) fun t21 =>
 CondS t21 (
 K t19 w
 ) (
 PureS (binV .add i5 (Value.int .i64 1)) fun t14 =>
 L4 t14 w
 )
 ) w
 ) w
 ) (
 J0 w
 )
 ) (Value.int .i64 0) w
theorem s47_den (b0 l1 : Value) (K : Value → World → Prop) (w : World) : denFn Try.prog false (bodyOf Try.f47) Try.f47.results a47 [b0, l1] K NoP w = s47 b0 l1 K w := by kernel_rfl
theorem s47_dst : dstsOk (2 + 55) (bodyOf Try.f47) = true := by kernel_rfl
theorem s47_ann : annOk (bodyOf Try.f47) a47 = true := by kernel_rfl
theorem s47_call {b0 l1 : Value} {K : Value → World → Prop} {w : World} (hm : Try.prog.follows .mixedOrders = true) (h : s47 b0 l1 K w) : CallS Try.prog 47 #[b0, l1] K w :=
  fn_call (args := [b0, l1]) (m := 55) hm Try.func47 (by kernel_rfl) (rs := Try.f47.results) rfl Try.ntmps47 s47_dst s47_ann (by rw [s47_den]; exact h)

/-! number 48 -/
def a48 : Ann :=
 (.r [.plain 4])
def s48 (b0 : Value) (K : Value → World → Prop) (w : World) : Prop :=
 RunS Try.prog (Instr.build 26 [].toArray) (fun t3 w =>
 PureS (nilV b0) fun t4 =>
 StoreA 3 t4 t3 (fun w =>
 K (Value.tuple [].toArray) w
 ) w
 ) w
theorem s48_den (b0 : Value) (K : Value → World → Prop) (w : World) : denFn Try.prog false (bodyOf Try.f48) Try.f48.results a48 [b0] K NoP w = s48 b0 K w := by kernel_rfl
theorem s48_dst : dstsOk (1 + 4) (bodyOf Try.f48) = true := by kernel_rfl
theorem s48_ann : annOk (bodyOf Try.f48) a48 = true := by kernel_rfl
theorem s48_call {b0 : Value} {K : Value → World → Prop} {w : World} (hm : Try.prog.follows .mixedOrders = true) (h : s48 b0 K w) : CallS Try.prog 48 #[b0] K w :=
  fn_call (args := [b0]) (m := 4) hm Try.func48 (by kernel_rfl) (rs := Try.f48.results) rfl Try.ntmps48 s48_dst s48_ann (by rw [s48_den]; exact h)
end Go.Proofs.Ytambcnlkdnmekaa
/-! Laid out by a program of ours: what each function of the cut comes to, over named values; and that it is so. -/
namespace Go.Proofs.Ytambcnlkdnmekaa
set_option linter.unusedVariables false
set_option maxRecDepth 100000
open Go SG

/-! number 49 -/
def a49 : Ann :=
 (.d [0, 0, 0, 4, 12, 28, 62, 0, 128, 384, 896, 1920, 3968, 8190, 16383, 32767, 65535] (.pur 0 (.pur 2 (.pur 3 (.pur 4 (.pur 7 (.pur 8 (.pur 9 (.hld 5 (.hld 10 (.pur 11 (.alt 1 (.alt 6 (.act 12 (.act 13 (.pur 14 (.pur 15 (.act 16 .fin))))) (.act 12 (.act 6 (.act 13 (.pur 14 (.pur 15 (.act 16 .fin))))))) (.act 12 (.act 1 (.act 6 (.act 13 (.pur 14 (.pur 15 (.act 16 .fin)))))))))))))))))))
def s49 (b0 : Value) (K : Value → World → Prop) (w : World) : Prop :=
 DrawS fun S0 => S0 w.drew ∧ (
 PureS (nilV b0) fun t5 =>
 PureS (fieldAddrV 1 t5) fun t6 =>
 PureS (nilV b0) fun t10 =>
 PureS (fieldAddrV 0 t10) fun t11 =>
 HeldC S0 t6 (fun t7 =>
 HeldC S0 t11 (fun t12 =>
 PureS (lenSliceV t12) fun t13 =>
 (
 RunS Try.prog (Instr.buildSlice 24 0 [].toArray) (fun t3 w =>
 S0 w ∧ (
 (
 RunS Try.prog (Builtin.append_ #[24, 24] 24 [t3, t7].toArray) (fun t8 w =>
 S0 w ∧ (
 RunS Try.prog (Instr.buildSlice 24 1 [(0, t13)].toArray) (fun t14 w =>
 S0 w ∧ (
 RunS Try.prog (Builtin.append_ #[24, 24] 24 [t8, t14].toArray) (fun t15 w =>
 PureS (nilV b0) fun t16 =>
 PureS (fieldAddrV 1 t16) fun t17 =>
 StoreC t17 t15 (fun w =>
 K (Value.tuple [].toArray) w
 ) w
 ) w
 )
 ) w
 )
 ) w
 ) ∧ (
 RunS Try.prog (Instr.buildSlice 24 1 [(0, t13)].toArray) (fun t14_1 w =>
 S0 w ∧ (
 RunS Try.prog (Builtin.append_ #[24, 24] 24 [t3, t7].toArray) (fun t8_1 w =>
 S0 w ∧ (
 RunS Try.prog (Builtin.append_ #[24, 24] 24 [t8_1, t14_1].toArray) (fun t15_1 w =>
 PureS (nilV b0) fun t16_1 =>
 PureS (fieldAddrV 1 t16_1) fun t17_1 =>
 StoreC t17_1 t15_1 (fun w =>
 K (Value.tuple [].toArray) w
 ) w
 ) w
 )
 ) w
 )
 ) w
 )
 )
 ) w.drew
 ) ∧ (
 RunS Try.prog (Instr.buildSlice 24 1 [(0, t13)].toArray) (fun t14_2 w =>
 S0 w ∧ (
 RunS Try.prog (Instr.buildSlice 24 0 [].toArray) (fun t3_1 w =>
 S0 w ∧ (
 RunS Try.prog (Builtin.append_ #[24, 24] 24 [t3_1, t7].toArray) (fun t8_2 w =>
 S0 w ∧ (
 RunS Try.prog (Builtin.append_ #[24, 24] 24 [t8_2, t14_2].toArray) (fun t15_2 w =>
 PureS (nilV b0) fun t16_2 =>
 PureS (fieldAddrV 1 t16_2) fun t17_2 =>
 StoreC t17_2 t15_2 (fun w =>
 K (Value.tuple [].toArray) w
 ) w
 ) w
 )
 ) w
 )
 ) w
 )
 ) w.drew
 )
 )
 )
 )
theorem s49_den (b0 : Value) (K : Value → World → Prop) (w : World) : denFn Try.prog false (bodyOf Try.f49) Try.f49.results a49 [b0] K NoP w = s49 b0 K w := by kernel_rfl
theorem s49_dst : dstsOk (1 + 17) (bodyOf Try.f49) = true := by kernel_rfl
theorem s49_ann : annOk (bodyOf Try.f49) a49 = true := by kernel_rfl
theorem s49_call {b0 : Value} {K : Value → World → Prop} {w : World} (hm : Try.prog.follows .mixedOrders = true) (h : s49 b0 K w) : CallS Try.prog 49 #[b0] K w :=
  fn_call (args := [b0]) (m := 17) hm Try.func49 (by kernel_rfl) (rs := Try.f49.results) rfl Try.ntmps49 s49_dst s49_ann (by rw [s49_den]; exact h)

/-! number 50 -/
def a50 : Ann :=
 (.q (.r [.plain 1]) (.q (.r [.plain 7]) (.q (.q (.r [.plain 2]) (.c (.q (.r [.plain 1]) .s) .s)) (.j [] 1073725440 (.q (.r [.plain 1]) (.c (.d [0, 0, 2, 6, 14, 0, 32, 96, 224, 0, 992, 2016, 4094, 8191, 16383, 32767] (.pur 0 (.pur 1 (.pur 2 (.pur 3 (.pur 5 (.pur 6 (.pur 7 (.pur 9 (.hld 4 (.hld 8 (.pur 10 (.hld 11 (.pur 12 (.pur 13 (.pur 14 (.act 15 .fin))))))))))))))))) .s))
  (.q (.r [.plain 10]) (.q (.r [.plain 1]) .s))))))
def s50 (b0 back1 : Value) (K : Value → World → Prop) (w : World) : Prop :=
 PureS (nilV b0) fun t7 =>
 PureS (fieldAddrV 1 t7) fun t8 =>
 LoadC t8 (fun t9 w =>
 PureS (lenSliceV t9) fun t10 =>
 PureS (binV .sub t10 (Value.int .i64 1)) fun t11 =>
 PureS (binV .lss t11 (Value.int .i64 0)) fun t13 =>
 CondS t13 (
 K (Value.int .i64 6) w
 ) (
 JoinS (fun (w : World) =>
 PureS (nilV b0) fun t32 =>
 PureS (fieldAddrV 1 t32) fun t33 =>
 LoadC t33 (fun t34 w =>
 PureS (sliceV 1 t34 none (some t11)) fun t36 =>
 PureS (nilV b0) fun t37 =>
 PureS (fieldAddrV 1 t37) fun t38 =>
 StoreC t38 t36 (fun w =>
 K (Value.int .i64 0) w
 ) w
 ) w
 ) fun J0 =>
 CondS back1 (
 DrawS fun S1 => S1 w.drew ∧ (
 PureS (nilV b0) fun t17 =>
 PureS (fieldAddrV 0 t17) fun t18 =>
 PureS (nilV b0) fun t21 =>
 PureS (fieldAddrV 1 t21) fun t22 =>
 HeldC S1 t18 (fun t19 =>
 HeldC S1 t22 (fun t23 =>
 PureS (indexAddrV 1 t23 t11) fun t25 =>
 HeldC S1 t25 (fun t26 =>
 PureS (sliceV 4 t19 none (some t26)) fun t27 =>
 PureS (nilV b0) fun t28 =>
 PureS (fieldAddrV 0 t28) fun t29 =>
 StoreC t29 t27 (fun w =>
 J0 w
 ) w.drew
 )
 )
 )
 )
 ) (
 J0 w
 )
 )
 ) w
theorem s50_den (b0 back1 : Value) (K : Value → World → Prop) (w : World) : denFn Try.prog false (bodyOf Try.f50) Try.f50.results a50 [b0, back1] K NoP w = s50 b0 back1 K w := by kernel_rfl
theorem s50_dst : dstsOk (2 + 37) (bodyOf Try.f50) = true := by kernel_rfl
theorem s50_ann : annOk (bodyOf Try.f50) a50 = true := by kernel_rfl
theorem s50_call {b0 back1 : Value} {K : Value → World → Prop} {w : World} (hm : Try.prog.follows .mixedOrders = true) (h : s50 b0 back1 K w) : CallS Try.prog 50 #[b0, back1] K w :=
  fn_call (args := [b0, back1]) (m := 37) hm Try.func50 (by kernel_rfl) (rs := Try.f50.results) rfl Try.ntmps50 s50_dst s50_ann (by rw [s50_den]; exact h)

/-! number 51 -/
def a51 : Ann :=
 (.q (.r [.plain 1]) (.q (.r [.plain 1]) (.j [3] 2097128 (.q (.r [.plain 6]) (.b (.l [3, 11] 2095144 (.q (.r [.plain 1]) (.q (.c .s .s) (.q (.b (.q (.r [.plain 4]) (.r [.plain 6]))) (.r [.plain 2])))))))
  (.q (.r [.plain 2]) (.q (.r [.plain 3]) .s)))))
def s51 (b0 : Value) (K : Value → World → Prop) (w : World) : Prop :=
 JoinS (fun (out3 : Value) (w : World) =>
 CallS Try.prog 66 [out3].toArray (fun t22 w =>
 CallS Try.prog 67 [out3].toArray (fun t24 w =>
 K t24 w
 ) w
 ) w
 ) fun J0 =>
 PureS (nilV b0) fun t7 =>
 PureS (fieldAddrV 0 t7) fun t8 =>
 LoadC t8 (fun t9 w =>
 PureS (lenSliceV t9) fun t10 =>
 LoopS 2 (fun L1 (out3_1 t11 : Value) (w : World) =>
 PureS (binV .lss t11 t10) fun t12 =>
 CondS t12 (
 PureS (indexAddrV 4 t9 t11) fun t13 =>
 LoadA 4 t13 (fun t14 w =>
 BoxS 31 (Value.agg #[(Value.int .u32 0), (Value.int .i64 0), (Value.string ⟨#[]⟩), (Value.string ⟨#[]⟩)]) (fun r5 w =>
 StoreA 4 r5 t14 (fun w =>
 PureS (fieldAddrV 0 r5) fun t16 =>
 LoadC t16 (fun t17 w =>
 RunS Try.prog (Instr.buildSlice 82 1 [(0, t17)].toArray) (fun t18 w =>
 RunS Try.prog (Builtin.append_ #[82, 82] 82 [out3_1, t18].toArray) (fun t19 w =>
 PureS (binV .add t11 (Value.int .i64 1)) fun t20 =>
 L1 t19 t20 w
 ) w
 ) w
 ) w
 ) w
 ) w
 ) w
 ) (
 J0 out3_1 w
 )
 ) (Value.slice none 0 0) (Value.int .i64 0) w
 ) w
theorem s51_den (b0 : Value) (K : Value → World → Prop) (w : World) : denFn Try.prog false (bodyOf Try.f51) Try.f51.results a51 [b0] K NoP w = s51 b0 K w := by kernel_rfl
theorem s51_dst : dstsOk (1 + 24) (bodyOf Try.f51) = true := by kernel_rfl
theorem s51_ann : annOk (bodyOf Try.f51) a51 = true := by kernel_rfl
theorem s51_call {b0 : Value} {K : Value → World → Prop} {w : World} (hm : Try.prog.follows .mixedOrders = true) (h : s51 b0 K w) : CallS Try.prog 51 #[b0] K w :=
  fn_call (args := [b0]) (m := 24) hm Try.func51 (by kernel_rfl) (rs := Try.f51.results) rfl Try.ntmps51 s51_dst s51_ann (by rw [s51_den]; exact h)

/-! number 52 -/
def a52 : Ann :=
 (.q (.r [.plain 1]) (.q (.r [.plain 2]) (.j [3] 36893488147419103096 (.q (.r [.plain 1]) (.b (.l [3, 4] 36893488147419103096 (.q (.q (.r [.plain 4]) (.c .s .s)) (.j [3] 36893488147419086952 (.b (.q (.r [.plain 1]) (.j [5] 4294950944 (.b (.l [5] 4294950944 (.q (.j [29] 1073725440 (.d [0, 0, 2, 7, 15, 31, 31, 127, 255, 31, 31, 1567, 3615, 7711, 16383, 32767] (.pur 0 (.pur 1 (.pur 2 (.pur 3 (.pur 4 (.ite 4 (.pur 5 (.pur 6 (.pur 7 (.pur 9 (.pur 10 (.pur 11 (.pur 12 (.hld 8 (.hld 13 (.pur 14 (.pur 15 .fin))))))))))) (.skp 5 (.skp 6 (.skp 7 (.skp 8 (.skp 9 (.skp 10 (.skp 11 (.skp 12 (.skp 13 (.skp 14 (.pur 15 .fin))))))))))))))))))
  (.c .s .s)) (.b (.r [.plain 3])))))
  (.q (.j [47] 281470681743360 (.d [0, 0, 2, 7, 15, 31, 31, 127, 255, 31, 31, 1567, 3615, 7711, 16383, 32767] (.pur 0 (.pur 1 (.pur 2 (.pur 3 (.pur 4 (.ite 4 (.pur 5 (.pur 6 (.pur 7 (.pur 9 (.pur 10 (.pur 11 (.pur 12 (.hld 8 (.hld 13 (.pur 14 (.pur 15 .fin))))))))))) (.skp 5 (.skp 6 (.skp 7 (.skp 8 (.skp 9 (.skp 10 (.skp 11 (.skp 12 (.skp 13 (.skp 14 (.pur 15 .fin))))))))))))))))))
  (.c .s .s)) (.j [6] 1152640029630136384 (.d [0, 0, 0, 6, 15, 0, 0, 96, 224, 480, 992, 2047, 4095] (.pur 1 (.pur 2 (.pur 3 (.pur 5 (.pur 6 (.pur 7 (.pur 8 (.hld 9 (.alt 0 (.alt 4 (.act 10 (.act 11 (.pur 12 .fin))) (.act 10 (.act 4 (.act 11 (.pur 12 .fin))))) (.act 10 (.act 0 (.act 4 (.act 11 (.pur 12 .fin)))))))))))))))
  (.r [.plain 6]))))))
  (.r [.plain 3]))))))
  (.q (.r [.plain 2]) .s))))
def s52 (l0 : Value) (K : Value → World → Prop) (w : World) : Prop :=
 RunS Try.prog (Instr.buildSlice 82 0 [].toArray) (fun t7 w =>
 JoinS (fun (out3 : Value) (w : World) =>
 K out3 w
 ) fun J0 =>
 LoopS 2 (fun L1 (out3_1 i4 : Value) (w : World) =>
 PureS (lenSliceV l0) fun t10 =>
 PureS (binV .lss i4 t10) fun t11 =>
 CondS t11 (
 JoinS (fun (out3_2 : Value) (w : World) =>
 PureS (binV .add i4 (Value.int .i64 1)) fun t13 =>
 L1 out3_2 t13 w
 ) fun J2 =>
 JoinS (fun (k5 : Value) (w : World) =>
 JoinS (fun (t47 : Value) (w : World) =>
 CondS t47 (
 J2 out3_1 w
 ) (
 JoinS (fun (r6 : Value) (w : World) =>
 PureS (sliceV 1 out3_1 (some k5) none) fun t63 =>
 RunS Try.prog (Builtin.append_ #[82, 82] 82 [r6, t63].toArray) (fun t64 w =>
 J2 t64 w
 ) w
 ) fun J5 =>
 DrawS fun S6 => S6 w.drew ∧ (
 PureS (sliceV 1 out3_1 none (some k5)) fun t51 =>
 PureS (indexAddrV 4 l0 i4) fun t55 =>
 PureS (fieldAddrV 0 t55) fun t56 =>
 HeldC S6 t56 (fun t57 =>
 (
 RunS Try.prog (Instr.buildSlice 82 0 [].toArray) (fun t48 w =>
 S6 w ∧ (
 (
 RunS Try.prog (Builtin.append_ #[82, 82] 82 [t48, t51].toArray) (fun t52 w =>
 S6 w ∧ (
 RunS Try.prog (Instr.buildSlice 82 1 [(0, t57)].toArray) (fun t58 w =>
 RunS Try.prog (Builtin.append_ #[82, 82] 82 [t52, t58].toArray) (fun t59 w =>
 J5 t59 w
 ) w
 ) w
 )
 ) w
 ) ∧ (
 RunS Try.prog (Instr.buildSlice 82 1 [(0, t57)].toArray) (fun t58_1 w =>
 RunS Try.prog (Builtin.append_ #[82, 82] 82 [t48, t51].toArray) (fun t52_1 w =>
 S6 w ∧ (
 RunS Try.prog (Builtin.append_ #[82, 82] 82 [t52_1, t58_1].toArray) (fun t59_1 w =>
 J5 t59_1 w
 ) w
 )
 ) w
 ) w
 )
 )
 ) w.drew
 ) ∧ (
 RunS Try.prog (Instr.buildSlice 82 1 [(0, t57)].toArray) (fun t58_2 w =>
 RunS Try.prog (Instr.buildSlice 82 0 [].toArray) (fun t48_1 w =>
 S6 w ∧ (
 RunS Try.prog (Builtin.append_ #[82, 82] 82 [t48_1, t51].toArray) (fun t52_2 w =>
 S6 w ∧ (
 RunS Try.prog (Builtin.append_ #[82, 82] 82 [t52_2, t58_2].toArray) (fun t59_2 w =>
 J5 t59_2 w
 ) w
 )
 ) w
 )
 ) w
 ) w.drew
 )
 )
 )
 )
 ) fun J4 =>
 DrawS fun S7 => S7 w.drew ∧ (
 PureS (lenSliceV out3_1) fun t34 =>
 PureS (binV .lss k5 t34) fun t35 =>
 CondS t35 (
 PureS (indexAddrV 1 out3_1 k5) fun t39 =>
 PureS (indexAddrV 4 l0 i4) fun t43 =>
 PureS (fieldAddrV 0 t43) fun t44 =>
 HeldC S7 t39 (fun t40 =>
 HeldC S7 t44 (fun t45 =>
 PureS (binV .eql t40 t45) fun t46 =>
 PureS (pickV (Value.bool true) t46 (Value.bool false)) fun t47_1 =>
 J4 t47_1 w.drew
 )
 )
 ) (
 PureS (pickV (Value.bool false) undef (Value.bool false)) fun t47_2 =>
 J4 t47_2 w.drew
 )
 )
 ) fun J3 =>
 LoopS 1 (fun L8 (k5_1 : Value) (w : World) =>
 JoinS (fun (t29 : Value) (w : World) =>
 CondS t29 (
 PureS (binV .add k5_1 (Value.int .i64 1)) fun t31 =>
 L8 t31 w
 ) (
 J3 k5_1 w
 )
 ) fun J9 =>
 DrawS fun S10 => S10 w.drew ∧ (
 PureS (lenSliceV out3_1) fun t16 =>
 PureS (binV .lss k5_1 t16) fun t17 =>
 CondS t17 (
 PureS (indexAddrV 1 out3_1 k5_1) fun t21 =>
 PureS (indexAddrV 4 l0 i4) fun t25 =>
 PureS (fieldAddrV 0 t25) fun t26 =>
 HeldC S10 t21 (fun t22 =>
 HeldC S10 t26 (fun t27 =>
 PureS (binV .lss t22 t27) fun t28 =>
 PureS (pickV (Value.bool true) t28 (Value.bool false)) fun t29_1 =>
 J9 t29_1 w.drew
 )
 )
 ) (
 PureS (pickV (Value.bool false) undef (Value.bool false)) fun t29_2 =>
 J9 t29_2 w.drew
 )
 )
 ) (Value.int .i64 0) w
 ) (
 J0 out3_1 w
 )
 ) t7 (Value.int .i64 0) w
 ) w
theorem s52_den (l0 : Value) (K : Value → World → Prop) (w : World) : denFn Try.prog false (bodyOf Try.f52) Try.f52.results a52 [l0] K NoP w = s52 l0 K w := by kernel_rfl
theorem s52_dst : dstsOk (1 + 65) (bodyOf Try.f52) = true := by kernel_rfl
theorem s52_ann : annOk (bodyOf Try.f52) a52 = true := by kernel_rfl
theorem s52_call {l0 : Value} {K : Value → World → Prop} {w : World} (hm : Try.prog.follows .mixedOrders = true) (h : s52 l0 K w) : CallS Try.prog 52 #[l0] K w :=
  fn_call (args := [l0]) (m := 65) hm Try.func52 (by kernel_rfl) (rs := Try.f52.results) rfl Try.ntmps52 s52_dst s52_ann (by rw [s52_den]; exact h)

/-! number 53 -/
def a53 : Ann :=
 (.q (.r [.plain 1]) (.q (.r [.plain 6]) .s))
def s53 (b0 : Value) (K : Value → World → Prop) (w : World) : Prop :=
 PureS (nilV b0) fun t4 =>
 PureS (fieldAddrV 0 t4) fun t5 =>
 LoadC t5 (fun t6 w =>
 PureS (lenSliceV t6) fun t7 =>
 K t7 w
 ) w
theorem s53_den (b0 : Value) (K : Value → World → Prop) (w : World) : denFn Try.prog false (bodyOf Try.f53) Try.f53.results a53 [b0] K NoP w = s53 b0 K w := by kernel_rfl
theorem s53_dst : dstsOk (1 + 7) (bodyOf Try.f53) = true := by kernel_rfl
theorem s53_ann : annOk (bodyOf Try.f53) a53 = true := by kernel_rfl
theorem s53_call {b0 : Value} {K : Value → World → Prop} {w : World} (hm : Try.prog.follows .mixedOrders = true) (h : s53 b0 K w) : CallS Try.prog 53 #[b0] K w :=
  fn_call (args := [b0]) (m := 7) hm Try.func53 (by kernel_rfl) (rs := Try.f53.results) rfl Try.ntmps53 s53_dst s53_ann (by rw [s53_den]; exact h)

/-! number 54 -/
def a54 : Ann :=
 (.q (.r [.plain 2]) (.j [] 120 (.q (.r [.plain 3]) (.c (.r [.plain 2]) .s))
  (.q (.r [.plain 2]) .s)))
def s54 (r0 : Value) (K : Value → World → Prop) (w : World) : Prop :=
 BoxS 31 r0 (fun r1 w =>
 BoxS 31 (Value.agg #[(Value.int .u32 0), (Value.int .i64 0), (Value.string ⟨#[]⟩), (Value.string ⟨#[]⟩)]) (fun t2 w =>
 JoinS (fun (w : World) =>
 LoadA 4 r1 (fun t7 w =>
 StoreA 4 t2 t7 (fun w =>
 LoadA 4 t2 (fun t2_1 _ =>
 K t2_1 w
 ) w
 ) w
 ) w
 ) fun J0 =>
 PureS (fieldAddrV 1 r1) fun t3 =>
 LoadC t3 (fun t4 w =>
 PureS (binV .eql t4 (Value.int .i64 0)) fun t5 =>
 CondS t5 (
 PureS (fieldAddrV 3 r1) fun t6 =>
 StoreC t6 (Value.string ⟨#[]⟩) (fun w =>
 J0 w
 ) w
 ) (
 J0 w
 )
 ) w
 ) w
 ) w
theorem s54_den (r0 : Value) (K : Value → World → Prop) (w : World) : denFn Try.prog false (bodyOf Try.f54) Try.f54.results a54 [r0] K NoP w = s54 r0 K w := by kernel_rfl
theorem s54_dst : dstsOk (1 + 7) (bodyOf Try.f54) = true := by kernel_rfl
theorem s54_ann : annOk (bodyOf Try.f54) a54 = true := by kernel_rfl
theorem s54_call {r0 : Value} {K : Value → World → Prop} {w : World} (hm : Try.prog.follows .mixedOrders = true) (h : s54 r0 K w) : CallS Try.prog 54 #[r0] K w :=
  fn_call (args := [r0]) (m := 7) hm Try.func54 (by kernel_rfl) (rs := Try.f54.results) rfl Try.ntmps54 s54_dst s54_ann (by rw [s54_den]; exact h)

/-! number 55 -/
def a55 : Ann :=
 (.q (.r [.plain 1]) (.q (.r [.plain 1]) (.j [0, 3] 16377 (.b (.l [0, 3] 16377 (.q (.q (.r [.plain 2]) (.c .s .s)) (.b (.q (.r [.plain 7]) (.r [.plain 3]))))))
  (.q (.r [.plain 6]) .s))))
def s55 (n0 : Value) (K : Value → World → Prop) (w : World) : Prop :=
 JoinS (fun (n0_1 b3 : Value) (w : World) =>
 PureS (convIntV .u8 n0_1) fun t16 =>
 RunS Try.prog (Instr.buildSlice 40 1 [(0, t16)].toArray) (fun t17 w =>
 RunS Try.prog (Builtin.append_ #[40, 40] 40 [b3, t17].toArray) (fun t18 w =>
 K t18 w
 ) w
 ) w
 ) fun J0 =>
 LoopS 2 (fun L1 (n0_2 b3_1 : Value) (w : World) =>
 PureS (binV .geq n0_2 (Value.int .u64 128)) fun t5 =>
 CondS t5 (
 PureS (convIntV .u8 n0_2) fun t8 =>
 PureS (binV .or t8 (Value.int .u8 128)) fun t9 =>
 RunS Try.prog (Instr.buildSlice 40 1 [(0, t9)].toArray) (fun t10 w =>
 RunS Try.prog (Builtin.append_ #[40, 40] 40 [b3_1, t10].toArray) (fun t11 w =>
 PureS (binV .shr n0_2 (Value.int .u64 7)) fun t13 =>
 L1 t13 t11 w
 ) w
 ) w
 ) (
 J0 n0_2 b3_1 w
 )
 ) n0 (Value.slice none 0 0) w
theorem s55_den (n0 : Value) (K : Value → World → Prop) (w : World) : denFn Try.prog false (bodyOf Try.f55) Try.f55.results a55 [n0] K NoP w = s55 n0 K w := by kernel_rfl
theorem s55_dst : dstsOk (1 + 18) (bodyOf Try.f55) = true := by kernel_rfl
theorem s55_ann : annOk (bodyOf Try.f55) a55 = true := by kernel_rfl
theorem s55_call {n0 : Value} {K : Value → World → Prop} {w : World} (hm : Try.prog.follows .mixedOrders = true) (h : s55 n0 K w) : CallS Try.prog 55 #[n0] K w :=
  fn_call (args := [n0]) (m := 18) hm Try.func55 (by kernel_rfl) (rs := Try.f55.results) rfl Try.ntmps55 s55_dst s55_ann (by rw [s55_den]; exact h)

/-! number 56 -/
def a56 : Ann :=
 (.q (.r [.plain 1]) (.q (.r [.plain 9]) .s))
def s56 (b0 s1 : Value) (K : Value → World → Prop) (w : World) : Prop :=
 PureS (lenStrV s1) fun t7 =>
 PureS (convIntV .u64 t7) fun t8 =>
 CallS Try.prog 55 [t8].toArray (fun t9 w =>
 RunS Try.prog (Builtin.append_ #[40, 40] 40 [b0, t9].toArray) (fun t10 w =>
 RunS Try.prog (Builtin.append_ #[40, 9] 40 [t10, s1].toArray) (fun t12 w =>
 K t12 w
 ) w
 ) w
 ) w
theorem s56_den (b0 s1 : Value) (K : Value → World → Prop) (w : World) : denFn Try.prog false (bodyOf Try.f56) Try.f56.results a56 [b0, s1] K NoP w = s56 b0 s1 K w := by kernel_rfl
theorem s56_dst : dstsOk (2 + 11) (bodyOf Try.f56) = true := by kernel_rfl
theorem s56_ann : annOk (bodyOf Try.f56) a56 = true := by kernel_rfl
theorem s56_call {b0 s1 : Value} {K : Value → World → Prop} {w : World} (hm : Try.prog.follows .mixedOrders = true) (h : s56 b0 s1 K w) : CallS Try.prog 56 #[b0, s1] K w :=
  fn_call (args := [b0, s1]) (m := 11) hm Try.func56 (by kernel_rfl) (rs := Try.f56.results) rfl Try.ntmps56 s56_dst s56_ann (by rw [s56_den]; exact h)

/-! number 57 -/
def a57 : Ann :=
 (.q (.r [.plain 1]) (.q (.r [.plain 3]) (.j [] 8388160 (.q (.r [.plain 3]) (.b (.l [11] 8386624 (.q (.r [.plain 1]) (.q (.c .s .s) (.q (.b (.q (.r [.plain 2]) (.r [.plain 9]))) (.r [.plain 2])))))))
  (.q (.r [.plain 2]) .s))))
def s57 (n0 size1 : Value) (K : Value → World → Prop) (w : World) : Prop :=
 RunS Try.prog (Instr.makeSlice 40 size1 size1) (fun t8 w =>
 JoinS (fun (w : World) =>
 K t8 w
 ) fun J0 =>
 PureS (lenSliceV t8) fun t10 =>
 LoopS 1 (fun L1 (t11 : Value) (w : World) =>
 PureS (binV .lss t11 t10) fun t12 =>
 CondS t12 (
 PureS (binV .mul (Value.int .i64 8) t11) fun t18 =>
 PureS (binV .shr n0 t18) fun t19 =>
 PureS (convIntV .u8 t19) fun t20 =>
 PureS (indexAddrV 1 t8 t11) fun t21 =>
 StoreC t21 t20 (fun w =>
 PureS (binV .add t11 (Value.int .i64 1)) fun t22 =>
 L1 t22 w
 ) w
 ) (
 J0 w
 )
 ) (Value.int .i64 0) w
 ) w
theorem s57_den (n0 size1 : Value) (K : Value → World → Prop) (w : World) : denFn Try.prog false (bodyOf Try.f57) Try.f57.results a57 [n0, size1] K NoP w = s57 n0 size1 K w := by kernel_rfl
theorem s57_dst : dstsOk (2 + 22) (bodyOf Try.f57) = true := by kernel_rfl
theorem s57_ann : annOk (bodyOf Try.f57) a57 = true := by kernel_rfl
theorem s57_call {n0 size1 : Value} {K : Value → World → Prop} {w : World} (hm : Try.prog.follows .mixedOrders = true) (h : s57 n0 size1 K w) : CallS Try.prog 57 #[n0, size1] K w :=
  fn_call (args := [n0, size1]) (m := 22) hm Try.func57 (by kernel_rfl) (rs := Try.f57.results) rfl Try.ntmps57 s57_dst s57_ann (by rw [s57_den]; exact h)

/-! number 59 -/
def a59 : Ann :=
 (.q (.r [.plain 1]) (.j [] 2032 (.q (.r [.plain 6]) (.c (.r [.plain 2]) .s))
  (.q (.r [.plain 7]) (.q (.r [.plain 9]) (.q (.r [.plain 2]) .s)))))
def s59 (r0 : Value) (Kp : List PanicEntry → World → Prop) (K : Value → World → Prop) (w : World) : Prop :=
 JoinS (fun (w : World) =>
 PureS (nilV r0) fun t12 =>
 PureS (fieldAddrV 0 t12) fun t13 =>
 LoadC t13 (fun t14 w =>
 PureS (indexAddrV 1 t14 (Value.int .i64 0)) fun t15 =>
 LoadC t15 (fun t16 w =>
 PureS (nilV r0) fun t19 =>
 PureS (fieldAddrV 0 t19) fun t20 =>
 LoadC t20 (fun t21 w =>
 PureS (sliceV 1 t21 (some (Value.int .i64 1)) none) fun t22 =>
 PureS (nilV r0) fun t23 =>
 PureS (fieldAddrV 0 t23) fun t24 =>
 StoreC t24 t22 (fun w =>
 K t16 w
 ) w
 ) w
 ) w
 ) w
 ) fun J0 =>
 PureS (nilV r0) fun t5 =>
 PureS (fieldAddrV 0 t5) fun t6 =>
 LoadC t6 (fun t7 w =>
 PureS (lenSliceV t7) fun t8 =>
 PureS (binV .eql t8 (Value.int .i64 0)) fun t9 =>
 CondS t9 (
 PanicS Try.prog (Value.iface 27 (Value.int .i64 4)) Kp w
 ) (
 J0 w
 )
 ) w
theorem s59_den (r0 : Value) (Kp : List PanicEntry → World → Prop) (K : Value → World → Prop) (w : World) : denFn Try.prog true (bodyOf Try.f59) Try.f59.results a59 [r0] K Kp w = s59 r0 Kp K w := by kernel_rfl
theorem s59_dst : dstsOk (1 + 25) (bodyOf Try.f59) = true := by kernel_rfl
theorem s59_ann : annOk (bodyOf Try.f59) a59 = true := by kernel_rfl
theorem s59_call {r0 : Value} {Kp : List PanicEntry → World → Prop} {K : Value → World → Prop} {w : World} (hm : Try.prog.follows .mixedOrders = true) (h : s59 r0 Kp K w) : CallP Try.prog 59 #[r0] K Kp w :=
  fn_callP (args := [r0]) (m := 25) hm Try.func59 (by kernel_rfl) (rs := Try.f59.results) rfl Try.ntmps59 s59_dst s59_ann (by rw [s59_den]; exact h)

/-! number 60 -/
def a60 : Ann :=
 (.q (.r [.plain 1]) (.q (.r [.plain 12]) (.j [] 134086656 (.b (.q (.r [.plain 3]) (.c (.r [.plain 3]) (.q (.r [.plain 4]) (.c (.r [.plain 2]) .s)))))
  (.q (.r [.plain 10]) (.q (.r [.plain 2]) .s)))))
def s60 (r0 most1 : Value) (Kp : List PanicEntry → World → Prop) (K : Value → World → Prop) (w : World) : Prop :=
 PureS (nilV r0) fun t10 =>
 PureS (fieldAddrV 0 t10) fun t11 =>
 LoadC t11 (fun t12 w =>
 CallP' Try.prog 69 [t12].toArray Kp (fun t13 w =>
 PureS (extractV 0 t13) fun t14 =>
 PureS (extractV 1 t13) fun t15 =>
 PureS (extractV 2 t13) fun t16 =>
 JoinS (fun (w : World) =>
 PureS (nilV r0) fun t29 =>
 PureS (fieldAddrV 0 t29) fun t30 =>
 LoadC t30 (fun t31 w =>
 PureS (sliceV 1 t31 (some t15) none) fun t33 =>
 PureS (nilV r0) fun t34 =>
 PureS (fieldAddrV 0 t34) fun t35 =>
 StoreC t35 t33 (fun w =>
 K t14 w
 ) w
 ) w
 ) fun J0 =>
 PureS (binV .neq t16 (Value.int .i64 0)) fun t19 =>
 CondS t19 (
 PanicS Try.prog (Value.iface 27 t16) Kp w
 ) (
 PureS (binV .gtr t14 most1) fun t25 =>
 CondS t25 (
 PanicS Try.prog (Value.iface 27 (Value.int .i64 3)) Kp w
 ) (
 J0 w
 )
 )
 ) w
 ) w
theorem s60_den (r0 most1 : Value) (Kp : List PanicEntry → World → Prop) (K : Value → World → Prop) (w : World) : denFn Try.prog true (bodyOf Try.f60) Try.f60.results a60 [r0, most1] K Kp w = s60 r0 most1 Kp K w := by kernel_rfl
theorem s60_dst : dstsOk (2 + 35) (bodyOf Try.f60) = true := by kernel_rfl
theorem s60_ann : annOk (bodyOf Try.f60) a60 = true := by kernel_rfl
theorem s60_call {r0 most1 : Value} {Kp : List PanicEntry → World → Prop} {K : Value → World → Prop} {w : World} (hm : Try.prog.follows .mixedOrders = true) (h : s60 r0 most1 Kp K w) : CallP Try.prog 60 #[r0, most1] K Kp w :=
  fn_callP (args := [r0, most1]) (m := 35) hm Try.func60 (by kernel_rfl) (rs := Try.f60.results) rfl Try.ntmps60 s60_dst s60_ann (by rw [s60_den]; exact h)

/-! number 61 -/
def a61 : Ann :=
 (.q (.r [.plain 1]) (.q (.r [.plain 4]) (.j [] 523264 (.q (.r [.plain 8]) (.c (.r [.plain 2]) .s))
  (.q (.r [.plain 8]) (.q (.r [.plain 10]) (.q (.r [.plain 2]) .s))))))
def s61 (r0 most1 : Value) (Kp : List PanicEntry → World → Prop) (K : Value → World → Prop) (w : World) : Prop :=
 CallP' Try.prog 60 [r0, most1].toArray Kp (fun t9 w =>
 JoinS (fun (w : World) =>
 PureS (nilV r0) fun t20 =>
 PureS (fieldAddrV 0 t20) fun t21 =>
 LoadC t21 (fun t22 w =>
 PureS (sliceV 1 t22 none (some t9)) fun t24 =>
 RunS Try.prog (convert 40 9 t24) (fun t25 w =>
 PureS (nilV r0) fun t28 =>
 PureS (fieldAddrV 0 t28) fun t29 =>
 LoadC t29 (fun t30 w =>
 PureS (sliceV 1 t30 (some t9) none) fun t32 =>
 PureS (nilV r0) fun t33 =>
 PureS (fieldAddrV 0 t33) fun t34 =>
 StoreC t34 t32 (fun w =>
 K t25 w
 ) w
 ) w
 ) w
 ) w
 ) fun J0 =>
 PureS (nilV r0) fun t12 =>
 PureS (fieldAddrV 0 t12) fun t13 =>
 LoadC t13 (fun t14 w =>
 PureS (lenSliceV t14) fun t15 =>
 PureS (convIntV .u64 t15) fun t16 =>
 PureS (binV .gtr t9 t16) fun t17 =>
 CondS t17 (
 PanicS Try.prog (Value.iface 27 (Value.int .i64 4)) Kp w
 ) (
 J0 w
 )
 ) w
 ) w
theorem s61_den (r0 most1 : Value) (Kp : List PanicEntry → World → Prop) (K : Value → World → Prop) (w : World) : denFn Try.prog true (bodyOf Try.f61) Try.f61.results a61 [r0, most1] K Kp w = s61 r0 most1 Kp K w := by kernel_rfl
theorem s61_dst : dstsOk (2 + 34) (bodyOf Try.f61) = true := by kernel_rfl
theorem s61_ann : annOk (bodyOf Try.f61) a61 = true := by kernel_rfl
theorem s61_call {r0 most1 : Value} {Kp : List PanicEntry → World → Prop} {K : Value → World → Prop} {w : World} (hm : Try.prog.follows .mixedOrders = true) (h : s61 r0 most1 Kp K w) : CallP Try.prog 61 #[r0, most1] K Kp w :=
  fn_callP (args := [r0, most1]) (m := 34) hm Try.func61 (by kernel_rfl) (rs := Try.f61.results) rfl Try.ntmps61 s61_dst s61_ann (by rw [s61_den]; exact h)

/-! number 62 -/
def a62 : Ann :=
 (.q (.r [.plain 1]) (.q (.q (.r [.plain 5]) (.c (.q (.r [.plain 1]) .s) .s)) (.q (.r [.plain 12]) (.q (.r [.plain 5]) (.q (.r [.plain 10]) (.q (.r [.plain 2]) .s))))))
def s62 (r0 : Value) (K : Value → World → Prop) (w : World) : Prop :=
 PureS (nilV r0) fun t7 =>
 PureS (fieldAddrV 1 t7) fun t8 =>
 LoadC t8 (fun t9 w =>
 PureS (binV .neq t9 (Value.int .i64 0)) fun t10 =>
 CondS t10 (
 K (Value.int .u64 0) w
 ) (
 PureS (nilV r0) fun t13 =>
 PureS (fieldAddrV 0 t13) fun t14 =>
 LoadC t14 (fun t15 w =>
 CallS Try.prog 70 [t15].toArray (fun t16 w =>
 PureS (extractV 0 t16) fun t17 =>
 PureS (extractV 1 t16) fun t18 =>
 PureS (extractV 2 t16) fun t19 =>
 PureS (nilV r0) fun t22 =>
 PureS (fieldAddrV 1 t22) fun t23 =>
 StoreC t23 t19 (fun w =>
 PureS (nilV r0) fun t26 =>
 PureS (fieldAddrV 0 t26) fun t27 =>
 LoadC t27 (fun t28 w =>
 PureS (sliceV 1 t28 (some t18) none) fun t30 =>
 PureS (nilV r0) fun t31 =>
 PureS (fieldAddrV 0 t31) fun t32 =>
 StoreC t32 t30 (fun w =>
 K t17 w
 ) w
 ) w
 ) w
 ) w
 ) w
 )
 ) w
theorem s62_den (r0 : Value) (K : Value → World → Prop) (w : World) : denFn Try.prog false (bodyOf Try.f62) Try.f62.results a62 [r0] K NoP w = s62 r0 K w := by kernel_rfl
theorem s62_dst : dstsOk (1 + 33) (bodyOf Try.f62) = true := by kernel_rfl
theorem s62_ann : annOk (bodyOf Try.f62) a62 = true := by kernel_rfl
theorem s62_call {r0 : Value} {K : Value → World → Prop} {w : World} (hm : Try.prog.follows .mixedOrders = true) (h : s62 r0 K w) : CallS Try.prog 62 #[r0] K w :=
  fn_call (args := [r0]) (m := 33) hm Try.func62 (by kernel_rfl) (rs := Try.f62.results) rfl Try.ntmps62 s62_dst s62_ann (by rw [s62_den]; exact h)

/-! number 63 -/
def a63 : Ann :=
 (.q (.r [.plain 1]) (.q (.r [.plain 3]) (.j [] 8388096 (.q (.r [.plain 6, .grp 4 [18] 491520, .plain 1]) (.c (.r [.plain 4]) .s))
  (.j [] 2199014866944 (.q (.r [.plain 6, .grp 8 [36] 136902082560, .plain 1]) (.c (.r [.plain 4]) .s))
  (.q (.q (.r [.plain 5]) (.c (.q (.r [.plain 1]) .s) .s)) (.q (.r [.plain 8]) (.q (.r [.plain 10]) (.q (.r [.plain 2]) .s))))))))
def s63 (r0 most1 : Value) (K : Value → World → Prop) (w : World) : Prop :=
 CallS Try.prog 62 [r0].toArray (fun t8 w =>
 JoinS (fun (w : World) =>
 JoinS (fun (w : World) =>
 PureS (nilV r0) fun t42 =>
 PureS (fieldAddrV 1 t42) fun t43 =>
 LoadC t43 (fun t44 w =>
 PureS (binV .neq t44 (Value.int .i64 0)) fun t45 =>
 CondS t45 (
 K (Value.string ⟨#[]⟩) w
 ) (
 PureS (nilV r0) fun t47 =>
 PureS (fieldAddrV 0 t47) fun t48 =>
 LoadC t48 (fun t49 w =>
 PureS (sliceV 1 t49 none (some t8)) fun t51 =>
 RunS Try.prog (convert 40 9 t51) (fun t52 w =>
 PureS (nilV r0) fun t55 =>
 PureS (fieldAddrV 0 t55) fun t56 =>
 LoadC t56 (fun t57 w =>
 PureS (sliceV 1 t57 (some t8) none) fun t59 =>
 PureS (nilV r0) fun t60 =>
 PureS (fieldAddrV 0 t60) fun t61 =>
 StoreC t61 t59 (fun w =>
 K t52 w
 ) w
 ) w
 ) w
 ) w
 )
 ) w
 ) fun J1 =>
 PureS (nilV r0) fun t24 =>
 PureS (fieldAddrV 1 t24) fun t25 =>
 LoadC t25 (fun t26 w =>
 PureS (binV .eql t26 (Value.int .i64 0)) fun t27 =>
 JoinS (fun (t36 : Value) (w : World) =>
 PureS (pickV t27 t36 (Value.bool false)) fun t37 =>
 CondS t37 (
 PureS (nilV r0) fun t39 =>
 PureS (fieldAddrV 1 t39) fun t40 =>
 StoreC t40 (Value.int .i64 4) (fun w =>
 J1 w
 ) w
 ) (
 J1 w
 )
 ) fun J2 =>
 IfB t27 true (
 PureS (nilV r0) fun t31 =>
 PureS (fieldAddrV 0 t31) fun t32 =>
 LoadC t32 (fun t33 w =>
 PureS (lenSliceV t33) fun t34 =>
 PureS (convIntV .u64 t34) fun t35 =>
 PureS (binV .gtr t8 t35) fun t36_1 =>
 J2 t36_1 w
 ) w
 ) (
 J2 undef w
 )
 ) w
 ) fun J0 =>
 PureS (nilV r0) fun t10 =>
 PureS (fieldAddrV 1 t10) fun t11 =>
 LoadC t11 (fun t12 w =>
 PureS (binV .eql t12 (Value.int .i64 0)) fun t13 =>
 JoinS (fun (t18 : Value) (w : World) =>
 PureS (pickV t13 t18 (Value.bool false)) fun t19 =>
 CondS t19 (
 PureS (nilV r0) fun t21 =>
 PureS (fieldAddrV 1 t21) fun t22 =>
 StoreC t22 (Value.int .i64 3) (fun w =>
 J0 w
 ) w
 ) (
 J0 w
 )
 ) fun J3 =>
 IfB t13 true (
 PureS (convIntV .u64 most1) fun t17 =>
 PureS (binV .gtr t8 t17) fun t18_1 =>
 J3 t18_1 w
 ) (
 J3 undef w
 )
 ) w
 ) w
theorem s63_den (r0 most1 : Value) (K : Value → World → Prop) (w : World) : denFn Try.prog false (bodyOf Try.f63) Try.f63.results a63 [r0, most1] K NoP w = s63 r0 most1 K w := by kernel_rfl
theorem s63_dst : dstsOk (2 + 61) (bodyOf Try.f63) = true := by kernel_rfl
theorem s63_ann : annOk (bodyOf Try.f63) a63 = true := by kernel_rfl
theorem s63_call {r0 most1 : Value} {K : Value → World → Prop} {w : World} (hm : Try.prog.follows .mixedOrders = true) (h : s63 r0 most1 K w) : CallS Try.prog 63 #[r0, most1] K w :=
  fn_call (args := [r0, most1]) (m := 61) hm Try.func63 (by kernel_rfl) (rs := Try.f63.results) rfl Try.ntmps63 s63_dst s63_ann (by rw [s63_den]; exact h)

/-! number 64 -/
def a64 : Ann :=
 (.q (.r [.plain 1]) (.q (.r [.plain 6]) .s))
def s64 (b0 family1 key2 : Value) (K : Value → World → Prop) (w : World) : Prop :=
 RunS Try.prog (Instr.build 31 [(0, family1), (1, (Value.int .i64 0)), (2, key2)].toArray) (fun t10 w =>
 CallS Try.prog 8 [b0, t10].toArray (fun t11 w =>
 K t11 w
 ) w
 ) w
theorem s64_den (b0 family1 key2 : Value) (K : Value → World → Prop) (w : World) : denFn Try.prog false (bodyOf Try.f64) Try.f64.results a64 [b0, family1, key2] K NoP w = s64 b0 family1 key2 K w := by kernel_rfl
theorem s64_dst : dstsOk (3 + 9) (bodyOf Try.f64) = true := by kernel_rfl
theorem s64_ann : annOk (bodyOf Try.f64) a64 = true := by kernel_rfl
theorem s64_call {b0 family1 key2 : Value} {K : Value → World → Prop} {w : World} (hm : Try.prog.follows .mixedOrders = true) (h : s64 b0 family1 key2 K w) : CallS Try.prog 64 #[b0, family1, key2] K w :=
  fn_call (args := [b0, family1, key2]) (m := 9) hm Try.func64 (by kernel_rfl) (rs := Try.f64.results) rfl Try.ntmps64 s64_dst s64_ann (by rw [s64_den]; exact h)

/-! number 65 -/
def a65 : Ann :=
 (.q (.r [.plain 1]) (.q (.r [.plain 7]) .s))
def s65 (b0 family1 begin2 end3 : Value) (K : Value → World → Prop) (w : World) : Prop :=
 RunS Try.prog (Instr.build 31 [(0, family1), (1, (Value.int .i64 2)), (2, begin2), (3, end3)].toArray) (fun t13 w =>
 CallS Try.prog 8 [b0, t13].toArray (fun t14 w =>
 K t14 w
 ) w
 ) w
theorem s65_den (b0 family1 begin2 end3 : Value) (K : Value → World → Prop) (w : World) : denFn Try.prog false (bodyOf Try.f65) Try.f65.results a65 [b0, family1, begin2, end3] K NoP w = s65 b0 family1 begin2 end3 K w := by kernel_rfl
theorem s65_dst : dstsOk (4 + 11) (bodyOf Try.f65) = true := by kernel_rfl
theorem s65_ann : annOk (bodyOf Try.f65) a65 = true := by kernel_rfl
theorem s65_call {b0 family1 begin2 end3 : Value} {K : Value → World → Prop} {w : World} (hm : Try.prog.follows .mixedOrders = true) (h : s65 b0 family1 begin2 end3 K w) : CallS Try.prog 65 #[b0, family1, begin2, end3] K w :=
  fn_call (args := [b0, family1, begin2, end3]) (m := 11) hm Try.func65 (by kernel_rfl) (rs := Try.f65.results) rfl Try.ntmps65 s65_dst s65_ann (by rw [s65_den]; exact h)

/-! number 66 -/
def a66 : Ann :=
 (.q (.r [.plain 3]) (.r [.plain 6]))
def s66 (x0 : Value) (K : Value → World → Prop) (w : World) : Prop :=
 PureS (lenSliceV x0) fun t4 =>
 PureS (convIntV .u64 t4) fun t8 =>
 CallS Try.prog 72 [t8].toArray (fun t9 w =>
 CallS Try.prog 71 [x0, (Value.int .i64 0), t4, t9].toArray (fun t10 w =>
 K (Value.tuple [].toArray) w
 ) w
 ) w
theorem s66_den (x0 : Value) (K : Value → World → Prop) (w : World) : denFn Try.prog false (bodyOf Try.f66) Try.f66.results a66 [x0] K NoP w = s66 x0 K w := by kernel_rfl
theorem s66_dst : dstsOk (1 + 10) (bodyOf Try.f66) = true := by kernel_rfl
theorem s66_ann : annOk (bodyOf Try.f66) a66 = true := by kernel_rfl
theorem s66_call {x0 : Value} {K : Value → World → Prop} {w : World} (hm : Try.prog.follows .mixedOrders = true) (h : s66 x0 K w) : CallS Try.prog 66 #[x0] K w :=
  fn_call (args := [x0]) (m := 10) hm Try.func66 (by kernel_rfl) (rs := Try.f66.results) rfl Try.ntmps66 s66_dst s66_ann (by rw [s66_den]; exact h)

/-! number 67 -/
def a67 : Ann :=
 (.q (.r [.plain 1]) (.q (.q (.r [.plain 3]) (.c (.q (.r [.plain 2]) .s) .s)) (.j [] 1152921504606846012 (.q (.r [.plain 1]) (.b (.l [3] 1152921504606846012 (.q (.q (.r [.plain 4]) (.c .s .s)) (.j [3] 1152921504606781500 (.b (.q (.d [0, 0, 3, 7, 0, 0, 32, 112, 240, 511] (.pur 0 (.pur 1 (.pur 2 (.pur 4 (.pur 5 (.pur 6 (.pur 7 (.hld 3 (.hld 8 (.pur 9 .fin))))))))))) (.c (.q (.r [.plain 4]) (.j [3] 18014397972611112 (.q (.r [.plain 1]) (.b (.l [3, 5] 18014397972611112 (.q (.q (.r [.plain 4]) (.c .s .s)) (.j [3] 18014364149743624 (.b (.q (.d [0, 0, 3, 7, 0, 0, 32, 112, 240, 511] (.pur 0 (.pur 1 (.pur 2 (.pur 4 (.pur 5 (.pur 6 (.pur 7 (.hld 3 (.hld 8 (.pur 9 .fin))))))))))) (.c (.q (.r [.plain 8]) (.r [.plain 3])) .s)))
  (.r [.plain 3]))))))
  (.q (.r [.plain 4]) (.q (.r [.plain 4]) .s)))) .s)))
  (.r [.plain 3]))))))
  (.q (.r [.plain 2]) .s))))
def s67 (s0 : Value) (K : Value → World → Prop) (w : World) : Prop :=
 PureS (lenSliceV s0) fun t7 =>
 PureS (binV .lss t7 (Value.int .i64 2)) fun t8 =>
 CondS t8 (
 K s0 w
 ) (
 JoinS (fun (w : World) =>
 K s0 w
 ) fun J0 =>
 LoopS 1 (fun L1 (k3 : Value) (w : World) =>
 PureS (lenSliceV s0) fun t12 =>
 PureS (binV .lss k3 t12) fun t13 =>
 CondS t13 (
 JoinS (fun (k3_1 : Value) (w : World) =>
 PureS (binV .add k3_1 (Value.int .i64 1)) fun t15 =>
 L1 t15 w
 ) fun J2 =>
 DrawS fun S3 => S3 w.drew ∧ (
 PureS (indexAddrV 1 s0 k3) fun t18 =>
 PureS (binV .sub k3 (Value.int .i64 1)) fun t22 =>
 PureS (indexAddrV 1 s0 t22) fun t23 =>
 HeldC S3 t18 (fun t19 =>
 HeldC S3 t23 (fun t24 =>
 PureS (binV .eql t19 t24) fun t25 =>
 CondS t25 (
 PureS (sliceV 1 s0 (some k3) none) fun t28 =>
 JoinS (fun (k3_2 : Value) (w : World) =>
 PureS (sliceV 1 s0 (some k3_2) none) fun t56 =>
 RunS Try.prog (Builtin.clear_ #[82] 0 [t56].toArray) (fun _ w =>
 PureS (sliceV 1 s0 none (some k3_2)) fun t59 =>
 K t59 w
 ) w
 ) fun J4 =>
 LoopS 2 (fun L5 (k3_3 k25 : Value) (w : World) =>
 PureS (lenSliceV t28) fun t31 =>
 PureS (binV .lss k25 t31) fun t32 =>
 CondS t32 (
 JoinS (fun (k3_4 : Value) (w : World) =>
 PureS (binV .add k25 (Value.int .i64 1)) fun t34 =>
 L5 k3_4 t34 w
 ) fun J6 =>
 DrawS fun S7 => S7 w.drew ∧ (
 PureS (indexAddrV 1 t28 k25) fun t37 =>
 PureS (binV .sub k25 (Value.int .i64 1)) fun t41 =>
 PureS (indexAddrV 1 t28 t41) fun t42 =>
 HeldC S7 t37 (fun t38 =>
 HeldC S7 t42 (fun t43 =>
 PureS (binV .neq t38 t43) fun t44 =>
 CondS t44 (
 PureS (indexAddrV 1 t28 k25) fun t49 =>
 LoadC t49 (fun t50 w =>
 PureS (indexAddrV 1 s0 k3_3) fun t51 =>
 StoreC t51 t50 (fun w =>
 PureS (binV .add k3_3 (Value.int .i64 1)) fun t53 =>
 J6 t53 w
 ) w
 ) w.drew
 ) (
 J6 k3_3 w.drew
 )
 )
 )
 )
 ) (
 J4 k3_3 w
 )
 ) k3 (Value.int .i64 1) w.drew
 ) (
 J2 k3 w.drew
 )
 )
 )
 )
 ) (
 J0 w
 )
 ) (Value.int .i64 1) w
 )
theorem s67_den (s0 : Value) (K : Value → World → Prop) (w : World) : denFn Try.prog false (bodyOf Try.f67) Try.f67.results a67 [s0] K NoP w = s67 s0 K w := by kernel_rfl
theorem s67_dst : dstsOk (1 + 60) (bodyOf Try.f67) = true := by kernel_rfl
theorem s67_ann : annOk (bodyOf Try.f67) a67 = true := by kernel_rfl
theorem s67_call {s0 : Value} {K : Value → World → Prop} {w : World} (hm : Try.prog.follows .mixedOrders = true) (h : s67 s0 K w) : CallS Try.prog 67 #[s0] K w :=
  fn_call (args := [s0]) (m := 60) hm Try.func67 (by kernel_rfl) (rs := Try.f67.results) rfl Try.ntmps67 s67_dst s67_ann (by rw [s67_den]; exact h)

/-! number 68 -/
def a68 : Ann :=
 (.q (.r [.plain 2]) (.q (.r [.plain 2]) .s))
def s68 (s0 : Value) (K : Value → World → Prop) (w : World) : Prop :=
 BoxS 40 s0 (fun s1 w =>
 K (Value.func (Fn.func 73) [].toArray [s1].toArray) w
 ) w
theorem s68_den (s0 : Value) (K : Value → World → Prop) (w : World) : denFn Try.prog false (bodyOf Try.f68) Try.f68.results a68 [s0] K NoP w = s68 s0 K w := by kernel_rfl
theorem s68_dst : dstsOk (1 + 3) (bodyOf Try.f68) = true := by kernel_rfl
theorem s68_ann : annOk (bodyOf Try.f68) a68 = true := by kernel_rfl
theorem s68_call {s0 : Value} {K : Value → World → Prop} {w : World} (hm : Try.prog.follows .mixedOrders = true) (h : s68 s0 K w) : CallS Try.prog 68 #[s0] K w :=
  fn_call (args := [s0]) (m := 3) hm Try.func68 (by kernel_rfl) (rs := Try.f68.results) rfl Try.ntmps68 s68_dst s68_ann (by rw [s68_den]; exact h)

/-! number 69 -/
def a69 : Ann :=
 (.q (.r [.plain 3]) (.q (.r [.plain 1]) (.j [] 4398046511100 (.q (.r [.plain 3]) (.b (.l [5, 10] 4398046510332 (.q (.r [.plain 1]) (.q (.c .s .s) (.q (.b (.q (.r [.plain 5]) (.q (.b (.j [15] 268402688 (.q (.r [.plain 3, .grp 2 [20] 1572864, .plain 2]) (.c .s (.r [.plain 3, .grp 2 [26] 100663296, .plain 2])))
  (.c (.q (.r [.plain 3]) .s) .s))) (.q (.r [.plain 9]) (.q (.r [.plain 2]) (.c (.q (.r [.plain 6]) .s) .s)))))) (.r [.plain 2])))))))
  (.q (.r [.plain 3]) .s))))
def s69 (b0 : Value) (K : Value → World → Prop) (w : World) : Prop :=
 JoinS (fun (w : World) =>
 K (Value.tuple [(Value.int .u64 0), (Value.int .i64 0), (Value.int .i64 4)].toArray) w
 ) fun J0 =>
 PureS (lenSliceV b0) fun t9 =>
 LoopS 2 (fun L1 (n5 t10 : Value) (w : World) =>
 PureS (binV .lss t10 t9) fun t11 =>
 CondS t11 (
 PureS (indexAddrV 1 b0 t10) fun t13 =>
 LoadC t13 (fun t14 w =>
 JoinS (fun (t15 : Value) (w : World) =>
 CondS t15 (
 K (Value.tuple [(Value.int .u64 0), (Value.int .i64 0), (Value.int .i64 3)].toArray) w
 ) (
 PureS (binV .and t14 (Value.int .u8 127)) fun t30 =>
 PureS (convIntV .u64 t30) fun t31 =>
 PureS (binV .mul (Value.int .i64 7) t10) fun t33 =>
 PureS (binV .shl t31 t33) fun t34 =>
 PureS (binV .or n5 t34) fun t35 =>
 PureS (binV .lss t14 (Value.int .u8 128)) fun t37 =>
 CondS t37 (
 PureS (binV .add t10 (Value.int .i64 1)) fun t40 =>
 K (Value.tuple [t35, t40, (Value.int .i64 0)].toArray) w
 ) (
 PureS (binV .add t10 (Value.int .i64 1)) fun t41 =>
 L1 t35 t41 w
 )
 )
 ) fun J2 =>
 PureS (binV .eql t10 (Value.int .i64 9)) fun t17 =>
 JoinS (fun (t20 : Value) (w : World) =>
 PureS (pickV t17 t20 (Value.bool false)) fun t21 =>
 CondS t21 (
 J2 t21 w
 ) (
 PureS (binV .gtr t10 (Value.int .i64 0)) fun t23 =>
 JoinS (fun (t26 : Value) (w : World) =>
 PureS (pickV t23 t26 (Value.bool false)) fun t27 =>
 J2 t27 w
 ) fun J4 =>
 IfB t23 true (
 PureS (binV .eql t14 (Value.int .u8 0)) fun t26_1 =>
 J4 t26_1 w
 ) (
 J4 undef w
 )
 )
 ) fun J3 =>
 IfB t17 true (
 PureS (binV .gtr t14 (Value.int .u8 1)) fun t20_1 =>
 J3 t20_1 w
 ) (
 J3 undef w
 )
 ) w
 ) (
 J0 w
 )
 ) (Value.int .u64 0) (Value.int .i64 0) w
theorem s69_den (b0 : Value) (K : Value → World → Prop) (w : World) : denFn Try.prog false (bodyOf Try.f69) Try.f69.results a69 [b0] K NoP w = s69 b0 K w := by kernel_rfl
theorem s69_dst : dstsOk (1 + 41) (bodyOf Try.f69) = true := by kernel_rfl
theorem s69_ann : annOk (bodyOf Try.f69) a69 = true := by kernel_rfl
theorem s69_call {b0 : Value} {K : Value → World → Prop} {w : World} (hm : Try.prog.follows .mixedOrders = true) (h : s69 b0 K w) : CallS Try.prog 69 #[b0] K w :=
  fn_call (args := [b0]) (m := 41) hm Try.func69 (by kernel_rfl) (rs := Try.f69.results) rfl Try.ntmps69 s69_dst s69_ann (by rw [s69_den]; exact h)

/-! number 70 -/
def a70 : Ann :=
 (.q (.r [.plain 3]) (.q (.r [.plain 1]) (.j [] 70368744177660 (.q (.r [.plain 1]) (.b (.l [5, 6] 70368744177660 (.q (.q (.r [.plain 4]) (.c .s .s)) (.q (.b (.q (.r [.plain 6]) (.q (.q (.r [.plain 3, .grp 2 [23] 12582912, .plain 2, .grp 3 [28] 469762048, .grp 2 [30] 1610612736, .grp 1 [31] 2147483648, .plain 1]) (.c (.q (.r [.plain 3]) .s) .s)) (.q (.r [.plain 9]) (.q (.r [.plain 2]) (.c (.q (.r [.plain 6]) .s) .s)))))) (.r [.plain 3]))))))
  (.q (.r [.plain 3]) .s))))
def s70 (b0 : Value) (K : Value → World → Prop) (w : World) : Prop :=
 JoinS (fun (w : World) =>
 K (Value.tuple [(Value.int .u64 0), (Value.int .i64 0), (Value.int .i64 4)].toArray) w
 ) fun J0 =>
 LoopS 2 (fun L1 (n5 i6 : Value) (w : World) =>
 PureS (lenSliceV b0) fun t10 =>
 PureS (binV .lss i6 t10) fun t11 =>
 CondS t11 (
 PureS (indexAddrV 1 b0 i6) fun t16 =>
 LoadC t16 (fun t17 w =>
 PureS (convIntV .u64 t17) fun t18 =>
 PureS (binV .eql i6 (Value.int .i64 9)) fun t20 =>
 JoinS (fun (t23 : Value) (w : World) =>
 PureS (pickV t20 t23 (Value.bool false)) fun t24 =>
 JoinS (fun (t28 : Value) (w : World) =>
 JoinS (fun (t30 : Value) (w : World) =>
 JoinS (fun (t31 : Value) (w : World) =>
 PureS (pickV t24 (Value.bool true) t31) fun t32 =>
 CondS t32 (
 K (Value.tuple [(Value.int .u64 0), (Value.int .i64 0), (Value.int .i64 3)].toArray) w
 ) (
 PureS (binV .and t18 (Value.int .u64 127)) fun t35 =>
 PureS (binV .mul (Value.int .i64 7) i6) fun t37 =>
 PureS (convIntV .u64 t37) fun t38 =>
 PureS (binV .shl t35 t38) fun t39 =>
 PureS (binV .or n5 t39) fun t40 =>
 PureS (binV .lss t18 (Value.int .u64 128)) fun t42 =>
 CondS t42 (
 PureS (binV .add i6 (Value.int .i64 1)) fun t45 =>
 K (Value.tuple [t40, t45, (Value.int .i64 0)].toArray) w
 ) (
 PureS (binV .add i6 (Value.int .i64 1)) fun t13 =>
 L1 t40 t13 w
 )
 )
 ) fun J5 =>
 IfB t24 false (
 PureS (pickV t28 t30 (Value.bool false)) fun t31_1 =>
 J5 t31_1 w
 ) (
 J5 undef w
 )
 ) fun J4 =>
 IfB t28 true (
 PureS (binV .eql t18 (Value.int .u64 0)) fun t30_1 =>
 J4 t30_1 w
 ) (
 J4 undef w
 )
 ) fun J3 =>
 IfB t24 false (
 PureS (binV .gtr i6 (Value.int .i64 0)) fun t27 =>
 J3 t27 w
 ) (
 J3 undef w
 )
 ) fun J2 =>
 IfB t20 true (
 PureS (binV .gtr t18 (Value.int .u64 1)) fun t23_1 =>
 J2 t23_1 w
 ) (
 J2 undef w
 )
 ) w
 ) (
 J0 w
 )
 ) (Value.int .u64 0) (Value.int .i64 0) w
theorem s70_den (b0 : Value) (K : Value → World → Prop) (w : World) : denFn Try.prog false (bodyOf Try.f70) Try.f70.results a70 [b0] K NoP w = s70 b0 K w := by kernel_rfl
theorem s70_dst : dstsOk (1 + 45) (bodyOf Try.f70) = true := by kernel_rfl
theorem s70_ann : annOk (bodyOf Try.f70) a70 = true := by kernel_rfl
theorem s70_call {b0 : Value} {K : Value → World → Prop} {w : World} (hm : Try.prog.follows .mixedOrders = true) (h : s70 b0 K w) : CallS Try.prog 70 #[b0] K w :=
  fn_call (args := [b0]) (m := 45) hm Try.func70 (by kernel_rfl) (rs := Try.f70.results) rfl Try.ntmps70 s70_dst s70_ann (by rw [s70_den]; exact h)

/-! number 71 -/
def a71 : Ann :=
 (.q (.r [.plain 1]) (.q (.r [.plain 1]) (.b (.l [1, 2, 3, 8, 9] 21778071482940061661655974875633165532942 (.b (.q (.r [.plain 4]) (.q (.q (.r [.plain 2]) (.c (.q (.r [.plain 4]) .s) .s)) (.q (.q (.r [.plain 2]) (.c (.q (.r [.plain 4]) .s) .s)) (.j [3] 4380866641928 (.q (.r [.plain 2]) (.c (.q (.r [.plain 4]) (.r [.plain 3])) .s))
  (.q (.r [.plain 9]) (.j [11, 12] 2305280059260278784 (.q (.r [.plain 2]) (.c (.q (.r [.plain 4]) (.q (.r [.plain 7]) (.r [.plain 1]))) .s))
  (.j [] 9442427122730076733440 (.q (.r [.plain 2, .grp 1 [63] 9223372036854775808, .plain 2, .grp 2 [67] 221360928884514619392, .plain 1]) (.c (.q (.r [.plain 4]) (.c .s .s)) .s))
  (.q (.j [87] 309475565088379329434353664 (.d [0, 1, 3, 7, 7, 23, 63, 127, 7, 7, 775, 1799, 4095, 8191, 16383] (.pur 0 (.pur 1 (.pur 2 (.ite 2 (.pur 3 (.pur 4 (.pur 5 (.pur 6 (.pur 8 (.pur 9 (.pur 10 (.hld 7 (.hld 11 (.act 12 (.pur 13 (.pur 14 .fin)))))))))))) (.skp 3 (.skp 4 (.skp 5 (.skp 6 (.skp 7 (.skp 8 (.skp 9 (.skp 10 (.skp 11 (.skp 12 (.skp 13 (.pur 14 .fin)))))))))))))))))
  (.c (.q (.r [.plain 6]) (.q (.r [.plain 2]) .s)) .s)) (.q (.r [.plain 10]) (.q (.r [.plain 2]) (.q (.r [.plain 8]) (.q (.r [.plain 3]) (.q (.r [.plain 3]) (.c (.q (.r [.plain 4]) (.q (.r [.plain 5]) (.r [.plain 3]))) (.q (.r [.plain 4]) (.q (.r [.plain 6]) (.r [.plain 2]))))))))))))))))))))))
def s71 (data0 a1 b2 limit3 : Value) (K : Value → World → Prop) (w : World) : Prop :=
 LoopS 5 (fun L0 (a1_1 b2_1 limit3_1 wasBalanced8 wasPartitioned9 : Value) (w : World) =>
 PureS (binV .sub b2_1 a1_1) fun t21 =>
 PureS (binV .leq t21 (Value.int .i64 12)) fun t23 =>
 CondS t23 (
 CallS Try.prog 74 [data0, a1_1, b2_1].toArray (fun t27 w =>
 K (Value.tuple [].toArray) w
 ) w
 ) (
 PureS (binV .eql limit3_1 (Value.int .i64 0)) fun t29 =>
 CondS t29 (
 CallS Try.prog 75 [data0, a1_1, b2_1].toArray (fun t33 w =>
 K (Value.tuple [].toArray) w
 ) w
 ) (
 JoinS (fun (limit3_2 : Value) (w : World) =>
 CallS Try.prog 77 [data0, a1_1, b2_1].toArray (fun t46 w =>
 PureS (extractV 0 t46) fun t47 =>
 PureS (extractV 1 t46) fun t48 =>
 JoinS (fun (pivot11 hint12 : Value) (w : World) =>
 JoinS (fun (w : World) =>
 JoinS (fun (t87 : Value) (w : World) =>
 CondS t87 (
 CallS Try.prog 81 [data0, a1_1, b2_1, pivot11].toArray (fun t92 w =>
 L0 t92 b2_1 limit3_2 wasBalanced8 wasPartitioned9 w
 ) w
 ) (
 CallS Try.prog 82 [data0, a1_1, b2_1, pivot11].toArray (fun t99 w =>
 PureS (extractV 0 t99) fun t100 =>
 PureS (extractV 1 t99) fun t101 =>
 PureS (binV .sub t100 a1_1) fun t105 =>
 PureS (binV .sub b2_1 t100) fun t108 =>
 PureS (binV .quo t21 (Value.int .i64 8)) fun t110 =>
 PureS (binV .lss t105 t108) fun t113 =>
 CondS t113 (
 PureS (binV .geq t105 t110) fun t116 =>
 CallS Try.prog 71 [data0, a1_1, t100, limit3_2].toArray (fun t121 w =>
 PureS (binV .add t100 (Value.int .i64 1)) fun t123 =>
 L0 t123 b2_1 limit3_2 t116 t101 w
 ) w
 ) (
 PureS (binV .geq t108 t110) fun t126 =>
 PureS (binV .add t100 (Value.int .i64 1)) fun t129 =>
 CallS Try.prog 71 [data0, t129, b2_1, limit3_2].toArray (fun t132 w =>
 L0 a1_1 t100 limit3_2 t126 t101 w
 ) w
 )
 ) w
 )
 ) fun J4 =>
 DrawS fun S5 => S5 w.drew ∧ (
 PureS (binV .gtr a1_1 (Value.int .i64 0)) fun t74 =>
 CondS t74 (
 PureS (binV .sub a1_1 (Value.int .i64 1)) fun t78 =>
 PureS (indexAddrV 1 data0 t78) fun t79 =>
 PureS (indexAddrV 1 data0 pivot11) fun t83 =>
 HeldC S5 t79 (fun t80 =>
 HeldC S5 t83 (fun t84 =>
 CallS Try.prog 80 [t80, t84].toArray (fun t85 w =>
 PureS (notV t85) fun t86 =>
 PureS (pickV (Value.bool true) t86 (Value.bool false)) fun t87_1 =>
 J4 t87_1 w
 ) w.drew
 )
 )
 ) (
 PureS (pickV (Value.bool false) undef (Value.bool false)) fun t87_2 =>
 J4 t87_2 w.drew
 )
 )
 ) fun J3 =>
 JoinS (fun (t63 : Value) (w : World) =>
 PureS (pickV wasBalanced8 t63 (Value.bool false)) fun t64 =>
 JoinS (fun (t67 : Value) (w : World) =>
 PureS (pickV t64 t67 (Value.bool false)) fun t68 =>
 CondS t68 (
 CallS Try.prog 79 [data0, a1_1, b2_1].toArray (fun t72 w =>
 CondS t72 (
 K (Value.tuple [].toArray) w
 ) (
 J3 w
 )
 ) w
 ) (
 J3 w
 )
 ) fun J7 =>
 IfB t64 true (
 PureS (binV .eql hint12 (Value.int .i64 1)) fun t67_1 =>
 J7 t67_1 w
 ) (
 J7 undef w
 )
 ) fun J6 =>
 IfB wasBalanced8 true (
 J6 wasPartitioned9 w
 ) (
 J6 undef w
 )
 ) fun J2 =>
 PureS (binV .eql t48 (Value.int .i64 2)) fun t50 =>
 CondS t50 (
 CallS Try.prog 78 [data0, a1_1, b2_1].toArray (fun t54 w =>
 PureS (binV .sub b2_1 (Value.int .i64 1)) fun t56 =>
 PureS (binV .sub t47 a1_1) fun t59 =>
 PureS (binV .sub t56 t59) fun t60 =>
 J2 t60 (Value.int .i64 1) w
 ) w
 ) (
 J2 t47 t48 w
 )
 ) w
 ) fun J1 =>
 PureS (notV wasBalanced8) fun t35 =>
 CondS t35 (
 CallS Try.prog 76 [data0, a1_1, b2_1].toArray (fun t39 w =>
 PureS (binV .sub limit3_1 (Value.int .i64 1)) fun t41 =>
 J1 t41 w
 ) w
 ) (
 J1 limit3_1 w
 )
 )
 )
 ) a1 b2 limit3 (Value.bool true) (Value.bool true) w
theorem s71_den (data0 a1 b2 limit3 : Value) (K : Value → World → Prop) (w : World) : denFn Try.prog false (bodyOf Try.f71) Try.f71.results a71 [data0, a1, b2, limit3] K NoP w = s71 data0 a1 b2 limit3 K w := by kernel_rfl
theorem s71_dst : dstsOk (4 + 130) (bodyOf Try.f71) = true := by kernel_rfl
theorem s71_ann : annOk (bodyOf Try.f71) a71 = true := by kernel_rfl
theorem s71_call {data0 a1 b2 limit3 : Value} {K : Value → World → Prop} {w : World} (hm : Try.prog.follows .mixedOrders = true) (h : s71 data0 a1 b2 limit3 K w) : CallS Try.prog 71 #[data0, a1, b2, limit3] K w :=
  fn_call (args := [data0, a1, b2, limit3]) (m := 130) hm Try.func71 (by kernel_rfl) (rs := Try.f71.results) rfl Try.ntmps71 s71_dst s71_ann (by rw [s71_den]; exact h)

/-! number 72 -/
def a72 : Ann :=
 (.q (.r [.plain 1]) (.q (.c (.q (.r [.plain 4]) .s) .s) (.q (.r [.plain 3]) .s)))
def s72 (x0 : Value) (K : Value → World → Prop) (w : World) : Prop :=
 CondS (Value.bool false) (
 PureS (convIntV .u32 x0) fun t4 =>
 CallS Try.prog 83 [t4].toArray (fun t5 w =>
 K t5 w
 ) w
 ) (
 CallS Try.prog 84 [x0].toArray (fun t7 w =>
 K t7 w
 ) w
 )
theorem s72_den (x0 : Value) (K : Value → World → Prop) (w : World) : denFn Try.prog false (bodyOf Try.f72) Try.f72.results a72 [x0] K NoP w = s72 x0 K w := by kernel_rfl
theorem s72_dst : dstsOk (1 + 7) (bodyOf Try.f72) = true := by kernel_rfl
theorem s72_ann : annOk (bodyOf Try.f72) a72 = true := by kernel_rfl
theorem s72_call {x0 : Value} {K : Value → World → Prop} {w : World} (hm : Try.prog.follows .mixedOrders = true) (h : s72 x0 K w) : CallS Try.prog 72 #[x0] K w :=
  fn_call (args := [x0]) (m := 7) hm Try.func72 (by kernel_rfl) (rs := Try.f72.results) rfl Try.ntmps72 s72_dst s72_ann (by rw [s72_den]; exact h)

/-! number 73 -/
def a73 : Ann :=
 (.q (.r [.plain 4]) (.b (.l [3] 524168 (.q (.q (.r [.plain 2]) (.c .s .s)) (.q (.b (.q (.r [.plain 8]) (.c .s .s))) (.r [.plain 3]))))))
def s73 (yield0 t1 : Value) (K : Value → World → Prop) (w : World) : Prop :=
 LoadC t1 (fun t4 w =>
 PureS (lenSliceV t4) fun t5 =>
 PureS (binV .sub t5 (Value.int .i64 1)) fun t6 =>
 LoopS 1 (fun L0 (i3 : Value) (w : World) =>
 PureS (binV .geq i3 (Value.int .i64 0)) fun t8 =>
 CondS t8 (
 LoadC t1 (fun t13 w =>
 PureS (indexAddrV 1 t13 i3) fun t15 =>
 LoadC t15 (fun t16 w =>
 CallV' Try.prog false yield0 [i3, t16] NoP (fun t17 w =>
 PureS (notV t17) fun t18 =>
 CondS t18 (
 K (Value.tuple [].toArray) w
 ) (
 PureS (binV .sub i3 (Value.int .i64 1)) fun t10 =>
 L0 t10 w
 )
 ) w
 ) w
 ) w
 ) (
 K (Value.tuple [].toArray) w
 )
 ) t6 w
 ) w
theorem s73_den (yield0 t1 : Value) (K : Value → World → Prop) (w : World) : denFn Try.prog false (bodyOf Try.f73) Try.f73.results a73 [yield0, t1] K NoP w = s73 yield0 t1 K w := by kernel_rfl
theorem s73_dst : dstsOk (2 + 17) (bodyOf Try.f73) = true := by kernel_rfl
theorem s73_ann : annOk (bodyOf Try.f73) a73 = true := by kernel_rfl
theorem s73_call {yield0 t1 : Value} {K : Value → World → Prop} {w : World} (hm : Try.prog.follows .mixedOrders = true) (h : s73 yield0 t1 K w) : CallS Try.prog 73 #[yield0, t1] K w :=
  fn_call (args := [yield0, t1]) (m := 17) hm Try.func73 (by kernel_rfl) (rs := Try.f73.results) rfl Try.ntmps73 s73_dst s73_ann (by rw [s73_den]; exact h)

/-! number 74 -/
def a74 : Ann :=
 (.q (.r [.plain 3]) (.b (.l [6] 562949953420480 (.q (.q (.r [.plain 3]) (.c .s .s)) (.j [] 562949953388672 (.b (.q (.r [.plain 2]) (.b (.l [7] 562949953355904 (.q (.j [30] 2147418112 (.d [0, 0, 3, 7, 15, 15, 63, 127, 15, 15, 527, 1807, 3855, 8191, 16383] (.pur 0 (.pur 1 (.pur 2 (.pur 3 (.ite 3 (.pur 4 (.pur 5 (.pur 6 (.pur 8 (.pur 9 (.pur 10 (.pur 11 (.hld 7 (.hld 12 (.act 13 (.pur 14 .fin))))))))))) (.skp 4 (.skp 5 (.skp 6 (.skp 7 (.skp 8 (.skp 9 (.skp 10 (.skp 11 (.skp 12 (.skp 13 (.pur 14 .fin)))))))))))))))))
  (.c .s .s)) (.q (.b (.d [0, 0, 0, 0, 8, 0, 0, 64, 224, 480, 0, 0, 3072, 7168, 16355, 32739, 65535, 131071] (.pur 0 (.pur 1 (.pur 2 (.pur 3 (.pur 4 (.pur 5 (.pur 6 (.pur 7 (.pur 8 (.pur 10 (.pur 11 (.pur 12 (.hld 9 (.hld 13 (.pur 14 (.act 15 (.pur 16 (.act 17 .fin)))))))))))))))))))) (.r [.plain 3])))))))
  (.r [.plain 3]))))))
def s74 (data0 a1 b2 : Value) (K : Value → World → Prop) (w : World) : Prop :=
 PureS (binV .add a1 (Value.int .i64 1)) fun t9 =>
 LoopS 1 (fun L0 (i6 : Value) (w : World) =>
 PureS (binV .lss i6 b2) fun t12 =>
 CondS t12 (
 JoinS (fun (w : World) =>
 PureS (binV .add i6 (Value.int .i64 1)) fun t14 =>
 L0 t14 w
 ) fun J1 =>
 LoopS 1 (fun L2 (j7 : Value) (w : World) =>
 JoinS (fun (t30 : Value) (w : World) =>
 CondS t30 (
 DrawS fun S4 => S4 w.drew ∧ (
 PureS (binV .sub j7 (Value.int .i64 1)) fun t37 =>
 PureS (binV .sub j7 (Value.int .i64 1)) fun t40 =>
 PureS (indexAddrV 1 data0 t40) fun t41 =>
 PureS (indexAddrV 1 data0 j7) fun t45 =>
 HeldC S4 t41 (fun t42 =>
 HeldC S4 t45 (fun t46 =>
 PureS (indexAddrV 1 data0 j7) fun t47 =>
 StoreC t47 t42 (fun w =>
 PureS (indexAddrV 1 data0 t37) fun t48 =>
 StoreC t48 t46 (fun w =>
 PureS (binV .sub j7 (Value.int .i64 1)) fun t32 =>
 L2 t32 w
 ) w
 ) w.drew
 )
 )
 )
 ) (
 J1 w
 )
 ) fun J3 =>
 DrawS fun S5 => S5 w.drew ∧ (
 PureS (binV .gtr j7 a1) fun t18 =>
 CondS t18 (
 PureS (indexAddrV 1 data0 j7) fun t22 =>
 PureS (binV .sub j7 (Value.int .i64 1)) fun t26 =>
 PureS (indexAddrV 1 data0 t26) fun t27 =>
 HeldC S5 t22 (fun t23 =>
 HeldC S5 t27 (fun t28 =>
 CallS Try.prog 80 [t23, t28].toArray (fun t29 w =>
 PureS (pickV (Value.bool true) t29 (Value.bool false)) fun t30_1 =>
 J3 t30_1 w
 ) w.drew
 )
 )
 ) (
 PureS (pickV (Value.bool false) undef (Value.bool false)) fun t30_2 =>
 J3 t30_2 w.drew
 )
 )
 ) i6 w
 ) (
 K (Value.tuple [].toArray) w
 )
 ) t9 w
theorem s74_den (data0 a1 b2 : Value) (K : Value → World → Prop) (w : World) : denFn Try.prog false (bodyOf Try.f74) Try.f74.results a74 [data0, a1, b2] K NoP w = s74 data0 a1 b2 K w := by kernel_rfl
theorem s74_dst : dstsOk (3 + 46) (bodyOf Try.f74) = true := by kernel_rfl
theorem s74_ann : annOk (bodyOf Try.f74) a74 = true := by kernel_rfl
theorem s74_call {data0 a1 b2 : Value} {K : Value → World → Prop} {w : World} (hm : Try.prog.follows .mixedOrders = true) (h : s74 data0 a1 b2 K w) : CallS Try.prog 74 #[data0, a1, b2] K w :=
  fn_call (args := [data0, a1, b2]) (m := 46) hm Try.func74 (by kernel_rfl) (rs := Try.f74.results) rfl Try.ntmps74 s74_dst s74_ann (by rw [s74_den]; exact h)

/-! number 75 -/
def a75 : Ann :=
 (.q (.r [.plain 2]) (.q (.r [.plain 1]) (.q (.r [.plain 4]) (.j [] 134185472 (.q (.r [.plain 4]) (.b (.l [9] 133956096 (.q (.q (.r [.plain 2]) (.c .s .s)) (.q (.b (.r [.plain 5])) (.r [.plain 3]))))))
  (.q (.r [.plain 3]) (.b (.l [10] 72057593501058048 (.q (.q (.r [.plain 2]) (.c .s .s)) (.q (.b (.q (.d [0, 0, 0, 0, 0, 24, 0, 0, 0, 384, 960, 1984, 0, 0, 12288, 28672, 65475, 131011, 262143, 524287] (.pur 0 (.pur 1 (.pur 2 (.pur 3 (.pur 4 (.pur 5 (.pur 6 (.pur 7 (.pur 8 (.pur 9 (.pur 10 (.pur 12 (.pur 13 (.pur 14 (.hld 11 (.hld 15 (.pur 16 (.act 17 (.pur 18 (.act 19 .fin))))))))))))))))))))) (.r [.plain 5]))) (.r [.plain 3]))))))))))
def s75 (data0 a1 b2 : Value) (K : Value → World → Prop) (w : World) : Prop :=
 PureS (binV .sub b2 a1) fun t14 =>
 JoinS (fun (w : World) =>
 PureS (binV .sub t14 (Value.int .i64 1)) fun t28 =>
 LoopS 1 (fun L1 (i10 : Value) (w : World) =>
 PureS (binV .geq i10 (Value.int .i64 0)) fun t30 =>
 CondS t30 (
 DrawS fun S2 => S2 w.drew ∧ (
 PureS (binV .add a1 i10) fun t38 =>
 PureS (binV .add a1 i10) fun t42 =>
 PureS (indexAddrV 1 data0 t42) fun t43 =>
 PureS (indexAddrV 1 data0 a1) fun t47 =>
 HeldC S2 t43 (fun t44 =>
 HeldC S2 t47 (fun t48 =>
 PureS (indexAddrV 1 data0 a1) fun t49 =>
 StoreC t49 t44 (fun w =>
 PureS (indexAddrV 1 data0 t38) fun t50 =>
 StoreC t50 t48 (fun w =>
 CallS Try.prog 85 [data0, (Value.int .i64 0), i10, a1].toArray (fun t55 w =>
 PureS (binV .sub i10 (Value.int .i64 1)) fun t32 =>
 L1 t32 w
 ) w
 ) w
 ) w.drew
 )
 )
 )
 ) (
 K (Value.tuple [].toArray) w
 )
 ) t28 w
 ) fun J0 =>
 PureS (binV .sub t14 (Value.int .i64 1)) fun t16 =>
 PureS (binV .quo t16 (Value.int .i64 2)) fun t17 =>
 LoopS 1 (fun L3 (i9 : Value) (w : World) =>
 PureS (binV .geq i9 (Value.int .i64 0)) fun t19 =>
 CondS t19 (
 CallS Try.prog 85 [data0, i9, t14, a1].toArray (fun t26 w =>
 PureS (binV .sub i9 (Value.int .i64 1)) fun t21 =>
 L3 t21 w
 ) w
 ) (
 J0 w
 )
 ) t17 w
theorem s75_den (data0 a1 b2 : Value) (K : Value → World → Prop) (w : World) : denFn Try.prog false (bodyOf Try.f75) Try.f75.results a75 [data0, a1, b2] K NoP w = s75 data0 a1 b2 K w := by kernel_rfl
theorem s75_dst : dstsOk (3 + 53) (bodyOf Try.f75) = true := by kernel_rfl
theorem s75_ann : annOk (bodyOf Try.f75) a75 = true := by kernel_rfl
theorem s75_call {data0 a1 b2 : Value} {K : Value → World → Prop} {w : World} (hm : Try.prog.follows .mixedOrders = true) (h : s75 data0 a1 b2 K w) : CallS Try.prog 75 #[data0, a1, b2] K w :=
  fn_call (args := [data0, a1, b2]) (m := 53) hm Try.func75 (by kernel_rfl) (rs := Try.f75.results) rfl Try.ntmps75 s75_dst s75_ann (by rw [s75_den]; exact h)

/-! number 76 -/
def a76 : Ann :=
 (.q (.r [.plain 4]) (.q (.r [.plain 2]) (.c (.q (.r [.plain 4]) (.q (.r [.plain 3]) (.q (.r [.plain 7]) (.b (.l [9] 36893488147351995904 (.q (.q (.r [.plain 8]) (.c .s .s)) (.q (.b (.q (.r [.plain 6]) (.j [10] 138538465100800 (.q (.r [.plain 3]) (.c (.r [.plain 4]) .s))
  (.d [0, 0, 0, 0, 0, 24, 0, 0, 0, 384, 960, 1984, 0, 0, 12288, 28672, 65475, 131011, 262143, 524287] (.pur 0 (.pur 1 (.pur 2 (.pur 3 (.pur 4 (.pur 5 (.pur 6 (.pur 7 (.pur 8 (.pur 9 (.pur 10 (.pur 12 (.pur 13 (.pur 14 (.hld 11 (.hld 15 (.pur 16 (.act 17 (.pur 18 (.act 19 .fin)))))))))))))))))))))))) (.r [.plain 3])))))))) .s)))
def s76 (data0 a1 b2 : Value) (K : Value → World → Prop) (w : World) : Prop :=
 PureS (binV .sub b2 a1) fun t13 =>
 PureS (binV .geq t13 (Value.int .i64 8)) fun t15 =>
 CondS t15 (
 PureS (convIntV .u64 t13) fun t17 =>
 BoxS 114 (Value.int .u64 0) (fun random7 w =>
 StoreC random7 t17 (fun w =>
 CallS Try.prog 86 [t13].toArray (fun t19 w =>
 PureS (binV .quo t13 (Value.int .i64 4)) fun t22 =>
 PureS (binV .mul t22 (Value.int .i64 2)) fun t23 =>
 PureS (binV .add a1 t23) fun t24 =>
 PureS (binV .sub t24 (Value.int .i64 1)) fun t25 =>
 LoopS 1 (fun L0 (idx9 : Value) (w : World) =>
 PureS (binV .quo t13 (Value.int .i64 4)) fun t29 =>
 PureS (binV .mul t29 (Value.int .i64 2)) fun t30 =>
 PureS (binV .add a1 t30) fun t31 =>
 PureS (binV .add t31 (Value.int .i64 1)) fun t32 =>
 PureS (binV .leq idx9 t32) fun t33 =>
 CondS t33 (
 CallS Try.prog 87 [random7].toArray (fun t36 w =>
 PureS (binV .sub t19 (Value.int .u64 1)) fun t38 =>
 PureS (binV .and t36 t38) fun t39 =>
 PureS (convIntV .i64 t39) fun t40 =>
 JoinS (fun (other10 : Value) (w : World) =>
 DrawS fun S2 => S2 w.drew ∧ (
 PureS (binV .add a1 other10) fun t52 =>
 PureS (binV .add a1 other10) fun t56 =>
 PureS (indexAddrV 1 data0 t56) fun t57 =>
 PureS (indexAddrV 1 data0 idx9) fun t61 =>
 HeldC S2 t57 (fun t58 =>
 HeldC S2 t61 (fun t62 =>
 PureS (indexAddrV 1 data0 idx9) fun t63 =>
 StoreC t63 t58 (fun w =>
 PureS (indexAddrV 1 data0 t52) fun t64 =>
 StoreC t64 t62 (fun w =>
 PureS (binV .add idx9 (Value.int .i64 1)) fun t35 =>
 L0 t35 w
 ) w
 ) w.drew
 )
 )
 )
 ) fun J1 =>
 PureS (binV .geq t40 t13) fun t43 =>
 CondS t43 (
 PureS (binV .sub t40 t13) fun t46 =>
 J1 t46 w
 ) (
 J1 t40 w
 )
 ) w
 ) (
 K (Value.tuple [].toArray) w
 )
 ) t25 w
 ) w
 ) w
 ) w
 ) (
 K (Value.tuple [].toArray) w
 )
theorem s76_den (data0 a1 b2 : Value) (K : Value → World → Prop) (w : World) : denFn Try.prog false (bodyOf Try.f76) Try.f76.results a76 [data0, a1, b2] K NoP w = s76 data0 a1 b2 K w := by kernel_rfl
theorem s76_dst : dstsOk (3 + 62) (bodyOf Try.f76) = true := by kernel_rfl
theorem s76_ann : annOk (bodyOf Try.f76) a76 = true := by kernel_rfl
theorem s76_call {data0 a1 b2 : Value} {K : Value → World → Prop} {w : World} (hm : Try.prog.follows .mixedOrders = true) (h : s76 data0 a1 b2 K w) : CallS Try.prog 76 #[data0, a1, b2] K w :=
  fn_call (args := [data0, a1, b2]) (m := 62) hm Try.func76 (by kernel_rfl) (rs := Try.f76.results) rfl Try.ntmps76 s76_dst s76_ann (by rw [s76_den]; exact h)
end Go.Proofs.Ytambcnlkdnmekaa
