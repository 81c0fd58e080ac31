/- Laid out by a program of ours: what each function of the cut comes to, over named values; and that it is so. -/
import Derived.Test.YtambcnlkdnmekaaG5
import Derived.Test.YtambcnlkdnmekaaProg
set_option linter.unusedVariables false
set_option maxRecDepth 100000
namespace Go.Proofs.Ytambcnlkdnmekaa
open Go SG

/-! number 24 -/
def a24 : Ann :=
 (.q (.r [.plain 3]) (.j [] 85070591730234615865843651857942052848 (.q (.r [.plain 2]) (.b (.q (.r [.plain 2]) (.c (.q (.r [.plain 4]) .s) (.q (.r [.plain 2]) (.c (.q (.r [.plain 6]) (.j [] 17592183947408 (.q (.r [.plain 1]) (.b (.l [7] 17592183947408 (.q (.q (.r [.plain 5]) (.c .s .s)) (.q (.b (.q (.d [0, 0, 2, 0, 14, 30, 63, 0, 0, 256, 0, 0, 2048, 7936, 16383, 32767] (.pur 0 (.pur 1 (.pur 3 (.pur 7 (.pur 8 (.pur 10 (.pur 11 (.pur 12 (.hld 2 (.pur 4 (.hld 5 (.hld 9 (.pur 13 (.act 6 (.act 14 (.pur 15 .fin))))))))))))))))) (.c (.q (.r [.plain 1]) .s) .s))) (.r [.plain 3]))))))
  (.q (.d [0, 1, 0, 7, 0, 16, 0, 64, 192, 448, 1023, 2047, 4095, 8191, 16383, 8191, 40959, 106495, 237567, 524287, 1048575, 2097151] (.pur 0 (.pur 2 (.pur 4 (.pur 6 (.pur 7 (.pur 8 (.hld 1 (.hld 5 (.hld 9 (.act 3 (.act 10 (.pur 11 (.pur 12 (.ite 12 (.pur 13 (.pur 15 (.pur 16 (.pur 17 (.hld 18 (.act 14 (.act 19 (.pur 20 (.pur 21 .fin))))))))) (.skp 13 (.skp 14 (.skp 15 (.skp 16 (.skp 17 (.skp 18 (.skp 19 (.pur 20 (.pur 21 .fin)))))))))))))))))))))))) .s))) (.q (.r [.plain 2]) (.c (.q (.d [0, 1, 0, 4, 15, 0, 32, 0, 128, 384, 896, 1920, 4095, 8191, 16383, 32767, 65535, 131071, 262143, 524287, 1048575] (.pur 0 (.pur 2 (.pur 5 (.pur 7 (.hld 1 (.hld 3 (.hld 6 (.hld 8 (.pur 9 (.pur 10 (.hld 11 (.act 4 (.act 12 (.pur 13 (.pur 14 (.ite 14 (.pur 15 (.hld 16 (.act 17 (.pur 18 (.pur 19 (.pur 20 .fin)))))) (.skp 15 (.skp 16 (.skp 17 (.skp 18 (.pur 19 (.pur 20 .fin))))))))))))))))))))))) .s) (.q (.r [.plain 2]) (.c (.q (.r [.plain 3]) (.d [0, 1, 0, 4, 3, 19, 51, 127, 255, 511] (.pur 0 (.pur 2 (.hld 1 (.pur 4 (.pur 5 (.hld 3 (.act 6 (.pur 7 (.pur 8 (.act 9 .fin)))))))))))) (.q (.r [.plain 2]) (.c (.q (.r [.plain 3]) (.r [.plain 3])) (.q (.r [.plain 2]) (.c (.q (.d [0, 1, 3, 0, 8, 31, 63, 127] (.pur 0 (.pur 3 (.hld 1 (.hld 4 (.act 2 (.act 5 (.pur 6 (.pur 7 .fin))))))))) .s) (.q (.r [.plain 2]) (.c (.q (.d [0, 1, 3, 0, 8, 31, 63, 127] (.pur 0 (.pur 3 (.hld 1 (.hld 4 (.act 2 (.act 5 (.pur 6 (.pur 7 .fin))))))))) .s) .s))))))))))))))))
  (.q (.r [.plain 1]) .s)))
def s24 (x0 a1 : Value) (K : Value → World → Prop) (w : World) : Prop :=
 BoxS 53 x0 (fun x2 w =>
 BoxS 56 a1 (fun a3 w =>
 JoinS (fun (w : World) =>
 K (Value.bool true) w
 ) fun J0 =>
 PureS (fieldAddrV 0 a3) fun t8 =>
 LoadC t8 (fun t9 w =>
 PureS (binV .eql t9 (Value.int .i64 0)) fun t11 =>
 CondS t11 (
 LoadA 2 x2 (fun t12 w =>
 LoadA 7 a3 (fun t13 w =>
 CallS Try.prog 46 [t12, t13].toArray (fun t14 w =>
 K t14 w
 ) w
 ) w
 ) w
 ) (
 PureS (binV .eql t9 (Value.int .i64 1)) fun t16 =>
 CondS t16 (
 RunS Try.prog (Instr.build 26 [].toArray) (fun t17 w =>
 BoxS 26 t17 (fun t18 w =>
 RunS Try.prog (Instr.build 51 [].toArray) (fun t19 w =>
 BoxS 51 t19 (fun t20 w =>
 JoinS (fun (w : World) =>
 DrawS fun S2 => S2 w.drew ∧ (
 PureS (fieldAddrV 0 x2) fun t44 =>
 PureS (fieldAddrV 1 x2) fun t48 =>
 PureS (nilV t20) fun t51 =>
 PureS (fieldAddrV 0 t51) fun t52 =>
 HeldC S2 t44 (fun t45 =>
 HeldC S2 t48 (fun t49 =>
 HeldC S2 t52 (fun t53 =>
 CallS Try.prog 12 [t45, t18].toArray (fun t47 w =>
 S2 w ∧ (
 CallS Try.prog 47 [t49, t53].toArray (fun t54 w =>
 S2 w ∧ (
 PureS (binV .eql t47 t54) fun t55 =>
 CondS t55 (
 PureS (nilV t20) fun t60 =>
 PureS (fieldAddrV 0 t60) fun t61 =>
 HeldC S2 t61 (fun t62 =>
 CallS Try.prog 9 [t18].toArray (fun t58 w =>
 S2 w ∧ (
 CallS Try.prog 13 [t58, t62].toArray (fun t63 w =>
 PureS (pickV (Value.bool true) t63 (Value.bool false)) fun t64 =>
 K t64 w
 ) w
 )
 ) w
 )
 ) (
 PureS (pickV (Value.bool false) undef (Value.bool false)) fun t64_1 =>
 K t64_1 w
 )
 )
 ) w
 )
 ) w.drew
 )
 )
 )
 )
 ) fun J1 =>
 LoopS 1 (fun L3 (i7 : Value) (w : World) =>
 PureS (fieldAddrV 6 a3) fun t22 =>
 LoadC t22 (fun t23 w =>
 PureS (lenSliceV t23) fun t24 =>
 PureS (binV .lss i7 t24) fun t25 =>
 CondS t25 (
 DrawS fun S4 => S4 w.drew ∧ (
 PureS (fieldAddrV 6 a3) fun t29 =>
 PureS (fieldAddrV 6 a3) fun t36 =>
 PureS (binV .add i7 (Value.int .i64 1)) fun t40 =>
 HeldC S4 t29 (fun t30 =>
 PureS (indexAddrV 4 t30 i7) fun t32 =>
 HeldA 4 S4 t32 (fun t33 =>
 HeldC S4 t36 (fun t37 =>
 PureS (sliceV 4 t37 (some i7) (some t40)) fun t41 =>
 CallS Try.prog 8 [t18, t33].toArray (fun t34 w =>
 S4 w ∧ (
 CallS Try.prog 47 [t20, t41].toArray (fun t42 w =>
 PureS (binV .neq t34 t42) fun t43 =>
 CondS t43 (
 K (Value.bool false) w
 ) (
 PureS (binV .add i7 (Value.int .i64 1)) fun t27 =>
 L3 t27 w
 )
 ) w
 )
 ) w.drew
 )
 )
 )
 )
 ) (
 J1 w
 )
 ) w
 ) (Value.int .i64 0) w
 ) w
 ) w
 ) w
 ) w
 ) (
 PureS (binV .eql t9 (Value.int .i64 2)) fun t66 =>
 CondS t66 (
 DrawS fun S5 => S5 w.drew ∧ (
 PureS (fieldAddrV 0 x2) fun t67 =>
 PureS (fieldAddrV 0 x2) fun t69 =>
 PureS (fieldAddrV 1 x2) fun t72 =>
 PureS (fieldAddrV 1 x2) fun t74 =>
 HeldC S5 t67 (fun t68 =>
 HeldC S5 t69 (fun t70 =>
 HeldC S5 t72 (fun t73 =>
 HeldC S5 t74 (fun t75 =>
 PureS (nilV t75) fun t76 =>
 PureS (fieldAddrV 0 t76) fun t77 =>
 HeldC S5 t77 (fun t78 =>
 CallS Try.prog 12 [t68, t70].toArray (fun t71 w =>
 S5 w ∧ (
 CallS Try.prog 47 [t73, t78].toArray (fun t79 w =>
 S5 w ∧ (
 PureS (binV .eql t71 t79) fun t80 =>
 CondS t80 (
 PureS (fieldAddrV 0 x2) fun t82 =>
 HeldC S5 t82 (fun t83 =>
 CallS Try.prog 12 [t83, (Value.pointer none)].toArray (fun t84 w =>
 PureS (binV .eql t84 (Value.int .i64 1)) fun t85 =>
 PureS (pickV (Value.bool true) t85 (Value.bool false)) fun t86 =>
 K t86 w
 ) w
 )
 ) (
 PureS (pickV (Value.bool false) undef (Value.bool false)) fun t86_1 =>
 K t86_1 w
 )
 )
 ) w
 )
 ) w.drew
 )
 )
 )
 )
 )
 )
 ) (
 PureS (binV .eql t9 (Value.int .i64 3)) fun t88 =>
 CondS t88 (
 PureS (fieldAddrV 0 x2) fun t89 =>
 LoadC t89 (fun t90 w =>
 CallS Try.prog 48 [t90].toArray (fun t91 w =>
 DrawS fun S6 => S6 w.drew ∧ (
 PureS (fieldAddrV 1 x2) fun t92 =>
 PureS (fieldAddrV 1 x2) fun t94 =>
 HeldC S6 t92 (fun t93 =>
 PureS (nilV t93) fun t96 =>
 PureS (fieldAddrV 0 t96) fun t97 =>
 HeldC S6 t94 (fun t95 =>
 StoreC t97 (Value.slice none 0 0) (fun w =>
 S6 w ∧ (
 PureS (nilV t95) fun t98 =>
 PureS (fieldAddrV 1 t98) fun t99 =>
 StoreC t99 (Value.slice none 0 0) (fun w =>
 J0 w
 ) w
 )
 ) w.drew
 )
 )
 )
 ) w
 ) w
 ) (
 PureS (binV .eql t9 (Value.int .i64 4)) fun t101 =>
 CondS t101 (
 PureS (fieldAddrV 0 x2) fun t102 =>
 LoadC t102 (fun t103 w =>
 CallS Try.prog 15 [t103].toArray (fun t104 w =>
 PureS (fieldAddrV 1 x2) fun t105 =>
 LoadC t105 (fun t106 w =>
 CallS Try.prog 49 [t106].toArray (fun t107 w =>
 J0 w
 ) w
 ) w
 ) w
 ) w
 ) (
 PureS (binV .eql t9 (Value.int .i64 5)) fun t109 =>
 CondS t109 (
 DrawS fun S7 => S7 w.drew ∧ (
 PureS (fieldAddrV 0 x2) fun t110 =>
 PureS (fieldAddrV 1 x2) fun t113 =>
 HeldC S7 t110 (fun t111 =>
 HeldC S7 t113 (fun t114 =>
 CallS Try.prog 16 [t111].toArray (fun t112 w =>
 S7 w ∧ (
 CallS Try.prog 50 [t114, (Value.bool true)].toArray (fun t115 w =>
 PureS (binV .eql t112 t115) fun t116 =>
 K t116 w
 ) w
 )
 ) w.drew
 )
 )
 )
 ) (
 PureS (binV .eql t9 (Value.int .i64 6)) fun t118 =>
 CondS t118 (
 DrawS fun S8 => S8 w.drew ∧ (
 PureS (fieldAddrV 0 x2) fun t119 =>
 PureS (fieldAddrV 1 x2) fun t122 =>
 HeldC S8 t119 (fun t120 =>
 HeldC S8 t122 (fun t123 =>
 CallS Try.prog 31 [t120].toArray (fun t121 w =>
 S8 w ∧ (
 CallS Try.prog 50 [t123, (Value.bool false)].toArray (fun t124 w =>
 PureS (binV .eql t121 t124) fun t125 =>
 K t125 w
 ) w
 )
 ) w.drew
 )
 )
 )
 ) (
 J0 w
 )
 )
 )
 )
 )
 )
 )
 ) w
 ) w
 ) w
theorem s24_den (x0 a1 : Value) (K : Value → World → Prop) (w : World) : denFn Try.prog false (bodyOf Try.f24) Try.f24.results a24 [x0, a1] K NoP w = s24 x0 a1 K w := by kernel_rfl
theorem s24_dst : dstsOk (2 + 124) (bodyOf Try.f24) = true := by kernel_rfl
theorem s24_ann : annOk (bodyOf Try.f24) a24 = true := by kernel_rfl
theorem s24_call {x0 a1 : Value} {K : Value → World → Prop} {w : World} (hm : Try.prog.follows .mixedOrders = true) (h : s24 x0 a1 K w) : CallS Try.prog 24 #[x0, a1] K w :=
  fn_call (args := [x0, a1]) (m := 124) hm Try.func24 (by kernel_rfl) (rs := Try.f24.results) rfl Try.ntmps24 s24_dst s24_ann (by rw [s24_den]; exact h)

/-! number 25 -/
def a25 : Ann :=
 (.q (.r [.plain 2]) (.q (.r [.plain 4]) (.q (.d [0, 1, 3, 0, 8, 24, 56, 120, 255, 511, 1023] (.pur 0 (.pur 3 (.hld 1 (.hld 4 (.pur 5 (.pur 6 (.hld 7 (.act 2 (.act 8 (.pur 9 (.pur 10 .fin)))))))))))) (.q (.j [58] 576460752302374912 (.d [0, 0, 2, 6, 14, 30, 63, 127, 255, 511, 1023, 2047, 511, 4607, 12799, 29183, 61951, 127487, 262143, 524287, 1048575, 2097151, 4194303, 8388607, 2097151, 18874367, 52428799, 119537663, 253755391, 536870911, 1073741823, 2147483647, 4294967295, 8589934591, 17179869183, 8589934591, 42949672959, 137438953471, 274877906943] (.pur 0 (.pur 1 (.hld 2 (.pur 3 (.pur 4 (.hld 5 (.act 6 (.pur 7 (.pur 8 (.ite 8 (.skp 9 (.skp 10 (.skp 11 (.skp 12 (.skp 13 (.skp 14 (.skp 15 (.skp 16 (.skp 17 (.skp 18 (.pur 19 (.pur 20 (.ite 20 (.skp 21 (.skp 22 (.skp 23 (.skp 24 (.skp 25 (.skp 26 (.skp 27 (.skp 28 (.skp 29 (.skp 30 (.pur 31 (.pur 32 (.ite 32 (.skp 33 (.skp 34 (.skp 35 (.skp 36 (.skp 37 (.pur 38 .fin)))))) (.pur 33 (.pur 34 (.pur 35 (.pur 36 (.pur 37 (.pur 38 .fin))))))))))))))))))) (.pur 21 (.pur 24 (.hld 22 (.hld 25 (.pur 26 (.pur 27 (.hld 28 (.act 23 (.act 29 (.pur 30 (.pur 31 (.pur 32 (.ite 32 (.skp 33 (.skp 34 (.skp 35 (.skp 36 (.skp 37 (.pur 38 .fin)))))) (.pur 33 (.pur 34 (.pur 35 (.pur 36 (.pur 37 (.pur 38 .fin)))))))))))))))))))))))))))))))) (.pur 9 (.pur 12 (.hld 10 (.hld 13 (.pur 14 (.pur 15 (.hld 16 (.pur 17 (.act 11 (.pur 18 (.pur 19 (.pur 20 (.ite 20 (.skp 21 (.skp 22 (.skp 23 (.skp 24 (.skp 25 (.skp 26 (.skp 27 (.skp 28 (.skp 29 (.skp 30 (.pur 31 (.pur 32 (.ite 32 (.skp 33 (.skp 34 (.skp 35 (.skp 36 (.skp 37 (.pur 38 .fin)))))) (.pur 33 (.pur 34 (.pur 35 (.pur 36 (.pur 37 (.pur 38 .fin))))))))))))))))))) (.pur 21 (.pur 24 (.hld 22 (.hld 25 (.pur 26 (.pur 27 (.hld 28 (.act 23 (.act 29 (.pur 30 (.pur 31 (.pur 32 (.ite 32 (.skp 33 (.skp 34 (.skp 35 (.skp 36 (.skp 37 (.pur 38 .fin)))))) (.pur 33 (.pur 34 (.pur 35 (.pur 36 (.pur 37 (.pur 38 .fin)))))))))))))))))))))))))))))))))))))))))))
  (.c (.q (.r [.plain 1]) .s) .s)) (.j [] 18888889470726277431364 (.q (.r [.plain 1]) (.b (.l [6] 18888889470726277431364 (.q (.q (.r [.plain 4]) (.c .s .s)) (.q (.b (.q (.d [0, 0, 3, 7, 0, 0, 48, 112, 255] (.pur 0 (.pur 1 (.pur 2 (.pur 4 (.pur 5 (.pur 6 (.hld 3 (.hld 7 (.pur 8 .fin)))))))))) (.c (.q (.r [.plain 1]) .s) .s))) (.r [.plain 3]))))))
  (.j [] 19323923647902588214444160 (.q (.r [.plain 1]) (.b (.l [7] 19323923647902588214444160 (.q (.q (.r [.plain 4]) (.c .s .s)) (.q (.b (.r [.plain 5])) (.r [.plain 3]))))))
  (.q (.r [.plain 1]) .s)))))))
def s25 (x0 : Value) (K : Value → World → Prop) (w : World) : Prop :=
 BoxS 53 x0 (fun x1 w =>
 PureS (fieldAddrV 0 x1) fun t8 =>
 LoadC t8 (fun t9 w =>
 CallS Try.prog 9 [t9].toArray (fun t10 w =>
 DrawS fun S0 => S0 w.drew ∧ (
 PureS (fieldAddrV 0 x1) fun t11 =>
 PureS (fieldAddrV 1 x1) fun t14 =>
 HeldC S0 t11 (fun t12 =>
 HeldC S0 t14 (fun t15 =>
 PureS (nilV t15) fun t16 =>
 PureS (fieldAddrV 0 t16) fun t17 =>
 HeldC S0 t17 (fun t18 =>
 CallS Try.prog 51 [t12].toArray (fun t13 w =>
 S0 w ∧ (
 CallS Try.prog 52 [t18].toArray (fun t19 w =>
 JoinS (fun (t58 : Value) (w : World) =>
 CondS t58 (
 K (Value.bool false) w
 ) (
 JoinS (fun (w : World) =>
 JoinS (fun (w : World) =>
 K (Value.bool true) w
 ) fun J3 =>
 LoopS 1 (fun L4 (i7 : Value) (w : World) =>
 PureS (lenSliceV t10) fun t76 =>
 PureS (binV .lss i7 t76) fun t77 =>
 CondS t77 (
 RunS Try.prog (Instr.build 31 [(2, (Value.string ⟨#[115, 112, 111, 105, 108, 116]⟩))].toArray) (fun t82 w =>
 PureS (indexAddrV 4 t10 i7) fun t83 =>
 StoreA 4 t83 t82 (fun w =>
 PureS (binV .add i7 (Value.int .i64 1)) fun t79 =>
 L4 t79 w
 ) w
 ) w
 ) (
 J3 w
 )
 ) (Value.int .i64 0) w
 ) fun J2 =>
 LoopS 1 (fun L5 (i6 : Value) (w : World) =>
 PureS (lenSliceV t13) fun t61 =>
 PureS (binV .lss i6 t61) fun t62 =>
 CondS t62 (
 DrawS fun S6 => S6 w.drew ∧ (
 PureS (indexAddrV 1 t13 i6) fun t67 =>
 PureS (indexAddrV 1 t19 i6) fun t71 =>
 HeldC S6 t67 (fun t68 =>
 HeldC S6 t71 (fun t72 =>
 PureS (binV .neq t68 t72) fun t73 =>
 CondS t73 (
 K (Value.bool false) w.drew
 ) (
 PureS (binV .add i6 (Value.int .i64 1)) fun t64 =>
 L5 t64 w.drew
 )
 )
 )
 )
 ) (
 J2 w
 )
 ) (Value.int .i64 0) w
 )
 ) fun J1 =>
 DrawS fun S7 => S7 w.drew ∧ (
 PureS (fieldAddrV 1 x1) fun t21 =>
 HeldC S7 t21 (fun t22 =>
 PureS (nilV t22) fun t23 =>
 PureS (fieldAddrV 0 t23) fun t24 =>
 HeldC S7 t24 (fun t25 =>
 CallS Try.prog 13 [t10, t25].toArray (fun t26 w =>
 S7 w ∧ (
 PureS (notV t26) fun t27 =>
 CondS t27 (
 PureS (pickV (Value.bool true) (Value.bool true) undef) fun t39 =>
 CondS t39 (
 PureS (pickV (Value.bool true) (Value.bool true) undef) fun t51 =>
 CondS t51 (
 PureS (pickV (Value.bool true) (Value.bool true) undef) fun t58_1 =>
 J1 t58_1 w
 ) (
 PureS (lenSliceV t13) fun t54 =>
 PureS (lenSliceV t19) fun t56 =>
 PureS (binV .neq t54 t56) fun t57 =>
 PureS (pickV (Value.bool false) (Value.bool true) t57) fun t58_2 =>
 J1 t58_2 w
 )
 ) (
 PureS (fieldAddrV 0 x1) fun t41 =>
 PureS (fieldAddrV 1 x1) fun t44 =>
 HeldC S7 t41 (fun t42 =>
 HeldC S7 t44 (fun t45 =>
 PureS (nilV t45) fun t46 =>
 PureS (fieldAddrV 0 t46) fun t47 =>
 HeldC S7 t47 (fun t48 =>
 CallS Try.prog 10 [t42].toArray (fun t43 w =>
 S7 w ∧ (
 CallS Try.prog 36 [t48].toArray (fun t49 w =>
 PureS (binV .neq t43 t49) fun t50 =>
 PureS (pickV (Value.bool false) (Value.bool true) t50) fun t51_1 =>
 CondS t51_1 (
 PureS (pickV (Value.bool true) (Value.bool true) undef) fun t58_3 =>
 J1 t58_3 w
 ) (
 PureS (lenSliceV t13) fun t54_1 =>
 PureS (lenSliceV t19) fun t56_1 =>
 PureS (binV .neq t54_1 t56_1) fun t57_1 =>
 PureS (pickV (Value.bool false) (Value.bool true) t57_1) fun t58_4 =>
 J1 t58_4 w
 )
 ) w
 )
 ) w
 )
 )
 )
 )
 ) (
 PureS (fieldAddrV 0 x1) fun t29 =>
 PureS (fieldAddrV 1 x1) fun t32 =>
 HeldC S7 t29 (fun t30 =>
 HeldC S7 t32 (fun t33 =>
 PureS (nilV t33) fun t34 =>
 PureS (fieldAddrV 0 t34) fun t35 =>
 HeldC S7 t35 (fun t36 =>
 PureS (lenSliceV t36) fun t37 =>
 CallS Try.prog 53 [t30].toArray (fun t31 w =>
 S7 w ∧ (
 PureS (binV .neq t31 t37) fun t38 =>
 PureS (pickV (Value.bool false) (Value.bool true) t38) fun t39_1 =>
 CondS t39_1 (
 PureS (pickV (Value.bool true) (Value.bool true) undef) fun t51_2 =>
 CondS t51_2 (
 PureS (pickV (Value.bool true) (Value.bool true) undef) fun t58_5 =>
 J1 t58_5 w
 ) (
 PureS (lenSliceV t13) fun t54_2 =>
 PureS (lenSliceV t19) fun t56_2 =>
 PureS (binV .neq t54_2 t56_2) fun t57_2 =>
 PureS (pickV (Value.bool false) (Value.bool true) t57_2) fun t58_6 =>
 J1 t58_6 w
 )
 ) (
 PureS (fieldAddrV 0 x1) fun t41_1 =>
 PureS (fieldAddrV 1 x1) fun t44_1 =>
 HeldC S7 t41_1 (fun t42_1 =>
 HeldC S7 t44_1 (fun t45_1 =>
 PureS (nilV t45_1) fun t46_1 =>
 PureS (fieldAddrV 0 t46_1) fun t47_1 =>
 HeldC S7 t47_1 (fun t48_1 =>
 CallS Try.prog 10 [t42_1].toArray (fun t43_1 w =>
 S7 w ∧ (
 CallS Try.prog 36 [t48_1].toArray (fun t49_1 w =>
 PureS (binV .neq t43_1 t49_1) fun t50_1 =>
 PureS (pickV (Value.bool false) (Value.bool true) t50_1) fun t51_3 =>
 CondS t51_3 (
 PureS (pickV (Value.bool true) (Value.bool true) undef) fun t58_7 =>
 J1 t58_7 w
 ) (
 PureS (lenSliceV t13) fun t54_3 =>
 PureS (lenSliceV t19) fun t56_3 =>
 PureS (binV .neq t54_3 t56_3) fun t57_3 =>
 PureS (pickV (Value.bool false) (Value.bool true) t57_3) fun t58_8 =>
 J1 t58_8 w
 )
 ) w
 )
 ) w
 )
 )
 )
 )
 )
 ) w
 )
 )
 )
 )
 )
 ) w.drew
 )
 )
 )
 ) w
 )
 ) w.drew
 )
 )
 )
 )
 ) w
 ) w
 ) w
theorem s25_den (x0 : Value) (K : Value → World → Prop) (w : World) : denFn Try.prog false (bodyOf Try.f25) Try.f25.results a25 [x0] K NoP w = s25 x0 K w := by kernel_rfl
theorem s25_dst : dstsOk (1 + 83) (bodyOf Try.f25) = true := by kernel_rfl
theorem s25_ann : annOk (bodyOf Try.f25) a25 = true := by kernel_rfl
theorem s25_call {x0 : Value} {K : Value → World → Prop} {w : World} (hm : Try.prog.follows .mixedOrders = true) (h : s25 x0 K w) : CallS Try.prog 25 #[x0] K w :=
  fn_call (args := [x0]) (m := 83) hm Try.func25 (by kernel_rfl) (rs := Try.f25.results) rfl Try.ntmps25 s25_dst s25_ann (by rw [s25_den]; exact h)

/-! number 26 -/
def a26 : Ann :=
 (.q (.r [.plain 1]) (.q (.r [.plain 6]) (.j [5] 8589869488 (.q (.r [.plain 3]) (.b (.l [5, 18] 8589672880 (.q (.r [.plain 1]) (.q (.c .s .s) (.q (.b (.q (.r [.plain 4]) (.q (.q (.r [.plain 3]) (.q (.r [.plain 2]) (.c (.q (.r [.plain 2]) .s) .s))) (.r [.plain 6])))) (.r [.plain 2])))))))
  (.q (.q (.r [.plain 10, .grp 2 [44] 26388279066624, .plain 1]) (.c (.q (.r [.plain 1]) .s) .s)) (.j [] 18446673704965374976 (.q (.r [.plain 3]) (.b (.l [48] 18446462598732841984 (.q (.r [.plain 1]) (.q (.c .s .s) (.q (.b (.q (.r [.plain 4]) (.d [0, 0, 2, 6, 14, 0, 32, 96, 254, 511, 1023, 2047] (.pur 0 (.pur 1 (.pur 2 (.pur 3 (.hld 4 (.hld 5 (.act 6 (.act 7 (.act 8 (.pur 9 (.pur 10 (.act 11 .fin))))))))))))))) (.r [.plain 2])))))))
  (.q (.r [.plain 5]) (.q (.r [.plain 1]) .s)))))))
def s26 (b0 l1 : Value) (K : Value → World → Prop) (w : World) : Prop :=
 PureS (nilV b0) fun t12 =>
 PureS (fieldAddrV 1 t12) fun t13 =>
 LoadC t13 (fun t14 w =>
 PureS (maxV t14 (Value.int .i64 12)) fun t15 =>
 JoinS (fun (size5 : Value) (w : World) =>
 PureS (nilV b0) fun t34 =>
 PureS (fieldAddrV 0 t34) fun t35 =>
 LoadC t35 (fun t36 w =>
 PureS (lenSliceV t36) fun t37 =>
 PureS (lenSliceV l1) fun t39 =>
 PureS (binV .add t37 t39) fun t40 =>
 PureS (binV .gtr t40 (Value.int .i64 4096)) fun t41 =>
 JoinS (fun (t44 : Value) (w : World) =>
 PureS (pickV t41 (Value.bool true) t44) fun t45 =>
 CondS t45 (
 K (Value.int .i64 2) w
 ) (
 JoinS (fun (w : World) =>
 PureS (nilV b0) fun t66 =>
 PureS (fieldAddrV 1 t66) fun t67 =>
 StoreC t67 size5 (fun w =>
 K (Value.int .i64 0) w
 ) w
 ) fun J2 =>
 PureS (lenSliceV l1) fun t47 =>
 LoopS 1 (fun L3 (t48 : Value) (w : World) =>
 PureS (binV .lss t48 t47) fun t49 =>
 CondS t49 (
 PureS (indexAddrV 4 l1 t48) fun t50 =>
 LoadA 4 t50 (fun t51 w =>
 BoxS 31 (Value.agg #[(Value.int .u32 0), (Value.int .i64 0), (Value.string ⟨#[]⟩), (Value.string ⟨#[]⟩)]) (fun r10 w =>
 StoreA 4 r10 t51 (fun w =>
 DrawS fun S4 => S4 w.drew ∧ (
 PureS (nilV b0) fun t54 =>
 PureS (fieldAddrV 0 t54) fun t55 =>
 HeldC S4 t55 (fun t56 =>
 HeldA 4 S4 r10 (fun t57 =>
 CallS Try.prog 54 [t57].toArray (fun t58 w =>
 S4 w ∧ (
 RunS Try.prog (Instr.buildSlice 22 1 [(0, t58)].toArray) (fun t59 w =>
 S4 w ∧ (
 RunS Try.prog (Builtin.append_ #[22, 22] 22 [t56, t59].toArray) (fun t60 w =>
 PureS (nilV b0) fun t61 =>
 PureS (fieldAddrV 0 t61) fun t62 =>
 StoreC t62 t60 (fun w =>
 PureS (binV .add t48 (Value.int .i64 1)) fun t63 =>
 L3 t63 w
 ) w
 ) w
 )
 ) w
 )
 ) w.drew
 )
 )
 )
 ) w
 ) w
 ) w
 ) (
 J2 w
 )
 ) (Value.int .i64 0) w
 )
 ) fun J1 =>
 IfB t41 false (
 PureS (binV .gtr size5 (Value.int .i64 4194304)) fun t44_1 =>
 J1 t44_1 w
 ) (
 J1 undef w
 )
 ) w
 ) fun J0 =>
 PureS (lenSliceV l1) fun t17 =>
 LoopS 2 (fun L5 (size5_1 t18 : Value) (w : World) =>
 PureS (binV .lss t18 t17) fun t19 =>
 CondS t19 (
 PureS (indexAddrV 4 l1 t18) fun t20 =>
 LoadA 4 t20 (fun t21 w =>
 BoxS 31 (Value.agg #[(Value.int .u32 0), (Value.int .i64 0), (Value.string ⟨#[]⟩), (Value.string ⟨#[]⟩)]) (fun r7 w =>
 StoreA 4 r7 t21 (fun w =>
 LoadA 4 r7 (fun t22 w =>
 CallS Try.prog 19 [t22].toArray (fun t23 w =>
 PureS (binV .neq t23 (Value.int .i64 0)) fun t25 =>
 CondS t25 (
 K t23 w
 ) (
 LoadA 4 r7 (fun t28 w =>
 CallS Try.prog 30 [t28].toArray (fun t29 w =>
 PureS (lenSliceV t29) fun t30 =>
 PureS (binV .add size5_1 t30) fun t31 =>
 PureS (binV .add t18 (Value.int .i64 1)) fun t32 =>
 L5 t31 t32 w
 ) w
 ) w
 )
 ) w
 ) w
 ) w
 ) w
 ) w
 ) (
 J0 size5_1 w
 )
 ) t15 (Value.int .i64 0) w
 ) w
theorem s26_den (b0 l1 : Value) (K : Value → World → Prop) (w : World) : denFn Try.prog false (bodyOf Try.f26) Try.f26.results a26 [b0, l1] K NoP w = s26 b0 l1 K w := by kernel_rfl
theorem s26_dst : dstsOk (2 + 66) (bodyOf Try.f26) = true := by kernel_rfl
theorem s26_ann : annOk (bodyOf Try.f26) a26 = true := by kernel_rfl
theorem s26_call {b0 l1 : Value} {K : Value → World → Prop} {w : World} (hm : Try.prog.follows .mixedOrders = true) (h : s26 b0 l1 K w) : CallS Try.prog 26 #[b0, l1] K w :=
  fn_call (args := [b0, l1]) (m := 66) hm Try.func26 (by kernel_rfl) (rs := Try.f26.results) rfl Try.ntmps26 s26_dst s26_ann (by rw [s26_den]; exact h)

/-! number 27 -/
def a27 : Ann :=
 (.q (.r [.plain 1]) (.q (.q (.r [.plain 2]) (.c (.q (.r [.plain 1]) .s) .s)) (.q (.r [.plain 4]) .s)))
def s27 (s0 : Value) (K : Value → World → Prop) (w : World) : Prop :=
 RunS Try.prog (do eqGuard .eql 22 (Operand.tmp 3) (Operand.const (Value.slice none 0 0)) s0 (Value.slice none 0 0); binOp .eql 22 s0 (Value.slice none 0 0)) (fun t4 w =>
 CondS t4 (
 K (Value.slice none 0 0) w
 ) (
 RunS Try.prog (Instr.buildSlice 22 0 [].toArray) (fun t5 w =>
 RunS Try.prog (Builtin.append_ #[22, 22] 22 [t5, s0].toArray) (fun t7 w =>
 K t7 w
 ) w
 ) w
 )
 ) w
theorem s27_den (s0 : Value) (K : Value → World → Prop) (w : World) : denFn Try.prog false (bodyOf Try.f27) Try.f27.results a27 [s0] K NoP w = s27 s0 K w := by kernel_rfl
theorem s27_dst : dstsOk (1 + 7) (bodyOf Try.f27) = true := by kernel_rfl
theorem s27_ann : annOk (bodyOf Try.f27) a27 = true := by kernel_rfl
theorem s27_call {s0 : Value} {K : Value → World → Prop} {w : World} (hm : Try.prog.follows .mixedOrders = true) (h : s27 s0 K w) : CallS Try.prog 27 #[s0] K w :=
  fn_call (args := [s0]) (m := 7) hm Try.func27 (by kernel_rfl) (rs := Try.f27.results) rfl Try.ntmps27 s27_dst s27_ann (by rw [s27_den]; exact h)

/-! number 28 -/
def a28 : Ann :=
 (.q (.r [.plain 1]) (.q (.r [.plain 2]) (.j [0, 3] 65513 (.b (.l [0, 3] 65513 (.q (.q (.r [.plain 2]) (.c .s .s)) (.b (.q (.r [.plain 8]) (.r [.plain 3]))))))
  (.q (.r [.plain 6]) .s))))
def s28 (n0 : Value) (K : Value → World → Prop) (w : World) : Prop :=
 RunS Try.prog (Instr.buildSlice 40 0 [].toArray) (fun t4 w =>
 JoinS (fun (n0_1 b3 : Value) (w : World) =>
 PureS (convIntV .u8 n0_1) fun t18 =>
 RunS Try.prog (Instr.buildSlice 40 1 [(0, t18)].toArray) (fun t19 w =>
 RunS Try.prog (Builtin.append_ #[40, 40] 40 [b3, t19].toArray) (fun t20 w =>
 K t20 w
 ) w
 ) w
 ) fun J0 =>
 LoopS 2 (fun L1 (n0_2 b3_1 : Value) (w : World) =>
 PureS (binV .geq n0_2 (Value.int .u64 128)) fun t6 =>
 CondS t6 (
 PureS (binV .and n0_2 (Value.int .u64 127)) fun t9 =>
 PureS (convIntV .u8 t9) fun t10 =>
 PureS (binV .or t10 (Value.int .u8 128)) fun t11 =>
 RunS Try.prog (Instr.buildSlice 40 1 [(0, t11)].toArray) (fun t12 w =>
 RunS Try.prog (Builtin.append_ #[40, 40] 40 [b3_1, t12].toArray) (fun t13 w =>
 PureS (binV .shr n0_2 (Value.int .u64 7)) fun t15 =>
 L1 t15 t13 w
 ) w
 ) w
 ) (
 J0 n0_2 b3_1 w
 )
 ) n0 t4 w
 ) w
theorem s28_den (n0 : Value) (K : Value → World → Prop) (w : World) : denFn Try.prog false (bodyOf Try.f28) Try.f28.results a28 [n0] K NoP w = s28 n0 K w := by kernel_rfl
theorem s28_dst : dstsOk (1 + 20) (bodyOf Try.f28) = true := by kernel_rfl
theorem s28_ann : annOk (bodyOf Try.f28) a28 = true := by kernel_rfl
theorem s28_call {n0 : Value} {K : Value → World → Prop} {w : World} (hm : Try.prog.follows .mixedOrders = true) (h : s28 n0 K w) : CallS Try.prog 28 #[n0] K w :=
  fn_call (args := [n0]) (m := 20) hm Try.func28 (by kernel_rfl) (rs := Try.f28.results) rfl Try.ntmps28 s28_dst s28_ann (by rw [s28_den]; exact h)

/-! number 29 -/
def a29 : Ann :=
 (.q (.r [.plain 1]) (.q (.r [.plain 7]) .s))
def s29 (b0 family1 key2 value3 : Value) (K : Value → World → Prop) (w : World) : Prop :=
 RunS Try.prog (Instr.build 31 [(0, family1), (1, (Value.int .i64 1)), (2, key2), (3, value3)].toArray) (fun t13 w =>
 CallS Try.prog 8 [b0, t13].toArray (fun t14 w =>
 K t14 w
 ) w
 ) w
theorem s29_den (b0 family1 key2 value3 : Value) (K : Value → World → Prop) (w : World) : denFn Try.prog false (bodyOf Try.f29) Try.f29.results a29 [b0, family1, key2, value3] K NoP w = s29 b0 family1 key2 value3 K w := by kernel_rfl
theorem s29_dst : dstsOk (4 + 11) (bodyOf Try.f29) = true := by kernel_rfl
theorem s29_ann : annOk (bodyOf Try.f29) a29 = true := by kernel_rfl
theorem s29_call {b0 family1 key2 value3 : Value} {K : Value → World → Prop} {w : World} (hm : Try.prog.follows .mixedOrders = true) (h : s29 b0 family1 key2 value3 K w) : CallS Try.prog 29 #[b0, family1, key2, value3] K w :=
  fn_call (args := [b0, family1, key2, value3]) (m := 11) hm Try.func29 (by kernel_rfl) (rs := Try.f29.results) rfl Try.ntmps29 s29_dst s29_ann (by rw [s29_den]; exact h)

/-! number 30 -/
def a30 : Ann :=
 (.q (.r [.plain 2]) (.j [3] 8184 (.d [0, 1, 3, 7, 0, 16, 48, 112, 255, 511] (.pur 0 (.pur 4 (.hld 1 (.pur 2 (.hld 5 (.pur 6 (.alt 3 (.act 7 (.act 8 (.pur 9 .fin))) (.act 7 (.act 3 (.act 8 (.pur 9 .fin))))))))))))
  (.q (.r [.plain 5]) (.j [3] 16646152 (.q (.r [.plain 3]) (.c (.r [.plain 5]) .s))
  (.q (.r [.plain 2]) .s)))))
def s30 (r0 : Value) (K : Value → World → Prop) (w : World) : Prop :=
 BoxS 31 r0 (fun r1 w =>
 JoinS (fun (b3 : Value) (w : World) =>
 PureS (fieldAddrV 2 r1) fun t14 =>
 LoadC t14 (fun t15 w =>
 CallS Try.prog 56 [b3, t15].toArray (fun t16 w =>
 JoinS (fun (b3_1 : Value) (w : World) =>
 K b3_1 w
 ) fun J1 =>
 PureS (fieldAddrV 1 r1) fun t17 =>
 LoadC t17 (fun t18 w =>
 PureS (binV .neq t18 (Value.int .i64 0)) fun t19 =>
 CondS t19 (
 PureS (fieldAddrV 3 r1) fun t21 =>
 LoadC t21 (fun t22 w =>
 CallS Try.prog 56 [t16, t22].toArray (fun t23 w =>
 J1 t23 w
 ) w
 ) w
 ) (
 J1 t16 w
 )
 ) w
 ) w
 ) w
 ) fun J0 =>
 DrawS fun S2 => S2 w.drew ∧ (
 PureS (fieldAddrV 1 r1) fun t4 =>
 PureS (fieldAddrV 0 r1) fun t8 =>
 HeldC S2 t4 (fun t5 =>
 PureS (convIntV .u8 t5) fun t6 =>
 HeldC S2 t8 (fun t9 =>
 PureS (convIntV .u64 t9) fun t10 =>
 (
 RunS Try.prog (Instr.buildSlice 40 1 [(0, t6)].toArray) (fun t7 w =>
 S2 w ∧ (
 CallS Try.prog 55 [t10].toArray (fun t11 w =>
 S2 w ∧ (
 RunS Try.prog (Builtin.append_ #[40, 40] 40 [t7, t11].toArray) (fun t12 w =>
 J0 t12 w
 ) w
 )
 ) w
 )
 ) w.drew
 ) ∧ (
 CallS Try.prog 55 [t10].toArray (fun t11_1 w =>
 S2 w ∧ (
 RunS Try.prog (Instr.buildSlice 40 1 [(0, t6)].toArray) (fun t7_1 w =>
 S2 w ∧ (
 RunS Try.prog (Builtin.append_ #[40, 40] 40 [t7_1, t11_1].toArray) (fun t12_1 w =>
 J0 t12_1 w
 ) w
 )
 ) w
 )
 ) w.drew
 )
 )
 )
 )
 ) w
theorem s30_den (r0 : Value) (K : Value → World → Prop) (w : World) : denFn Try.prog false (bodyOf Try.f30) Try.f30.results a30 [r0] K NoP w = s30 r0 K w := by kernel_rfl
theorem s30_dst : dstsOk (1 + 24) (bodyOf Try.f30) = true := by kernel_rfl
theorem s30_ann : annOk (bodyOf Try.f30) a30 = true := by kernel_rfl
theorem s30_call {r0 : Value} {K : Value → World → Prop} {w : World} (hm : Try.prog.follows .mixedOrders = true) (h : s30 r0 K w) : CallS Try.prog 30 #[r0] K w :=
  fn_call (args := [r0]) (m := 24) hm Try.func30 (by kernel_rfl) (rs := Try.f30.results) rfl Try.ntmps30 s30_dst s30_ann (by rw [s30_den]; exact h)

/-! number 31 -/
def a31 : Ann :=
 (.q (.r [.plain 1]) (.q (.q (.r [.plain 6]) (.c (.q (.r [.plain 1]) .s) .s)) (.q (.d [0, 0, 2, 6, 14, 0, 32, 96, 224, 480, 992, 2046, 4095, 8191, 16383] (.pur 0 (.pur 1 (.pur 2 (.pur 3 (.pur 5 (.pur 6 (.pur 7 (.hld 4 (.hld 8 (.pur 9 (.pur 10 (.pur 11 (.pur 12 (.pur 13 (.act 14 .fin)))))))))))))))) (.q (.r [.plain 1]) .s))))
def s31 (b0 : Value) (K : Value → World → Prop) (w : World) : Prop :=
 PureS (nilV b0) fun t4 =>
 PureS (fieldAddrV 2 t4) fun t5 =>
 LoadC t5 (fun t6 w =>
 PureS (lenSliceV t6) fun t7 =>
 PureS (binV .eql t7 (Value.int .i64 0)) fun t8 =>
 CondS t8 (
 K (Value.int .i64 6) w
 ) (
 DrawS fun S0 => S0 w.drew ∧ (
 PureS (nilV b0) fun t11 =>
 PureS (fieldAddrV 2 t11) fun t12 =>
 PureS (nilV b0) fun t15 =>
 PureS (fieldAddrV 2 t15) fun t16 =>
 HeldC S0 t12 (fun t13 =>
 HeldC S0 t16 (fun t17 =>
 PureS (lenSliceV t17) fun t18 =>
 PureS (binV .sub t18 (Value.int .i64 1)) fun t19 =>
 PureS (sliceV 1 t13 none (some t19)) fun t20 =>
 PureS (nilV b0) fun t21 =>
 PureS (fieldAddrV 2 t21) fun t22 =>
 StoreC t22 t20 (fun w =>
 K (Value.int .i64 0) w
 ) w.drew
 )
 )
 )
 )
 ) w
theorem s31_den (b0 : Value) (K : Value → World → Prop) (w : World) : denFn Try.prog false (bodyOf Try.f31) Try.f31.results a31 [b0] K NoP w = s31 b0 K w := by kernel_rfl
theorem s31_dst : dstsOk (1 + 22) (bodyOf Try.f31) = true := by kernel_rfl
theorem s31_ann : annOk (bodyOf Try.f31) a31 = true := by kernel_rfl
theorem s31_call {b0 : Value} {K : Value → World → Prop} {w : World} (hm : Try.prog.follows .mixedOrders = true) (h : s31 b0 K w) : CallS Try.prog 31 #[b0] K w :=
  fn_call (args := [b0]) (m := 22) hm Try.func31 (by kernel_rfl) (rs := Try.f31.results) rfl Try.ntmps31 s31_dst s31_ann (by rw [s31_den]; exact h)

/-! number 32 -/
def a32 : Ann :=
 (.q (.r [.plain 1]) (.q (.r [.plain 3, .grp 3 [10] 1792, .grp 6 [16] 129024, .grp 1 [17] 131072, .plain 2]) .s))
def s32 (seq0 n1 : Value) (K : Value → World → Prop) (w : World) : Prop :=
 PureS (binV .leq seq0 (Value.int .u64 72057594037927935)) fun t6 =>
 JoinS (fun (t10 : Value) (w : World) =>
 JoinS (fun (t16 : Value) (w : World) =>
 JoinS (fun (t17 : Value) (w : World) =>
 PureS (pickV t6 t17 (Value.bool false)) fun t18 =>
 K t18 w
 ) fun J2 =>
 IfB t6 true (
 PureS (pickV t10 (Value.bool true) t16) fun t17_1 =>
 J2 t17_1 w
 ) (
 J2 undef w
 )
 ) fun J1 =>
 IfB t10 false (
 PureS (binV .sub n1 (Value.int .i64 1)) fun t12 =>
 PureS (convIntV .u64 t12) fun t13 =>
 PureS (binV .sub (Value.int .u64 72057594037927935) seq0) fun t15 =>
 PureS (binV .leq t13 t15) fun t16_1 =>
 J1 t16_1 w
 ) (
 J1 undef w
 )
 ) fun J0 =>
 IfB t6 true (
 PureS (binV .eql n1 (Value.int .i64 0)) fun t9 =>
 J0 t9 w
 ) (
 J0 undef w
 )
theorem s32_den (seq0 n1 : Value) (K : Value → World → Prop) (w : World) : denFn Try.prog false (bodyOf Try.f32) Try.f32.results a32 [seq0, n1] K NoP w = s32 seq0 n1 K w := by kernel_rfl
theorem s32_dst : dstsOk (2 + 17) (bodyOf Try.f32) = true := by kernel_rfl
theorem s32_ann : annOk (bodyOf Try.f32) a32 = true := by kernel_rfl
theorem s32_call {seq0 n1 : Value} {K : Value → World → Prop} {w : World} (hm : Try.prog.follows .mixedOrders = true) (h : s32 seq0 n1 K w) : CallS Try.prog 32 #[seq0, n1] K w :=
  fn_call (args := [seq0, n1]) (m := 17) hm Try.func32 (by kernel_rfl) (rs := Try.f32.results) rfl Try.ntmps32 s32_dst s32_ann (by rw [s32_den]; exact h)

/-! number 33 -/
def a33 : Ann :=
 (.q (.r [.plain 1]) (.q (.r [.plain 3]) .s))
def s33 (n0 : Value) (K : Value → World → Prop) (w : World) : Prop :=
 CallS Try.prog 57 [n0, (Value.int .i64 8)].toArray (fun t4 w =>
 K t4 w
 ) w
theorem s33_den (n0 : Value) (K : Value → World → Prop) (w : World) : denFn Try.prog false (bodyOf Try.f33) Try.f33.results a33 [n0] K NoP w = s33 n0 K w := by kernel_rfl
theorem s33_dst : dstsOk (1 + 4) (bodyOf Try.f33) = true := by kernel_rfl
theorem s33_ann : annOk (bodyOf Try.f33) a33 = true := by kernel_rfl
theorem s33_call {n0 : Value} {K : Value → World → Prop} {w : World} (hm : Try.prog.follows .mixedOrders = true) (h : s33 n0 K w) : CallS Try.prog 33 #[n0] K w :=
  fn_call (args := [n0]) (m := 4) hm Try.func33 (by kernel_rfl) (rs := Try.f33.results) rfl Try.ntmps33 s33_dst s33_ann (by rw [s33_den]; exact h)

/-! number 34 -/
def a34 : Ann :=
 (.q (.r [.plain 1]) (.q (.r [.plain 4]) .s))
def s34 (n0 : Value) (K : Value → World → Prop) (w : World) : Prop :=
 PureS (convIntV .u64 n0) fun t4 =>
 CallS Try.prog 57 [t4, (Value.int .i64 4)].toArray (fun t5 w =>
 K t5 w
 ) w
theorem s34_den (n0 : Value) (K : Value → World → Prop) (w : World) : denFn Try.prog false (bodyOf Try.f34) Try.f34.results a34 [n0] K NoP w = s34 n0 K w := by kernel_rfl
theorem s34_dst : dstsOk (1 + 5) (bodyOf Try.f34) = true := by kernel_rfl
theorem s34_ann : annOk (bodyOf Try.f34) a34 = true := by kernel_rfl
theorem s34_call {n0 : Value} {K : Value → World → Prop} {w : World} (hm : Try.prog.follows .mixedOrders = true) (h : s34 n0 K w) : CallS Try.prog 34 #[n0] K w :=
  fn_call (args := [n0]) (m := 5) hm Try.func34 (by kernel_rfl) (rs := Try.f34.results) rfl Try.ntmps34 s34_dst s34_ann (by rw [s34_den]; exact h)

/-! number 35 -/
def a35 : Ann :=
 (.q (.r [.plain 1]) (.q (.r [.plain 3, .grp 3 [10] 1792, .grp 6 [16] 129024, .grp 1 [17] 131072, .plain 2]) .s))
def s35 (seq0 n1 : Value) (K : Value → World → Prop) (w : World) : Prop :=
 PureS (binV .leq seq0 (Value.int .u64 72057594037927935)) fun t6 =>
 JoinS (fun (t10 : Value) (w : World) =>
 JoinS (fun (t16 : Value) (w : World) =>
 JoinS (fun (t17 : Value) (w : World) =>
 PureS (pickV t6 t17 (Value.bool false)) fun t18 =>
 K t18 w
 ) fun J2 =>
 IfB t6 true (
 PureS (pickV t10 (Value.bool true) t16) fun t17_1 =>
 J2 t17_1 w
 ) (
 J2 undef w
 )
 ) fun J1 =>
 IfB t10 false (
 PureS (binV .sub n1 (Value.int .i64 1)) fun t12 =>
 PureS (convIntV .u64 t12) fun t13 =>
 PureS (binV .sub (Value.int .u64 72057594037927935) seq0) fun t15 =>
 PureS (binV .leq t13 t15) fun t16_1 =>
 J1 t16_1 w
 ) (
 J1 undef w
 )
 ) fun J0 =>
 IfB t6 true (
 PureS (binV .eql n1 (Value.int .i64 0)) fun t9 =>
 J0 t9 w
 ) (
 J0 undef w
 )
theorem s35_den (seq0 n1 : Value) (K : Value → World → Prop) (w : World) : denFn Try.prog false (bodyOf Try.f35) Try.f35.results a35 [seq0, n1] K NoP w = s35 seq0 n1 K w := by kernel_rfl
theorem s35_dst : dstsOk (2 + 17) (bodyOf Try.f35) = true := by kernel_rfl
theorem s35_ann : annOk (bodyOf Try.f35) a35 = true := by kernel_rfl
theorem s35_call {seq0 n1 : Value} {K : Value → World → Prop} {w : World} (hm : Try.prog.follows .mixedOrders = true) (h : s35 seq0 n1 K w) : CallS Try.prog 35 #[seq0, n1] K w :=
  fn_call (args := [seq0, n1]) (m := 17) hm Try.func35 (by kernel_rfl) (rs := Try.f35.results) rfl Try.ntmps35 s35_dst s35_ann (by rw [s35_den]; exact h)

/-! number 36 -/
def a36 : Ann :=
 (.q (.r [.plain 1]) (.q (.r [.plain 1]) (.j [3] 262136 (.q (.r [.plain 1]) (.b (.l [3, 4] 262136 (.q (.q (.r [.plain 4]) (.c .s .s)) (.q (.b (.r [.plain 8])) (.r [.plain 3]))))))
  (.q (.r [.plain 2]) .s))))
def s36 (l0 : Value) (K : Value → World → Prop) (w : World) : Prop :=
 JoinS (fun (n3 : Value) (w : World) =>
 K n3 w
 ) fun J0 =>
 LoopS 2 (fun L1 (n3_1 i4 : Value) (w : World) =>
 PureS (lenSliceV l0) fun t7 =>
 PureS (binV .lss i4 t7) fun t8 =>
 CondS t8 (
 PureS (indexAddrV 4 l0 i4) fun t14 =>
 LoadA 4 t14 (fun t15 w =>
 CallS Try.prog 11 [t15].toArray (fun t16 w =>
 PureS (binV .add n3_1 t16) fun t17 =>
 PureS (binV .add i4 (Value.int .i64 1)) fun t10 =>
 L1 t17 t10 w
 ) w
 ) w
 ) (
 J0 n3_1 w
 )
 ) (Value.int .i64 12) (Value.int .i64 0) w
theorem s36_den (l0 : Value) (K : Value → World → Prop) (w : World) : denFn Try.prog false (bodyOf Try.f36) Try.f36.results a36 [l0] K NoP w = s36 l0 K w := by kernel_rfl
theorem s36_dst : dstsOk (1 + 18) (bodyOf Try.f36) = true := by kernel_rfl
theorem s36_ann : annOk (bodyOf Try.f36) a36 = true := by kernel_rfl
theorem s36_call {l0 : Value} {K : Value → World → Prop} {w : World} (hm : Try.prog.follows .mixedOrders = true) (h : s36 l0 K w) : CallS Try.prog 36 #[l0] K w :=
  fn_call (args := [l0]) (m := 18) hm Try.func36 (by kernel_rfl) (rs := Try.f36.results) rfl Try.ntmps36 s36_dst s36_ann (by rw [s36_den]; exact h)

/-! number 37 -/
def a37 : Ann :=
 (.q (.r [.plain 1]) (.q (.r [.plain 2]) (.j [5] 4194144 (.q (.r [.plain 1]) (.b (.l [5, 6] 4194144 (.q (.q (.r [.plain 3]) (.c .s .s)) (.q (.b (.r [.plain 10])) (.r [.plain 3]))))))
  (.q (.r [.plain 2]) .s))))
def s37 (n0 many1 : Value) (K : Value → World → Prop) (w : World) : Prop :=
 RunS Try.prog (Instr.buildSlice 40 0 [].toArray) (fun t7 w =>
 JoinS (fun (b5 : Value) (w : World) =>
 K b5 w
 ) fun J0 =>
 LoopS 2 (fun L1 (b5_1 i6 : Value) (w : World) =>
 PureS (binV .lss i6 many1) fun t10 =>
 CondS t10 (
 PureS (binV .mul (Value.int .i64 8) i6) fun t16 =>
 PureS (convIntV .u64 t16) fun t17 =>
 PureS (binV .shr n0 t17) fun t18 =>
 PureS (convIntV .u8 t18) fun t19 =>
 RunS Try.prog (Instr.buildSlice 40 1 [(0, t19)].toArray) (fun t20 w =>
 RunS Try.prog (Builtin.append_ #[40, 40] 40 [b5_1, t20].toArray) (fun t21 w =>
 PureS (binV .add i6 (Value.int .i64 1)) fun t12 =>
 L1 t21 t12 w
 ) w
 ) w
 ) (
 J0 b5_1 w
 )
 ) t7 (Value.int .i64 0) w
 ) w
theorem s37_den (n0 many1 : Value) (K : Value → World → Prop) (w : World) : denFn Try.prog false (bodyOf Try.f37) Try.f37.results a37 [n0, many1] K NoP w = s37 n0 many1 K w := by kernel_rfl
theorem s37_dst : dstsOk (2 + 21) (bodyOf Try.f37) = true := by kernel_rfl
theorem s37_ann : annOk (bodyOf Try.f37) a37 = true := by kernel_rfl
theorem s37_call {n0 many1 : Value} {K : Value → World → Prop} {w : World} (hm : Try.prog.follows .mixedOrders = true) (h : s37 n0 many1 K w) : CallS Try.prog 37 #[n0, many1] K w :=
  fn_call (args := [n0, many1]) (m := 21) hm Try.func37 (by kernel_rfl) (rs := Try.f37.results) rfl Try.ntmps37 s37_dst s37_ann (by rw [s37_den]; exact h)

/-! number 38 -/
def a38 : Ann :=
 (.q (.r [.plain 1]) (.q (.q (.r [.plain 1]) (.b (.q (.r [.plain 2]) (.c (.q (.r [.plain 1]) .s) (.q (.r [.plain 2]) (.c (.q (.r [.plain 1]) .s) .s)))))) (.q (.r [.plain 1]) .s)))
def s38 (kind0 : Value) (K : Value → World → Prop) (w : World) : Prop :=
 PureS (binV .eql kind0 (Value.int .i64 1)) fun t5 =>
 CondS t5 (
 K (Value.int .i64 16384) w
 ) (
 PureS (binV .eql kind0 (Value.int .i64 2)) fun t7 =>
 CondS t7 (
 K (Value.int .i64 1024) w
 ) (
 K (Value.int .i64 9223372036854775807) w
 )
 )
theorem s38_den (kind0 : Value) (K : Value → World → Prop) (w : World) : denFn Try.prog false (bodyOf Try.f38) Try.f38.results a38 [kind0] K NoP w = s38 kind0 K w := by kernel_rfl
theorem s38_dst : dstsOk (1 + 7) (bodyOf Try.f38) = true := by kernel_rfl
theorem s38_ann : annOk (bodyOf Try.f38) a38 = true := by kernel_rfl
theorem s38_call {kind0 : Value} {K : Value → World → Prop} {w : World} (hm : Try.prog.follows .mixedOrders = true) (h : s38 kind0 K w) : CallS Try.prog 38 #[kind0] K w :=
  fn_call (args := [kind0]) (m := 7) hm Try.func38 (by kernel_rfl) (rs := Try.f38.results) rfl Try.ntmps38 s38_dst s38_ann (by rw [s38_den]; exact h)

/-! number 40 -/
def a40 : Ann :=
 (.q (.r [.plain 2]) (.q (.r [.plain 6]) .s))
def s40 (b0 : Value) (K : Value → World → Prop) (w : World) : Prop :=
 CallS Try.prog 58 [b0, (Value.int .i64 8)].toArray (fun t5 w =>
 PureS (extractV 0 t5) fun t6 =>
 PureS (extractV 1 t5) fun t7 =>
 K (Value.tuple [t6, t7].toArray) w
 ) w
theorem s40_den (b0 : Value) (K : Value → World → Prop) (w : World) : denFn Try.prog false (bodyOf Try.f40) Try.f40.results a40 [b0] K NoP w = s40 b0 K w := by kernel_rfl
theorem s40_dst : dstsOk (1 + 7) (bodyOf Try.f40) = true := by kernel_rfl
theorem s40_ann : annOk (bodyOf Try.f40) a40 = true := by kernel_rfl
theorem s40_call {b0 : Value} {K : Value → World → Prop} {w : World} (hm : Try.prog.follows .mixedOrders = true) (h : s40 b0 K w) : CallS Try.prog 40 #[b0] K w :=
  fn_call (args := [b0]) (m := 7) hm Try.func40 (by kernel_rfl) (rs := Try.f40.results) rfl Try.ntmps40 s40_dst s40_ann (by rw [s40_den]; exact h)

/-! number 41 -/
def a41 : Ann :=
 (.q (.r [.plain 2]) (.q (.r [.plain 7]) (.q (.r [.plain 5]) .s)))
def s41 (b0 : Value) (K : Value → World → Prop) (w : World) : Prop :=
 CallS Try.prog 58 [b0, (Value.int .i64 4)].toArray (fun t8 w =>
 PureS (extractV 0 t8) fun t9 =>
 PureS (extractV 1 t8) fun t10 =>
 PureS (convIntV .u32 t9) fun t12 =>
 K (Value.tuple [t12, t10].toArray) w
 ) w
theorem s41_den (b0 : Value) (K : Value → World → Prop) (w : World) : denFn Try.prog false (bodyOf Try.f41) Try.f41.results a41 [b0] K NoP w = s41 b0 K w := by kernel_rfl
theorem s41_dst : dstsOk (1 + 13) (bodyOf Try.f41) = true := by kernel_rfl
theorem s41_ann : annOk (bodyOf Try.f41) a41 = true := by kernel_rfl
theorem s41_call {b0 : Value} {K : Value → World → Prop} {w : World} (hm : Try.prog.follows .mixedOrders = true) (h : s41 b0 K w) : CallS Try.prog 41 #[b0] K w :=
  fn_call (args := [b0]) (m := 13) hm Try.func41 (by kernel_rfl) (rs := Try.f41.results) rfl Try.ntmps41 s41_dst s41_ann (by rw [s41_den]; exact h)

/-! number 42 -/
def a42 : Ann :=
 (.q (.r [.plain 1]) (.q (.r [.plain 6]) (.j [] 3840 (.q (.r [.plain 3]) (.c (.r [.plain 2]) .s))
  (.q (.r [.plain 5]) (.q (.r [.plain 4]) (.j [] 2146959360 (.q (.r [.plain 2]) (.b (.q (.r [.plain 2]) (.c (.r [.plain 4]) (.q (.r [.plain 2]) (.c (.r [.plain 4]) .s))))))
  (.q (.r [.plain 2]) .s)))))))
def s42 (r0 : Value) (Kp : List PanicEntry → World → Prop) (K : Value → World → Prop) (w : World) : Prop :=
 BoxS 31 (Value.agg #[(Value.int .u32 0), (Value.int .i64 0), (Value.string ⟨#[]⟩), (Value.string ⟨#[]⟩)]) (fun t2 w =>
 CallP' Try.prog 59 [r0].toArray Kp (fun t5 w =>
 PureS (convIntV .i64 t5) fun t6 =>
 RunS Try.prog (Instr.build 31 [(1, t6)].toArray) (fun t7 w =>
 BoxS 31 (Value.agg #[(Value.int .u32 0), (Value.int .i64 0), (Value.string ⟨#[]⟩), (Value.string ⟨#[]⟩)]) (fun x3 w =>
 StoreA 4 x3 t7 (fun w =>
 JoinS (fun (w : World) =>
 CallP' Try.prog 60 [r0, (Value.int .u64 4294967295)].toArray Kp (fun t13 w =>
 PureS (convIntV .u32 t13) fun t14 =>
 PureS (fieldAddrV 0 x3) fun t15 =>
 StoreC t15 t14 (fun w =>
 CallP' Try.prog 61 [r0, (Value.int .u64 1024)].toArray Kp (fun t17 w =>
 PureS (fieldAddrV 2 x3) fun t18 =>
 StoreC t18 t17 (fun w =>
 JoinS (fun (w : World) =>
 LoadA 4 x3 (fun t31 w =>
 StoreA 4 t2 t31 (fun w =>
 LoadA 4 t2 (fun t2_1 _ =>
 K t2_1 w
 ) w
 ) w
 ) w
 ) fun J1 =>
 PureS (fieldAddrV 1 x3) fun t19 =>
 LoadC t19 (fun t20 w =>
 PureS (binV .eql t20 (Value.int .i64 1)) fun t22 =>
 CondS t22 (
 CallP' Try.prog 61 [r0, (Value.int .u64 16384)].toArray Kp (fun t24 w =>
 PureS (fieldAddrV 3 x3) fun t25 =>
 StoreC t25 t24 (fun w =>
 J1 w
 ) w
 ) w
 ) (
 PureS (binV .eql t20 (Value.int .i64 2)) fun t27 =>
 CondS t27 (
 CallP' Try.prog 61 [r0, (Value.int .u64 1024)].toArray Kp (fun t29 w =>
 PureS (fieldAddrV 3 x3) fun t30 =>
 StoreC t30 t29 (fun w =>
 J1 w
 ) w
 ) w
 ) (
 J1 w
 )
 )
 ) w
 ) w
 ) w
 ) w
 ) w
 ) fun J0 =>
 PureS (fieldAddrV 1 x3) fun t8 =>
 LoadC t8 (fun t9 w =>
 PureS (binV .gtr t9 (Value.int .i64 2)) fun t10 =>
 CondS t10 (
 PanicS Try.prog (Value.iface 27 (Value.int .i64 3)) Kp w
 ) (
 J0 w
 )
 ) w
 ) w
 ) w
 ) w
 ) w
 ) w
theorem s42_den (r0 : Value) (Kp : List PanicEntry → World → Prop) (K : Value → World → Prop) (w : World) : denFn Try.prog true (bodyOf Try.f42) Try.f42.results a42 [r0] K Kp w = s42 r0 Kp K w := by kernel_rfl
theorem s42_dst : dstsOk (1 + 31) (bodyOf Try.f42) = true := by kernel_rfl
theorem s42_ann : annOk (bodyOf Try.f42) a42 = true := by kernel_rfl
theorem s42_call {r0 : Value} {Kp : List PanicEntry → World → Prop} {K : Value → World → Prop} {w : World} (hm : Try.prog.follows .mixedOrders = true) (h : s42 r0 Kp K w) : CallP Try.prog 42 #[r0] K Kp w :=
  fn_callP (args := [r0]) (m := 31) hm Try.func42 (by kernel_rfl) (rs := Try.f42.results) rfl Try.ntmps42 s42_dst s42_ann (by rw [s42_den]; exact h)

/-! number 43 -/
def a43 : Ann :=
 (.q (.r [.plain 2]) (.j [] 120 (.q (.r [.plain 3]) (.c (.r [.plain 2]) .s))
  (.q (.r [.plain 2]) .s)))
def s43 (r0 : Value) (K : Value → World → Prop) (w : World) : Prop :=
 BoxS 31 r0 (fun r1 w =>
 BoxS 31 (Value.agg #[(Value.int .u32 0), (Value.int .i64 0), (Value.string ⟨#[]⟩), (Value.string ⟨#[]⟩)]) (fun t2 w =>
 JoinS (fun (w : World) =>
 LoadA 4 r1 (fun t7 w =>
 StoreA 4 t2 t7 (fun w =>
 LoadA 4 t2 (fun t2_1 _ =>
 K t2_1 w
 ) w
 ) w
 ) w
 ) fun J0 =>
 PureS (fieldAddrV 1 r1) fun t3 =>
 LoadC t3 (fun t4 w =>
 PureS (binV .eql t4 (Value.int .i64 0)) fun t5 =>
 CondS t5 (
 PureS (fieldAddrV 3 r1) fun t6 =>
 StoreC t6 (Value.string ⟨#[]⟩) (fun w =>
 J0 w
 ) w
 ) (
 J0 w
 )
 ) w
 ) w
 ) w
theorem s43_den (r0 : Value) (K : Value → World → Prop) (w : World) : denFn Try.prog false (bodyOf Try.f43) Try.f43.results a43 [r0] K NoP w = s43 r0 K w := by kernel_rfl
theorem s43_dst : dstsOk (1 + 7) (bodyOf Try.f43) = true := by kernel_rfl
theorem s43_ann : annOk (bodyOf Try.f43) a43 = true := by kernel_rfl
theorem s43_call {r0 : Value} {K : Value → World → Prop} {w : World} (hm : Try.prog.follows .mixedOrders = true) (h : s43 r0 K w) : CallS Try.prog 43 #[r0] K w :=
  fn_call (args := [r0]) (m := 7) hm Try.func43 (by kernel_rfl) (rs := Try.f43.results) rfl Try.ntmps43 s43_dst s43_ann (by rw [s43_den]; exact h)

/-! number 44 -/
def a44 : Ann :=
 (.q (.r [.plain 2]) (.q (.q (.r [.plain 4]) (.c (.q (.r [.plain 2]) .s) .s)) (.q (.r [.plain 1]) (.j [6] 67104960 (.q (.r [.plain 3]) (.b (.l [6, 7] 67092672 (.q (.q (.r [.plain 2]) (.c .s .s)) (.q (.b (.r [.plain 9])) (.r [.plain 3]))))))
  (.q (.r [.plain 3]) .s)))))
def s44 (b0 many1 : Value) (K : Value → World → Prop) (w : World) : Prop :=
 PureS (lenSliceV b0) fun t9 =>
 PureS (binV .lss t9 many1) fun t11 =>
 CondS t11 (
 K (Value.tuple [(Value.int .u64 0), (Value.int .i64 4)].toArray) w
 ) (
 JoinS (fun (n6 : Value) (w : World) =>
 K (Value.tuple [n6, (Value.int .i64 0)].toArray) w
 ) fun J0 =>
 PureS (binV .sub many1 (Value.int .i64 1)) fun t13 =>
 LoopS 2 (fun L1 (n6_1 i7 : Value) (w : World) =>
 PureS (binV .geq i7 (Value.int .i64 0)) fun t15 =>
 CondS t15 (
 PureS (binV .shl n6_1 (Value.int .u64 8)) fun t19 =>
 PureS (indexAddrV 1 b0 i7) fun t22 =>
 LoadC t22 (fun t23 w =>
 PureS (convIntV .u64 t23) fun t24 =>
 PureS (binV .or t19 t24) fun t25 =>
 PureS (binV .sub i7 (Value.int .i64 1)) fun t17 =>
 L1 t25 t17 w
 ) w
 ) (
 J0 n6_1 w
 )
 ) (Value.int .u64 0) t13 w
 )
theorem s44_den (b0 many1 : Value) (K : Value → World → Prop) (w : World) : denFn Try.prog false (bodyOf Try.f44) Try.f44.results a44 [b0, many1] K NoP w = s44 b0 many1 K w := by kernel_rfl
theorem s44_dst : dstsOk (2 + 25) (bodyOf Try.f44) = true := by kernel_rfl
theorem s44_ann : annOk (bodyOf Try.f44) a44 = true := by kernel_rfl
theorem s44_call {b0 many1 : Value} {K : Value → World → Prop} {w : World} (hm : Try.prog.follows .mixedOrders = true) (h : s44 b0 many1 K w) : CallS Try.prog 44 #[b0, many1] K w :=
  fn_call (args := [b0, many1]) (m := 25) hm Try.func44 (by kernel_rfl) (rs := Try.f44.results) rfl Try.ntmps44 s44_dst s44_ann (by rw [s44_den]; exact h)

/-! number 45 -/
def a45 : Ann :=
 (.q (.r [.plain 1]) (.q (.q (.r [.plain 6]) (.c (.q (.r [.plain 4]) (.q (.r [.plain 2]) .s)) .s)) (.q (.r [.plain 10]) (.q (.r [.plain 9]) (.q (.q (.r [.plain 3]) (.c (.q (.r [.plain 4]) (.q (.r [.plain 2]) .s)) .s)) (.q (.r [.plain 3]) (.j [] 4502500115742720 (.q (.r [.plain 6, .grp 2 [47] 211106232532992, .plain 1]) (.c (.r [.plain 4]) .s))
  (.q (.r [.plain 4]) (.q (.r [.plain 4]) (.j [] 147285722213524701184 (.q (.r [.plain 3]) (.c (.r [.plain 7]) .s))
  (.q (.r [.plain 2]) .s)))))))))))
def s45 (r0 : Value) (K : Value → World → Prop) (w : World) : Prop :=
 BoxS 31 (Value.agg #[(Value.int .u32 0), (Value.int .i64 0), (Value.string ⟨#[]⟩), (Value.string ⟨#[]⟩)]) (fun t2 w =>
 PureS (nilV r0) fun t6 =>
 PureS (fieldAddrV 0 t6) fun t7 =>
 LoadC t7 (fun t8 w =>
 PureS (lenSliceV t8) fun t9 =>
 PureS (binV .eql t9 (Value.int .i64 0)) fun t10 =>
 CondS t10 (
 PureS (nilV r0) fun t12 =>
 PureS (fieldAddrV 1 t12) fun t13 =>
 StoreC t13 (Value.int .i64 4) (fun w =>
 RunS Try.prog (Instr.build 31 [].toArray) (fun t14 w =>
 StoreA 4 t2 t14 (fun w =>
 LoadA 4 t2 (fun t2_1 _ =>
 K t2_1 w
 ) w
 ) w
 ) w
 ) w
 ) (
 PureS (nilV r0) fun t16 =>
 PureS (fieldAddrV 0 t16) fun t17 =>
 LoadC t17 (fun t18 w =>
 PureS (indexAddrV 1 t18 (Value.int .i64 0)) fun t19 =>
 LoadC t19 (fun t20 w =>
 PureS (convIntV .i64 t20) fun t21 =>
 RunS Try.prog (Instr.build 31 [(1, t21)].toArray) (fun t22 w =>
 BoxS 31 (Value.agg #[(Value.int .u32 0), (Value.int .i64 0), (Value.string ⟨#[]⟩), (Value.string ⟨#[]⟩)]) (fun x3 w =>
 StoreA 4 x3 t22 (fun w =>
 PureS (nilV r0) fun t25 =>
 PureS (fieldAddrV 0 t25) fun t26 =>
 LoadC t26 (fun t27 w =>
 PureS (sliceV 1 t27 (some (Value.int .i64 1)) none) fun t28 =>
 PureS (nilV r0) fun t29 =>
 PureS (fieldAddrV 0 t29) fun t30 =>
 StoreC t30 t28 (fun w =>
 PureS (fieldAddrV 1 x3) fun t31 =>
 LoadC t31 (fun t32 w =>
 PureS (binV .gtr t32 (Value.int .i64 2)) fun t33 =>
 CondS t33 (
 PureS (nilV r0) fun t35 =>
 PureS (fieldAddrV 1 t35) fun t36 =>
 StoreC t36 (Value.int .i64 3) (fun w =>
 LoadA 4 x3 (fun t37 w =>
 StoreA 4 t2 t37 (fun w =>
 LoadA 4 t2 (fun t2_2 _ =>
 K t2_2 w
 ) w
 ) w
 ) w
 ) w
 ) (
 CallS Try.prog 62 [r0].toArray (fun t39 w =>
 JoinS (fun (w : World) =>
 PureS (convIntV .u32 t39) fun t53 =>
 PureS (fieldAddrV 0 x3) fun t54 =>
 StoreC t54 t53 (fun w =>
 CallS Try.prog 63 [r0, (Value.int .i64 1024)].toArray (fun t56 w =>
 PureS (fieldAddrV 2 x3) fun t57 =>
 StoreC t57 t56 (fun w =>
 JoinS (fun (w : World) =>
 LoadA 4 x3 (fun t67 w =>
 StoreA 4 t2 t67 (fun w =>
 LoadA 4 t2 (fun t2_3 _ =>
 K t2_3 w
 ) w
 ) w
 ) w
 ) fun J1 =>
 PureS (fieldAddrV 1 x3) fun t58 =>
 LoadC t58 (fun t59 w =>
 PureS (binV .neq t59 (Value.int .i64 0)) fun t60 =>
 CondS t60 (
 PureS (fieldAddrV 1 x3) fun t62 =>
 LoadC t62 (fun t63 w =>
 CallS Try.prog 38 [t63].toArray (fun t64 w =>
 CallS Try.prog 63 [r0, t64].toArray (fun t65 w =>
 PureS (fieldAddrV 3 x3) fun t66 =>
 StoreC t66 t65 (fun w =>
 J1 w
 ) w
 ) w
 ) w
 ) w
 ) (
 J1 w
 )
 ) w
 ) w
 ) w
 ) w
 ) fun J0 =>
 PureS (nilV r0) fun t41 =>
 PureS (fieldAddrV 1 t41) fun t42 =>
 LoadC t42 (fun t43 w =>
 PureS (binV .eql t43 (Value.int .i64 0)) fun t44 =>
 JoinS (fun (t47 : Value) (w : World) =>
 PureS (pickV t44 t47 (Value.bool false)) fun t48 =>
 CondS t48 (
 PureS (nilV r0) fun t50 =>
 PureS (fieldAddrV 1 t50) fun t51 =>
 StoreC t51 (Value.int .i64 3) (fun w =>
 J0 w
 ) w
 ) (
 J0 w
 )
 ) fun J2 =>
 IfB t44 true (
 PureS (binV .geq t39 (Value.int .u64 4294967296)) fun t47_1 =>
 J2 t47_1 w
 ) (
 J2 undef w
 )
 ) w
 ) w
 )
 ) w
 ) w
 ) w
 ) w
 ) w
 ) w
 ) w
 ) w
 )
 ) w
 ) w
theorem s45_den (r0 : Value) (K : Value → World → Prop) (w : World) : denFn Try.prog false (bodyOf Try.f45) Try.f45.results a45 [r0] K NoP w = s45 r0 K w := by kernel_rfl
theorem s45_dst : dstsOk (1 + 67) (bodyOf Try.f45) = true := by kernel_rfl
theorem s45_ann : annOk (bodyOf Try.f45) a45 = true := by kernel_rfl
theorem s45_call {r0 : Value} {K : Value → World → Prop} {w : World} (hm : Try.prog.follows .mixedOrders = true) (h : s45 r0 K w) : CallS Try.prog 45 #[r0] K w :=
  fn_call (args := [r0]) (m := 67) hm Try.func45 (by kernel_rfl) (rs := Try.f45.results) rfl Try.ntmps45 s45_dst s45_ann (by rw [s45_den]; exact h)

/-! number 46 -/
def a46 : Ann :=
 (.q (.r [.plain 3]) (.q (.r [.plain 8]) (.j [5] 302231454903657293668384 (.b (.q (.r [.plain 3, .grp 4 [25] 62914560, .plain 2]) (.c (.r [.plain 13]) (.q (.r [.plain 3, .grp 4 [46] 131941395333120, .plain 2]) (.c (.r [.plain 10]) (.q (.r [.plain 3, .grp 4 [64] 34587645138205409280, .plain 2]) (.c (.r [.plain 13]) (.r [.plain 6]))))))))
  (.q (.r [.plain 4]) .s))))
def s46 (x0 a1 : Value) (K : Value → World → Prop) (w : World) : Prop :=
 BoxS 53 x0 (fun x2 w =>
 BoxS 56 a1 (fun a3 w =>
 PureS (fieldAddrV 1 x2) fun t7 =>
 LoadC t7 (fun t8 w =>
 PureS (fieldAddrV 2 a3) fun t9 =>
 LoadA 4 t9 (fun t10 w =>
 RunS Try.prog (Instr.buildSlice 22 1 [(0, t10)].toArray) (fun t11 w =>
 CallS Try.prog 47 [t8, t11].toArray (fun t12 w =>
 JoinS (fun (e5 : Value) (w : World) =>
 PureS (binV .eql e5 t12) fun t80 =>
 K t80 w
 ) fun J0 =>
 PureS (fieldAddrV 1 a3) fun t19 =>
 LoadC t19 (fun t20 w =>
 JoinS (fun (t25 : Value) (w : World) =>
 PureS (pickV t20 t25 (Value.bool false)) fun t26 =>
 CondS t26 (
 PureS (fieldAddrV 0 x2) fun t27 =>
 LoadC t27 (fun t28 w =>
 PureS (fieldAddrV 2 a3) fun t29 =>
 PureS (fieldAddrV 0 t29) fun t30 =>
 LoadC t30 (fun t31 w =>
 PureS (fieldAddrV 2 a3) fun t32 =>
 PureS (fieldAddrV 2 t32) fun t33 =>
 LoadC t33 (fun t34 w =>
 PureS (fieldAddrV 2 a3) fun t35 =>
 PureS (fieldAddrV 3 t35) fun t36 =>
 LoadC t36 (fun t37 w =>
 CallS Try.prog 29 [t28, t31, t34, t37].toArray (fun t38 w =>
 J0 t38 w
 ) w
 ) w
 ) w
 ) w
 ) w
 ) (
 PureS (fieldAddrV 1 a3) fun t40 =>
 LoadC t40 (fun t41 w =>
 JoinS (fun (t46 : Value) (w : World) =>
 PureS (pickV t41 t46 (Value.bool false)) fun t47 =>
 CondS t47 (
 PureS (fieldAddrV 0 x2) fun t48 =>
 LoadC t48 (fun t49 w =>
 PureS (fieldAddrV 2 a3) fun t50 =>
 PureS (fieldAddrV 0 t50) fun t51 =>
 LoadC t51 (fun t52 w =>
 PureS (fieldAddrV 2 a3) fun t53 =>
 PureS (fieldAddrV 2 t53) fun t54 =>
 LoadC t54 (fun t55 w =>
 CallS Try.prog 64 [t49, t52, t55].toArray (fun t56 w =>
 J0 t56 w
 ) w
 ) w
 ) w
 ) w
 ) (
 PureS (fieldAddrV 1 a3) fun t58 =>
 LoadC t58 (fun t59 w =>
 JoinS (fun (t64 : Value) (w : World) =>
 PureS (pickV t59 t64 (Value.bool false)) fun t65 =>
 CondS t65 (
 PureS (fieldAddrV 0 x2) fun t66 =>
 LoadC t66 (fun t67 w =>
 PureS (fieldAddrV 2 a3) fun t68 =>
 PureS (fieldAddrV 0 t68) fun t69 =>
 LoadC t69 (fun t70 w =>
 PureS (fieldAddrV 2 a3) fun t71 =>
 PureS (fieldAddrV 2 t71) fun t72 =>
 LoadC t72 (fun t73 w =>
 PureS (fieldAddrV 2 a3) fun t74 =>
 PureS (fieldAddrV 3 t74) fun t75 =>
 LoadC t75 (fun t76 w =>
 CallS Try.prog 65 [t67, t70, t73, t76].toArray (fun t77 w =>
 J0 t77 w
 ) w
 ) w
 ) w
 ) w
 ) w
 ) (
 PureS (fieldAddrV 0 x2) fun t13 =>
 LoadC t13 (fun t14 w =>
 PureS (fieldAddrV 2 a3) fun t15 =>
 LoadA 4 t15 (fun t16 w =>
 CallS Try.prog 8 [t14, t16].toArray (fun t17 w =>
 J0 t17 w
 ) w
 ) w
 ) w
 )
 ) fun J3 =>
 IfB t59 true (
 PureS (fieldAddrV 2 a3) fun t61 =>
 PureS (fieldAddrV 1 t61) fun t62 =>
 LoadC t62 (fun t63 w =>
 PureS (binV .eql t63 (Value.int .i64 2)) fun t64_1 =>
 J3 t64_1 w
 ) w
 ) (
 J3 undef w
 )
 ) w
 )
 ) fun J2 =>
 IfB t41 true (
 PureS (fieldAddrV 2 a3) fun t43 =>
 PureS (fieldAddrV 1 t43) fun t44 =>
 LoadC t44 (fun t45 w =>
 PureS (binV .eql t45 (Value.int .i64 0)) fun t46_1 =>
 J2 t46_1 w
 ) w
 ) (
 J2 undef w
 )
 ) w
 )
 ) fun J1 =>
 IfB t20 true (
 PureS (fieldAddrV 2 a3) fun t22 =>
 PureS (fieldAddrV 1 t22) fun t23 =>
 LoadC t23 (fun t24 w =>
 PureS (binV .eql t24 (Value.int .i64 1)) fun t25_1 =>
 J1 t25_1 w
 ) w
 ) (
 J1 undef w
 )
 ) w
 ) w
 ) w
 ) w
 ) w
 ) w
 ) w
theorem s46_den (x0 a1 : Value) (K : Value → World → Prop) (w : World) : denFn Try.prog false (bodyOf Try.f46) Try.f46.results a46 [x0, a1] K NoP w = s46 x0 a1 K w := by kernel_rfl
theorem s46_dst : dstsOk (2 + 79) (bodyOf Try.f46) = true := by kernel_rfl
theorem s46_ann : annOk (bodyOf Try.f46) a46 = true := by kernel_rfl
theorem s46_call {x0 a1 : Value} {K : Value → World → Prop} {w : World} (hm : Try.prog.follows .mixedOrders = true) (h : s46 x0 a1 K w) : CallS Try.prog 46 #[x0, a1] K w :=
  fn_call (args := [x0, a1]) (m := 79) hm Try.func46 (by kernel_rfl) (rs := Try.f46.results) rfl Try.ntmps46 s46_dst s46_ann (by rw [s46_den]; exact h)

/-! number 47 -/
def a47 : Ann :=
 (.q (.r [.plain 1]) (.j [] 8388208 (.q (.r [.plain 1]) (.b (.l [5] 8388208 (.q (.q (.r [.plain 4]) (.c .s .s)) (.q (.b (.q (.r [.plain 6]) (.q (.r [.plain 2]) (.c (.q (.r [.plain 2]) .s) .s)))) (.r [.plain 3]))))))
  (.q (.r [.plain 9]) (.q (.q (.r [.plain 4, .grp 3 [37] 240518168576, .plain 1]) (.c (.q (.r [.plain 1]) .s) .s)) (.j [] 9006649498927360 (.q (.r [.plain 1]) (.b (.l [8] 9006649498927360 (.q (.q (.r [.plain 4]) (.c .s .s)) (.q (.b (.r [.plain 9])) (.r [.plain 3]))))))
  (.q (.r [.plain 5]) (.q (.r [.plain 1]) .s)))))))
def s47 (b0 l1 : Value) (K : Value → World → Prop) (w : World) : Prop :=
 JoinS (fun (w : World) =>
 RunS Try.prog (Instr.buildSlice 22 0 [].toArray) (fun t23 w =>
 PureS (nilV b0) fun t25 =>
 PureS (fieldAddrV 0 t25) fun t26 =>
 LoadC t26 (fun t27 w =>
 RunS Try.prog (Builtin.append_ #[22, 22] 22 [t23, t27].toArray) (fun t28 w =>
 RunS Try.prog (Builtin.append_ #[22, 22] 22 [t28, l1].toArray) (fun t30 w =>
 PureS (lenSliceV t30) fun t32 =>
 PureS (binV .gtr t32 (Value.int .i64 4096)) fun t33 =>
 JoinS (fun (t37 : Value) (w : World) =>
 PureS (pickV t33 (Value.bool true) t37) fun t38 =>
 CondS t38 (
 K (Value.int .i64 2) w
 ) (
 JoinS (fun (w : World) =>
 PureS (nilV b0) fun t55 =>
 PureS (fieldAddrV 0 t55) fun t56 =>
 StoreC t56 t30 (fun w =>
 K (Value.int .i64 0) w
 ) w
 ) fun J2 =>
 LoopS 1 (fun L3 (i8 : Value) (w : World) =>
 PureS (lenSliceV t30) fun t41 =>
 PureS (binV .lss i8 t41) fun t42 =>
 CondS t42 (
 PureS (indexAddrV 4 t30 i8) fun t49 =>
 LoadA 4 t49 (fun t50 w =>
 CallS Try.prog 43 [t50].toArray (fun t51 w =>
 PureS (indexAddrV 4 t30 i8) fun t52 =>
 StoreA 4 t52 t51 (fun w =>
 PureS (binV .add i8 (Value.int .i64 1)) fun t44 =>
 L3 t44 w
 ) w
 ) w
 ) w
 ) (
 J2 w
 )
 ) (Value.int .i64 0) w
 )
 ) fun J1 =>
 IfB t33 false (
 CallS Try.prog 36 [t30].toArray (fun t36 w =>
 PureS (binV .gtr t36 (Value.int .i64 4194304)) fun t37_1 =>
 J1 t37_1 w
 ) w
 ) (
 J1 undef w
 )
 ) w
 ) w
 ) w
 ) w
 ) fun J0 =>
 LoopS 1 (fun L4 (i5 : Value) (w : World) =>
 PureS (lenSliceV l1) fun t11 =>
 PureS (binV .lss i5 t11) fun t12 =>
 CondS t12 (
 PureS (indexAddrV 4 l1 i5) fun t17 =>
 LoadA 4 t17 (fun t18 w =>
 CallS Try.prog 20 [t18].toArray (fun t19 w =>
 PureS (binV .neq t19 (Value.int .i64 0)) fun t21 =>
 CondS t21 (
 K t19 w
 ) (
 PureS (binV .add i5 (Value.int .i64 1)) fun t14 =>
 L4 t14 w
 )
 ) w
 ) w
 ) (
 J0 w
 )
 ) (Value.int .i64 0) w
theorem s47_den (b0 l1 : Value) (K : Value → World → Prop) (w : World) : denFn Try.prog false (bodyOf Try.f47) Try.f47.results a47 [b0, l1] K NoP w = s47 b0 l1 K w := by kernel_rfl
theorem s47_dst : dstsOk (2 + 55) (bodyOf Try.f47) = true := by kernel_rfl
theorem s47_ann : annOk (bodyOf Try.f47) a47 = true := by kernel_rfl
theorem s47_call {b0 l1 : Value} {K : Value → World → Prop} {w : World} (hm : Try.prog.follows .mixedOrders = true) (h : s47 b0 l1 K w) : CallS Try.prog 47 #[b0, l1] K w :=
  fn_call (args := [b0, l1]) (m := 55) hm Try.func47 (by kernel_rfl) (rs := Try.f47.results) rfl Try.ntmps47 s47_dst s47_ann (by rw [s47_den]; exact h)

/-! number 48 -/
def a48 : Ann :=
 (.r [.plain 4])
def s48 (b0 : Value) (K : Value → World → Prop) (w : World) : Prop :=
 RunS Try.prog (Instr.build 26 [].toArray) (fun t3 w =>
 PureS (nilV b0) fun t4 =>
 StoreA 3 t4 t3 (fun w =>
 K (Value.tuple [].toArray) w
 ) w
 ) w
theorem s48_den (b0 : Value) (K : Value → World → Prop) (w : World) : denFn Try.prog false (bodyOf Try.f48) Try.f48.results a48 [b0] K NoP w = s48 b0 K w := by kernel_rfl
theorem s48_dst : dstsOk (1 + 4) (bodyOf Try.f48) = true := by kernel_rfl
theorem s48_ann : annOk (bodyOf Try.f48) a48 = true := by kernel_rfl
theorem s48_call {b0 : Value} {K : Value → World → Prop} {w : World} (hm : Try.prog.follows .mixedOrders = true) (h : s48 b0 K w) : CallS Try.prog 48 #[b0] K w :=
  fn_call (args := [b0]) (m := 4) hm Try.func48 (by kernel_rfl) (rs := Try.f48.results) rfl Try.ntmps48 s48_dst s48_ann (by rw [s48_den]; exact h)
end Go.Proofs.Ytambcnlkdnmekaa
