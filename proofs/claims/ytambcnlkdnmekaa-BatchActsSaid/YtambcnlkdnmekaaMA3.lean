/- Several texts of ours, laid one behind the other. -/
import Derived.Test.YtambcnlkdnmekaaMA2
import Derived.Test.YtambcnlkdnmekaaProg
import Derived.Test.YtambcnlkdnmekaaChecked
import Derived.Eval
import Derived.Laws.OwnMore
import Derived.Laws.BytesString
import Derived.Laws.IdiomStrings
import Derived.LaidEqlPtr
/-! Laid out by a program of ours: what each function of the cut comes to, over named values; and that it is so. -/
namespace Go.Proofs.Ytambcnlkdnmekaa
set_option linter.unusedVariables false
set_option maxRecDepth 100000
open Go SG

/-! number 77 -/
def a77 : Ann :=
 (.q (.r [.plain 2]) (.q (.r [.plain 4]) (.q (.r [.plain 1]) (.q (.r [.plain 6]) (.q (.r [.plain 6]) (.q (.r [.plain 6]) (.j [11] 562947805944832 (.q (.r [.plain 2]) (.c (.j [10, 11, 12] 17583596116992 (.q (.r [.plain 2]) (.c (.q (.r [.plain 4]) (.q (.r [.plain 4]) (.r [.plain 4]))) .s))
  (.r [.plain 6])) .s))
  (.q (.r [.plain 1]) (.b (.q (.r [.plain 2]) (.c (.q (.r [.plain 3]) .s) (.q (.r [.plain 2]) (.c (.q (.r [.plain 3]) .s) (.q (.r [.plain 3]) .s))))))))))))))
def s77 (data0 a1 b2 : Value) (K : Value → World → Prop) (w : World) : Prop :=
 PureS (binV .sub b2 a1) fun t15 =>
 BoxS 3 (Value.int .i64 0) (fun swaps9 w =>
 PureS (binV .quo t15 (Value.int .i64 4)) fun t18 =>
 PureS (binV .mul t18 (Value.int .i64 1)) fun t19 =>
 PureS (binV .add a1 t19) fun t20 =>
 PureS (binV .quo t15 (Value.int .i64 4)) fun t23 =>
 PureS (binV .mul t23 (Value.int .i64 2)) fun t24 =>
 PureS (binV .add a1 t24) fun t25 =>
 PureS (binV .quo t15 (Value.int .i64 4)) fun t28 =>
 PureS (binV .mul t28 (Value.int .i64 3)) fun t29 =>
 PureS (binV .add a1 t29) fun t30 =>
 JoinS (fun (j11 : Value) (w : World) =>
 LoadC swaps9 (fun t49 w =>
 PureS (binV .eql t49 (Value.int .i64 0)) fun t52 =>
 CondS t52 (
 K (Value.tuple [j11, (Value.int .i64 1)].toArray) w
 ) (
 PureS (binV .eql t49 (Value.int .i64 12)) fun t55 =>
 CondS t55 (
 K (Value.tuple [j11, (Value.int .i64 2)].toArray) w
 ) (
 K (Value.tuple [j11, (Value.int .i64 0)].toArray) w
 )
 )
 ) w
 ) fun J0 =>
 PureS (binV .geq t15 (Value.int .i64 8)) fun t32 =>
 CondS t32 (
 JoinS (fun (i10 j11_1 k12 : Value) (w : World) =>
 CallS Try.prog 89 [data0, i10, j11_1, k12, swaps9].toArray (fun t48 w =>
 J0 t48 w
 ) w
 ) fun J1 =>
 PureS (binV .geq t15 (Value.int .i64 50)) fun t34 =>
 CondS t34 (
 CallS Try.prog 88 [data0, t20, swaps9].toArray (fun t37 w =>
 CallS Try.prog 88 [data0, t25, swaps9].toArray (fun t40 w =>
 CallS Try.prog 88 [data0, t30, swaps9].toArray (fun t43 w =>
 J1 t37 t40 t43 w
 ) w
 ) w
 ) w
 ) (
 J1 t20 t25 t30 w
 )
 ) (
 J0 t25 w
 )
 ) w
theorem s77_den (data0 a1 b2 : Value) (K : Value → World → Prop) (w : World) : denFn Try.prog false (bodyOf Try.f77) Try.f77.results a77 [data0, a1, b2] K NoP w = s77 data0 a1 b2 K w := by kernel_rfl
theorem s77_dst : dstsOk (3 + 54) (bodyOf Try.f77) = true := by kernel_rfl
theorem s77_ann : annOk (bodyOf Try.f77) a77 = true := by kernel_rfl
theorem s77_call {data0 a1 b2 : Value} {K : Value → World → Prop} {w : World} (hm : Try.prog.follows .mixedOrders = true) (h : s77 data0 a1 b2 K w) : CallS Try.prog 77 #[data0, a1, b2] K w :=
  fn_call (args := [data0, a1, b2]) (m := 54) hm Try.func77 (by kernel_rfl) (rs := Try.f77.results) rfl Try.ntmps77 s77_dst s77_ann (by rw [s77_den]; exact h)

/-! number 78 -/
def a78 : Ann :=
 (.q (.r [.plain 2]) (.q (.r [.plain 3]) (.b (.l [6, 7] 4294965440 (.q (.q (.r [.plain 3]) (.c .s .s)) (.b (.q (.d [0, 0, 0, 0, 0, 0, 48, 112, 0, 0, 768, 1792, 4083, 8179, 16383, 32767] (.pur 0 (.pur 1 (.pur 2 (.pur 3 (.pur 4 (.pur 5 (.pur 6 (.pur 8 (.pur 9 (.pur 10 (.hld 7 (.hld 11 (.pur 12 (.act 13 (.pur 14 (.act 15 .fin))))))))))))))))) (.q (.r [.plain 3]) (.r [.plain 3])))))))))
def s78 (data0 a1 b2 : Value) (K : Value → World → Prop) (w : World) : Prop :=
 PureS (binV .sub b2 (Value.int .i64 1)) fun t10 =>
 LoopS 2 (fun L0 (i6 j7 : Value) (w : World) =>
 PureS (binV .lss i6 j7) fun t13 =>
 CondS t13 (
 DrawS fun S1 => S1 w.drew ∧ (
 PureS (indexAddrV 1 data0 j7) fun t20 =>
 PureS (indexAddrV 1 data0 i6) fun t24 =>
 HeldC S1 t20 (fun t21 =>
 HeldC S1 t24 (fun t25 =>
 PureS (indexAddrV 1 data0 i6) fun t26 =>
 StoreC t26 t21 (fun w =>
 PureS (indexAddrV 1 data0 j7) fun t27 =>
 StoreC t27 t25 (fun w =>
 PureS (binV .add i6 (Value.int .i64 1)) fun t29 =>
 PureS (binV .sub j7 (Value.int .i64 1)) fun t31 =>
 L0 t29 t31 w
 ) w
 ) w.drew
 )
 )
 )
 ) (
 K (Value.tuple [].toArray) w
 )
 ) a1 t10 w
theorem s78_den (data0 a1 b2 : Value) (K : Value → World → Prop) (w : World) : denFn Try.prog false (bodyOf Try.f78) Try.f78.results a78 [data0, a1, b2] K NoP w = s78 data0 a1 b2 K w := by kernel_rfl
theorem s78_dst : dstsOk (3 + 29) (bodyOf Try.f78) = true := by kernel_rfl
theorem s78_ann : annOk (bodyOf Try.f78) a78 = true := by kernel_rfl
theorem s78_call {data0 a1 b2 : Value} {K : Value → World → Prop} {w : World} (hm : Try.prog.follows .mixedOrders = true) (h : s78 data0 a1 b2 K w) : CallS Try.prog 78 #[data0, a1, b2] K w :=
  fn_call (args := [data0, a1, b2]) (m := 29) hm Try.func78 (by kernel_rfl) (rs := Try.f78.results) rfl Try.ntmps78 s78_dst s78_ann (by rw [s78_den]; exact h)

/-! number 79 -/
def a79 : Ann :=
 (.q (.r [.plain 1]) (.q (.r [.plain 3]) (.j [] 10889035741470030830827987437816582760384 (.q (.r [.plain 1]) (.b (.l [7, 8] 10889035741470030830827987437816582760384 (.q (.q (.r [.plain 2]) (.c .s .s)) (.j [7] 10889035741470030830827987437816582637248 (.b (.j [7] 34359607424 (.b (.l [7] 34359607424 (.q (.j [32] 8589803520 (.d [0, 0, 3, 7, 15, 15, 63, 127, 15, 15, 527, 1807, 3855, 8191, 16383, 32767] (.pur 0 (.pur 1 (.pur 2 (.pur 3 (.ite 3 (.pur 4 (.pur 5 (.pur 6 (.pur 8 (.pur 9 (.pur 10 (.pur 11 (.hld 7 (.hld 12 (.act 13 (.pur 14 (.pur 15 .fin)))))))))))) (.skp 4 (.skp 5 (.skp 6 (.skp 7 (.skp 8 (.skp 9 (.skp 10 (.skp 11 (.skp 12 (.skp 13 (.skp 14 (.pur 15 .fin))))))))))))))))))
  (.c .s .s)) (.b (.r [.plain 3])))))
  (.q (.q (.r [.plain 3]) (.c (.q (.r [.plain 1]) .s) .s)) (.q (.q (.r [.plain 4]) (.c (.q (.r [.plain 1]) .s) .s)) (.q (.d [0, 0, 0, 0, 8, 0, 0, 64, 224, 480, 0, 0, 3072, 7168, 16355, 32739, 65535, 131071] (.pur 0 (.pur 1 (.pur 2 (.pur 3 (.pur 4 (.pur 5 (.pur 6 (.pur 7 (.pur 8 (.pur 10 (.pur 11 (.pur 12 (.hld 9 (.hld 13 (.pur 14 (.act 15 (.pur 16 (.act 17 .fin))))))))))))))))))) (.j [] 39614081256843938420620263936 (.q (.r [.plain 4]) (.c (.q (.r [.plain 3]) (.b (.l [9] 39614081238685424723062424064 (.q (.q (.r [.plain 2]) (.c .s .s)) (.q (.b (.q (.q (.d [0, 0, 3, 7, 0, 0, 32, 112, 240, 511, 1023] (.pur 0 (.pur 1 (.pur 2 (.pur 4 (.pur 5 (.pur 6 (.pur 7 (.hld 3 (.hld 8 (.act 9 (.pur 10 .fin)))))))))))) (.c .s .s)) (.d [0, 0, 0, 0, 8, 0, 0, 64, 224, 480, 0, 0, 3072, 7168, 16355, 32739, 65535, 131071] (.pur 0 (.pur 1 (.pur 2 (.pur 3 (.pur 4 (.pur 5 (.pur 6 (.pur 7 (.pur 8 (.pur 10 (.pur 11 (.pur 12 (.hld 9 (.hld 13 (.pur 14 (.act 15 (.pur 16 (.act 17 .fin))))))))))))))))))))) (.r [.plain 3])))))) .s))
  (.q (.r [.plain 4]) (.c (.q (.r [.plain 3]) (.b (.l [10] 10889035738934729630371528634823176356864 (.q (.q (.r [.plain 3]) (.c .s .s)) (.q (.b (.q (.q (.d [0, 0, 3, 7, 0, 0, 32, 112, 240, 511, 1023] (.pur 0 (.pur 1 (.pur 2 (.pur 4 (.pur 5 (.pur 6 (.pur 7 (.hld 3 (.hld 8 (.act 9 (.pur 10 .fin)))))))))))) (.c .s .s)) (.d [0, 0, 0, 0, 8, 0, 0, 64, 224, 480, 0, 0, 3072, 7168, 16355, 32739, 65535, 131071] (.pur 0 (.pur 1 (.pur 2 (.pur 3 (.pur 4 (.pur 5 (.pur 6 (.pur 7 (.pur 8 (.pur 10 (.pur 11 (.pur 12 (.hld 9 (.hld 13 (.pur 14 (.act 15 (.pur 16 (.act 17 .fin))))))))))))))))))))) (.r [.plain 3])))))) .s))))))))
  (.r [.plain 3]))))))
  (.q (.r [.plain 1]) .s))))
def s79 (data0 a1 b2 : Value) (K : Value → World → Prop) (w : World) : Prop :=
 PureS (binV .add a1 (Value.int .i64 1)) fun t12 =>
 JoinS (fun (w : World) =>
 K (Value.bool false) w
 ) fun J0 =>
 LoopS 2 (fun L1 (i7 j8 : Value) (w : World) =>
 PureS (binV .lss j8 (Value.int .i64 5)) fun t14 =>
 CondS t14 (
 JoinS (fun (i7_1 : Value) (w : World) =>
 PureS (binV .add j8 (Value.int .i64 1)) fun t16 =>
 L1 i7_1 t16 w
 ) fun J2 =>
 JoinS (fun (i7_2 : Value) (w : World) =>
 PureS (binV .eql i7_2 b2) fun t37 =>
 CondS t37 (
 K (Value.bool true) w
 ) (
 PureS (binV .sub b2 a1) fun t40 =>
 PureS (binV .lss t40 (Value.int .i64 50)) fun t41 =>
 CondS t41 (
 K (Value.bool false) w
 ) (
 DrawS fun S4 => S4 w.drew ∧ (
 PureS (binV .sub i7_2 (Value.int .i64 1)) fun t46 =>
 PureS (binV .sub i7_2 (Value.int .i64 1)) fun t49 =>
 PureS (indexAddrV 1 data0 t49) fun t50 =>
 PureS (indexAddrV 1 data0 i7_2) fun t54 =>
 HeldC S4 t50 (fun t51 =>
 HeldC S4 t54 (fun t55 =>
 PureS (indexAddrV 1 data0 i7_2) fun t56 =>
 StoreC t56 t51 (fun w =>
 PureS (indexAddrV 1 data0 t46) fun t57 =>
 StoreC t57 t55 (fun w =>
 JoinS (fun (w : World) =>
 PureS (binV .sub b2 i7_2) fun t97 =>
 PureS (binV .geq t97 (Value.int .i64 2)) fun t98 =>
 CondS t98 (
 PureS (binV .add i7_2 (Value.int .i64 1)) fun t100 =>
 LoopS 1 (fun L6 (j10 : Value) (w : World) =>
 PureS (binV .lss j10 b2) fun t103 =>
 CondS t103 (
 DrawS fun S7 => S7 w.drew ∧ (
 PureS (indexAddrV 1 data0 j10) fun t108 =>
 PureS (binV .sub j10 (Value.int .i64 1)) fun t112 =>
 PureS (indexAddrV 1 data0 t112) fun t113 =>
 HeldC S7 t108 (fun t109 =>
 HeldC S7 t113 (fun t114 =>
 CallS Try.prog 80 [t109, t114].toArray (fun t115 w =>
 PureS (notV t115) fun t116 =>
 CondS t116 (
 J2 i7_2 w
 ) (
 DrawS fun S8 => S8 w.drew ∧ (
 PureS (binV .sub j10 (Value.int .i64 1)) fun t121 =>
 PureS (binV .sub j10 (Value.int .i64 1)) fun t124 =>
 PureS (indexAddrV 1 data0 t124) fun t125 =>
 PureS (indexAddrV 1 data0 j10) fun t129 =>
 HeldC S8 t125 (fun t126 =>
 HeldC S8 t129 (fun t130 =>
 PureS (indexAddrV 1 data0 j10) fun t131 =>
 StoreC t131 t126 (fun w =>
 PureS (indexAddrV 1 data0 t121) fun t132 =>
 StoreC t132 t130 (fun w =>
 PureS (binV .add j10 (Value.int .i64 1)) fun t105 =>
 L6 t105 w
 ) w
 ) w.drew
 )
 )
 )
 )
 ) w.drew
 )
 )
 )
 ) (
 J2 i7_2 w
 )
 ) t100 w
 ) (
 J2 i7_2 w
 )
 ) fun J5 =>
 PureS (binV .sub i7_2 a1) fun t60 =>
 PureS (binV .geq t60 (Value.int .i64 2)) fun t61 =>
 CondS t61 (
 PureS (binV .sub i7_2 (Value.int .i64 1)) fun t63 =>
 LoopS 1 (fun L9 (j9 : Value) (w : World) =>
 PureS (binV .geq j9 (Value.int .i64 1)) fun t65 =>
 CondS t65 (
 DrawS fun S10 => S10 w.drew ∧ (
 PureS (indexAddrV 1 data0 j9) fun t70 =>
 PureS (binV .sub j9 (Value.int .i64 1)) fun t74 =>
 PureS (indexAddrV 1 data0 t74) fun t75 =>
 HeldC S10 t70 (fun t71 =>
 HeldC S10 t75 (fun t76 =>
 CallS Try.prog 80 [t71, t76].toArray (fun t77 w =>
 PureS (notV t77) fun t78 =>
 CondS t78 (
 J5 w
 ) (
 DrawS fun S11 => S11 w.drew ∧ (
 PureS (binV .sub j9 (Value.int .i64 1)) fun t83 =>
 PureS (binV .sub j9 (Value.int .i64 1)) fun t86 =>
 PureS (indexAddrV 1 data0 t86) fun t87 =>
 PureS (indexAddrV 1 data0 j9) fun t91 =>
 HeldC S11 t87 (fun t88 =>
 HeldC S11 t91 (fun t92 =>
 PureS (indexAddrV 1 data0 j9) fun t93 =>
 StoreC t93 t88 (fun w =>
 PureS (indexAddrV 1 data0 t83) fun t94 =>
 StoreC t94 t92 (fun w =>
 PureS (binV .sub j9 (Value.int .i64 1)) fun t67 =>
 L9 t67 w
 ) w
 ) w.drew
 )
 )
 )
 )
 ) w.drew
 )
 )
 )
 ) (
 J5 w
 )
 ) t63 w
 ) (
 J5 w
 )
 ) w
 ) w.drew
 )
 )
 )
 )
 )
 ) fun J3 =>
 LoopS 1 (fun L12 (i7_3 : Value) (w : World) =>
 JoinS (fun (t32 : Value) (w : World) =>
 CondS t32 (
 PureS (binV .add i7_3 (Value.int .i64 1)) fun t34 =>
 L12 t34 w
 ) (
 J3 i7_3 w
 )
 ) fun J13 =>
 DrawS fun S14 => S14 w.drew ∧ (
 PureS (binV .lss i7_3 b2) fun t19 =>
 CondS t19 (
 PureS (indexAddrV 1 data0 i7_3) fun t23 =>
 PureS (binV .sub i7_3 (Value.int .i64 1)) fun t27 =>
 PureS (indexAddrV 1 data0 t27) fun t28 =>
 HeldC S14 t23 (fun t24 =>
 HeldC S14 t28 (fun t29 =>
 CallS Try.prog 80 [t24, t29].toArray (fun t30 w =>
 PureS (notV t30) fun t31 =>
 PureS (pickV (Value.bool true) t31 (Value.bool false)) fun t32_1 =>
 J13 t32_1 w
 ) w.drew
 )
 )
 ) (
 PureS (pickV (Value.bool false) undef (Value.bool false)) fun t32_2 =>
 J13 t32_2 w.drew
 )
 )
 ) i7 w
 ) (
 J0 w
 )
 ) t12 (Value.int .i64 0) w
theorem s79_den (data0 a1 b2 : Value) (K : Value → World → Prop) (w : World) : denFn Try.prog false (bodyOf Try.f79) Try.f79.results a79 [data0, a1, b2] K NoP w = s79 data0 a1 b2 K w := by kernel_rfl
theorem s79_dst : dstsOk (3 + 130) (bodyOf Try.f79) = true := by kernel_rfl
theorem s79_ann : annOk (bodyOf Try.f79) a79 = true := by kernel_rfl
theorem s79_call {data0 a1 b2 : Value} {K : Value → World → Prop} {w : World} (hm : Try.prog.follows .mixedOrders = true) (h : s79 data0 a1 b2 K w) : CallS Try.prog 79 #[data0, a1, b2] K w :=
  fn_call (args := [data0, a1, b2]) (m := 130) hm Try.func79 (by kernel_rfl) (rs := Try.f79.results) rfl Try.ntmps79 s79_dst s79_ann (by rw [s79_den]; exact h)

/-! number 80 -/
def a80 : Ann :=
 (.q (.r [.plain 1]) (.q (.r [.plain 3, .grp 3 [10] 1792, .plain 2, .grp 3 [15] 57344, .plain 2]) .s))
def s80 (x0 y1 : Value) (K : Value → World → Prop) (w : World) : Prop :=
 CallS Try.prog 90 [x0].toArray (fun t6 w =>
 JoinS (fun (t10 : Value) (w : World) =>
 PureS (pickV t6 t10 (Value.bool false)) fun t11 =>
 JoinS (fun (t15 : Value) (w : World) =>
 PureS (pickV t11 (Value.bool true) t15) fun t16 =>
 K t16 w
 ) fun J1 =>
 IfB t11 false (
 PureS (binV .lss x0 y1) fun t15_1 =>
 J1 t15_1 w
 ) (
 J1 undef w
 )
 ) fun J0 =>
 IfB t6 true (
 CallS Try.prog 90 [y1].toArray (fun t9 w =>
 PureS (notV t9) fun t10_1 =>
 J0 t10_1 w
 ) w
 ) (
 J0 undef w
 )
 ) w
theorem s80_den (x0 y1 : Value) (K : Value → World → Prop) (w : World) : denFn Try.prog false (bodyOf Try.f80) Try.f80.results a80 [x0, y1] K NoP w = s80 x0 y1 K w := by kernel_rfl
theorem s80_dst : dstsOk (2 + 15) (bodyOf Try.f80) = true := by kernel_rfl
theorem s80_ann : annOk (bodyOf Try.f80) a80 = true := by kernel_rfl
theorem s80_call {x0 y1 : Value} {K : Value → World → Prop} {w : World} (hm : Try.prog.follows .mixedOrders = true) (h : s80 x0 y1 K w) : CallS Try.prog 80 #[x0, y1] K w :=
  fn_call (args := [x0, y1]) (m := 15) hm Try.func80 (by kernel_rfl) (rs := Try.f80.results) rfl Try.ntmps80 s80_dst s80_ann (by rw [s80_den]; exact h)

/-! number 81 -/
def a81 : Ann :=
 (.q (.r [.plain 1]) (.q (.d [0, 0, 0, 0, 0, 0, 48, 112, 0, 0, 768, 1792, 4083, 8179, 16383, 32767] (.pur 0 (.pur 1 (.pur 2 (.pur 3 (.pur 4 (.pur 5 (.pur 6 (.pur 8 (.pur 9 (.pur 10 (.hld 7 (.hld 11 (.pur 12 (.act 13 (.pur 14 (.act 15 .fin))))))))))))))))) (.q (.r [.plain 6]) (.j [9] 9671406556917032860780032 (.b (.l [9, 10] 9671406556917032860780032 (.b (.j [9] 70368207307264 (.b (.l [9] 70368207307264 (.q (.j [43] 17591649173504 (.d [0, 0, 3, 7, 15, 15, 63, 127, 15, 15, 783, 1807, 4095, 8191, 16383] (.pur 0 (.pur 1 (.pur 2 (.pur 3 (.ite 3 (.pur 4 (.pur 5 (.pur 6 (.pur 8 (.pur 9 (.pur 10 (.hld 7 (.hld 11 (.act 12 (.pur 13 (.pur 14 .fin))))))))))) (.skp 4 (.skp 5 (.skp 6 (.skp 7 (.skp 8 (.skp 9 (.skp 10 (.skp 11 (.skp 12 (.skp 13 (.pur 14 .fin)))))))))))))))))
  (.c .s .s)) (.b (.r [.plain 3])))))
  (.j [10] 4611615649683211264 (.b (.l [10] 4611615649683211264 (.q (.j [59] 1152851135862669312 (.d [0, 0, 3, 7, 15, 15, 63, 127, 15, 15, 783, 1807, 4095, 8191] (.pur 0 (.pur 1 (.pur 2 (.pur 3 (.ite 3 (.pur 4 (.pur 5 (.pur 6 (.pur 8 (.pur 9 (.pur 10 (.hld 7 (.hld 11 (.act 12 (.pur 13 .fin)))))))))) (.skp 4 (.skp 5 (.skp 6 (.skp 7 (.skp 8 (.skp 9 (.skp 10 (.skp 11 (.skp 12 (.pur 13 .fin))))))))))))))))
  (.c .s .s)) (.b (.r [.plain 3])))))
  (.q (.q (.r [.plain 3]) (.c .s .s)) (.q (.d [0, 0, 0, 0, 0, 0, 48, 112, 0, 0, 768, 1792, 4083, 8179, 16383, 32767] (.pur 0 (.pur 1 (.pur 2 (.pur 3 (.pur 4 (.pur 5 (.pur 6 (.pur 8 (.pur 9 (.pur 10 (.hld 7 (.hld 11 (.pur 12 (.act 13 (.pur 14 (.act 15 .fin))))))))))))))))) (.q (.r [.plain 3]) (.r [.plain 3])))))))))
  (.q (.r [.plain 2]) .s)))))
def s81 (data0 a1 b2 pivot3 : Value) (K : Value → World → Prop) (w : World) : Prop :=
 DrawS fun S0 => S0 w.drew ∧ (
 PureS (indexAddrV 1 data0 pivot3) fun t17 =>
 PureS (indexAddrV 1 data0 a1) fun t21 =>
 HeldC S0 t17 (fun t18 =>
 HeldC S0 t21 (fun t22 =>
 PureS (indexAddrV 1 data0 a1) fun t23 =>
 StoreC t23 t18 (fun w =>
 PureS (indexAddrV 1 data0 pivot3) fun t24 =>
 StoreC t24 t22 (fun w =>
 PureS (binV .add a1 (Value.int .i64 1)) fun t26 =>
 PureS (binV .sub b2 (Value.int .i64 1)) fun t28 =>
 JoinS (fun (i9 : Value) (w : World) =>
 K i9 w
 ) fun J1 =>
 LoopS 2 (fun L2 (i9_1 j10 : Value) (w : World) =>
 JoinS (fun (i9_2 : Value) (w : World) =>
 JoinS (fun (j10_1 : Value) (w : World) =>
 PureS (binV .gtr i9_2 j10_1) fun t64 =>
 CondS t64 (
 J1 i9_2 w
 ) (
 DrawS fun S5 => S5 w.drew ∧ (
 PureS (indexAddrV 1 data0 j10_1) fun t71 =>
 PureS (indexAddrV 1 data0 i9_2) fun t75 =>
 HeldC S5 t71 (fun t72 =>
 HeldC S5 t75 (fun t76 =>
 PureS (indexAddrV 1 data0 i9_2) fun t77 =>
 StoreC t77 t72 (fun w =>
 PureS (indexAddrV 1 data0 j10_1) fun t78 =>
 StoreC t78 t76 (fun w =>
 PureS (binV .add i9_2 (Value.int .i64 1)) fun t80 =>
 PureS (binV .sub j10_1 (Value.int .i64 1)) fun t82 =>
 L2 t80 t82 w
 ) w
 ) w.drew
 )
 )
 )
 )
 ) fun J4 =>
 LoopS 1 (fun L6 (j10_2 : Value) (w : World) =>
 JoinS (fun (t59 : Value) (w : World) =>
 CondS t59 (
 PureS (binV .sub j10_2 (Value.int .i64 1)) fun t61 =>
 L6 t61 w
 ) (
 J4 j10_2 w
 )
 ) fun J7 =>
 DrawS fun S8 => S8 w.drew ∧ (
 PureS (binV .leq i9_2 j10_2) fun t48 =>
 CondS t48 (
 PureS (indexAddrV 1 data0 a1) fun t52 =>
 PureS (indexAddrV 1 data0 j10_2) fun t56 =>
 HeldC S8 t52 (fun t53 =>
 HeldC S8 t56 (fun t57 =>
 CallS Try.prog 80 [t53, t57].toArray (fun t58 w =>
 PureS (pickV (Value.bool true) t58 (Value.bool false)) fun t59_1 =>
 J7 t59_1 w
 ) w.drew
 )
 )
 ) (
 PureS (pickV (Value.bool false) undef (Value.bool false)) fun t59_2 =>
 J7 t59_2 w.drew
 )
 )
 ) j10 w
 ) fun J3 =>
 LoopS 1 (fun L9 (i9_3 : Value) (w : World) =>
 JoinS (fun (t43 : Value) (w : World) =>
 CondS t43 (
 PureS (binV .add i9_3 (Value.int .i64 1)) fun t45 =>
 L9 t45 w
 ) (
 J3 i9_3 w
 )
 ) fun J10 =>
 DrawS fun S11 => S11 w.drew ∧ (
 PureS (binV .leq i9_3 j10) fun t31 =>
 CondS t31 (
 PureS (indexAddrV 1 data0 a1) fun t35 =>
 PureS (indexAddrV 1 data0 i9_3) fun t39 =>
 HeldC S11 t35 (fun t36 =>
 HeldC S11 t39 (fun t40 =>
 CallS Try.prog 80 [t36, t40].toArray (fun t41 w =>
 PureS (notV t41) fun t42 =>
 PureS (pickV (Value.bool true) t42 (Value.bool false)) fun t43_1 =>
 J10 t43_1 w
 ) w.drew
 )
 )
 ) (
 PureS (pickV (Value.bool false) undef (Value.bool false)) fun t43_2 =>
 J10 t43_2 w.drew
 )
 )
 ) i9_1 w
 ) t26 t28 w
 ) w
 ) w.drew
 )
 )
 )
theorem s81_den (data0 a1 b2 pivot3 : Value) (K : Value → World → Prop) (w : World) : denFn Try.prog false (bodyOf Try.f81) Try.f81.results a81 [data0, a1, b2, pivot3] K NoP w = s81 data0 a1 b2 pivot3 K w := by kernel_rfl
theorem s81_dst : dstsOk (4 + 80) (bodyOf Try.f81) = true := by kernel_rfl
theorem s81_ann : annOk (bodyOf Try.f81) a81 = true := by kernel_rfl
theorem s81_call {data0 a1 b2 pivot3 : Value} {K : Value → World → Prop} {w : World} (hm : Try.prog.follows .mixedOrders = true) (h : s81 data0 a1 b2 pivot3 K w) : CallS Try.prog 81 #[data0, a1, b2, pivot3] K w :=
  fn_call (args := [data0, a1, b2, pivot3]) (m := 80) hm Try.func81 (by kernel_rfl) (rs := Try.f81.results) rfl Try.ntmps81 s81_dst s81_ann (by rw [s81_den]; exact h)

/-! number 82 -/
def a82 : Ann :=
 (.q (.r [.plain 2]) (.q (.d [0, 0, 0, 0, 0, 0, 48, 112, 0, 0, 768, 1792, 4083, 8179, 16383, 32767] (.pur 0 (.pur 1 (.pur 2 (.pur 3 (.pur 4 (.pur 5 (.pur 6 (.pur 8 (.pur 9 (.pur 10 (.hld 7 (.hld 11 (.pur 12 (.act 13 (.pur 14 (.act 15 .fin))))))))))))))))) (.q (.r [.plain 6]) (.j [10] 70367670436864 (.b (.l [10] 70367670436864 (.q (.j [43] 17591112302592 (.d [0, 0, 3, 7, 15, 15, 63, 127, 15, 15, 783, 1807, 4095, 8191] (.pur 0 (.pur 1 (.pur 2 (.pur 3 (.ite 3 (.pur 4 (.pur 5 (.pur 6 (.pur 8 (.pur 9 (.pur 10 (.hld 7 (.hld 11 (.act 12 (.pur 13 .fin)))))))))) (.skp 4 (.skp 5 (.skp 6 (.skp 7 (.skp 8 (.skp 9 (.skp 10 (.skp 11 (.skp 12 (.pur 13 .fin))))))))))))))))
  (.c .s .s)) (.b (.r [.plain 3])))))
  (.j [11] 9223301668110600192 (.b (.l [11] 9223301668110600192 (.q (.j [60] 2305772640469516288 (.d [0, 0, 3, 7, 15, 15, 63, 127, 15, 15, 783, 1807, 4095, 8191, 16383] (.pur 0 (.pur 1 (.pur 2 (.pur 3 (.ite 3 (.pur 4 (.pur 5 (.pur 6 (.pur 8 (.pur 9 (.pur 10 (.hld 7 (.hld 11 (.act 12 (.pur 13 (.pur 14 .fin))))))))))) (.skp 4 (.skp 5 (.skp 6 (.skp 7 (.skp 8 (.skp 9 (.skp 10 (.skp 11 (.skp 12 (.skp 13 (.pur 14 .fin)))))))))))))))))
  (.c .s .s)) (.b (.r [.plain 3])))))
  (.q (.q (.r [.plain 3]) (.c (.q (.d [0, 0, 0, 0, 0, 0, 48, 112, 0, 0, 768, 1792, 4083, 8179, 16383, 32767] (.pur 0 (.pur 1 (.pur 2 (.pur 3 (.pur 4 (.pur 5 (.pur 6 (.pur 8 (.pur 9 (.pur 10 (.hld 7 (.hld 11 (.pur 12 (.act 13 (.pur 14 (.act 15 .fin))))))))))))))))) (.q (.r [.plain 3]) .s)) .s)) (.q (.d [0, 0, 0, 0, 0, 0, 48, 112, 0, 0, 768, 1792, 4083, 8179, 16383, 32767] (.pur 0 (.pur 1 (.pur 2 (.pur 3 (.pur 4 (.pur 5 (.pur 6 (.pur 8 (.pur 9 (.pur 10 (.hld 7 (.hld 11 (.pur 12 (.act 13 (.pur 14 (.act 15 .fin))))))))))))))))) (.q (.r [.plain 3]) (.q (.r [.plain 3]) (.j [11] 11417981541647678414640987641481260342710373376 (.b (.l [10, 11] 11417981541647678414640987641481260342710373376 (.b (.j [10] 41537741042978506913543222282159104 (.b (.l [10] 41537741042978506913543222282159104 (.q (.j [112] 10383959891769541142360244306837504 (.d [0, 0, 3, 7, 15, 15, 63, 127, 15, 15, 783, 1807, 4095, 8191] (.pur 0 (.pur 1 (.pur 2 (.pur 3 (.ite 3 (.pur 4 (.pur 5 (.pur 6 (.pur 8 (.pur 9 (.pur 10 (.hld 7 (.hld 11 (.act 12 (.pur 13 .fin)))))))))) (.skp 4 (.skp 5 (.skp 6 (.skp 7 (.skp 8 (.skp 9 (.skp 10 (.skp 11 (.skp 12 (.pur 13 .fin))))))))))))))))
  (.c .s .s)) (.b (.r [.plain 3])))))
  (.j [11] 5444476332360147136792965474937657624576 (.b (.l [11] 5444476332360147136792965474937657624576 (.q (.j [129] 1361087929308885575232470185756439085056 (.d [0, 0, 3, 7, 15, 15, 63, 127, 15, 15, 783, 1807, 4095, 8191, 16383] (.pur 0 (.pur 1 (.pur 2 (.pur 3 (.ite 3 (.pur 4 (.pur 5 (.pur 6 (.pur 8 (.pur 9 (.pur 10 (.hld 7 (.hld 11 (.act 12 (.pur 13 (.pur 14 .fin))))))))))) (.skp 4 (.skp 5 (.skp 6 (.skp 7 (.skp 8 (.skp 9 (.skp 10 (.skp 11 (.skp 12 (.skp 13 (.pur 14 .fin)))))))))))))))))
  (.c .s .s)) (.b (.r [.plain 3])))))
  (.q (.q (.r [.plain 3]) (.c .s .s)) (.q (.d [0, 0, 0, 0, 0, 0, 48, 112, 0, 0, 768, 1792, 4083, 8179, 16383, 32767] (.pur 0 (.pur 1 (.pur 2 (.pur 3 (.pur 4 (.pur 5 (.pur 6 (.pur 8 (.pur 9 (.pur 10 (.hld 7 (.hld 11 (.pur 12 (.act 13 (.pur 14 (.act 15 .fin))))))))))))))))) (.q (.r [.plain 3]) (.r [.plain 3])))))))))
  (.q (.d [0, 0, 0, 0, 0, 0, 48, 112, 0, 0, 768, 1792, 4083, 8179, 16383, 32767] (.pur 0 (.pur 1 (.pur 2 (.pur 3 (.pur 4 (.pur 5 (.pur 6 (.pur 8 (.pur 9 (.pur 10 (.hld 7 (.hld 11 (.pur 12 (.act 13 (.pur 14 (.act 15 .fin))))))))))))))))) (.q (.r [.plain 3]) .s))))))))))))
def s82 (data0 a1 b2 pivot3 : Value) (K : Value → World → Prop) (w : World) : Prop :=
 DrawS fun S0 => S0 w.drew ∧ (
 PureS (indexAddrV 1 data0 pivot3) fun t18 =>
 PureS (indexAddrV 1 data0 a1) fun t22 =>
 HeldC S0 t18 (fun t19 =>
 HeldC S0 t22 (fun t23 =>
 PureS (indexAddrV 1 data0 a1) fun t24 =>
 StoreC t24 t19 (fun w =>
 PureS (indexAddrV 1 data0 pivot3) fun t25 =>
 StoreC t25 t23 (fun w =>
 PureS (binV .add a1 (Value.int .i64 1)) fun t27 =>
 PureS (binV .sub b2 (Value.int .i64 1)) fun t29 =>
 JoinS (fun (i10 : Value) (w : World) =>
 JoinS (fun (j11 : Value) (w : World) =>
 PureS (binV .gtr i10 j11) fun t65 =>
 CondS t65 (
 DrawS fun S3 => S3 w.drew ∧ (
 PureS (indexAddrV 1 data0 a1) fun t72 =>
 PureS (indexAddrV 1 data0 j11) fun t76 =>
 HeldC S3 t72 (fun t73 =>
 HeldC S3 t76 (fun t77 =>
 PureS (indexAddrV 1 data0 j11) fun t78 =>
 StoreC t78 t73 (fun w =>
 PureS (indexAddrV 1 data0 a1) fun t79 =>
 StoreC t79 t77 (fun w =>
 K (Value.tuple [j11, (Value.bool true)].toArray) w
 ) w
 ) w.drew
 )
 )
 )
 ) (
 DrawS fun S4 => S4 w.drew ∧ (
 PureS (indexAddrV 1 data0 j11) fun t87 =>
 PureS (indexAddrV 1 data0 i10) fun t91 =>
 HeldC S4 t87 (fun t88 =>
 HeldC S4 t91 (fun t92 =>
 PureS (indexAddrV 1 data0 i10) fun t93 =>
 StoreC t93 t88 (fun w =>
 PureS (indexAddrV 1 data0 j11) fun t94 =>
 StoreC t94 t92 (fun w =>
 PureS (binV .add i10 (Value.int .i64 1)) fun t96 =>
 PureS (binV .sub j11 (Value.int .i64 1)) fun t98 =>
 JoinS (fun (j11_1 : Value) (w : World) =>
 DrawS fun S6 => S6 w.drew ∧ (
 PureS (indexAddrV 1 data0 a1) fun t159 =>
 PureS (indexAddrV 1 data0 j11_1) fun t163 =>
 HeldC S6 t159 (fun t160 =>
 HeldC S6 t163 (fun t164 =>
 PureS (indexAddrV 1 data0 j11_1) fun t165 =>
 StoreC t165 t160 (fun w =>
 PureS (indexAddrV 1 data0 a1) fun t166 =>
 StoreC t166 t164 (fun w =>
 K (Value.tuple [j11_1, (Value.bool false)].toArray) w
 ) w
 ) w.drew
 )
 )
 )
 ) fun J5 =>
 LoopS 2 (fun L7 (i10_1 j11_2 : Value) (w : World) =>
 JoinS (fun (i10_2 : Value) (w : World) =>
 JoinS (fun (j11_3 : Value) (w : World) =>
 PureS (binV .gtr i10_2 j11_3) fun t134 =>
 CondS t134 (
 J5 j11_3 w
 ) (
 DrawS fun S10 => S10 w.drew ∧ (
 PureS (indexAddrV 1 data0 j11_3) fun t141 =>
 PureS (indexAddrV 1 data0 i10_2) fun t145 =>
 HeldC S10 t141 (fun t142 =>
 HeldC S10 t145 (fun t146 =>
 PureS (indexAddrV 1 data0 i10_2) fun t147 =>
 StoreC t147 t142 (fun w =>
 PureS (indexAddrV 1 data0 j11_3) fun t148 =>
 StoreC t148 t146 (fun w =>
 PureS (binV .add i10_2 (Value.int .i64 1)) fun t150 =>
 PureS (binV .sub j11_3 (Value.int .i64 1)) fun t152 =>
 L7 t150 t152 w
 ) w
 ) w.drew
 )
 )
 )
 )
 ) fun J9 =>
 LoopS 1 (fun L11 (j11_4 : Value) (w : World) =>
 JoinS (fun (t129 : Value) (w : World) =>
 CondS t129 (
 PureS (binV .sub j11_4 (Value.int .i64 1)) fun t131 =>
 L11 t131 w
 ) (
 J9 j11_4 w
 )
 ) fun J12 =>
 DrawS fun S13 => S13 w.drew ∧ (
 PureS (binV .leq i10_2 j11_4) fun t117 =>
 CondS t117 (
 PureS (indexAddrV 1 data0 j11_4) fun t121 =>
 PureS (indexAddrV 1 data0 a1) fun t125 =>
 HeldC S13 t121 (fun t122 =>
 HeldC S13 t125 (fun t126 =>
 CallS Try.prog 80 [t122, t126].toArray (fun t127 w =>
 PureS (notV t127) fun t128 =>
 PureS (pickV (Value.bool true) t128 (Value.bool false)) fun t129_1 =>
 J12 t129_1 w
 ) w.drew
 )
 )
 ) (
 PureS (pickV (Value.bool false) undef (Value.bool false)) fun t129_2 =>
 J12 t129_2 w.drew
 )
 )
 ) j11_2 w
 ) fun J8 =>
 LoopS 1 (fun L14 (i10_3 : Value) (w : World) =>
 JoinS (fun (t112 : Value) (w : World) =>
 CondS t112 (
 PureS (binV .add i10_3 (Value.int .i64 1)) fun t114 =>
 L14 t114 w
 ) (
 J8 i10_3 w
 )
 ) fun J15 =>
 DrawS fun S16 => S16 w.drew ∧ (
 PureS (binV .leq i10_3 j11_2) fun t101 =>
 CondS t101 (
 PureS (indexAddrV 1 data0 i10_3) fun t105 =>
 PureS (indexAddrV 1 data0 a1) fun t109 =>
 HeldC S16 t105 (fun t106 =>
 HeldC S16 t109 (fun t110 =>
 CallS Try.prog 80 [t106, t110].toArray (fun t111 w =>
 PureS (pickV (Value.bool true) t111 (Value.bool false)) fun t112_1 =>
 J15 t112_1 w
 ) w.drew
 )
 )
 ) (
 PureS (pickV (Value.bool false) undef (Value.bool false)) fun t112_2 =>
 J15 t112_2 w.drew
 )
 )
 ) i10_1 w
 ) t96 t98 w
 ) w
 ) w.drew
 )
 )
 )
 )
 ) fun J2 =>
 LoopS 1 (fun L17 (j11_5 : Value) (w : World) =>
 JoinS (fun (t60 : Value) (w : World) =>
 CondS t60 (
 PureS (binV .sub j11_5 (Value.int .i64 1)) fun t62 =>
 L17 t62 w
 ) (
 J2 j11_5 w
 )
 ) fun J18 =>
 DrawS fun S19 => S19 w.drew ∧ (
 PureS (binV .leq i10 j11_5) fun t48 =>
 CondS t48 (
 PureS (indexAddrV 1 data0 j11_5) fun t52 =>
 PureS (indexAddrV 1 data0 a1) fun t56 =>
 HeldC S19 t52 (fun t53 =>
 HeldC S19 t56 (fun t57 =>
 CallS Try.prog 80 [t53, t57].toArray (fun t58 w =>
 PureS (notV t58) fun t59 =>
 PureS (pickV (Value.bool true) t59 (Value.bool false)) fun t60_1 =>
 J18 t60_1 w
 ) w.drew
 )
 )
 ) (
 PureS (pickV (Value.bool false) undef (Value.bool false)) fun t60_2 =>
 J18 t60_2 w.drew
 )
 )
 ) t29 w
 ) fun J1 =>
 LoopS 1 (fun L20 (i10_4 : Value) (w : World) =>
 JoinS (fun (t43 : Value) (w : World) =>
 CondS t43 (
 PureS (binV .add i10_4 (Value.int .i64 1)) fun t45 =>
 L20 t45 w
 ) (
 J1 i10_4 w
 )
 ) fun J21 =>
 DrawS fun S22 => S22 w.drew ∧ (
 PureS (binV .leq i10_4 t29) fun t32 =>
 CondS t32 (
 PureS (indexAddrV 1 data0 i10_4) fun t36 =>
 PureS (indexAddrV 1 data0 a1) fun t40 =>
 HeldC S22 t36 (fun t37 =>
 HeldC S22 t40 (fun t41 =>
 CallS Try.prog 80 [t37, t41].toArray (fun t42 w =>
 PureS (pickV (Value.bool true) t42 (Value.bool false)) fun t43_1 =>
 J21 t43_1 w
 ) w.drew
 )
 )
 ) (
 PureS (pickV (Value.bool false) undef (Value.bool false)) fun t43_2 =>
 J21 t43_2 w.drew
 )
 )
 ) t27 w
 ) w
 ) w.drew
 )
 )
 )
theorem s82_den (data0 a1 b2 pivot3 : Value) (K : Value → World → Prop) (w : World) : denFn Try.prog false (bodyOf Try.f82) Try.f82.results a82 [data0, a1, b2, pivot3] K NoP w = s82 data0 a1 b2 pivot3 K w := by kernel_rfl
theorem s82_dst : dstsOk (4 + 164) (bodyOf Try.f82) = true := by kernel_rfl
theorem s82_ann : annOk (bodyOf Try.f82) a82 = true := by kernel_rfl
theorem s82_call {data0 a1 b2 pivot3 : Value} {K : Value → World → Prop} {w : World} (hm : Try.prog.follows .mixedOrders = true) (h : s82 data0 a1 b2 pivot3 K w) : CallS Try.prog 82 #[data0, a1, b2, pivot3] K w :=
  fn_call (args := [data0, a1, b2, pivot3]) (m := 164) hm Try.func82 (by kernel_rfl) (rs := Try.f82.results) rfl Try.ntmps82 s82_dst s82_ann (by rw [s82_den]; exact h)

/-! number 83 -/
def a83 : Ann :=
 (.q (.r [.plain 1]) (.j [0, 2] 125 (.q (.r [.plain 2]) (.c (.q (.r [.plain 3]) (.r [.plain 1])) .s))
  (.j [0, 2] 8069 (.q (.r [.plain 2]) (.c (.q (.r [.plain 3]) (.r [.plain 3])) .s))
  (.q (.r [.plain 7]) .s))))
def s83 (x0 : Value) (K : Value → World → Prop) (w : World) : Prop :=
 JoinS (fun (x0_1 n2 : Value) (w : World) =>
 JoinS (fun (x0_2 n2_1 : Value) (w : World) =>
 PureS (convIntV .u8 x0_2) fun t15 =>
 PureS (indexStrV (Value.string ⟨#[0, 1, 2, 2, 3, 3, 3, 3, 4, 4, 4, 4, 4, 4, 4, 4, 5, 5, 5, 5, 5, 5, 5, 5, 5, 5, 5, 5, 5, 5, 5, 5, 6, 6, 6, 6, 6, 6, 6, 6, 6, 6, 6, 6, 6, 6, 6, 6, 6, 6, 6, 6, 6, 6, 6, 6, 6, 6, 6, 6, 6, 6, 6, 6, 7, 7, 7, 7, 7, 7, 7, 7, 7, 7, 7, 7, 7, 7, 7, 7, 7, 7, 7, 7, 7, 7, 7, 7, 7, 7, 7, 7, 7, 7, 7, 7, 7, 7, 7, 7, 7, 7, 7, 7, 7, 7, 7, 7, 7, 7, 7, 7, 7, 7, 7, 7, 7, 7, 7, 7, 7, 7, 7, 7, 7, 7, 7, 7, 8, 8, 8, 8, 8, 8, 8, 8, 8, 8, 8, 8, 8, 8, 8, 8, 8, 8, 8, 8, 8, 8, 8, 8, 8, 8, 8, 8, 8, 8, 8, 8, 8, 8, 8, 8, 8, 8, 8, 8, 8, 8, 8, 8, 8, 8, 8, 8, 8, 8, 8, 8, 8, 8, 8, 8, 8, 8, 8, 8, 8, 8, 8, 8, 8, 8, 8, 8, 8, 8, 8, 8, 8, 8, 8, 8, 8, 8, 8, 8, 8, 8, 8, 8, 8, 8, 8, 8, 8, 8, 8, 8, 8, 8, 8, 8, 8, 8, 8, 8, 8, 8, 8, 8, 8, 8, 8, 8, 8, 8, 8, 8, 8, 8, 8, 8, 8, 8, 8, 8, 8, 8, 8, 8, 8, 8, 8, 8]⟩) t15) fun t16 =>
 PureS (convIntV .i64 t16) fun t17 =>
 PureS (binV .add n2_1 t17) fun t18 =>
 K t18 w
 ) fun J1 =>
 PureS (binV .geq x0_1 (Value.int .u32 256)) fun t8 =>
 CondS t8 (
 PureS (binV .shr x0_1 (Value.int .u64 8)) fun t10 =>
 PureS (binV .add n2 (Value.int .i64 8)) fun t12 =>
 J1 t10 t12 w
 ) (
 J1 x0_1 n2 w
 )
 ) fun J0 =>
 PureS (binV .geq x0 (Value.int .u32 65536)) fun t4 =>
 CondS t4 (
 PureS (binV .shr x0 (Value.int .u64 16)) fun t6 =>
 J0 t6 (Value.int .i64 16) w
 ) (
 J0 x0 (Value.int .i64 0) w
 )
theorem s83_den (x0 : Value) (K : Value → World → Prop) (w : World) : denFn Try.prog false (bodyOf Try.f83) Try.f83.results a83 [x0] K NoP w = s83 x0 K w := by kernel_rfl
theorem s83_dst : dstsOk (1 + 18) (bodyOf Try.f83) = true := by kernel_rfl
theorem s83_ann : annOk (bodyOf Try.f83) a83 = true := by kernel_rfl
theorem s83_call {x0 : Value} {K : Value → World → Prop} {w : World} (hm : Try.prog.follows .mixedOrders = true) (h : s83 x0 K w) : CallS Try.prog 83 #[x0] K w :=
  fn_call (args := [x0]) (m := 18) hm Try.func83 (by kernel_rfl) (rs := Try.f83.results) rfl Try.ntmps83 s83_dst s83_ann (by rw [s83_den]; exact h)

/-! number 84 -/
def a84 : Ann :=
 (.q (.r [.plain 1]) (.j [0, 2] 125 (.q (.r [.plain 2]) (.c (.q (.r [.plain 3]) (.r [.plain 1])) .s))
  (.j [0, 2] 8069 (.q (.r [.plain 2]) (.c (.q (.r [.plain 3]) (.r [.plain 3])) .s))
  (.j [0, 2] 516101 (.q (.r [.plain 2]) (.c (.q (.r [.plain 3]) (.r [.plain 3])) .s))
  (.q (.r [.plain 7]) .s)))))
def s84 (x0 : Value) (K : Value → World → Prop) (w : World) : Prop :=
 JoinS (fun (x0_1 n2 : Value) (w : World) =>
 JoinS (fun (x0_2 n2_1 : Value) (w : World) =>
 JoinS (fun (x0_3 n2_2 : Value) (w : World) =>
 PureS (convIntV .u8 x0_3) fun t21 =>
 PureS (indexStrV (Value.string ⟨#[0, 1, 2, 2, 3, 3, 3, 3, 4, 4, 4, 4, 4, 4, 4, 4, 5, 5, 5, 5, 5, 5, 5, 5, 5, 5, 5, 5, 5, 5, 5, 5, 6, 6, 6, 6, 6, 6, 6, 6, 6, 6, 6, 6, 6, 6, 6, 6, 6, 6, 6, 6, 6, 6, 6, 6, 6, 6, 6, 6, 6, 6, 6, 6, 7, 7, 7, 7, 7, 7, 7, 7, 7, 7, 7, 7, 7, 7, 7, 7, 7, 7, 7, 7, 7, 7, 7, 7, 7, 7, 7, 7, 7, 7, 7, 7, 7, 7, 7, 7, 7, 7, 7, 7, 7, 7, 7, 7, 7, 7, 7, 7, 7, 7, 7, 7, 7, 7, 7, 7, 7, 7, 7, 7, 7, 7, 7, 7, 8, 8, 8, 8, 8, 8, 8, 8, 8, 8, 8, 8, 8, 8, 8, 8, 8, 8, 8, 8, 8, 8, 8, 8, 8, 8, 8, 8, 8, 8, 8, 8, 8, 8, 8, 8, 8, 8, 8, 8, 8, 8, 8, 8, 8, 8, 8, 8, 8, 8, 8, 8, 8, 8, 8, 8, 8, 8, 8, 8, 8, 8, 8, 8, 8, 8, 8, 8, 8, 8, 8, 8, 8, 8, 8, 8, 8, 8, 8, 8, 8, 8, 8, 8, 8, 8, 8, 8, 8, 8, 8, 8, 8, 8, 8, 8, 8, 8, 8, 8, 8, 8, 8, 8, 8, 8, 8, 8, 8, 8, 8, 8, 8, 8, 8, 8, 8, 8, 8, 8, 8, 8, 8, 8, 8, 8, 8, 8]⟩) t21) fun t22 =>
 PureS (convIntV .i64 t22) fun t23 =>
 PureS (binV .add n2_2 t23) fun t24 =>
 K t24 w
 ) fun J2 =>
 PureS (binV .geq x0_2 (Value.int .u64 256)) fun t14 =>
 CondS t14 (
 PureS (binV .shr x0_2 (Value.int .u64 8)) fun t16 =>
 PureS (binV .add n2_1 (Value.int .i64 8)) fun t18 =>
 J2 t16 t18 w
 ) (
 J2 x0_2 n2_1 w
 )
 ) fun J1 =>
 PureS (binV .geq x0_1 (Value.int .u64 65536)) fun t8 =>
 CondS t8 (
 PureS (binV .shr x0_1 (Value.int .u64 16)) fun t10 =>
 PureS (binV .add n2 (Value.int .i64 16)) fun t12 =>
 J1 t10 t12 w
 ) (
 J1 x0_1 n2 w
 )
 ) fun J0 =>
 PureS (binV .geq x0 (Value.int .u64 4294967296)) fun t4 =>
 CondS t4 (
 PureS (binV .shr x0 (Value.int .u64 32)) fun t6 =>
 J0 t6 (Value.int .i64 32) w
 ) (
 J0 x0 (Value.int .i64 0) w
 )
theorem s84_den (x0 : Value) (K : Value → World → Prop) (w : World) : denFn Try.prog false (bodyOf Try.f84) Try.f84.results a84 [x0] K NoP w = s84 x0 K w := by kernel_rfl
theorem s84_dst : dstsOk (1 + 24) (bodyOf Try.f84) = true := by kernel_rfl
theorem s84_ann : annOk (bodyOf Try.f84) a84 = true := by kernel_rfl
theorem s84_call {x0 : Value} {K : Value → World → Prop} {w : World} (hm : Try.prog.follows .mixedOrders = true) (h : s84 x0 K w) : CallS Try.prog 84 #[x0] K w :=
  fn_call (args := [x0]) (m := 24) hm Try.func84 (by kernel_rfl) (rs := Try.f84.results) rfl Try.ntmps84 s84_dst s84_ann (by rw [s84_den]; exact h)

/-! number 85 -/
def a85 : Ann :=
 (.q (.r [.plain 2]) (.b (.l [8] 75557863725914323417856 (.b (.q (.r [.plain 4]) (.q (.q (.r [.plain 3]) (.c .s .s)) (.j [9] 549755683328 (.j [36] 137438822400 (.d [0, 1, 0, 7, 15, 31, 31, 31, 223, 511, 1023, 31, 31, 31, 12319, 28703, 63519, 129055, 262143, 524287] (.pur 0 (.pur 1 (.pur 2 (.pur 3 (.pur 4 (.ite 4 (.pur 5 (.pur 6 (.pur 7 (.pur 8 (.pur 9 (.pur 11 (.pur 12 (.pur 13 (.pur 14 (.pur 15 (.pur 16 (.hld 10 (.hld 17 (.act 18 (.pur 19 .fin))))))))))))))) (.skp 5 (.skp 6 (.skp 7 (.skp 8 (.skp 9 (.skp 10 (.skp 11 (.skp 12 (.skp 13 (.skp 14 (.skp 15 (.skp 16 (.skp 17 (.skp 18 (.pur 19 .fin))))))))))))))))))))))
  (.c (.r [.plain 3]) .s))
  (.q (.q (.d [0, 0, 0, 6, 15, 31, 0, 0, 0, 384, 960, 1984, 4095, 8191] (.pur 0 (.pur 1 (.pur 2 (.pur 3 (.pur 4 (.pur 6 (.pur 7 (.pur 8 (.pur 9 (.pur 10 (.hld 5 (.hld 11 (.act 12 (.pur 13 .fin))))))))))))))) (.c .s .s)) (.q (.d [0, 0, 0, 6, 0, 0, 0, 96, 0, 0, 0, 1536, 3840, 7936, 0, 0, 0, 98304, 245760, 507904, 1048335, 2096911, 4194303, 8388607] (.pur 0 (.pur 1 (.pur 2 (.pur 3 (.pur 4 (.pur 5 (.pur 6 (.pur 7 (.pur 8 (.pur 9 (.pur 10 (.pur 11 (.pur 12 (.pur 14 (.pur 15 (.pur 16 (.pur 17 (.pur 18 (.hld 13 (.hld 19 (.pur 20 (.act 21 (.pur 22 (.act 23 .fin))))))))))))))))))))))))) (.r [.plain 2]))))))))))
def s85 (data0 lo1 hi2 first3 : Value) (K : Value → World → Prop) (w : World) : Prop :=
 LoopS 1 (fun L0 (root8 : Value) (w : World) =>
 PureS (binV .mul (Value.int .i64 2) root8) fun t12 =>
 PureS (binV .add t12 (Value.int .i64 1)) fun t13 =>
 PureS (binV .geq t13 hi2) fun t16 =>
 CondS t16 (
 K (Value.tuple [].toArray) w
 ) (
 JoinS (fun (child9 : Value) (w : World) =>
 DrawS fun S2 => S2 w.drew ∧ (
 PureS (binV .add first3 root8) fun t42 =>
 PureS (indexAddrV 1 data0 t42) fun t43 =>
 PureS (binV .add first3 child9) fun t48 =>
 PureS (indexAddrV 1 data0 t48) fun t49 =>
 HeldC S2 t43 (fun t44 =>
 HeldC S2 t49 (fun t50 =>
 CallS Try.prog 80 [t44, t50].toArray (fun t51 w =>
 PureS (notV t51) fun t52 =>
 CondS t52 (
 K (Value.tuple [].toArray) w
 ) (
 DrawS fun S3 => S3 w.drew ∧ (
 PureS (binV .add first3 root8) fun t56 =>
 PureS (binV .add first3 child9) fun t60 =>
 PureS (binV .add first3 child9) fun t64 =>
 PureS (indexAddrV 1 data0 t64) fun t65 =>
 PureS (binV .add first3 root8) fun t70 =>
 PureS (indexAddrV 1 data0 t70) fun t71 =>
 HeldC S3 t65 (fun t66 =>
 HeldC S3 t71 (fun t72 =>
 PureS (indexAddrV 1 data0 t56) fun t73 =>
 StoreC t73 t66 (fun w =>
 PureS (indexAddrV 1 data0 t60) fun t74 =>
 StoreC t74 t72 (fun w =>
 L0 child9 w
 ) w
 ) w.drew
 )
 )
 )
 )
 ) w.drew
 )
 )
 )
 ) fun J1 =>
 JoinS (fun (t36 : Value) (w : World) =>
 CondS t36 (
 PureS (binV .add t13 (Value.int .i64 1)) fun t38 =>
 J1 t38 w
 ) (
 J1 t13 w
 )
 ) fun J4 =>
 DrawS fun S5 => S5 w.drew ∧ (
 PureS (binV .add t13 (Value.int .i64 1)) fun t18 =>
 PureS (binV .lss t18 hi2) fun t20 =>
 CondS t20 (
 PureS (binV .add first3 t13) fun t25 =>
 PureS (indexAddrV 1 data0 t25) fun t26 =>
 PureS (binV .add first3 t13) fun t31 =>
 PureS (binV .add t31 (Value.int .i64 1)) fun t32 =>
 PureS (indexAddrV 1 data0 t32) fun t33 =>
 HeldC S5 t26 (fun t27 =>
 HeldC S5 t33 (fun t34 =>
 CallS Try.prog 80 [t27, t34].toArray (fun t35 w =>
 PureS (pickV (Value.bool true) t35 (Value.bool false)) fun t36_1 =>
 J4 t36_1 w
 ) w.drew
 )
 )
 ) (
 PureS (pickV (Value.bool false) undef (Value.bool false)) fun t36_2 =>
 J4 t36_2 w.drew
 )
 )
 )
 ) lo1 w
theorem s85_den (data0 lo1 hi2 first3 : Value) (K : Value → World → Prop) (w : World) : denFn Try.prog false (bodyOf Try.f85) Try.f85.results a85 [data0, lo1, hi2, first3] K NoP w = s85 data0 lo1 hi2 first3 K w := by kernel_rfl
theorem s85_dst : dstsOk (4 + 72) (bodyOf Try.f85) = true := by kernel_rfl
theorem s85_ann : annOk (bodyOf Try.f85) a85 = true := by kernel_rfl
theorem s85_call {data0 lo1 hi2 first3 : Value} {K : Value → World → Prop} {w : World} (hm : Try.prog.follows .mixedOrders = true) (h : s85 data0 lo1 hi2 first3 K w) : CallS Try.prog 85 #[data0, lo1, hi2, first3] K w :=
  fn_call (args := [data0, lo1, hi2, first3]) (m := 72) hm Try.func85 (by kernel_rfl) (rs := Try.f85.results) rfl Try.ntmps85 s85_dst s85_ann (by rw [s85_den]; exact h)

/-! number 86 -/
def a86 : Ann :=
 (.q (.r [.plain 1]) (.q (.r [.plain 5]) .s))
def s86 (length0 : Value) (K : Value → World → Prop) (w : World) : Prop :=
 PureS (convIntV .u64 length0) fun t4 =>
 CallS Try.prog 72 [t4].toArray (fun t5 w =>
 PureS (binV .shl (Value.int .u64 1) t5) fun t6 =>
 K t6 w
 ) w
theorem s86_den (length0 : Value) (K : Value → World → Prop) (w : World) : denFn Try.prog false (bodyOf Try.f86) Try.f86.results a86 [length0] K NoP w = s86 length0 K w := by kernel_rfl
theorem s86_dst : dstsOk (1 + 6) (bodyOf Try.f86) = true := by kernel_rfl
theorem s86_ann : annOk (bodyOf Try.f86) a86 = true := by kernel_rfl
theorem s86_call {length0 : Value} {K : Value → World → Prop} {w : World} (hm : Try.prog.follows .mixedOrders = true) (h : s86 length0 K w) : CallS Try.prog 86 #[length0] K w :=
  fn_call (args := [length0]) (m := 6) hm Try.func86 (by kernel_rfl) (rs := Try.f86.results) rfl Try.ntmps86 s86_dst s86_ann (by rw [s86_den]; exact h)

/-! number 87 -/
def a87 : Ann :=
 (.q (.r [.plain 1]) (.q (.d [0, 1, 3, 0, 8, 24, 56, 127, 255, 511] (.pur 0 (.pur 1 (.pur 3 (.pur 4 (.hld 2 (.hld 5 (.pur 6 (.pur 7 (.pur 8 (.act 9 .fin))))))))))) (.q (.d [0, 1, 3, 0, 8, 24, 56, 127, 255, 511] (.pur 0 (.pur 1 (.pur 3 (.pur 4 (.hld 2 (.hld 5 (.pur 6 (.pur 7 (.pur 8 (.act 9 .fin))))))))))) (.q (.d [0, 1, 3, 0, 8, 24, 56, 127, 255, 511] (.pur 0 (.pur 1 (.pur 3 (.pur 4 (.hld 2 (.hld 5 (.pur 6 (.pur 7 (.pur 8 (.act 9 .fin))))))))))) (.q (.r [.plain 4]) .s)))))
def s87 (r0 : Value) (K : Value → World → Prop) (w : World) : Prop :=
 DrawS fun S0 => S0 w.drew ∧ (
 PureS (nilV r0) fun t4 =>
 PureS (nilV r0) fun t7 =>
 HeldC S0 t4 (fun t5 =>
 HeldC S0 t7 (fun t8 =>
 PureS (binV .shl t8 (Value.int .u64 13)) fun t9 =>
 PureS (binV .xor t5 t9) fun t10 =>
 PureS (nilV r0) fun t11 =>
 StoreC t11 t10 (fun w =>
 DrawS fun S1 => S1 w.drew ∧ (
 PureS (nilV r0) fun t13 =>
 PureS (nilV r0) fun t16 =>
 HeldC S1 t13 (fun t14 =>
 HeldC S1 t16 (fun t17 =>
 PureS (binV .shr t17 (Value.int .u64 7)) fun t18 =>
 PureS (binV .xor t14 t18) fun t19 =>
 PureS (nilV r0) fun t20 =>
 StoreC t20 t19 (fun w =>
 DrawS fun S2 => S2 w.drew ∧ (
 PureS (nilV r0) fun t22 =>
 PureS (nilV r0) fun t25 =>
 HeldC S2 t22 (fun t23 =>
 HeldC S2 t25 (fun t26 =>
 PureS (binV .shl t26 (Value.int .u64 17)) fun t27 =>
 PureS (binV .xor t23 t27) fun t28 =>
 PureS (nilV r0) fun t29 =>
 StoreC t29 t28 (fun w =>
 PureS (nilV r0) fun t31 =>
 LoadC t31 (fun t32 w =>
 K t32 w
 ) w
 ) w.drew
 )
 )
 )
 ) w.drew
 )
 )
 )
 ) w.drew
 )
 )
 )
theorem s87_den (r0 : Value) (K : Value → World → Prop) (w : World) : denFn Try.prog false (bodyOf Try.f87) Try.f87.results a87 [r0] K NoP w = s87 r0 K w := by kernel_rfl
theorem s87_dst : dstsOk (1 + 32) (bodyOf Try.f87) = true := by kernel_rfl
theorem s87_ann : annOk (bodyOf Try.f87) a87 = true := by kernel_rfl
theorem s87_call {r0 : Value} {K : Value → World → Prop} {w : World} (hm : Try.prog.follows .mixedOrders = true) (h : s87 r0 K w) : CallS Try.prog 87 #[r0] K w :=
  fn_call (args := [r0]) (m := 32) hm Try.func87 (by kernel_rfl) (rs := Try.f87.results) rfl Try.ntmps87 s87_dst s87_ann (by rw [s87_den]; exact h)

/-! number 88 -/
def a88 : Ann :=
 (.q (.r [.plain 1]) (.q (.r [.plain 9]) .s))
def s88 (data0 a1 swaps2 : Value) (K : Value → World → Prop) (w : World) : Prop :=
 PureS (binV .sub a1 (Value.int .i64 1)) fun t9 =>
 PureS (binV .add a1 (Value.int .i64 1)) fun t12 =>
 CallS Try.prog 89 [data0, t9, a1, t12, swaps2].toArray (fun t14 w =>
 K t14 w
 ) w
theorem s88_den (data0 a1 swaps2 : Value) (K : Value → World → Prop) (w : World) : denFn Try.prog false (bodyOf Try.f88) Try.f88.results a88 [data0, a1, swaps2] K NoP w = s88 data0 a1 swaps2 K w := by kernel_rfl
theorem s88_dst : dstsOk (3 + 12) (bodyOf Try.f88) = true := by kernel_rfl
theorem s88_ann : annOk (bodyOf Try.f88) a88 = true := by kernel_rfl
theorem s88_call {data0 a1 swaps2 : Value} {K : Value → World → Prop} {w : World} (hm : Try.prog.follows .mixedOrders = true) (h : s88 data0 a1 swaps2 K w) : CallS Try.prog 88 #[data0, a1, swaps2] K w :=
  fn_call (args := [data0, a1, swaps2]) (m := 12) hm Try.func88 (by kernel_rfl) (rs := Try.f88.results) rfl Try.ntmps88 s88_dst s88_ann (by rw [s88_den]; exact h)

/-! number 89 -/
def a89 : Ann :=
 (.q (.r [.plain 1]) (.q (.r [.plain 10]) (.q (.r [.plain 10]) (.q (.r [.plain 10]) (.q (.r [.plain 2]) .s)))))
def s89 (data0 a1 b2 c3 swaps4 : Value) (K : Value → World → Prop) (w : World) : Prop :=
 CallS Try.prog 91 [data0, a1, b2, swaps4].toArray (fun t16 w =>
 PureS (extractV 0 t16) fun t17 =>
 PureS (extractV 1 t16) fun t18 =>
 CallS Try.prog 91 [data0, t18, c3, swaps4].toArray (fun t24 w =>
 PureS (extractV 0 t24) fun t25 =>
 PureS (extractV 1 t24) fun t26 =>
 CallS Try.prog 91 [data0, t17, t25, swaps4].toArray (fun t32 w =>
 PureS (extractV 0 t32) fun t33 =>
 PureS (extractV 1 t32) fun t34 =>
 K t34 w
 ) w
 ) w
 ) w
theorem s89_den (data0 a1 b2 c3 swaps4 : Value) (K : Value → World → Prop) (w : World) : denFn Try.prog false (bodyOf Try.f89) Try.f89.results a89 [data0, a1, b2, c3, swaps4] K NoP w = s89 data0 a1 b2 c3 swaps4 K w := by kernel_rfl
theorem s89_dst : dstsOk (5 + 31) (bodyOf Try.f89) = true := by kernel_rfl
theorem s89_ann : annOk (bodyOf Try.f89) a89 = true := by kernel_rfl
theorem s89_call {data0 a1 b2 c3 swaps4 : Value} {K : Value → World → Prop} {w : World} (hm : Try.prog.follows .mixedOrders = true) (h : s89 data0 a1 b2 c3 swaps4 K w) : CallS Try.prog 89 #[data0, a1, b2, c3, swaps4] K w :=
  fn_call (args := [data0, a1, b2, c3, swaps4]) (m := 31) hm Try.func89 (by kernel_rfl) (rs := Try.f89.results) rfl Try.ntmps89 s89_dst s89_ann (by rw [s89_den]; exact h)

/-! number 90 -/
def a90 : Ann :=
 (.q (.r [.plain 1]) (.q (.r [.plain 4]) .s))
def s90 (x0 : Value) (K : Value → World → Prop) (w : World) : Prop :=
 PureS (binV .neq x0 x0) fun t5 =>
 K t5 w
theorem s90_den (x0 : Value) (K : Value → World → Prop) (w : World) : denFn Try.prog false (bodyOf Try.f90) Try.f90.results a90 [x0] K NoP w = s90 x0 K w := by kernel_rfl
theorem s90_dst : dstsOk (1 + 5) (bodyOf Try.f90) = true := by kernel_rfl
theorem s90_ann : annOk (bodyOf Try.f90) a90 = true := by kernel_rfl
theorem s90_call {x0 : Value} {K : Value → World → Prop} {w : World} (hm : Try.prog.follows .mixedOrders = true) (h : s90 x0 K w) : CallS Try.prog 90 #[x0] K w :=
  fn_call (args := [x0]) (m := 5) hm Try.func90 (by kernel_rfl) (rs := Try.f90.results) rfl Try.ntmps90 s90_dst s90_ann (by rw [s90_den]; exact h)

/-! number 91 -/
def a91 : Ann :=
 (.q (.r [.plain 2]) (.q (.q (.d [0, 0, 3, 7, 0, 0, 48, 112, 255] (.pur 0 (.pur 1 (.pur 2 (.pur 4 (.pur 5 (.pur 6 (.hld 3 (.hld 7 (.act 8 .fin)))))))))) (.c (.q (.r [.plain 6]) (.q (.r [.plain 4]) .s)) .s)) (.q (.r [.plain 4]) .s)))
def s91 (data0 a1 b2 swaps3 : Value) (K : Value → World → Prop) (w : World) : Prop :=
 DrawS fun S0 => S0 w.drew ∧ (
 PureS (indexAddrV 1 data0 b2) fun t12 =>
 PureS (indexAddrV 1 data0 a1) fun t16 =>
 HeldC S0 t12 (fun t13 =>
 HeldC S0 t16 (fun t17 =>
 CallS Try.prog 80 [t13, t17].toArray (fun t18 w =>
 CondS t18 (
 PureS (nilV swaps3) fun t20 =>
 LoadC t20 (fun t21 w =>
 PureS (binV .add t21 (Value.int .i64 1)) fun t22 =>
 PureS (nilV swaps3) fun t23 =>
 StoreC t23 t22 (fun w =>
 K (Value.tuple [b2, a1].toArray) w
 ) w
 ) w
 ) (
 K (Value.tuple [a1, b2].toArray) w
 )
 ) w.drew
 )
 )
 )
theorem s91_den (data0 a1 b2 swaps3 : Value) (K : Value → World → Prop) (w : World) : denFn Try.prog false (bodyOf Try.f91) Try.f91.results a91 [data0, a1, b2, swaps3] K NoP w = s91 data0 a1 b2 swaps3 K w := by kernel_rfl
theorem s91_dst : dstsOk (4 + 24) (bodyOf Try.f91) = true := by kernel_rfl
theorem s91_ann : annOk (bodyOf Try.f91) a91 = true := by kernel_rfl
theorem s91_call {data0 a1 b2 swaps3 : Value} {K : Value → World → Prop} {w : World} (hm : Try.prog.follows .mixedOrders = true) (h : s91 data0 a1 b2 swaps3 K w) : CallS Try.prog 91 #[data0, a1, b2, swaps3] K w :=
  fn_call (args := [data0, a1, b2, swaps3]) (m := 24) hm Try.func91 (by kernel_rfl) (rs := Try.f91.results) rfl Try.ntmps91 s91_dst s91_ann (by rw [s91_den]; exact h)
end Go.Proofs.Ytambcnlkdnmekaa
/-! Batches: numbers as bytes. -/
namespace Go.Proofs.Ytambcnlkdnmekaa
open Go SG Go.RowKit Go.Lib
set_option linter.unusedVariables false
set_option maxRecDepth 4000

theorem hm : Try.prog.follows .mixedOrders = true := Checked.mixed Try.checked
theorem T40 : ElemT Try.prog 40 5 1 1 (.int .u8 0) := ⟨Try.underlying40, by kernel_rfl, rfl, by decide, by decide⟩
theorem T24 : ElemT Try.prog 24 3 1 8 (.int .i64 0) := ⟨Try.underlying24, by kernel_rfl, rfl, by decide, by decide⟩

/-! ### numbers as bytes -/
def varint (n : Nat) : List UInt8 := if n < 128 then [UInt8.ofNat n] else UInt8.ofNat (n % 128 + 128) :: varint (n / 128)
  termination_by n
  decreasing_by omega
theorem varint_small {n : Nat} (h : n < 128) : varint n = [UInt8.ofNat n] := by rw [varint, if_pos h]
theorem varint_big {n : Nat} (h : 128 ≤ n) : varint n = UInt8.ofNat (n % 128 + 128) :: varint (n / 128) := by rw [varint, if_neg (by omega)]
theorem varint_length (k : Nat) : ∀ n, n < 128 ^ (k + 1) → 1 ≤ (varint n).length ∧ (varint n).length ≤ k + 1 := by
  induction k with
  | zero => intro n h; rw [varint_small (by simpa using h)]; simp
  | succ k ih =>
    intro n h
    by_cases hn : n < 128
    · rw [varint_small hn]; simp
    · rw [varint_big (by omega)]
      have := ih (n / 128) (by rw [Nat.div_lt_iff_lt_mul (by omega)]; rw [Nat.pow_succ] at h; exact h)
      simp; omega
theorem varint_len {n : Nat} (h : n < 18446744073709551616) : 1 ≤ (varint n).length ∧ (varint n).length ≤ 10 := varint_length 9 n (by omega)

theorem or128 : ∀ a : Fin 256, bits .or .u8 (a.val : Int) 128 = ((a.val % 128 + 128 : Nat) : Int) := by decide +kernel
theorem or128' (n : Nat) : bits .or .u8 ((n : Int) % 256) 128 = ((n % 128 + 128 : Nat) : Int) := by
  have h := or128 ⟨n % 256, Nat.mod_lt _ (by omega)⟩
  simp only [Nat.mod_mod_of_dvd n (show 128 ∣ 256 by decide)] at h
  rw [← h]
  simp
theorem toNat_ofNat8 {n : Nat} (h : n < 256) : ((UInt8.ofNat n).toNat : Int) = (n : Int) := by simp [Nat.mod_eq_of_lt h]
theorem byteCells_one' {n : Nat} (h : n < 256) : byteCells [UInt8.ofNat n] = [Value.int .u8 (n : Int)] := by simp [byteCells, Nat.mod_eq_of_lt h]
theorem shr7 (n : Nat) : (n : Int).fdiv (2 ^ (7 : Int).toNat) = ((n / 128 : Nat) : Int) := by
  rw [Int.fdiv_eq_ediv_of_nonneg _ (by decide)]
  simp
theorem and127 (n : Nat) (h : n < 18446744073709551616) : bits .and .u64 (n : Int) 127 = ((n % 128 : Nat) : Int) := by
  have e : n &&& 127 = n % 128 := Nat.and_two_pow_sub_one_eq_mod n 7
  have h1 : (BitVec.ofInt 64 (n : Int)).toNat = n := by rw [BitVec.ofInt_natCast, BitVec.toNat_ofNat]; exact Nat.mod_eq_of_lt (by omega)
  have h2 : (BitVec.ofInt 64 127).toNat = 127 := by decide
  show IntKind.u64.wrap ((BitVec.ofInt 64 (n : Int) &&& BitVec.ofInt 64 127).toNat : Int) = _
  rw [BitVec.toNat_and, h1, h2, e, wu64 (by omega) (by omega)]

/-- a byte is appended to a row of the call's own -/
theorem append_byte {w : World} {base n : Nat} {v : Value} {l : List UInt8} {b : UInt8} {K : Value → World → Prop} (ho : w.ownsRow base 5 1 v n (byteCells l)) (hn : n = l.length) (hb : base ≤ w.heap.size) (hl : l.length ≤ 1000000000)
    {x : Value} (hx : x = .int .u8 (b.toNat : Int))
    (hK : ∀ v' w', w'.ownsRow base 5 1 v' (n + 1) (byteCells (l ++ [b])) → Ext (fun g => some g = v.ownBlock) w w' → K v' w') :
    RunS Try.prog (Instr.buildSlice 40 1 [(0, x)].toArray) (fun t w => RunS Try.prog (Builtin.append_ #[40, 40] 40 [v, t].toArray) K w) w := by
  subst hx
  refine build1 T40 rfl fun w1 b1 e1 s1 => ?_
  have ho1 := owns_ext ho e1 fun _ _ hh => hh
  refine append_sl T40 40 ho1 (b1.sl (n := 1) (c := 1) (size := 1) rfl (by omega)) (by simp [Value.cells, Value.oneCell']) (by omega) (by omega) (by omega) fun v' w2 ho2 hg _ => ?_
  refine hK v' w2 (by rw [byteCells_append]; exact ho2) ?_
  exact e1.no.trans (Ext.grown hg fun b hb => hb.symm)

set_option maxHeartbeats 400000 in
theorem c55 (n : Nat) (hn : n < 18446744073709551616) {K : Value → World → Prop} {w : World}
    (hK : ∀ v w', w'.ownsRow w.heap.size 5 1 v (varint n).length (byteCells (varint n)) → Ext No w w' → K v w') : CallS Try.prog 55 #[.int .u64 (n : Int)] K w := by
  refine s55_call hm ?_
  unfold s55
  have hfresh : ∀ {v : Value} {w1 w2 : World} {k : Nat} {xs : List Value}, w1.ownsRow w.heap.size 5 1 v k xs → Ext No w w1 → Ext (fun g => some g = v.ownBlock) w1 w2 → Ext No w w2 := fun ho e1 e2 =>
    e1.fresh e2 fun b hb => .inr ((ho.lt b hb.symm).1)
  refine join2 (fun a b w' => ∃ (m : Nat) (l : List UInt8), a = .int .u64 (m : Int) ∧ m < 128 ∧ w'.ownsRow w.heap.size 5 1 b l.length (byteCells l) ∧ Ext No w w' ∧ l ++ [UInt8.ofNat m] = varint n) ?_ ?_
  · rintro a b w' ⟨m, l, rfl, hm, ho, he, hl⟩
    refine pur conv8u ?_
    have hlen : l.length ≤ 10 := by have := (varint_len hn).2; rw [← hl] at this; simp at this; omega
    refine append_byte (b := UInt8.ofNat m) ho rfl he.size (by omega) (by rw [toNat_ofNat8 (by omega)]; congr 1; omega) fun v' w2 ho2 e2 => ?_
    rw [hl] at ho2
    refine hK v' w2 (by rw [← hl]; simpa using (by rw [← hl] at ho2; exact ho2)) (hfresh ho he e2)
  · intro J hJ
    refine loop2 (σ := Nat × List UInt8) (fun s a b w' => a = .int .u64 (s.1 : Int) ∧ s.1 < 18446744073709551616 ∧ w'.ownsRow w.heap.size 5 1 b s.2.length (byteCells s.2) ∧ Ext No w w' ∧ s.2 ++ varint s.1 = varint n) (fun s => s.1)
      (n, []) ⟨rfl, hn, World.ownsRow_nil w _ _ _, Ext.refl _ w, rfl⟩ ?_
    rintro ⟨m, l⟩ a b w' ⟨rfl, hm, ho, he, hl⟩ L hL
    simp only at hm ho hl hL
    have hlen : l.length ≤ 10 := by have := (varint_len hn).2; rw [← hl] at this; simp at this; omega
    refine pur (bin_geq _ _ _) (condD (fun hge => ?_) (fun hlt => ?_))
    · have hge' : 128 ≤ m := by omega
      refine pur conv8u (pur (bin_or _ _ _) ?_)
      refine append_byte (b := UInt8.ofNat (m % 128 + 128)) ho rfl he.size (by omega) (by rw [or128', toNat_ofNat8 (by omega)]) fun v' w2 ho2 e2 => ?_
      refine pur ((bin_shr (by decide) (by decide)).trans (by rw [shr7])) ?_
      refine hL (m / 128, l ++ [UInt8.ofNat (m % 128 + 128)]) _ _ _ ⟨rfl, by simp only; omega, by simpa using ho2, hfresh ho he e2, ?_⟩ (by simp only; omega)
      rw [← hl, varint_big hge']; simp
    · refine hJ _ _ _ ⟨m, l, rfl, by omega, ho, he, ?_⟩
      rw [← hl, varint_small (by omega)]
end Go.Proofs.Ytambcnlkdnmekaa
/-! Rules: made rows, comparisons with nil, bytes as a string. No program stands here. -/
namespace SG
open Go Go.RowKit Go.Lib
set_option linter.unusedSimpArgs false
set_option linter.unusedVariables false

section
variable {P : Program}
theorem makeB {t e : TypeId} {size bytes : Nat} {z : Value} (hT : ElemT P t e size bytes z) {kl kc : IntKind} {n : Nat} (hb : bytes * n ≤ 281474976710656) (hn : n ≤ 281474976710656) {w : World} {K : Value → World → Prop}
    (hK : ∀ w', Blk w' w.heap.size e (madeCells z.cells (n * size)).toList → Ext No w w' → w'.heap.size = w.heap.size + 1 → K (.slice (some ⟨w.heap.size, 0, none⟩) n n) w') :
    RunS P (Instr.makeSlice t (.int kl (n : Int)) (.int kc (n : Int))) K w := by
  obtain ⟨i, hi, hz, hsz, hby⟩ := info_parts hT.info
  have hb' : (i.bytes : Int) * (n : Int) ≤ 281474976710656 := by
    rw [hby]
    have h : ((bytes * n : Nat) : Int) ≤ 281474976710656 := by omega
    rwa [Int.natCast_mul] at h
  have hr := run_make (P := P) w t e i z hT.under hi hz kl kc n n (by omega) (Int.le_refl _) hb' (by omega)
  simp only [Int.toNat_natCast, hsz] at hr
  refine runS hr (hK _ ?_ (Ext.alloc w _) (by simp))
  have := Blk.new w (madeCells z.cells (n * size)).toList e
  simpa using this
theorem madeCells_one (z : Value) (n : Nat) : (madeCells #[z] n).toList = List.replicate n z := toList_madeCells_one z n

theorem eq_nil_slice {t e : TypeId} (h : P.underlying t = some (.slice e)) {x y : Operand} {a : Option Addr} {n c : Nat} {w : World} {K : Value → World → Prop} (hK : K (.bool a.isNone) w) :
    RunS P (do eqGuard .eql t x y (.slice a n c) (.slice none 0 0); binOp .eql t (.slice a n c) (.slice none 0 0)) K w := by
  refine runS (v := .bool a.isNone) (w' := w) ?_ hK
  rw [eqGuard_at_slice]
  have hin : ∀ d, (Op.equalIn (d + 1) t (.slice a n c) (.slice none 0 0)).run P w = .ok a.isNone w := fun d => by
    cases a <;> simp [Op.equalIn, run_underlying h]
  have : (Op.equal t (.slice a n c) (.slice none 0 0)).run P w = .ok a.isNone w := hin 9999
  simp [binOp, this]
theorem ne_nil_slice {t e : TypeId} (h : P.underlying t = some (.slice e)) {x y : Operand} {a : Option Addr} {n c : Nat} {w : World} {K : Value → World → Prop} (hK : K (.bool (!a.isNone)) w) :
    RunS P (do eqGuard .neq t x y (.slice a n c) (.slice none 0 0); binOp .neq t (.slice a n c) (.slice none 0 0)) K w := by
  refine runS (v := .bool (!a.isNone)) (w' := w) ?_ hK
  rw [eqGuard_at_slice]
  have hin : ∀ d, (Op.equalIn (d + 1) t (.slice a n c) (.slice none 0 0)).run P w = .ok a.isNone w := fun d => by
    cases a <;> simp [Op.equalIn, run_underlying h]
  have : (Op.equal t (.slice a n c) (.slice none 0 0)).run P w = .ok a.isNone w := hin 9999
  simp [binOp, this]
theorem run_ptr_nil {t e : TypeId} (h : P.underlying t = some (.pointer e)) (a : Option Addr) (w : World) : (Op.equal t (.pointer a) (.pointer none)).run P w = .ok a.isNone w := by
  have hin : ∀ d, (Op.equalIn (d + 1) t (.pointer a) (.pointer none)).run P w = .ok a.isNone w := fun d => by
    cases a <;> simp [Op.equalIn, run_underlying h]
  exact hin 9999
theorem eq_nil_ptr {t e : TypeId} (h : P.underlying t = some (.pointer e)) {x y : Operand} {a : Option Addr} {w : World} {K : Value → World → Prop} (hK : K (.bool a.isNone) w) :
    RunS P (do eqGuard .eql t x y (.pointer a) (.pointer none); binOp .eql t (.pointer a) (.pointer none)) K w := by
  refine runS (v := .bool a.isNone) (w' := w) ?_ hK
  rw [eqGuard_at_pointer]
  simp [binOp, run_ptr_nil h]
theorem ne_nil_ptr {t e : TypeId} (h : P.underlying t = some (.pointer e)) {x y : Operand} {a : Option Addr} {w : World} {K : Value → World → Prop} (hK : K (.bool (!a.isNone)) w) :
    RunS P (do eqGuard .neq t x y (.pointer a) (.pointer none); binOp .neq t (.pointer a) (.pointer none)) K w := by
  refine runS (v := .bool (!a.isNone)) (w' := w) ?_ hK
  rw [eqGuard_at_pointer]
  simp [binOp, run_ptr_nil h]

theorem bytes_str {src dst e : TypeId} (hs : P.underlying src = some (.slice e)) (hd : P.underlying dst = some .string) (he : P.underlying e = some (.int .u8)) {w : World} {x : Value} {l : List UInt8}
    (hx : Sl w x l.length 1 (byteCells l)) : (convert src dst x).run P w = .ok (.string ⟨l.toArray⟩) w := by
  obtain ⟨A, c, rfl, hl, hc, h0, hA⟩ := hx
  have hcv : (convert src dst (.slice A l.length c)).run P w = (Conv.bytesToString (.slice A l.length c)).run P w := by
    simp [convert, run_underlying hs, run_underlying hd, run_underlying he]
  rw [hcv]
  cases A with
  | none =>
    have : l = [] := List.eq_nil_of_length_eq_zero (h0 rfl)
    subst this
    simp [Conv.bytesToString]
    rfl
  | some ad =>
    rw [← hcv]
    exact run_convert_bytes_back w src dst e ad c l hs he hd fun j hj => hA ad rfl j _ (by simp [byteCells, List.getElem?_eq_getElem hj])
end
end SG
/-! Rules: slices cut, panics. No program stands here. -/
namespace SG
open Go Go.RowKit Go.Lib
set_option linter.unusedSimpArgs false
set_option linter.unusedVariables false

theorem sl_drop {w : World} {x : Value} {n size : Nat} {xs : List Value} (h : Sl w x n size xs) {k : Nat} (hk : k ≤ n) (kd : IntKind) :
    ∃ x', sliceV size x (some (.int kd (k : Int))) none = some x' ∧ Sl w x' (n - k) size (xs.drop (k * size)) ∧ ∀ b, x'.ownBlock = some b → x.ownBlock = some b := by
  obtain ⟨A, c, rfl, hl, hc, h0, hA⟩ := h
  have h1 : (0 : Int) ≤ (k : Int) ∧ (k : Int) ≤ (n : Int) := by omega
  refine ⟨.slice (if c = k then A else A.map (·.add (k * size))) (n - k) (c - k), by simp only [sliceV, boundV, Option.bind_some]; rw [if_pos h1]; simp, ?_, ?_⟩
  · refine ⟨_, c - k, rfl, ?_, by omega, fun hn => ?_, fun ad had => ?_⟩
    · rw [List.length_drop, hl, Nat.sub_mul]
    · split at hn
      · have := h0 hn; omega
      · cases A with
        | none => have := h0 rfl; omega
        | some a => simp at hn
    · split at had
      · have hd : xs.drop (k * size) = [] := List.drop_eq_nil_of_le (by rw [hl]; exact Nat.mul_le_mul_right _ (by omega))
        rw [hd]
        exact fun i v hv => by simp at hv
      · cases A with
        | none => simp at had
        | some a =>
          simp only [Option.map_some, Option.some.injEq] at had
          subst had
          exact (hA a rfl).drop _
  · intro b hb
    split at hb
    · cases A <;> exact hb
    · cases A with
      | none => simp [Value.ownBlock] at hb
      | some a => simpa [Value.ownBlock, Addr.add_block] using hb
theorem sl_take {w : World} {x : Value} {n size : Nat} {xs : List Value} (h : Sl w x n size xs) {k : Nat} (hk : k ≤ n) (kd : IntKind) :
    ∃ x', sliceV size x none (some (.int kd (k : Int))) = some x' ∧ Sl w x' k size (xs.take (k * size)) ∧ ∀ b, x'.ownBlock = some b → x.ownBlock = some b := by
  obtain ⟨A, c, rfl, hl, hc, h0, hA⟩ := h
  have h1 : (0 : Int) ≤ (k : Int) ∧ (k : Int) ≤ (c : Int) := by omega
  refine ⟨.slice (if c = 0 then A else A.map (·.add (0 * size))) (k - 0) (c - 0), by simp only [sliceV, boundV]; rw [if_pos h1]; simp [boundV], ?_, ?_⟩
  · refine ⟨(if c = 0 then A else A.map (·.add (0 * size))), c, rfl, ?_, by omega, fun hn => ?_, fun ad had => ?_⟩
    · rw [List.length_take, hl]
      exact Nat.min_eq_left (Nat.mul_le_mul_right _ hk)
    · split at hn
      · have := h0 hn; omega
      · cases A with
        | none => have := h0 rfl; omega
        | some a => simp at hn
    · have hat : ∀ a, A = some a → At w a (xs.take (k * size)) := fun a ha => (hA a ha).take _
      split at had
      · exact hat ad had
      · cases A with
        | none => simp at had
        | some a =>
          simp only [Option.map_some, Option.some.injEq, Nat.zero_mul, Addr.add_zero'] at had
          subst had
          exact hat a rfl
  · intro b hb
    split at hb
    · cases A <;> exact hb
    · cases A with
      | none => simp [Value.ownBlock] at hb
      | some a => simpa [Value.ownBlock, Addr.add_block] using hb
theorem callP_of {P : Program} {f : FuncId} {args : Array Value} {K : Value → World → Prop} {Kp : List PanicEntry → World → Prop} {w : World} (h : CallS P f args K w) : CallP P f args K Kp w :=
  Calls.mono h fun e w' he => by cases e <;> first | exact he | exact he.elim
def panE (t : TypeId) (v : Value) : List PanicEntry := [{ v := .iface t v, recovered := false }]
theorem panicI {P : Program} {t : TypeId} {v : Value} {Kp : List PanicEntry → World → Prop} {w : World} (h : Kp (panE t v) w) : PanicS P (.iface t v) Kp w := by
  unfold PanicS
  have : (Instr.panic (.iface t v)).run P w = .halt (.panic (.iface t v)) w := rfl
  rw [this]; exact h
end SG
/-! Rules for sorting in place: swaps, order. No program stands here. -/
namespace SG
open Go Go.RowKit Go.Lib
set_option linter.unusedSimpArgs false
set_option linter.unusedVariables false

section
variable {β : Type}
def swp (xs : List β) (i j : Nat) : List β := match xs[i]?, xs[j]? with
  | some u, some v => (xs.set i v).set j u
  | _, _ => xs
theorem swp_length (xs : List β) (i j : Nat) : (swp xs i j).length = xs.length := by
  unfold swp
  split <;> simp
theorem swp_get {xs : List β} {i j : Nat} (hi : i < xs.length) (hj : j < xs.length) (k : Nat) : (swp xs i j)[k]? = if k = j then xs[i]? else if k = i then xs[j]? else xs[k]? := by
  have h1 : xs[i]? = some xs[i] := List.getElem?_eq_getElem hi
  have h2 : xs[j]? = some xs[j] := List.getElem?_eq_getElem hj
  unfold swp
  rw [h1, h2]
  simp only
  rw [List.getElem?_set]
  by_cases hkj : k = j
  · subst hkj
    rw [if_pos rfl, if_pos rfl, if_pos (by simpa using hj)]
  · rw [if_neg (Ne.symm hkj), if_neg hkj, List.getElem?_set]
    by_cases hki : k = i
    · subst hki
      rw [if_pos rfl, if_pos rfl, if_pos hi]
    · rw [if_neg (Ne.symm hki), if_neg hki]
theorem swp_perm (xs : List β) (i j : Nat) : (swp xs i j).Perm xs := by
  classical
  unfold swp
  split
  · rename_i u v hu hv
    rw [List.perm_iff_count]
    intro a
    have hi := (List.getElem?_eq_some_iff.1 hu).1
    have hj := (List.getElem?_eq_some_iff.1 hv).1
    have eu := (List.getElem?_eq_some_iff.1 hu).2
    have ev := (List.getElem?_eq_some_iff.1 hv).2
    rw [List.count_set (by simpa using hj), List.count_set hi]
    have hgj : (xs.set i v)[j]'(by simpa using hj) = v := by
      by_cases hij : i = j
      · subst hij; simp
      · rw [List.getElem_set_ne hij]; exact ev
    rw [hgj, eu]
    by_cases h1 : u = a <;> by_cases h2 : v = a <;> simp [h1, h2]
    · subst h1
      have : 0 < List.count u xs := List.count_pos_iff.2 (List.mem_of_getElem? hu)
      omega
    · subst h1
      have : 0 < List.count u xs := List.count_pos_iff.2 (List.mem_of_getElem? hu)
      omega
  · exact List.Perm.refl _
/-- swaps within [a, b) -/
inductive Sw (a b : Nat) (xs : List β) : List β → Prop
  | refl : Sw a b xs xs
  | step {ys : List β} (i j : Nat) : a ≤ i → i < b → a ≤ j → j < b → b ≤ xs.length → Sw a b xs ys → Sw a b xs (swp ys i j)
namespace Sw
variable {a b : Nat} {xs ys zs : List β}
theorem len (h : Sw a b xs ys) : ys.length = xs.length := by
  induction h with
  | refl => rfl
  | step i j _ _ _ _ _ _ ih => rw [swp_length, ih]
theorem trans (h : Sw a b xs ys) (k : Sw a b ys zs) : Sw a b xs zs := by
  induction k with
  | refl => exact h
  | step i j h1 h2 h3 h4 h5 _ ih => exact .step i j h1 h2 h3 h4 (by rw [h.len] at h5; exact h5) ih
theorem mono {a' b' : Nat} (h : Sw a b xs ys) (ha : a' ≤ a) (hb : b ≤ b') (hl : b' ≤ xs.length) : Sw a' b' xs ys := by
  induction h with
  | refl => exact .refl
  | step i j h1 h2 h3 h4 _ _ ih => exact .step i j (by omega) (by omega) (by omega) (by omega) hl ih
theorem out (h : Sw a b xs ys) {k : Nat} (hk : k < a ∨ b ≤ k) : ys[k]? = xs[k]? := by
  induction h with
  | refl => rfl
  | step i j h1 h2 h3 h4 h5 h6 ih =>
    have := h6.len
    rw [swp_get (by omega) (by omega), if_neg (by omega), if_neg (by omega), ih]
theorem perm (h : Sw a b xs ys) : ys.Perm xs := by
  induction h with
  | refl => exact List.Perm.refl _
  | step i j _ _ _ _ _ _ ih => exact (swp_perm _ _ _).trans ih
/-- what holds of all that lies within goes on to hold -/
theorem all {P : β → Prop} (h : Sw a b xs ys) (hP : ∀ k u, a ≤ k → k < b → xs[k]? = some u → P u) : ∀ k u, a ≤ k → k < b → ys[k]? = some u → P u := by
  induction h with
  | refl => exact hP
  | step i j h1 h2 h3 h4 h5 h6 ih =>
    intro k u hk1 hk2 hu
    have := h6.len
    rw [swp_get (by omega) (by omega)] at hu
    split at hu
    · exact ih i u h1 h2 hu
    · split at hu
      · exact ih j u h3 h4 hu
      · exact ih k u hk1 hk2 hu
theorem one {i j : Nat} (h1 : a ≤ i) (h2 : i < b) (h3 : a ≤ j) (h4 : j < b) (h5 : b ≤ xs.length) : Sw a b xs (swp xs i j) := .step i j h1 h2 h3 h4 h5 .refl
end Sw

structure Lin (lt : β → β → Bool) : Prop where
  irr : ∀ x, lt x x = false
  tr : ∀ x y z, lt x y = true → lt y z = true → lt x z = true
  tri : ∀ x y, lt x y = false → lt y x = false → x = y
namespace Lin
variable {lt : β → β → Bool}
theorem asym (h : Lin lt) {x y : β} (hxy : lt x y = true) : lt y x = false := by
  cases hyx : lt y x with
  | false => rfl
  | true => have := h.tr _ _ _ hxy hyx; rw [h.irr] at this; cases this
/-- 'not above' carries on -/
theorem le_tr (h : Lin lt) {x y z : β} (h1 : lt y x = false) (h2 : lt z y = false) : lt z x = false := by
  cases hzx : lt z x with
  | false => rfl
  | true =>
    cases hxy : lt x y with
    | true => have := h.tr _ _ _ hzx hxy; rw [h2] at this; cases this
    | false =>
      have := h.tri x y hxy h1
      subst this
      rw [h2] at hzx; cases hzx
theorem le_total (h : Lin lt) (x y : β) : lt x y = false ∨ lt y x = false := by
  cases hxy : lt x y with
  | false => exact .inl rfl
  | true => exact .inr (h.asym hxy)
theorem le_lt (h : Lin lt) {x y z : β} (h1 : lt y x = false) (h2 : lt y z = true) : lt x z = true := by
  cases hxz : lt x z with
  | true => rfl
  | false => have := h.le_tr hxz h1; rw [h2] at this; cases this
theorem lt_le (h : Lin lt) {x y z : β} (h1 : lt x y = true) (h2 : lt z y = false) : lt x z = true := by
  cases hxz : lt x z with
  | true => rfl
  | false => have := h.le_tr h2 hxz; rw [h1] at this; cases this
end Lin
/-- in order between a and b -/
def Srt (lt : β → β → Bool) (a b : Nat) (xs : List β) : Prop := ∀ i j u v, a ≤ i → i < j → j < b → xs[i]? = some u → xs[j]? = some v → lt v u = false
/-- all of [a, b) is not above all of [c, d) -/
def LeAll (lt : β → β → Bool) (a b c d : Nat) (xs : List β) : Prop := ∀ i j u v, a ≤ i → i < b → c ≤ j → j < d → xs[i]? = some u → xs[j]? = some v → lt v u = false
theorem Srt.nil {lt : β → β → Bool} {a b : Nat} {xs : List β} (h : b ≤ a + 1) : Srt lt a b xs := fun i j u v h1 h2 h3 => by omega
theorem Srt.adj {lt : β → β → Bool} (hl : Lin lt) {a b : Nat} {xs : List β} (hb : b ≤ xs.length) (h : ∀ i u v, a ≤ i → i + 1 < b → xs[i]? = some u → xs[i + 1]? = some v → lt v u = false) : Srt lt a b xs := by
  intro i j u v h1 h2 h3 hu hv
  induction j generalizing v with
  | zero => omega
  | succ j ih =>
    by_cases hij : i = j
    · subst hij; exact h i u v h1 h3 hu hv
    · obtain ⟨x, hx⟩ : ∃ x, xs[j]? = some x := ⟨_, List.getElem?_eq_getElem (by omega)⟩
      exact hl.le_tr (ih x (by omega) (by omega) hx) (h j x v (by omega) h3 hx hv)
theorem Srt.same {lt : β → β → Bool} {a b : Nat} {xs ys : List β} (h : Srt lt a b xs) (hs : ∀ k, a ≤ k → k < b → ys[k]? = xs[k]?) : Srt lt a b ys := fun i j u v h1 h2 h3 hu hv =>
  h i j u v h1 h2 h3 (by rw [← hs i h1 (by omega)]; exact hu) (by rw [← hs j (by omega) h3]; exact hv)
/-- two parts in order, the one not above the other -/
theorem Srt.join {lt : β → β → Bool} {a m b : Nat} {xs : List β} (h1 : Srt lt a m xs) (h2 : Srt lt m b xs) (h3 : LeAll lt a m m b xs) : Srt lt a b xs := fun i j u v k1 k2 k3 hu hv => by
  by_cases hj : j < m
  · exact h1 i j u v k1 k2 hj hu hv
  · by_cases hi : i < m
    · exact h3 i j u v k1 hi (by omega) k3 hu hv
    · exact h2 i j u v (by omega) k2 k3 hu hv
theorem LeAll.same {lt : β → β → Bool} {a b c d : Nat} {xs ys : List β} (h : LeAll lt a b c d xs) (h1 : ∀ k, a ≤ k → k < b → ys[k]? = xs[k]?) (h2 : ∀ k, c ≤ k → k < d → ys[k]? = xs[k]?) : LeAll lt a b c d ys := fun i j u v k1 k2 k3 k4 hu hv =>
  h i j u v k1 k2 k3 k4 (by rw [← h1 i k1 k2]; exact hu) (by rw [← h2 j k3 k4]; exact hv)
/-- swaps within the right part -/
theorem LeAll.right {lt : β → β → Bool} {a b c d : Nat} {xs ys : List β} (h : LeAll lt a b c d xs) (hs : Sw c d xs ys) (hbc : b ≤ c ∨ d ≤ a) : LeAll lt a b c d ys := fun i j u v k1 k2 k3 k4 hu hv => by
  rw [hs.out (by omega)] at hu
  exact hs.all (P := fun v => lt v u = false) (fun k w hk1 hk2 hw => h i k u w k1 k2 hk1 hk2 hu hw) j v k3 k4 hv
theorem LeAll.left {lt : β → β → Bool} {a b c d : Nat} {xs ys : List β} (h : LeAll lt a b c d xs) (hs : Sw a b xs ys) (hbc : b ≤ c ∨ d ≤ a) : LeAll lt a b c d ys := fun i j u v k1 k2 k3 k4 hu hv => by
  rw [hs.out (by omega)] at hv
  exact hs.all (P := fun u => lt v u = false) (fun k w hk1 hk2 hw => h k j w v hk1 hk2 k3 k4 hw hv) i u k1 k2 hu
/-- lists in strict or equal order -/
def Asc (lt : β → β → Bool) (xs : List β) : Prop := xs.Pairwise fun u v => lt v u = false
theorem Srt.asc {lt : β → β → Bool} {xs : List β} (h : Srt lt 0 xs.length xs) : Asc lt xs := by
  unfold Asc
  rw [List.pairwise_iff_getElem]
  intro i j hi hj hij
  exact h i j _ _ (by omega) hij hj (List.getElem?_eq_getElem hi) (List.getElem?_eq_getElem hj)
theorem Asc.unique {lt : β → β → Bool} (hl : Lin lt) {xs ys : List β} (h1 : Asc lt xs) (h2 : Asc lt ys) (hp : xs.Perm ys) : xs = ys :=
  List.Perm.eq_of_pairwise (fun u v _ _ h k => hl.tri u v k h) h1 h2 hp
end
end SG
/-! Rules for sorting in place: a row of elements in memory. No program stands here. -/
namespace SG
open Go Go.RowKit Go.Lib
set_option linter.unusedSimpArgs false
set_option linter.unusedVariables false

section
variable {β : Type}
/-- where the row lies: block, type, what lies before and behind it; how an element is written; how many there are -/
structure Lcn (β : Type) where
  g : Nat
  t : TypeId
  pre : List Value
  post : List Value
  enc : β → Value
  n : Nat
  cap : Nat
  one : ∀ x, (enc x).oneCell' = true
  big : n ≤ 4611686018427387904
def Lcn.v (L : Lcn β) : Value := .slice (some ⟨L.g, L.pre.length, none⟩) L.n L.cap
structure Dt (L : Lcn β) (w : World) (xs : List β) : Prop where
  blk : Blk w L.g L.t (L.pre ++ xs.map L.enc ++ L.post)
  len : xs.length = L.n
namespace Dt
variable {L : Lcn β} {w w' : World} {xs : List β} {S : Nat → Prop}
theorem ext (h : Dt L w xs) (e : Ext S w w') (hn : ¬ S L.g) : Dt L w' xs := ⟨h.blk.ext e hn, h.len⟩
theorem no (h : Dt L w xs) (e : Ext No w w') : Dt L w' xs := h.ext e fun h => h
theorem drew (h : Dt L w xs) : Dt L w.drew xs := h.no (Ext.drew w)
theorem idx (h : Dt L w xs) {i : Nat} (hi : i < L.n) : indexAddrV 1 L.v (.int .i64 (i : Int)) = some (.pointer (some ⟨L.g, L.pre.length + i, none⟩)) := by
  unfold Lcn.v
  rw [index_sl ⟨by omega, by omega⟩, Addr.add_mk]
  simp
theorem cell (h : Dt L w xs) {i : Nat} {x : β} (hx : xs[i]? = some x) : w.cell? ⟨L.g, L.pre.length + i, none⟩ = some (L.enc x) := by
  have hi : i < xs.length := (List.getElem?_eq_some_iff.1 hx).1
  rw [h.blk.cell, List.append_assoc, List.getElem?_append_right (by omega), show L.pre.length + i - L.pre.length = i by omega, List.getElem?_append_left (by simpa using hi)]
  simp [hx]
theorem store (h : Dt L w xs) {i : Nat} {x : β} (hi : i < L.n) {K : World → Prop} (hK : ∀ w', Dt L w' (xs.set i x) → Ext (At1 L.g) w w' → w'.heap.size = w.heap.size → K w') : StoreC (.pointer (some ⟨L.g, L.pre.length + i, none⟩)) (L.enc x) K w := by
  have hl := h.len
  refine storeB h.blk (by simp; omega) (L.one x) fun w' b e z => hK w' ⟨?_, by simpa using hl⟩ e z
  have : (L.pre ++ xs.map L.enc ++ L.post).set (L.pre.length + i) (L.enc x) = L.pre ++ (xs.set i x).map L.enc ++ L.post := by
    rw [List.append_assoc, List.set_append_right _ _ (by omega), show L.pre.length + i - L.pre.length = i by omega, List.set_append_left _ _ (by simpa using (by omega : i < xs.length)), List.map_set, ← List.append_assoc]
  rw [this] at b
  exact b
/-- two elements change places -/
theorem swap (h : Dt L w xs) {i j : Nat} {u v : β} (hu : xs[i]? = some u) (hv : xs[j]? = some v) {K : World → Prop} (hK : ∀ w', Dt L w' (swp xs i j) → Ext (At1 L.g) w w' → K w') :
    PureS (indexAddrV 1 L.v (.int .i64 (i : Int))) fun t => StoreC t (L.enc v) (fun w => PureS (indexAddrV 1 L.v (.int .i64 (j : Int))) fun t => StoreC t (L.enc u) K w) w := by
  have hi := (List.getElem?_eq_some_iff.1 hu).1
  have hj := (List.getElem?_eq_some_iff.1 hv).1
  have hl := h.len
  refine pur (h.idx (by omega)) (h.store (by omega) fun w1 h1 e1 z1 => pur (h1.idx (by omega)) (h1.store (by omega) fun w2 h2 e2 z2 => hK w2 ?_ (e1.trans e2)))
  have : swp xs i j = (xs.set i v).set j u := by unfold swp; rw [hu, hv]
  rw [this]; exact h2
end Dt
theorem getN {xs : List β} {i : Nat} (h : i < xs.length) : ∃ x, xs[i]? = some x := ⟨_, List.getElem?_eq_getElem h⟩
end
end SG
/-! Batches: the numbers that are put in order. -/
namespace Go.Proofs.Ytambcnlkdnmekaa
open Go SG Go.RowKit Go.Lib
set_option linter.unusedVariables false
set_option maxRecDepth 4000

abbrev El := Nat
def encE (x : El) : Value := .int .u32 (x : Int)
def ltE (x y : El) : Bool := decide (x < y)
theorem ltE_iff (x y : Nat) : ltE x y = true ↔ x < y := by simp [ltE]
theorem ltE_not (x y : Nat) : ltE x y = false ↔ y ≤ x := by simp [ltE]
theorem linE : Lin ltE := ⟨fun (x : Nat) => (ltE_not x x).2 (Nat.le_refl _), fun (x y z : Nat) h k => (ltE_iff x z).2 (Nat.lt_trans ((ltE_iff x y).1 h) ((ltE_iff y z).1 k)), fun (x y : Nat) h k => Nat.le_antisymm ((ltE_not y x).1 k) ((ltE_not x y).1 h)⟩
theorem cnan (x : El) {K : Value → World → Prop} {w : World} (hK : K (.bool false) w) : CallS Try.prog 90 #[encE x] K w := by
  refine s90_call hm ?_
  unfold s90 encE
  exact pur (v := .bool false) ((bin_neq _ _ _).trans (by simp)) hK
theorem cless {x y : El} {K : Value → World → Prop} {w : World} (hK : K (.bool (ltE x y)) w) : CallS Try.prog 80 #[encE x, encE y] K w := by
  refine s80_call hm ?_
  unfold s80
  refine cnan x ?_
  refine join1 (fun a w' => w = w') ?_ fun J0 hJ0 => ?_
  · rintro a w' rfl
    refine pur (pick_b _ _ _) ?_
    rw [if_neg (by simp)]
    refine join1 (fun a w' => w = w' ∧ a = .bool (ltE x y)) ?_ fun J1 hJ1 => ?_
    · rintro a w' ⟨rfl, rfl⟩
      exact pur (pick_b _ _ _) hK
    · rw [ifB_eq, if_pos rfl]
      refine pur (bin_lss _ _ _) (hJ1 _ _ ⟨rfl, ?_⟩)
      congr 1
      unfold ltE
      rw [Bool.eq_iff_iff]; simp
  · rw [ifB_eq, if_neg (by simp)]
    exact hJ0 _ _ rfl
theorem TCE : ElemT Try.prog 82 29 1 4 (.int .u32 0) := ⟨Try.underlying82, by kernel_rfl, rfl, by decide, by decide⟩
theorem eqE (x y : El) : binV .eql (encE x) (encE y) = some (.bool (decide (x = y))) := by
  refine (bin_eql _ _ _).trans ?_
  congr 2
  rw [decide_eq_decide]
  exact ⟨fun h => Int.natCast_inj.1 h, fun h => by rw [h]⟩
theorem neE (x y : El) : binV .neq (encE x) (encE y) = some (.bool (!decide (x = y))) := by
  refine (bin_neq _ _ _).trans ?_
  congr 3
  rw [decide_eq_decide]
  exact ⟨fun h => Int.natCast_inj.1 h, fun h => by rw [h]⟩
end Go.Proofs.Ytambcnlkdnmekaa
/-! Sorting in place: insertion, reversal, order of two, medians. -/
namespace Go.Proofs.Ytambcnlkdnmekaa
open Go SG Go.RowKit Go.Lib
set_option linter.unusedVariables false
set_option maxRecDepth 4000
set_option linter.unusedSimpArgs false

/-- all but place j is in order up to i, and what lies behind j is not below it -/
structure InsI (a i j : Nat) (zs : List El) : Prop where
  rest : ∀ p q u v, a ≤ p → p < q → q ≤ i → p ≠ j → q ≠ j → zs[p]? = some u → zs[q]? = some v → ltE v u = false
  beh : ∀ q u v, j < q → q ≤ i → zs[j]? = some u → zs[q]? = some v → ltE v u = false
theorem InsI.done {a i j : Nat} {zs : List El} (h : InsI a i j zs) (haj : a ≤ j) (hji : j ≤ i) (hi : i < zs.length) (hx : a < j → ∀ u v, zs[j - 1]? = some u → zs[j]? = some v → ltE v u = false) : Srt ltE a (i + 1) zs := by
  intro p q u v h1 h2 h3 hu hv
  by_cases hp : p = j
  · subst hp; exact h.beh q u v h2 (by omega) hu hv
  · by_cases hq : q = j
    · subst hq
      by_cases hpq : p = q - 1
      · subst hpq; exact hx (by omega) u v hu hv
      · obtain ⟨x, hxx⟩ := getN (xs := zs) (i := q - 1) (by omega)
        exact linE.le_tr (h.rest p (q - 1) u x h1 (by omega) (by omega) hp (by omega) hu hxx) (hx (by omega) x v hxx hv)
    · exact h.rest p q u v h1 h2 (by omega) hp hq hu hv
theorem InsI.next {a i j : Nat} {zs : List El} (h : InsI a i j zs) (haj : a < j) (hji : j ≤ i) (hi : i < zs.length) {u v : El} (hu : zs[j - 1]? = some u) (hv : zs[j]? = some v) (hlt : ltE v u = true) : InsI a i (j - 1) (swp zs j (j - 1)) := by
  have g : ∀ k, (swp zs j (j - 1))[k]? = if k = j - 1 then zs[j]? else if k = j then zs[j - 1]? else zs[k]? := fun k => swp_get (by omega) (by omega) k
  refine ⟨fun p q x y h1 h2 h3 h4 h5 hx hy => ?_, fun q x y h1 h2 hx hy => ?_⟩
  · rw [g, if_neg h4] at hx
    rw [g, if_neg h5] at hy
    by_cases hp : p = j
    · rw [if_pos hp] at hx
      rw [if_neg (by omega)] at hy
      exact h.rest (j - 1) q x y (by omega) (by omega) h3 (by omega) (by omega) hx hy
    · rw [if_neg hp] at hx
      by_cases hq : q = j
      · rw [if_pos hq] at hy
        exact h.rest p (j - 1) x y h1 (by omega) (by omega) hp (by omega) hx hy
      · rw [if_neg hq] at hy
        exact h.rest p q x y h1 h2 h3 hp hq hx hy
  · rw [g, if_pos rfl, hv] at hx
    cases hx
    rw [g, if_neg (by omega)] at hy
    by_cases hq : q = j
    · rw [if_pos hq, hu] at hy
      cases hy
      exact linE.asym hlt
    · rw [if_neg hq] at hy
      exact h.beh q v y (by omega) h2 hv hy

set_option maxHeartbeats 1000000 in
theorem cIns {L : Lcn El} (hE : L.enc = encE) {w : World} {xs : List El} (hd : Dt L w xs) {a b : Nat} (hab : a ≤ b) (hb : b ≤ L.n) {K : Value → World → Prop}
    (hK : ∀ w' ys, Dt L w' ys → Sw a b xs ys → Srt ltE a b ys → Ext (At1 L.g) w w' → K (.tuple [].toArray) w') : CallS Try.prog 74 #[L.v, .int .i64 (a : Int), .int .i64 (b : Int)] K w := by
  have hbig := L.big
  refine s74_call hm ?_
  unfold s74
  refine pur (add64 (c := ((a + 1 : Nat) : Int)) (by omega) (by omega) (by omega)) ?_
  refine loop1 (σ := Nat × List El) (fun s v w' => v = .int .i64 (s.1 : Int) ∧ a + 1 ≤ s.1 ∧ (s.1 ≤ b ∨ s.1 = a + 1) ∧ Dt L w' s.2 ∧ Sw a b xs s.2 ∧ Srt ltE a s.1 s.2 ∧ Ext (At1 L.g) w w') (fun s => b - s.1) (a + 1, xs)
    ⟨rfl, by simp, .inr rfl, hd, .refl, Srt.nil (by simp), Ext.refl _ _⟩ ?_
  rintro ⟨i, ys⟩ _ w1 ⟨rfl, hi1, hi2, hd1, hs1, ho1, e1⟩ L0 hL0
  simp only at hi1 hi2 hd1 hs1 ho1 hL0
  have hyl := hd1.len
  have hxl := hs1.len
  refine pur (bin_lss _ _ _) (condD (fun hlt => ?_) (fun hge => ?_))
  · refine join0 (fun w' => ∃ zs, Dt L w' zs ∧ Sw a b xs zs ∧ Srt ltE a (i + 1) zs ∧ Ext (At1 L.g) w w') ?_ fun J1 hJ1 => ?_
    · rintro w2 ⟨zs, hd2, hs2, ho2, e2⟩
      exact pur (add64 (c := ((i + 1 : Nat) : Int)) (by omega) (by omega) (by omega)) (hL0 (i + 1, zs) _ _ ⟨rfl, by simp only; omega, .inl (by simp only; omega), hd2, hs2, ho2, e2⟩ (by simp only; omega))
    · refine loop1 (σ := Nat × List El) (fun s v w' => v = .int .i64 (s.1 : Int) ∧ a ≤ s.1 ∧ s.1 ≤ i ∧ Dt L w' s.2 ∧ Sw a b xs s.2 ∧ InsI a i s.1 s.2 ∧ Ext (At1 L.g) w w') (fun s => s.1) (i, ys)
        ⟨rfl, by simp only; omega, Nat.le_refl _, hd1, hs1, ⟨fun p q u v h1 h2 h3 h4 h5 => ho1 p q u v h1 h2 (by omega), fun q u v h1 h2 => by omega⟩, e1⟩ ?_
      rintro ⟨j, zs⟩ _ w2 ⟨rfl, hj1, hj2, hd2, hs2, hi3, e2⟩ L2 hL2
      simp only at hj1 hj2 hd2 hs2 hi3 hL2
      have hzl := hd2.len
      obtain ⟨v, hv⟩ := getN (xs := zs) (i := j) (by omega)
      refine join1 (fun t w' => w2.drew = w' ∧ ((t = .bool true ∧ a < j ∧ ∃ u, zs[j - 1]? = some u ∧ ltE v u = true) ∨ (t = .bool false ∧ (a < j → ∃ u, zs[j - 1]? = some u ∧ ltE v u = false)))) ?_ fun J3 hJ3 => ?_
      · rintro t w' ⟨rfl, hcase⟩
        rcases hcase with ⟨rfl, haj, u, hu, hlt2⟩ | ⟨rfl, hno⟩
        · refine condT rfl (draw (fun w' => Dt L w' zs) hd2.drew.drew ?_)
          refine pur (sub64 (c := ((j - 1 : Nat) : Int)) (by omega) (by omega) (by omega)) (pur (sub64 (c := ((j - 1 : Nat) : Int)) (by omega) (by omega) (by omega)) ?_)
          refine pur (hd2.idx (by omega)) (pur (hd2.idx (by omega)) (heldC (fun w' h => h.cell hu) (heldC (fun w' h => h.cell hv) ?_)))
          refine hd2.drew.drew.swap hv hu fun w3 hd3 e3 => ?_
          refine pur (sub64 (c := ((j - 1 : Nat) : Int)) (by omega) (by omega) (by omega)) ?_
          exact hL2 (j - 1, swp zs j (j - 1)) _ _ ⟨rfl, by simp only; omega, by simp only; omega, hd3, hs2.trans (Sw.one (by omega) (by omega) (by omega) (by omega) (by omega)), hi3.next haj hj2 (by omega) hu hv hlt2,
            (e2.trans ((Ext.drew _).trans (Ext.drew _))).trans e3⟩ (by simp only; omega)
        · refine condF rfl (hJ1 _ ⟨zs, hd2.drew, hs2, hi3.done hj1 hj2 (by omega) (fun haj u' v' hu' hv' => ?_), e2.trans (Ext.drew _)⟩)
          obtain ⟨u, hu, hlt2⟩ := hno haj
          rw [hu] at hu'; cases hu'
          rw [hv] at hv'; cases hv'
          exact hlt2
      · refine draw (fun w' => Dt L w' zs) hd2.drew (pur (bin_gtr _ _ _) (condD (fun hgt => ?_) (fun hle => ?_)))
        · obtain ⟨u, hu⟩ := getN (xs := zs) (i := j - 1) (by omega)
          refine pur (hd2.idx (by omega)) (pur (sub64 (c := ((j - 1 : Nat) : Int)) (by omega) (by omega) (by omega)) (pur (hd2.idx (by omega)) (heldC (fun w' h => h.cell hv) (heldC (fun w' h => h.cell hu) ?_))))
          rw [hE]
          refine cless (pur (pick_b _ _ _) ?_)
          cases hc : ltE v u with
          | true => exact hJ3 _ _ ⟨rfl, .inl ⟨rfl, by omega, u, hu, hc⟩⟩
          | false => exact hJ3 _ _ ⟨rfl, .inr ⟨rfl, fun _ => ⟨u, hu, hc⟩⟩⟩
        · exact pur (pick_b _ _ _) (hJ3 _ _ ⟨rfl, .inr ⟨rfl, fun h => by omega⟩⟩)
  · have hib : i = b ∨ b ≤ a + 1 := by omega
    refine hK w1 ys hd1 hs1 ?_ e1
    rcases hib with rfl | h
    · exact ho1
    · exact Srt.nil h

theorem cRev {L : Lcn El} (hE : L.enc = encE) {w : World} {xs : List El} (hd : Dt L w xs) {a b : Nat} (hab : a ≤ b) (hb : b ≤ L.n) {K : Value → World → Prop}
    (hK : ∀ w' ys, Dt L w' ys → Sw a b xs ys → Ext (At1 L.g) w w' → K (.tuple [].toArray) w') : CallS Try.prog 78 #[L.v, .int .i64 (a : Int), .int .i64 (b : Int)] K w := by
  have hbig := L.big
  refine s78_call hm ?_
  unfold s78
  refine pur (sub64 (c := (b : Int) - 1) rfl (by omega) (by omega)) ?_
  refine loop2 (σ := Nat × List El) (fun s v v' w' => v = .int .i64 ((a : Int) + s.1) ∧ v' = .int .i64 ((b : Int) - 1 - s.1) ∧ Dt L w' s.2 ∧ Sw a b xs s.2 ∧ Ext (At1 L.g) w w') (fun s => b - a - 2 * s.1) (0, xs)
    ⟨by simp, by simp, hd, .refl, Ext.refl _ _⟩ ?_
  rintro ⟨k, ys⟩ _ _ w1 ⟨rfl, rfl, hd1, hs1, e1⟩ L0 hL0
  simp only at hd1 hs1 hL0
  have hyl := hd1.len
  have hxl := hs1.len
  refine pur (bin_lss _ _ _) (condD (fun hlt => ?_) (fun hge => hK w1 ys hd1 hs1 e1))
  have hi : (a : Int) + k = ((a + k : Nat) : Int) := by omega
  have hj : (b : Int) - 1 - k = ((b - 1 - k : Nat) : Int) := by omega
  obtain ⟨u, hu⟩ := getN (xs := ys) (i := a + k) (by omega)
  obtain ⟨v, hv⟩ := getN (xs := ys) (i := b - 1 - k) (by omega)
  rw [hi, hj]
  refine draw (fun w' => Dt L w' ys) hd1.drew ?_
  refine pur (hd1.idx (by omega)) (pur (hd1.idx (by omega)) (heldC (fun w' h => h.cell hv) (heldC (fun w' h => h.cell hu) ?_)))
  refine hd1.drew.swap hu hv fun w2 hd2 e2 => ?_
  refine pur (add64 (c := (a : Int) + ((k + 1 : Nat) : Int)) (by omega) (by omega) (by omega)) (pur (sub64 (c := (b : Int) - 1 - ((k + 1 : Nat) : Int)) (by omega) (by omega) (by omega)) ?_)
  exact hL0 (k + 1, _) _ _ _ ⟨rfl, rfl, hd2, hs1.trans (Sw.one (by omega) (by omega) (by omega) (by omega) (by omega)), (e1.trans (Ext.drew _)).trans e2⟩ (by simp only; omega)
end Go.Proofs.Ytambcnlkdnmekaa
/-! Sorting in place: the pivot, chance. -/
namespace Go.Proofs.Ytambcnlkdnmekaa
open Go SG Go.RowKit Go.Lib
set_option linter.unusedVariables false
set_option maxRecDepth 4000
set_option linter.unusedSimpArgs false

theorem at1_off {g b : Nat} (h : b ≠ g) : ¬ At1 g b := h
theorem quoN (a d : Nat) (hd : d ≠ 0) (ha : a ≤ 9223372036854775807) : binV .quo (.int .i64 (a : Int)) (.int .i64 (d : Int)) = some (.int .i64 ((a / d : Nat) : Int)) := by
  have h : ((a : Int)).tdiv (d : Int) = ((a / d : Nat) : Int) := (Int.ofNat_tdiv a d).symm
  have hle : a / d ≤ a := Nat.div_le_self a d
  rw [bin_quo _ _ _ (by omega), h]
  generalize a / d = q at *
  rw [wi64 (by omega) (by omega)]
theorem mulN (a d : Nat) (ha : a * d ≤ 9223372036854775807) : binV .mul (.int .i64 (a : Int)) (.int .i64 (d : Int)) = some (.int .i64 ((a * d : Nat) : Int)) := by
  rw [bin_mul, ← Int.natCast_mul, wi64 (by omega) (by omega)]

theorem cOrd2 {L : Lcn El} (hE : L.enc = encE) {w : World} {xs : List El} (hd : Dt L w xs) {gs : Nat} {c : Int} (hs : Blk w gs 3 [.int .i64 c]) (hg : gs ≠ L.g) {a b : Nat} (ha : a < L.n) (hb : b < L.n) {K : Value → World → Prop}
    (hK : ∀ w' c', Dt L w' xs → Blk w' gs 3 [.int .i64 c'] → Ext (At1 gs) w w' → (K (.tuple [.int .i64 (a : Int), .int .i64 (b : Int)].toArray) w' ∧ K (.tuple [.int .i64 (b : Int), .int .i64 (a : Int)].toArray) w')) :
    CallS Try.prog 91 #[L.v, .int .i64 (a : Int), .int .i64 (b : Int), .pointer (some ⟨gs, 0, none⟩)] K w := by
  refine s91_call hm ?_
  unfold s91
  have hl := hd.len
  obtain ⟨u, hu⟩ := getN (xs := xs) (i := a) (by omega)
  obtain ⟨v, hv⟩ := getN (xs := xs) (i := b) (by omega)
  refine draw (fun w' => Dt L w' xs) hd.drew ?_
  refine pur (hd.idx hb) (pur (hd.idx ha) (heldC (fun w' h => h.cell hv) (heldC (fun w' h => h.cell hu) ?_)))
  rw [hE]
  refine cless (condB (fun _ => ?_) (fun _ => ?_))
  · have hs1 : Blk w.drew gs 3 [.int .i64 c] := hs.no (Ext.drew w)
    refine pur (nil_ptr _) (loadB hs1 (v := .int .i64 c) rfl (pur (bin_add _ _ _) (pur (nil_ptr _) (storeB hs1 (by simp) rfl fun w1 b1 e1 _ => ?_))))
    exact (hK w1 _ (hd.drew.ext e1 (at1_off (Ne.symm hg))) b1 ((Ext.drew w).trans e1)).2
  · exact (hK w.drew c hd.drew (hs.no (Ext.drew w)) (Ext.drew w)).1

theorem cMed {L : Lcn El} (hE : L.enc = encE) {w : World} {xs : List El} (hd : Dt L w xs) {gs : Nat} {c : Int} (hs : Blk w gs 3 [.int .i64 c]) (hg : gs ≠ L.g) {i j k : Nat} (hi : i < L.n) (hj : j < L.n) (hk : k < L.n) {P : Nat → Prop} (h1 : P i) (h2 : P j) (h3 : P k) {K : Value → World → Prop}
    (hK : ∀ w' c' (m : Nat), Dt L w' xs → Blk w' gs 3 [.int .i64 c'] → Ext (At1 gs) w w' → P m → m < L.n → K (.int .i64 (m : Int)) w') :
    CallS Try.prog 89 #[L.v, .int .i64 (i : Int), .int .i64 (j : Int), .int .i64 (k : Int), .pointer (some ⟨gs, 0, none⟩)] K w := by
  refine s89_call hm ?_
  unfold s89
  have main : ∀ (p q : Nat) w1 c1, Dt L w1 xs → Blk w1 gs 3 [.int .i64 c1] → Ext (At1 gs) w w1 → p < L.n → q < L.n → P p → P q →
      CallS Try.prog 91 #[L.v, .int .i64 (q : Int), .int .i64 (k : Int), .pointer (some ⟨gs, 0, none⟩)] (fun t24 w => PureS (extractV 0 t24) fun t25 => PureS (extractV 1 t24) fun t26 => CallS Try.prog 91 #[L.v, .int .i64 (p : Int), t25, .pointer (some ⟨gs, 0, none⟩)] (fun t32 w => PureS (extractV 0 t32) fun t33 => PureS (extractV 1 t32) fun t34 => K t34 w) w) w1 := by
    intro p q w1 c1 hd1 hs1 e1 hp hq hPp hPq
    have last : ∀ (r : Nat) w2 c2, Dt L w2 xs → Blk w2 gs 3 [.int .i64 c2] → Ext (At1 gs) w w2 → r < L.n → P r →
        CallS Try.prog 91 #[L.v, .int .i64 (p : Int), .int .i64 (r : Int), .pointer (some ⟨gs, 0, none⟩)] (fun t32 w => PureS (extractV 0 t32) fun t33 => PureS (extractV 1 t32) fun t34 => K t34 w) w2 := fun r w2 c2 hd2 hs2 e2 hr hPr =>
      cOrd2 hE hd2 hs2 hg hp hr fun w3 c3 hd3 hs3 e3 =>
        ⟨pur (extract_0 _ _) (pur (extract_1 _ _ _) (hK w3 c3 r hd3 hs3 (e2.trans e3) hPr hr)), pur (extract_0 _ _) (pur (extract_1 _ _ _) (hK w3 c3 p hd3 hs3 (e2.trans e3) hPp hp))⟩
    exact cOrd2 hE hd1 hs1 hg hq hk fun w2 c2 hd2 hs2 e2 =>
      ⟨pur (extract_0 _ _) (pur (extract_1 _ _ _) (last q w2 c2 hd2 hs2 (e1.trans e2) hq hPq)), pur (extract_0 _ _) (pur (extract_1 _ _ _) (last k w2 c2 hd2 hs2 (e1.trans e2) hk h3))⟩
  exact cOrd2 hE hd hs hg hi hj fun w1 c1 hd1 hs1 e1 =>
    ⟨pur (extract_0 _ _) (pur (extract_1 _ _ _) (main i j w1 c1 hd1 hs1 e1 hi hj h1 h2)), pur (extract_0 _ _) (pur (extract_1 _ _ _) (main j i w1 c1 hd1 hs1 e1 hj hi h2 h1))⟩

theorem cMadj {L : Lcn El} (hE : L.enc = encE) {w : World} {xs : List El} (hd : Dt L w xs) {gs : Nat} {c : Int} (hs : Blk w gs 3 [.int .i64 c]) (hg : gs ≠ L.g) {i : Nat} (h0 : 1 ≤ i) (hi : i + 1 < L.n) {P : Nat → Prop} (h1 : P (i - 1)) (h2 : P i) (h3 : P (i + 1)) {K : Value → World → Prop}
    (hK : ∀ w' c' (m : Nat), Dt L w' xs → Blk w' gs 3 [.int .i64 c'] → Ext (At1 gs) w w' → P m → m < L.n → K (.int .i64 (m : Int)) w') :
    CallS Try.prog 88 #[L.v, .int .i64 (i : Int), .pointer (some ⟨gs, 0, none⟩)] K w := by
  have hbig := L.big
  refine s88_call hm ?_
  unfold s88
  refine pur (sub64 (c := ((i - 1 : Nat) : Int)) (by omega) (by omega) (by omega)) (pur (add64 (c := ((i + 1 : Nat) : Int)) (by omega) (by omega) (by omega)) ?_)
  exact cMed hE hd hs hg (by omega) (by omega) hi h1 h2 h3 hK

set_option maxHeartbeats 400000 in
theorem cPiv {L : Lcn El} (hE : L.enc = encE) {w : World} {xs : List El} (hd : Dt L w xs) {a b : Nat} (hab : a + 8 ≤ b) (hb : b ≤ L.n) {K : Value → World → Prop}
    (hK : ∀ w' (p : Nat) (h : Int), Dt L w' xs → Ext No w w' → a ≤ p → p < b → K (.tuple [.int .i64 (p : Int), .int .i64 h].toArray) w') : CallS Try.prog 77 #[L.v, .int .i64 (a : Int), .int .i64 (b : Int)] K w := by
  have hbig := L.big
  refine s77_call hm ?_
  unfold s77
  obtain ⟨l, hl⟩ : ∃ l, b - a = l := ⟨_, rfl⟩
  have hq : l / 4 * 4 ≤ l := Nat.div_mul_le_self l 4
  have hq2 : 2 ≤ l / 4 := by omega
  refine pur (sub64 (c := (l : Int)) (by omega) (by omega) (by omega)) (box fun w1 b1 e1 z1 => ?_)
  have hs1 : Blk w1 w.heap.size 3 [.int .i64 0] := b1
  have hd1 := hd.no e1
  have hg : w.heap.size ≠ L.g := by have := hd.blk.lt; omega
  have hfr : ∀ {wa wb : World}, Ext No w wa → Ext (At1 w.heap.size) wa wb → Ext No w wb := fun h k => h.fresh k fun b hb => .inr (by rw [show b = w.heap.size from hb]; exact Nat.le_refl _)
  refine pur (quoN l 4 (by decide) (by omega)) (pur (mulN (l / 4) 1 (by omega)) (pur (add64 (c := ((a + l / 4 * 1 : Nat) : Int)) (by omega) (by omega) (by omega)) ?_))
  refine pur (quoN l 4 (by decide) (by omega)) (pur (mulN (l / 4) 2 (by omega)) (pur (add64 (c := ((a + l / 4 * 2 : Nat) : Int)) (by omega) (by omega) (by omega)) ?_))
  refine pur (quoN l 4 (by decide) (by omega)) (pur (mulN (l / 4) 3 (by omega)) (pur (add64 (c := ((a + l / 4 * 3 : Nat) : Int)) (by omega) (by omega) (by omega)) ?_))
  refine join1 (fun v w' => ∃ (m : Nat) (c : Int), v = .int .i64 (m : Int) ∧ a ≤ m ∧ m < b ∧ Dt L w' xs ∧ Blk w' w.heap.size 3 [.int .i64 c] ∧ Ext No w w') ?_ fun J0 hJ0 => ?_
  · rintro _ w2 ⟨m, c, rfl, hm1, hm2, hd2, hs2, e2⟩
    refine loadB hs2 (v := .int .i64 c) rfl (pur (bin_eql _ _ _) (condD (fun _ => hK w2 m 1 hd2 e2 hm1 hm2) (fun _ => pur (bin_eql _ _ _) (condD (fun _ => hK w2 m 2 hd2 e2 hm1 hm2) (fun _ => hK w2 m 0 hd2 e2 hm1 hm2)))))
  · refine pur (bin_geq _ _ _) (condD (fun _ => ?_) (fun h => absurd h (by omega)))
    refine join3 (fun x y z w' => ∃ (i j k : Nat) (c : Int), x = .int .i64 (i : Int) ∧ y = .int .i64 (j : Int) ∧ z = .int .i64 (k : Int) ∧ (a ≤ i ∧ i < b) ∧ (a ≤ j ∧ j < b) ∧ (a ≤ k ∧ k < b) ∧ Dt L w' xs ∧ Blk w' w.heap.size 3 [.int .i64 c] ∧ Ext No w w') ?_ fun J1 hJ1 => ?_
    · rintro _ _ _ w2 ⟨i, j, k, c, rfl, rfl, rfl, hi, hj, hk, hd2, hs2, e2⟩
      exact cMed hE hd2 hs2 hg (P := fun m => a ≤ m ∧ m < b) (by omega) (by omega) (by omega) hi hj hk fun w3 c3 m hd3 hs3 e3 hPm _ => hJ0 _ _ ⟨m, c3, rfl, hPm.1, hPm.2, hd3, hs3, hfr e2 e3⟩
    · refine pur (bin_geq _ _ _) (condD (fun hge => ?_) (fun _ => ?_))
      · refine cMadj hE hd1 hs1 hg (P := fun m => a ≤ m ∧ m < b) (by omega) (by omega) (by omega) (by omega) (by omega) fun w2 c2 i hd2 hs2 e2 hi _ => ?_
        refine cMadj hE hd2 hs2 hg (P := fun m => a ≤ m ∧ m < b) (by omega) (by omega) (by omega) (by omega) (by omega) fun w3 c3 j hd3 hs3 e3 hj _ => ?_
        refine cMadj hE hd3 hs3 hg (P := fun m => a ≤ m ∧ m < b) (by omega) (by omega) (by omega) (by omega) (by omega) fun w4 c4 k hd4 hs4 e4 hk _ => ?_
        exact hJ1 _ _ _ _ ⟨i, j, k, c4, rfl, rfl, rfl, hi, hj, hk, hd4, hs4, hfr (hfr (hfr e1 e2) e3) e4⟩
      · exact hJ1 _ _ _ _ ⟨_, _, _, 0, rfl, rfl, rfl, by omega, by omega, by omega, hd1, hs1, e1⟩
end Go.Proofs.Ytambcnlkdnmekaa
/-! Sorting in place: lengths of numbers, chance, broken patterns. -/
namespace Go.Proofs.Ytambcnlkdnmekaa
open Go SG Go.RowKit Go.Lib
set_option linter.unusedVariables false
set_option maxRecDepth 4000
set_option linter.unusedSimpArgs false

def okTab (s : ByteArray) : Bool := (List.range 256).all fun y => match s[y]? with
  | some c => decide ((y = 0 ∨ 2 ^ c.toNat ≤ 2 * y) ∧ c.toNat ≤ 8)
  | none => false
theorem tabOf {s : ByteArray} (h : okTab s = true) {y : Nat} (h1 : 1 ≤ y) (h2 : y < 256) : ∃ v : Nat, indexStrV (.string s) (.int .u8 (y : Int)) = some (.int .u8 (v : Int)) ∧ 2 ^ v ≤ 2 * y ∧ v ≤ 8 := by
  have := List.all_eq_true.1 h y (by simpa using h2)
  cases hc : s[y]? with
  | none => rw [hc] at this; cases this
  | some c =>
    rw [hc] at this
    have h3 := of_decide_eq_true this
    refine ⟨c.toNat, ?_, by rcases h3.1 with h4 | h4 <;> omega, h3.2⟩
    simp only [indexStrV]
    rw [if_pos (by omega), Int.toNat_natCast, hc]
    rfl
theorem tabOf0 {s : ByteArray} (h : okTab s = true) : ∃ v : Nat, indexStrV (.string s) (.int .u8 0) = some (.int .u8 (v : Int)) ∧ v ≤ 8 := by
  have := List.all_eq_true.1 h 0 (by simp)
  cases hc : s[0]? with
  | none => rw [hc] at this; cases this
  | some c =>
    rw [hc] at this
    have h3 := of_decide_eq_true this
    refine ⟨c.toNat, ?_, h3.2⟩
    simp only [indexStrV]
    rw [if_pos (by omega), show (0 : Int).toNat = 0 from rfl, hc]
    rfl
theorem wu8' {n : Int} (h0 : 0 ≤ n) (h1 : n ≤ 255) : IntKind.u8.wrap n = n := by
  simp only [IntKind.wrap, IntKind.bits, IntKind.signed]
  simp
  omega
theorem shrN (a b : Nat) : (a : Int).fdiv (2 ^ (b : Int).toNat) = ((a / 2 ^ b : Nat) : Int) := by
  rw [Int.fdiv_eq_ediv_of_nonneg _ (by exact_mod_cast Nat.zero_le _)]
  simp

theorem cLenC (x : Nat) (h1 : 1 ≤ x) (h2 : x < 18446744073709551616) {K : Value → World → Prop} {w : World} (hK : ∀ l : Nat, 2 ^ l ≤ 2 * x → K (.int .i64 (l : Int)) w) : CallS Try.prog 84 #[.int .u64 (x : Int)] K w := by
  refine s84_call hm ?_
  unfold s84
  refine join2 (fun p q w' => w = w' ∧ ∃ y n : Nat, p = .int .u64 (y : Int) ∧ q = .int .i64 (n : Int) ∧ 1 ≤ y ∧ y < 4294967296 ∧ n ≤ 32 ∧ 2 ^ n * y ≤ x) ?_ fun J0 hJ0 => ?_
  · rintro _ _ _ ⟨rfl, y, n, rfl, rfl, hy, hlt, hn, hle⟩
    refine join2 (fun p q w' => w = w' ∧ ∃ y n : Nat, p = .int .u64 (y : Int) ∧ q = .int .i64 (n : Int) ∧ 1 ≤ y ∧ y < 65536 ∧ n ≤ 48 ∧ 2 ^ n * y ≤ x) ?_ fun J1 hJ1 => ?_
    · rintro _ _ _ ⟨rfl, y, n, rfl, rfl, hy, hlt, hn, hle⟩
      refine join2 (fun p q w' => w = w' ∧ ∃ y n : Nat, p = .int .u64 (y : Int) ∧ q = .int .i64 (n : Int) ∧ 1 ≤ y ∧ y < 256 ∧ n ≤ 56 ∧ 2 ^ n * y ≤ x) ?_ fun J2 hJ2 => ?_
      · rintro _ _ _ ⟨rfl, y, n, rfl, rfl, hy, hlt, hn, hle⟩
        refine pur ((conv_int _ _ _).trans (by rw [wu8' (by omega) (by omega)])) ?_
        obtain ⟨v, hv, hv1, hv2⟩ := tabOf (s := _) (by kernel_rfl) hy hlt
        refine pur hv (pur ((conv_int _ _ _).trans (by rw [wi64 (by omega) (by omega)])) (pur (add64 (c := ((n + v : Nat) : Int)) (by omega) (by omega) (by omega)) (hK _ ?_)))
        calc 2 ^ (n + v) = 2 ^ n * 2 ^ v := Nat.pow_add _ _ _
          _ ≤ 2 ^ n * (2 * y) := Nat.mul_le_mul_left _ hv1
          _ = 2 * (2 ^ n * y) := by rw [Nat.mul_left_comm]
          _ ≤ 2 * x := Nat.mul_le_mul_left _ hle
      · refine pur (bin_geq _ _ _) (condD (fun h => ?_) (fun h => hJ2 _ _ _ ⟨rfl, y, n, rfl, rfl, hy, by omega, by omega, hle⟩))
        refine pur (bin_shr (by decide) (by decide)) (pur (add64 (c := ((n + 8 : Nat) : Int)) (by omega) (by omega) (by omega)) (hJ2 _ _ _ ⟨rfl, y / 2 ^ 8, n + 8, by rw [← shrN y 8]; rfl, rfl, by omega, by omega, by omega, ?_⟩))
        rw [Nat.pow_add, Nat.mul_assoc]
        exact Nat.le_trans (Nat.mul_le_mul_left _ (Nat.mul_div_le _ _)) hle
    · refine pur (bin_geq _ _ _) (condD (fun h => ?_) (fun h => hJ1 _ _ _ ⟨rfl, y, n, rfl, rfl, hy, by omega, by omega, hle⟩))
      refine pur (bin_shr (by decide) (by decide)) (pur (add64 (c := ((n + 16 : Nat) : Int)) (by omega) (by omega) (by omega)) (hJ1 _ _ _ ⟨rfl, y / 2 ^ 16, n + 16, by rw [← shrN y 16]; rfl, rfl, by omega, by omega, by omega, ?_⟩))
      rw [Nat.pow_add, Nat.mul_assoc]
      exact Nat.le_trans (Nat.mul_le_mul_left _ (Nat.mul_div_le _ _)) hle
  · refine pur (bin_geq _ _ _) (condD (fun h => ?_) (fun h => hJ0 _ _ _ ⟨rfl, x, 0, rfl, rfl, h1, by omega, by omega, by omega⟩))
    refine pur (bin_shr (by decide) (by decide)) (hJ0 _ _ _ ⟨rfl, x / 2 ^ 32, 32, by rw [← shrN x 32]; rfl, rfl, by omega, by omega, by omega, Nat.mul_div_le _ _⟩)

theorem cLen (x : Nat) (h1 : 1 ≤ x) (h2 : x < 18446744073709551616) {K : Value → World → Prop} {w : World} (hK : ∀ l : Nat, 2 ^ l ≤ 2 * x → K (.int .i64 (l : Int)) w) : CallS Try.prog 72 #[.int .u64 (x : Int)] K w := by
  refine s72_call hm ?_
  unfold s72
  exact condB (fun h => by cases h) (fun _ => cLenC x h1 h2 hK)

theorem cNpt (x : Nat) (h1 : 1 ≤ x) (h2 : x ≤ 4611686018427387904) {K : Value → World → Prop} {w : World} (hK : ∀ m : Nat, 1 ≤ m → m ≤ 2 * x → K (.int .u64 (m : Int)) w) : CallS Try.prog 86 #[.int .i64 (x : Int)] K w := by
  refine s86_call hm ?_
  unfold s86
  refine pur ((conv_int _ _ _).trans (by rw [wu64 (by omega) (by omega)])) (cLen x h1 (by omega) fun l hl => ?_)
  have hl2 : l ≤ 64 := by
    refine Nat.le_of_not_lt fun h => ?_
    have : 2 ^ 65 ≤ 2 ^ l := Nat.pow_le_pow_right (by decide) h
    omega
  have hp : 1 ≤ 2 ^ l := Nat.one_le_two_pow
  refine pur ((bin_shl (by omega) (by simp [IntKind.bits]; omega)).trans ?_) (hK (2 ^ l) hp hl)
  rw [Int.one_mul, Int.toNat_natCast, show (2 : Int) ^ l = ((2 ^ l : Nat) : Int) by simp, wu64 (by omega) (by omega)]
theorem andLe (x : Int) (m : Nat) (h : m < 18446744073709551616) : ∃ r : Nat, bits .and .u64 x (m : Int) = (r : Int) ∧ r ≤ m := by
  have h1 : (BitVec.ofInt 64 (m : Int)).toNat = m := by rw [BitVec.ofInt_natCast, BitVec.toNat_ofNat]; exact Nat.mod_eq_of_lt (by omega)
  refine ⟨(BitVec.ofInt 64 x).toNat &&& m, ?_, Nat.and_le_right⟩
  show IntKind.u64.wrap ((BitVec.ofInt 64 x &&& BitVec.ofInt 64 (m : Int)).toNat : Int) = _
  have h2 : (BitVec.ofInt 64 x).toNat &&& m ≤ m := Nat.and_le_right
  rw [BitVec.toNat_and, h1, wu64 (by omega) (by omega)]

theorem cXor {w : World} {gr : Nat} {c : Int} (hs : Blk w gr 114 [.int .u64 c]) {K : Value → World → Prop} (hK : ∀ w' c', Blk w' gr 114 [.int .u64 c'] → Ext (At1 gr) w w' → K (.int .u64 c') w') : CallS Try.prog 87 #[.pointer (some ⟨gr, 0, none⟩)] K w := by
  refine s87_call hm ?_
  unfold s87
  have cl : ∀ {w' : World} {d : Int}, Blk w' gr 114 [.int .u64 d] → w'.cell? ⟨gr, 0, none⟩ = some (.int .u64 d) := fun h => by rw [h.cell]; rfl
  refine draw (fun w' => Blk w' gr 114 [.int .u64 c]) (hs.no (Ext.drew w)) (pur (nil_ptr _) (pur (nil_ptr _) (heldC (fun w' h => cl h) (heldC (fun w' h => cl h) (pur (bin_shl (by decide) (by decide)) (pur (bin_xor _ _ _) (pur (nil_ptr _) (storeB (hs.no (Ext.drew w)) (by simp) rfl fun w1 b1 e1 _ => ?_))))))))
  simp only [List.set_cons_zero] at b1
  obtain ⟨c1, hc1⟩ : ∃ c1 : Int, Blk w1 gr 114 [.int .u64 c1] := ⟨_, b1⟩
  refine draw (fun w' => Blk w' gr 114 [.int .u64 c1]) (hc1.no (Ext.drew w1)) (pur (nil_ptr _) (pur (nil_ptr _) (heldC (fun w' h => cl h) (heldC (fun w' h => cl h) (pur (bin_shr (by decide) (by decide)) (pur (bin_xor _ _ _) (pur (nil_ptr _) (storeB (hc1.no (Ext.drew w1)) (by simp) rfl fun w2 b2 e2 _ => ?_))))))))
  simp only [List.set_cons_zero] at b2
  obtain ⟨c2, hc2⟩ : ∃ c2 : Int, Blk w2 gr 114 [.int .u64 c2] := ⟨_, b2⟩
  refine draw (fun w' => Blk w' gr 114 [.int .u64 c2]) (hc2.no (Ext.drew w2)) (pur (nil_ptr _) (pur (nil_ptr _) (heldC (fun w' h => cl h) (heldC (fun w' h => cl h) (pur (bin_shl (by decide) (by decide)) (pur (bin_xor _ _ _) (pur (nil_ptr _) (storeB (hc2.no (Ext.drew w2)) (by simp) rfl fun w3 b3 e3 _ => ?_))))))))
  simp only [List.set_cons_zero] at b3
  refine pur (nil_ptr _) (loadB b3 rfl (hK w3 _ b3 ?_))
  exact ((Ext.drew w).trans e1).trans (((Ext.drew w1).trans e2).trans ((Ext.drew w2).trans e3))
end Go.Proofs.Ytambcnlkdnmekaa
/-! Sorting in place: broken patterns. -/
namespace Go.Proofs.Ytambcnlkdnmekaa
open Go SG Go.RowKit Go.Lib
set_option linter.unusedVariables false
set_option maxRecDepth 4000
set_option linter.unusedSimpArgs false

set_option maxHeartbeats 400000 in
theorem cBrk {L : Lcn El} (hE : L.enc = encE) {w : World} {xs : List El} (hd : Dt L w xs) {a b : Nat} (hab : a ≤ b) (hb : b ≤ L.n) {K : Value → World → Prop}
    (hK : ∀ w' xs', Dt L w' xs' → Sw a b xs xs' → Ext (At1 L.g) w w' → K (.tuple [].toArray) w') : CallS Try.prog 76 #[L.v, .int .i64 (a : Int), .int .i64 (b : Int)] K w := by
  have hbig := L.big
  have hlen := hd.len
  refine s76_call hm ?_
  unfold s76
  obtain ⟨l, hl⟩ : ∃ l, b - a = l := ⟨_, rfl⟩
  refine pur (sub64 (c := (l : Int)) (by omega) (by omega) (by omega)) (pur (bin_geq _ _ _) (condD (fun h8 => ?_) (fun _ => hK w xs hd .refl (Ext.refl _ _))))
  refine pur ((conv_int _ _ _).trans (by rw [wu64 (by omega) (by omega)])) (box fun w1 b1 e1 z1 => storeB b1 (by simp [Value.cells, Value.oneCell']) rfl fun w2 b2 e2 _ => ?_)
  have hs2 : Blk w2 w.heap.size 114 [.int .u64 (l : Int)] := b2
  have hg : w.heap.size ≠ L.g := by have := hd.blk.lt; omega
  have hd2 : Dt L w2 xs := (hd.no e1).ext e2 (at1_off (Ne.symm hg))
  have e02 : Ext No w w2 := e1.fresh e2 fun b hb => .inr (by rw [show b = w.heap.size from hb]; exact Nat.le_refl _)
  have hz2 : w.heap.size < w2.heap.size := hs2.lt
  refine cNpt l (by omega) (by omega) fun m hm1 hm2 => ?_
  have hq : l / 4 * 4 ≤ l := Nat.div_mul_le_self l 4
  have hq2 : 2 ≤ l / 4 := by omega
  refine pur (quoN l 4 (by decide) (by omega)) (pur (mulN (l / 4) 2 (by omega)) (pur (add64 (c := ((a + l / 4 * 2 : Nat) : Int)) (by omega) (by omega) (by omega)) (pur (sub64 (c := ((a + l / 4 * 2 - 1 : Nat) : Int)) (by omega) (by omega) (by omega)) ?_)))
  refine loop1 (fun (i : Nat) v w' => v = .int .i64 (i : Int) ∧ a ≤ i ∧ ∃ (c : Int) (ys : List El), Dt L w' ys ∧ Sw a b xs ys ∧ Blk w' w.heap.size 114 [.int .u64 c] ∧ Ext (At1 L.g) w w') (fun i => b - i) (a + l / 4 * 2 - 1) ⟨rfl, by omega, _, xs, hd2, .refl, hs2, e02.no⟩ fun i v w3 hi J hJ => ?_
  obtain ⟨rfl, hai, c, ys, hd3, hsw, hs3, e3⟩ := hi
  have hly := hd3.len
  refine pur (quoN l 4 (by decide) (by omega)) (pur (mulN (l / 4) 2 (by omega)) (pur (add64 (c := ((a + l / 4 * 2 : Nat) : Int)) (by omega) (by omega) (by omega)) (pur (add64 (c := ((a + l / 4 * 2 + 1 : Nat) : Int)) (by omega) (by omega) (by omega)) (pur (bin_leq _ _ _) (condD (fun hle => ?_) (fun _ => hK w3 ys hd3 hsw e3))))))
  have hib : i < b := by omega
  refine cXor hs3 fun w4 c4 hs4 e4 => ?_
  have hd4 : Dt L w4 ys := hd3.ext e4 (at1_off (Ne.symm hg))
  have e04 : Ext (At1 L.g) w w4 := e3.fresh e4 fun b hb => .inr (by rw [show b = w.heap.size from hb]; exact Nat.le_refl _)
  obtain ⟨r, hr, hrm⟩ := andLe c4 (m - 1) (by omega)
  refine pur ((bin_sub _ _ _).trans (by rw [show ((m : Int) - 1) = ((m - 1 : Nat) : Int) by omega, wu64 (by omega) (by omega)])) (pur ((bin_and _ _ _).trans (by rw [hr])) (pur ((conv_int _ _ _).trans (by rw [wi64 (by omega) (by omega)])) ?_))
  refine join1 (fun v w' => w4 = w' ∧ ∃ o : Nat, v = .int .i64 (o : Int) ∧ o < l) ?_ fun J1 hJ1 => ?_
  · rintro _ _ ⟨rfl, o, rfl, ho⟩
    obtain ⟨u, hu⟩ := getN (xs := ys) (i := i) (by omega)
    obtain ⟨v, hv⟩ := getN (xs := ys) (i := a + o) (by omega)
    refine draw (fun w' => Dt L w' ys) hd4.drew ?_
    refine pur (add64 (c := ((a + o : Nat) : Int)) (by omega) (by omega) (by omega)) (pur (add64 (c := ((a + o : Nat) : Int)) (by omega) (by omega) (by omega)) (pur (hd.idx (by omega)) (pur (hd.idx (by omega)) (heldC (fun w' h => h.cell hv) (heldC (fun w' h => h.cell hu) ?_)))))
    refine hd4.drew.swap hu hv fun w5 hd5 e5 => ?_
    refine pur (add64 (c := ((i + 1 : Nat) : Int)) (by omega) (by omega) (by omega)) (hJ (i + 1) _ _ ⟨rfl, by omega, c4, _, hd5, .step i (a + o) hai hib (by omega) (by omega) (by omega) hsw, (hs4.no (Ext.drew w4)).ext e5 (at1_off hg), e04.trans ((Ext.drew w4).trans e5)⟩ (by omega))
  · refine pur (bin_geq _ _ _) (condD (fun h => ?_) (fun h => hJ1 _ _ ⟨rfl, r, rfl, by omega⟩))
    exact pur (sub64 (c := ((r - l : Nat) : Int)) (by omega) (by omega) (by omega)) (hJ1 _ _ ⟨rfl, r - l, rfl, by omega⟩)
end Go.Proofs.Ytambcnlkdnmekaa
/-! Sorting in place: scans. -/
namespace Go.Proofs.Ytambcnlkdnmekaa
open Go SG Go.RowKit Go.Lib
set_option linter.unusedVariables false
set_option maxRecDepth 4000
set_option linter.unusedSimpArgs false

/-- up from i to j, while the element is below the one at a -/
theorem scUp {L : Lcn El} (hE : L.enc = encE) {w : World} {xs : List El} (hd : Dt L w xs) {a i j : Nat} {pv : El} (hpv : xs[a]? = some pv) (hij : i ≤ j + 1) (hj : j < L.n) {J : Value → World → Prop}
    (hK : ∀ (i' : Nat) w', Dt L w' xs → Ext No w w' → i ≤ i' → i' ≤ j + 1 → (∀ k u, i ≤ k → k < i' → xs[k]? = some u → ltE u pv = true) → (i' ≤ j → ∃ u, xs[i']? = some u ∧ ltE u pv = false) → J (.int .i64 (i' : Int)) w') :
    LoopS 1 (fun L0 (x : Value) (w : World) => JoinS (fun (t : Value) (w : World) => CondS t (PureS (binV .add x (.int .i64 1)) fun t => L0 t w) (J x w)) fun JJ =>
      DrawS fun S => S w.drew ∧ (PureS (binV .leq x (.int .i64 (j : Int))) fun t => CondS t (PureS (indexAddrV 1 L.v x) fun p => PureS (indexAddrV 1 L.v (.int .i64 (a : Int))) fun q => HeldC S p (fun u => HeldC S q (fun v =>
        CallS Try.prog 80 [u, v].toArray (fun t w => PureS (pickV (.bool true) t (.bool false)) fun t => JJ t w) w.drew))) (PureS (pickV (.bool false) undef (.bool false)) fun t => JJ t w.drew))) (.int .i64 (i : Int)) w := by
  have hbig := L.big
  have ha := (List.getElem?_eq_some_iff.1 hpv).1
  have hlen := hd.len
  refine loop1 (fun (i' : Nat) v w' => v = .int .i64 (i' : Int) ∧ i ≤ i' ∧ i' ≤ j + 1 ∧ Dt L w' xs ∧ Ext No w w' ∧ ∀ k u, i ≤ k → k < i' → xs[k]? = some u → ltE u pv = true) (fun i' => j + 1 - i') i ⟨rfl, Nat.le_refl _, hij, hd, Ext.refl _ _, fun k u h1 h2 => by omega⟩ fun i' v w1 hi L1 hL => ?_
  obtain ⟨rfl, h1, h2, hd1, e1, hall⟩ := hi
  refine join1 (fun t w' => w' = w1.drew ∧ ∃ c : Bool, t = .bool c ∧ (c = true → i' ≤ j ∧ ∃ u, xs[i']? = some u ∧ ltE u pv = true) ∧ (c = false → i' ≤ j → ∃ u, xs[i']? = some u ∧ ltE u pv = false)) ?_ fun JJ hJJ => ?_
  · rintro _ _ ⟨rfl, c, rfl, hc1, hc2⟩
    refine condB (fun h => ?_) (fun h => hK i' _ hd1.drew (e1.trans (Ext.drew w1)) h1 h2 hall (hc2 h))
    obtain ⟨hle, u, hu, hlt⟩ := hc1 h
    refine pur (add64 (c := ((i' + 1 : Nat) : Int)) (by omega) (by omega) (by omega)) (hL (i' + 1) _ _ ⟨rfl, by omega, by omega, hd1.drew, e1.trans (Ext.drew w1), fun k v hk1 hk2 hv => ?_⟩ (by omega))
    by_cases hk : k = i'
    · subst hk; rw [hu] at hv; cases hv; exact hlt
    · exact hall k v hk1 (by omega) hv
  · refine draw (fun w' => Dt L w' xs) hd1.drew (pur (bin_leq _ _ _) (condD (fun h => ?_) (fun h => ?_)))
    · obtain ⟨u, hu⟩ := getN (xs := xs) (i := i') (by omega)
      refine pur (hd.idx (by omega)) (pur (hd.idx (by omega)) (heldC (fun w' h => h.cell hu) (heldC (fun w' h => h.cell hpv) ?_)))
      rw [hE]
      refine cless (pur (pick_b _ _ _) (hJJ _ _ ⟨rfl, ltE u pv, by cases ltE u pv <;> rfl, fun h' => ⟨by omega, u, hu, h'⟩, fun h' _ => ⟨u, hu, h'⟩⟩))
    · refine pur (pick_b _ _ _) (hJJ _ _ ⟨rfl, false, by simp, fun h' => (by cases h'), fun _ h' => by omega⟩)
/-- up from i to j, while the element is not above the one at a -/
theorem scUpN {L : Lcn El} (hE : L.enc = encE) {w : World} {xs : List El} (hd : Dt L w xs) {a i j : Nat} {pv : El} (hpv : xs[a]? = some pv) (hij : i ≤ j + 1) (hj : j < L.n) {J : Value → World → Prop}
    (hK : ∀ (i' : Nat) w', Dt L w' xs → Ext No w w' → i ≤ i' → i' ≤ j + 1 → (∀ k u, i ≤ k → k < i' → xs[k]? = some u → ltE pv u = false) → (i' ≤ j → ∃ u, xs[i']? = some u ∧ ltE pv u = true) → J (.int .i64 (i' : Int)) w') :
    LoopS 1 (fun L0 (x : Value) (w : World) => JoinS (fun (t : Value) (w : World) => CondS t (PureS (binV .add x (.int .i64 1)) fun t => L0 t w) (J x w)) fun JJ =>
      DrawS fun S => S w.drew ∧ (PureS (binV .leq x (.int .i64 (j : Int))) fun t => CondS t (PureS (indexAddrV 1 L.v (.int .i64 (a : Int))) fun p => PureS (indexAddrV 1 L.v x) fun q => HeldC S p (fun u => HeldC S q (fun v =>
        CallS Try.prog 80 [u, v].toArray (fun t w => PureS (notV t) fun t => PureS (pickV (.bool true) t (.bool false)) fun t => JJ t w) w.drew))) (PureS (pickV (.bool false) undef (.bool false)) fun t => JJ t w.drew))) (.int .i64 (i : Int)) w := by
  have hbig := L.big
  have ha := (List.getElem?_eq_some_iff.1 hpv).1
  have hlen := hd.len
  refine loop1 (fun (i' : Nat) v w' => v = .int .i64 (i' : Int) ∧ i ≤ i' ∧ i' ≤ j + 1 ∧ Dt L w' xs ∧ Ext No w w' ∧ ∀ k u, i ≤ k → k < i' → xs[k]? = some u → ltE pv u = false) (fun i' => j + 1 - i') i ⟨rfl, Nat.le_refl _, hij, hd, Ext.refl _ _, fun k u h1 h2 => by omega⟩ fun i' v w1 hi L1 hL => ?_
  obtain ⟨rfl, h1, h2, hd1, e1, hall⟩ := hi
  refine join1 (fun t w' => w' = w1.drew ∧ ∃ c : Bool, t = .bool c ∧ (c = true → i' ≤ j ∧ ∃ u, xs[i']? = some u ∧ ltE pv u = false) ∧ (c = false → i' ≤ j → ∃ u, xs[i']? = some u ∧ ltE pv u = true)) ?_ fun JJ hJJ => ?_
  · rintro _ _ ⟨rfl, c, rfl, hc1, hc2⟩
    refine condB (fun h => ?_) (fun h => hK i' _ hd1.drew (e1.trans (Ext.drew w1)) h1 h2 hall (hc2 h))
    obtain ⟨hle, u, hu, hlt⟩ := hc1 h
    refine pur (add64 (c := ((i' + 1 : Nat) : Int)) (by omega) (by omega) (by omega)) (hL (i' + 1) _ _ ⟨rfl, by omega, by omega, hd1.drew, e1.trans (Ext.drew w1), fun k v hk1 hk2 hv => ?_⟩ (by omega))
    by_cases hk : k = i'
    · subst hk; rw [hu] at hv; cases hv; exact hlt
    · exact hall k v hk1 (by omega) hv
  · refine draw (fun w' => Dt L w' xs) hd1.drew (pur (bin_leq _ _ _) (condD (fun h => ?_) (fun h => ?_)))
    · obtain ⟨u, hu⟩ := getN (xs := xs) (i := i') (by omega)
      refine pur (hd.idx (by omega)) (pur (hd.idx (by omega)) (heldC (fun w' h => h.cell hpv) (heldC (fun w' h => h.cell hu) ?_)))
      rw [hE]
      refine cless (pur (not_b _) (pur (pick_b _ _ _) (hJJ _ _ ⟨rfl, !ltE pv u, by cases ltE pv u <;> rfl, fun h' => ⟨by omega, u, hu, by simpa using h'⟩, fun h' _ => ⟨u, hu, by simpa using h'⟩⟩)))
    · refine pur (pick_b _ _ _) (hJJ _ _ ⟨rfl, false, by simp, fun h' => (by cases h'), fun _ h' => by omega⟩)
/-- down from j to i, while the element is not below the one at a -/
theorem scDnN {L : Lcn El} (hE : L.enc = encE) {w : World} {xs : List El} (hd : Dt L w xs) {a i j : Nat} {pv : El} (hpv : xs[a]? = some pv) (h1i : 1 ≤ i) (hij : i ≤ j + 1) (hj : j < L.n) {J : Value → World → Prop}
    (hK : ∀ (j' : Nat) w', Dt L w' xs → Ext No w w' → i ≤ j' + 1 → j' ≤ j → (∀ k u, j' < k → k ≤ j → xs[k]? = some u → ltE u pv = false) → (i ≤ j' → ∃ u, xs[j']? = some u ∧ ltE u pv = true) → J (.int .i64 (j' : Int)) w') :
    LoopS 1 (fun L0 (x : Value) (w : World) => JoinS (fun (t : Value) (w : World) => CondS t (PureS (binV .sub x (.int .i64 1)) fun t => L0 t w) (J x w)) fun JJ =>
      DrawS fun S => S w.drew ∧ (PureS (binV .leq (.int .i64 (i : Int)) x) fun t => CondS t (PureS (indexAddrV 1 L.v x) fun p => PureS (indexAddrV 1 L.v (.int .i64 (a : Int))) fun q =>  HeldC S p (fun u => HeldC S q (fun v =>
        CallS Try.prog 80 [u, v].toArray (fun t w => PureS (notV t) fun t => PureS (pickV (.bool true) t (.bool false)) fun t => JJ t w) w.drew))) (PureS (pickV (.bool false) undef (.bool false)) fun t => JJ t w.drew))) (.int .i64 (j : Int)) w := by
  have hbig := L.big
  have ha := (List.getElem?_eq_some_iff.1 hpv).1
  have hlen := hd.len
  refine loop1 (fun (j' : Nat) v w' => v = .int .i64 (j' : Int) ∧ i ≤ j' + 1 ∧ j' ≤ j ∧ Dt L w' xs ∧ Ext No w w' ∧ ∀ k u, j' < k → k ≤ j → xs[k]? = some u → ltE u pv = false) (fun j' => j') j ⟨rfl, hij, Nat.le_refl _, hd, Ext.refl _ _, fun k u h1 h2 => by omega⟩ fun j' v w1 hi L1 hL => ?_
  obtain ⟨rfl, h1, h2, hd1, e1, hall⟩ := hi
  refine join1 (fun t w' => w' = w1.drew ∧ ∃ c : Bool, t = .bool c ∧ (c = true → i ≤ j' ∧ ∃ u, xs[j']? = some u ∧ ltE u pv = false) ∧ (c = false → i ≤ j' → ∃ u, xs[j']? = some u ∧ ltE u pv = true)) ?_ fun JJ hJJ => ?_
  · rintro _ _ ⟨rfl, c, rfl, hc1, hc2⟩
    refine condB (fun h => ?_) (fun h => hK j' _ hd1.drew (e1.trans (Ext.drew w1)) h1 h2 hall (hc2 h))
    obtain ⟨hle, u, hu, hlt⟩ := hc1 h
    refine pur (sub64 (c := ((j' - 1 : Nat) : Int)) (by omega) (by omega) (by omega)) (hL (j' - 1) _ _ ⟨rfl, by omega, by omega, hd1.drew, e1.trans (Ext.drew w1), fun k v hk1 hk2 hv => ?_⟩ (by omega))
    by_cases hk : k = j'
    · subst hk; rw [hu] at hv; cases hv; exact hlt
    · exact hall k v (by omega) hk2 hv
  · refine draw (fun w' => Dt L w' xs) hd1.drew (pur (bin_leq _ _ _) (condD (fun h => ?_) (fun h => ?_)))
    · obtain ⟨u, hu⟩ := getN (xs := xs) (i := j') (by omega)
      refine pur (hd.idx (by omega)) (pur (hd.idx (by omega)) (heldC (fun w' h => h.cell hu) (heldC (fun w' h => h.cell hpv) ?_)))
      rw [hE]
      refine cless (pur (not_b _) (pur (pick_b _ _ _) (hJJ _ _ ⟨rfl, !ltE u pv, by cases ltE u pv <;> rfl, fun h' => ⟨by omega, u, hu, by simpa using h'⟩, fun h' _ => ⟨u, hu, by simpa using h'⟩⟩)))
    · refine pur (pick_b _ _ _) (hJJ _ _ ⟨rfl, false, by simp, fun h' => (by cases h'), fun _ h' => by omega⟩)
/-- down from j to i, while the element is above the one at a -/
theorem scDn {L : Lcn El} (hE : L.enc = encE) {w : World} {xs : List El} (hd : Dt L w xs) {a i j : Nat} {pv : El} (hpv : xs[a]? = some pv) (h1i : 1 ≤ i) (hij : i ≤ j + 1) (hj : j < L.n) {J : Value → World → Prop}
    (hK : ∀ (j' : Nat) w', Dt L w' xs → Ext No w w' → i ≤ j' + 1 → j' ≤ j → (∀ k u, j' < k → k ≤ j → xs[k]? = some u → ltE pv u = true) → (i ≤ j' → ∃ u, xs[j']? = some u ∧ ltE pv u = false) → J (.int .i64 (j' : Int)) w') :
    LoopS 1 (fun L0 (x : Value) (w : World) => JoinS (fun (t : Value) (w : World) => CondS t (PureS (binV .sub x (.int .i64 1)) fun t => L0 t w) (J x w)) fun JJ =>
      DrawS fun S => S w.drew ∧ (PureS (binV .leq (.int .i64 (i : Int)) x) fun t => CondS t (PureS (indexAddrV 1 L.v (.int .i64 (a : Int))) fun p => PureS (indexAddrV 1 L.v x) fun q =>  HeldC S p (fun u => HeldC S q (fun v =>
        CallS Try.prog 80 [u, v].toArray (fun t w => PureS (pickV (.bool true) t (.bool false)) fun t => JJ t w) w.drew))) (PureS (pickV (.bool false) undef (.bool false)) fun t => JJ t w.drew))) (.int .i64 (j : Int)) w := by
  have hbig := L.big
  have ha := (List.getElem?_eq_some_iff.1 hpv).1
  have hlen := hd.len
  refine loop1 (fun (j' : Nat) v w' => v = .int .i64 (j' : Int) ∧ i ≤ j' + 1 ∧ j' ≤ j ∧ Dt L w' xs ∧ Ext No w w' ∧ ∀ k u, j' < k → k ≤ j → xs[k]? = some u → ltE pv u = true) (fun j' => j') j ⟨rfl, hij, Nat.le_refl _, hd, Ext.refl _ _, fun k u h1 h2 => by omega⟩ fun j' v w1 hi L1 hL => ?_
  obtain ⟨rfl, h1, h2, hd1, e1, hall⟩ := hi
  refine join1 (fun t w' => w' = w1.drew ∧ ∃ c : Bool, t = .bool c ∧ (c = true → i ≤ j' ∧ ∃ u, xs[j']? = some u ∧ ltE pv u = true) ∧ (c = false → i ≤ j' → ∃ u, xs[j']? = some u ∧ ltE pv u = false)) ?_ fun JJ hJJ => ?_
  · rintro _ _ ⟨rfl, c, rfl, hc1, hc2⟩
    refine condB (fun h => ?_) (fun h => hK j' _ hd1.drew (e1.trans (Ext.drew w1)) h1 h2 hall (hc2 h))
    obtain ⟨hle, u, hu, hlt⟩ := hc1 h
    refine pur (sub64 (c := ((j' - 1 : Nat) : Int)) (by omega) (by omega) (by omega)) (hL (j' - 1) _ _ ⟨rfl, by omega, by omega, hd1.drew, e1.trans (Ext.drew w1), fun k v hk1 hk2 hv => ?_⟩ (by omega))
    by_cases hk : k = j'
    · subst hk; rw [hu] at hv; cases hv; exact hlt
    · exact hall k v (by omega) hk2 hv
  · refine draw (fun w' => Dt L w' xs) hd1.drew (pur (bin_leq _ _ _) (condD (fun h => ?_) (fun h => ?_)))
    · obtain ⟨u, hu⟩ := getN (xs := xs) (i := j') (by omega)
      refine pur (hd.idx (by omega)) (pur (hd.idx (by omega)) (heldC (fun w' h => h.cell hpv) (heldC (fun w' h => h.cell hu) ?_)))
      rw [hE]
      refine cless (pur (pick_b _ _ _) (hJJ _ _ ⟨rfl, ltE pv u, by cases ltE pv u <;> rfl, fun h' => ⟨by omega, u, hu, h'⟩, fun h' _ => ⟨u, hu, h'⟩⟩))
    · refine pur (pick_b _ _ _) (hJJ _ _ ⟨rfl, false, by simp, fun h' => (by cases h'), fun _ h' => by omega⟩)
end Go.Proofs.Ytambcnlkdnmekaa
/-! Sorting in place: partition about a pivot. -/
namespace Go.Proofs.Ytambcnlkdnmekaa
open Go SG Go.RowKit Go.Lib
set_option linter.unusedVariables false
set_option maxRecDepth 4000
set_option linter.unusedSimpArgs false

theorem cSwp {L : Lcn El} {w : World} {xs : List El} (hd : Dt L w xs) {i j : Nat} (hi : i < L.n) (hj : j < L.n) {K : World → Prop} (hK : ∀ w', Dt L w' (swp xs i j) → Ext (At1 L.g) w w' → K w') :
    DrawS fun S => S w.drew ∧ (PureS (indexAddrV 1 L.v (.int .i64 (j : Int))) fun p => PureS (indexAddrV 1 L.v (.int .i64 (i : Int))) fun q => HeldC S p (fun v => HeldC S q (fun u =>
      PureS (indexAddrV 1 L.v (.int .i64 (i : Int))) fun t => StoreC t v (fun w => PureS (indexAddrV 1 L.v (.int .i64 (j : Int))) fun t => StoreC t u (fun w => K w) w) w.drew))) := by
  have hlen := hd.len
  obtain ⟨u, hu⟩ := getN (xs := xs) (i := i) (by omega)
  obtain ⟨v, hv⟩ := getN (xs := xs) (i := j) (by omega)
  refine draw (fun w' => Dt L w' xs) hd.drew (pur (hd.idx hj) (pur (hd.idx hi) (heldC (fun w' h => h.cell hv) (heldC (fun w' h => h.cell hu) ?_))))
  exact hd.drew.swap hu hv fun w' h e => hK w' h ((Ext.drew w).trans e)

/-- the state of a partition: below, not yet seen, not below -/
structure PrtI (a b : Nat) (xs : List El) (pv : El) (i j : Nat) (zs : List El) : Prop where
  sw : Sw a b xs zs
  at_ : zs[a]? = some pv
  lo : ∀ k u, a < k → k < i → zs[k]? = some u → ltE u pv = true
  hi : ∀ k u, j < k → k < b → zs[k]? = some u → ltE u pv = false
  ai : a < i
  ij : i ≤ j + 1
  jb : j < b
theorem PrtI.scan {a b i j i' j' : Nat} {xs zs : List El} {pv : El} (h : PrtI a b xs pv i j zs) (h1 : i ≤ i') (h2 : i' ≤ j' + 1) (h3 : j' ≤ j) (hu : ∀ k u, i ≤ k → k < i' → zs[k]? = some u → ltE u pv = true) (hd : ∀ k u, j' < k → k ≤ j → zs[k]? = some u → ltE u pv = false) : PrtI a b xs pv i' j' zs :=
  ⟨h.sw, h.at_, fun k u k1 k2 hk => by by_cases hc : k < i; exact h.lo k u k1 hc hk; exact hu k u (by omega) k2 hk, fun k u k1 k2 hk => by by_cases hc : j < k; exact h.hi k u hc k2 hk; exact hd k u k1 (by omega) hk, by have := h.ai; omega, h2, by have := h.jb; omega⟩
theorem PrtI.swap {a b i j : Nat} {xs zs : List El} {pv u v : El} (h : PrtI a b xs pv i j zs) (hb : b ≤ xs.length) (hij : i ≤ j) (hu : zs[i]? = some u) (hv : zs[j]? = some v) (hu' : ltE u pv = false) (hv' : ltE v pv = true) : PrtI a b xs pv (i + 1) (j - 1) (swp zs i j) := by
  have hl := h.sw.len
  have h1 := h.ai; have h2 := h.jb
  have hne : i ≠ j := by rintro rfl; rw [hu] at hv; cases hv; rw [hu'] at hv'; cases hv'
  refine ⟨.step i j (by omega) (by omega) (by omega) (by omega) hb h.sw, ?_, ?_, ?_, by omega, by omega, by omega⟩
  · rw [swp_get (by omega) (by omega), if_neg (by omega), if_neg (by omega)]; exact h.at_
  · intro k x k1 k2 hk
    rw [swp_get (by omega) (by omega), if_neg (by omega)] at hk
    split at hk
    · rw [hv] at hk; cases hk; exact hv'
    · exact h.lo k x k1 (by omega) hk
  · intro k x k1 k2 hk
    rw [swp_get (by omega) (by omega)] at hk
    split at hk
    · rw [hu] at hk; cases hk; exact hu'
    · rw [if_neg (by omega)] at hk; exact h.hi k x (by omega) k2 hk
/-- parted at m -/
structure Prt (a b : Nat) (xs : List El) (m : Nat) (zs : List El) : Prop where
  sw : Sw a b xs zs
  am : a ≤ m
  mb : m < b
  at_ : ∃ pv, zs[m]? = some pv ∧ (∀ k u, a ≤ k → k < m → zs[k]? = some u → ltE u pv = true) ∧ (∀ k u, m < k → k < b → zs[k]? = some u → ltE u pv = false)
theorem PrtI.done {a b i j : Nat} {xs zs : List El} {pv : El} (h : PrtI a b xs pv i j zs) (hb : b ≤ xs.length) (hij : j < i) : Prt a b xs j (swp zs j a) := by
  have hl := h.sw.len
  have h1 := h.ai; have h2 := h.jb; have h3 := h.ij
  refine ⟨.step j a (by omega) (by omega) (by omega) (by omega) hb h.sw, by omega, by omega, pv, ?_, ?_, ?_⟩
  · rw [swp_get (by omega) (by omega)]
    split
    · rename_i hja; subst hja; exact h.at_
    · rw [if_pos rfl]; exact h.at_
  · intro k u k1 k2 hk
    rw [swp_get (by omega) (by omega)] at hk
    split at hk
    · exact h.lo j u (by omega) (by omega) hk
    · rw [if_neg (by omega)] at hk; exact h.lo k u (by omega) (by omega) hk
  · intro k u k1 k2 hk
    rw [swp_get (by omega) (by omega), if_neg (by omega), if_neg (by omega)] at hk
    exact h.hi k u k1 k2 hk

set_option maxHeartbeats 400000 in
theorem cPart {L : Lcn El} (hE : L.enc = encE) {w : World} {xs : List El} (hd : Dt L w xs) {a b p : Nat} (hap : a ≤ p) (hpb : p < b) (hb : b ≤ L.n) {K : Value → World → Prop}
    (hK : ∀ w' xs' (m : Nat) (c : Bool), Dt L w' xs' → Prt a b xs m xs' → Ext (At1 L.g) w w' → K (.tuple [.int .i64 (m : Int), .bool c].toArray) w') : CallS Try.prog 82 #[L.v, .int .i64 (a : Int), .int .i64 (b : Int), .int .i64 (p : Int)] K w := by
  have hbig := L.big
  have hlen := hd.len
  refine s82_call hm ?_
  unfold s82
  refine cSwp hd (by omega) (by omega) fun w1 hd1 e1 => ?_
  obtain ⟨pv, hpv⟩ := getN (xs := swp xs a p) (i := a) (by rw [swp_length]; omega)
  have h0 : PrtI a b xs pv (a + 1) (b - 1) (swp xs a p) := ⟨.one (Nat.le_refl _) (by omega) hap hpb (by omega), hpv, fun k u h1 h2 => by omega, fun k u h1 h2 => by omega, by omega, by omega, by omega⟩
  refine pur (add64 (c := ((a + 1 : Nat) : Int)) (by omega) (by omega) (by omega)) (pur (sub64 (c := ((b - 1 : Nat) : Int)) (by omega) (by omega) (by omega)) ?_)
  have hend : ∀ (i j : Nat) zs w' (c : Bool) {KK : World → Prop}, Dt L w' zs → PrtI a b xs pv i j zs → Ext (At1 L.g) w w' → j < i → (∀ w2 xs2, Dt L w2 xs2 → Prt a b xs j xs2 → Ext (At1 L.g) w w2 → KK w2) → _ := fun i j zs w' c KK hd' hP he hij hKK =>
    cSwp (K := KK) hd' (i := j) (j := a) (by have := hP.jb; omega) (by omega) fun w2 hd2 e2 => hKK w2 _ hd2 (hP.done (by omega) hij) (he.trans e2)
  refine join1 (fun v w' => ∃ i : Nat, v = .int .i64 (i : Int) ∧ Dt L w' (swp xs a p) ∧ PrtI a b xs pv i (b - 1) (swp xs a p) ∧ Ext (At1 L.g) w w' ∧ (i ≤ b - 1 → ∃ u, (swp xs a p)[i]? = some u ∧ ltE u pv = false)) ?_ fun J1 hJ1 => ?_
  · rintro _ w2 ⟨i, rfl, hd2, hP, e2, hst⟩
    refine join1 (fun v w' => ∃ j : Nat, v = .int .i64 (j : Int) ∧ Dt L w' (swp xs a p) ∧ PrtI a b xs pv i j (swp xs a p) ∧ Ext (At1 L.g) w w' ∧ (i ≤ j → ∃ u, (swp xs a p)[j]? = some u ∧ ltE u pv = true)) ?_ fun J2 hJ2 => ?_
    · rintro _ w3 ⟨j, rfl, hd3, hP3, e3, hst3⟩
      refine pur (bin_gtr _ _ _) (condD (fun h => ?_) (fun h => ?_))
      · exact hend i j _ w3 true hd3 hP3 e3 (by omega) fun w4 xs4 hd4 hp4 e4 => hK w4 xs4 j true hd4 hp4 e4
      · have hij : i ≤ j := by omega
        have hjb := hP3.jb; have hai := hP3.ai
        obtain ⟨u, hu, hu'⟩ := hst (by omega)
        obtain ⟨v, hv, hv'⟩ := hst3 hij
        refine cSwp hd3 (i := i) (j := j) (by omega) (by omega) fun w4 hd4 e4 => ?_
        have hP4 := hP3.swap (by omega) hij hu hv hu' hv'
        refine pur (add64 (c := ((i + 1 : Nat) : Int)) (by omega) (by omega) (by omega)) (pur (sub64 (c := ((j - 1 : Nat) : Int)) (by omega) (by omega) (by omega)) ?_)
        refine join1 (fun v w' => ∃ (i j : Nat) (zs : List El), v = .int .i64 (j : Int) ∧ Dt L w' zs ∧ PrtI a b xs pv i j zs ∧ Ext (At1 L.g) w w' ∧ j < i) ?_ fun J5 hJ5 => ?_
        · rintro _ w5 ⟨i5, j5, zs5, rfl, hd5, hP5, e5, hij5⟩
          exact hend i5 j5 _ w5 false hd5 hP5 e5 hij5 fun w4 xs4 hd4 hp4 e4 => hK w4 xs4 j5 false hd4 hp4 e4
        · refine loop2 (fun (s : Nat × Nat) x y w' => x = .int .i64 (s.1 : Int) ∧ y = .int .i64 (s.2 : Int) ∧ ∃ zs, Dt L w' zs ∧ PrtI a b xs pv s.1 s.2 zs ∧ Ext (At1 L.g) w w') (fun s => s.2 + 1 - s.1) (i + 1, j - 1) ⟨rfl, rfl, _, hd4, hP4, e3.trans e4⟩ fun s x y w5 hi L5 hL5 => ?_
          obtain ⟨i5, j5⟩ := s
          obtain ⟨rfl, rfl, zs, hd5, hP5, e5⟩ := hi
          have hai5 := hP5.ai; have hjb5 := hP5.jb; have hij5 := hP5.ij
          simp only at hd5 hP5 hai5 hjb5 hij5 ⊢
          refine join1 (fun v w' => ∃ i' : Nat, v = .int .i64 (i' : Int) ∧ Dt L w' zs ∧ PrtI a b xs pv i' j5 zs ∧ i5 ≤ i' ∧ Ext (At1 L.g) w w' ∧ (i' ≤ j5 → ∃ u, zs[i']? = some u ∧ ltE u pv = false)) ?_ fun J8 hJ8 => ?_
          · rintro _ w6 ⟨i6, rfl, hd6, hP6, hi6, e6, hst6⟩
            have hai6 := hP6.ai; have hij6 := hP6.ij
            refine join1 (fun v w' => ∃ j' : Nat, v = .int .i64 (j' : Int) ∧ Dt L w' zs ∧ PrtI a b xs pv i6 j' zs ∧ j' ≤ j5 ∧ Ext (At1 L.g) w w' ∧ (i6 ≤ j' → ∃ u, zs[j']? = some u ∧ ltE u pv = true)) ?_ fun J9 hJ9 => ?_
            · rintro _ w7 ⟨j7, rfl, hd7, hP7, hj7, e7, hst7⟩
              refine pur (bin_gtr _ _ _) (condD (fun h => hJ5 _ _ ⟨i6, j7, zs, rfl, hd7, hP7, e7, by omega⟩) (fun h => ?_))
              have hij7 : i6 ≤ j7 := by omega
              obtain ⟨u, hu, hu'⟩ := hst6 (by omega)
              obtain ⟨v, hv, hv'⟩ := hst7 hij7
              refine cSwp hd7 (i := i6) (j := j7) (by omega) (by omega) fun w8 hd8 e8 => ?_
              have hP8 := hP7.swap (by omega) hij7 hu hv hu' hv'
              exact pur (add64 (c := ((i6 + 1 : Nat) : Int)) (by omega) (by omega) (by omega)) (pur (sub64 (c := ((j7 - 1 : Nat) : Int)) (by omega) (by omega) (by omega)) (hL5 (i6 + 1, j7 - 1) _ _ _ ⟨rfl, rfl, _, hd8, hP8, e7.trans e8⟩ (by simp only; omega)))
            · exact scDnN hE hd6 hP6.at_ (by omega) hij6 (by omega) fun j' w7 hd7 e7 k1 k2 hall hst => hJ9 _ _ ⟨j', rfl, hd7, hP6.scan (Nat.le_refl _) k1 k2 (fun k u k1 k2 => by omega) hall, k2, e6.trans e7.no, hst⟩
          · exact scUp hE hd5 hP5.at_ hij5 (by omega) fun i' w6 hd6 e6 k1 k2 hall hst => hJ8 _ _ ⟨i', rfl, hd6, hP5.scan k1 k2 (Nat.le_refl _) hall (fun k u k1 k2 => by omega), k1, e5.trans e6.no, hst⟩
    · exact scDnN hE hd2 hP.at_ (by have := hP.ai; omega) hP.ij (by omega) fun j' w7 hd7 e7 k1 k2 hall hst => hJ2 _ _ ⟨j', rfl, hd7, hP.scan (Nat.le_refl _) k1 k2 (fun k u k1 k2 => by omega) hall, e2.trans e7.no, hst⟩
  · exact scUp hE hd1 hpv (by omega) (by omega) fun i' w6 hd6 e6 k1 k2 hall hst => hJ1 _ _ ⟨i', rfl, hd6, h0.scan k1 k2 (Nat.le_refl _) hall (fun k u k1 k2 => by omega), e1.trans e6.no, hst⟩
end Go.Proofs.Ytambcnlkdnmekaa
