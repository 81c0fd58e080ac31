/- Laid out by a program of ours: what each function of the cut comes to, over named values; and that it is so. -/
import Derived.Test.YtambcnlkdnmekaaG5
import Derived.Test.YtambcnlkdnmekaaProg
set_option linter.unusedVariables false
set_option maxRecDepth 100000
namespace Go.Proofs.Ytambcnlkdnmekaa
open Go SG

/-! number 77 -/
def a77 : Ann :=
 (.q (.r [.plain 2]) (.q (.r [.plain 4]) (.q (.r [.plain 1]) (.q (.r [.plain 6]) (.q (.r [.plain 6]) (.q (.r [.plain 6]) (.j [11] 562947805944832 (.q (.r [.plain 2]) (.c (.j [10, 11, 12] 17583596116992 (.q (.r [.plain 2]) (.c (.q (.r [.plain 4]) (.q (.r [.plain 4]) (.r [.plain 4]))) .s))
  (.r [.plain 6])) .s))
  (.q (.r [.plain 1]) (.b (.q (.r [.plain 2]) (.c (.q (.r [.plain 3]) .s) (.q (.r [.plain 2]) (.c (.q (.r [.plain 3]) .s) (.q (.r [.plain 3]) .s))))))))))))))
def s77 (data0 a1 b2 : Value) (K : Value → World → Prop) (w : World) : Prop :=
 PureS (binV .sub b2 a1) fun t15 =>
 BoxS 3 (Value.int .i64 0) (fun swaps9 w =>
 PureS (binV .quo t15 (Value.int .i64 4)) fun t18 =>
 PureS (binV .mul t18 (Value.int .i64 1)) fun t19 =>
 PureS (binV .add a1 t19) fun t20 =>
 PureS (binV .quo t15 (Value.int .i64 4)) fun t23 =>
 PureS (binV .mul t23 (Value.int .i64 2)) fun t24 =>
 PureS (binV .add a1 t24) fun t25 =>
 PureS (binV .quo t15 (Value.int .i64 4)) fun t28 =>
 PureS (binV .mul t28 (Value.int .i64 3)) fun t29 =>
 PureS (binV .add a1 t29) fun t30 =>
 JoinS (fun (j11 : Value) (w : World) =>
 LoadC swaps9 (fun t49 w =>
 PureS (binV .eql t49 (Value.int .i64 0)) fun t52 =>
 CondS t52 (
 K (Value.tuple [j11, (Value.int .i64 1)].toArray) w
 ) (
 PureS (binV .eql t49 (Value.int .i64 12)) fun t55 =>
 CondS t55 (
 K (Value.tuple [j11, (Value.int .i64 2)].toArray) w
 ) (
 K (Value.tuple [j11, (Value.int .i64 0)].toArray) w
 )
 )
 ) w
 ) fun J0 =>
 PureS (binV .geq t15 (Value.int .i64 8)) fun t32 =>
 CondS t32 (
 JoinS (fun (i10 j11_1 k12 : Value) (w : World) =>
 CallS Try.prog 89 [data0, i10, j11_1, k12, swaps9].toArray (fun t48 w =>
 J0 t48 w
 ) w
 ) fun J1 =>
 PureS (binV .geq t15 (Value.int .i64 50)) fun t34 =>
 CondS t34 (
 CallS Try.prog 88 [data0, t20, swaps9].toArray (fun t37 w =>
 CallS Try.prog 88 [data0, t25, swaps9].toArray (fun t40 w =>
 CallS Try.prog 88 [data0, t30, swaps9].toArray (fun t43 w =>
 J1 t37 t40 t43 w
 ) w
 ) w
 ) w
 ) (
 J1 t20 t25 t30 w
 )
 ) (
 J0 t25 w
 )
 ) w
theorem s77_den (data0 a1 b2 : Value) (K : Value → World → Prop) (w : World) : denFn Try.prog false (bodyOf Try.f77) Try.f77.results a77 [data0, a1, b2] K NoP w = s77 data0 a1 b2 K w := by kernel_rfl
theorem s77_dst : dstsOk (3 + 54) (bodyOf Try.f77) = true := by kernel_rfl
theorem s77_ann : annOk (bodyOf Try.f77) a77 = true := by kernel_rfl
theorem s77_call {data0 a1 b2 : Value} {K : Value → World → Prop} {w : World} (hm : Try.prog.follows .mixedOrders = true) (h : s77 data0 a1 b2 K w) : CallS Try.prog 77 #[data0, a1, b2] K w :=
  fn_call (args := [data0, a1, b2]) (m := 54) hm Try.func77 (by kernel_rfl) (rs := Try.f77.results) rfl Try.ntmps77 s77_dst s77_ann (by rw [s77_den]; exact h)

/-! number 78 -/
def a78 : Ann :=
 (.q (.r [.plain 2]) (.q (.r [.plain 3]) (.b (.l [6, 7] 4294965440 (.q (.q (.r [.plain 3]) (.c .s .s)) (.b (.q (.d [0, 0, 0, 0, 0, 0, 48, 112, 0, 0, 768, 1792, 4083, 8179, 16383, 32767] (.pur 0 (.pur 1 (.pur 2 (.pur 3 (.pur 4 (.pur 5 (.pur 6 (.pur 8 (.pur 9 (.pur 10 (.hld 7 (.hld 11 (.pur 12 (.act 13 (.pur 14 (.act 15 .fin))))))))))))))))) (.q (.r [.plain 3]) (.r [.plain 3])))))))))
def s78 (data0 a1 b2 : Value) (K : Value → World → Prop) (w : World) : Prop :=
 PureS (binV .sub b2 (Value.int .i64 1)) fun t10 =>
 LoopS 2 (fun L0 (i6 j7 : Value) (w : World) =>
 PureS (binV .lss i6 j7) fun t13 =>
 CondS t13 (
 DrawS fun S1 => S1 w.drew ∧ (
 PureS (indexAddrV 1 data0 j7) fun t20 =>
 PureS (indexAddrV 1 data0 i6) fun t24 =>
 HeldC S1 t20 (fun t21 =>
 HeldC S1 t24 (fun t25 =>
 PureS (indexAddrV 1 data0 i6) fun t26 =>
 StoreC t26 t21 (fun w =>
 PureS (indexAddrV 1 data0 j7) fun t27 =>
 StoreC t27 t25 (fun w =>
 PureS (binV .add i6 (Value.int .i64 1)) fun t29 =>
 PureS (binV .sub j7 (Value.int .i64 1)) fun t31 =>
 L0 t29 t31 w
 ) w
 ) w.drew
 )
 )
 )
 ) (
 K (Value.tuple [].toArray) w
 )
 ) a1 t10 w
theorem s78_den (data0 a1 b2 : Value) (K : Value → World → Prop) (w : World) : denFn Try.prog false (bodyOf Try.f78) Try.f78.results a78 [data0, a1, b2] K NoP w = s78 data0 a1 b2 K w := by kernel_rfl
theorem s78_dst : dstsOk (3 + 29) (bodyOf Try.f78) = true := by kernel_rfl
theorem s78_ann : annOk (bodyOf Try.f78) a78 = true := by kernel_rfl
theorem s78_call {data0 a1 b2 : Value} {K : Value → World → Prop} {w : World} (hm : Try.prog.follows .mixedOrders = true) (h : s78 data0 a1 b2 K w) : CallS Try.prog 78 #[data0, a1, b2] K w :=
  fn_call (args := [data0, a1, b2]) (m := 29) hm Try.func78 (by kernel_rfl) (rs := Try.f78.results) rfl Try.ntmps78 s78_dst s78_ann (by rw [s78_den]; exact h)

/-! number 79 -/
def a79 : Ann :=
 (.q (.r [.plain 1]) (.q (.r [.plain 3]) (.j [] 10889035741470030830827987437816582760384 (.q (.r [.plain 1]) (.b (.l [7, 8] 10889035741470030830827987437816582760384 (.q (.q (.r [.plain 2]) (.c .s .s)) (.j [7] 10889035741470030830827987437816582637248 (.b (.j [7] 34359607424 (.b (.l [7] 34359607424 (.q (.j [32] 8589803520 (.d [0, 0, 3, 7, 15, 15, 63, 127, 15, 15, 527, 1807, 3855, 8191, 16383, 32767] (.pur 0 (.pur 1 (.pur 2 (.pur 3 (.ite 3 (.pur 4 (.pur 5 (.pur 6 (.pur 8 (.pur 9 (.pur 10 (.pur 11 (.hld 7 (.hld 12 (.act 13 (.pur 14 (.pur 15 .fin)))))))))))) (.skp 4 (.skp 5 (.skp 6 (.skp 7 (.skp 8 (.skp 9 (.skp 10 (.skp 11 (.skp 12 (.skp 13 (.skp 14 (.pur 15 .fin))))))))))))))))))
  (.c .s .s)) (.b (.r [.plain 3])))))
  (.q (.q (.r [.plain 3]) (.c (.q (.r [.plain 1]) .s) .s)) (.q (.q (.r [.plain 4]) (.c (.q (.r [.plain 1]) .s) .s)) (.q (.d [0, 0, 0, 0, 8, 0, 0, 64, 224, 480, 0, 0, 3072, 7168, 16355, 32739, 65535, 131071] (.pur 0 (.pur 1 (.pur 2 (.pur 3 (.pur 4 (.pur 5 (.pur 6 (.pur 7 (.pur 8 (.pur 10 (.pur 11 (.pur 12 (.hld 9 (.hld 13 (.pur 14 (.act 15 (.pur 16 (.act 17 .fin))))))))))))))))))) (.j [] 39614081256843938420620263936 (.q (.r [.plain 4]) (.c (.q (.r [.plain 3]) (.b (.l [9] 39614081238685424723062424064 (.q (.q (.r [.plain 2]) (.c .s .s)) (.q (.b (.q (.q (.d [0, 0, 3, 7, 0, 0, 32, 112, 240, 511, 1023] (.pur 0 (.pur 1 (.pur 2 (.pur 4 (.pur 5 (.pur 6 (.pur 7 (.hld 3 (.hld 8 (.act 9 (.pur 10 .fin)))))))))))) (.c .s .s)) (.d [0, 0, 0, 0, 8, 0, 0, 64, 224, 480, 0, 0, 3072, 7168, 16355, 32739, 65535, 131071] (.pur 0 (.pur 1 (.pur 2 (.pur 3 (.pur 4 (.pur 5 (.pur 6 (.pur 7 (.pur 8 (.pur 10 (.pur 11 (.pur 12 (.hld 9 (.hld 13 (.pur 14 (.act 15 (.pur 16 (.act 17 .fin))))))))))))))))))))) (.r [.plain 3])))))) .s))
  (.q (.r [.plain 4]) (.c (.q (.r [.plain 3]) (.b (.l [10] 10889035738934729630371528634823176356864 (.q (.q (.r [.plain 3]) (.c .s .s)) (.q (.b (.q (.q (.d [0, 0, 3, 7, 0, 0, 32, 112, 240, 511, 1023] (.pur 0 (.pur 1 (.pur 2 (.pur 4 (.pur 5 (.pur 6 (.pur 7 (.hld 3 (.hld 8 (.act 9 (.pur 10 .fin)))))))))))) (.c .s .s)) (.d [0, 0, 0, 0, 8, 0, 0, 64, 224, 480, 0, 0, 3072, 7168, 16355, 32739, 65535, 131071] (.pur 0 (.pur 1 (.pur 2 (.pur 3 (.pur 4 (.pur 5 (.pur 6 (.pur 7 (.pur 8 (.pur 10 (.pur 11 (.pur 12 (.hld 9 (.hld 13 (.pur 14 (.act 15 (.pur 16 (.act 17 .fin))))))))))))))))))))) (.r [.plain 3])))))) .s))))))))
  (.r [.plain 3]))))))
  (.q (.r [.plain 1]) .s))))
def s79 (data0 a1 b2 : Value) (K : Value → World → Prop) (w : World) : Prop :=
 PureS (binV .add a1 (Value.int .i64 1)) fun t12 =>
 JoinS (fun (w : World) =>
 K (Value.bool false) w
 ) fun J0 =>
 LoopS 2 (fun L1 (i7 j8 : Value) (w : World) =>
 PureS (binV .lss j8 (Value.int .i64 5)) fun t14 =>
 CondS t14 (
 JoinS (fun (i7_1 : Value) (w : World) =>
 PureS (binV .add j8 (Value.int .i64 1)) fun t16 =>
 L1 i7_1 t16 w
 ) fun J2 =>
 JoinS (fun (i7_2 : Value) (w : World) =>
 PureS (binV .eql i7_2 b2) fun t37 =>
 CondS t37 (
 K (Value.bool true) w
 ) (
 PureS (binV .sub b2 a1) fun t40 =>
 PureS (binV .lss t40 (Value.int .i64 50)) fun t41 =>
 CondS t41 (
 K (Value.bool false) w
 ) (
 DrawS fun S4 => S4 w.drew ∧ (
 PureS (binV .sub i7_2 (Value.int .i64 1)) fun t46 =>
 PureS (binV .sub i7_2 (Value.int .i64 1)) fun t49 =>
 PureS (indexAddrV 1 data0 t49) fun t50 =>
 PureS (indexAddrV 1 data0 i7_2) fun t54 =>
 HeldC S4 t50 (fun t51 =>
 HeldC S4 t54 (fun t55 =>
 PureS (indexAddrV 1 data0 i7_2) fun t56 =>
 StoreC t56 t51 (fun w =>
 PureS (indexAddrV 1 data0 t46) fun t57 =>
 StoreC t57 t55 (fun w =>
 JoinS (fun (w : World) =>
 PureS (binV .sub b2 i7_2) fun t97 =>
 PureS (binV .geq t97 (Value.int .i64 2)) fun t98 =>
 CondS t98 (
 PureS (binV .add i7_2 (Value.int .i64 1)) fun t100 =>
 LoopS 1 (fun L6 (j10 : Value) (w : World) =>
 PureS (binV .lss j10 b2) fun t103 =>
 CondS t103 (
 DrawS fun S7 => S7 w.drew ∧ (
 PureS (indexAddrV 1 data0 j10) fun t108 =>
 PureS (binV .sub j10 (Value.int .i64 1)) fun t112 =>
 PureS (indexAddrV 1 data0 t112) fun t113 =>
 HeldC S7 t108 (fun t109 =>
 HeldC S7 t113 (fun t114 =>
 CallS Try.prog 80 [t109, t114].toArray (fun t115 w =>
 PureS (notV t115) fun t116 =>
 CondS t116 (
 J2 i7_2 w
 ) (
 DrawS fun S8 => S8 w.drew ∧ (
 PureS (binV .sub j10 (Value.int .i64 1)) fun t121 =>
 PureS (binV .sub j10 (Value.int .i64 1)) fun t124 =>
 PureS (indexAddrV 1 data0 t124) fun t125 =>
 PureS (indexAddrV 1 data0 j10) fun t129 =>
 HeldC S8 t125 (fun t126 =>
 HeldC S8 t129 (fun t130 =>
 PureS (indexAddrV 1 data0 j10) fun t131 =>
 StoreC t131 t126 (fun w =>
 PureS (indexAddrV 1 data0 t121) fun t132 =>
 StoreC t132 t130 (fun w =>
 PureS (binV .add j10 (Value.int .i64 1)) fun t105 =>
 L6 t105 w
 ) w
 ) w.drew
 )
 )
 )
 )
 ) w.drew
 )
 )
 )
 ) (
 J2 i7_2 w
 )
 ) t100 w
 ) (
 J2 i7_2 w
 )
 ) fun J5 =>
 PureS (binV .sub i7_2 a1) fun t60 =>
 PureS (binV .geq t60 (Value.int .i64 2)) fun t61 =>
 CondS t61 (
 PureS (binV .sub i7_2 (Value.int .i64 1)) fun t63 =>
 LoopS 1 (fun L9 (j9 : Value) (w : World) =>
 PureS (binV .geq j9 (Value.int .i64 1)) fun t65 =>
 CondS t65 (
 DrawS fun S10 => S10 w.drew ∧ (
 PureS (indexAddrV 1 data0 j9) fun t70 =>
 PureS (binV .sub j9 (Value.int .i64 1)) fun t74 =>
 PureS (indexAddrV 1 data0 t74) fun t75 =>
 HeldC S10 t70 (fun t71 =>
 HeldC S10 t75 (fun t76 =>
 CallS Try.prog 80 [t71, t76].toArray (fun t77 w =>
 PureS (notV t77) fun t78 =>
 CondS t78 (
 J5 w
 ) (
 DrawS fun S11 => S11 w.drew ∧ (
 PureS (binV .sub j9 (Value.int .i64 1)) fun t83 =>
 PureS (binV .sub j9 (Value.int .i64 1)) fun t86 =>
 PureS (indexAddrV 1 data0 t86) fun t87 =>
 PureS (indexAddrV 1 data0 j9) fun t91 =>
 HeldC S11 t87 (fun t88 =>
 HeldC S11 t91 (fun t92 =>
 PureS (indexAddrV 1 data0 j9) fun t93 =>
 StoreC t93 t88 (fun w =>
 PureS (indexAddrV 1 data0 t83) fun t94 =>
 StoreC t94 t92 (fun w =>
 PureS (binV .sub j9 (Value.int .i64 1)) fun t67 =>
 L9 t67 w
 ) w
 ) w.drew
 )
 )
 )
 )
 ) w.drew
 )
 )
 )
 ) (
 J5 w
 )
 ) t63 w
 ) (
 J5 w
 )
 ) w
 ) w.drew
 )
 )
 )
 )
 )
 ) fun J3 =>
 LoopS 1 (fun L12 (i7_3 : Value) (w : World) =>
 JoinS (fun (t32 : Value) (w : World) =>
 CondS t32 (
 PureS (binV .add i7_3 (Value.int .i64 1)) fun t34 =>
 L12 t34 w
 ) (
 J3 i7_3 w
 )
 ) fun J13 =>
 DrawS fun S14 => S14 w.drew ∧ (
 PureS (binV .lss i7_3 b2) fun t19 =>
 CondS t19 (
 PureS (indexAddrV 1 data0 i7_3) fun t23 =>
 PureS (binV .sub i7_3 (Value.int .i64 1)) fun t27 =>
 PureS (indexAddrV 1 data0 t27) fun t28 =>
 HeldC S14 t23 (fun t24 =>
 HeldC S14 t28 (fun t29 =>
 CallS Try.prog 80 [t24, t29].toArray (fun t30 w =>
 PureS (notV t30) fun t31 =>
 PureS (pickV (Value.bool true) t31 (Value.bool false)) fun t32_1 =>
 J13 t32_1 w
 ) w.drew
 )
 )
 ) (
 PureS (pickV (Value.bool false) undef (Value.bool false)) fun t32_2 =>
 J13 t32_2 w.drew
 )
 )
 ) i7 w
 ) (
 J0 w
 )
 ) t12 (Value.int .i64 0) w
theorem s79_den (data0 a1 b2 : Value) (K : Value → World → Prop) (w : World) : denFn Try.prog false (bodyOf Try.f79) Try.f79.results a79 [data0, a1, b2] K NoP w = s79 data0 a1 b2 K w := by kernel_rfl
theorem s79_dst : dstsOk (3 + 130) (bodyOf Try.f79) = true := by kernel_rfl
theorem s79_ann : annOk (bodyOf Try.f79) a79 = true := by kernel_rfl
theorem s79_call {data0 a1 b2 : Value} {K : Value → World → Prop} {w : World} (hm : Try.prog.follows .mixedOrders = true) (h : s79 data0 a1 b2 K w) : CallS Try.prog 79 #[data0, a1, b2] K w :=
  fn_call (args := [data0, a1, b2]) (m := 130) hm Try.func79 (by kernel_rfl) (rs := Try.f79.results) rfl Try.ntmps79 s79_dst s79_ann (by rw [s79_den]; exact h)

/-! number 80 -/
def a80 : Ann :=
 (.q (.r [.plain 1]) (.q (.r [.plain 3, .grp 3 [10] 1792, .plain 2, .grp 3 [15] 57344, .plain 2]) .s))
def s80 (x0 y1 : Value) (K : Value → World → Prop) (w : World) : Prop :=
 CallS Try.prog 90 [x0].toArray (fun t6 w =>
 JoinS (fun (t10 : Value) (w : World) =>
 PureS (pickV t6 t10 (Value.bool false)) fun t11 =>
 JoinS (fun (t15 : Value) (w : World) =>
 PureS (pickV t11 (Value.bool true) t15) fun t16 =>
 K t16 w
 ) fun J1 =>
 IfB t11 false (
 PureS (binV .lss x0 y1) fun t15_1 =>
 J1 t15_1 w
 ) (
 J1 undef w
 )
 ) fun J0 =>
 IfB t6 true (
 CallS Try.prog 90 [y1].toArray (fun t9 w =>
 PureS (notV t9) fun t10_1 =>
 J0 t10_1 w
 ) w
 ) (
 J0 undef w
 )
 ) w
theorem s80_den (x0 y1 : Value) (K : Value → World → Prop) (w : World) : denFn Try.prog false (bodyOf Try.f80) Try.f80.results a80 [x0, y1] K NoP w = s80 x0 y1 K w := by kernel_rfl
theorem s80_dst : dstsOk (2 + 15) (bodyOf Try.f80) = true := by kernel_rfl
theorem s80_ann : annOk (bodyOf Try.f80) a80 = true := by kernel_rfl
theorem s80_call {x0 y1 : Value} {K : Value → World → Prop} {w : World} (hm : Try.prog.follows .mixedOrders = true) (h : s80 x0 y1 K w) : CallS Try.prog 80 #[x0, y1] K w :=
  fn_call (args := [x0, y1]) (m := 15) hm Try.func80 (by kernel_rfl) (rs := Try.f80.results) rfl Try.ntmps80 s80_dst s80_ann (by rw [s80_den]; exact h)

/-! number 81 -/
def a81 : Ann :=
 (.q (.r [.plain 1]) (.q (.d [0, 0, 0, 0, 0, 0, 48, 112, 0, 0, 768, 1792, 4083, 8179, 16383, 32767] (.pur 0 (.pur 1 (.pur 2 (.pur 3 (.pur 4 (.pur 5 (.pur 6 (.pur 8 (.pur 9 (.pur 10 (.hld 7 (.hld 11 (.pur 12 (.act 13 (.pur 14 (.act 15 .fin))))))))))))))))) (.q (.r [.plain 6]) (.j [9] 9671406556917032860780032 (.b (.l [9, 10] 9671406556917032860780032 (.b (.j [9] 70368207307264 (.b (.l [9] 70368207307264 (.q (.j [43] 17591649173504 (.d [0, 0, 3, 7, 15, 15, 63, 127, 15, 15, 783, 1807, 4095, 8191, 16383] (.pur 0 (.pur 1 (.pur 2 (.pur 3 (.ite 3 (.pur 4 (.pur 5 (.pur 6 (.pur 8 (.pur 9 (.pur 10 (.hld 7 (.hld 11 (.act 12 (.pur 13 (.pur 14 .fin))))))))))) (.skp 4 (.skp 5 (.skp 6 (.skp 7 (.skp 8 (.skp 9 (.skp 10 (.skp 11 (.skp 12 (.skp 13 (.pur 14 .fin)))))))))))))))))
  (.c .s .s)) (.b (.r [.plain 3])))))
  (.j [10] 4611615649683211264 (.b (.l [10] 4611615649683211264 (.q (.j [59] 1152851135862669312 (.d [0, 0, 3, 7, 15, 15, 63, 127, 15, 15, 783, 1807, 4095, 8191] (.pur 0 (.pur 1 (.pur 2 (.pur 3 (.ite 3 (.pur 4 (.pur 5 (.pur 6 (.pur 8 (.pur 9 (.pur 10 (.hld 7 (.hld 11 (.act 12 (.pur 13 .fin)))))))))) (.skp 4 (.skp 5 (.skp 6 (.skp 7 (.skp 8 (.skp 9 (.skp 10 (.skp 11 (.skp 12 (.pur 13 .fin))))))))))))))))
  (.c .s .s)) (.b (.r [.plain 3])))))
  (.q (.q (.r [.plain 3]) (.c .s .s)) (.q (.d [0, 0, 0, 0, 0, 0, 48, 112, 0, 0, 768, 1792, 4083, 8179, 16383, 32767] (.pur 0 (.pur 1 (.pur 2 (.pur 3 (.pur 4 (.pur 5 (.pur 6 (.pur 8 (.pur 9 (.pur 10 (.hld 7 (.hld 11 (.pur 12 (.act 13 (.pur 14 (.act 15 .fin))))))))))))))))) (.q (.r [.plain 3]) (.r [.plain 3])))))))))
  (.q (.r [.plain 2]) .s)))))
def s81 (data0 a1 b2 pivot3 : Value) (K : Value → World → Prop) (w : World) : Prop :=
 DrawS fun S0 => S0 w.drew ∧ (
 PureS (indexAddrV 1 data0 pivot3) fun t17 =>
 PureS (indexAddrV 1 data0 a1) fun t21 =>
 HeldC S0 t17 (fun t18 =>
 HeldC S0 t21 (fun t22 =>
 PureS (indexAddrV 1 data0 a1) fun t23 =>
 StoreC t23 t18 (fun w =>
 PureS (indexAddrV 1 data0 pivot3) fun t24 =>
 StoreC t24 t22 (fun w =>
 PureS (binV .add a1 (Value.int .i64 1)) fun t26 =>
 PureS (binV .sub b2 (Value.int .i64 1)) fun t28 =>
 JoinS (fun (i9 : Value) (w : World) =>
 K i9 w
 ) fun J1 =>
 LoopS 2 (fun L2 (i9_1 j10 : Value) (w : World) =>
 JoinS (fun (i9_2 : Value) (w : World) =>
 JoinS (fun (j10_1 : Value) (w : World) =>
 PureS (binV .gtr i9_2 j10_1) fun t64 =>
 CondS t64 (
 J1 i9_2 w
 ) (
 DrawS fun S5 => S5 w.drew ∧ (
 PureS (indexAddrV 1 data0 j10_1) fun t71 =>
 PureS (indexAddrV 1 data0 i9_2) fun t75 =>
 HeldC S5 t71 (fun t72 =>
 HeldC S5 t75 (fun t76 =>
 PureS (indexAddrV 1 data0 i9_2) fun t77 =>
 StoreC t77 t72 (fun w =>
 PureS (indexAddrV 1 data0 j10_1) fun t78 =>
 StoreC t78 t76 (fun w =>
 PureS (binV .add i9_2 (Value.int .i64 1)) fun t80 =>
 PureS (binV .sub j10_1 (Value.int .i64 1)) fun t82 =>
 L2 t80 t82 w
 ) w
 ) w.drew
 )
 )
 )
 )
 ) fun J4 =>
 LoopS 1 (fun L6 (j10_2 : Value) (w : World) =>
 JoinS (fun (t59 : Value) (w : World) =>
 CondS t59 (
 PureS (binV .sub j10_2 (Value.int .i64 1)) fun t61 =>
 L6 t61 w
 ) (
 J4 j10_2 w
 )
 ) fun J7 =>
 DrawS fun S8 => S8 w.drew ∧ (
 PureS (binV .leq i9_2 j10_2) fun t48 =>
 CondS t48 (
 PureS (indexAddrV 1 data0 a1) fun t52 =>
 PureS (indexAddrV 1 data0 j10_2) fun t56 =>
 HeldC S8 t52 (fun t53 =>
 HeldC S8 t56 (fun t57 =>
 CallS Try.prog 80 [t53, t57].toArray (fun t58 w =>
 PureS (pickV (Value.bool true) t58 (Value.bool false)) fun t59_1 =>
 J7 t59_1 w
 ) w.drew
 )
 )
 ) (
 PureS (pickV (Value.bool false) undef (Value.bool false)) fun t59_2 =>
 J7 t59_2 w.drew
 )
 )
 ) j10 w
 ) fun J3 =>
 LoopS 1 (fun L9 (i9_3 : Value) (w : World) =>
 JoinS (fun (t43 : Value) (w : World) =>
 CondS t43 (
 PureS (binV .add i9_3 (Value.int .i64 1)) fun t45 =>
 L9 t45 w
 ) (
 J3 i9_3 w
 )
 ) fun J10 =>
 DrawS fun S11 => S11 w.drew ∧ (
 PureS (binV .leq i9_3 j10) fun t31 =>
 CondS t31 (
 PureS (indexAddrV 1 data0 a1) fun t35 =>
 PureS (indexAddrV 1 data0 i9_3) fun t39 =>
 HeldC S11 t35 (fun t36 =>
 HeldC S11 t39 (fun t40 =>
 CallS Try.prog 80 [t36, t40].toArray (fun t41 w =>
 PureS (notV t41) fun t42 =>
 PureS (pickV (Value.bool true) t42 (Value.bool false)) fun t43_1 =>
 J10 t43_1 w
 ) w.drew
 )
 )
 ) (
 PureS (pickV (Value.bool false) undef (Value.bool false)) fun t43_2 =>
 J10 t43_2 w.drew
 )
 )
 ) i9_1 w
 ) t26 t28 w
 ) w
 ) w.drew
 )
 )
 )
theorem s81_den (data0 a1 b2 pivot3 : Value) (K : Value → World → Prop) (w : World) : denFn Try.prog false (bodyOf Try.f81) Try.f81.results a81 [data0, a1, b2, pivot3] K NoP w = s81 data0 a1 b2 pivot3 K w := by kernel_rfl
theorem s81_dst : dstsOk (4 + 80) (bodyOf Try.f81) = true := by kernel_rfl
theorem s81_ann : annOk (bodyOf Try.f81) a81 = true := by kernel_rfl
theorem s81_call {data0 a1 b2 pivot3 : Value} {K : Value → World → Prop} {w : World} (hm : Try.prog.follows .mixedOrders = true) (h : s81 data0 a1 b2 pivot3 K w) : CallS Try.prog 81 #[data0, a1, b2, pivot3] K w :=
  fn_call (args := [data0, a1, b2, pivot3]) (m := 80) hm Try.func81 (by kernel_rfl) (rs := Try.f81.results) rfl Try.ntmps81 s81_dst s81_ann (by rw [s81_den]; exact h)

/-! number 82 -/
def a82 : Ann :=
 (.q (.r [.plain 2]) (.q (.d [0, 0, 0, 0, 0, 0, 48, 112, 0, 0, 768, 1792, 4083, 8179, 16383, 32767] (.pur 0 (.pur 1 (.pur 2 (.pur 3 (.pur 4 (.pur 5 (.pur 6 (.pur 8 (.pur 9 (.pur 10 (.hld 7 (.hld 11 (.pur 12 (.act 13 (.pur 14 (.act 15 .fin))))))))))))))))) (.q (.r [.plain 6]) (.j [10] 70367670436864 (.b (.l [10] 70367670436864 (.q (.j [43] 17591112302592 (.d [0, 0, 3, 7, 15, 15, 63, 127, 15, 15, 783, 1807, 4095, 8191] (.pur 0 (.pur 1 (.pur 2 (.pur 3 (.ite 3 (.pur 4 (.pur 5 (.pur 6 (.pur 8 (.pur 9 (.pur 10 (.hld 7 (.hld 11 (.act 12 (.pur 13 .fin)))))))))) (.skp 4 (.skp 5 (.skp 6 (.skp 7 (.skp 8 (.skp 9 (.skp 10 (.skp 11 (.skp 12 (.pur 13 .fin))))))))))))))))
  (.c .s .s)) (.b (.r [.plain 3])))))
  (.j [11] 9223301668110600192 (.b (.l [11] 9223301668110600192 (.q (.j [60] 2305772640469516288 (.d [0, 0, 3, 7, 15, 15, 63, 127, 15, 15, 783, 1807, 4095, 8191, 16383] (.pur 0 (.pur 1 (.pur 2 (.pur 3 (.ite 3 (.pur 4 (.pur 5 (.pur 6 (.pur 8 (.pur 9 (.pur 10 (.hld 7 (.hld 11 (.act 12 (.pur 13 (.pur 14 .fin))))))))))) (.skp 4 (.skp 5 (.skp 6 (.skp 7 (.skp 8 (.skp 9 (.skp 10 (.skp 11 (.skp 12 (.skp 13 (.pur 14 .fin)))))))))))))))))
  (.c .s .s)) (.b (.r [.plain 3])))))
  (.q (.q (.r [.plain 3]) (.c (.q (.d [0, 0, 0, 0, 0, 0, 48, 112, 0, 0, 768, 1792, 4083, 8179, 16383, 32767] (.pur 0 (.pur 1 (.pur 2 (.pur 3 (.pur 4 (.pur 5 (.pur 6 (.pur 8 (.pur 9 (.pur 10 (.hld 7 (.hld 11 (.pur 12 (.act 13 (.pur 14 (.act 15 .fin))))))))))))))))) (.q (.r [.plain 3]) .s)) .s)) (.q (.d [0, 0, 0, 0, 0, 0, 48, 112, 0, 0, 768, 1792, 4083, 8179, 16383, 32767] (.pur 0 (.pur 1 (.pur 2 (.pur 3 (.pur 4 (.pur 5 (.pur 6 (.pur 8 (.pur 9 (.pur 10 (.hld 7 (.hld 11 (.pur 12 (.act 13 (.pur 14 (.act 15 .fin))))))))))))))))) (.q (.r [.plain 3]) (.q (.r [.plain 3]) (.j [11] 11417981541647678414640987641481260342710373376 (.b (.l [10, 11] 11417981541647678414640987641481260342710373376 (.b (.j [10] 41537741042978506913543222282159104 (.b (.l [10] 41537741042978506913543222282159104 (.q (.j [112] 10383959891769541142360244306837504 (.d [0, 0, 3, 7, 15, 15, 63, 127, 15, 15, 783, 1807, 4095, 8191] (.pur 0 (.pur 1 (.pur 2 (.pur 3 (.ite 3 (.pur 4 (.pur 5 (.pur 6 (.pur 8 (.pur 9 (.pur 10 (.hld 7 (.hld 11 (.act 12 (.pur 13 .fin)))))))))) (.skp 4 (.skp 5 (.skp 6 (.skp 7 (.skp 8 (.skp 9 (.skp 10 (.skp 11 (.skp 12 (.pur 13 .fin))))))))))))))))
  (.c .s .s)) (.b (.r [.plain 3])))))
  (.j [11] 5444476332360147136792965474937657624576 (.b (.l [11] 5444476332360147136792965474937657624576 (.q (.j [129] 1361087929308885575232470185756439085056 (.d [0, 0, 3, 7, 15, 15, 63, 127, 15, 15, 783, 1807, 4095, 8191, 16383] (.pur 0 (.pur 1 (.pur 2 (.pur 3 (.ite 3 (.pur 4 (.pur 5 (.pur 6 (.pur 8 (.pur 9 (.pur 10 (.hld 7 (.hld 11 (.act 12 (.pur 13 (.pur 14 .fin))))))))))) (.skp 4 (.skp 5 (.skp 6 (.skp 7 (.skp 8 (.skp 9 (.skp 10 (.skp 11 (.skp 12 (.skp 13 (.pur 14 .fin)))))))))))))))))
  (.c .s .s)) (.b (.r [.plain 3])))))
  (.q (.q (.r [.plain 3]) (.c .s .s)) (.q (.d [0, 0, 0, 0, 0, 0, 48, 112, 0, 0, 768, 1792, 4083, 8179, 16383, 32767] (.pur 0 (.pur 1 (.pur 2 (.pur 3 (.pur 4 (.pur 5 (.pur 6 (.pur 8 (.pur 9 (.pur 10 (.hld 7 (.hld 11 (.pur 12 (.act 13 (.pur 14 (.act 15 .fin))))))))))))))))) (.q (.r [.plain 3]) (.r [.plain 3])))))))))
  (.q (.d [0, 0, 0, 0, 0, 0, 48, 112, 0, 0, 768, 1792, 4083, 8179, 16383, 32767] (.pur 0 (.pur 1 (.pur 2 (.pur 3 (.pur 4 (.pur 5 (.pur 6 (.pur 8 (.pur 9 (.pur 10 (.hld 7 (.hld 11 (.pur 12 (.act 13 (.pur 14 (.act 15 .fin))))))))))))))))) (.q (.r [.plain 3]) .s))))))))))))
def s82 (data0 a1 b2 pivot3 : Value) (K : Value → World → Prop) (w : World) : Prop :=
 DrawS fun S0 => S0 w.drew ∧ (
 PureS (indexAddrV 1 data0 pivot3) fun t18 =>
 PureS (indexAddrV 1 data0 a1) fun t22 =>
 HeldC S0 t18 (fun t19 =>
 HeldC S0 t22 (fun t23 =>
 PureS (indexAddrV 1 data0 a1) fun t24 =>
 StoreC t24 t19 (fun w =>
 PureS (indexAddrV 1 data0 pivot3) fun t25 =>
 StoreC t25 t23 (fun w =>
 PureS (binV .add a1 (Value.int .i64 1)) fun t27 =>
 PureS (binV .sub b2 (Value.int .i64 1)) fun t29 =>
 JoinS (fun (i10 : Value) (w : World) =>
 JoinS (fun (j11 : Value) (w : World) =>
 PureS (binV .gtr i10 j11) fun t65 =>
 CondS t65 (
 DrawS fun S3 => S3 w.drew ∧ (
 PureS (indexAddrV 1 data0 a1) fun t72 =>
 PureS (indexAddrV 1 data0 j11) fun t76 =>
 HeldC S3 t72 (fun t73 =>
 HeldC S3 t76 (fun t77 =>
 PureS (indexAddrV 1 data0 j11) fun t78 =>
 StoreC t78 t73 (fun w =>
 PureS (indexAddrV 1 data0 a1) fun t79 =>
 StoreC t79 t77 (fun w =>
 K (Value.tuple [j11, (Value.bool true)].toArray) w
 ) w
 ) w.drew
 )
 )
 )
 ) (
 DrawS fun S4 => S4 w.drew ∧ (
 PureS (indexAddrV 1 data0 j11) fun t87 =>
 PureS (indexAddrV 1 data0 i10) fun t91 =>
 HeldC S4 t87 (fun t88 =>
 HeldC S4 t91 (fun t92 =>
 PureS (indexAddrV 1 data0 i10) fun t93 =>
 StoreC t93 t88 (fun w =>
 PureS (indexAddrV 1 data0 j11) fun t94 =>
 StoreC t94 t92 (fun w =>
 PureS (binV .add i10 (Value.int .i64 1)) fun t96 =>
 PureS (binV .sub j11 (Value.int .i64 1)) fun t98 =>
 JoinS (fun (j11_1 : Value) (w : World) =>
 DrawS fun S6 => S6 w.drew ∧ (
 PureS (indexAddrV 1 data0 a1) fun t159 =>
 PureS (indexAddrV 1 data0 j11_1) fun t163 =>
 HeldC S6 t159 (fun t160 =>
 HeldC S6 t163 (fun t164 =>
 PureS (indexAddrV 1 data0 j11_1) fun t165 =>
 StoreC t165 t160 (fun w =>
 PureS (indexAddrV 1 data0 a1) fun t166 =>
 StoreC t166 t164 (fun w =>
 K (Value.tuple [j11_1, (Value.bool false)].toArray) w
 ) w
 ) w.drew
 )
 )
 )
 ) fun J5 =>
 LoopS 2 (fun L7 (i10_1 j11_2 : Value) (w : World) =>
 JoinS (fun (i10_2 : Value) (w : World) =>
 JoinS (fun (j11_3 : Value) (w : World) =>
 PureS (binV .gtr i10_2 j11_3) fun t134 =>
 CondS t134 (
 J5 j11_3 w
 ) (
 DrawS fun S10 => S10 w.drew ∧ (
 PureS (indexAddrV 1 data0 j11_3) fun t141 =>
 PureS (indexAddrV 1 data0 i10_2) fun t145 =>
 HeldC S10 t141 (fun t142 =>
 HeldC S10 t145 (fun t146 =>
 PureS (indexAddrV 1 data0 i10_2) fun t147 =>
 StoreC t147 t142 (fun w =>
 PureS (indexAddrV 1 data0 j11_3) fun t148 =>
 StoreC t148 t146 (fun w =>
 PureS (binV .add i10_2 (Value.int .i64 1)) fun t150 =>
 PureS (binV .sub j11_3 (Value.int .i64 1)) fun t152 =>
 L7 t150 t152 w
 ) w
 ) w.drew
 )
 )
 )
 )
 ) fun J9 =>
 LoopS 1 (fun L11 (j11_4 : Value) (w : World) =>
 JoinS (fun (t129 : Value) (w : World) =>
 CondS t129 (
 PureS (binV .sub j11_4 (Value.int .i64 1)) fun t131 =>
 L11 t131 w
 ) (
 J9 j11_4 w
 )
 ) fun J12 =>
 DrawS fun S13 => S13 w.drew ∧ (
 PureS (binV .leq i10_2 j11_4) fun t117 =>
 CondS t117 (
 PureS (indexAddrV 1 data0 j11_4) fun t121 =>
 PureS (indexAddrV 1 data0 a1) fun t125 =>
 HeldC S13 t121 (fun t122 =>
 HeldC S13 t125 (fun t126 =>
 CallS Try.prog 80 [t122, t126].toArray (fun t127 w =>
 PureS (notV t127) fun t128 =>
 PureS (pickV (Value.bool true) t128 (Value.bool false)) fun t129_1 =>
 J12 t129_1 w
 ) w.drew
 )
 )
 ) (
 PureS (pickV (Value.bool false) undef (Value.bool false)) fun t129_2 =>
 J12 t129_2 w.drew
 )
 )
 ) j11_2 w
 ) fun J8 =>
 LoopS 1 (fun L14 (i10_3 : Value) (w : World) =>
 JoinS (fun (t112 : Value) (w : World) =>
 CondS t112 (
 PureS (binV .add i10_3 (Value.int .i64 1)) fun t114 =>
 L14 t114 w
 ) (
 J8 i10_3 w
 )
 ) fun J15 =>
 DrawS fun S16 => S16 w.drew ∧ (
 PureS (binV .leq i10_3 j11_2) fun t101 =>
 CondS t101 (
 PureS (indexAddrV 1 data0 i10_3) fun t105 =>
 PureS (indexAddrV 1 data0 a1) fun t109 =>
 HeldC S16 t105 (fun t106 =>
 HeldC S16 t109 (fun t110 =>
 CallS Try.prog 80 [t106, t110].toArray (fun t111 w =>
 PureS (pickV (Value.bool true) t111 (Value.bool false)) fun t112_1 =>
 J15 t112_1 w
 ) w.drew
 )
 )
 ) (
 PureS (pickV (Value.bool false) undef (Value.bool false)) fun t112_2 =>
 J15 t112_2 w.drew
 )
 )
 ) i10_1 w
 ) t96 t98 w
 ) w
 ) w.drew
 )
 )
 )
 )
 ) fun J2 =>
 LoopS 1 (fun L17 (j11_5 : Value) (w : World) =>
 JoinS (fun (t60 : Value) (w : World) =>
 CondS t60 (
 PureS (binV .sub j11_5 (Value.int .i64 1)) fun t62 =>
 L17 t62 w
 ) (
 J2 j11_5 w
 )
 ) fun J18 =>
 DrawS fun S19 => S19 w.drew ∧ (
 PureS (binV .leq i10 j11_5) fun t48 =>
 CondS t48 (
 PureS (indexAddrV 1 data0 j11_5) fun t52 =>
 PureS (indexAddrV 1 data0 a1) fun t56 =>
 HeldC S19 t52 (fun t53 =>
 HeldC S19 t56 (fun t57 =>
 CallS Try.prog 80 [t53, t57].toArray (fun t58 w =>
 PureS (notV t58) fun t59 =>
 PureS (pickV (Value.bool true) t59 (Value.bool false)) fun t60_1 =>
 J18 t60_1 w
 ) w.drew
 )
 )
 ) (
 PureS (pickV (Value.bool false) undef (Value.bool false)) fun t60_2 =>
 J18 t60_2 w.drew
 )
 )
 ) t29 w
 ) fun J1 =>
 LoopS 1 (fun L20 (i10_4 : Value) (w : World) =>
 JoinS (fun (t43 : Value) (w : World) =>
 CondS t43 (
 PureS (binV .add i10_4 (Value.int .i64 1)) fun t45 =>
 L20 t45 w
 ) (
 J1 i10_4 w
 )
 ) fun J21 =>
 DrawS fun S22 => S22 w.drew ∧ (
 PureS (binV .leq i10_4 t29) fun t32 =>
 CondS t32 (
 PureS (indexAddrV 1 data0 i10_4) fun t36 =>
 PureS (indexAddrV 1 data0 a1) fun t40 =>
 HeldC S22 t36 (fun t37 =>
 HeldC S22 t40 (fun t41 =>
 CallS Try.prog 80 [t37, t41].toArray (fun t42 w =>
 PureS (pickV (Value.bool true) t42 (Value.bool false)) fun t43_1 =>
 J21 t43_1 w
 ) w.drew
 )
 )
 ) (
 PureS (pickV (Value.bool false) undef (Value.bool false)) fun t43_2 =>
 J21 t43_2 w.drew
 )
 )
 ) t27 w
 ) w
 ) w.drew
 )
 )
 )
theorem s82_den (data0 a1 b2 pivot3 : Value) (K : Value → World → Prop) (w : World) : denFn Try.prog false (bodyOf Try.f82) Try.f82.results a82 [data0, a1, b2, pivot3] K NoP w = s82 data0 a1 b2 pivot3 K w := by kernel_rfl
theorem s82_dst : dstsOk (4 + 164) (bodyOf Try.f82) = true := by kernel_rfl
theorem s82_ann : annOk (bodyOf Try.f82) a82 = true := by kernel_rfl
theorem s82_call {data0 a1 b2 pivot3 : Value} {K : Value → World → Prop} {w : World} (hm : Try.prog.follows .mixedOrders = true) (h : s82 data0 a1 b2 pivot3 K w) : CallS Try.prog 82 #[data0, a1, b2, pivot3] K w :=
  fn_call (args := [data0, a1, b2, pivot3]) (m := 164) hm Try.func82 (by kernel_rfl) (rs := Try.f82.results) rfl Try.ntmps82 s82_dst s82_ann (by rw [s82_den]; exact h)

/-! number 83 -/
def a83 : Ann :=
 (.q (.r [.plain 1]) (.j [0, 2] 125 (.q (.r [.plain 2]) (.c (.q (.r [.plain 3]) (.r [.plain 1])) .s))
  (.j [0, 2] 8069 (.q (.r [.plain 2]) (.c (.q (.r [.plain 3]) (.r [.plain 3])) .s))
  (.q (.r [.plain 7]) .s))))
def s83 (x0 : Value) (K : Value → World → Prop) (w : World) : Prop :=
 JoinS (fun (x0_1 n2 : Value) (w : World) =>
 JoinS (fun (x0_2 n2_1 : Value) (w : World) =>
 PureS (convIntV .u8 x0_2) fun t15 =>
 PureS (indexStrV (Value.string ⟨#[0, 1, 2, 2, 3, 3, 3, 3, 4, 4, 4, 4, 4, 4, 4, 4, 5, 5, 5, 5, 5, 5, 5, 5, 5, 5, 5, 5, 5, 5, 5, 5, 6, 6, 6, 6, 6, 6, 6, 6, 6, 6, 6, 6, 6, 6, 6, 6, 6, 6, 6, 6, 6, 6, 6, 6, 6, 6, 6, 6, 6, 6, 6, 6, 7, 7, 7, 7, 7, 7, 7, 7, 7, 7, 7, 7, 7, 7, 7, 7, 7, 7, 7, 7, 7, 7, 7, 7, 7, 7, 7, 7, 7, 7, 7, 7, 7, 7, 7, 7, 7, 7, 7, 7, 7, 7, 7, 7, 7, 7, 7, 7, 7, 7, 7, 7, 7, 7, 7, 7, 7, 7, 7, 7, 7, 7, 7, 7, 8, 8, 8, 8, 8, 8, 8, 8, 8, 8, 8, 8, 8, 8, 8, 8, 8, 8, 8, 8, 8, 8, 8, 8, 8, 8, 8, 8, 8, 8, 8, 8, 8, 8, 8, 8, 8, 8, 8, 8, 8, 8, 8, 8, 8, 8, 8, 8, 8, 8, 8, 8, 8, 8, 8, 8, 8, 8, 8, 8, 8, 8, 8, 8, 8, 8, 8, 8, 8, 8, 8, 8, 8, 8, 8, 8, 8, 8, 8, 8, 8, 8, 8, 8, 8, 8, 8, 8, 8, 8, 8, 8, 8, 8, 8, 8, 8, 8, 8, 8, 8, 8, 8, 8, 8, 8, 8, 8, 8, 8, 8, 8, 8, 8, 8, 8, 8, 8, 8, 8, 8, 8, 8, 8, 8, 8, 8, 8]⟩) t15) fun t16 =>
 PureS (convIntV .i64 t16) fun t17 =>
 PureS (binV .add n2_1 t17) fun t18 =>
 K t18 w
 ) fun J1 =>
 PureS (binV .geq x0_1 (Value.int .u32 256)) fun t8 =>
 CondS t8 (
 PureS (binV .shr x0_1 (Value.int .u64 8)) fun t10 =>
 PureS (binV .add n2 (Value.int .i64 8)) fun t12 =>
 J1 t10 t12 w
 ) (
 J1 x0_1 n2 w
 )
 ) fun J0 =>
 PureS (binV .geq x0 (Value.int .u32 65536)) fun t4 =>
 CondS t4 (
 PureS (binV .shr x0 (Value.int .u64 16)) fun t6 =>
 J0 t6 (Value.int .i64 16) w
 ) (
 J0 x0 (Value.int .i64 0) w
 )
theorem s83_den (x0 : Value) (K : Value → World → Prop) (w : World) : denFn Try.prog false (bodyOf Try.f83) Try.f83.results a83 [x0] K NoP w = s83 x0 K w := by kernel_rfl
theorem s83_dst : dstsOk (1 + 18) (bodyOf Try.f83) = true := by kernel_rfl
theorem s83_ann : annOk (bodyOf Try.f83) a83 = true := by kernel_rfl
theorem s83_call {x0 : Value} {K : Value → World → Prop} {w : World} (hm : Try.prog.follows .mixedOrders = true) (h : s83 x0 K w) : CallS Try.prog 83 #[x0] K w :=
  fn_call (args := [x0]) (m := 18) hm Try.func83 (by kernel_rfl) (rs := Try.f83.results) rfl Try.ntmps83 s83_dst s83_ann (by rw [s83_den]; exact h)

/-! number 84 -/
def a84 : Ann :=
 (.q (.r [.plain 1]) (.j [0, 2] 125 (.q (.r [.plain 2]) (.c (.q (.r [.plain 3]) (.r [.plain 1])) .s))
  (.j [0, 2] 8069 (.q (.r [.plain 2]) (.c (.q (.r [.plain 3]) (.r [.plain 3])) .s))
  (.j [0, 2] 516101 (.q (.r [.plain 2]) (.c (.q (.r [.plain 3]) (.r [.plain 3])) .s))
  (.q (.r [.plain 7]) .s)))))
def s84 (x0 : Value) (K : Value → World → Prop) (w : World) : Prop :=
 JoinS (fun (x0_1 n2 : Value) (w : World) =>
 JoinS (fun (x0_2 n2_1 : Value) (w : World) =>
 JoinS (fun (x0_3 n2_2 : Value) (w : World) =>
 PureS (convIntV .u8 x0_3) fun t21 =>
 PureS (indexStrV (Value.string ⟨#[0, 1, 2, 2, 3, 3, 3, 3, 4, 4, 4, 4, 4, 4, 4, 4, 5, 5, 5, 5, 5, 5, 5, 5, 5, 5, 5, 5, 5, 5, 5, 5, 6, 6, 6, 6, 6, 6, 6, 6, 6, 6, 6, 6, 6, 6, 6, 6, 6, 6, 6, 6, 6, 6, 6, 6, 6, 6, 6, 6, 6, 6, 6, 6, 7, 7, 7, 7, 7, 7, 7, 7, 7, 7, 7, 7, 7, 7, 7, 7, 7, 7, 7, 7, 7, 7, 7, 7, 7, 7, 7, 7, 7, 7, 7, 7, 7, 7, 7, 7, 7, 7, 7, 7, 7, 7, 7, 7, 7, 7, 7, 7, 7, 7, 7, 7, 7, 7, 7, 7, 7, 7, 7, 7, 7, 7, 7, 7, 8, 8, 8, 8, 8, 8, 8, 8, 8, 8, 8, 8, 8, 8, 8, 8, 8, 8, 8, 8, 8, 8, 8, 8, 8, 8, 8, 8, 8, 8, 8, 8, 8, 8, 8, 8, 8, 8, 8, 8, 8, 8, 8, 8, 8, 8, 8, 8, 8, 8, 8, 8, 8, 8, 8, 8, 8, 8, 8, 8, 8, 8, 8, 8, 8, 8, 8, 8, 8, 8, 8, 8, 8, 8, 8, 8, 8, 8, 8, 8, 8, 8, 8, 8, 8, 8, 8, 8, 8, 8, 8, 8, 8, 8, 8, 8, 8, 8, 8, 8, 8, 8, 8, 8, 8, 8, 8, 8, 8, 8, 8, 8, 8, 8, 8, 8, 8, 8, 8, 8, 8, 8, 8, 8, 8, 8, 8, 8]⟩) t21) fun t22 =>
 PureS (convIntV .i64 t22) fun t23 =>
 PureS (binV .add n2_2 t23) fun t24 =>
 K t24 w
 ) fun J2 =>
 PureS (binV .geq x0_2 (Value.int .u64 256)) fun t14 =>
 CondS t14 (
 PureS (binV .shr x0_2 (Value.int .u64 8)) fun t16 =>
 PureS (binV .add n2_1 (Value.int .i64 8)) fun t18 =>
 J2 t16 t18 w
 ) (
 J2 x0_2 n2_1 w
 )
 ) fun J1 =>
 PureS (binV .geq x0_1 (Value.int .u64 65536)) fun t8 =>
 CondS t8 (
 PureS (binV .shr x0_1 (Value.int .u64 16)) fun t10 =>
 PureS (binV .add n2 (Value.int .i64 16)) fun t12 =>
 J1 t10 t12 w
 ) (
 J1 x0_1 n2 w
 )
 ) fun J0 =>
 PureS (binV .geq x0 (Value.int .u64 4294967296)) fun t4 =>
 CondS t4 (
 PureS (binV .shr x0 (Value.int .u64 32)) fun t6 =>
 J0 t6 (Value.int .i64 32) w
 ) (
 J0 x0 (Value.int .i64 0) w
 )
theorem s84_den (x0 : Value) (K : Value → World → Prop) (w : World) : denFn Try.prog false (bodyOf Try.f84) Try.f84.results a84 [x0] K NoP w = s84 x0 K w := by kernel_rfl
theorem s84_dst : dstsOk (1 + 24) (bodyOf Try.f84) = true := by kernel_rfl
theorem s84_ann : annOk (bodyOf Try.f84) a84 = true := by kernel_rfl
theorem s84_call {x0 : Value} {K : Value → World → Prop} {w : World} (hm : Try.prog.follows .mixedOrders = true) (h : s84 x0 K w) : CallS Try.prog 84 #[x0] K w :=
  fn_call (args := [x0]) (m := 24) hm Try.func84 (by kernel_rfl) (rs := Try.f84.results) rfl Try.ntmps84 s84_dst s84_ann (by rw [s84_den]; exact h)

/-! number 85 -/
def a85 : Ann :=
 (.q (.r [.plain 2]) (.b (.l [8] 75557863725914323417856 (.b (.q (.r [.plain 4]) (.q (.q (.r [.plain 3]) (.c .s .s)) (.j [9] 549755683328 (.j [36] 137438822400 (.d [0, 1, 0, 7, 15, 31, 31, 31, 223, 511, 1023, 31, 31, 31, 12319, 28703, 63519, 129055, 262143, 524287] (.pur 0 (.pur 1 (.pur 2 (.pur 3 (.pur 4 (.ite 4 (.pur 5 (.pur 6 (.pur 7 (.pur 8 (.pur 9 (.pur 11 (.pur 12 (.pur 13 (.pur 14 (.pur 15 (.pur 16 (.hld 10 (.hld 17 (.act 18 (.pur 19 .fin))))))))))))))) (.skp 5 (.skp 6 (.skp 7 (.skp 8 (.skp 9 (.skp 10 (.skp 11 (.skp 12 (.skp 13 (.skp 14 (.skp 15 (.skp 16 (.skp 17 (.skp 18 (.pur 19 .fin))))))))))))))))))))))
  (.c (.r [.plain 3]) .s))
  (.q (.q (.d [0, 0, 0, 6, 15, 31, 0, 0, 0, 384, 960, 1984, 4095, 8191] (.pur 0 (.pur 1 (.pur 2 (.pur 3 (.pur 4 (.pur 6 (.pur 7 (.pur 8 (.pur 9 (.pur 10 (.hld 5 (.hld 11 (.act 12 (.pur 13 .fin))))))))))))))) (.c .s .s)) (.q (.d [0, 0, 0, 6, 0, 0, 0, 96, 0, 0, 0, 1536, 3840, 7936, 0, 0, 0, 98304, 245760, 507904, 1048335, 2096911, 4194303, 8388607] (.pur 0 (.pur 1 (.pur 2 (.pur 3 (.pur 4 (.pur 5 (.pur 6 (.pur 7 (.pur 8 (.pur 9 (.pur 10 (.pur 11 (.pur 12 (.pur 14 (.pur 15 (.pur 16 (.pur 17 (.pur 18 (.hld 13 (.hld 19 (.pur 20 (.act 21 (.pur 22 (.act 23 .fin))))))))))))))))))))))))) (.r [.plain 2]))))))))))
def s85 (data0 lo1 hi2 first3 : Value) (K : Value → World → Prop) (w : World) : Prop :=
 LoopS 1 (fun L0 (root8 : Value) (w : World) =>
 PureS (binV .mul (Value.int .i64 2) root8) fun t12 =>
 PureS (binV .add t12 (Value.int .i64 1)) fun t13 =>
 PureS (binV .geq t13 hi2) fun t16 =>
 CondS t16 (
 K (Value.tuple [].toArray) w
 ) (
 JoinS (fun (child9 : Value) (w : World) =>
 DrawS fun S2 => S2 w.drew ∧ (
 PureS (binV .add first3 root8) fun t42 =>
 PureS (indexAddrV 1 data0 t42) fun t43 =>
 PureS (binV .add first3 child9) fun t48 =>
 PureS (indexAddrV 1 data0 t48) fun t49 =>
 HeldC S2 t43 (fun t44 =>
 HeldC S2 t49 (fun t50 =>
 CallS Try.prog 80 [t44, t50].toArray (fun t51 w =>
 PureS (notV t51) fun t52 =>
 CondS t52 (
 K (Value.tuple [].toArray) w
 ) (
 DrawS fun S3 => S3 w.drew ∧ (
 PureS (binV .add first3 root8) fun t56 =>
 PureS (binV .add first3 child9) fun t60 =>
 PureS (binV .add first3 child9) fun t64 =>
 PureS (indexAddrV 1 data0 t64) fun t65 =>
 PureS (binV .add first3 root8) fun t70 =>
 PureS (indexAddrV 1 data0 t70) fun t71 =>
 HeldC S3 t65 (fun t66 =>
 HeldC S3 t71 (fun t72 =>
 PureS (indexAddrV 1 data0 t56) fun t73 =>
 StoreC t73 t66 (fun w =>
 PureS (indexAddrV 1 data0 t60) fun t74 =>
 StoreC t74 t72 (fun w =>
 L0 child9 w
 ) w
 ) w.drew
 )
 )
 )
 )
 ) w.drew
 )
 )
 )
 ) fun J1 =>
 JoinS (fun (t36 : Value) (w : World) =>
 CondS t36 (
 PureS (binV .add t13 (Value.int .i64 1)) fun t38 =>
 J1 t38 w
 ) (
 J1 t13 w
 )
 ) fun J4 =>
 DrawS fun S5 => S5 w.drew ∧ (
 PureS (binV .add t13 (Value.int .i64 1)) fun t18 =>
 PureS (binV .lss t18 hi2) fun t20 =>
 CondS t20 (
 PureS (binV .add first3 t13) fun t25 =>
 PureS (indexAddrV 1 data0 t25) fun t26 =>
 PureS (binV .add first3 t13) fun t31 =>
 PureS (binV .add t31 (Value.int .i64 1)) fun t32 =>
 PureS (indexAddrV 1 data0 t32) fun t33 =>
 HeldC S5 t26 (fun t27 =>
 HeldC S5 t33 (fun t34 =>
 CallS Try.prog 80 [t27, t34].toArray (fun t35 w =>
 PureS (pickV (Value.bool true) t35 (Value.bool false)) fun t36_1 =>
 J4 t36_1 w
 ) w.drew
 )
 )
 ) (
 PureS (pickV (Value.bool false) undef (Value.bool false)) fun t36_2 =>
 J4 t36_2 w.drew
 )
 )
 )
 ) lo1 w
theorem s85_den (data0 lo1 hi2 first3 : Value) (K : Value → World → Prop) (w : World) : denFn Try.prog false (bodyOf Try.f85) Try.f85.results a85 [data0, lo1, hi2, first3] K NoP w = s85 data0 lo1 hi2 first3 K w := by kernel_rfl
theorem s85_dst : dstsOk (4 + 72) (bodyOf Try.f85) = true := by kernel_rfl
theorem s85_ann : annOk (bodyOf Try.f85) a85 = true := by kernel_rfl
theorem s85_call {data0 lo1 hi2 first3 : Value} {K : Value → World → Prop} {w : World} (hm : Try.prog.follows .mixedOrders = true) (h : s85 data0 lo1 hi2 first3 K w) : CallS Try.prog 85 #[data0, lo1, hi2, first3] K w :=
  fn_call (args := [data0, lo1, hi2, first3]) (m := 72) hm Try.func85 (by kernel_rfl) (rs := Try.f85.results) rfl Try.ntmps85 s85_dst s85_ann (by rw [s85_den]; exact h)

/-! number 86 -/
def a86 : Ann :=
 (.q (.r [.plain 1]) (.q (.r [.plain 5]) .s))
def s86 (length0 : Value) (K : Value → World → Prop) (w : World) : Prop :=
 PureS (convIntV .u64 length0) fun t4 =>
 CallS Try.prog 72 [t4].toArray (fun t5 w =>
 PureS (binV .shl (Value.int .u64 1) t5) fun t6 =>
 K t6 w
 ) w
theorem s86_den (length0 : Value) (K : Value → World → Prop) (w : World) : denFn Try.prog false (bodyOf Try.f86) Try.f86.results a86 [length0] K NoP w = s86 length0 K w := by kernel_rfl
theorem s86_dst : dstsOk (1 + 6) (bodyOf Try.f86) = true := by kernel_rfl
theorem s86_ann : annOk (bodyOf Try.f86) a86 = true := by kernel_rfl
theorem s86_call {length0 : Value} {K : Value → World → Prop} {w : World} (hm : Try.prog.follows .mixedOrders = true) (h : s86 length0 K w) : CallS Try.prog 86 #[length0] K w :=
  fn_call (args := [length0]) (m := 6) hm Try.func86 (by kernel_rfl) (rs := Try.f86.results) rfl Try.ntmps86 s86_dst s86_ann (by rw [s86_den]; exact h)

/-! number 87 -/
def a87 : Ann :=
 (.q (.r [.plain 1]) (.q (.d [0, 1, 3, 0, 8, 24, 56, 127, 255, 511] (.pur 0 (.pur 1 (.pur 3 (.pur 4 (.hld 2 (.hld 5 (.pur 6 (.pur 7 (.pur 8 (.act 9 .fin))))))))))) (.q (.d [0, 1, 3, 0, 8, 24, 56, 127, 255, 511] (.pur 0 (.pur 1 (.pur 3 (.pur 4 (.hld 2 (.hld 5 (.pur 6 (.pur 7 (.pur 8 (.act 9 .fin))))))))))) (.q (.d [0, 1, 3, 0, 8, 24, 56, 127, 255, 511] (.pur 0 (.pur 1 (.pur 3 (.pur 4 (.hld 2 (.hld 5 (.pur 6 (.pur 7 (.pur 8 (.act 9 .fin))))))))))) (.q (.r [.plain 4]) .s)))))
def s87 (r0 : Value) (K : Value → World → Prop) (w : World) : Prop :=
 DrawS fun S0 => S0 w.drew ∧ (
 PureS (nilV r0) fun t4 =>
 PureS (nilV r0) fun t7 =>
 HeldC S0 t4 (fun t5 =>
 HeldC S0 t7 (fun t8 =>
 PureS (binV .shl t8 (Value.int .u64 13)) fun t9 =>
 PureS (binV .xor t5 t9) fun t10 =>
 PureS (nilV r0) fun t11 =>
 StoreC t11 t10 (fun w =>
 DrawS fun S1 => S1 w.drew ∧ (
 PureS (nilV r0) fun t13 =>
 PureS (nilV r0) fun t16 =>
 HeldC S1 t13 (fun t14 =>
 HeldC S1 t16 (fun t17 =>
 PureS (binV .shr t17 (Value.int .u64 7)) fun t18 =>
 PureS (binV .xor t14 t18) fun t19 =>
 PureS (nilV r0) fun t20 =>
 StoreC t20 t19 (fun w =>
 DrawS fun S2 => S2 w.drew ∧ (
 PureS (nilV r0) fun t22 =>
 PureS (nilV r0) fun t25 =>
 HeldC S2 t22 (fun t23 =>
 HeldC S2 t25 (fun t26 =>
 PureS (binV .shl t26 (Value.int .u64 17)) fun t27 =>
 PureS (binV .xor t23 t27) fun t28 =>
 PureS (nilV r0) fun t29 =>
 StoreC t29 t28 (fun w =>
 PureS (nilV r0) fun t31 =>
 LoadC t31 (fun t32 w =>
 K t32 w
 ) w
 ) w.drew
 )
 )
 )
 ) w.drew
 )
 )
 )
 ) w.drew
 )
 )
 )
theorem s87_den (r0 : Value) (K : Value → World → Prop) (w : World) : denFn Try.prog false (bodyOf Try.f87) Try.f87.results a87 [r0] K NoP w = s87 r0 K w := by kernel_rfl
theorem s87_dst : dstsOk (1 + 32) (bodyOf Try.f87) = true := by kernel_rfl
theorem s87_ann : annOk (bodyOf Try.f87) a87 = true := by kernel_rfl
theorem s87_call {r0 : Value} {K : Value → World → Prop} {w : World} (hm : Try.prog.follows .mixedOrders = true) (h : s87 r0 K w) : CallS Try.prog 87 #[r0] K w :=
  fn_call (args := [r0]) (m := 32) hm Try.func87 (by kernel_rfl) (rs := Try.f87.results) rfl Try.ntmps87 s87_dst s87_ann (by rw [s87_den]; exact h)

/-! number 88 -/
def a88 : Ann :=
 (.q (.r [.plain 1]) (.q (.r [.plain 9]) .s))
def s88 (data0 a1 swaps2 : Value) (K : Value → World → Prop) (w : World) : Prop :=
 PureS (binV .sub a1 (Value.int .i64 1)) fun t9 =>
 PureS (binV .add a1 (Value.int .i64 1)) fun t12 =>
 CallS Try.prog 89 [data0, t9, a1, t12, swaps2].toArray (fun t14 w =>
 K t14 w
 ) w
theorem s88_den (data0 a1 swaps2 : Value) (K : Value → World → Prop) (w : World) : denFn Try.prog false (bodyOf Try.f88) Try.f88.results a88 [data0, a1, swaps2] K NoP w = s88 data0 a1 swaps2 K w := by kernel_rfl
theorem s88_dst : dstsOk (3 + 12) (bodyOf Try.f88) = true := by kernel_rfl
theorem s88_ann : annOk (bodyOf Try.f88) a88 = true := by kernel_rfl
theorem s88_call {data0 a1 swaps2 : Value} {K : Value → World → Prop} {w : World} (hm : Try.prog.follows .mixedOrders = true) (h : s88 data0 a1 swaps2 K w) : CallS Try.prog 88 #[data0, a1, swaps2] K w :=
  fn_call (args := [data0, a1, swaps2]) (m := 12) hm Try.func88 (by kernel_rfl) (rs := Try.f88.results) rfl Try.ntmps88 s88_dst s88_ann (by rw [s88_den]; exact h)

/-! number 89 -/
def a89 : Ann :=
 (.q (.r [.plain 1]) (.q (.r [.plain 10]) (.q (.r [.plain 10]) (.q (.r [.plain 10]) (.q (.r [.plain 2]) .s)))))
def s89 (data0 a1 b2 c3 swaps4 : Value) (K : Value → World → Prop) (w : World) : Prop :=
 CallS Try.prog 91 [data0, a1, b2, swaps4].toArray (fun t16 w =>
 PureS (extractV 0 t16) fun t17 =>
 PureS (extractV 1 t16) fun t18 =>
 CallS Try.prog 91 [data0, t18, c3, swaps4].toArray (fun t24 w =>
 PureS (extractV 0 t24) fun t25 =>
 PureS (extractV 1 t24) fun t26 =>
 CallS Try.prog 91 [data0, t17, t25, swaps4].toArray (fun t32 w =>
 PureS (extractV 0 t32) fun t33 =>
 PureS (extractV 1 t32) fun t34 =>
 K t34 w
 ) w
 ) w
 ) w
theorem s89_den (data0 a1 b2 c3 swaps4 : Value) (K : Value → World → Prop) (w : World) : denFn Try.prog false (bodyOf Try.f89) Try.f89.results a89 [data0, a1, b2, c3, swaps4] K NoP w = s89 data0 a1 b2 c3 swaps4 K w := by kernel_rfl
theorem s89_dst : dstsOk (5 + 31) (bodyOf Try.f89) = true := by kernel_rfl
theorem s89_ann : annOk (bodyOf Try.f89) a89 = true := by kernel_rfl
theorem s89_call {data0 a1 b2 c3 swaps4 : Value} {K : Value → World → Prop} {w : World} (hm : Try.prog.follows .mixedOrders = true) (h : s89 data0 a1 b2 c3 swaps4 K w) : CallS Try.prog 89 #[data0, a1, b2, c3, swaps4] K w :=
  fn_call (args := [data0, a1, b2, c3, swaps4]) (m := 31) hm Try.func89 (by kernel_rfl) (rs := Try.f89.results) rfl Try.ntmps89 s89_dst s89_ann (by rw [s89_den]; exact h)

/-! number 90 -/
def a90 : Ann :=
 (.q (.r [.plain 1]) (.q (.r [.plain 4]) .s))
def s90 (x0 : Value) (K : Value → World → Prop) (w : World) : Prop :=
 PureS (binV .neq x0 x0) fun t5 =>
 K t5 w
theorem s90_den (x0 : Value) (K : Value → World → Prop) (w : World) : denFn Try.prog false (bodyOf Try.f90) Try.f90.results a90 [x0] K NoP w = s90 x0 K w := by kernel_rfl
theorem s90_dst : dstsOk (1 + 5) (bodyOf Try.f90) = true := by kernel_rfl
theorem s90_ann : annOk (bodyOf Try.f90) a90 = true := by kernel_rfl
theorem s90_call {x0 : Value} {K : Value → World → Prop} {w : World} (hm : Try.prog.follows .mixedOrders = true) (h : s90 x0 K w) : CallS Try.prog 90 #[x0] K w :=
  fn_call (args := [x0]) (m := 5) hm Try.func90 (by kernel_rfl) (rs := Try.f90.results) rfl Try.ntmps90 s90_dst s90_ann (by rw [s90_den]; exact h)

/-! number 91 -/
def a91 : Ann :=
 (.q (.r [.plain 2]) (.q (.q (.d [0, 0, 3, 7, 0, 0, 48, 112, 255] (.pur 0 (.pur 1 (.pur 2 (.pur 4 (.pur 5 (.pur 6 (.hld 3 (.hld 7 (.act 8 .fin)))))))))) (.c (.q (.r [.plain 6]) (.q (.r [.plain 4]) .s)) .s)) (.q (.r [.plain 4]) .s)))
def s91 (data0 a1 b2 swaps3 : Value) (K : Value → World → Prop) (w : World) : Prop :=
 DrawS fun S0 => S0 w.drew ∧ (
 PureS (indexAddrV 1 data0 b2) fun t12 =>
 PureS (indexAddrV 1 data0 a1) fun t16 =>
 HeldC S0 t12 (fun t13 =>
 HeldC S0 t16 (fun t17 =>
 CallS Try.prog 80 [t13, t17].toArray (fun t18 w =>
 CondS t18 (
 PureS (nilV swaps3) fun t20 =>
 LoadC t20 (fun t21 w =>
 PureS (binV .add t21 (Value.int .i64 1)) fun t22 =>
 PureS (nilV swaps3) fun t23 =>
 StoreC t23 t22 (fun w =>
 K (Value.tuple [b2, a1].toArray) w
 ) w
 ) w
 ) (
 K (Value.tuple [a1, b2].toArray) w
 )
 ) w.drew
 )
 )
 )
theorem s91_den (data0 a1 b2 swaps3 : Value) (K : Value → World → Prop) (w : World) : denFn Try.prog false (bodyOf Try.f91) Try.f91.results a91 [data0, a1, b2, swaps3] K NoP w = s91 data0 a1 b2 swaps3 K w := by kernel_rfl
theorem s91_dst : dstsOk (4 + 24) (bodyOf Try.f91) = true := by kernel_rfl
theorem s91_ann : annOk (bodyOf Try.f91) a91 = true := by kernel_rfl
theorem s91_call {data0 a1 b2 swaps3 : Value} {K : Value → World → Prop} {w : World} (hm : Try.prog.follows .mixedOrders = true) (h : s91 data0 a1 b2 swaps3 K w) : CallS Try.prog 91 #[data0, a1, b2, swaps3] K w :=
  fn_call (args := [data0, a1, b2, swaps3]) (m := 24) hm Try.func91 (by kernel_rfl) (rs := Try.f91.results) rfl Try.ntmps91 s91_dst s91_ann (by rw [s91_den]; exact h)
end Go.Proofs.Ytambcnlkdnmekaa
