/- Several texts of ours, laid one behind the other. -/
import Derived.Test.YtkladgpaicolnaaMD2
import Derived.Test.YtkladgpaicolnaaProg
import Derived.Test.YtkladgpaicolnaaChecked
import Derived.Eval
/-! Laid out by a program of ours: what each function of the cut comes to, over named values; and that it is so. -/
namespace Go.Proofs.Ytkladgpaicolnaa
set_option linter.unusedVariables false
set_option maxRecDepth 100000
open Go SG

/-! number 14 -/
def a14 : Ann :=
 (.q (.r [.plain 1]) (.q (.r [.plain 1]) (.j [3] 281474976710648 (.q (.r [.plain 1]) (.b (.l [3, 4] 281474976710648 (.q (.q (.r [.plain 7]) (.c .s .s)) (.j [3] 281474976677928 (.b (.q (.r [.plain 1]) (.b (.l [3, 5] 281474976677928 (.q (.q (.r [.plain 11, .grp 7 [32] 8522825728, .plain 1]) (.c .s .s)) (.q (.b (.r [.plain 13])) (.r [.plain 3])))))))
  (.r [.plain 3]))))))
  (.q (.r [.plain 2]) .s))))
def s14 (r0 : Value) (K : Value → World → Prop) (w : World) : Prop :=
 JoinS (fun (out3 : Value) (w : World) =>
 K out3 w
 ) fun J0 =>
 LoopS 2 (fun L1 (out3_1 i4 : Value) (w : World) =>
 PureS (nilV r0) fun t8 =>
 PureS (fieldAddrV 0 t8) fun t9 =>
 LoadC t9 (fun t10 w =>
 PureS (lenSliceV t10) fun t11 =>
 PureS (binV .lss i4 t11) fun t12 =>
 CondS t12 (
 JoinS (fun (out3_2 : Value) (w : World) =>
 PureS (binV .add i4 (Value.int .i64 1)) fun t14 =>
 L1 out3_2 t14 w
 ) fun J2 =>
 LoopS 2 (fun L3 (out3_3 k5 : Value) (w : World) =>
 PureS (nilV r0) fun t17 =>
 PureS (fieldAddrV 0 t17) fun t18 =>
 LoadC t18 (fun t19 w =>
 PureS (indexAddrV 1 t19 i4) fun t21 =>
 LoadC t21 (fun t22 w =>
 PureS (lenSliceV t22) fun t23 =>
 PureS (binV .lss k5 t23) fun t24 =>
 JoinS (fun (t32 : Value) (w : World) =>
 PureS (pickV t24 t32 (Value.bool false)) fun t33 =>
 CondS t33 (
 PureS (nilV r0) fun t38 =>
 PureS (fieldAddrV 0 t38) fun t39 =>
 LoadC t39 (fun t40 w =>
 PureS (indexAddrV 1 t40 i4) fun t42 =>
 LoadC t42 (fun t43 w =>
 PureS (indexAddrV 1 t43 k5) fun t45 =>
 LoadC t45 (fun t46 w =>
 CallS Try.prog 34 [out3_3, t46].toArray (fun t47 w =>
 PureS (binV .add k5 (Value.int .i64 1)) fun t35 =>
 L3 t47 t35 w
 ) w
 ) w
 ) w
 ) w
 ) (
 J2 out3_3 w
 )
 ) fun J4 =>
 IfB t24 true (
 PureS (nilV r0) fun t27 =>
 PureS (fieldAddrV 1 t27) fun t28 =>
 LoadC t28 (fun t29 w =>
 PureS (indexAddrV 1 t29 i4) fun t31 =>
 LoadC t31 (fun t32_1 w =>
 J4 t32_1 w
 ) w
 ) w
 ) (
 J4 undef w
 )
 ) w
 ) w
 ) out3_1 (Value.int .i64 0) w
 ) (
 J0 out3_1 w
 )
 ) w
 ) (Value.slice none 0 0) (Value.int .i64 0) w
theorem s14_den (r0 : Value) (K : Value → World → Prop) (w : World) : denFn Try.prog false (bodyOf Try.f14) Try.f14.results a14 [r0] K NoP w = s14 r0 K w := by kernel_rfl
theorem s14_dst : dstsOk (1 + 48) (bodyOf Try.f14) = true := by kernel_rfl
theorem s14_ann : annOk (bodyOf Try.f14) a14 = true := by kernel_rfl
theorem s14_call {r0 : Value} {K : Value → World → Prop} {w : World} (hm : Try.prog.follows .mixedOrders = true) (h : s14 r0 K w) : CallS Try.prog 14 #[r0] K w :=
  fn_call (args := [r0]) (m := 48) hm Try.func14 (by kernel_rfl) (rs := Try.f14.results) rfl Try.ntmps14 s14_dst s14_ann (by rw [s14_den]; exact h)

/-! number 15 -/
def a15 : Ann :=
 (.q (.r [.plain 1]) (.q (.r [.plain 7]) .s))
def s15 (r0 file1 : Value) (K : Value → World → Prop) (w : World) : Prop :=
 PureS (nilV r0) fun t6 =>
 PureS (fieldAddrV 1 t6) fun t7 =>
 LoadC t7 (fun t8 w =>
 RunS Try.prog (Instr.lookup 61 t8 file1 false) (fun t10 w =>
 K t10 w
 ) w
 ) w
theorem s15_den (r0 file1 : Value) (K : Value → World → Prop) (w : World) : denFn Try.prog false (bodyOf Try.f15) Try.f15.results a15 [r0, file1] K NoP w = s15 r0 file1 K w := by kernel_rfl
theorem s15_dst : dstsOk (2 + 9) (bodyOf Try.f15) = true := by kernel_rfl
theorem s15_ann : annOk (bodyOf Try.f15) a15 = true := by kernel_rfl
theorem s15_call {r0 file1 : Value} {K : Value → World → Prop} {w : World} (hm : Try.prog.follows .mixedOrders = true) (h : s15 r0 file1 K w) : CallS Try.prog 15 #[r0, file1] K w :=
  fn_call (args := [r0, file1]) (m := 9) hm Try.func15 (by kernel_rfl) (rs := Try.f15.results) rfl Try.ntmps15 s15_dst s15_ann (by rw [s15_den]; exact h)

/-! number 16 -/
def a16 : Ann :=
 (.q (.r [.plain 1]) (.q (.r [.plain 1]) (.j [5] 4503599627370464 (.q (.r [.plain 1]) (.b (.l [5, 6] 4503599627370464 (.q (.q (.r [.plain 7]) (.c .s .s)) (.j [5] 4503599627239584 (.b (.q (.r [.plain 1]) (.b (.l [5, 7] 4503599627239584 (.q (.q (.r [.plain 11, .grp 7 [34] 34091302912, .plain 1]) (.c .s .s)) (.j [5] 4503324749463584 (.b (.q (.r [.plain 12]) (.c (.r [.plain 3]) .s)))
  (.r [.plain 3])))))))
  (.r [.plain 3]))))))
  (.q (.r [.plain 2]) .s))))
def s16 (r0 file1 : Value) (K : Value → World → Prop) (w : World) : Prop :=
 JoinS (fun (n5 : Value) (w : World) =>
 K n5 w
 ) fun J0 =>
 LoopS 2 (fun L1 (n5_1 i6 : Value) (w : World) =>
 PureS (nilV r0) fun t10 =>
 PureS (fieldAddrV 0 t10) fun t11 =>
 LoadC t11 (fun t12 w =>
 PureS (lenSliceV t12) fun t13 =>
 PureS (binV .lss i6 t13) fun t14 =>
 CondS t14 (
 JoinS (fun (n5_2 : Value) (w : World) =>
 PureS (binV .add i6 (Value.int .i64 1)) fun t16 =>
 L1 n5_2 t16 w
 ) fun J2 =>
 LoopS 2 (fun L3 (n5_3 k7 : Value) (w : World) =>
 PureS (nilV r0) fun t19 =>
 PureS (fieldAddrV 0 t19) fun t20 =>
 LoadC t20 (fun t21 w =>
 PureS (indexAddrV 1 t21 i6) fun t23 =>
 LoadC t23 (fun t24 w =>
 PureS (lenSliceV t24) fun t25 =>
 PureS (binV .lss k7 t25) fun t26 =>
 JoinS (fun (t34 : Value) (w : World) =>
 PureS (pickV t26 t34 (Value.bool false)) fun t35 =>
 CondS t35 (
 JoinS (fun (n5_4 : Value) (w : World) =>
 PureS (binV .add k7 (Value.int .i64 1)) fun t37 =>
 L3 n5_4 t37 w
 ) fun J5 =>
 PureS (nilV r0) fun t39 =>
 PureS (fieldAddrV 0 t39) fun t40 =>
 LoadC t40 (fun t41 w =>
 PureS (indexAddrV 1 t41 i6) fun t43 =>
 LoadC t43 (fun t44 w =>
 PureS (indexAddrV 1 t44 k7) fun t46 =>
 LoadC t46 (fun t47 w =>
 PureS (binV .eql t47 file1) fun t49 =>
 CondS t49 (
 PureS (binV .add n5_3 (Value.int .i64 1)) fun t51 =>
 J5 t51 w
 ) (
 J5 n5_3 w
 )
 ) w
 ) w
 ) w
 ) (
 J2 n5_3 w
 )
 ) fun J4 =>
 IfB t26 true (
 PureS (nilV r0) fun t29 =>
 PureS (fieldAddrV 1 t29) fun t30 =>
 LoadC t30 (fun t31 w =>
 PureS (indexAddrV 1 t31 i6) fun t33 =>
 LoadC t33 (fun t34_1 w =>
 J4 t34_1 w
 ) w
 ) w
 ) (
 J4 undef w
 )
 ) w
 ) w
 ) n5_1 (Value.int .i64 0) w
 ) (
 J0 n5_1 w
 )
 ) w
 ) (Value.int .i64 0) (Value.int .i64 0) w
theorem s16_den (r0 file1 : Value) (K : Value → World → Prop) (w : World) : denFn Try.prog false (bodyOf Try.f16) Try.f16.results a16 [r0, file1] K NoP w = s16 r0 file1 K w := by kernel_rfl
theorem s16_dst : dstsOk (2 + 51) (bodyOf Try.f16) = true := by kernel_rfl
theorem s16_ann : annOk (bodyOf Try.f16) a16 = true := by kernel_rfl
theorem s16_call {r0 file1 : Value} {K : Value → World → Prop} {w : World} (hm : Try.prog.follows .mixedOrders = true) (h : s16 r0 file1 K w) : CallS Try.prog 16 #[r0, file1] K w :=
  fn_call (args := [r0, file1]) (m := 51) hm Try.func16 (by kernel_rfl) (rs := Try.f16.results) rfl Try.ntmps16 s16_dst s16_ann (by rw [s16_den]; exact h)

/-! number 17 -/
def a17 : Ann :=
 (.q (.r [.plain 1]) (.q (.r [.plain 2]) (.q (.q (.r [.plain 2]) (.c (.q (.r [.plain 1]) .s) .s)) (.q (.r [.plain 7]) (.q (.r [.plain 7]) (.q (.r [.plain 7]) (.q (.q (.r [.plain 3, .grp 2 [32] 6442450944, .plain 2, .grp 2 [36] 103079215104, .plain 2, .grp 4 [42] 8246337208320, .plain 2, .grp 4 [48] 527765581332480, .plain 2, .grp 4 [54] 33776997205278720, .plain 1]) (.c (.q (.r [.plain 1]) .s) .s)) (.q (.r [.plain 7]) (.q (.r [.plain 5, .grp 1 [66] 73786976294838206464, .plain 2, .grp 2 [70] 1770887431076116955136, .plain 2]) .s)))))))))
def s17 (K : Value → World → Prop) (w : World) : Prop :=
 CallS Try.prog 18 [].toArray (fun t10 w =>
 RunS Try.prog (do eqGuard .eql 43 (Operand.tmp 11) (Operand.const (Value.pointer none)) t10 (Value.pointer none); binOp .eql 43 t10 (Value.pointer none)) (fun t12 w =>
 CondS t12 (
 K (Value.bool false) w
 ) (
 CallS Try.prog 19 [t10, (Value.int .u64 5)].toArray (fun t15 w =>
 PureS (extractV 0 t15) fun t16 =>
 PureS (extractV 1 t15) fun t17 =>
 CallS Try.prog 19 [t10, (Value.int .u64 9)].toArray (fun t20 w =>
 PureS (extractV 0 t20) fun t21 =>
 PureS (extractV 1 t20) fun t22 =>
 CallS Try.prog 19 [t10, (Value.int .u64 5)].toArray (fun t25 w =>
 PureS (extractV 0 t25) fun t26 =>
 PureS (extractV 1 t25) fun t27 =>
 PureS (binV .neq t17 (Value.int .i64 0)) fun t29 =>
 JoinS (fun (t32 : Value) (w : World) =>
 PureS (pickV t29 (Value.bool true) t32) fun t33 =>
 JoinS (fun (t36 : Value) (w : World) =>
 PureS (pickV t33 (Value.bool true) t36) fun t37 =>
 JoinS (fun (t42 : Value) (w : World) =>
 PureS (pickV t37 (Value.bool true) t42) fun t43 =>
 JoinS (fun (t48 : Value) (w : World) =>
 PureS (pickV t43 (Value.bool true) t48) fun t49 =>
 JoinS (fun (t54 : Value) (w : World) =>
 PureS (pickV t49 (Value.bool true) t54) fun t55 =>
 CondS t55 (
 K (Value.bool false) w
 ) (
 CallS Try.prog 23 [t10, (Value.int .u64 6)].toArray (fun t58 w =>
 PureS (extractV 0 t58) fun t59 =>
 PureS (extractV 1 t58) fun t60 =>
 CallS Try.prog 21 [t10].toArray (fun t62 w =>
 PureS (lenSliceV t62) fun t63 =>
 PureS (binV .eql t63 (Value.int .i64 1)) fun t64 =>
 JoinS (fun (t66 : Value) (w : World) =>
 PureS (pickV t64 t66 (Value.bool false)) fun t67 =>
 JoinS (fun (t70 : Value) (w : World) =>
 PureS (pickV t67 t70 (Value.bool false)) fun t71 =>
 K t71 w
 ) fun J6 =>
 IfB t67 true (
 PureS (binV .eql t59 (Value.int .u64 9)) fun t70_1 =>
 J6 t70_1 w
 ) (
 J6 undef w
 )
 ) fun J5 =>
 IfB t64 true (
 J5 t60 w
 ) (
 J5 undef w
 )
 ) w
 ) w
 )
 ) fun J4 =>
 IfB t49 false (
 CallS Try.prog 20 [t10, t26].toArray (fun t53 w =>
 PureS (binV .neq t53 (Value.int .i64 0)) fun t54_1 =>
 J4 t54_1 w
 ) w
 ) (
 J4 undef w
 )
 ) fun J3 =>
 IfB t43 false (
 CallS Try.prog 21 [t10].toArray (fun t46 w =>
 PureS (lenSliceV t46) fun t47 =>
 PureS (binV .neq t47 (Value.int .i64 2)) fun t48_1 =>
 J3 t48_1 w
 ) w
 ) (
 J3 undef w
 )
 ) fun J2 =>
 IfB t37 false (
 CallS Try.prog 20 [t10, t16].toArray (fun t41 w =>
 PureS (binV .neq t41 (Value.int .i64 0)) fun t42_1 =>
 J2 t42_1 w
 ) w
 ) (
 J2 undef w
 )
 ) fun J1 =>
 IfB t33 false (
 PureS (binV .neq t27 (Value.int .i64 0)) fun t36_1 =>
 J1 t36_1 w
 ) (
 J1 undef w
 )
 ) fun J0 =>
 IfB t29 false (
 PureS (binV .neq t22 (Value.int .i64 0)) fun t32_1 =>
 J0 t32_1 w
 ) (
 J0 undef w
 )
 ) w
 ) w
 ) w
 )
 ) w
 ) w
theorem s17_den (K : Value → World → Prop) (w : World) : denFn Try.prog false (bodyOf Try.f17) Try.f17.results a17 [] K NoP w = s17 K w := by kernel_rfl
theorem s17_dst : dstsOk (0 + 72) (bodyOf Try.f17) = true := by kernel_rfl
theorem s17_ann : annOk (bodyOf Try.f17) a17 = true := by kernel_rfl
theorem s17_call {K : Value → World → Prop} {w : World} (hm : Try.prog.follows .mixedOrders = true) (h : s17 K w) : CallS Try.prog 17 #[] K w :=
  fn_call (args := []) (m := 72) hm Try.func17 (by kernel_rfl) (rs := Try.f17.results) rfl Try.ntmps17 s17_dst s17_ann (by rw [s17_den]; exact h)

/-! number 18 -/
def a18 : Ann :=
 (.q (.r [.plain 1]) (.q (.r [.plain 4]) .s))
def s18 (K : Value → World → Prop) (w : World) : Prop :=
 RunS Try.prog (Instr.makeMap 45 none) (fun t1 w =>
 RunS Try.prog (Instr.build 72 [(0, t1)].toArray) (fun t2 w =>
 BoxS 72 t2 (fun t3 w =>
 K t3 w
 ) w
 ) w
 ) w
theorem s18_den (K : Value → World → Prop) (w : World) : denFn Try.prog false (bodyOf Try.f18) Try.f18.results a18 [] K NoP w = s18 K w := by kernel_rfl
theorem s18_dst : dstsOk (0 + 4) (bodyOf Try.f18) = true := by kernel_rfl
theorem s18_ann : annOk (bodyOf Try.f18) a18 = true := by kernel_rfl
theorem s18_call {K : Value → World → Prop} {w : World} (hm : Try.prog.follows .mixedOrders = true) (h : s18 K w) : CallS Try.prog 18 #[] K w :=
  fn_call (args := []) (m := 4) hm Try.func18 (by kernel_rfl) (rs := Try.f18.results) rfl Try.ntmps18 s18_dst s18_ann (by rw [s18_den]; exact h)

/-! number 19 -/
def a19 : Ann :=
 (.q (.r [.plain 2]) (.q (.q (.r [.plain 2]) (.c (.q (.r [.plain 2]) .s) .s)) (.q (.q (.r [.plain 6]) (.c (.q (.r [.plain 2]) .s) .s)) (.q (.r [.plain 8]) (.q (.d [0, 1, 3, 7, 0, 16, 48, 112, 0, 511] (.pur 0 (.pur 1 (.pur 2 (.pur 4 (.pur 5 (.pur 6 (.pur 8 (.hld 3 (.hld 7 (.act 9 .fin))))))))))) (.q (.r [.plain 6]) .s))))))
def s19 (l0 seq1 : Value) (K : Value → World → Prop) (w : World) : Prop :=
 PureS (binV .gtr seq1 (Value.int .u64 72057594037927935)) fun t7 =>
 CondS t7 (
 K (Value.tuple [(Value.int .i64 0), (Value.int .i64 1)].toArray) w
 ) (
 PureS (nilV l0) fun t9 =>
 PureS (fieldAddrV 0 t9) fun t10 =>
 LoadC t10 (fun t11 w =>
 RunS Try.prog (Builtin.len_ #[45] 3 [t11].toArray) (fun t12 w =>
 PureS (binV .geq t12 (Value.int .i64 4096)) fun t13 =>
 CondS t13 (
 K (Value.tuple [(Value.int .i64 0), (Value.int .i64 2)].toArray) w
 ) (
 PureS (nilV l0) fun t15 =>
 PureS (fieldAddrV 1 t15) fun t16 =>
 LoadC t16 (fun t17 w =>
 PureS (binV .add t17 (Value.int .i64 1)) fun t18 =>
 PureS (nilV l0) fun t19 =>
 PureS (fieldAddrV 1 t19) fun t20 =>
 StoreC t20 t18 (fun w =>
 DrawS fun S0 => S0 w.drew ∧ (
 PureS (nilV l0) fun t22 =>
 PureS (fieldAddrV 0 t22) fun t23 =>
 PureS (nilV l0) fun t26 =>
 PureS (fieldAddrV 1 t26) fun t27 =>
 HeldC S0 t23 (fun t24 =>
 HeldC S0 t27 (fun t28 =>
 RunU Try.prog (Instr.mapUpdate 45 t24 t28 seq1) (fun w =>
 PureS (nilV l0) fun t31 =>
 PureS (fieldAddrV 1 t31) fun t32 =>
 LoadC t32 (fun t33 w =>
 K (Value.tuple [t33, (Value.int .i64 0)].toArray) w
 ) w
 ) w.drew
 )
 )
 )
 ) w
 ) w
 )
 ) w
 ) w
 )
theorem s19_den (l0 seq1 : Value) (K : Value → World → Prop) (w : World) : denFn Try.prog false (bodyOf Try.f19) Try.f19.results a19 [l0, seq1] K NoP w = s19 l0 seq1 K w := by kernel_rfl
theorem s19_dst : dstsOk (2 + 32) (bodyOf Try.f19) = true := by kernel_rfl
theorem s19_ann : annOk (bodyOf Try.f19) a19 = true := by kernel_rfl
theorem s19_call {l0 seq1 : Value} {K : Value → World → Prop} {w : World} (hm : Try.prog.follows .mixedOrders = true) (h : s19 l0 seq1 K w) : CallS Try.prog 19 #[l0, seq1] K w :=
  fn_call (args := [l0, seq1]) (m := 32) hm Try.func19 (by kernel_rfl) (rs := Try.f19.results) rfl Try.ntmps19 s19_dst s19_ann (by rw [s19_den]; exact h)

/-! number 20 -/
def a20 : Ann :=
 (.q (.r [.plain 1]) (.q (.q (.r [.plain 11]) (.q (.r [.plain 2]) (.c (.q (.r [.plain 1]) .s) .s))) (.q (.r [.plain 6]) (.q (.r [.plain 1]) .s))))
def s20 (l0 handle1 : Value) (K : Value → World → Prop) (w : World) : Prop :=
 PureS (nilV l0) fun t9 =>
 PureS (fieldAddrV 0 t9) fun t10 =>
 LoadC t10 (fun t11 w =>
 RunS Try.prog (Instr.lookup 45 t11 handle1 true) (fun t13 w =>
 PureS (extractV 0 t13) fun t14 =>
 PureS (extractV 1 t13) fun t15 =>
 PureS (notV t15) fun t17 =>
 CondS t17 (
 K (Value.int .i64 220) w
 ) (
 PureS (nilV l0) fun t19 =>
 PureS (fieldAddrV 0 t19) fun t20 =>
 LoadC t20 (fun t21 w =>
 RunS Try.prog (Builtin.delete_ #[45, 3] 0 [t21, handle1].toArray) (fun _ w =>
 K (Value.int .i64 0) w
 ) w
 ) w
 )
 ) w
 ) w
theorem s20_den (l0 handle1 : Value) (K : Value → World → Prop) (w : World) : denFn Try.prog false (bodyOf Try.f20) Try.f20.results a20 [l0, handle1] K NoP w = s20 l0 handle1 K w := by kernel_rfl
theorem s20_dst : dstsOk (2 + 21) (bodyOf Try.f20) = true := by kernel_rfl
theorem s20_ann : annOk (bodyOf Try.f20) a20 = true := by kernel_rfl
theorem s20_call {l0 handle1 : Value} {K : Value → World → Prop} {w : World} (hm : Try.prog.follows .mixedOrders = true) (h : s20 l0 handle1 K w) : CallS Try.prog 20 #[l0, handle1] K w :=
  fn_call (args := [l0, handle1]) (m := 21) hm Try.func20 (by kernel_rfl) (rs := Try.f20.results) rfl Try.ntmps20 s20_dst s20_ann (by rw [s20_den]; exact h)

/-! number 21 -/
def a21 : Ann :=
 (.q (.r [.plain 1]) (.q (.r [.plain 3]) .s))
def s21 (l0 : Value) (K : Value → World → Prop) (w : World) : Prop :=
 CallS Try.prog 37 [l0].toArray (fun t4 w =>
 K t4 w
 ) w
theorem s21_den (l0 : Value) (K : Value → World → Prop) (w : World) : denFn Try.prog false (bodyOf Try.f21) Try.f21.results a21 [l0] K NoP w = s21 l0 K w := by kernel_rfl
theorem s21_dst : dstsOk (1 + 4) (bodyOf Try.f21) = true := by kernel_rfl
theorem s21_ann : annOk (bodyOf Try.f21) a21 = true := by kernel_rfl
theorem s21_call {l0 : Value} {K : Value → World → Prop} {w : World} (hm : Try.prog.follows .mixedOrders = true) (h : s21 l0 K w) : CallS Try.prog 21 #[l0] K w :=
  fn_call (args := [l0]) (m := 4) hm Try.func21 (by kernel_rfl) (rs := Try.f21.results) rfl Try.ntmps21 s21_dst s21_ann (by rw [s21_den]; exact h)

/-! number 22 -/
def a22 : Ann :=
 (.q (.r [.plain 2]) (.q (.r [.plain 11]) (.q (.q (.r [.plain 2]) (.c (.q (.r [.plain 2]) .s) .s)) (.q (.r [.plain 3]) .s))))
def s22 (l0 handle1 : Value) (K : Value → World → Prop) (w : World) : Prop :=
 PureS (nilV l0) fun t10 =>
 PureS (fieldAddrV 0 t10) fun t11 =>
 LoadC t11 (fun t12 w =>
 RunS Try.prog (Instr.lookup 45 t12 handle1 true) (fun t14 w =>
 PureS (extractV 0 t14) fun t15 =>
 PureS (extractV 1 t14) fun t16 =>
 PureS (notV t16) fun t18 =>
 CondS t18 (
 K (Value.tuple [(Value.int .u64 0), (Value.int .i64 220)].toArray) w
 ) (
 K (Value.tuple [t15, (Value.int .i64 0)].toArray) w
 )
 ) w
 ) w
theorem s22_den (l0 handle1 : Value) (K : Value → World → Prop) (w : World) : denFn Try.prog false (bodyOf Try.f22) Try.f22.results a22 [l0, handle1] K NoP w = s22 l0 handle1 K w := by kernel_rfl
theorem s22_dst : dstsOk (2 + 18) (bodyOf Try.f22) = true := by kernel_rfl
theorem s22_ann : annOk (bodyOf Try.f22) a22 = true := by kernel_rfl
theorem s22_call {l0 handle1 : Value} {K : Value → World → Prop} {w : World} (hm : Try.prog.follows .mixedOrders = true) (h : s22 l0 handle1 K w) : CallS Try.prog 22 #[l0, handle1] K w :=
  fn_call (args := [l0, handle1]) (m := 18) hm Try.func22 (by kernel_rfl) (rs := Try.f22.results) rfl Try.ntmps22 s22_dst s22_ann (by rw [s22_den]; exact h)

/-! number 23 -/
def a23 : Ann :=
 (.q (.r [.plain 2]) (.q (.r [.plain 7]) .s))
def s23 (l0 seq1 : Value) (K : Value → World → Prop) (w : World) : Prop :=
 CallS Try.prog 38 [l0, seq1].toArray (fun t8 w =>
 PureS (extractV 0 t8) fun t9 =>
 PureS (extractV 1 t8) fun t10 =>
 K (Value.tuple [t9, t10].toArray) w
 ) w
theorem s23_den (l0 seq1 : Value) (K : Value → World → Prop) (w : World) : denFn Try.prog false (bodyOf Try.f23) Try.f23.results a23 [l0, seq1] K NoP w = s23 l0 seq1 K w := by kernel_rfl
theorem s23_dst : dstsOk (2 + 9) (bodyOf Try.f23) = true := by kernel_rfl
theorem s23_ann : annOk (bodyOf Try.f23) a23 = true := by kernel_rfl
theorem s23_call {l0 seq1 : Value} {K : Value → World → Prop} {w : World} (hm : Try.prog.follows .mixedOrders = true) (h : s23 l0 seq1 K w) : CallS Try.prog 23 #[l0, seq1] K w :=
  fn_call (args := [l0, seq1]) (m := 9) hm Try.func23 (by kernel_rfl) (rs := Try.f23.results) rfl Try.ntmps23 s23_dst s23_ann (by rw [s23_den]; exact h)

/-! number 24 -/
def a24 : Ann :=
 (.q (.r [.plain 2]) (.q (.b (.q (.r [.plain 3]) (.c (.q (.r [.plain 2]) .s) (.q (.r [.plain 4]) (.c (.q (.r [.plain 2]) .s) .s))))) (.j [] 4294959104 (.d [0, 0, 0, 4, 12, 28, 0, 64, 252, 0, 512, 1536, 3584, 0, 16380, 32765, 65533, 131069, 262143, 524287, 1048575] (.pur 0 (.pur 1 (.pur 2 (.pur 3 (.pur 4 (.pur 6 (.pur 9 (.pur 10 (.pur 11 (.hld 5 (.hld 12 (.alt 7 (.alt 8 (.act 13 (.act 14 (.pur 15 (.pur 16 (.act 17 (.pur 18 (.pur 19 (.act 20 .fin)))))))) (.act 13 (.act 8 (.act 14 (.pur 15 (.pur 16 (.act 17 (.pur 18 (.pur 19 (.act 20 .fin)))))))))) (.act 13 (.act 7 (.act 8 (.act 14 (.pur 15 (.pur 16 (.act 17 (.pur 18 (.pur 19 (.act 20 .fin)))))))))))))))))))))))
  (.q (.r [.plain 7]) .s))))
def s24 (l0 seq1 : Value) (K : Value → World → Prop) (w : World) : Prop :=
 PureS (binV .gtr seq1 (Value.int .u64 72057594037927935)) fun t8 =>
 CondS t8 (
 K (Value.tuple [(Value.int .i64 0), (Value.int .i64 1)].toArray) w
 ) (
 CallS Try.prog 31 [l0].toArray (fun t11 w =>
 PureS (binV .geq t11 (Value.int .i64 4096)) fun t12 =>
 CondS t12 (
 K (Value.tuple [(Value.int .i64 0), (Value.int .i64 2)].toArray) w
 ) (
 JoinS (fun (w : World) =>
 PureS (nilV l0) fun t33 =>
 PureS (fieldAddrV 0 t33) fun t34 =>
 LoadC t34 (fun t35 w =>
 PureS (lenSliceV t35) fun t36 =>
 K (Value.tuple [t36, (Value.int .i64 0)].toArray) w
 ) w
 ) fun J0 =>
 DrawS fun S1 => S1 w.drew ∧ (
 PureS (nilV l0) fun t16 =>
 PureS (fieldAddrV 0 t16) fun t17 =>
 PureS (nilV l0) fun t23 =>
 PureS (fieldAddrV 1 t23) fun t24 =>
 HeldC S1 t17 (fun t18 =>
 HeldC S1 t24 (fun t25 =>
 (
 RunS Try.prog (Instr.buildSlice 31 1 [(0, seq1)].toArray) (fun t20 w =>
 S1 w ∧ (
 (
 RunS Try.prog (Builtin.append_ #[31, 31] 31 [t18, t20].toArray) (fun t21 w =>
 S1 w ∧ (
 RunS Try.prog (Instr.buildSlice 27 1 [(0, (Value.bool true))].toArray) (fun t26 w =>
 S1 w ∧ (
 RunS Try.prog (Builtin.append_ #[27, 27] 27 [t25, t26].toArray) (fun t27 w =>
 PureS (nilV l0) fun t28 =>
 PureS (fieldAddrV 0 t28) fun t29 =>
 StoreC t29 t21 (fun w =>
 PureS (nilV l0) fun t30 =>
 PureS (fieldAddrV 1 t30) fun t31 =>
 StoreC t31 t27 (fun w =>
 J0 w
 ) w
 ) w
 ) w
 )
 ) w
 )
 ) w
 ) ∧ (
 RunS Try.prog (Instr.buildSlice 27 1 [(0, (Value.bool true))].toArray) (fun t26_1 w =>
 S1 w ∧ (
 RunS Try.prog (Builtin.append_ #[31, 31] 31 [t18, t20].toArray) (fun t21_1 w =>
 S1 w ∧ (
 RunS Try.prog (Builtin.append_ #[27, 27] 27 [t25, t26_1].toArray) (fun t27_1 w =>
 PureS (nilV l0) fun t28_1 =>
 PureS (fieldAddrV 0 t28_1) fun t29_1 =>
 StoreC t29_1 t21_1 (fun w =>
 PureS (nilV l0) fun t30_1 =>
 PureS (fieldAddrV 1 t30_1) fun t31_1 =>
 StoreC t31_1 t27_1 (fun w =>
 J0 w
 ) w
 ) w
 ) w
 )
 ) w
 )
 ) w
 )
 )
 ) w.drew
 ) ∧ (
 RunS Try.prog (Instr.buildSlice 27 1 [(0, (Value.bool true))].toArray) (fun t26_2 w =>
 S1 w ∧ (
 RunS Try.prog (Instr.buildSlice 31 1 [(0, seq1)].toArray) (fun t20_1 w =>
 S1 w ∧ (
 RunS Try.prog (Builtin.append_ #[31, 31] 31 [t18, t20_1].toArray) (fun t21_2 w =>
 S1 w ∧ (
 RunS Try.prog (Builtin.append_ #[27, 27] 27 [t25, t26_2].toArray) (fun t27_2 w =>
 PureS (nilV l0) fun t28_2 =>
 PureS (fieldAddrV 0 t28_2) fun t29_2 =>
 StoreC t29_2 t21_2 (fun w =>
 PureS (nilV l0) fun t30_2 =>
 PureS (fieldAddrV 1 t30_2) fun t31_2 =>
 StoreC t31_2 t27_2 (fun w =>
 J0 w
 ) w
 ) w
 ) w
 )
 ) w
 )
 ) w
 )
 ) w.drew
 )
 )
 )
 )
 )
 ) w
 )
theorem s24_den (l0 seq1 : Value) (K : Value → World → Prop) (w : World) : denFn Try.prog false (bodyOf Try.f24) Try.f24.results a24 [l0, seq1] K NoP w = s24 l0 seq1 K w := by kernel_rfl
theorem s24_dst : dstsOk (2 + 35) (bodyOf Try.f24) = true := by kernel_rfl
theorem s24_ann : annOk (bodyOf Try.f24) a24 = true := by kernel_rfl
theorem s24_call {l0 seq1 : Value} {K : Value → World → Prop} {w : World} (hm : Try.prog.follows .mixedOrders = true) (h : s24 l0 seq1 K w) : CallS Try.prog 24 #[l0, seq1] K w :=
  fn_call (args := [l0, seq1]) (m := 35) hm Try.func24 (by kernel_rfl) (rs := Try.f24.results) rfl Try.ntmps24 s24_dst s24_ann (by rw [s24_den]; exact h)

/-! number 25 -/
def a25 : Ann :=
 (.q (.r [.plain 1]) (.q (.q (.r [.plain 4]) (.c (.q (.r [.plain 1]) .s) .s)) (.q (.r [.plain 8]) (.q (.r [.plain 1]) .s))))
def s25 (l0 h1 : Value) (K : Value → World → Prop) (w : World) : Prop :=
 CallS Try.prog 39 [l0, h1].toArray (fun t7 w =>
 PureS (notV t7) fun t8 =>
 CondS t8 (
 K (Value.int .i64 220) w
 ) (
 PureS (nilV l0) fun t10 =>
 PureS (fieldAddrV 1 t10) fun t11 =>
 LoadC t11 (fun t12 w =>
 PureS (binV .sub h1 (Value.int .i64 1)) fun t14 =>
 PureS (indexAddrV 1 t12 t14) fun t15 =>
 StoreC t15 (Value.bool false) (fun w =>
 K (Value.int .i64 0) w
 ) w
 ) w
 )
 ) w
theorem s25_den (l0 h1 : Value) (K : Value → World → Prop) (w : World) : denFn Try.prog false (bodyOf Try.f25) Try.f25.results a25 [l0, h1] K NoP w = s25 l0 h1 K w := by kernel_rfl
theorem s25_dst : dstsOk (2 + 14) (bodyOf Try.f25) = true := by kernel_rfl
theorem s25_ann : annOk (bodyOf Try.f25) a25 = true := by kernel_rfl
theorem s25_call {l0 h1 : Value} {K : Value → World → Prop} {w : World} (hm : Try.prog.follows .mixedOrders = true) (h : s25 l0 h1 K w) : CallS Try.prog 25 #[l0, h1] K w :=
  fn_call (args := [l0, h1]) (m := 14) hm Try.func25 (by kernel_rfl) (rs := Try.f25.results) rfl Try.ntmps25 s25_dst s25_ann (by rw [s25_den]; exact h)

/-! number 26 -/
def a26 : Ann :=
 (.q (.r [.plain 2]) (.q (.q (.r [.plain 4]) (.c (.q (.r [.plain 2]) .s) .s)) (.q (.r [.plain 10]) .s)))
def s26 (l0 h1 : Value) (K : Value → World → Prop) (w : World) : Prop :=
 CallS Try.prog 39 [l0, h1].toArray (fun t8 w =>
 PureS (notV t8) fun t9 =>
 CondS t9 (
 K (Value.tuple [(Value.int .u64 0), (Value.int .i64 220)].toArray) w
 ) (
 PureS (nilV l0) fun t11 =>
 PureS (fieldAddrV 0 t11) fun t12 =>
 LoadC t12 (fun t13 w =>
 PureS (binV .sub h1 (Value.int .i64 1)) fun t15 =>
 PureS (indexAddrV 1 t13 t15) fun t16 =>
 LoadC t16 (fun t17 w =>
 K (Value.tuple [t17, (Value.int .i64 0)].toArray) w
 ) w
 ) w
 )
 ) w
theorem s26_den (l0 h1 : Value) (K : Value → World → Prop) (w : World) : denFn Try.prog false (bodyOf Try.f26) Try.f26.results a26 [l0, h1] K NoP w = s26 l0 h1 K w := by kernel_rfl
theorem s26_dst : dstsOk (2 + 16) (bodyOf Try.f26) = true := by kernel_rfl
theorem s26_ann : annOk (bodyOf Try.f26) a26 = true := by kernel_rfl
theorem s26_call {l0 h1 : Value} {K : Value → World → Prop} {w : World} (hm : Try.prog.follows .mixedOrders = true) (h : s26 l0 h1 K w) : CallS Try.prog 26 #[l0, h1] K w :=
  fn_call (args := [l0, h1]) (m := 16) hm Try.func26 (by kernel_rfl) (rs := Try.f26.results) rfl Try.ntmps26 s26_dst s26_ann (by rw [s26_den]; exact h)

/-! number 27 -/
def a27 : Ann :=
 (.q (.r [.plain 2]) (.q (.r [.plain 3]) (.j [] 67108016 (.q (.r [.plain 1]) (.b (.l [7] 67108016 (.q (.q (.r [.plain 4]) (.c .s .s)) (.q (.b (.q (.r [.plain 6]) (.c (.q (.r [.plain 6]) .s) .s))) (.r [.plain 3]))))))
  (.q (.r [.plain 2]) .s))))
def s27 (l0 seq1 : Value) (K : Value → World → Prop) (w : World) : Prop :=
 CallS Try.prog 28 [l0].toArray (fun t9 w =>
 JoinS (fun (w : World) =>
 K (Value.tuple [(Value.int .u64 0), (Value.bool false)].toArray) w
 ) fun J0 =>
 LoopS 1 (fun L1 (i7 : Value) (w : World) =>
 PureS (lenSliceV t9) fun t12 =>
 PureS (binV .lss i7 t12) fun t13 =>
 CondS t13 (
 PureS (indexAddrV 1 t9 i7) fun t18 =>
 LoadC t18 (fun t19 w =>
 PureS (binV .geq t19 seq1) fun t21 =>
 CondS t21 (
 PureS (indexAddrV 1 t9 i7) fun t24 =>
 LoadC t24 (fun t25 w =>
 K (Value.tuple [t25, (Value.bool true)].toArray) w
 ) w
 ) (
 PureS (binV .add i7 (Value.int .i64 1)) fun t15 =>
 L1 t15 w
 )
 ) w
 ) (
 J0 w
 )
 ) (Value.int .i64 0) w
 ) w
theorem s27_den (l0 seq1 : Value) (K : Value → World → Prop) (w : World) : denFn Try.prog false (bodyOf Try.f27) Try.f27.results a27 [l0, seq1] K NoP w = s27 l0 seq1 K w := by kernel_rfl
theorem s27_dst : dstsOk (2 + 24) (bodyOf Try.f27) = true := by kernel_rfl
theorem s27_ann : annOk (bodyOf Try.f27) a27 = true := by kernel_rfl
theorem s27_call {l0 seq1 : Value} {K : Value → World → Prop} {w : World} (hm : Try.prog.follows .mixedOrders = true) (h : s27 l0 seq1 K w) : CallS Try.prog 27 #[l0, seq1] K w :=
  fn_call (args := [l0, seq1]) (m := 24) hm Try.func27 (by kernel_rfl) (rs := Try.f27.results) rfl Try.ntmps27 s27_dst s27_ann (by rw [s27_den]; exact h)

/-! number 28 -/
def a28 : Ann :=
 (.q (.r [.plain 1]) (.q (.r [.plain 1]) (.j [3] 1073741816 (.q (.r [.plain 1]) (.b (.l [3, 4] 1073741816 (.q (.q (.r [.plain 7]) (.c .s .s)) (.j [3] 1073725448 (.b (.q (.r [.plain 7]) (.c (.r [.plain 10]) .s)))
  (.r [.plain 3]))))))
  (.q (.r [.plain 2]) .s))))
def s28 (l0 : Value) (K : Value → World → Prop) (w : World) : Prop :=
 JoinS (fun (out3 : Value) (w : World) =>
 K out3 w
 ) fun J0 =>
 LoopS 2 (fun L1 (out3_1 i4 : Value) (w : World) =>
 PureS (nilV l0) fun t7 =>
 PureS (fieldAddrV 0 t7) fun t8 =>
 LoadC t8 (fun t9 w =>
 PureS (lenSliceV t9) fun t10 =>
 PureS (binV .lss i4 t10) fun t11 =>
 CondS t11 (
 JoinS (fun (out3_2 : Value) (w : World) =>
 PureS (binV .add i4 (Value.int .i64 1)) fun t13 =>
 L1 out3_2 t13 w
 ) fun J2 =>
 PureS (nilV l0) fun t15 =>
 PureS (fieldAddrV 1 t15) fun t16 =>
 LoadC t16 (fun t17 w =>
 PureS (indexAddrV 1 t17 i4) fun t19 =>
 LoadC t19 (fun t20 w =>
 CondS t20 (
 PureS (nilV l0) fun t23 =>
 PureS (fieldAddrV 0 t23) fun t24 =>
 LoadC t24 (fun t25 w =>
 PureS (indexAddrV 1 t25 i4) fun t27 =>
 LoadC t27 (fun t28 w =>
 CallS Try.prog 34 [out3_1, t28].toArray (fun t29 w =>
 J2 t29 w
 ) w
 ) w
 ) w
 ) (
 J2 out3_1 w
 )
 ) w
 ) w
 ) (
 J0 out3_1 w
 )
 ) w
 ) (Value.slice none 0 0) (Value.int .i64 0) w
theorem s28_den (l0 : Value) (K : Value → World → Prop) (w : World) : denFn Try.prog false (bodyOf Try.f28) Try.f28.results a28 [l0] K NoP w = s28 l0 K w := by kernel_rfl
theorem s28_dst : dstsOk (1 + 30) (bodyOf Try.f28) = true := by kernel_rfl
theorem s28_ann : annOk (bodyOf Try.f28) a28 = true := by kernel_rfl
theorem s28_call {l0 : Value} {K : Value → World → Prop} {w : World} (hm : Try.prog.follows .mixedOrders = true) (h : s28 l0 K w) : CallS Try.prog 28 #[l0] K w :=
  fn_call (args := [l0]) (m := 30) hm Try.func28 (by kernel_rfl) (rs := Try.f28.results) rfl Try.ntmps28 s28_dst s28_ann (by rw [s28_den]; exact h)

/-! number 29 -/
def a29 : Ann :=
 (.q (.r [.plain 2]) (.q (.r [.plain 6]) .s))
def s29 (l0 : Value) (K : Value → World → Prop) (w : World) : Prop :=
 CallS Try.prog 38 [l0, (Value.int .u64 0)].toArray (fun t5 w =>
 PureS (extractV 0 t5) fun t6 =>
 PureS (extractV 1 t5) fun t7 =>
 K (Value.tuple [t6, t7].toArray) w
 ) w
theorem s29_den (l0 : Value) (K : Value → World → Prop) (w : World) : denFn Try.prog false (bodyOf Try.f29) Try.f29.results a29 [l0] K NoP w = s29 l0 K w := by kernel_rfl
theorem s29_dst : dstsOk (1 + 7) (bodyOf Try.f29) = true := by kernel_rfl
theorem s29_ann : annOk (bodyOf Try.f29) a29 = true := by kernel_rfl
theorem s29_call {l0 : Value} {K : Value → World → Prop} {w : World} (hm : Try.prog.follows .mixedOrders = true) (h : s29 l0 K w) : CallS Try.prog 29 #[l0] K w :=
  fn_call (args := [l0]) (m := 7) hm Try.func29 (by kernel_rfl) (rs := Try.f29.results) rfl Try.ntmps29 s29_dst s29_ann (by rw [s29_den]; exact h)

/-! number 30 -/
def a30 : Ann :=
 (.q (.r [.plain 1]) (.q (.r [.plain 6]) .s))
def s30 (l0 : Value) (K : Value → World → Prop) (w : World) : Prop :=
 PureS (nilV l0) fun t4 =>
 PureS (fieldAddrV 0 t4) fun t5 =>
 LoadC t5 (fun t6 w =>
 RunS Try.prog (Builtin.len_ #[45] 3 [t6].toArray) (fun t7 w =>
 K t7 w
 ) w
 ) w
theorem s30_den (l0 : Value) (K : Value → World → Prop) (w : World) : denFn Try.prog false (bodyOf Try.f30) Try.f30.results a30 [l0] K NoP w = s30 l0 K w := by kernel_rfl
theorem s30_dst : dstsOk (1 + 7) (bodyOf Try.f30) = true := by kernel_rfl
theorem s30_ann : annOk (bodyOf Try.f30) a30 = true := by kernel_rfl
theorem s30_call {l0 : Value} {K : Value → World → Prop} {w : World} (hm : Try.prog.follows .mixedOrders = true) (h : s30 l0 K w) : CallS Try.prog 30 #[l0] K w :=
  fn_call (args := [l0]) (m := 7) hm Try.func30 (by kernel_rfl) (rs := Try.f30.results) rfl Try.ntmps30 s30_dst s30_ann (by rw [s30_den]; exact h)

/-! number 31 -/
def a31 : Ann :=
 (.q (.r [.plain 1]) (.q (.r [.plain 1]) (.j [3] 8388600 (.q (.r [.plain 1]) (.b (.l [3, 4] 8388600 (.q (.q (.r [.plain 7]) (.c .s .s)) (.j [3] 8372232 (.b (.q (.r [.plain 7]) (.c (.r [.plain 3]) .s)))
  (.r [.plain 3]))))))
  (.q (.r [.plain 2]) .s))))
def s31 (l0 : Value) (K : Value → World → Prop) (w : World) : Prop :=
 JoinS (fun (n3 : Value) (w : World) =>
 K n3 w
 ) fun J0 =>
 LoopS 2 (fun L1 (n3_1 i4 : Value) (w : World) =>
 PureS (nilV l0) fun t7 =>
 PureS (fieldAddrV 1 t7) fun t8 =>
 LoadC t8 (fun t9 w =>
 PureS (lenSliceV t9) fun t10 =>
 PureS (binV .lss i4 t10) fun t11 =>
 CondS t11 (
 JoinS (fun (n3_2 : Value) (w : World) =>
 PureS (binV .add i4 (Value.int .i64 1)) fun t13 =>
 L1 n3_2 t13 w
 ) fun J2 =>
 PureS (nilV l0) fun t15 =>
 PureS (fieldAddrV 1 t15) fun t16 =>
 LoadC t16 (fun t17 w =>
 PureS (indexAddrV 1 t17 i4) fun t19 =>
 LoadC t19 (fun t20 w =>
 CondS t20 (
 PureS (binV .add n3_1 (Value.int .i64 1)) fun t22 =>
 J2 t22 w
 ) (
 J2 n3_1 w
 )
 ) w
 ) w
 ) (
 J0 n3_1 w
 )
 ) w
 ) (Value.int .i64 0) (Value.int .i64 0) w
theorem s31_den (l0 : Value) (K : Value → World → Prop) (w : World) : denFn Try.prog false (bodyOf Try.f31) Try.f31.results a31 [l0] K NoP w = s31 l0 K w := by kernel_rfl
theorem s31_dst : dstsOk (1 + 23) (bodyOf Try.f31) = true := by kernel_rfl
theorem s31_ann : annOk (bodyOf Try.f31) a31 = true := by kernel_rfl
theorem s31_call {l0 : Value} {K : Value → World → Prop} {w : World} (hm : Try.prog.follows .mixedOrders = true) (h : s31 l0 K w) : CallS Try.prog 31 #[l0] K w :=
  fn_call (args := [l0]) (m := 23) hm Try.func31 (by kernel_rfl) (rs := Try.f31.results) rfl Try.ntmps31 s31_dst s31_ann (by rw [s31_den]; exact h)

/-! number 32 -/
def a32 : Ann :=
 (.q (.r [.plain 1]) (.q (.q (.r [.plain 2]) (.c (.q (.r [.plain 1]) .s) .s)) (.q (.r [.plain 4]) .s)))
def s32 (s0 : Value) (K : Value → World → Prop) (w : World) : Prop :=
 RunS Try.prog (do eqGuard .eql 31 (Operand.tmp 3) (Operand.const (Value.slice none 0 0)) s0 (Value.slice none 0 0); binOp .eql 31 s0 (Value.slice none 0 0)) (fun t4 w =>
 CondS t4 (
 K (Value.slice none 0 0) w
 ) (
 RunS Try.prog (Instr.buildSlice 31 0 [].toArray) (fun t5 w =>
 RunS Try.prog (Builtin.append_ #[31, 31] 31 [t5, s0].toArray) (fun t7 w =>
 K t7 w
 ) w
 ) w
 )
 ) w
theorem s32_den (s0 : Value) (K : Value → World → Prop) (w : World) : denFn Try.prog false (bodyOf Try.f32) Try.f32.results a32 [s0] K NoP w = s32 s0 K w := by kernel_rfl
theorem s32_dst : dstsOk (1 + 7) (bodyOf Try.f32) = true := by kernel_rfl
theorem s32_ann : annOk (bodyOf Try.f32) a32 = true := by kernel_rfl
theorem s32_call {s0 : Value} {K : Value → World → Prop} {w : World} (hm : Try.prog.follows .mixedOrders = true) (h : s32 s0 K w) : CallS Try.prog 32 #[s0] K w :=
  fn_call (args := [s0]) (m := 7) hm Try.func32 (by kernel_rfl) (rs := Try.f32.results) rfl Try.ntmps32 s32_dst s32_ann (by rw [s32_den]; exact h)

/-! number 33 -/
def a33 : Ann :=
 (.q (.r [.plain 3]) (.r [.plain 6]))
def s33 (x0 : Value) (K : Value → World → Prop) (w : World) : Prop :=
 PureS (lenSliceV x0) fun t4 =>
 PureS (convIntV .u64 t4) fun t8 =>
 CallS Try.prog 41 [t8].toArray (fun t9 w =>
 CallS Try.prog 40 [x0, (Value.int .i64 0), t4, t9].toArray (fun t10 w =>
 K (Value.tuple [].toArray) w
 ) w
 ) w
theorem s33_den (x0 : Value) (K : Value → World → Prop) (w : World) : denFn Try.prog false (bodyOf Try.f33) Try.f33.results a33 [x0] K NoP w = s33 x0 K w := by kernel_rfl
theorem s33_dst : dstsOk (1 + 10) (bodyOf Try.f33) = true := by kernel_rfl
theorem s33_ann : annOk (bodyOf Try.f33) a33 = true := by kernel_rfl
theorem s33_call {x0 : Value} {K : Value → World → Prop} {w : World} (hm : Try.prog.follows .mixedOrders = true) (h : s33 x0 K w) : CallS Try.prog 33 #[x0] K w :=
  fn_call (args := [x0]) (m := 10) hm Try.func33 (by kernel_rfl) (rs := Try.f33.results) rfl Try.ntmps33 s33_dst s33_ann (by rw [s33_den]; exact h)

/-! number 34 -/
def a34 : Ann :=
 (.q (.r [.plain 1]) (.q (.r [.plain 1]) (.j [5] 2097056 (.b (.l [5] 2097056 (.q (.q (.r [.plain 5, .grp 6 [17] 258048, .plain 1]) (.c .s .s)) (.b (.r [.plain 3])))))
  (.q (.q (.r [.plain 5, .grp 6 [31] 4227858432, .plain 1]) (.c (.q (.r [.plain 2]) .s) .s)) (.q (.r [.plain 6]) (.q (.r [.plain 5]) (.q (.r [.plain 6]) .s)))))))
def s34 (l0 n1 : Value) (K : Value → World → Prop) (w : World) : Prop :=
 JoinS (fun (i5 : Value) (w : World) =>
 PureS (lenSliceV l0) fun t23 =>
 PureS (binV .lss i5 t23) fun t24 =>
 JoinS (fun (t31 : Value) (w : World) =>
 PureS (pickV t24 t31 (Value.bool false)) fun t32 =>
 CondS t32 (
 K l0 w
 ) (
 RunS Try.prog (Instr.buildSlice 31 0 [].toArray) (fun t34 w =>
 PureS (sliceV 1 l0 none (some i5)) fun t37 =>
 RunS Try.prog (Builtin.append_ #[31, 31] 31 [t34, t37].toArray) (fun t38 w =>
 RunS Try.prog (Instr.buildSlice 31 1 [(0, n1)].toArray) (fun t41 w =>
 RunS Try.prog (Builtin.append_ #[31, 31] 31 [t38, t41].toArray) (fun t42 w =>
 PureS (sliceV 1 l0 (some i5) none) fun t46 =>
 RunS Try.prog (Builtin.append_ #[31, 31] 31 [t42, t46].toArray) (fun t47 w =>
 K t47 w
 ) w
 ) w
 ) w
 ) w
 ) w
 )
 ) fun J1 =>
 IfB t24 true (
 PureS (indexAddrV 1 l0 i5) fun t28 =>
 LoadC t28 (fun t29 w =>
 PureS (binV .eql t29 n1) fun t31_1 =>
 J1 t31_1 w
 ) w
 ) (
 J1 undef w
 )
 ) fun J0 =>
 LoopS 1 (fun L2 (i5_1 : Value) (w : World) =>
 PureS (lenSliceV l0) fun t9 =>
 PureS (binV .lss i5_1 t9) fun t10 =>
 JoinS (fun (t17 : Value) (w : World) =>
 PureS (pickV t10 t17 (Value.bool false)) fun t18 =>
 CondS t18 (
 PureS (binV .add i5_1 (Value.int .i64 1)) fun t20 =>
 L2 t20 w
 ) (
 J0 i5_1 w
 )
 ) fun J3 =>
 IfB t10 true (
 PureS (indexAddrV 1 l0 i5_1) fun t14 =>
 LoadC t14 (fun t15 w =>
 PureS (binV .lss t15 n1) fun t17_1 =>
 J3 t17_1 w
 ) w
 ) (
 J3 undef w
 )
 ) (Value.int .i64 0) w
theorem s34_den (l0 n1 : Value) (K : Value → World → Prop) (w : World) : denFn Try.prog false (bodyOf Try.f34) Try.f34.results a34 [l0, n1] K NoP w = s34 l0 n1 K w := by kernel_rfl
theorem s34_dst : dstsOk (2 + 46) (bodyOf Try.f34) = true := by kernel_rfl
theorem s34_ann : annOk (bodyOf Try.f34) a34 = true := by kernel_rfl
theorem s34_call {l0 n1 : Value} {K : Value → World → Prop} {w : World} (hm : Try.prog.follows .mixedOrders = true) (h : s34 l0 n1 K w) : CallS Try.prog 34 #[l0, n1] K w :=
  fn_call (args := [l0, n1]) (m := 46) hm Try.func34 (by kernel_rfl) (rs := Try.f34.results) rfl Try.ntmps34 s34_dst s34_ann (by rw [s34_den]; exact h)

/-! number 35 -/
def a35 : Ann :=
 (.q (.r [.plain 1]) (.q (.r [.plain 3]) (.q (.r [.plain 2]) (.q (.r [.plain 2]) .s))))
def s35 (seq0 : Value) (K : Value → World → Prop) (w : World) : Prop :=
 CallS Try.prog 42 [seq0].toArray (fun t5 w =>
 CallS Try.prog 33 [t5].toArray (fun t7 w =>
 K t5 w
 ) w
 ) w
theorem s35_den (seq0 : Value) (K : Value → World → Prop) (w : World) : denFn Try.prog false (bodyOf Try.f35) Try.f35.results a35 [seq0] K NoP w = s35 seq0 K w := by kernel_rfl
theorem s35_dst : dstsOk (1 + 8) (bodyOf Try.f35) = true := by kernel_rfl
theorem s35_ann : annOk (bodyOf Try.f35) a35 = true := by kernel_rfl
theorem s35_call {seq0 : Value} {K : Value → World → Prop} {w : World} (hm : Try.prog.follows .mixedOrders = true) (h : s35 seq0 K w) : CallS Try.prog 35 #[seq0] K w :=
  fn_call (args := [seq0]) (m := 8) hm Try.func35 (by kernel_rfl) (rs := Try.f35.results) rfl Try.ntmps35 s35_dst s35_ann (by rw [s35_den]; exact h)

/-! number 36 -/
def a36 : Ann :=
 (.q (.r [.plain 2]) (.q (.r [.plain 2]) .s))
def s36 (m0 : Value) (K : Value → World → Prop) (w : World) : Prop :=
 BoxS 61 m0 (fun m1 w =>
 K (Value.func (Fn.func 43) [].toArray [m1].toArray) w
 ) w
theorem s36_den (m0 : Value) (K : Value → World → Prop) (w : World) : denFn Try.prog false (bodyOf Try.f36) Try.f36.results a36 [m0] K NoP w = s36 m0 K w := by kernel_rfl
theorem s36_dst : dstsOk (1 + 3) (bodyOf Try.f36) = true := by kernel_rfl
theorem s36_ann : annOk (bodyOf Try.f36) a36 = true := by kernel_rfl
theorem s36_call {m0 : Value} {K : Value → World → Prop} {w : World} (hm : Try.prog.follows .mixedOrders = true) (h : s36 m0 K w) : CallS Try.prog 36 #[m0] K w :=
  fn_call (args := [m0]) (m := 3) hm Try.func36 (by kernel_rfl) (rs := Try.f36.results) rfl Try.ntmps36 s36_dst s36_ann (by rw [s36_den]; exact h)

/-! number 37 -/
def a37 : Ann :=
 (.q (.r [.plain 1]) (.q (.r [.plain 8]) .s))
def s37 (l0 : Value) (K : Value → World → Prop) (w : World) : Prop :=
 PureS (nilV l0) fun t4 =>
 PureS (fieldAddrV 0 t4) fun t5 =>
 LoadC t5 (fun t6 w =>
 CallS Try.prog 45 [t6].toArray (fun t7 w =>
 CallS Try.prog 35 [t7].toArray (fun t8 w =>
 CallS Try.prog 44 [t8].toArray (fun t9 w =>
 K t9 w
 ) w
 ) w
 ) w
 ) w
theorem s37_den (l0 : Value) (K : Value → World → Prop) (w : World) : denFn Try.prog false (bodyOf Try.f37) Try.f37.results a37 [l0] K NoP w = s37 l0 K w := by kernel_rfl
theorem s37_dst : dstsOk (1 + 9) (bodyOf Try.f37) = true := by kernel_rfl
theorem s37_ann : annOk (bodyOf Try.f37) a37 = true := by kernel_rfl
theorem s37_call {l0 : Value} {K : Value → World → Prop} {w : World} (hm : Try.prog.follows .mixedOrders = true) (h : s37 l0 K w) : CallS Try.prog 37 #[l0] K w :=
  fn_call (args := [l0]) (m := 9) hm Try.func37 (by kernel_rfl) (rs := Try.f37.results) rfl Try.ntmps37 s37_dst s37_ann (by rw [s37_den]; exact h)

/-! number 38 -/
def a38 : Ann :=
 (.q (.r [.plain 2]) (.q (.r [.plain 3]) (.q (.r [.plain 8]) (.q (.q (.r [.plain 4]) (.c (.q (.r [.plain 2]) .s) .s)) (.q (.r [.plain 6]) .s)))))
def s38 (l0 seq1 : Value) (K : Value → World → Prop) (w : World) : Prop :=
 CallS Try.prog 37 [l0].toArray (fun t10 w =>
 CallS Try.prog 46 [t10, seq1].toArray (fun t14 w =>
 PureS (extractV 0 t14) fun t15 =>
 PureS (extractV 1 t14) fun t16 =>
 PureS (lenSliceV t10) fun t19 =>
 PureS (binV .eql t15 t19) fun t20 =>
 CondS t20 (
 K (Value.tuple [(Value.int .u64 0), (Value.bool false)].toArray) w
 ) (
 PureS (indexAddrV 1 t10 t15) fun t23 =>
 LoadC t23 (fun t24 w =>
 K (Value.tuple [t24, (Value.bool true)].toArray) w
 ) w
 )
 ) w
 ) w
theorem s38_den (l0 seq1 : Value) (K : Value → World → Prop) (w : World) : denFn Try.prog false (bodyOf Try.f38) Try.f38.results a38 [l0, seq1] K NoP w = s38 l0 seq1 K w := by kernel_rfl
theorem s38_dst : dstsOk (2 + 23) (bodyOf Try.f38) = true := by kernel_rfl
theorem s38_ann : annOk (bodyOf Try.f38) a38 = true := by kernel_rfl
theorem s38_call {l0 seq1 : Value} {K : Value → World → Prop} {w : World} (hm : Try.prog.follows .mixedOrders = true) (h : s38 l0 seq1 K w) : CallS Try.prog 38 #[l0, seq1] K w :=
  fn_call (args := [l0, seq1]) (m := 23) hm Try.func38 (by kernel_rfl) (rs := Try.f38.results) rfl Try.ntmps38 s38_dst s38_ann (by rw [s38_den]; exact h)

/-! number 39 -/
def a39 : Ann :=
 (.q (.r [.plain 1]) (.q (.r [.plain 3, .grp 7 [14] 32512, .plain 2, .grp 8 [24] 33423360, .plain 2]) .s))
def s39 (l0 h1 : Value) (K : Value → World → Prop) (w : World) : Prop :=
 PureS (binV .geq h1 (Value.int .i64 1)) fun t6 =>
 JoinS (fun (t14 : Value) (w : World) =>
 PureS (pickV t6 t14 (Value.bool false)) fun t15 =>
 JoinS (fun (t24 : Value) (w : World) =>
 PureS (pickV t15 t24 (Value.bool false)) fun t25 =>
 K t25 w
 ) fun J1 =>
 IfB t15 true (
 PureS (nilV l0) fun t18 =>
 PureS (fieldAddrV 1 t18) fun t19 =>
 LoadC t19 (fun t20 w =>
 PureS (binV .sub h1 (Value.int .i64 1)) fun t22 =>
 PureS (indexAddrV 1 t20 t22) fun t23 =>
 LoadC t23 (fun t24_1 w =>
 J1 t24_1 w
 ) w
 ) w
 ) (
 J1 undef w
 )
 ) fun J0 =>
 IfB t6 true (
 PureS (nilV l0) fun t10 =>
 PureS (fieldAddrV 1 t10) fun t11 =>
 LoadC t11 (fun t12 w =>
 PureS (lenSliceV t12) fun t13 =>
 PureS (binV .leq h1 t13) fun t14_1 =>
 J0 t14_1 w
 ) w
 ) (
 J0 undef w
 )
theorem s39_den (l0 h1 : Value) (K : Value → World → Prop) (w : World) : denFn Try.prog false (bodyOf Try.f39) Try.f39.results a39 [l0, h1] K NoP w = s39 l0 h1 K w := by kernel_rfl
theorem s39_dst : dstsOk (2 + 24) (bodyOf Try.f39) = true := by kernel_rfl
theorem s39_ann : annOk (bodyOf Try.f39) a39 = true := by kernel_rfl
theorem s39_call {l0 h1 : Value} {K : Value → World → Prop} {w : World} (hm : Try.prog.follows .mixedOrders = true) (h : s39 l0 h1 K w) : CallS Try.prog 39 #[l0, h1] K w :=
  fn_call (args := [l0, h1]) (m := 24) hm Try.func39 (by kernel_rfl) (rs := Try.f39.results) rfl Try.ntmps39 s39_dst s39_ann (by rw [s39_den]; exact h)

/-! number 40 -/
def a40 : Ann :=
 (.q (.r [.plain 1]) (.q (.r [.plain 1]) (.b (.l [1, 2, 3, 8, 9] 21778071482940061661655974875633165532942 (.b (.q (.r [.plain 4]) (.q (.q (.r [.plain 2]) (.c (.q (.r [.plain 4]) .s) .s)) (.q (.q (.r [.plain 2]) (.c (.q (.r [.plain 4]) .s) .s)) (.j [3] 4380866641928 (.q (.r [.plain 2]) (.c (.q (.r [.plain 4]) (.r [.plain 3])) .s))
  (.q (.r [.plain 9]) (.j [11, 12] 2305280059260278784 (.q (.r [.plain 2]) (.c (.q (.r [.plain 4]) (.q (.r [.plain 7]) (.r [.plain 1]))) .s))
  (.j [] 9442427122730076733440 (.q (.r [.plain 2, .grp 1 [63] 9223372036854775808, .plain 2, .grp 2 [67] 221360928884514619392, .plain 1]) (.c (.q (.r [.plain 4]) (.c .s .s)) .s))
  (.q (.j [87] 309475565088379329434353664 (.d [0, 1, 3, 7, 7, 23, 63, 127, 7, 7, 775, 1799, 4095, 8191, 16383] (.pur 0 (.pur 1 (.pur 2 (.ite 2 (.pur 3 (.pur 4 (.pur 5 (.pur 6 (.pur 8 (.pur 9 (.pur 10 (.hld 7 (.hld 11 (.act 12 (.pur 13 (.pur 14 .fin)))))))))))) (.skp 3 (.skp 4 (.skp 5 (.skp 6 (.skp 7 (.skp 8 (.skp 9 (.skp 10 (.skp 11 (.skp 12 (.skp 13 (.pur 14 .fin)))))))))))))))))
  (.c (.q (.r [.plain 6]) (.q (.r [.plain 2]) .s)) .s)) (.q (.r [.plain 10]) (.q (.r [.plain 2]) (.q (.r [.plain 8]) (.q (.r [.plain 3]) (.q (.r [.plain 3]) (.c (.q (.r [.plain 4]) (.q (.r [.plain 5]) (.r [.plain 3]))) (.q (.r [.plain 4]) (.q (.r [.plain 6]) (.r [.plain 2]))))))))))))))))))))))
def s40 (data0 a1 b2 limit3 : Value) (K : Value → World → Prop) (w : World) : Prop :=
 LoopS 5 (fun L0 (a1_1 b2_1 limit3_1 wasBalanced8 wasPartitioned9 : Value) (w : World) =>
 PureS (binV .sub b2_1 a1_1) fun t21 =>
 PureS (binV .leq t21 (Value.int .i64 12)) fun t23 =>
 CondS t23 (
 CallS Try.prog 47 [data0, a1_1, b2_1].toArray (fun t27 w =>
 K (Value.tuple [].toArray) w
 ) w
 ) (
 PureS (binV .eql limit3_1 (Value.int .i64 0)) fun t29 =>
 CondS t29 (
 CallS Try.prog 48 [data0, a1_1, b2_1].toArray (fun t33 w =>
 K (Value.tuple [].toArray) w
 ) w
 ) (
 JoinS (fun (limit3_2 : Value) (w : World) =>
 CallS Try.prog 50 [data0, a1_1, b2_1].toArray (fun t46 w =>
 PureS (extractV 0 t46) fun t47 =>
 PureS (extractV 1 t46) fun t48 =>
 JoinS (fun (pivot11 hint12 : Value) (w : World) =>
 JoinS (fun (w : World) =>
 JoinS (fun (t87 : Value) (w : World) =>
 CondS t87 (
 CallS Try.prog 54 [data0, a1_1, b2_1, pivot11].toArray (fun t92 w =>
 L0 t92 b2_1 limit3_2 wasBalanced8 wasPartitioned9 w
 ) w
 ) (
 CallS Try.prog 55 [data0, a1_1, b2_1, pivot11].toArray (fun t99 w =>
 PureS (extractV 0 t99) fun t100 =>
 PureS (extractV 1 t99) fun t101 =>
 PureS (binV .sub t100 a1_1) fun t105 =>
 PureS (binV .sub b2_1 t100) fun t108 =>
 PureS (binV .quo t21 (Value.int .i64 8)) fun t110 =>
 PureS (binV .lss t105 t108) fun t113 =>
 CondS t113 (
 PureS (binV .geq t105 t110) fun t116 =>
 CallS Try.prog 40 [data0, a1_1, t100, limit3_2].toArray (fun t121 w =>
 PureS (binV .add t100 (Value.int .i64 1)) fun t123 =>
 L0 t123 b2_1 limit3_2 t116 t101 w
 ) w
 ) (
 PureS (binV .geq t108 t110) fun t126 =>
 PureS (binV .add t100 (Value.int .i64 1)) fun t129 =>
 CallS Try.prog 40 [data0, t129, b2_1, limit3_2].toArray (fun t132 w =>
 L0 a1_1 t100 limit3_2 t126 t101 w
 ) w
 )
 ) w
 )
 ) fun J4 =>
 DrawS fun S5 => S5 w.drew ∧ (
 PureS (binV .gtr a1_1 (Value.int .i64 0)) fun t74 =>
 CondS t74 (
 PureS (binV .sub a1_1 (Value.int .i64 1)) fun t78 =>
 PureS (indexAddrV 1 data0 t78) fun t79 =>
 PureS (indexAddrV 1 data0 pivot11) fun t83 =>
 HeldC S5 t79 (fun t80 =>
 HeldC S5 t83 (fun t84 =>
 CallS Try.prog 53 [t80, t84].toArray (fun t85 w =>
 PureS (notV t85) fun t86 =>
 PureS (pickV (Value.bool true) t86 (Value.bool false)) fun t87_1 =>
 J4 t87_1 w
 ) w.drew
 )
 )
 ) (
 PureS (pickV (Value.bool false) undef (Value.bool false)) fun t87_2 =>
 J4 t87_2 w.drew
 )
 )
 ) fun J3 =>
 JoinS (fun (t63 : Value) (w : World) =>
 PureS (pickV wasBalanced8 t63 (Value.bool false)) fun t64 =>
 JoinS (fun (t67 : Value) (w : World) =>
 PureS (pickV t64 t67 (Value.bool false)) fun t68 =>
 CondS t68 (
 CallS Try.prog 52 [data0, a1_1, b2_1].toArray (fun t72 w =>
 CondS t72 (
 K (Value.tuple [].toArray) w
 ) (
 J3 w
 )
 ) w
 ) (
 J3 w
 )
 ) fun J7 =>
 IfB t64 true (
 PureS (binV .eql hint12 (Value.int .i64 1)) fun t67_1 =>
 J7 t67_1 w
 ) (
 J7 undef w
 )
 ) fun J6 =>
 IfB wasBalanced8 true (
 J6 wasPartitioned9 w
 ) (
 J6 undef w
 )
 ) fun J2 =>
 PureS (binV .eql t48 (Value.int .i64 2)) fun t50 =>
 CondS t50 (
 CallS Try.prog 51 [data0, a1_1, b2_1].toArray (fun t54 w =>
 PureS (binV .sub b2_1 (Value.int .i64 1)) fun t56 =>
 PureS (binV .sub t47 a1_1) fun t59 =>
 PureS (binV .sub t56 t59) fun t60 =>
 J2 t60 (Value.int .i64 1) w
 ) w
 ) (
 J2 t47 t48 w
 )
 ) w
 ) fun J1 =>
 PureS (notV wasBalanced8) fun t35 =>
 CondS t35 (
 CallS Try.prog 49 [data0, a1_1, b2_1].toArray (fun t39 w =>
 PureS (binV .sub limit3_1 (Value.int .i64 1)) fun t41 =>
 J1 t41 w
 ) w
 ) (
 J1 limit3_1 w
 )
 )
 )
 ) a1 b2 limit3 (Value.bool true) (Value.bool true) w
theorem s40_den (data0 a1 b2 limit3 : Value) (K : Value → World → Prop) (w : World) : denFn Try.prog false (bodyOf Try.f40) Try.f40.results a40 [data0, a1, b2, limit3] K NoP w = s40 data0 a1 b2 limit3 K w := by kernel_rfl
theorem s40_dst : dstsOk (4 + 130) (bodyOf Try.f40) = true := by kernel_rfl
theorem s40_ann : annOk (bodyOf Try.f40) a40 = true := by kernel_rfl
theorem s40_call {data0 a1 b2 limit3 : Value} {K : Value → World → Prop} {w : World} (hm : Try.prog.follows .mixedOrders = true) (h : s40 data0 a1 b2 limit3 K w) : CallS Try.prog 40 #[data0, a1, b2, limit3] K w :=
  fn_call (args := [data0, a1, b2, limit3]) (m := 130) hm Try.func40 (by kernel_rfl) (rs := Try.f40.results) rfl Try.ntmps40 s40_dst s40_ann (by rw [s40_den]; exact h)

/-! number 41 -/
def a41 : Ann :=
 (.q (.r [.plain 1]) (.q (.c (.q (.r [.plain 4]) .s) .s) (.q (.r [.plain 3]) .s)))
def s41 (x0 : Value) (K : Value → World → Prop) (w : World) : Prop :=
 CondS (Value.bool false) (
 PureS (convIntV .u32 x0) fun t4 =>
 CallS Try.prog 56 [t4].toArray (fun t5 w =>
 K t5 w
 ) w
 ) (
 CallS Try.prog 57 [x0].toArray (fun t7 w =>
 K t7 w
 ) w
 )
theorem s41_den (x0 : Value) (K : Value → World → Prop) (w : World) : denFn Try.prog false (bodyOf Try.f41) Try.f41.results a41 [x0] K NoP w = s41 x0 K w := by kernel_rfl
theorem s41_dst : dstsOk (1 + 7) (bodyOf Try.f41) = true := by kernel_rfl
theorem s41_ann : annOk (bodyOf Try.f41) a41 = true := by kernel_rfl
theorem s41_call {x0 : Value} {K : Value → World → Prop} {w : World} (hm : Try.prog.follows .mixedOrders = true) (h : s41 x0 K w) : CallS Try.prog 41 #[x0] K w :=
  fn_call (args := [x0]) (m := 7) hm Try.func41 (by kernel_rfl) (rs := Try.f41.results) rfl Try.ntmps41 s41_dst s41_ann (by rw [s41_den]; exact h)

/-! number 42 -/
def a42 : Ann :=
 (.q (.r [.plain 1]) (.q (.r [.plain 3]) .s))
def s42 (seq0 : Value) (K : Value → World → Prop) (w : World) : Prop :=
 CallS Try.prog 58 [(Value.slice none 0 0), seq0].toArray (fun t4 w =>
 K t4 w
 ) w
theorem s42_den (seq0 : Value) (K : Value → World → Prop) (w : World) : denFn Try.prog false (bodyOf Try.f42) Try.f42.results a42 [seq0] K NoP w = s42 seq0 K w := by kernel_rfl
theorem s42_dst : dstsOk (1 + 4) (bodyOf Try.f42) = true := by kernel_rfl
theorem s42_ann : annOk (bodyOf Try.f42) a42 = true := by kernel_rfl
theorem s42_call {seq0 : Value} {K : Value → World → Prop} {w : World} (hm : Try.prog.follows .mixedOrders = true) (h : s42 seq0 K w) : CallS Try.prog 42 #[seq0] K w :=
  fn_call (args := [seq0]) (m := 4) hm Try.func42 (by kernel_rfl) (rs := Try.f42.results) rfl Try.ntmps42 s42_dst s42_ann (by rw [s42_den]; exact h)

/-! number 43 -/
def a43 : Ann :=
 (.q (.r [.plain 2]) (.b (.l [] 16328 (.q (.r [.plain 2]) (.q (.c .s .s) (.b (.q (.r [.plain 3]) (.q (.r [.plain 4]) (.c .s .s)))))))))
def s43 (yield0 t1 : Value) (K : Value → World → Prop) (w : World) : Prop :=
 LoadC t1 (fun t4 w =>
 RunS Try.prog (Instr.range 61 t4) (fun t5 w =>
 LoopS 0 (fun L0 (w : World) =>
 RunS Try.prog (Instr.next t5 false 0) (fun t6 w =>
 PureS (extractV 0 t6) fun t7 =>
 CondS t7 (
 RunS Try.prog (Instr.entry t5) (fun t8 w =>
 PureS (extractV 0 t8) fun t9 =>
 CallV' Try.prog false yield0 [t9] NoP (fun t12 w =>
 PureS (notV t12) fun t13 =>
 CondS t13 (
 K (Value.tuple [].toArray) w
 ) (
 L0 w
 )
 ) w
 ) w
 ) (
 K (Value.tuple [].toArray) w
 )
 ) w
 ) w
 ) w
 ) w
theorem s43_den (yield0 t1 : Value) (K : Value → World → Prop) (w : World) : denFn Try.prog false (bodyOf Try.f43) Try.f43.results a43 [yield0, t1] K NoP w = s43 yield0 t1 K w := by kernel_rfl
theorem s43_dst : dstsOk (2 + 12) (bodyOf Try.f43) = true := by kernel_rfl
theorem s43_ann : annOk (bodyOf Try.f43) a43 = true := by kernel_rfl
theorem s43_call {yield0 t1 : Value} {K : Value → World → Prop} {w : World} (hm : Try.prog.follows .mixedOrders = true) (h : s43 yield0 t1 K w) : CallS Try.prog 43 #[yield0, t1] K w :=
  fn_call (args := [yield0, t1]) (m := 12) hm Try.func43 (by kernel_rfl) (rs := Try.f43.results) rfl Try.ntmps43 s43_dst s43_ann (by rw [s43_den]; exact h)

/-! number 44 -/
def a44 : Ann :=
 (.q (.r [.plain 1]) (.q (.q (.r [.plain 3]) (.c (.q (.r [.plain 2]) .s) .s)) (.j [] 1152921504606846012 (.q (.r [.plain 1]) (.b (.l [3] 1152921504606846012 (.q (.q (.r [.plain 4]) (.c .s .s)) (.j [3] 1152921504606781500 (.b (.q (.d [0, 0, 3, 7, 0, 0, 32, 112, 240, 511] (.pur 0 (.pur 1 (.pur 2 (.pur 4 (.pur 5 (.pur 6 (.pur 7 (.hld 3 (.hld 8 (.pur 9 .fin))))))))))) (.c (.q (.r [.plain 4]) (.j [3] 18014397972611112 (.q (.r [.plain 1]) (.b (.l [3, 5] 18014397972611112 (.q (.q (.r [.plain 4]) (.c .s .s)) (.j [3] 18014364149743624 (.b (.q (.d [0, 0, 3, 7, 0, 0, 32, 112, 240, 511] (.pur 0 (.pur 1 (.pur 2 (.pur 4 (.pur 5 (.pur 6 (.pur 7 (.hld 3 (.hld 8 (.pur 9 .fin))))))))))) (.c (.q (.r [.plain 8]) (.r [.plain 3])) .s)))
  (.r [.plain 3]))))))
  (.q (.r [.plain 4]) (.q (.r [.plain 4]) .s)))) .s)))
  (.r [.plain 3]))))))
  (.q (.r [.plain 2]) .s))))
def s44 (s0 : Value) (K : Value → World → Prop) (w : World) : Prop :=
 PureS (lenSliceV s0) fun t7 =>
 PureS (binV .lss t7 (Value.int .i64 2)) fun t8 =>
 CondS t8 (
 K s0 w
 ) (
 JoinS (fun (w : World) =>
 K s0 w
 ) fun J0 =>
 LoopS 1 (fun L1 (k3 : Value) (w : World) =>
 PureS (lenSliceV s0) fun t12 =>
 PureS (binV .lss k3 t12) fun t13 =>
 CondS t13 (
 JoinS (fun (k3_1 : Value) (w : World) =>
 PureS (binV .add k3_1 (Value.int .i64 1)) fun t15 =>
 L1 t15 w
 ) fun J2 =>
 DrawS fun S3 => S3 w.drew ∧ (
 PureS (indexAddrV 1 s0 k3) fun t18 =>
 PureS (binV .sub k3 (Value.int .i64 1)) fun t22 =>
 PureS (indexAddrV 1 s0 t22) fun t23 =>
 HeldC S3 t18 (fun t19 =>
 HeldC S3 t23 (fun t24 =>
 PureS (binV .eql t19 t24) fun t25 =>
 CondS t25 (
 PureS (sliceV 1 s0 (some k3) none) fun t28 =>
 JoinS (fun (k3_2 : Value) (w : World) =>
 PureS (sliceV 1 s0 (some k3_2) none) fun t56 =>
 RunS Try.prog (Builtin.clear_ #[31] 0 [t56].toArray) (fun _ w =>
 PureS (sliceV 1 s0 none (some k3_2)) fun t59 =>
 K t59 w
 ) w
 ) fun J4 =>
 LoopS 2 (fun L5 (k3_3 k25 : Value) (w : World) =>
 PureS (lenSliceV t28) fun t31 =>
 PureS (binV .lss k25 t31) fun t32 =>
 CondS t32 (
 JoinS (fun (k3_4 : Value) (w : World) =>
 PureS (binV .add k25 (Value.int .i64 1)) fun t34 =>
 L5 k3_4 t34 w
 ) fun J6 =>
 DrawS fun S7 => S7 w.drew ∧ (
 PureS (indexAddrV 1 t28 k25) fun t37 =>
 PureS (binV .sub k25 (Value.int .i64 1)) fun t41 =>
 PureS (indexAddrV 1 t28 t41) fun t42 =>
 HeldC S7 t37 (fun t38 =>
 HeldC S7 t42 (fun t43 =>
 PureS (binV .neq t38 t43) fun t44 =>
 CondS t44 (
 PureS (indexAddrV 1 t28 k25) fun t49 =>
 LoadC t49 (fun t50 w =>
 PureS (indexAddrV 1 s0 k3_3) fun t51 =>
 StoreC t51 t50 (fun w =>
 PureS (binV .add k3_3 (Value.int .i64 1)) fun t53 =>
 J6 t53 w
 ) w
 ) w.drew
 ) (
 J6 k3_3 w.drew
 )
 )
 )
 )
 ) (
 J4 k3_3 w
 )
 ) k3 (Value.int .i64 1) w.drew
 ) (
 J2 k3 w.drew
 )
 )
 )
 )
 ) (
 J0 w
 )
 ) (Value.int .i64 1) w
 )
theorem s44_den (s0 : Value) (K : Value → World → Prop) (w : World) : denFn Try.prog false (bodyOf Try.f44) Try.f44.results a44 [s0] K NoP w = s44 s0 K w := by kernel_rfl
theorem s44_dst : dstsOk (1 + 60) (bodyOf Try.f44) = true := by kernel_rfl
theorem s44_ann : annOk (bodyOf Try.f44) a44 = true := by kernel_rfl
theorem s44_call {s0 : Value} {K : Value → World → Prop} {w : World} (hm : Try.prog.follows .mixedOrders = true) (h : s44 s0 K w) : CallS Try.prog 44 #[s0] K w :=
  fn_call (args := [s0]) (m := 60) hm Try.func44 (by kernel_rfl) (rs := Try.f44.results) rfl Try.ntmps44 s44_dst s44_ann (by rw [s44_den]; exact h)

/-! number 45 -/
def a45 : Ann :=
 (.q (.r [.plain 2]) (.q (.r [.plain 2]) .s))
def s45 (m0 : Value) (K : Value → World → Prop) (w : World) : Prop :=
 BoxS 45 m0 (fun m1 w =>
 K (Value.func (Fn.func 59) [].toArray [m1].toArray) w
 ) w
theorem s45_den (m0 : Value) (K : Value → World → Prop) (w : World) : denFn Try.prog false (bodyOf Try.f45) Try.f45.results a45 [m0] K NoP w = s45 m0 K w := by kernel_rfl
theorem s45_dst : dstsOk (1 + 3) (bodyOf Try.f45) = true := by kernel_rfl
theorem s45_ann : annOk (bodyOf Try.f45) a45 = true := by kernel_rfl
theorem s45_call {m0 : Value} {K : Value → World → Prop} {w : World} (hm : Try.prog.follows .mixedOrders = true) (h : s45 m0 K w) : CallS Try.prog 45 #[m0] K w :=
  fn_call (args := [m0]) (m := 3) hm Try.func45 (by kernel_rfl) (rs := Try.f45.results) rfl Try.ntmps45 s45_dst s45_ann (by rw [s45_den]; exact h)

/-! number 46 -/
def a46 : Ann :=
 (.q (.r [.plain 2]) (.q (.r [.plain 3]) (.q (.r [.plain 3]) (.j [7] 2147476352 (.b (.l [7, 8] 2147476352 (.q (.q (.r [.plain 3]) (.c .s .s)) (.b (.q (.r [.plain 7]) (.q (.r [.plain 6]) (.c (.r [.plain 3]) (.r [.plain 2]))))))))
  (.q (.r [.plain 5, .grp 7 [42] 8727373545472, .grp 6 [48] 554153860399104, .grp 2 [50] 1688849860263936, .grp 1 [51] 2251799813685248, .grp 1 [52] 4503599627370496, .plain 3]) .s)))))
def s46 (x0 target1 : Value) (K : Value → World → Prop) (w : World) : Prop :=
 PureS (lenSliceV x0) fun t11 =>
 JoinS (fun (i7 : Value) (w : World) =>
 PureS (binV .lss i7 t11) fun t34 =>
 JoinS (fun (t42 : Value) (w : World) =>
 JoinS (fun (t48 : Value) (w : World) =>
 JoinS (fun (t50 : Value) (w : World) =>
 JoinS (fun (t51 : Value) (w : World) =>
 JoinS (fun (t52 : Value) (w : World) =>
 PureS (pickV t34 t52 (Value.bool false)) fun t53 =>
 K (Value.tuple [i7, t53].toArray) w
 ) fun J5 =>
 IfB t34 true (
 PureS (pickV t42 (Value.bool true) t51) fun t52_1 =>
 J5 t52_1 w
 ) (
 J5 undef w
 )
 ) fun J4 =>
 IfB t42 false (
 PureS (pickV t48 t50 (Value.bool false)) fun t51_1 =>
 J4 t51_1 w
 ) (
 J4 undef w
 )
 ) fun J3 =>
 IfB t48 true (
 CallS Try.prog 60 [target1].toArray (fun t50_1 w =>
 J3 t50_1 w
 ) w
 ) (
 J3 undef w
 )
 ) fun J2 =>
 IfB t42 false (
 PureS (indexAddrV 1 x0 i7) fun t45 =>
 LoadC t45 (fun t46 w =>
 CallS Try.prog 60 [t46].toArray (fun t47 w =>
 J2 t47 w
 ) w
 ) w
 ) (
 J2 undef w
 )
 ) fun J1 =>
 IfB t34 true (
 PureS (indexAddrV 1 x0 i7) fun t38 =>
 LoadC t38 (fun t39 w =>
 PureS (binV .eql t39 target1) fun t41 =>
 J1 t41 w
 ) w
 ) (
 J1 undef w
 )
 ) fun J0 =>
 LoopS 2 (fun L6 (i7_1 j8 : Value) (w : World) =>
 PureS (binV .lss i7_1 j8) fun t15 =>
 CondS t15 (
 PureS (binV .add i7_1 j8) fun t18 =>
 PureS (convIntV .u64 t18) fun t19 =>
 PureS (binV .shr t19 (Value.int .u64 1)) fun t20 =>
 PureS (convIntV .i64 t20) fun t21 =>
 PureS (indexAddrV 1 x0 t21) fun t24 =>
 LoadC t24 (fun t25 w =>
 CallS Try.prog 53 [t25, target1].toArray (fun t27 w =>
 CondS t27 (
 PureS (binV .add t21 (Value.int .i64 1)) fun t29 =>
 L6 t29 j8 w
 ) (
 L6 i7_1 t21 w
 )
 ) w
 ) w
 ) (
 J0 i7_1 w
 )
 ) (Value.int .i64 0) t11 w
theorem s46_den (x0 target1 : Value) (K : Value → World → Prop) (w : World) : denFn Try.prog false (bodyOf Try.f46) Try.f46.results a46 [x0, target1] K NoP w = s46 x0 target1 K w := by kernel_rfl
theorem s46_dst : dstsOk (2 + 52) (bodyOf Try.f46) = true := by kernel_rfl
theorem s46_ann : annOk (bodyOf Try.f46) a46 = true := by kernel_rfl
theorem s46_call {x0 target1 : Value} {K : Value → World → Prop} {w : World} (hm : Try.prog.follows .mixedOrders = true) (h : s46 x0 target1 K w) : CallS Try.prog 46 #[x0, target1] K w :=
  fn_call (args := [x0, target1]) (m := 52) hm Try.func46 (by kernel_rfl) (rs := Try.f46.results) rfl Try.ntmps46 s46_dst s46_ann (by rw [s46_den]; exact h)
end Go.Proofs.Ytkladgpaicolnaa
/-! Laid out by a program of ours: what each function of the cut comes to, over named values; and that it is so. -/
namespace Go.Proofs.Ytkladgpaicolnaa
set_option linter.unusedVariables false
set_option maxRecDepth 100000
open Go SG

/-! number 47 -/
def a47 : Ann :=
 (.q (.r [.plain 3]) (.b (.l [6] 562949953420480 (.q (.q (.r [.plain 3]) (.c .s .s)) (.j [] 562949953388672 (.b (.q (.r [.plain 2]) (.b (.l [7] 562949953355904 (.q (.j [30] 2147418112 (.d [0, 0, 3, 7, 15, 15, 63, 127, 15, 15, 527, 1807, 3855, 8191, 16383] (.pur 0 (.pur 1 (.pur 2 (.pur 3 (.ite 3 (.pur 4 (.pur 5 (.pur 6 (.pur 8 (.pur 9 (.pur 10 (.pur 11 (.hld 7 (.hld 12 (.act 13 (.pur 14 .fin))))))))))) (.skp 4 (.skp 5 (.skp 6 (.skp 7 (.skp 8 (.skp 9 (.skp 10 (.skp 11 (.skp 12 (.skp 13 (.pur 14 .fin)))))))))))))))))
  (.c .s .s)) (.q (.b (.d [0, 0, 0, 0, 8, 0, 0, 64, 224, 480, 0, 0, 3072, 7168, 16355, 32739, 65535, 131071] (.pur 0 (.pur 1 (.pur 2 (.pur 3 (.pur 4 (.pur 5 (.pur 6 (.pur 7 (.pur 8 (.pur 10 (.pur 11 (.pur 12 (.hld 9 (.hld 13 (.pur 14 (.act 15 (.pur 16 (.act 17 .fin)))))))))))))))))))) (.r [.plain 3])))))))
  (.r [.plain 3]))))))
def s47 (data0 a1 b2 : Value) (K : Value → World → Prop) (w : World) : Prop :=
 PureS (binV .add a1 (Value.int .i64 1)) fun t9 =>
 LoopS 1 (fun L0 (i6 : Value) (w : World) =>
 PureS (binV .lss i6 b2) fun t12 =>
 CondS t12 (
 JoinS (fun (w : World) =>
 PureS (binV .add i6 (Value.int .i64 1)) fun t14 =>
 L0 t14 w
 ) fun J1 =>
 LoopS 1 (fun L2 (j7 : Value) (w : World) =>
 JoinS (fun (t30 : Value) (w : World) =>
 CondS t30 (
 DrawS fun S4 => S4 w.drew ∧ (
 PureS (binV .sub j7 (Value.int .i64 1)) fun t37 =>
 PureS (binV .sub j7 (Value.int .i64 1)) fun t40 =>
 PureS (indexAddrV 1 data0 t40) fun t41 =>
 PureS (indexAddrV 1 data0 j7) fun t45 =>
 HeldC S4 t41 (fun t42 =>
 HeldC S4 t45 (fun t46 =>
 PureS (indexAddrV 1 data0 j7) fun t47 =>
 StoreC t47 t42 (fun w =>
 PureS (indexAddrV 1 data0 t37) fun t48 =>
 StoreC t48 t46 (fun w =>
 PureS (binV .sub j7 (Value.int .i64 1)) fun t32 =>
 L2 t32 w
 ) w
 ) w.drew
 )
 )
 )
 ) (
 J1 w
 )
 ) fun J3 =>
 DrawS fun S5 => S5 w.drew ∧ (
 PureS (binV .gtr j7 a1) fun t18 =>
 CondS t18 (
 PureS (indexAddrV 1 data0 j7) fun t22 =>
 PureS (binV .sub j7 (Value.int .i64 1)) fun t26 =>
 PureS (indexAddrV 1 data0 t26) fun t27 =>
 HeldC S5 t22 (fun t23 =>
 HeldC S5 t27 (fun t28 =>
 CallS Try.prog 53 [t23, t28].toArray (fun t29 w =>
 PureS (pickV (Value.bool true) t29 (Value.bool false)) fun t30_1 =>
 J3 t30_1 w
 ) w.drew
 )
 )
 ) (
 PureS (pickV (Value.bool false) undef (Value.bool false)) fun t30_2 =>
 J3 t30_2 w.drew
 )
 )
 ) i6 w
 ) (
 K (Value.tuple [].toArray) w
 )
 ) t9 w
theorem s47_den (data0 a1 b2 : Value) (K : Value → World → Prop) (w : World) : denFn Try.prog false (bodyOf Try.f47) Try.f47.results a47 [data0, a1, b2] K NoP w = s47 data0 a1 b2 K w := by kernel_rfl
theorem s47_dst : dstsOk (3 + 46) (bodyOf Try.f47) = true := by kernel_rfl
theorem s47_ann : annOk (bodyOf Try.f47) a47 = true := by kernel_rfl
theorem s47_call {data0 a1 b2 : Value} {K : Value → World → Prop} {w : World} (hm : Try.prog.follows .mixedOrders = true) (h : s47 data0 a1 b2 K w) : CallS Try.prog 47 #[data0, a1, b2] K w :=
  fn_call (args := [data0, a1, b2]) (m := 46) hm Try.func47 (by kernel_rfl) (rs := Try.f47.results) rfl Try.ntmps47 s47_dst s47_ann (by rw [s47_den]; exact h)

/-! number 48 -/
def a48 : Ann :=
 (.q (.r [.plain 2]) (.q (.r [.plain 1]) (.q (.r [.plain 4]) (.j [] 134185472 (.q (.r [.plain 4]) (.b (.l [9] 133956096 (.q (.q (.r [.plain 2]) (.c .s .s)) (.q (.b (.r [.plain 5])) (.r [.plain 3]))))))
  (.q (.r [.plain 3]) (.b (.l [10] 72057593501058048 (.q (.q (.r [.plain 2]) (.c .s .s)) (.q (.b (.q (.d [0, 0, 0, 0, 0, 24, 0, 0, 0, 384, 960, 1984, 0, 0, 12288, 28672, 65475, 131011, 262143, 524287] (.pur 0 (.pur 1 (.pur 2 (.pur 3 (.pur 4 (.pur 5 (.pur 6 (.pur 7 (.pur 8 (.pur 9 (.pur 10 (.pur 12 (.pur 13 (.pur 14 (.hld 11 (.hld 15 (.pur 16 (.act 17 (.pur 18 (.act 19 .fin))))))))))))))))))))) (.r [.plain 5]))) (.r [.plain 3]))))))))))
def s48 (data0 a1 b2 : Value) (K : Value → World → Prop) (w : World) : Prop :=
 PureS (binV .sub b2 a1) fun t14 =>
 JoinS (fun (w : World) =>
 PureS (binV .sub t14 (Value.int .i64 1)) fun t28 =>
 LoopS 1 (fun L1 (i10 : Value) (w : World) =>
 PureS (binV .geq i10 (Value.int .i64 0)) fun t30 =>
 CondS t30 (
 DrawS fun S2 => S2 w.drew ∧ (
 PureS (binV .add a1 i10) fun t38 =>
 PureS (binV .add a1 i10) fun t42 =>
 PureS (indexAddrV 1 data0 t42) fun t43 =>
 PureS (indexAddrV 1 data0 a1) fun t47 =>
 HeldC S2 t43 (fun t44 =>
 HeldC S2 t47 (fun t48 =>
 PureS (indexAddrV 1 data0 a1) fun t49 =>
 StoreC t49 t44 (fun w =>
 PureS (indexAddrV 1 data0 t38) fun t50 =>
 StoreC t50 t48 (fun w =>
 CallS Try.prog 61 [data0, (Value.int .i64 0), i10, a1].toArray (fun t55 w =>
 PureS (binV .sub i10 (Value.int .i64 1)) fun t32 =>
 L1 t32 w
 ) w
 ) w
 ) w.drew
 )
 )
 )
 ) (
 K (Value.tuple [].toArray) w
 )
 ) t28 w
 ) fun J0 =>
 PureS (binV .sub t14 (Value.int .i64 1)) fun t16 =>
 PureS (binV .quo t16 (Value.int .i64 2)) fun t17 =>
 LoopS 1 (fun L3 (i9 : Value) (w : World) =>
 PureS (binV .geq i9 (Value.int .i64 0)) fun t19 =>
 CondS t19 (
 CallS Try.prog 61 [data0, i9, t14, a1].toArray (fun t26 w =>
 PureS (binV .sub i9 (Value.int .i64 1)) fun t21 =>
 L3 t21 w
 ) w
 ) (
 J0 w
 )
 ) t17 w
theorem s48_den (data0 a1 b2 : Value) (K : Value → World → Prop) (w : World) : denFn Try.prog false (bodyOf Try.f48) Try.f48.results a48 [data0, a1, b2] K NoP w = s48 data0 a1 b2 K w := by kernel_rfl
theorem s48_dst : dstsOk (3 + 53) (bodyOf Try.f48) = true := by kernel_rfl
theorem s48_ann : annOk (bodyOf Try.f48) a48 = true := by kernel_rfl
theorem s48_call {data0 a1 b2 : Value} {K : Value → World → Prop} {w : World} (hm : Try.prog.follows .mixedOrders = true) (h : s48 data0 a1 b2 K w) : CallS Try.prog 48 #[data0, a1, b2] K w :=
  fn_call (args := [data0, a1, b2]) (m := 53) hm Try.func48 (by kernel_rfl) (rs := Try.f48.results) rfl Try.ntmps48 s48_dst s48_ann (by rw [s48_den]; exact h)

/-! number 49 -/
def a49 : Ann :=
 (.q (.r [.plain 4]) (.q (.r [.plain 2]) (.c (.q (.r [.plain 4]) (.q (.r [.plain 3]) (.q (.r [.plain 7]) (.b (.l [9] 36893488147351995904 (.q (.q (.r [.plain 8]) (.c .s .s)) (.q (.b (.q (.r [.plain 6]) (.j [10] 138538465100800 (.q (.r [.plain 3]) (.c (.r [.plain 4]) .s))
  (.d [0, 0, 0, 0, 0, 24, 0, 0, 0, 384, 960, 1984, 0, 0, 12288, 28672, 65475, 131011, 262143, 524287] (.pur 0 (.pur 1 (.pur 2 (.pur 3 (.pur 4 (.pur 5 (.pur 6 (.pur 7 (.pur 8 (.pur 9 (.pur 10 (.pur 12 (.pur 13 (.pur 14 (.hld 11 (.hld 15 (.pur 16 (.act 17 (.pur 18 (.act 19 .fin)))))))))))))))))))))))) (.r [.plain 3])))))))) .s)))
def s49 (data0 a1 b2 : Value) (K : Value → World → Prop) (w : World) : Prop :=
 PureS (binV .sub b2 a1) fun t13 =>
 PureS (binV .geq t13 (Value.int .i64 8)) fun t15 =>
 CondS t15 (
 PureS (convIntV .u64 t13) fun t17 =>
 BoxS 92 (Value.int .u64 0) (fun random7 w =>
 StoreC random7 t17 (fun w =>
 CallS Try.prog 62 [t13].toArray (fun t19 w =>
 PureS (binV .quo t13 (Value.int .i64 4)) fun t22 =>
 PureS (binV .mul t22 (Value.int .i64 2)) fun t23 =>
 PureS (binV .add a1 t23) fun t24 =>
 PureS (binV .sub t24 (Value.int .i64 1)) fun t25 =>
 LoopS 1 (fun L0 (idx9 : Value) (w : World) =>
 PureS (binV .quo t13 (Value.int .i64 4)) fun t29 =>
 PureS (binV .mul t29 (Value.int .i64 2)) fun t30 =>
 PureS (binV .add a1 t30) fun t31 =>
 PureS (binV .add t31 (Value.int .i64 1)) fun t32 =>
 PureS (binV .leq idx9 t32) fun t33 =>
 CondS t33 (
 CallS Try.prog 63 [random7].toArray (fun t36 w =>
 PureS (binV .sub t19 (Value.int .u64 1)) fun t38 =>
 PureS (binV .and t36 t38) fun t39 =>
 PureS (convIntV .i64 t39) fun t40 =>
 JoinS (fun (other10 : Value) (w : World) =>
 DrawS fun S2 => S2 w.drew ∧ (
 PureS (binV .add a1 other10) fun t52 =>
 PureS (binV .add a1 other10) fun t56 =>
 PureS (indexAddrV 1 data0 t56) fun t57 =>
 PureS (indexAddrV 1 data0 idx9) fun t61 =>
 HeldC S2 t57 (fun t58 =>
 HeldC S2 t61 (fun t62 =>
 PureS (indexAddrV 1 data0 idx9) fun t63 =>
 StoreC t63 t58 (fun w =>
 PureS (indexAddrV 1 data0 t52) fun t64 =>
 StoreC t64 t62 (fun w =>
 PureS (binV .add idx9 (Value.int .i64 1)) fun t35 =>
 L0 t35 w
 ) w
 ) w.drew
 )
 )
 )
 ) fun J1 =>
 PureS (binV .geq t40 t13) fun t43 =>
 CondS t43 (
 PureS (binV .sub t40 t13) fun t46 =>
 J1 t46 w
 ) (
 J1 t40 w
 )
 ) w
 ) (
 K (Value.tuple [].toArray) w
 )
 ) t25 w
 ) w
 ) w
 ) w
 ) (
 K (Value.tuple [].toArray) w
 )
theorem s49_den (data0 a1 b2 : Value) (K : Value → World → Prop) (w : World) : denFn Try.prog false (bodyOf Try.f49) Try.f49.results a49 [data0, a1, b2] K NoP w = s49 data0 a1 b2 K w := by kernel_rfl
theorem s49_dst : dstsOk (3 + 62) (bodyOf Try.f49) = true := by kernel_rfl
theorem s49_ann : annOk (bodyOf Try.f49) a49 = true := by kernel_rfl
theorem s49_call {data0 a1 b2 : Value} {K : Value → World → Prop} {w : World} (hm : Try.prog.follows .mixedOrders = true) (h : s49 data0 a1 b2 K w) : CallS Try.prog 49 #[data0, a1, b2] K w :=
  fn_call (args := [data0, a1, b2]) (m := 62) hm Try.func49 (by kernel_rfl) (rs := Try.f49.results) rfl Try.ntmps49 s49_dst s49_ann (by rw [s49_den]; exact h)

/-! number 50 -/
def a50 : Ann :=
 (.q (.r [.plain 2]) (.q (.r [.plain 4]) (.q (.r [.plain 1]) (.q (.r [.plain 6]) (.q (.r [.plain 6]) (.q (.r [.plain 6]) (.j [11] 562947805944832 (.q (.r [.plain 2]) (.c (.j [10, 11, 12] 17583596116992 (.q (.r [.plain 2]) (.c (.q (.r [.plain 4]) (.q (.r [.plain 4]) (.r [.plain 4]))) .s))
  (.r [.plain 6])) .s))
  (.q (.r [.plain 1]) (.b (.q (.r [.plain 2]) (.c (.q (.r [.plain 3]) .s) (.q (.r [.plain 2]) (.c (.q (.r [.plain 3]) .s) (.q (.r [.plain 3]) .s))))))))))))))
def s50 (data0 a1 b2 : Value) (K : Value → World → Prop) (w : World) : Prop :=
 PureS (binV .sub b2 a1) fun t15 =>
 BoxS 3 (Value.int .i64 0) (fun swaps9 w =>
 PureS (binV .quo t15 (Value.int .i64 4)) fun t18 =>
 PureS (binV .mul t18 (Value.int .i64 1)) fun t19 =>
 PureS (binV .add a1 t19) fun t20 =>
 PureS (binV .quo t15 (Value.int .i64 4)) fun t23 =>
 PureS (binV .mul t23 (Value.int .i64 2)) fun t24 =>
 PureS (binV .add a1 t24) fun t25 =>
 PureS (binV .quo t15 (Value.int .i64 4)) fun t28 =>
 PureS (binV .mul t28 (Value.int .i64 3)) fun t29 =>
 PureS (binV .add a1 t29) fun t30 =>
 JoinS (fun (j11 : Value) (w : World) =>
 LoadC swaps9 (fun t49 w =>
 PureS (binV .eql t49 (Value.int .i64 0)) fun t52 =>
 CondS t52 (
 K (Value.tuple [j11, (Value.int .i64 1)].toArray) w
 ) (
 PureS (binV .eql t49 (Value.int .i64 12)) fun t55 =>
 CondS t55 (
 K (Value.tuple [j11, (Value.int .i64 2)].toArray) w
 ) (
 K (Value.tuple [j11, (Value.int .i64 0)].toArray) w
 )
 )
 ) w
 ) fun J0 =>
 PureS (binV .geq t15 (Value.int .i64 8)) fun t32 =>
 CondS t32 (
 JoinS (fun (i10 j11_1 k12 : Value) (w : World) =>
 CallS Try.prog 65 [data0, i10, j11_1, k12, swaps9].toArray (fun t48 w =>
 J0 t48 w
 ) w
 ) fun J1 =>
 PureS (binV .geq t15 (Value.int .i64 50)) fun t34 =>
 CondS t34 (
 CallS Try.prog 64 [data0, t20, swaps9].toArray (fun t37 w =>
 CallS Try.prog 64 [data0, t25, swaps9].toArray (fun t40 w =>
 CallS Try.prog 64 [data0, t30, swaps9].toArray (fun t43 w =>
 J1 t37 t40 t43 w
 ) w
 ) w
 ) w
 ) (
 J1 t20 t25 t30 w
 )
 ) (
 J0 t25 w
 )
 ) w
theorem s50_den (data0 a1 b2 : Value) (K : Value → World → Prop) (w : World) : denFn Try.prog false (bodyOf Try.f50) Try.f50.results a50 [data0, a1, b2] K NoP w = s50 data0 a1 b2 K w := by kernel_rfl
theorem s50_dst : dstsOk (3 + 54) (bodyOf Try.f50) = true := by kernel_rfl
theorem s50_ann : annOk (bodyOf Try.f50) a50 = true := by kernel_rfl
theorem s50_call {data0 a1 b2 : Value} {K : Value → World → Prop} {w : World} (hm : Try.prog.follows .mixedOrders = true) (h : s50 data0 a1 b2 K w) : CallS Try.prog 50 #[data0, a1, b2] K w :=
  fn_call (args := [data0, a1, b2]) (m := 54) hm Try.func50 (by kernel_rfl) (rs := Try.f50.results) rfl Try.ntmps50 s50_dst s50_ann (by rw [s50_den]; exact h)

/-! number 51 -/
def a51 : Ann :=
 (.q (.r [.plain 2]) (.q (.r [.plain 3]) (.b (.l [6, 7] 4294965440 (.q (.q (.r [.plain 3]) (.c .s .s)) (.b (.q (.d [0, 0, 0, 0, 0, 0, 48, 112, 0, 0, 768, 1792, 4083, 8179, 16383, 32767] (.pur 0 (.pur 1 (.pur 2 (.pur 3 (.pur 4 (.pur 5 (.pur 6 (.pur 8 (.pur 9 (.pur 10 (.hld 7 (.hld 11 (.pur 12 (.act 13 (.pur 14 (.act 15 .fin))))))))))))))))) (.q (.r [.plain 3]) (.r [.plain 3])))))))))
def s51 (data0 a1 b2 : Value) (K : Value → World → Prop) (w : World) : Prop :=
 PureS (binV .sub b2 (Value.int .i64 1)) fun t10 =>
 LoopS 2 (fun L0 (i6 j7 : Value) (w : World) =>
 PureS (binV .lss i6 j7) fun t13 =>
 CondS t13 (
 DrawS fun S1 => S1 w.drew ∧ (
 PureS (indexAddrV 1 data0 j7) fun t20 =>
 PureS (indexAddrV 1 data0 i6) fun t24 =>
 HeldC S1 t20 (fun t21 =>
 HeldC S1 t24 (fun t25 =>
 PureS (indexAddrV 1 data0 i6) fun t26 =>
 StoreC t26 t21 (fun w =>
 PureS (indexAddrV 1 data0 j7) fun t27 =>
 StoreC t27 t25 (fun w =>
 PureS (binV .add i6 (Value.int .i64 1)) fun t29 =>
 PureS (binV .sub j7 (Value.int .i64 1)) fun t31 =>
 L0 t29 t31 w
 ) w
 ) w.drew
 )
 )
 )
 ) (
 K (Value.tuple [].toArray) w
 )
 ) a1 t10 w
theorem s51_den (data0 a1 b2 : Value) (K : Value → World → Prop) (w : World) : denFn Try.prog false (bodyOf Try.f51) Try.f51.results a51 [data0, a1, b2] K NoP w = s51 data0 a1 b2 K w := by kernel_rfl
theorem s51_dst : dstsOk (3 + 29) (bodyOf Try.f51) = true := by kernel_rfl
theorem s51_ann : annOk (bodyOf Try.f51) a51 = true := by kernel_rfl
theorem s51_call {data0 a1 b2 : Value} {K : Value → World → Prop} {w : World} (hm : Try.prog.follows .mixedOrders = true) (h : s51 data0 a1 b2 K w) : CallS Try.prog 51 #[data0, a1, b2] K w :=
  fn_call (args := [data0, a1, b2]) (m := 29) hm Try.func51 (by kernel_rfl) (rs := Try.f51.results) rfl Try.ntmps51 s51_dst s51_ann (by rw [s51_den]; exact h)

/-! number 52 -/
def a52 : Ann :=
 (.q (.r [.plain 1]) (.q (.r [.plain 3]) (.j [] 10889035741470030830827987437816582760384 (.q (.r [.plain 1]) (.b (.l [7, 8] 10889035741470030830827987437816582760384 (.q (.q (.r [.plain 2]) (.c .s .s)) (.j [7] 10889035741470030830827987437816582637248 (.b (.j [7] 34359607424 (.b (.l [7] 34359607424 (.q (.j [32] 8589803520 (.d [0, 0, 3, 7, 15, 15, 63, 127, 15, 15, 527, 1807, 3855, 8191, 16383, 32767] (.pur 0 (.pur 1 (.pur 2 (.pur 3 (.ite 3 (.pur 4 (.pur 5 (.pur 6 (.pur 8 (.pur 9 (.pur 10 (.pur 11 (.hld 7 (.hld 12 (.act 13 (.pur 14 (.pur 15 .fin)))))))))))) (.skp 4 (.skp 5 (.skp 6 (.skp 7 (.skp 8 (.skp 9 (.skp 10 (.skp 11 (.skp 12 (.skp 13 (.skp 14 (.pur 15 .fin))))))))))))))))))
  (.c .s .s)) (.b (.r [.plain 3])))))
  (.q (.q (.r [.plain 3]) (.c (.q (.r [.plain 1]) .s) .s)) (.q (.q (.r [.plain 4]) (.c (.q (.r [.plain 1]) .s) .s)) (.q (.d [0, 0, 0, 0, 8, 0, 0, 64, 224, 480, 0, 0, 3072, 7168, 16355, 32739, 65535, 131071] (.pur 0 (.pur 1 (.pur 2 (.pur 3 (.pur 4 (.pur 5 (.pur 6 (.pur 7 (.pur 8 (.pur 10 (.pur 11 (.pur 12 (.hld 9 (.hld 13 (.pur 14 (.act 15 (.pur 16 (.act 17 .fin))))))))))))))))))) (.j [] 39614081256843938420620263936 (.q (.r [.plain 4]) (.c (.q (.r [.plain 3]) (.b (.l [9] 39614081238685424723062424064 (.q (.q (.r [.plain 2]) (.c .s .s)) (.q (.b (.q (.q (.d [0, 0, 3, 7, 0, 0, 32, 112, 240, 511, 1023] (.pur 0 (.pur 1 (.pur 2 (.pur 4 (.pur 5 (.pur 6 (.pur 7 (.hld 3 (.hld 8 (.act 9 (.pur 10 .fin)))))))))))) (.c .s .s)) (.d [0, 0, 0, 0, 8, 0, 0, 64, 224, 480, 0, 0, 3072, 7168, 16355, 32739, 65535, 131071] (.pur 0 (.pur 1 (.pur 2 (.pur 3 (.pur 4 (.pur 5 (.pur 6 (.pur 7 (.pur 8 (.pur 10 (.pur 11 (.pur 12 (.hld 9 (.hld 13 (.pur 14 (.act 15 (.pur 16 (.act 17 .fin))))))))))))))))))))) (.r [.plain 3])))))) .s))
  (.q (.r [.plain 4]) (.c (.q (.r [.plain 3]) (.b (.l [10] 10889035738934729630371528634823176356864 (.q (.q (.r [.plain 3]) (.c .s .s)) (.q (.b (.q (.q (.d [0, 0, 3, 7, 0, 0, 32, 112, 240, 511, 1023] (.pur 0 (.pur 1 (.pur 2 (.pur 4 (.pur 5 (.pur 6 (.pur 7 (.hld 3 (.hld 8 (.act 9 (.pur 10 .fin)))))))))))) (.c .s .s)) (.d [0, 0, 0, 0, 8, 0, 0, 64, 224, 480, 0, 0, 3072, 7168, 16355, 32739, 65535, 131071] (.pur 0 (.pur 1 (.pur 2 (.pur 3 (.pur 4 (.pur 5 (.pur 6 (.pur 7 (.pur 8 (.pur 10 (.pur 11 (.pur 12 (.hld 9 (.hld 13 (.pur 14 (.act 15 (.pur 16 (.act 17 .fin))))))))))))))))))))) (.r [.plain 3])))))) .s))))))))
  (.r [.plain 3]))))))
  (.q (.r [.plain 1]) .s))))
def s52 (data0 a1 b2 : Value) (K : Value → World → Prop) (w : World) : Prop :=
 PureS (binV .add a1 (Value.int .i64 1)) fun t12 =>
 JoinS (fun (w : World) =>
 K (Value.bool false) w
 ) fun J0 =>
 LoopS 2 (fun L1 (i7 j8 : Value) (w : World) =>
 PureS (binV .lss j8 (Value.int .i64 5)) fun t14 =>
 CondS t14 (
 JoinS (fun (i7_1 : Value) (w : World) =>
 PureS (binV .add j8 (Value.int .i64 1)) fun t16 =>
 L1 i7_1 t16 w
 ) fun J2 =>
 JoinS (fun (i7_2 : Value) (w : World) =>
 PureS (binV .eql i7_2 b2) fun t37 =>
 CondS t37 (
 K (Value.bool true) w
 ) (
 PureS (binV .sub b2 a1) fun t40 =>
 PureS (binV .lss t40 (Value.int .i64 50)) fun t41 =>
 CondS t41 (
 K (Value.bool false) w
 ) (
 DrawS fun S4 => S4 w.drew ∧ (
 PureS (binV .sub i7_2 (Value.int .i64 1)) fun t46 =>
 PureS (binV .sub i7_2 (Value.int .i64 1)) fun t49 =>
 PureS (indexAddrV 1 data0 t49) fun t50 =>
 PureS (indexAddrV 1 data0 i7_2) fun t54 =>
 HeldC S4 t50 (fun t51 =>
 HeldC S4 t54 (fun t55 =>
 PureS (indexAddrV 1 data0 i7_2) fun t56 =>
 StoreC t56 t51 (fun w =>
 PureS (indexAddrV 1 data0 t46) fun t57 =>
 StoreC t57 t55 (fun w =>
 JoinS (fun (w : World) =>
 PureS (binV .sub b2 i7_2) fun t97 =>
 PureS (binV .geq t97 (Value.int .i64 2)) fun t98 =>
 CondS t98 (
 PureS (binV .add i7_2 (Value.int .i64 1)) fun t100 =>
 LoopS 1 (fun L6 (j10 : Value) (w : World) =>
 PureS (binV .lss j10 b2) fun t103 =>
 CondS t103 (
 DrawS fun S7 => S7 w.drew ∧ (
 PureS (indexAddrV 1 data0 j10) fun t108 =>
 PureS (binV .sub j10 (Value.int .i64 1)) fun t112 =>
 PureS (indexAddrV 1 data0 t112) fun t113 =>
 HeldC S7 t108 (fun t109 =>
 HeldC S7 t113 (fun t114 =>
 CallS Try.prog 53 [t109, t114].toArray (fun t115 w =>
 PureS (notV t115) fun t116 =>
 CondS t116 (
 J2 i7_2 w
 ) (
 DrawS fun S8 => S8 w.drew ∧ (
 PureS (binV .sub j10 (Value.int .i64 1)) fun t121 =>
 PureS (binV .sub j10 (Value.int .i64 1)) fun t124 =>
 PureS (indexAddrV 1 data0 t124) fun t125 =>
 PureS (indexAddrV 1 data0 j10) fun t129 =>
 HeldC S8 t125 (fun t126 =>
 HeldC S8 t129 (fun t130 =>
 PureS (indexAddrV 1 data0 j10) fun t131 =>
 StoreC t131 t126 (fun w =>
 PureS (indexAddrV 1 data0 t121) fun t132 =>
 StoreC t132 t130 (fun w =>
 PureS (binV .add j10 (Value.int .i64 1)) fun t105 =>
 L6 t105 w
 ) w
 ) w.drew
 )
 )
 )
 )
 ) w.drew
 )
 )
 )
 ) (
 J2 i7_2 w
 )
 ) t100 w
 ) (
 J2 i7_2 w
 )
 ) fun J5 =>
 PureS (binV .sub i7_2 a1) fun t60 =>
 PureS (binV .geq t60 (Value.int .i64 2)) fun t61 =>
 CondS t61 (
 PureS (binV .sub i7_2 (Value.int .i64 1)) fun t63 =>
 LoopS 1 (fun L9 (j9 : Value) (w : World) =>
 PureS (binV .geq j9 (Value.int .i64 1)) fun t65 =>
 CondS t65 (
 DrawS fun S10 => S10 w.drew ∧ (
 PureS (indexAddrV 1 data0 j9) fun t70 =>
 PureS (binV .sub j9 (Value.int .i64 1)) fun t74 =>
 PureS (indexAddrV 1 data0 t74) fun t75 =>
 HeldC S10 t70 (fun t71 =>
 HeldC S10 t75 (fun t76 =>
 CallS Try.prog 53 [t71, t76].toArray (fun t77 w =>
 PureS (notV t77) fun t78 =>
 CondS t78 (
 J5 w
 ) (
 DrawS fun S11 => S11 w.drew ∧ (
 PureS (binV .sub j9 (Value.int .i64 1)) fun t83 =>
 PureS (binV .sub j9 (Value.int .i64 1)) fun t86 =>
 PureS (indexAddrV 1 data0 t86) fun t87 =>
 PureS (indexAddrV 1 data0 j9) fun t91 =>
 HeldC S11 t87 (fun t88 =>
 HeldC S11 t91 (fun t92 =>
 PureS (indexAddrV 1 data0 j9) fun t93 =>
 StoreC t93 t88 (fun w =>
 PureS (indexAddrV 1 data0 t83) fun t94 =>
 StoreC t94 t92 (fun w =>
 PureS (binV .sub j9 (Value.int .i64 1)) fun t67 =>
 L9 t67 w
 ) w
 ) w.drew
 )
 )
 )
 )
 ) w.drew
 )
 )
 )
 ) (
 J5 w
 )
 ) t63 w
 ) (
 J5 w
 )
 ) w
 ) w.drew
 )
 )
 )
 )
 )
 ) fun J3 =>
 LoopS 1 (fun L12 (i7_3 : Value) (w : World) =>
 JoinS (fun (t32 : Value) (w : World) =>
 CondS t32 (
 PureS (binV .add i7_3 (Value.int .i64 1)) fun t34 =>
 L12 t34 w
 ) (
 J3 i7_3 w
 )
 ) fun J13 =>
 DrawS fun S14 => S14 w.drew ∧ (
 PureS (binV .lss i7_3 b2) fun t19 =>
 CondS t19 (
 PureS (indexAddrV 1 data0 i7_3) fun t23 =>
 PureS (binV .sub i7_3 (Value.int .i64 1)) fun t27 =>
 PureS (indexAddrV 1 data0 t27) fun t28 =>
 HeldC S14 t23 (fun t24 =>
 HeldC S14 t28 (fun t29 =>
 CallS Try.prog 53 [t24, t29].toArray (fun t30 w =>
 PureS (notV t30) fun t31 =>
 PureS (pickV (Value.bool true) t31 (Value.bool false)) fun t32_1 =>
 J13 t32_1 w
 ) w.drew
 )
 )
 ) (
 PureS (pickV (Value.bool false) undef (Value.bool false)) fun t32_2 =>
 J13 t32_2 w.drew
 )
 )
 ) i7 w
 ) (
 J0 w
 )
 ) t12 (Value.int .i64 0) w
theorem s52_den (data0 a1 b2 : Value) (K : Value → World → Prop) (w : World) : denFn Try.prog false (bodyOf Try.f52) Try.f52.results a52 [data0, a1, b2] K NoP w = s52 data0 a1 b2 K w := by kernel_rfl
theorem s52_dst : dstsOk (3 + 130) (bodyOf Try.f52) = true := by kernel_rfl
theorem s52_ann : annOk (bodyOf Try.f52) a52 = true := by kernel_rfl
theorem s52_call {data0 a1 b2 : Value} {K : Value → World → Prop} {w : World} (hm : Try.prog.follows .mixedOrders = true) (h : s52 data0 a1 b2 K w) : CallS Try.prog 52 #[data0, a1, b2] K w :=
  fn_call (args := [data0, a1, b2]) (m := 130) hm Try.func52 (by kernel_rfl) (rs := Try.f52.results) rfl Try.ntmps52 s52_dst s52_ann (by rw [s52_den]; exact h)

/-! number 53 -/
def a53 : Ann :=
 (.q (.r [.plain 1]) (.q (.r [.plain 3, .grp 3 [10] 1792, .plain 2, .grp 3 [15] 57344, .plain 2]) .s))
def s53 (x0 y1 : Value) (K : Value → World → Prop) (w : World) : Prop :=
 CallS Try.prog 66 [x0].toArray (fun t6 w =>
 JoinS (fun (t10 : Value) (w : World) =>
 PureS (pickV t6 t10 (Value.bool false)) fun t11 =>
 JoinS (fun (t15 : Value) (w : World) =>
 PureS (pickV t11 (Value.bool true) t15) fun t16 =>
 K t16 w
 ) fun J1 =>
 IfB t11 false (
 PureS (binV .lss x0 y1) fun t15_1 =>
 J1 t15_1 w
 ) (
 J1 undef w
 )
 ) fun J0 =>
 IfB t6 true (
 CallS Try.prog 66 [y1].toArray (fun t9 w =>
 PureS (notV t9) fun t10_1 =>
 J0 t10_1 w
 ) w
 ) (
 J0 undef w
 )
 ) w
theorem s53_den (x0 y1 : Value) (K : Value → World → Prop) (w : World) : denFn Try.prog false (bodyOf Try.f53) Try.f53.results a53 [x0, y1] K NoP w = s53 x0 y1 K w := by kernel_rfl
theorem s53_dst : dstsOk (2 + 15) (bodyOf Try.f53) = true := by kernel_rfl
theorem s53_ann : annOk (bodyOf Try.f53) a53 = true := by kernel_rfl
theorem s53_call {x0 y1 : Value} {K : Value → World → Prop} {w : World} (hm : Try.prog.follows .mixedOrders = true) (h : s53 x0 y1 K w) : CallS Try.prog 53 #[x0, y1] K w :=
  fn_call (args := [x0, y1]) (m := 15) hm Try.func53 (by kernel_rfl) (rs := Try.f53.results) rfl Try.ntmps53 s53_dst s53_ann (by rw [s53_den]; exact h)

/-! number 54 -/
def a54 : Ann :=
 (.q (.r [.plain 1]) (.q (.d [0, 0, 0, 0, 0, 0, 48, 112, 0, 0, 768, 1792, 4083, 8179, 16383, 32767] (.pur 0 (.pur 1 (.pur 2 (.pur 3 (.pur 4 (.pur 5 (.pur 6 (.pur 8 (.pur 9 (.pur 10 (.hld 7 (.hld 11 (.pur 12 (.act 13 (.pur 14 (.act 15 .fin))))))))))))))))) (.q (.r [.plain 6]) (.j [9] 9671406556917032860780032 (.b (.l [9, 10] 9671406556917032860780032 (.b (.j [9] 70368207307264 (.b (.l [9] 70368207307264 (.q (.j [43] 17591649173504 (.d [0, 0, 3, 7, 15, 15, 63, 127, 15, 15, 783, 1807, 4095, 8191, 16383] (.pur 0 (.pur 1 (.pur 2 (.pur 3 (.ite 3 (.pur 4 (.pur 5 (.pur 6 (.pur 8 (.pur 9 (.pur 10 (.hld 7 (.hld 11 (.act 12 (.pur 13 (.pur 14 .fin))))))))))) (.skp 4 (.skp 5 (.skp 6 (.skp 7 (.skp 8 (.skp 9 (.skp 10 (.skp 11 (.skp 12 (.skp 13 (.pur 14 .fin)))))))))))))))))
  (.c .s .s)) (.b (.r [.plain 3])))))
  (.j [10] 4611615649683211264 (.b (.l [10] 4611615649683211264 (.q (.j [59] 1152851135862669312 (.d [0, 0, 3, 7, 15, 15, 63, 127, 15, 15, 783, 1807, 4095, 8191] (.pur 0 (.pur 1 (.pur 2 (.pur 3 (.ite 3 (.pur 4 (.pur 5 (.pur 6 (.pur 8 (.pur 9 (.pur 10 (.hld 7 (.hld 11 (.act 12 (.pur 13 .fin)))))))))) (.skp 4 (.skp 5 (.skp 6 (.skp 7 (.skp 8 (.skp 9 (.skp 10 (.skp 11 (.skp 12 (.pur 13 .fin))))))))))))))))
  (.c .s .s)) (.b (.r [.plain 3])))))
  (.q (.q (.r [.plain 3]) (.c .s .s)) (.q (.d [0, 0, 0, 0, 0, 0, 48, 112, 0, 0, 768, 1792, 4083, 8179, 16383, 32767] (.pur 0 (.pur 1 (.pur 2 (.pur 3 (.pur 4 (.pur 5 (.pur 6 (.pur 8 (.pur 9 (.pur 10 (.hld 7 (.hld 11 (.pur 12 (.act 13 (.pur 14 (.act 15 .fin))))))))))))))))) (.q (.r [.plain 3]) (.r [.plain 3])))))))))
  (.q (.r [.plain 2]) .s)))))
def s54 (data0 a1 b2 pivot3 : Value) (K : Value → World → Prop) (w : World) : Prop :=
 DrawS fun S0 => S0 w.drew ∧ (
 PureS (indexAddrV 1 data0 pivot3) fun t17 =>
 PureS (indexAddrV 1 data0 a1) fun t21 =>
 HeldC S0 t17 (fun t18 =>
 HeldC S0 t21 (fun t22 =>
 PureS (indexAddrV 1 data0 a1) fun t23 =>
 StoreC t23 t18 (fun w =>
 PureS (indexAddrV 1 data0 pivot3) fun t24 =>
 StoreC t24 t22 (fun w =>
 PureS (binV .add a1 (Value.int .i64 1)) fun t26 =>
 PureS (binV .sub b2 (Value.int .i64 1)) fun t28 =>
 JoinS (fun (i9 : Value) (w : World) =>
 K i9 w
 ) fun J1 =>
 LoopS 2 (fun L2 (i9_1 j10 : Value) (w : World) =>
 JoinS (fun (i9_2 : Value) (w : World) =>
 JoinS (fun (j10_1 : Value) (w : World) =>
 PureS (binV .gtr i9_2 j10_1) fun t64 =>
 CondS t64 (
 J1 i9_2 w
 ) (
 DrawS fun S5 => S5 w.drew ∧ (
 PureS (indexAddrV 1 data0 j10_1) fun t71 =>
 PureS (indexAddrV 1 data0 i9_2) fun t75 =>
 HeldC S5 t71 (fun t72 =>
 HeldC S5 t75 (fun t76 =>
 PureS (indexAddrV 1 data0 i9_2) fun t77 =>
 StoreC t77 t72 (fun w =>
 PureS (indexAddrV 1 data0 j10_1) fun t78 =>
 StoreC t78 t76 (fun w =>
 PureS (binV .add i9_2 (Value.int .i64 1)) fun t80 =>
 PureS (binV .sub j10_1 (Value.int .i64 1)) fun t82 =>
 L2 t80 t82 w
 ) w
 ) w.drew
 )
 )
 )
 )
 ) fun J4 =>
 LoopS 1 (fun L6 (j10_2 : Value) (w : World) =>
 JoinS (fun (t59 : Value) (w : World) =>
 CondS t59 (
 PureS (binV .sub j10_2 (Value.int .i64 1)) fun t61 =>
 L6 t61 w
 ) (
 J4 j10_2 w
 )
 ) fun J7 =>
 DrawS fun S8 => S8 w.drew ∧ (
 PureS (binV .leq i9_2 j10_2) fun t48 =>
 CondS t48 (
 PureS (indexAddrV 1 data0 a1) fun t52 =>
 PureS (indexAddrV 1 data0 j10_2) fun t56 =>
 HeldC S8 t52 (fun t53 =>
 HeldC S8 t56 (fun t57 =>
 CallS Try.prog 53 [t53, t57].toArray (fun t58 w =>
 PureS (pickV (Value.bool true) t58 (Value.bool false)) fun t59_1 =>
 J7 t59_1 w
 ) w.drew
 )
 )
 ) (
 PureS (pickV (Value.bool false) undef (Value.bool false)) fun t59_2 =>
 J7 t59_2 w.drew
 )
 )
 ) j10 w
 ) fun J3 =>
 LoopS 1 (fun L9 (i9_3 : Value) (w : World) =>
 JoinS (fun (t43 : Value) (w : World) =>
 CondS t43 (
 PureS (binV .add i9_3 (Value.int .i64 1)) fun t45 =>
 L9 t45 w
 ) (
 J3 i9_3 w
 )
 ) fun J10 =>
 DrawS fun S11 => S11 w.drew ∧ (
 PureS (binV .leq i9_3 j10) fun t31 =>
 CondS t31 (
 PureS (indexAddrV 1 data0 a1) fun t35 =>
 PureS (indexAddrV 1 data0 i9_3) fun t39 =>
 HeldC S11 t35 (fun t36 =>
 HeldC S11 t39 (fun t40 =>
 CallS Try.prog 53 [t36, t40].toArray (fun t41 w =>
 PureS (notV t41) fun t42 =>
 PureS (pickV (Value.bool true) t42 (Value.bool false)) fun t43_1 =>
 J10 t43_1 w
 ) w.drew
 )
 )
 ) (
 PureS (pickV (Value.bool false) undef (Value.bool false)) fun t43_2 =>
 J10 t43_2 w.drew
 )
 )
 ) i9_1 w
 ) t26 t28 w
 ) w
 ) w.drew
 )
 )
 )
theorem s54_den (data0 a1 b2 pivot3 : Value) (K : Value → World → Prop) (w : World) : denFn Try.prog false (bodyOf Try.f54) Try.f54.results a54 [data0, a1, b2, pivot3] K NoP w = s54 data0 a1 b2 pivot3 K w := by kernel_rfl
theorem s54_dst : dstsOk (4 + 80) (bodyOf Try.f54) = true := by kernel_rfl
theorem s54_ann : annOk (bodyOf Try.f54) a54 = true := by kernel_rfl
theorem s54_call {data0 a1 b2 pivot3 : Value} {K : Value → World → Prop} {w : World} (hm : Try.prog.follows .mixedOrders = true) (h : s54 data0 a1 b2 pivot3 K w) : CallS Try.prog 54 #[data0, a1, b2, pivot3] K w :=
  fn_call (args := [data0, a1, b2, pivot3]) (m := 80) hm Try.func54 (by kernel_rfl) (rs := Try.f54.results) rfl Try.ntmps54 s54_dst s54_ann (by rw [s54_den]; exact h)

/-! number 55 -/
def a55 : Ann :=
 (.q (.r [.plain 2]) (.q (.d [0, 0, 0, 0, 0, 0, 48, 112, 0, 0, 768, 1792, 4083, 8179, 16383, 32767] (.pur 0 (.pur 1 (.pur 2 (.pur 3 (.pur 4 (.pur 5 (.pur 6 (.pur 8 (.pur 9 (.pur 10 (.hld 7 (.hld 11 (.pur 12 (.act 13 (.pur 14 (.act 15 .fin))))))))))))))))) (.q (.r [.plain 6]) (.j [10] 70367670436864 (.b (.l [10] 70367670436864 (.q (.j [43] 17591112302592 (.d [0, 0, 3, 7, 15, 15, 63, 127, 15, 15, 783, 1807, 4095, 8191] (.pur 0 (.pur 1 (.pur 2 (.pur 3 (.ite 3 (.pur 4 (.pur 5 (.pur 6 (.pur 8 (.pur 9 (.pur 10 (.hld 7 (.hld 11 (.act 12 (.pur 13 .fin)))))))))) (.skp 4 (.skp 5 (.skp 6 (.skp 7 (.skp 8 (.skp 9 (.skp 10 (.skp 11 (.skp 12 (.pur 13 .fin))))))))))))))))
  (.c .s .s)) (.b (.r [.plain 3])))))
  (.j [11] 9223301668110600192 (.b (.l [11] 9223301668110600192 (.q (.j [60] 2305772640469516288 (.d [0, 0, 3, 7, 15, 15, 63, 127, 15, 15, 783, 1807, 4095, 8191, 16383] (.pur 0 (.pur 1 (.pur 2 (.pur 3 (.ite 3 (.pur 4 (.pur 5 (.pur 6 (.pur 8 (.pur 9 (.pur 10 (.hld 7 (.hld 11 (.act 12 (.pur 13 (.pur 14 .fin))))))))))) (.skp 4 (.skp 5 (.skp 6 (.skp 7 (.skp 8 (.skp 9 (.skp 10 (.skp 11 (.skp 12 (.skp 13 (.pur 14 .fin)))))))))))))))))
  (.c .s .s)) (.b (.r [.plain 3])))))
  (.q (.q (.r [.plain 3]) (.c (.q (.d [0, 0, 0, 0, 0, 0, 48, 112, 0, 0, 768, 1792, 4083, 8179, 16383, 32767] (.pur 0 (.pur 1 (.pur 2 (.pur 3 (.pur 4 (.pur 5 (.pur 6 (.pur 8 (.pur 9 (.pur 10 (.hld 7 (.hld 11 (.pur 12 (.act 13 (.pur 14 (.act 15 .fin))))))))))))))))) (.q (.r [.plain 3]) .s)) .s)) (.q (.d [0, 0, 0, 0, 0, 0, 48, 112, 0, 0, 768, 1792, 4083, 8179, 16383, 32767] (.pur 0 (.pur 1 (.pur 2 (.pur 3 (.pur 4 (.pur 5 (.pur 6 (.pur 8 (.pur 9 (.pur 10 (.hld 7 (.hld 11 (.pur 12 (.act 13 (.pur 14 (.act 15 .fin))))))))))))))))) (.q (.r [.plain 3]) (.q (.r [.plain 3]) (.j [11] 11417981541647678414640987641481260342710373376 (.b (.l [10, 11] 11417981541647678414640987641481260342710373376 (.b (.j [10] 41537741042978506913543222282159104 (.b (.l [10] 41537741042978506913543222282159104 (.q (.j [112] 10383959891769541142360244306837504 (.d [0, 0, 3, 7, 15, 15, 63, 127, 15, 15, 783, 1807, 4095, 8191] (.pur 0 (.pur 1 (.pur 2 (.pur 3 (.ite 3 (.pur 4 (.pur 5 (.pur 6 (.pur 8 (.pur 9 (.pur 10 (.hld 7 (.hld 11 (.act 12 (.pur 13 .fin)))))))))) (.skp 4 (.skp 5 (.skp 6 (.skp 7 (.skp 8 (.skp 9 (.skp 10 (.skp 11 (.skp 12 (.pur 13 .fin))))))))))))))))
  (.c .s .s)) (.b (.r [.plain 3])))))
  (.j [11] 5444476332360147136792965474937657624576 (.b (.l [11] 5444476332360147136792965474937657624576 (.q (.j [129] 1361087929308885575232470185756439085056 (.d [0, 0, 3, 7, 15, 15, 63, 127, 15, 15, 783, 1807, 4095, 8191, 16383] (.pur 0 (.pur 1 (.pur 2 (.pur 3 (.ite 3 (.pur 4 (.pur 5 (.pur 6 (.pur 8 (.pur 9 (.pur 10 (.hld 7 (.hld 11 (.act 12 (.pur 13 (.pur 14 .fin))))))))))) (.skp 4 (.skp 5 (.skp 6 (.skp 7 (.skp 8 (.skp 9 (.skp 10 (.skp 11 (.skp 12 (.skp 13 (.pur 14 .fin)))))))))))))))))
  (.c .s .s)) (.b (.r [.plain 3])))))
  (.q (.q (.r [.plain 3]) (.c .s .s)) (.q (.d [0, 0, 0, 0, 0, 0, 48, 112, 0, 0, 768, 1792, 4083, 8179, 16383, 32767] (.pur 0 (.pur 1 (.pur 2 (.pur 3 (.pur 4 (.pur 5 (.pur 6 (.pur 8 (.pur 9 (.pur 10 (.hld 7 (.hld 11 (.pur 12 (.act 13 (.pur 14 (.act 15 .fin))))))))))))))))) (.q (.r [.plain 3]) (.r [.plain 3])))))))))
  (.q (.d [0, 0, 0, 0, 0, 0, 48, 112, 0, 0, 768, 1792, 4083, 8179, 16383, 32767] (.pur 0 (.pur 1 (.pur 2 (.pur 3 (.pur 4 (.pur 5 (.pur 6 (.pur 8 (.pur 9 (.pur 10 (.hld 7 (.hld 11 (.pur 12 (.act 13 (.pur 14 (.act 15 .fin))))))))))))))))) (.q (.r [.plain 3]) .s))))))))))))
def s55 (data0 a1 b2 pivot3 : Value) (K : Value → World → Prop) (w : World) : Prop :=
 DrawS fun S0 => S0 w.drew ∧ (
 PureS (indexAddrV 1 data0 pivot3) fun t18 =>
 PureS (indexAddrV 1 data0 a1) fun t22 =>
 HeldC S0 t18 (fun t19 =>
 HeldC S0 t22 (fun t23 =>
 PureS (indexAddrV 1 data0 a1) fun t24 =>
 StoreC t24 t19 (fun w =>
 PureS (indexAddrV 1 data0 pivot3) fun t25 =>
 StoreC t25 t23 (fun w =>
 PureS (binV .add a1 (Value.int .i64 1)) fun t27 =>
 PureS (binV .sub b2 (Value.int .i64 1)) fun t29 =>
 JoinS (fun (i10 : Value) (w : World) =>
 JoinS (fun (j11 : Value) (w : World) =>
 PureS (binV .gtr i10 j11) fun t65 =>
 CondS t65 (
 DrawS fun S3 => S3 w.drew ∧ (
 PureS (indexAddrV 1 data0 a1) fun t72 =>
 PureS (indexAddrV 1 data0 j11) fun t76 =>
 HeldC S3 t72 (fun t73 =>
 HeldC S3 t76 (fun t77 =>
 PureS (indexAddrV 1 data0 j11) fun t78 =>
 StoreC t78 t73 (fun w =>
 PureS (indexAddrV 1 data0 a1) fun t79 =>
 StoreC t79 t77 (fun w =>
 K (Value.tuple [j11, (Value.bool true)].toArray) w
 ) w
 ) w.drew
 )
 )
 )
 ) (
 DrawS fun S4 => S4 w.drew ∧ (
 PureS (indexAddrV 1 data0 j11) fun t87 =>
 PureS (indexAddrV 1 data0 i10) fun t91 =>
 HeldC S4 t87 (fun t88 =>
 HeldC S4 t91 (fun t92 =>
 PureS (indexAddrV 1 data0 i10) fun t93 =>
 StoreC t93 t88 (fun w =>
 PureS (indexAddrV 1 data0 j11) fun t94 =>
 StoreC t94 t92 (fun w =>
 PureS (binV .add i10 (Value.int .i64 1)) fun t96 =>
 PureS (binV .sub j11 (Value.int .i64 1)) fun t98 =>
 JoinS (fun (j11_1 : Value) (w : World) =>
 DrawS fun S6 => S6 w.drew ∧ (
 PureS (indexAddrV 1 data0 a1) fun t159 =>
 PureS (indexAddrV 1 data0 j11_1) fun t163 =>
 HeldC S6 t159 (fun t160 =>
 HeldC S6 t163 (fun t164 =>
 PureS (indexAddrV 1 data0 j11_1) fun t165 =>
 StoreC t165 t160 (fun w =>
 PureS (indexAddrV 1 data0 a1) fun t166 =>
 StoreC t166 t164 (fun w =>
 K (Value.tuple [j11_1, (Value.bool false)].toArray) w
 ) w
 ) w.drew
 )
 )
 )
 ) fun J5 =>
 LoopS 2 (fun L7 (i10_1 j11_2 : Value) (w : World) =>
 JoinS (fun (i10_2 : Value) (w : World) =>
 JoinS (fun (j11_3 : Value) (w : World) =>
 PureS (binV .gtr i10_2 j11_3) fun t134 =>
 CondS t134 (
 J5 j11_3 w
 ) (
 DrawS fun S10 => S10 w.drew ∧ (
 PureS (indexAddrV 1 data0 j11_3) fun t141 =>
 PureS (indexAddrV 1 data0 i10_2) fun t145 =>
 HeldC S10 t141 (fun t142 =>
 HeldC S10 t145 (fun t146 =>
 PureS (indexAddrV 1 data0 i10_2) fun t147 =>
 StoreC t147 t142 (fun w =>
 PureS (indexAddrV 1 data0 j11_3) fun t148 =>
 StoreC t148 t146 (fun w =>
 PureS (binV .add i10_2 (Value.int .i64 1)) fun t150 =>
 PureS (binV .sub j11_3 (Value.int .i64 1)) fun t152 =>
 L7 t150 t152 w
 ) w
 ) w.drew
 )
 )
 )
 )
 ) fun J9 =>
 LoopS 1 (fun L11 (j11_4 : Value) (w : World) =>
 JoinS (fun (t129 : Value) (w : World) =>
 CondS t129 (
 PureS (binV .sub j11_4 (Value.int .i64 1)) fun t131 =>
 L11 t131 w
 ) (
 J9 j11_4 w
 )
 ) fun J12 =>
 DrawS fun S13 => S13 w.drew ∧ (
 PureS (binV .leq i10_2 j11_4) fun t117 =>
 CondS t117 (
 PureS (indexAddrV 1 data0 j11_4) fun t121 =>
 PureS (indexAddrV 1 data0 a1) fun t125 =>
 HeldC S13 t121 (fun t122 =>
 HeldC S13 t125 (fun t126 =>
 CallS Try.prog 53 [t122, t126].toArray (fun t127 w =>
 PureS (notV t127) fun t128 =>
 PureS (pickV (Value.bool true) t128 (Value.bool false)) fun t129_1 =>
 J12 t129_1 w
 ) w.drew
 )
 )
 ) (
 PureS (pickV (Value.bool false) undef (Value.bool false)) fun t129_2 =>
 J12 t129_2 w.drew
 )
 )
 ) j11_2 w
 ) fun J8 =>
 LoopS 1 (fun L14 (i10_3 : Value) (w : World) =>
 JoinS (fun (t112 : Value) (w : World) =>
 CondS t112 (
 PureS (binV .add i10_3 (Value.int .i64 1)) fun t114 =>
 L14 t114 w
 ) (
 J8 i10_3 w
 )
 ) fun J15 =>
 DrawS fun S16 => S16 w.drew ∧ (
 PureS (binV .leq i10_3 j11_2) fun t101 =>
 CondS t101 (
 PureS (indexAddrV 1 data0 i10_3) fun t105 =>
 PureS (indexAddrV 1 data0 a1) fun t109 =>
 HeldC S16 t105 (fun t106 =>
 HeldC S16 t109 (fun t110 =>
 CallS Try.prog 53 [t106, t110].toArray (fun t111 w =>
 PureS (pickV (Value.bool true) t111 (Value.bool false)) fun t112_1 =>
 J15 t112_1 w
 ) w.drew
 )
 )
 ) (
 PureS (pickV (Value.bool false) undef (Value.bool false)) fun t112_2 =>
 J15 t112_2 w.drew
 )
 )
 ) i10_1 w
 ) t96 t98 w
 ) w
 ) w.drew
 )
 )
 )
 )
 ) fun J2 =>
 LoopS 1 (fun L17 (j11_5 : Value) (w : World) =>
 JoinS (fun (t60 : Value) (w : World) =>
 CondS t60 (
 PureS (binV .sub j11_5 (Value.int .i64 1)) fun t62 =>
 L17 t62 w
 ) (
 J2 j11_5 w
 )
 ) fun J18 =>
 DrawS fun S19 => S19 w.drew ∧ (
 PureS (binV .leq i10 j11_5) fun t48 =>
 CondS t48 (
 PureS (indexAddrV 1 data0 j11_5) fun t52 =>
 PureS (indexAddrV 1 data0 a1) fun t56 =>
 HeldC S19 t52 (fun t53 =>
 HeldC S19 t56 (fun t57 =>
 CallS Try.prog 53 [t53, t57].toArray (fun t58 w =>
 PureS (notV t58) fun t59 =>
 PureS (pickV (Value.bool true) t59 (Value.bool false)) fun t60_1 =>
 J18 t60_1 w
 ) w.drew
 )
 )
 ) (
 PureS (pickV (Value.bool false) undef (Value.bool false)) fun t60_2 =>
 J18 t60_2 w.drew
 )
 )
 ) t29 w
 ) fun J1 =>
 LoopS 1 (fun L20 (i10_4 : Value) (w : World) =>
 JoinS (fun (t43 : Value) (w : World) =>
 CondS t43 (
 PureS (binV .add i10_4 (Value.int .i64 1)) fun t45 =>
 L20 t45 w
 ) (
 J1 i10_4 w
 )
 ) fun J21 =>
 DrawS fun S22 => S22 w.drew ∧ (
 PureS (binV .leq i10_4 t29) fun t32 =>
 CondS t32 (
 PureS (indexAddrV 1 data0 i10_4) fun t36 =>
 PureS (indexAddrV 1 data0 a1) fun t40 =>
 HeldC S22 t36 (fun t37 =>
 HeldC S22 t40 (fun t41 =>
 CallS Try.prog 53 [t37, t41].toArray (fun t42 w =>
 PureS (pickV (Value.bool true) t42 (Value.bool false)) fun t43_1 =>
 J21 t43_1 w
 ) w.drew
 )
 )
 ) (
 PureS (pickV (Value.bool false) undef (Value.bool false)) fun t43_2 =>
 J21 t43_2 w.drew
 )
 )
 ) t27 w
 ) w
 ) w.drew
 )
 )
 )
theorem s55_den (data0 a1 b2 pivot3 : Value) (K : Value → World → Prop) (w : World) : denFn Try.prog false (bodyOf Try.f55) Try.f55.results a55 [data0, a1, b2, pivot3] K NoP w = s55 data0 a1 b2 pivot3 K w := by kernel_rfl
theorem s55_dst : dstsOk (4 + 164) (bodyOf Try.f55) = true := by kernel_rfl
theorem s55_ann : annOk (bodyOf Try.f55) a55 = true := by kernel_rfl
theorem s55_call {data0 a1 b2 pivot3 : Value} {K : Value → World → Prop} {w : World} (hm : Try.prog.follows .mixedOrders = true) (h : s55 data0 a1 b2 pivot3 K w) : CallS Try.prog 55 #[data0, a1, b2, pivot3] K w :=
  fn_call (args := [data0, a1, b2, pivot3]) (m := 164) hm Try.func55 (by kernel_rfl) (rs := Try.f55.results) rfl Try.ntmps55 s55_dst s55_ann (by rw [s55_den]; exact h)

/-! number 56 -/
def a56 : Ann :=
 (.q (.r [.plain 1]) (.j [0, 2] 125 (.q (.r [.plain 2]) (.c (.q (.r [.plain 3]) (.r [.plain 1])) .s))
  (.j [0, 2] 8069 (.q (.r [.plain 2]) (.c (.q (.r [.plain 3]) (.r [.plain 3])) .s))
  (.q (.r [.plain 7]) .s))))
def s56 (x0 : Value) (K : Value → World → Prop) (w : World) : Prop :=
 JoinS (fun (x0_1 n2 : Value) (w : World) =>
 JoinS (fun (x0_2 n2_1 : Value) (w : World) =>
 PureS (convIntV .u8 x0_2) fun t15 =>
 PureS (indexStrV (Value.string ⟨#[0, 1, 2, 2, 3, 3, 3, 3, 4, 4, 4, 4, 4, 4, 4, 4, 5, 5, 5, 5, 5, 5, 5, 5, 5, 5, 5, 5, 5, 5, 5, 5, 6, 6, 6, 6, 6, 6, 6, 6, 6, 6, 6, 6, 6, 6, 6, 6, 6, 6, 6, 6, 6, 6, 6, 6, 6, 6, 6, 6, 6, 6, 6, 6, 7, 7, 7, 7, 7, 7, 7, 7, 7, 7, 7, 7, 7, 7, 7, 7, 7, 7, 7, 7, 7, 7, 7, 7, 7, 7, 7, 7, 7, 7, 7, 7, 7, 7, 7, 7, 7, 7, 7, 7, 7, 7, 7, 7, 7, 7, 7, 7, 7, 7, 7, 7, 7, 7, 7, 7, 7, 7, 7, 7, 7, 7, 7, 7, 8, 8, 8, 8, 8, 8, 8, 8, 8, 8, 8, 8, 8, 8, 8, 8, 8, 8, 8, 8, 8, 8, 8, 8, 8, 8, 8, 8, 8, 8, 8, 8, 8, 8, 8, 8, 8, 8, 8, 8, 8, 8, 8, 8, 8, 8, 8, 8, 8, 8, 8, 8, 8, 8, 8, 8, 8, 8, 8, 8, 8, 8, 8, 8, 8, 8, 8, 8, 8, 8, 8, 8, 8, 8, 8, 8, 8, 8, 8, 8, 8, 8, 8, 8, 8, 8, 8, 8, 8, 8, 8, 8, 8, 8, 8, 8, 8, 8, 8, 8, 8, 8, 8, 8, 8, 8, 8, 8, 8, 8, 8, 8, 8, 8, 8, 8, 8, 8, 8, 8, 8, 8, 8, 8, 8, 8, 8, 8]⟩) t15) fun t16 =>
 PureS (convIntV .i64 t16) fun t17 =>
 PureS (binV .add n2_1 t17) fun t18 =>
 K t18 w
 ) fun J1 =>
 PureS (binV .geq x0_1 (Value.int .u32 256)) fun t8 =>
 CondS t8 (
 PureS (binV .shr x0_1 (Value.int .u64 8)) fun t10 =>
 PureS (binV .add n2 (Value.int .i64 8)) fun t12 =>
 J1 t10 t12 w
 ) (
 J1 x0_1 n2 w
 )
 ) fun J0 =>
 PureS (binV .geq x0 (Value.int .u32 65536)) fun t4 =>
 CondS t4 (
 PureS (binV .shr x0 (Value.int .u64 16)) fun t6 =>
 J0 t6 (Value.int .i64 16) w
 ) (
 J0 x0 (Value.int .i64 0) w
 )
theorem s56_den (x0 : Value) (K : Value → World → Prop) (w : World) : denFn Try.prog false (bodyOf Try.f56) Try.f56.results a56 [x0] K NoP w = s56 x0 K w := by kernel_rfl
theorem s56_dst : dstsOk (1 + 18) (bodyOf Try.f56) = true := by kernel_rfl
theorem s56_ann : annOk (bodyOf Try.f56) a56 = true := by kernel_rfl
theorem s56_call {x0 : Value} {K : Value → World → Prop} {w : World} (hm : Try.prog.follows .mixedOrders = true) (h : s56 x0 K w) : CallS Try.prog 56 #[x0] K w :=
  fn_call (args := [x0]) (m := 18) hm Try.func56 (by kernel_rfl) (rs := Try.f56.results) rfl Try.ntmps56 s56_dst s56_ann (by rw [s56_den]; exact h)

/-! number 57 -/
def a57 : Ann :=
 (.q (.r [.plain 1]) (.j [0, 2] 125 (.q (.r [.plain 2]) (.c (.q (.r [.plain 3]) (.r [.plain 1])) .s))
  (.j [0, 2] 8069 (.q (.r [.plain 2]) (.c (.q (.r [.plain 3]) (.r [.plain 3])) .s))
  (.j [0, 2] 516101 (.q (.r [.plain 2]) (.c (.q (.r [.plain 3]) (.r [.plain 3])) .s))
  (.q (.r [.plain 7]) .s)))))
def s57 (x0 : Value) (K : Value → World → Prop) (w : World) : Prop :=
 JoinS (fun (x0_1 n2 : Value) (w : World) =>
 JoinS (fun (x0_2 n2_1 : Value) (w : World) =>
 JoinS (fun (x0_3 n2_2 : Value) (w : World) =>
 PureS (convIntV .u8 x0_3) fun t21 =>
 PureS (indexStrV (Value.string ⟨#[0, 1, 2, 2, 3, 3, 3, 3, 4, 4, 4, 4, 4, 4, 4, 4, 5, 5, 5, 5, 5, 5, 5, 5, 5, 5, 5, 5, 5, 5, 5, 5, 6, 6, 6, 6, 6, 6, 6, 6, 6, 6, 6, 6, 6, 6, 6, 6, 6, 6, 6, 6, 6, 6, 6, 6, 6, 6, 6, 6, 6, 6, 6, 6, 7, 7, 7, 7, 7, 7, 7, 7, 7, 7, 7, 7, 7, 7, 7, 7, 7, 7, 7, 7, 7, 7, 7, 7, 7, 7, 7, 7, 7, 7, 7, 7, 7, 7, 7, 7, 7, 7, 7, 7, 7, 7, 7, 7, 7, 7, 7, 7, 7, 7, 7, 7, 7, 7, 7, 7, 7, 7, 7, 7, 7, 7, 7, 7, 8, 8, 8, 8, 8, 8, 8, 8, 8, 8, 8, 8, 8, 8, 8, 8, 8, 8, 8, 8, 8, 8, 8, 8, 8, 8, 8, 8, 8, 8, 8, 8, 8, 8, 8, 8, 8, 8, 8, 8, 8, 8, 8, 8, 8, 8, 8, 8, 8, 8, 8, 8, 8, 8, 8, 8, 8, 8, 8, 8, 8, 8, 8, 8, 8, 8, 8, 8, 8, 8, 8, 8, 8, 8, 8, 8, 8, 8, 8, 8, 8, 8, 8, 8, 8, 8, 8, 8, 8, 8, 8, 8, 8, 8, 8, 8, 8, 8, 8, 8, 8, 8, 8, 8, 8, 8, 8, 8, 8, 8, 8, 8, 8, 8, 8, 8, 8, 8, 8, 8, 8, 8, 8, 8, 8, 8, 8, 8]⟩) t21) fun t22 =>
 PureS (convIntV .i64 t22) fun t23 =>
 PureS (binV .add n2_2 t23) fun t24 =>
 K t24 w
 ) fun J2 =>
 PureS (binV .geq x0_2 (Value.int .u64 256)) fun t14 =>
 CondS t14 (
 PureS (binV .shr x0_2 (Value.int .u64 8)) fun t16 =>
 PureS (binV .add n2_1 (Value.int .i64 8)) fun t18 =>
 J2 t16 t18 w
 ) (
 J2 x0_2 n2_1 w
 )
 ) fun J1 =>
 PureS (binV .geq x0_1 (Value.int .u64 65536)) fun t8 =>
 CondS t8 (
 PureS (binV .shr x0_1 (Value.int .u64 16)) fun t10 =>
 PureS (binV .add n2 (Value.int .i64 16)) fun t12 =>
 J1 t10 t12 w
 ) (
 J1 x0_1 n2 w
 )
 ) fun J0 =>
 PureS (binV .geq x0 (Value.int .u64 4294967296)) fun t4 =>
 CondS t4 (
 PureS (binV .shr x0 (Value.int .u64 32)) fun t6 =>
 J0 t6 (Value.int .i64 32) w
 ) (
 J0 x0 (Value.int .i64 0) w
 )
theorem s57_den (x0 : Value) (K : Value → World → Prop) (w : World) : denFn Try.prog false (bodyOf Try.f57) Try.f57.results a57 [x0] K NoP w = s57 x0 K w := by kernel_rfl
theorem s57_dst : dstsOk (1 + 24) (bodyOf Try.f57) = true := by kernel_rfl
theorem s57_ann : annOk (bodyOf Try.f57) a57 = true := by kernel_rfl
theorem s57_call {x0 : Value} {K : Value → World → Prop} {w : World} (hm : Try.prog.follows .mixedOrders = true) (h : s57 x0 K w) : CallS Try.prog 57 #[x0] K w :=
  fn_call (args := [x0]) (m := 24) hm Try.func57 (by kernel_rfl) (rs := Try.f57.results) rfl Try.ntmps57 s57_dst s57_ann (by rw [s57_den]; exact h)

/-! number 58 -/
def a58 : Ann :=
 (.q (.r [.plain 2]) (.q (.q (.r [.plain 1]) (.b (.r [.plain 5]))) (.q (.r [.plain 2]) .s)))
def s58 (s0 seq1 : Value) (K : Value → World → Prop) (w : World) : Prop :=
 BoxS 31 s0 (fun s2 w =>
 RangeS Try.prog seq1 1 (fun vs KW w =>
 LoadC s2 (fun t8 w =>
 RunS Try.prog (Instr.buildSlice 31 1 [(0, (vs.getD 0 undef))].toArray) (fun t10 w =>
 RunS Try.prog (Builtin.append_ #[31, 31] 31 [t8, t10].toArray) (fun t11 w =>
 StoreC s2 t11 (fun w =>
 KW w
 ) w
 ) w
 ) w
 ) w
 ) (fun D w =>
 LoadC s2 (fun t12 w =>
 (w).heap[D]? = some (.deferred (some [])) ∧ (
 K t12 ((w).putObj D (.deferred none))
 )
 ) w
 ) w
 ) w
theorem s58_den (s0 seq1 : Value) (K : Value → World → Prop) (w : World) : denG Try.prog Try.f58.results.toList K (bodyOf Try.f58) a58 (argF [s0, seq1] 0) w = s58 s0 seq1 K w := by kernel_rfl
theorem s58_ann : okG (2 + 11) (bodyOf Try.f58) a58 = true := by kernel_rfl
theorem s58_call {s0 seq1 : Value} {K : Value → World → Prop} {w : World} (hm : Try.prog.follows .mixedOrders = true) (h : s58 s0 seq1 K w) : CallS Try.prog 58 #[s0, seq1] K w :=
  fn_range (args := [s0, seq1]) (m := 11) hm Try.func58 (by kernel_rfl) (rs := Try.f58.results) rfl Try.ntmps58 s58_ann (by rw [s58_den]; exact h)

/-! number 59 -/
def a59 : Ann :=
 (.q (.r [.plain 2]) (.b (.l [] 32656 (.q (.r [.plain 2]) (.q (.c .s .s) (.b (.q (.r [.plain 3]) (.q (.r [.plain 4]) (.c .s .s)))))))))
def s59 (yield0 t1 : Value) (K : Value → World → Prop) (w : World) : Prop :=
 LoadC t1 (fun t5 w =>
 RunS Try.prog (Instr.range 45 t5) (fun t6 w =>
 LoopS 0 (fun L0 (w : World) =>
 RunS Try.prog (Instr.next t6 false 0) (fun t7 w =>
 PureS (extractV 0 t7) fun t8 =>
 CondS t8 (
 RunS Try.prog (Instr.entry t6) (fun t9 w =>
 PureS (extractV 1 t9) fun t10 =>
 CallV' Try.prog false yield0 [t10] NoP (fun t13 w =>
 PureS (notV t13) fun t14 =>
 CondS t14 (
 K (Value.tuple [].toArray) w
 ) (
 L0 w
 )
 ) w
 ) w
 ) (
 K (Value.tuple [].toArray) w
 )
 ) w
 ) w
 ) w
 ) w
theorem s59_den (yield0 t1 : Value) (K : Value → World → Prop) (w : World) : denFn Try.prog false (bodyOf Try.f59) Try.f59.results a59 [yield0, t1] K NoP w = s59 yield0 t1 K w := by kernel_rfl
theorem s59_dst : dstsOk (2 + 13) (bodyOf Try.f59) = true := by kernel_rfl
theorem s59_ann : annOk (bodyOf Try.f59) a59 = true := by kernel_rfl
theorem s59_call {yield0 t1 : Value} {K : Value → World → Prop} {w : World} (hm : Try.prog.follows .mixedOrders = true) (h : s59 yield0 t1 K w) : CallS Try.prog 59 #[yield0, t1] K w :=
  fn_call (args := [yield0, t1]) (m := 13) hm Try.func59 (by kernel_rfl) (rs := Try.f59.results) rfl Try.ntmps59 s59_dst s59_ann (by rw [s59_den]; exact h)

/-! number 60 -/
def a60 : Ann :=
 (.q (.r [.plain 1]) (.q (.r [.plain 4]) .s))
def s60 (x0 : Value) (K : Value → World → Prop) (w : World) : Prop :=
 PureS (binV .neq x0 x0) fun t5 =>
 K t5 w
theorem s60_den (x0 : Value) (K : Value → World → Prop) (w : World) : denFn Try.prog false (bodyOf Try.f60) Try.f60.results a60 [x0] K NoP w = s60 x0 K w := by kernel_rfl
theorem s60_dst : dstsOk (1 + 5) (bodyOf Try.f60) = true := by kernel_rfl
theorem s60_ann : annOk (bodyOf Try.f60) a60 = true := by kernel_rfl
theorem s60_call {x0 : Value} {K : Value → World → Prop} {w : World} (hm : Try.prog.follows .mixedOrders = true) (h : s60 x0 K w) : CallS Try.prog 60 #[x0] K w :=
  fn_call (args := [x0]) (m := 5) hm Try.func60 (by kernel_rfl) (rs := Try.f60.results) rfl Try.ntmps60 s60_dst s60_ann (by rw [s60_den]; exact h)

/-! number 61 -/
def a61 : Ann :=
 (.q (.r [.plain 2]) (.b (.l [8] 75557863725914323417856 (.b (.q (.r [.plain 4]) (.q (.q (.r [.plain 3]) (.c .s .s)) (.j [9] 549755683328 (.j [36] 137438822400 (.d [0, 1, 0, 7, 15, 31, 31, 31, 223, 511, 1023, 31, 31, 31, 12319, 28703, 63519, 129055, 262143, 524287] (.pur 0 (.pur 1 (.pur 2 (.pur 3 (.pur 4 (.ite 4 (.pur 5 (.pur 6 (.pur 7 (.pur 8 (.pur 9 (.pur 11 (.pur 12 (.pur 13 (.pur 14 (.pur 15 (.pur 16 (.hld 10 (.hld 17 (.act 18 (.pur 19 .fin))))))))))))))) (.skp 5 (.skp 6 (.skp 7 (.skp 8 (.skp 9 (.skp 10 (.skp 11 (.skp 12 (.skp 13 (.skp 14 (.skp 15 (.skp 16 (.skp 17 (.skp 18 (.pur 19 .fin))))))))))))))))))))))
  (.c (.r [.plain 3]) .s))
  (.q (.q (.d [0, 0, 0, 6, 15, 31, 0, 0, 0, 384, 960, 1984, 4095, 8191] (.pur 0 (.pur 1 (.pur 2 (.pur 3 (.pur 4 (.pur 6 (.pur 7 (.pur 8 (.pur 9 (.pur 10 (.hld 5 (.hld 11 (.act 12 (.pur 13 .fin))))))))))))))) (.c .s .s)) (.q (.d [0, 0, 0, 6, 0, 0, 0, 96, 0, 0, 0, 1536, 3840, 7936, 0, 0, 0, 98304, 245760, 507904, 1048335, 2096911, 4194303, 8388607] (.pur 0 (.pur 1 (.pur 2 (.pur 3 (.pur 4 (.pur 5 (.pur 6 (.pur 7 (.pur 8 (.pur 9 (.pur 10 (.pur 11 (.pur 12 (.pur 14 (.pur 15 (.pur 16 (.pur 17 (.pur 18 (.hld 13 (.hld 19 (.pur 20 (.act 21 (.pur 22 (.act 23 .fin))))))))))))))))))))))))) (.r [.plain 2]))))))))))
def s61 (data0 lo1 hi2 first3 : Value) (K : Value → World → Prop) (w : World) : Prop :=
 LoopS 1 (fun L0 (root8 : Value) (w : World) =>
 PureS (binV .mul (Value.int .i64 2) root8) fun t12 =>
 PureS (binV .add t12 (Value.int .i64 1)) fun t13 =>
 PureS (binV .geq t13 hi2) fun t16 =>
 CondS t16 (
 K (Value.tuple [].toArray) w
 ) (
 JoinS (fun (child9 : Value) (w : World) =>
 DrawS fun S2 => S2 w.drew ∧ (
 PureS (binV .add first3 root8) fun t42 =>
 PureS (indexAddrV 1 data0 t42) fun t43 =>
 PureS (binV .add first3 child9) fun t48 =>
 PureS (indexAddrV 1 data0 t48) fun t49 =>
 HeldC S2 t43 (fun t44 =>
 HeldC S2 t49 (fun t50 =>
 CallS Try.prog 53 [t44, t50].toArray (fun t51 w =>
 PureS (notV t51) fun t52 =>
 CondS t52 (
 K (Value.tuple [].toArray) w
 ) (
 DrawS fun S3 => S3 w.drew ∧ (
 PureS (binV .add first3 root8) fun t56 =>
 PureS (binV .add first3 child9) fun t60 =>
 PureS (binV .add first3 child9) fun t64 =>
 PureS (indexAddrV 1 data0 t64) fun t65 =>
 PureS (binV .add first3 root8) fun t70 =>
 PureS (indexAddrV 1 data0 t70) fun t71 =>
 HeldC S3 t65 (fun t66 =>
 HeldC S3 t71 (fun t72 =>
 PureS (indexAddrV 1 data0 t56) fun t73 =>
 StoreC t73 t66 (fun w =>
 PureS (indexAddrV 1 data0 t60) fun t74 =>
 StoreC t74 t72 (fun w =>
 L0 child9 w
 ) w
 ) w.drew
 )
 )
 )
 )
 ) w.drew
 )
 )
 )
 ) fun J1 =>
 JoinS (fun (t36 : Value) (w : World) =>
 CondS t36 (
 PureS (binV .add t13 (Value.int .i64 1)) fun t38 =>
 J1 t38 w
 ) (
 J1 t13 w
 )
 ) fun J4 =>
 DrawS fun S5 => S5 w.drew ∧ (
 PureS (binV .add t13 (Value.int .i64 1)) fun t18 =>
 PureS (binV .lss t18 hi2) fun t20 =>
 CondS t20 (
 PureS (binV .add first3 t13) fun t25 =>
 PureS (indexAddrV 1 data0 t25) fun t26 =>
 PureS (binV .add first3 t13) fun t31 =>
 PureS (binV .add t31 (Value.int .i64 1)) fun t32 =>
 PureS (indexAddrV 1 data0 t32) fun t33 =>
 HeldC S5 t26 (fun t27 =>
 HeldC S5 t33 (fun t34 =>
 CallS Try.prog 53 [t27, t34].toArray (fun t35 w =>
 PureS (pickV (Value.bool true) t35 (Value.bool false)) fun t36_1 =>
 J4 t36_1 w
 ) w.drew
 )
 )
 ) (
 PureS (pickV (Value.bool false) undef (Value.bool false)) fun t36_2 =>
 J4 t36_2 w.drew
 )
 )
 )
 ) lo1 w
theorem s61_den (data0 lo1 hi2 first3 : Value) (K : Value → World → Prop) (w : World) : denFn Try.prog false (bodyOf Try.f61) Try.f61.results a61 [data0, lo1, hi2, first3] K NoP w = s61 data0 lo1 hi2 first3 K w := by kernel_rfl
theorem s61_dst : dstsOk (4 + 72) (bodyOf Try.f61) = true := by kernel_rfl
theorem s61_ann : annOk (bodyOf Try.f61) a61 = true := by kernel_rfl
theorem s61_call {data0 lo1 hi2 first3 : Value} {K : Value → World → Prop} {w : World} (hm : Try.prog.follows .mixedOrders = true) (h : s61 data0 lo1 hi2 first3 K w) : CallS Try.prog 61 #[data0, lo1, hi2, first3] K w :=
  fn_call (args := [data0, lo1, hi2, first3]) (m := 72) hm Try.func61 (by kernel_rfl) (rs := Try.f61.results) rfl Try.ntmps61 s61_dst s61_ann (by rw [s61_den]; exact h)

/-! number 62 -/
def a62 : Ann :=
 (.q (.r [.plain 1]) (.q (.r [.plain 5]) .s))
def s62 (length0 : Value) (K : Value → World → Prop) (w : World) : Prop :=
 PureS (convIntV .u64 length0) fun t4 =>
 CallS Try.prog 41 [t4].toArray (fun t5 w =>
 PureS (binV .shl (Value.int .u64 1) t5) fun t6 =>
 K t6 w
 ) w
theorem s62_den (length0 : Value) (K : Value → World → Prop) (w : World) : denFn Try.prog false (bodyOf Try.f62) Try.f62.results a62 [length0] K NoP w = s62 length0 K w := by kernel_rfl
theorem s62_dst : dstsOk (1 + 6) (bodyOf Try.f62) = true := by kernel_rfl
theorem s62_ann : annOk (bodyOf Try.f62) a62 = true := by kernel_rfl
theorem s62_call {length0 : Value} {K : Value → World → Prop} {w : World} (hm : Try.prog.follows .mixedOrders = true) (h : s62 length0 K w) : CallS Try.prog 62 #[length0] K w :=
  fn_call (args := [length0]) (m := 6) hm Try.func62 (by kernel_rfl) (rs := Try.f62.results) rfl Try.ntmps62 s62_dst s62_ann (by rw [s62_den]; exact h)

/-! number 63 -/
def a63 : Ann :=
 (.q (.r [.plain 1]) (.q (.d [0, 1, 3, 0, 8, 24, 56, 127, 255, 511] (.pur 0 (.pur 1 (.pur 3 (.pur 4 (.hld 2 (.hld 5 (.pur 6 (.pur 7 (.pur 8 (.act 9 .fin))))))))))) (.q (.d [0, 1, 3, 0, 8, 24, 56, 127, 255, 511] (.pur 0 (.pur 1 (.pur 3 (.pur 4 (.hld 2 (.hld 5 (.pur 6 (.pur 7 (.pur 8 (.act 9 .fin))))))))))) (.q (.d [0, 1, 3, 0, 8, 24, 56, 127, 255, 511] (.pur 0 (.pur 1 (.pur 3 (.pur 4 (.hld 2 (.hld 5 (.pur 6 (.pur 7 (.pur 8 (.act 9 .fin))))))))))) (.q (.r [.plain 4]) .s)))))
def s63 (r0 : Value) (K : Value → World → Prop) (w : World) : Prop :=
 DrawS fun S0 => S0 w.drew ∧ (
 PureS (nilV r0) fun t4 =>
 PureS (nilV r0) fun t7 =>
 HeldC S0 t4 (fun t5 =>
 HeldC S0 t7 (fun t8 =>
 PureS (binV .shl t8 (Value.int .u64 13)) fun t9 =>
 PureS (binV .xor t5 t9) fun t10 =>
 PureS (nilV r0) fun t11 =>
 StoreC t11 t10 (fun w =>
 DrawS fun S1 => S1 w.drew ∧ (
 PureS (nilV r0) fun t13 =>
 PureS (nilV r0) fun t16 =>
 HeldC S1 t13 (fun t14 =>
 HeldC S1 t16 (fun t17 =>
 PureS (binV .shr t17 (Value.int .u64 7)) fun t18 =>
 PureS (binV .xor t14 t18) fun t19 =>
 PureS (nilV r0) fun t20 =>
 StoreC t20 t19 (fun w =>
 DrawS fun S2 => S2 w.drew ∧ (
 PureS (nilV r0) fun t22 =>
 PureS (nilV r0) fun t25 =>
 HeldC S2 t22 (fun t23 =>
 HeldC S2 t25 (fun t26 =>
 PureS (binV .shl t26 (Value.int .u64 17)) fun t27 =>
 PureS (binV .xor t23 t27) fun t28 =>
 PureS (nilV r0) fun t29 =>
 StoreC t29 t28 (fun w =>
 PureS (nilV r0) fun t31 =>
 LoadC t31 (fun t32 w =>
 K t32 w
 ) w
 ) w.drew
 )
 )
 )
 ) w.drew
 )
 )
 )
 ) w.drew
 )
 )
 )
theorem s63_den (r0 : Value) (K : Value → World → Prop) (w : World) : denFn Try.prog false (bodyOf Try.f63) Try.f63.results a63 [r0] K NoP w = s63 r0 K w := by kernel_rfl
theorem s63_dst : dstsOk (1 + 32) (bodyOf Try.f63) = true := by kernel_rfl
theorem s63_ann : annOk (bodyOf Try.f63) a63 = true := by kernel_rfl
theorem s63_call {r0 : Value} {K : Value → World → Prop} {w : World} (hm : Try.prog.follows .mixedOrders = true) (h : s63 r0 K w) : CallS Try.prog 63 #[r0] K w :=
  fn_call (args := [r0]) (m := 32) hm Try.func63 (by kernel_rfl) (rs := Try.f63.results) rfl Try.ntmps63 s63_dst s63_ann (by rw [s63_den]; exact h)

/-! number 64 -/
def a64 : Ann :=
 (.q (.r [.plain 1]) (.q (.r [.plain 9]) .s))
def s64 (data0 a1 swaps2 : Value) (K : Value → World → Prop) (w : World) : Prop :=
 PureS (binV .sub a1 (Value.int .i64 1)) fun t9 =>
 PureS (binV .add a1 (Value.int .i64 1)) fun t12 =>
 CallS Try.prog 65 [data0, t9, a1, t12, swaps2].toArray (fun t14 w =>
 K t14 w
 ) w
theorem s64_den (data0 a1 swaps2 : Value) (K : Value → World → Prop) (w : World) : denFn Try.prog false (bodyOf Try.f64) Try.f64.results a64 [data0, a1, swaps2] K NoP w = s64 data0 a1 swaps2 K w := by kernel_rfl
theorem s64_dst : dstsOk (3 + 12) (bodyOf Try.f64) = true := by kernel_rfl
theorem s64_ann : annOk (bodyOf Try.f64) a64 = true := by kernel_rfl
theorem s64_call {data0 a1 swaps2 : Value} {K : Value → World → Prop} {w : World} (hm : Try.prog.follows .mixedOrders = true) (h : s64 data0 a1 swaps2 K w) : CallS Try.prog 64 #[data0, a1, swaps2] K w :=
  fn_call (args := [data0, a1, swaps2]) (m := 12) hm Try.func64 (by kernel_rfl) (rs := Try.f64.results) rfl Try.ntmps64 s64_dst s64_ann (by rw [s64_den]; exact h)

/-! number 65 -/
def a65 : Ann :=
 (.q (.r [.plain 1]) (.q (.r [.plain 10]) (.q (.r [.plain 10]) (.q (.r [.plain 10]) (.q (.r [.plain 2]) .s)))))
def s65 (data0 a1 b2 c3 swaps4 : Value) (K : Value → World → Prop) (w : World) : Prop :=
 CallS Try.prog 67 [data0, a1, b2, swaps4].toArray (fun t16 w =>
 PureS (extractV 0 t16) fun t17 =>
 PureS (extractV 1 t16) fun t18 =>
 CallS Try.prog 67 [data0, t18, c3, swaps4].toArray (fun t24 w =>
 PureS (extractV 0 t24) fun t25 =>
 PureS (extractV 1 t24) fun t26 =>
 CallS Try.prog 67 [data0, t17, t25, swaps4].toArray (fun t32 w =>
 PureS (extractV 0 t32) fun t33 =>
 PureS (extractV 1 t32) fun t34 =>
 K t34 w
 ) w
 ) w
 ) w
theorem s65_den (data0 a1 b2 c3 swaps4 : Value) (K : Value → World → Prop) (w : World) : denFn Try.prog false (bodyOf Try.f65) Try.f65.results a65 [data0, a1, b2, c3, swaps4] K NoP w = s65 data0 a1 b2 c3 swaps4 K w := by kernel_rfl
theorem s65_dst : dstsOk (5 + 31) (bodyOf Try.f65) = true := by kernel_rfl
theorem s65_ann : annOk (bodyOf Try.f65) a65 = true := by kernel_rfl
theorem s65_call {data0 a1 b2 c3 swaps4 : Value} {K : Value → World → Prop} {w : World} (hm : Try.prog.follows .mixedOrders = true) (h : s65 data0 a1 b2 c3 swaps4 K w) : CallS Try.prog 65 #[data0, a1, b2, c3, swaps4] K w :=
  fn_call (args := [data0, a1, b2, c3, swaps4]) (m := 31) hm Try.func65 (by kernel_rfl) (rs := Try.f65.results) rfl Try.ntmps65 s65_dst s65_ann (by rw [s65_den]; exact h)

/-! number 66 -/
def a66 : Ann :=
 (.q (.r [.plain 1]) (.q (.r [.plain 4]) .s))
def s66 (x0 : Value) (K : Value → World → Prop) (w : World) : Prop :=
 PureS (binV .neq x0 x0) fun t5 =>
 K t5 w
theorem s66_den (x0 : Value) (K : Value → World → Prop) (w : World) : denFn Try.prog false (bodyOf Try.f66) Try.f66.results a66 [x0] K NoP w = s66 x0 K w := by kernel_rfl
theorem s66_dst : dstsOk (1 + 5) (bodyOf Try.f66) = true := by kernel_rfl
theorem s66_ann : annOk (bodyOf Try.f66) a66 = true := by kernel_rfl
theorem s66_call {x0 : Value} {K : Value → World → Prop} {w : World} (hm : Try.prog.follows .mixedOrders = true) (h : s66 x0 K w) : CallS Try.prog 66 #[x0] K w :=
  fn_call (args := [x0]) (m := 5) hm Try.func66 (by kernel_rfl) (rs := Try.f66.results) rfl Try.ntmps66 s66_dst s66_ann (by rw [s66_den]; exact h)

/-! number 67 -/
def a67 : Ann :=
 (.q (.r [.plain 2]) (.q (.q (.d [0, 0, 3, 7, 0, 0, 48, 112, 255] (.pur 0 (.pur 1 (.pur 2 (.pur 4 (.pur 5 (.pur 6 (.hld 3 (.hld 7 (.act 8 .fin)))))))))) (.c (.q (.r [.plain 6]) (.q (.r [.plain 4]) .s)) .s)) (.q (.r [.plain 4]) .s)))
def s67 (data0 a1 b2 swaps3 : Value) (K : Value → World → Prop) (w : World) : Prop :=
 DrawS fun S0 => S0 w.drew ∧ (
 PureS (indexAddrV 1 data0 b2) fun t12 =>
 PureS (indexAddrV 1 data0 a1) fun t16 =>
 HeldC S0 t12 (fun t13 =>
 HeldC S0 t16 (fun t17 =>
 CallS Try.prog 53 [t13, t17].toArray (fun t18 w =>
 CondS t18 (
 PureS (nilV swaps3) fun t20 =>
 LoadC t20 (fun t21 w =>
 PureS (binV .add t21 (Value.int .i64 1)) fun t22 =>
 PureS (nilV swaps3) fun t23 =>
 StoreC t23 t22 (fun w =>
 K (Value.tuple [b2, a1].toArray) w
 ) w
 ) w
 ) (
 K (Value.tuple [a1, b2].toArray) w
 )
 ) w.drew
 )
 )
 )
theorem s67_den (data0 a1 b2 swaps3 : Value) (K : Value → World → Prop) (w : World) : denFn Try.prog false (bodyOf Try.f67) Try.f67.results a67 [data0, a1, b2, swaps3] K NoP w = s67 data0 a1 b2 swaps3 K w := by kernel_rfl
theorem s67_dst : dstsOk (4 + 24) (bodyOf Try.f67) = true := by kernel_rfl
theorem s67_ann : annOk (bodyOf Try.f67) a67 = true := by kernel_rfl
theorem s67_call {data0 a1 b2 swaps3 : Value} {K : Value → World → Prop} {w : World} (hm : Try.prog.follows .mixedOrders = true) (h : s67 data0 a1 b2 swaps3 K w) : CallS Try.prog 67 #[data0, a1, b2, swaps3] K w :=
  fn_call (args := [data0, a1, b2, swaps3]) (m := 24) hm Try.func67 (by kernel_rfl) (rs := Try.f67.results) rfl Try.ntmps67 s67_dst s67_ann (by rw [s67_den]; exact h)
end Go.Proofs.Ytkladgpaicolnaa
/-! Numbers that are held: the start. -/
namespace Go.Proofs.Ytkladgpaicolnaa
open Go SG Go.RowKit Go.Lib
set_option linter.unusedVariables false
set_option maxRecDepth 4000

theorem hm : Try.prog.follows .mixedOrders = true := Checked.mixed Try.checked
end Go.Proofs.Ytkladgpaicolnaa
/-! Rules for sorting in place: swaps, order. No program stands here. -/
namespace SG
open Go Go.RowKit Go.Lib
set_option linter.unusedSimpArgs false
set_option linter.unusedVariables false

section
variable {β : Type}
def swp (xs : List β) (i j : Nat) : List β := match xs[i]?, xs[j]? with
  | some u, some v => (xs.set i v).set j u
  | _, _ => xs
theorem swp_length (xs : List β) (i j : Nat) : (swp xs i j).length = xs.length := by
  unfold swp
  split <;> simp
theorem swp_get {xs : List β} {i j : Nat} (hi : i < xs.length) (hj : j < xs.length) (k : Nat) : (swp xs i j)[k]? = if k = j then xs[i]? else if k = i then xs[j]? else xs[k]? := by
  have h1 : xs[i]? = some xs[i] := List.getElem?_eq_getElem hi
  have h2 : xs[j]? = some xs[j] := List.getElem?_eq_getElem hj
  unfold swp
  rw [h1, h2]
  simp only
  rw [List.getElem?_set]
  by_cases hkj : k = j
  · subst hkj
    rw [if_pos rfl, if_pos rfl, if_pos (by simpa using hj)]
  · rw [if_neg (Ne.symm hkj), if_neg hkj, List.getElem?_set]
    by_cases hki : k = i
    · subst hki
      rw [if_pos rfl, if_pos rfl, if_pos hi]
    · rw [if_neg (Ne.symm hki), if_neg hki]
theorem swp_perm (xs : List β) (i j : Nat) : (swp xs i j).Perm xs := by
  classical
  unfold swp
  split
  · rename_i u v hu hv
    rw [List.perm_iff_count]
    intro a
    have hi := (List.getElem?_eq_some_iff.1 hu).1
    have hj := (List.getElem?_eq_some_iff.1 hv).1
    have eu := (List.getElem?_eq_some_iff.1 hu).2
    have ev := (List.getElem?_eq_some_iff.1 hv).2
    rw [List.count_set (by simpa using hj), List.count_set hi]
    have hgj : (xs.set i v)[j]'(by simpa using hj) = v := by
      by_cases hij : i = j
      · subst hij; simp
      · rw [List.getElem_set_ne hij]; exact ev
    rw [hgj, eu]
    by_cases h1 : u = a <;> by_cases h2 : v = a <;> simp [h1, h2]
    · subst h1
      have : 0 < List.count u xs := List.count_pos_iff.2 (List.mem_of_getElem? hu)
      omega
    · subst h1
      have : 0 < List.count u xs := List.count_pos_iff.2 (List.mem_of_getElem? hu)
      omega
  · exact List.Perm.refl _
/-- swaps within [a, b) -/
inductive Sw (a b : Nat) (xs : List β) : List β → Prop
  | refl : Sw a b xs xs
  | step {ys : List β} (i j : Nat) : a ≤ i → i < b → a ≤ j → j < b → b ≤ xs.length → Sw a b xs ys → Sw a b xs (swp ys i j)
namespace Sw
variable {a b : Nat} {xs ys zs : List β}
theorem len (h : Sw a b xs ys) : ys.length = xs.length := by
  induction h with
  | refl => rfl
  | step i j _ _ _ _ _ _ ih => rw [swp_length, ih]
theorem trans (h : Sw a b xs ys) (k : Sw a b ys zs) : Sw a b xs zs := by
  induction k with
  | refl => exact h
  | step i j h1 h2 h3 h4 h5 _ ih => exact .step i j h1 h2 h3 h4 (by rw [h.len] at h5; exact h5) ih
theorem mono {a' b' : Nat} (h : Sw a b xs ys) (ha : a' ≤ a) (hb : b ≤ b') (hl : b' ≤ xs.length) : Sw a' b' xs ys := by
  induction h with
  | refl => exact .refl
  | step i j h1 h2 h3 h4 _ _ ih => exact .step i j (by omega) (by omega) (by omega) (by omega) hl ih
theorem out (h : Sw a b xs ys) {k : Nat} (hk : k < a ∨ b ≤ k) : ys[k]? = xs[k]? := by
  induction h with
  | refl => rfl
  | step i j h1 h2 h3 h4 h5 h6 ih =>
    have := h6.len
    rw [swp_get (by omega) (by omega), if_neg (by omega), if_neg (by omega), ih]
theorem perm (h : Sw a b xs ys) : ys.Perm xs := by
  induction h with
  | refl => exact List.Perm.refl _
  | step i j _ _ _ _ _ _ ih => exact (swp_perm _ _ _).trans ih
/-- what holds of all that lies within goes on to hold -/
theorem all {P : β → Prop} (h : Sw a b xs ys) (hP : ∀ k u, a ≤ k → k < b → xs[k]? = some u → P u) : ∀ k u, a ≤ k → k < b → ys[k]? = some u → P u := by
  induction h with
  | refl => exact hP
  | step i j h1 h2 h3 h4 h5 h6 ih =>
    intro k u hk1 hk2 hu
    have := h6.len
    rw [swp_get (by omega) (by omega)] at hu
    split at hu
    · exact ih i u h1 h2 hu
    · split at hu
      · exact ih j u h3 h4 hu
      · exact ih k u hk1 hk2 hu
theorem one {i j : Nat} (h1 : a ≤ i) (h2 : i < b) (h3 : a ≤ j) (h4 : j < b) (h5 : b ≤ xs.length) : Sw a b xs (swp xs i j) := .step i j h1 h2 h3 h4 h5 .refl
end Sw

structure Lin (lt : β → β → Bool) : Prop where
  irr : ∀ x, lt x x = false
  tr : ∀ x y z, lt x y = true → lt y z = true → lt x z = true
  tri : ∀ x y, lt x y = false → lt y x = false → x = y
namespace Lin
variable {lt : β → β → Bool}
theorem asym (h : Lin lt) {x y : β} (hxy : lt x y = true) : lt y x = false := by
  cases hyx : lt y x with
  | false => rfl
  | true => have := h.tr _ _ _ hxy hyx; rw [h.irr] at this; cases this
/-- 'not above' carries on -/
theorem le_tr (h : Lin lt) {x y z : β} (h1 : lt y x = false) (h2 : lt z y = false) : lt z x = false := by
  cases hzx : lt z x with
  | false => rfl
  | true =>
    cases hxy : lt x y with
    | true => have := h.tr _ _ _ hzx hxy; rw [h2] at this; cases this
    | false =>
      have := h.tri x y hxy h1
      subst this
      rw [h2] at hzx; cases hzx
theorem le_total (h : Lin lt) (x y : β) : lt x y = false ∨ lt y x = false := by
  cases hxy : lt x y with
  | false => exact .inl rfl
  | true => exact .inr (h.asym hxy)
theorem le_lt (h : Lin lt) {x y z : β} (h1 : lt y x = false) (h2 : lt y z = true) : lt x z = true := by
  cases hxz : lt x z with
  | true => rfl
  | false => have := h.le_tr hxz h1; rw [h2] at this; cases this
theorem lt_le (h : Lin lt) {x y z : β} (h1 : lt x y = true) (h2 : lt z y = false) : lt x z = true := by
  cases hxz : lt x z with
  | true => rfl
  | false => have := h.le_tr h2 hxz; rw [h1] at this; cases this
end Lin
/-- in order between a and b -/
def Srt (lt : β → β → Bool) (a b : Nat) (xs : List β) : Prop := ∀ i j u v, a ≤ i → i < j → j < b → xs[i]? = some u → xs[j]? = some v → lt v u = false
/-- all of [a, b) is not above all of [c, d) -/
def LeAll (lt : β → β → Bool) (a b c d : Nat) (xs : List β) : Prop := ∀ i j u v, a ≤ i → i < b → c ≤ j → j < d → xs[i]? = some u → xs[j]? = some v → lt v u = false
theorem Srt.nil {lt : β → β → Bool} {a b : Nat} {xs : List β} (h : b ≤ a + 1) : Srt lt a b xs := fun i j u v h1 h2 h3 => by omega
theorem Srt.adj {lt : β → β → Bool} (hl : Lin lt) {a b : Nat} {xs : List β} (hb : b ≤ xs.length) (h : ∀ i u v, a ≤ i → i + 1 < b → xs[i]? = some u → xs[i + 1]? = some v → lt v u = false) : Srt lt a b xs := by
  intro i j u v h1 h2 h3 hu hv
  induction j generalizing v with
  | zero => omega
  | succ j ih =>
    by_cases hij : i = j
    · subst hij; exact h i u v h1 h3 hu hv
    · obtain ⟨x, hx⟩ : ∃ x, xs[j]? = some x := ⟨_, List.getElem?_eq_getElem (by omega)⟩
      exact hl.le_tr (ih x (by omega) (by omega) hx) (h j x v (by omega) h3 hx hv)
theorem Srt.same {lt : β → β → Bool} {a b : Nat} {xs ys : List β} (h : Srt lt a b xs) (hs : ∀ k, a ≤ k → k < b → ys[k]? = xs[k]?) : Srt lt a b ys := fun i j u v h1 h2 h3 hu hv =>
  h i j u v h1 h2 h3 (by rw [← hs i h1 (by omega)]; exact hu) (by rw [← hs j (by omega) h3]; exact hv)
/-- two parts in order, the one not above the other -/
theorem Srt.join {lt : β → β → Bool} {a m b : Nat} {xs : List β} (h1 : Srt lt a m xs) (h2 : Srt lt m b xs) (h3 : LeAll lt a m m b xs) : Srt lt a b xs := fun i j u v k1 k2 k3 hu hv => by
  by_cases hj : j < m
  · exact h1 i j u v k1 k2 hj hu hv
  · by_cases hi : i < m
    · exact h3 i j u v k1 hi (by omega) k3 hu hv
    · exact h2 i j u v (by omega) k2 k3 hu hv
theorem LeAll.same {lt : β → β → Bool} {a b c d : Nat} {xs ys : List β} (h : LeAll lt a b c d xs) (h1 : ∀ k, a ≤ k → k < b → ys[k]? = xs[k]?) (h2 : ∀ k, c ≤ k → k < d → ys[k]? = xs[k]?) : LeAll lt a b c d ys := fun i j u v k1 k2 k3 k4 hu hv =>
  h i j u v k1 k2 k3 k4 (by rw [← h1 i k1 k2]; exact hu) (by rw [← h2 j k3 k4]; exact hv)
/-- swaps within the right part -/
theorem LeAll.right {lt : β → β → Bool} {a b c d : Nat} {xs ys : List β} (h : LeAll lt a b c d xs) (hs : Sw c d xs ys) (hbc : b ≤ c ∨ d ≤ a) : LeAll lt a b c d ys := fun i j u v k1 k2 k3 k4 hu hv => by
  rw [hs.out (by omega)] at hu
  exact hs.all (P := fun v => lt v u = false) (fun k w hk1 hk2 hw => h i k u w k1 k2 hk1 hk2 hu hw) j v k3 k4 hv
theorem LeAll.left {lt : β → β → Bool} {a b c d : Nat} {xs ys : List β} (h : LeAll lt a b c d xs) (hs : Sw a b xs ys) (hbc : b ≤ c ∨ d ≤ a) : LeAll lt a b c d ys := fun i j u v k1 k2 k3 k4 hu hv => by
  rw [hs.out (by omega)] at hv
  exact hs.all (P := fun u => lt v u = false) (fun k w hk1 hk2 hw => h k j w v hk1 hk2 k3 k4 hw hv) i u k1 k2 hu
/-- lists in strict or equal order -/
def Asc (lt : β → β → Bool) (xs : List β) : Prop := xs.Pairwise fun u v => lt v u = false
theorem Srt.asc {lt : β → β → Bool} {xs : List β} (h : Srt lt 0 xs.length xs) : Asc lt xs := by
  unfold Asc
  rw [List.pairwise_iff_getElem]
  intro i j hi hj hij
  exact h i j _ _ (by omega) hij hj (List.getElem?_eq_getElem hi) (List.getElem?_eq_getElem hj)
theorem Asc.unique {lt : β → β → Bool} (hl : Lin lt) {xs ys : List β} (h1 : Asc lt xs) (h2 : Asc lt ys) (hp : xs.Perm ys) : xs = ys :=
  List.Perm.eq_of_pairwise (fun u v _ _ h k => hl.tri u v k h) h1 h2 hp
end
end SG
