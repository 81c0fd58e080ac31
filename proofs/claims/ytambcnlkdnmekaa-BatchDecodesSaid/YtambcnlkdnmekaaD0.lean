/- Laid out by a program of ours: what each function of the cut comes to, over named values; and that it is so. -/
import Derived.Test.YtambcnlkdnmekaaG7
import Derived.Test.YtambcnlkdnmekaaProg
set_option linter.unusedVariables false
set_option maxRecDepth 100000
namespace Go.Proofs.Ytambcnlkdnmekaa
open Go SG

/-! number 21 -/
def a21 : Ann :=
 (.q (.r [.plain 3]) (.q .s (.q (.q (.r [.plain 3]) (.c (.q (.r [.plain 3]) .s) .s)) (.q (.r [.plain 7]) (.q (.q (.r [.plain 2]) (.c (.q (.d [0, 0, 2, 7] (.hld 0 (.act 1 (.act 2 (.act 3 .fin))))) .s) .s)) (.q (.q (.r [.plain 2]) (.c (.q (.r [.plain 3]) .s) .s)) (.q (.r [.plain 8]) (.q (.q (.r [.plain 2]) (.c (.q (.d [0, 0, 2, 7] (.hld 0 (.act 1 (.act 2 (.act 3 .fin))))) .s) .s)) (.q (.q (.r [.plain 3, .grp 5 [37] 266287972352, .plain 1]) (.c (.q (.r [.plain 3]) .s) .s)) (.q (.r [.plain 5]) (.j [] 4494803534348288 (.q (.r [.plain 2]) (.b (.l [44] 4486007441326080 (.q (.r [.plain 1]) (.q (.c .s .s) (.q (.b (.d [0, 0, 2, 6, 15, 31] (.pur 1 (.hld 0 (.act 2 (.act 3 (.act 4 (.act 5 .fin)))))))) (.r [.plain 2])))))))
  (.q (.q (.r [.plain 6]) (.c (.q (.r [.plain 3]) .s) .s)) (.q (.d [0, 0, 1, 7, 15] (.hld 0 (.hld 1 (.act 2 (.act 3 (.act 4 .fin)))))) .s)))))))))))))
def s21 (b0 : Value) (K : Value → World → Prop) (w : World) : Prop :=
 BoxS 39 (Value.int .u64 0) (fun seq2 w =>
 BoxS 22 (Value.slice none 0 0) (fun l3 w =>
 BoxS 27 (Value.int .i64 0) (fun e4 w =>
 DeferS Try.prog 39 [seq2, l3, e4] (fun w =>
 LoadC seq2 (fun seq2_1 _ =>
 LoadC l3 (fun l3_1 _ =>
 LoadC e4 (fun e4_1 _ =>
 K (Value.tuple [seq2_1, l3_1, e4_1].toArray) w
 ) w
 ) w
 ) w
 ) fun Kr Kp =>
 PureS (lenSliceV b0) fun t9 =>
 PureS (binV .gtr t9 (Value.int .i64 4194304)) fun t10 =>
 CondS t10 (
 StoreC seq2 (Value.int .u64 0) (fun w =>
 StoreC l3 (Value.slice none 0 0) (fun w =>
 StoreC e4 (Value.int .i64 2) (fun w =>
 Kr w
 ) w
 ) w
 ) w
 ) (
 CallP' Try.prog 40 [b0].toArray Kp (fun t13 w =>
 PureS (extractV 0 t13) fun t14 =>
 PureS (extractV 1 t13) fun t15 =>
 StoreC seq2 t14 (fun w =>
 StoreC e4 t15 (fun w =>
 LoadC e4 (fun t16 w =>
 PureS (binV .neq t16 (Value.int .i64 0)) fun t17 =>
 CondS t17 (
 DrawS fun S0 => S0 w.drew ∧ (
 HeldC S0 e4 (fun t18 =>
 StoreC seq2 (Value.int .u64 0) (fun w =>
 S0 w ∧ (
 StoreC l3 (Value.slice none 0 0) (fun w =>
 S0 w ∧ (
 StoreC e4 t18 (fun w =>
 Kr w
 ) w
 )
 ) w
 )
 ) w.drew
 )
 )
 ) (
 LoadC seq2 (fun t19 w =>
 PureS (binV .gtr t19 (Value.int .u64 72057594037927935)) fun t20 =>
 CondS t20 (
 StoreC seq2 (Value.int .u64 0) (fun w =>
 StoreC l3 (Value.slice none 0 0) (fun w =>
 StoreC e4 (Value.int .i64 3) (fun w =>
 Kr w
 ) w
 ) w
 ) w
 ) (
 PureS (sliceV 1 b0 (some (Value.int .i64 8)) none) fun t23 =>
 CallP' Try.prog 41 [t23].toArray Kp (fun t24 w =>
 PureS (extractV 0 t24) fun t25 =>
 PureS (extractV 1 t24) fun t26 =>
 StoreC e4 t26 (fun w =>
 LoadC e4 (fun t27 w =>
 PureS (binV .neq t27 (Value.int .i64 0)) fun t28 =>
 CondS t28 (
 DrawS fun S1 => S1 w.drew ∧ (
 HeldC S1 e4 (fun t29 =>
 StoreC seq2 (Value.int .u64 0) (fun w =>
 S1 w ∧ (
 StoreC l3 (Value.slice none 0 0) (fun w =>
 S1 w ∧ (
 StoreC e4 t29 (fun w =>
 Kr w
 ) w
 )
 ) w
 )
 ) w.drew
 )
 )
 ) (
 PureS (binV .gtr t25 (Value.int .u32 4096)) fun t31 =>
 JoinS (fun (t37 : Value) (w : World) =>
 PureS (pickV t31 (Value.bool true) t37) fun t38 =>
 CondS t38 (
 StoreC seq2 (Value.int .u64 0) (fun w =>
 StoreC l3 (Value.slice none 0 0) (fun w =>
 StoreC e4 (Value.int .i64 3) (fun w =>
 Kr w
 ) w
 ) w
 ) w
 ) (
 PureS (sliceV 1 b0 (some (Value.int .i64 12)) none) fun t40 =>
 RunS Try.prog (Instr.build 74 [(0, t40)].toArray) (fun t41 w =>
 BoxS 74 t41 (fun t42 w =>
 JoinS (fun (w : World) =>
 PureS (nilV t42) fun t53 =>
 PureS (fieldAddrV 0 t53) fun t54 =>
 LoadC t54 (fun t55 w =>
 PureS (lenSliceV t55) fun t56 =>
 PureS (binV .gtr t56 (Value.int .i64 0)) fun t57 =>
 CondS t57 (
 StoreC seq2 (Value.int .u64 0) (fun w =>
 StoreC l3 (Value.slice none 0 0) (fun w =>
 StoreC e4 (Value.int .i64 5) (fun w =>
 Kr w
 ) w
 ) w
 ) w
 ) (
 DrawS fun S4 => S4 w.drew ∧ (
 HeldC S4 seq2 (fun t58 =>
 HeldC S4 l3 (fun t59 =>
 StoreC seq2 t58 (fun w =>
 S4 w ∧ (
 StoreC l3 t59 (fun w =>
 StoreC e4 (Value.int .i64 0) (fun w =>
 Kr w
 ) w
 ) w
 )
 ) w.drew
 )
 )
 )
 )
 ) w
 ) fun J3 =>
 LoopS 1 (fun L5 (t44 : Value) (w : World) =>
 PureS (binV .lss t44 t25) fun t45 =>
 CondS t45 (
 DrawS fun S6 => S6 w.drew ∧ (
 HeldC S6 l3 (fun t46 =>
 CallP' Try.prog 42 [t42].toArray Kp (fun t48 w =>
 S6 w ∧ (
 RunS Try.prog (Instr.buildSlice 22 1 [(0, t48)].toArray) (fun t49 w =>
 S6 w ∧ (
 RunS Try.prog (Builtin.append_ #[22, 22] 22 [t46, t49].toArray) (fun t50 w =>
 StoreC l3 t50 (fun w =>
 PureS (binV .add t44 (Value.int .u32 1)) fun t51 =>
 L5 t51 w
 ) w
 ) w
 )
 ) w
 )
 ) w.drew
 )
 )
 ) (
 J3 w
 )
 ) (Value.int .u32 0) w
 ) w
 ) w
 )
 ) fun J2 =>
 IfB t31 false (
 LoadC seq2 (fun t33 w =>
 PureS (convIntV .i64 t25) fun t35 =>
 CallP' Try.prog 32 [t33, t35].toArray Kp (fun t36 w =>
 PureS (notV t36) fun t37_1 =>
 J2 t37_1 w
 ) w
 ) w
 ) (
 J2 undef w
 )
 )
 ) w
 ) w
 ) w
 )
 ) w
 )
 ) w
 ) w
 ) w
 ) w
 )
 ) w
 ) w
 ) w
theorem s21_den (b0 : Value) (K : Value → World → Prop) (w : World) : denFnD Try.prog (bodyOf Try.f21) Try.f21.results [2, 3, 4] a21 [b0] K w = s21 b0 K w := by kernel_rfl
theorem s21_ann : okD (1 + 59) [2, 3, 4] (bodyOf Try.f21) a21 = true := by kernel_rfl
theorem s21_call {b0 : Value} {K : Value → World → Prop} {w : World} (hm : Try.prog.follows .mixedOrders = true) (h : s21 b0 K w) : CallS Try.prog 21 #[b0] K w :=
  fn_defer (args := [b0]) (m := 59) hm Try.func21 (by kernel_rfl) (rs := Try.f21.results) rfl Try.ntmps21 s21_ann (by rw [s21_den]; exact h)

/-! number 39 -/
def a39 : Ann :=
 (.q .s (.q (.r [.plain 2]) (.c (.q (.r [.plain 7]) (.j [] 114688 (.q (.r [.plain 2]) (.c (.r [.plain 2]) .s))
  (.r [.plain 4]))) .s)))
def s39 (t0 t1 t2 x : Value) (K : World → Prop) (w : World) : Prop :=
 RunS Try.prog (do eqGuard .neq 20 (Operand.tmp 7) (Operand.const Value.nilIface) x Value.nilIface; binOp .neq 20 x Value.nilIface) (fun t8 w =>
 CondS t8 (
 RunS Try.prog (Instr.typeAssert x 20 27 true) (fun t11 w =>
 PureS (extractV 0 t11) fun t12 =>
 PureS (extractV 1 t11) fun t13 =>
 JoinS (fun (w : World) =>
 StoreC t0 (Value.int .u64 0) (fun w =>
 StoreC t1 (Value.slice none 0 0) (fun w =>
 StoreC t2 t12 (fun w =>
 K w
 ) w
 ) w
 ) w
 ) fun J0 =>
 PureS (notV t13) fun t15 =>
 CondS t15 (
 PanicS Try.prog x NoP w
 ) (
 J0 w
 )
 ) w
 ) (
 K w
 )
 ) w
theorem s39_den (t0 t1 t2 x : Value) (K : World → Prop) (w : World) : denFnR Try.prog (bodyOf Try.f39) a39 [t0, t1, t2] x K w = s39 t0 t1 t2 x K w := by kernel_rfl
theorem s39_ann : okR (3 + 15) (bodyOf Try.f39) a39 = true := by kernel_rfl
theorem s39_call {t0 t1 t2 : Value} {u : FrameMode} {K : World → Prop} {w : World} (hm : Try.prog.follows .mixedOrders = true) (h : s39 t0 t1 t2 (recV u).1 K w) : CallsD Try.prog 39 #[t0, t1, t2] u w fun e u' w' => (∃ v, e = .returned v) ∧ u' = (recV u).2 ∧ K w' :=
  fn_recover (args := [t0, t1, t2]) (m := 15) hm Try.func39 (by kernel_rfl) (by kernel_rfl) Try.ntmps39 s39_ann (by rw [s39_den]; exact h)

/-! number 58 -/
def a58 : Ann :=
 (.q (.r [.plain 2]) (.q (.q (.r [.plain 4]) (.c (.q (.r [.plain 2]) .s) .s)) (.q (.r [.plain 2]) (.q (.q (.r [.plain 4]) (.b (.r [.plain 6]))) (.q (.r [.plain 3]) .s)))))
def s58 (b0 size1 : Value) (K : Value → World → Prop) (w : World) : Prop :=
 PureS (lenSliceV b0) fun t10 =>
 PureS (binV .lss t10 size1) fun t12 =>
 CondS t12 (
 K (Value.tuple [(Value.int .u64 0), (Value.int .i64 4)].toArray) w
 ) (
 BoxS 39 (Value.int .u64 0) (fun n6 w =>
 StoreC n6 (Value.int .u64 0) (fun w =>
 PureS (sliceV 1 b0 none (some size1)) fun t15 =>
 CallS Try.prog 68 [t15].toArray (fun t16 w =>
 RangeS Try.prog t16 2 (fun vs KW w =>
 LoadC n6 (fun t19 w =>
 PureS (binV .shl t19 (Value.int .u64 8)) fun t20 =>
 PureS (convIntV .u64 (vs.getD 1 undef)) fun t22 =>
 PureS (binV .or t20 t22) fun t23 =>
 StoreC n6 t23 (fun w =>
 KW w
 ) w
 ) w
 ) (fun D w =>
 LoadC n6 (fun t24 w =>
 (w).heap[D]? = some (.deferred (some [])) ∧ (
 K (Value.tuple [t24, (Value.int .i64 0)].toArray) ((w).putObj D (.deferred none))
 )
 ) w
 ) w
 ) w
 ) w
 ) w
 )
theorem s58_den (b0 size1 : Value) (K : Value → World → Prop) (w : World) : denG Try.prog Try.f58.results.toList K (bodyOf Try.f58) a58 (argF [b0, size1] 0) w = s58 b0 size1 K w := by kernel_rfl
theorem s58_ann : okG (2 + 23) (bodyOf Try.f58) a58 = true := by kernel_rfl
theorem s58_call {b0 size1 : Value} {K : Value → World → Prop} {w : World} (hm : Try.prog.follows .mixedOrders = true) (h : s58 b0 size1 K w) : CallS Try.prog 58 #[b0, size1] K w :=
  fn_range (args := [b0, size1]) (m := 23) hm Try.func58 (by kernel_rfl) (rs := Try.f58.results) rfl Try.ntmps58 s58_ann (by rw [s58_den]; exact h)
end Go.Proofs.Ytambcnlkdnmekaa
