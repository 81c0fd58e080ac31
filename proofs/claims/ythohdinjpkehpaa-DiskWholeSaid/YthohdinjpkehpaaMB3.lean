/- Several texts of ours, laid one behind the other. -/
import Derived.Test.YthohdinjpkehpaaMB2
import Derived.Test.YthohdinjpkehpaaProg
import Derived.Test.YthohdinjpkehpaaChecked
import Derived.Eval
import Derived.Lib.Strings
import Derived.Maps.RangeRun
import Derived.Carry
/-! Laid out by a program of ours: what each function of the cut comes to, over named values; and that it is so. -/
namespace Go.Proofs.Ythohdinjpkehpaa
set_option linter.unusedVariables false
set_option maxRecDepth 100000
open Go SG

/-! number 61 -/
def a61 : Ann :=
 (.q (.r [.plain 1]) (.q (.r [.plain 3]) (.q (.b (.q (.r [.plain 3, .grp 3 [22] 7340032, .plain 2]) (.c (.q (.r [.plain 1]) .s) (.q (.r [.plain 3]) (.c (.q (.r [.plain 5]) .s) (.q (.r [.plain 5]) (.c (.q (.r [.plain 1]) .s) (.q (.r [.plain 4, .grp 3 [43] 15393162788864, .plain 2]) (.c (.q (.r [.plain 4]) .s) .s))))))))) (.q (.r [.plain 3]) (.q (.r [.plain 3]) (.q (.r [.plain 1]) (.q (.r [.plain 6]) (.q (.r [.plain 1]) (.j [] 11150372599265311570767858992208992677149968 (.b (.l [8, 10] 11150372599265311570767858992208992677149968 (.q (.q (.r [.plain 3]) (.c .s .s)) (.b (.j [8] 302230301982152686831888 (.q (.r [.plain 5]) (.c (.q (.r [.plain 8]) (.q (.q (.r [.plain 2]) (.c (.q (.r [.plain 1]) .s) .s)) (.r [.plain 5]))) .s))
  (.q (.q (.r [.plain 7, .grp 8 [92] 9864834688055374065602396160, .plain 1]) (.c (.q (.r [.plain 2]) .s) .s)) (.q (.r [.plain 3]) (.q (.r [.plain 3]) (.q (.r [.plain 4, .grp 4 [106] 152118072027387528179604384645120, .plain 1]) (.c (.q (.r [.plain 6]) (.q (.q (.r [.plain 2]) (.c (.q (.r [.plain 4]) .s) .s)) (.q (.r [.plain 1]) .s))) (.q (.r [.plain 4, .grp 5 [126] 164824271477329568240072075474762727424, .plain 2, .grp 3 [131] 4763953136893138488487244504044754960384, .plain 1]) (.c (.q (.r [.plain 6]) (.q (.q (.r [.plain 2]) (.c (.q (.r [.plain 1]) .s) .s)) (.q (.r [.plain 4]) .s))) .s))))))))))))
  (.q (.r [.plain 1]) .s))))))))))
def s61 (s0 substr1 : Value) (K : Value → World → Prop) (w : World) : Prop :=
 PureS (lenStrV substr1) fun t15 =>
 PureS (binV .eql t15 (Value.int .i64 0)) fun t18 =>
 JoinS (fun (t22 : Value) (w : World) =>
 PureS (pickV t18 (Value.bool true) t22) fun t23 =>
 CondS t23 (
 K (Value.int .i64 0) w
 ) (
 PureS (binV .eql t15 (Value.int .i64 1)) fun t26 =>
 CondS t26 (
 PureS (indexStrV substr1 (Value.int .i64 0)) fun t29 =>
 CallS Try.prog 65 [s0, t29].toArray (fun t30 w =>
 K t30 w
 ) w
 ) (
 PureS (lenStrV s0) fun t34 =>
 PureS (binV .geq t15 t34) fun t35 =>
 CondS t35 (
 K (Value.int .i64 (-1)) w
 ) (
 LoadC (Value.pointer (some ⟨0, 0, none⟩)) (fun t38 w =>
 PureS (binV .leq t15 t38) fun t39 =>
 JoinS (fun (t43 : Value) (w : World) =>
 PureS (pickV t39 t43 (Value.bool false)) fun t44 =>
 CondS t44 (
 CallX Try.prog 66 [s0, substr1].toArray (fun t47 w =>
 K t47 w
 ) w
 ) (
 PureS (indexStrV substr1 (Value.int .i64 0)) fun t49 =>
 PureS (indexStrV substr1 (Value.int .i64 1)) fun t51 =>
 PureS (lenStrV s0) fun t53 =>
 PureS (binV .sub t53 t15) fun t55 =>
 PureS (binV .add t55 (Value.int .i64 1)) fun t56 =>
 JoinS (fun (w : World) =>
 K (Value.int .i64 (-1)) w
 ) fun J2 =>
 LoopS 2 (fun L3 (i8 fails10 : Value) (w : World) =>
 PureS (binV .lss i8 t56) fun t59 =>
 CondS t59 (
 JoinS (fun (i8_1 : Value) (w : World) =>
 PureS (binV .add i8_1 (Value.int .i64 1)) fun t80 =>
 PureS (indexStrV s0 t80) fun t81 =>
 PureS (binV .eql t81 t51) fun t83 =>
 JoinS (fun (t92 : Value) (w : World) =>
 PureS (pickV t83 t92 (Value.bool false)) fun t93 =>
 CondS t93 (
 K i8_1 w
 ) (
 PureS (binV .add i8_1 (Value.int .i64 1)) fun t96 =>
 PureS (binV .add fails10 (Value.int .i64 1)) fun t98 =>
 LoadC (Value.pointer (some ⟨0, 0, none⟩)) (fun t100 w =>
 PureS (binV .leq t15 t100) fun t101 =>
 JoinS (fun (t106 : Value) (w : World) =>
 PureS (pickV t101 t106 (Value.bool false)) fun t107 =>
 CondS t107 (
 PureS (sliceStrV s0 (some t96) none) fun t110 =>
 CallX Try.prog 66 [t110, substr1].toArray (fun t112 w =>
 PureS (binV .geq t112 (Value.int .i64 0)) fun t114 =>
 CondS t114 (
 PureS (binV .add t112 t96) fun t117 =>
 K t117 w
 ) (
 K (Value.int .i64 (-1)) w
 )
 ) w
 ) (
 LoadC (Value.pointer (some ⟨0, 0, none⟩)) (fun t119 w =>
 PureS (binV .gtr t15 t119) fun t120 =>
 JoinS (fun (t126 : Value) (w : World) =>
 PureS (pickV t120 t126 (Value.bool false)) fun t127 =>
 JoinS (fun (t131 : Value) (w : World) =>
 PureS (pickV t127 t131 (Value.bool false)) fun t132 =>
 CondS t132 (
 PureS (sliceStrV s0 (some t96) none) fun t135 =>
 CallS Try.prog 68 [t135, substr1].toArray (fun t137 w =>
 PureS (binV .lss t137 (Value.int .i64 0)) fun t139 =>
 CondS t139 (
 K (Value.int .i64 (-1)) w
 ) (
 PureS (binV .add t96 t137) fun t142 =>
 K t142 w
 )
 ) w
 ) (
 L3 t96 t98 w
 )
 ) fun J8 =>
 IfB t127 true (
 PureS (binV .lss t96 t56) fun t131_1 =>
 J8 t131_1 w
 ) (
 J8 undef w
 )
 ) fun J7 =>
 IfB t120 true (
 PureS (binV .shr t96 (Value.int .u64 4)) fun t124 =>
 PureS (binV .add (Value.int .i64 4) t124) fun t125 =>
 PureS (binV .geq t98 t125) fun t126_1 =>
 J7 t126_1 w
 ) (
 J7 undef w
 )
 ) w
 )
 ) fun J6 =>
 IfB t101 true (
 CallS Try.prog 67 [t96].toArray (fun t105 w =>
 PureS (binV .gtr t98 t105) fun t106_1 =>
 J6 t106_1 w
 ) w
 ) (
 J6 undef w
 )
 ) w
 )
 ) fun J5 =>
 IfB t83 true (
 PureS (binV .add i8_1 t15) fun t89 =>
 PureS (sliceStrV s0 (some i8_1) (some t89)) fun t90 =>
 PureS (binV .eql t90 substr1) fun t92_1 =>
 J5 t92_1 w
 ) (
 J5 undef w
 )
 ) fun J4 =>
 PureS (indexStrV s0 i8) fun t62 =>
 PureS (binV .neq t62 t49) fun t64 =>
 CondS t64 (
 PureS (binV .add i8 (Value.int .i64 1)) fun t67 =>
 PureS (sliceStrV s0 (some t67) (some t56)) fun t69 =>
 CallS Try.prog 65 [t69, t49].toArray (fun t71 w =>
 PureS (binV .lss t71 (Value.int .i64 0)) fun t73 =>
 CondS t73 (
 K (Value.int .i64 (-1)) w
 ) (
 PureS (binV .add t71 (Value.int .i64 1)) fun t76 =>
 PureS (binV .add i8 t76) fun t77 =>
 J4 t77 w
 )
 ) w
 ) (
 J4 i8 w
 )
 ) (
 J2 w
 )
 ) (Value.int .i64 0) (Value.int .i64 0) w
 )
 ) fun J1 =>
 IfB t39 true (
 PureS (lenStrV s0) fun t42 =>
 PureS (binV .leq t42 (Value.int .i64 64)) fun t43_1 =>
 J1 t43_1 w
 ) (
 J1 undef w
 )
 ) w
 )
 )
 )
 ) fun J0 =>
 IfB t18 false (
 PureS (binV .eql substr1 s0) fun t22_1 =>
 J0 t22_1 w
 ) (
 J0 undef w
 )
theorem s61_den (s0 substr1 : Value) (K : Value → World → Prop) (w : World) : denFn Try.prog false (bodyOf Try.f61) Try.f61.results a61 [s0, substr1] K NoP w = s61 s0 substr1 K w := by kernel_rfl
theorem s61_dst : dstsOk (2 + 141) (bodyOf Try.f61) = true := by kernel_rfl
theorem s61_ann : annOk (bodyOf Try.f61) a61 = true := by kernel_rfl
theorem s61_call {s0 substr1 : Value} {K : Value → World → Prop} {w : World} (hm : Try.prog.follows .mixedOrders = true) (h : s61 s0 substr1 K w) : CallS Try.prog 61 #[s0, substr1] K w :=
  fn_call (args := [s0, substr1]) (m := 141) hm Try.func61 (by kernel_rfl) (rs := Try.f61.results) rfl Try.ntmps61 s61_dst s61_ann (by rw [s61_den]; exact h)

/-! number 62 -/
def a62 : Ann :=
 (.q (.r [.plain 2]) (.q (.q (.r [.plain 1]) (.b (.r [.plain 5]))) (.q (.r [.plain 2]) .s)))
def s62 (s0 seq1 : Value) (K : Value → World → Prop) (w : World) : Prop :=
 BoxS 74 s0 (fun s2 w =>
 RangeS Try.prog seq1 1 (fun vs KW w =>
 LoadC s2 (fun t8 w =>
 RunS Try.prog (Instr.buildSlice 74 1 [(0, (vs.getD 0 undef))].toArray) (fun t10 w =>
 RunS Try.prog (Builtin.append_ #[74, 74] 74 [t8, t10].toArray) (fun t11 w =>
 StoreC s2 t11 (fun w =>
 KW w
 ) w
 ) w
 ) w
 ) w
 ) (fun D w =>
 LoadC s2 (fun t12 w =>
 (w).heap[D]? = some (.deferred (some [])) ∧ (
 K t12 ((w).putObj D (.deferred none))
 )
 ) w
 ) w
 ) w
theorem s62_den (s0 seq1 : Value) (K : Value → World → Prop) (w : World) : denG Try.prog Try.f62.results.toList K (bodyOf Try.f62) a62 (argF [s0, seq1] 0) w = s62 s0 seq1 K w := by kernel_rfl
theorem s62_ann : okG (2 + 11) (bodyOf Try.f62) a62 = true := by kernel_rfl
theorem s62_call {s0 seq1 : Value} {K : Value → World → Prop} {w : World} (hm : Try.prog.follows .mixedOrders = true) (h : s62 s0 seq1 K w) : CallS Try.prog 62 #[s0, seq1] K w :=
  fn_range (args := [s0, seq1]) (m := 11) hm Try.func62 (by kernel_rfl) (rs := Try.f62.results) rfl Try.ntmps62 s62_ann (by rw [s62_den]; exact h)

/-! number 63 -/
def a63 : Ann :=
 (.q (.r [.plain 1]) (.q (.r [.plain 1]) (.b (.l [1, 2, 3, 8, 9] 21778071482940061661655974875633165532942 (.b (.q (.r [.plain 4]) (.q (.q (.r [.plain 2]) (.c (.q (.r [.plain 4]) .s) .s)) (.q (.q (.r [.plain 2]) (.c (.q (.r [.plain 4]) .s) .s)) (.j [3] 4380866641928 (.q (.r [.plain 2]) (.c (.q (.r [.plain 4]) (.r [.plain 3])) .s))
  (.q (.r [.plain 9]) (.j [11, 12] 2305280059260278784 (.q (.r [.plain 2]) (.c (.q (.r [.plain 4]) (.q (.r [.plain 7]) (.r [.plain 1]))) .s))
  (.j [] 9442427122730076733440 (.q (.r [.plain 2, .grp 1 [63] 9223372036854775808, .plain 2, .grp 2 [67] 221360928884514619392, .plain 1]) (.c (.q (.r [.plain 4]) (.c .s .s)) .s))
  (.q (.j [87] 309475565088379329434353664 (.d [0, 1, 3, 7, 7, 23, 63, 127, 7, 7, 775, 1799, 4095, 8191, 16383] (.pur 0 (.pur 1 (.pur 2 (.ite 2 (.pur 3 (.pur 4 (.pur 5 (.pur 6 (.pur 8 (.pur 9 (.pur 10 (.hld 7 (.hld 11 (.act 12 (.pur 13 (.pur 14 .fin)))))))))))) (.skp 3 (.skp 4 (.skp 5 (.skp 6 (.skp 7 (.skp 8 (.skp 9 (.skp 10 (.skp 11 (.skp 12 (.skp 13 (.pur 14 .fin)))))))))))))))))
  (.c (.q (.r [.plain 6]) (.q (.r [.plain 2]) .s)) .s)) (.q (.r [.plain 10]) (.q (.r [.plain 2]) (.q (.r [.plain 8]) (.q (.r [.plain 3]) (.q (.r [.plain 3]) (.c (.q (.r [.plain 4]) (.q (.r [.plain 5]) (.r [.plain 3]))) (.q (.r [.plain 4]) (.q (.r [.plain 6]) (.r [.plain 2]))))))))))))))))))))))
def s63 (data0 a1 b2 limit3 : Value) (K : Value → World → Prop) (w : World) : Prop :=
 LoopS 5 (fun L0 (a1_1 b2_1 limit3_1 wasBalanced8 wasPartitioned9 : Value) (w : World) =>
 PureS (binV .sub b2_1 a1_1) fun t21 =>
 PureS (binV .leq t21 (Value.int .i64 12)) fun t23 =>
 CondS t23 (
 CallS Try.prog 69 [data0, a1_1, b2_1].toArray (fun t27 w =>
 K (Value.tuple [].toArray) w
 ) w
 ) (
 PureS (binV .eql limit3_1 (Value.int .i64 0)) fun t29 =>
 CondS t29 (
 CallS Try.prog 70 [data0, a1_1, b2_1].toArray (fun t33 w =>
 K (Value.tuple [].toArray) w
 ) w
 ) (
 JoinS (fun (limit3_2 : Value) (w : World) =>
 CallS Try.prog 72 [data0, a1_1, b2_1].toArray (fun t46 w =>
 PureS (extractV 0 t46) fun t47 =>
 PureS (extractV 1 t46) fun t48 =>
 JoinS (fun (pivot11 hint12 : Value) (w : World) =>
 JoinS (fun (w : World) =>
 JoinS (fun (t87 : Value) (w : World) =>
 CondS t87 (
 CallS Try.prog 76 [data0, a1_1, b2_1, pivot11].toArray (fun t92 w =>
 L0 t92 b2_1 limit3_2 wasBalanced8 wasPartitioned9 w
 ) w
 ) (
 CallS Try.prog 77 [data0, a1_1, b2_1, pivot11].toArray (fun t99 w =>
 PureS (extractV 0 t99) fun t100 =>
 PureS (extractV 1 t99) fun t101 =>
 PureS (binV .sub t100 a1_1) fun t105 =>
 PureS (binV .sub b2_1 t100) fun t108 =>
 PureS (binV .quo t21 (Value.int .i64 8)) fun t110 =>
 PureS (binV .lss t105 t108) fun t113 =>
 CondS t113 (
 PureS (binV .geq t105 t110) fun t116 =>
 CallS Try.prog 63 [data0, a1_1, t100, limit3_2].toArray (fun t121 w =>
 PureS (binV .add t100 (Value.int .i64 1)) fun t123 =>
 L0 t123 b2_1 limit3_2 t116 t101 w
 ) w
 ) (
 PureS (binV .geq t108 t110) fun t126 =>
 PureS (binV .add t100 (Value.int .i64 1)) fun t129 =>
 CallS Try.prog 63 [data0, t129, b2_1, limit3_2].toArray (fun t132 w =>
 L0 a1_1 t100 limit3_2 t126 t101 w
 ) w
 )
 ) w
 )
 ) fun J4 =>
 DrawS fun S5 => S5 w.drew ∧ (
 PureS (binV .gtr a1_1 (Value.int .i64 0)) fun t74 =>
 CondS t74 (
 PureS (binV .sub a1_1 (Value.int .i64 1)) fun t78 =>
 PureS (indexAddrV 1 data0 t78) fun t79 =>
 PureS (indexAddrV 1 data0 pivot11) fun t83 =>
 HeldC S5 t79 (fun t80 =>
 HeldC S5 t83 (fun t84 =>
 CallS Try.prog 75 [t80, t84].toArray (fun t85 w =>
 PureS (notV t85) fun t86 =>
 PureS (pickV (Value.bool true) t86 (Value.bool false)) fun t87_1 =>
 J4 t87_1 w
 ) w.drew
 )
 )
 ) (
 PureS (pickV (Value.bool false) undef (Value.bool false)) fun t87_2 =>
 J4 t87_2 w.drew
 )
 )
 ) fun J3 =>
 JoinS (fun (t63 : Value) (w : World) =>
 PureS (pickV wasBalanced8 t63 (Value.bool false)) fun t64 =>
 JoinS (fun (t67 : Value) (w : World) =>
 PureS (pickV t64 t67 (Value.bool false)) fun t68 =>
 CondS t68 (
 CallS Try.prog 74 [data0, a1_1, b2_1].toArray (fun t72 w =>
 CondS t72 (
 K (Value.tuple [].toArray) w
 ) (
 J3 w
 )
 ) w
 ) (
 J3 w
 )
 ) fun J7 =>
 IfB t64 true (
 PureS (binV .eql hint12 (Value.int .i64 1)) fun t67_1 =>
 J7 t67_1 w
 ) (
 J7 undef w
 )
 ) fun J6 =>
 IfB wasBalanced8 true (
 J6 wasPartitioned9 w
 ) (
 J6 undef w
 )
 ) fun J2 =>
 PureS (binV .eql t48 (Value.int .i64 2)) fun t50 =>
 CondS t50 (
 CallS Try.prog 73 [data0, a1_1, b2_1].toArray (fun t54 w =>
 PureS (binV .sub b2_1 (Value.int .i64 1)) fun t56 =>
 PureS (binV .sub t47 a1_1) fun t59 =>
 PureS (binV .sub t56 t59) fun t60 =>
 J2 t60 (Value.int .i64 1) w
 ) w
 ) (
 J2 t47 t48 w
 )
 ) w
 ) fun J1 =>
 PureS (notV wasBalanced8) fun t35 =>
 CondS t35 (
 CallS Try.prog 71 [data0, a1_1, b2_1].toArray (fun t39 w =>
 PureS (binV .sub limit3_1 (Value.int .i64 1)) fun t41 =>
 J1 t41 w
 ) w
 ) (
 J1 limit3_1 w
 )
 )
 )
 ) a1 b2 limit3 (Value.bool true) (Value.bool true) w
theorem s63_den (data0 a1 b2 limit3 : Value) (K : Value → World → Prop) (w : World) : denFn Try.prog false (bodyOf Try.f63) Try.f63.results a63 [data0, a1, b2, limit3] K NoP w = s63 data0 a1 b2 limit3 K w := by kernel_rfl
theorem s63_dst : dstsOk (4 + 130) (bodyOf Try.f63) = true := by kernel_rfl
theorem s63_ann : annOk (bodyOf Try.f63) a63 = true := by kernel_rfl
theorem s63_call {data0 a1 b2 limit3 : Value} {K : Value → World → Prop} {w : World} (hm : Try.prog.follows .mixedOrders = true) (h : s63 data0 a1 b2 limit3 K w) : CallS Try.prog 63 #[data0, a1, b2, limit3] K w :=
  fn_call (args := [data0, a1, b2, limit3]) (m := 130) hm Try.func63 (by kernel_rfl) (rs := Try.f63.results) rfl Try.ntmps63 s63_dst s63_ann (by rw [s63_den]; exact h)

/-! number 64 -/
def a64 : Ann :=
 (.q (.r [.plain 1]) (.q (.c (.q (.r [.plain 4]) .s) .s) (.q (.r [.plain 3]) .s)))
def s64 (x0 : Value) (K : Value → World → Prop) (w : World) : Prop :=
 CondS (Value.bool false) (
 PureS (convIntV .u32 x0) fun t4 =>
 CallS Try.prog 78 [t4].toArray (fun t5 w =>
 K t5 w
 ) w
 ) (
 CallS Try.prog 79 [x0].toArray (fun t7 w =>
 K t7 w
 ) w
 )
theorem s64_den (x0 : Value) (K : Value → World → Prop) (w : World) : denFn Try.prog false (bodyOf Try.f64) Try.f64.results a64 [x0] K NoP w = s64 x0 K w := by kernel_rfl
theorem s64_dst : dstsOk (1 + 7) (bodyOf Try.f64) = true := by kernel_rfl
theorem s64_ann : annOk (bodyOf Try.f64) a64 = true := by kernel_rfl
theorem s64_call {x0 : Value} {K : Value → World → Prop} {w : World} (hm : Try.prog.follows .mixedOrders = true) (h : s64 x0 K w) : CallS Try.prog 64 #[x0] K w :=
  fn_call (args := [x0]) (m := 7) hm Try.func64 (by kernel_rfl) (rs := Try.f64.results) rfl Try.ntmps64 s64_dst s64_ann (by rw [s64_den]; exact h)

/-! number 65 -/
def a65 : Ann :=
 (.q (.r [.plain 1]) (.q (.r [.plain 4]) .s))
def s65 (s0 c1 : Value) (K : Value → World → Prop) (w : World) : Prop :=
 CallX Try.prog 80 [s0, c1].toArray (fun t7 w =>
 K t7 w
 ) w
theorem s65_den (s0 c1 : Value) (K : Value → World → Prop) (w : World) : denFn Try.prog false (bodyOf Try.f65) Try.f65.results a65 [s0, c1] K NoP w = s65 s0 c1 K w := by kernel_rfl
theorem s65_dst : dstsOk (2 + 6) (bodyOf Try.f65) = true := by kernel_rfl
theorem s65_ann : annOk (bodyOf Try.f65) a65 = true := by kernel_rfl
theorem s65_call {s0 c1 : Value} {K : Value → World → Prop} {w : World} (hm : Try.prog.follows .mixedOrders = true) (h : s65 s0 c1 K w) : CallS Try.prog 65 #[s0, c1] K w :=
  fn_call (args := [s0, c1]) (m := 6) hm Try.func65 (by kernel_rfl) (rs := Try.f65.results) rfl Try.ntmps65 s65_dst s65_ann (by rw [s65_den]; exact h)

/-! number 69 -/
def a69 : Ann :=
 (.q (.r [.plain 3]) (.b (.l [6] 562949953420480 (.q (.q (.r [.plain 3]) (.c .s .s)) (.j [] 562949953388672 (.b (.q (.r [.plain 2]) (.b (.l [7] 562949953355904 (.q (.j [30] 2147418112 (.d [0, 0, 3, 7, 15, 15, 63, 127, 15, 15, 527, 1807, 3855, 8191, 16383] (.pur 0 (.pur 1 (.pur 2 (.pur 3 (.ite 3 (.pur 4 (.pur 5 (.pur 6 (.pur 8 (.pur 9 (.pur 10 (.pur 11 (.hld 7 (.hld 12 (.act 13 (.pur 14 .fin))))))))))) (.skp 4 (.skp 5 (.skp 6 (.skp 7 (.skp 8 (.skp 9 (.skp 10 (.skp 11 (.skp 12 (.skp 13 (.pur 14 .fin)))))))))))))))))
  (.c .s .s)) (.q (.b (.d [0, 0, 0, 0, 8, 0, 0, 64, 224, 480, 0, 0, 3072, 7168, 16355, 32739, 65535, 131071] (.pur 0 (.pur 1 (.pur 2 (.pur 3 (.pur 4 (.pur 5 (.pur 6 (.pur 7 (.pur 8 (.pur 10 (.pur 11 (.pur 12 (.hld 9 (.hld 13 (.pur 14 (.act 15 (.pur 16 (.act 17 .fin)))))))))))))))))))) (.r [.plain 3])))))))
  (.r [.plain 3]))))))
def s69 (data0 a1 b2 : Value) (K : Value → World → Prop) (w : World) : Prop :=
 PureS (binV .add a1 (Value.int .i64 1)) fun t9 =>
 LoopS 1 (fun L0 (i6 : Value) (w : World) =>
 PureS (binV .lss i6 b2) fun t12 =>
 CondS t12 (
 JoinS (fun (w : World) =>
 PureS (binV .add i6 (Value.int .i64 1)) fun t14 =>
 L0 t14 w
 ) fun J1 =>
 LoopS 1 (fun L2 (j7 : Value) (w : World) =>
 JoinS (fun (t30 : Value) (w : World) =>
 CondS t30 (
 DrawS fun S4 => S4 w.drew ∧ (
 PureS (binV .sub j7 (Value.int .i64 1)) fun t37 =>
 PureS (binV .sub j7 (Value.int .i64 1)) fun t40 =>
 PureS (indexAddrV 1 data0 t40) fun t41 =>
 PureS (indexAddrV 1 data0 j7) fun t45 =>
 HeldC S4 t41 (fun t42 =>
 HeldC S4 t45 (fun t46 =>
 PureS (indexAddrV 1 data0 j7) fun t47 =>
 StoreC t47 t42 (fun w =>
 PureS (indexAddrV 1 data0 t37) fun t48 =>
 StoreC t48 t46 (fun w =>
 PureS (binV .sub j7 (Value.int .i64 1)) fun t32 =>
 L2 t32 w
 ) w
 ) w.drew
 )
 )
 )
 ) (
 J1 w
 )
 ) fun J3 =>
 DrawS fun S5 => S5 w.drew ∧ (
 PureS (binV .gtr j7 a1) fun t18 =>
 CondS t18 (
 PureS (indexAddrV 1 data0 j7) fun t22 =>
 PureS (binV .sub j7 (Value.int .i64 1)) fun t26 =>
 PureS (indexAddrV 1 data0 t26) fun t27 =>
 HeldC S5 t22 (fun t23 =>
 HeldC S5 t27 (fun t28 =>
 CallS Try.prog 75 [t23, t28].toArray (fun t29 w =>
 PureS (pickV (Value.bool true) t29 (Value.bool false)) fun t30_1 =>
 J3 t30_1 w
 ) w.drew
 )
 )
 ) (
 PureS (pickV (Value.bool false) undef (Value.bool false)) fun t30_2 =>
 J3 t30_2 w.drew
 )
 )
 ) i6 w
 ) (
 K (Value.tuple [].toArray) w
 )
 ) t9 w
theorem s69_den (data0 a1 b2 : Value) (K : Value → World → Prop) (w : World) : denFn Try.prog false (bodyOf Try.f69) Try.f69.results a69 [data0, a1, b2] K NoP w = s69 data0 a1 b2 K w := by kernel_rfl
theorem s69_dst : dstsOk (3 + 46) (bodyOf Try.f69) = true := by kernel_rfl
theorem s69_ann : annOk (bodyOf Try.f69) a69 = true := by kernel_rfl
theorem s69_call {data0 a1 b2 : Value} {K : Value → World → Prop} {w : World} (hm : Try.prog.follows .mixedOrders = true) (h : s69 data0 a1 b2 K w) : CallS Try.prog 69 #[data0, a1, b2] K w :=
  fn_call (args := [data0, a1, b2]) (m := 46) hm Try.func69 (by kernel_rfl) (rs := Try.f69.results) rfl Try.ntmps69 s69_dst s69_ann (by rw [s69_den]; exact h)

/-! number 70 -/
def a70 : Ann :=
 (.q (.r [.plain 2]) (.q (.r [.plain 1]) (.q (.r [.plain 4]) (.j [] 134185472 (.q (.r [.plain 4]) (.b (.l [9] 133956096 (.q (.q (.r [.plain 2]) (.c .s .s)) (.q (.b (.r [.plain 5])) (.r [.plain 3]))))))
  (.q (.r [.plain 3]) (.b (.l [10] 72057593501058048 (.q (.q (.r [.plain 2]) (.c .s .s)) (.q (.b (.q (.d [0, 0, 0, 0, 0, 24, 0, 0, 0, 384, 960, 1984, 0, 0, 12288, 28672, 65475, 131011, 262143, 524287] (.pur 0 (.pur 1 (.pur 2 (.pur 3 (.pur 4 (.pur 5 (.pur 6 (.pur 7 (.pur 8 (.pur 9 (.pur 10 (.pur 12 (.pur 13 (.pur 14 (.hld 11 (.hld 15 (.pur 16 (.act 17 (.pur 18 (.act 19 .fin))))))))))))))))))))) (.r [.plain 5]))) (.r [.plain 3]))))))))))
def s70 (data0 a1 b2 : Value) (K : Value → World → Prop) (w : World) : Prop :=
 PureS (binV .sub b2 a1) fun t14 =>
 JoinS (fun (w : World) =>
 PureS (binV .sub t14 (Value.int .i64 1)) fun t28 =>
 LoopS 1 (fun L1 (i10 : Value) (w : World) =>
 PureS (binV .geq i10 (Value.int .i64 0)) fun t30 =>
 CondS t30 (
 DrawS fun S2 => S2 w.drew ∧ (
 PureS (binV .add a1 i10) fun t38 =>
 PureS (binV .add a1 i10) fun t42 =>
 PureS (indexAddrV 1 data0 t42) fun t43 =>
 PureS (indexAddrV 1 data0 a1) fun t47 =>
 HeldC S2 t43 (fun t44 =>
 HeldC S2 t47 (fun t48 =>
 PureS (indexAddrV 1 data0 a1) fun t49 =>
 StoreC t49 t44 (fun w =>
 PureS (indexAddrV 1 data0 t38) fun t50 =>
 StoreC t50 t48 (fun w =>
 CallS Try.prog 82 [data0, (Value.int .i64 0), i10, a1].toArray (fun t55 w =>
 PureS (binV .sub i10 (Value.int .i64 1)) fun t32 =>
 L1 t32 w
 ) w
 ) w
 ) w.drew
 )
 )
 )
 ) (
 K (Value.tuple [].toArray) w
 )
 ) t28 w
 ) fun J0 =>
 PureS (binV .sub t14 (Value.int .i64 1)) fun t16 =>
 PureS (binV .quo t16 (Value.int .i64 2)) fun t17 =>
 LoopS 1 (fun L3 (i9 : Value) (w : World) =>
 PureS (binV .geq i9 (Value.int .i64 0)) fun t19 =>
 CondS t19 (
 CallS Try.prog 82 [data0, i9, t14, a1].toArray (fun t26 w =>
 PureS (binV .sub i9 (Value.int .i64 1)) fun t21 =>
 L3 t21 w
 ) w
 ) (
 J0 w
 )
 ) t17 w
theorem s70_den (data0 a1 b2 : Value) (K : Value → World → Prop) (w : World) : denFn Try.prog false (bodyOf Try.f70) Try.f70.results a70 [data0, a1, b2] K NoP w = s70 data0 a1 b2 K w := by kernel_rfl
theorem s70_dst : dstsOk (3 + 53) (bodyOf Try.f70) = true := by kernel_rfl
theorem s70_ann : annOk (bodyOf Try.f70) a70 = true := by kernel_rfl
theorem s70_call {data0 a1 b2 : Value} {K : Value → World → Prop} {w : World} (hm : Try.prog.follows .mixedOrders = true) (h : s70 data0 a1 b2 K w) : CallS Try.prog 70 #[data0, a1, b2] K w :=
  fn_call (args := [data0, a1, b2]) (m := 53) hm Try.func70 (by kernel_rfl) (rs := Try.f70.results) rfl Try.ntmps70 s70_dst s70_ann (by rw [s70_den]; exact h)

/-! number 71 -/
def a71 : Ann :=
 (.q (.r [.plain 4]) (.q (.r [.plain 2]) (.c (.q (.r [.plain 4]) (.q (.r [.plain 3]) (.q (.r [.plain 7]) (.b (.l [9] 36893488147351995904 (.q (.q (.r [.plain 8]) (.c .s .s)) (.q (.b (.q (.r [.plain 6]) (.j [10] 138538465100800 (.q (.r [.plain 3]) (.c (.r [.plain 4]) .s))
  (.d [0, 0, 0, 0, 0, 24, 0, 0, 0, 384, 960, 1984, 0, 0, 12288, 28672, 65475, 131011, 262143, 524287] (.pur 0 (.pur 1 (.pur 2 (.pur 3 (.pur 4 (.pur 5 (.pur 6 (.pur 7 (.pur 8 (.pur 9 (.pur 10 (.pur 12 (.pur 13 (.pur 14 (.hld 11 (.hld 15 (.pur 16 (.act 17 (.pur 18 (.act 19 .fin)))))))))))))))))))))))) (.r [.plain 3])))))))) .s)))
def s71 (data0 a1 b2 : Value) (K : Value → World → Prop) (w : World) : Prop :=
 PureS (binV .sub b2 a1) fun t13 =>
 PureS (binV .geq t13 (Value.int .i64 8)) fun t15 =>
 CondS t15 (
 PureS (convIntV .u64 t13) fun t17 =>
 BoxS 119 (Value.int .u64 0) (fun random7 w =>
 StoreC random7 t17 (fun w =>
 CallS Try.prog 83 [t13].toArray (fun t19 w =>
 PureS (binV .quo t13 (Value.int .i64 4)) fun t22 =>
 PureS (binV .mul t22 (Value.int .i64 2)) fun t23 =>
 PureS (binV .add a1 t23) fun t24 =>
 PureS (binV .sub t24 (Value.int .i64 1)) fun t25 =>
 LoopS 1 (fun L0 (idx9 : Value) (w : World) =>
 PureS (binV .quo t13 (Value.int .i64 4)) fun t29 =>
 PureS (binV .mul t29 (Value.int .i64 2)) fun t30 =>
 PureS (binV .add a1 t30) fun t31 =>
 PureS (binV .add t31 (Value.int .i64 1)) fun t32 =>
 PureS (binV .leq idx9 t32) fun t33 =>
 CondS t33 (
 CallS Try.prog 84 [random7].toArray (fun t36 w =>
 PureS (binV .sub t19 (Value.int .u64 1)) fun t38 =>
 PureS (binV .and t36 t38) fun t39 =>
 PureS (convIntV .i64 t39) fun t40 =>
 JoinS (fun (other10 : Value) (w : World) =>
 DrawS fun S2 => S2 w.drew ∧ (
 PureS (binV .add a1 other10) fun t52 =>
 PureS (binV .add a1 other10) fun t56 =>
 PureS (indexAddrV 1 data0 t56) fun t57 =>
 PureS (indexAddrV 1 data0 idx9) fun t61 =>
 HeldC S2 t57 (fun t58 =>
 HeldC S2 t61 (fun t62 =>
 PureS (indexAddrV 1 data0 idx9) fun t63 =>
 StoreC t63 t58 (fun w =>
 PureS (indexAddrV 1 data0 t52) fun t64 =>
 StoreC t64 t62 (fun w =>
 PureS (binV .add idx9 (Value.int .i64 1)) fun t35 =>
 L0 t35 w
 ) w
 ) w.drew
 )
 )
 )
 ) fun J1 =>
 PureS (binV .geq t40 t13) fun t43 =>
 CondS t43 (
 PureS (binV .sub t40 t13) fun t46 =>
 J1 t46 w
 ) (
 J1 t40 w
 )
 ) w
 ) (
 K (Value.tuple [].toArray) w
 )
 ) t25 w
 ) w
 ) w
 ) w
 ) (
 K (Value.tuple [].toArray) w
 )
theorem s71_den (data0 a1 b2 : Value) (K : Value → World → Prop) (w : World) : denFn Try.prog false (bodyOf Try.f71) Try.f71.results a71 [data0, a1, b2] K NoP w = s71 data0 a1 b2 K w := by kernel_rfl
theorem s71_dst : dstsOk (3 + 62) (bodyOf Try.f71) = true := by kernel_rfl
theorem s71_ann : annOk (bodyOf Try.f71) a71 = true := by kernel_rfl
theorem s71_call {data0 a1 b2 : Value} {K : Value → World → Prop} {w : World} (hm : Try.prog.follows .mixedOrders = true) (h : s71 data0 a1 b2 K w) : CallS Try.prog 71 #[data0, a1, b2] K w :=
  fn_call (args := [data0, a1, b2]) (m := 62) hm Try.func71 (by kernel_rfl) (rs := Try.f71.results) rfl Try.ntmps71 s71_dst s71_ann (by rw [s71_den]; exact h)

/-! number 72 -/
def a72 : Ann :=
 (.q (.r [.plain 2]) (.q (.r [.plain 4]) (.q (.r [.plain 1]) (.q (.r [.plain 6]) (.q (.r [.plain 6]) (.q (.r [.plain 6]) (.j [11] 562947805944832 (.q (.r [.plain 2]) (.c (.j [10, 11, 12] 17583596116992 (.q (.r [.plain 2]) (.c (.q (.r [.plain 4]) (.q (.r [.plain 4]) (.r [.plain 4]))) .s))
  (.r [.plain 6])) .s))
  (.q (.r [.plain 1]) (.b (.q (.r [.plain 2]) (.c (.q (.r [.plain 3]) .s) (.q (.r [.plain 2]) (.c (.q (.r [.plain 3]) .s) (.q (.r [.plain 3]) .s))))))))))))))
def s72 (data0 a1 b2 : Value) (K : Value → World → Prop) (w : World) : Prop :=
 PureS (binV .sub b2 a1) fun t15 =>
 BoxS 3 (Value.int .i64 0) (fun swaps9 w =>
 PureS (binV .quo t15 (Value.int .i64 4)) fun t18 =>
 PureS (binV .mul t18 (Value.int .i64 1)) fun t19 =>
 PureS (binV .add a1 t19) fun t20 =>
 PureS (binV .quo t15 (Value.int .i64 4)) fun t23 =>
 PureS (binV .mul t23 (Value.int .i64 2)) fun t24 =>
 PureS (binV .add a1 t24) fun t25 =>
 PureS (binV .quo t15 (Value.int .i64 4)) fun t28 =>
 PureS (binV .mul t28 (Value.int .i64 3)) fun t29 =>
 PureS (binV .add a1 t29) fun t30 =>
 JoinS (fun (j11 : Value) (w : World) =>
 LoadC swaps9 (fun t49 w =>
 PureS (binV .eql t49 (Value.int .i64 0)) fun t52 =>
 CondS t52 (
 K (Value.tuple [j11, (Value.int .i64 1)].toArray) w
 ) (
 PureS (binV .eql t49 (Value.int .i64 12)) fun t55 =>
 CondS t55 (
 K (Value.tuple [j11, (Value.int .i64 2)].toArray) w
 ) (
 K (Value.tuple [j11, (Value.int .i64 0)].toArray) w
 )
 )
 ) w
 ) fun J0 =>
 PureS (binV .geq t15 (Value.int .i64 8)) fun t32 =>
 CondS t32 (
 JoinS (fun (i10 j11_1 k12 : Value) (w : World) =>
 CallS Try.prog 86 [data0, i10, j11_1, k12, swaps9].toArray (fun t48 w =>
 J0 t48 w
 ) w
 ) fun J1 =>
 PureS (binV .geq t15 (Value.int .i64 50)) fun t34 =>
 CondS t34 (
 CallS Try.prog 85 [data0, t20, swaps9].toArray (fun t37 w =>
 CallS Try.prog 85 [data0, t25, swaps9].toArray (fun t40 w =>
 CallS Try.prog 85 [data0, t30, swaps9].toArray (fun t43 w =>
 J1 t37 t40 t43 w
 ) w
 ) w
 ) w
 ) (
 J1 t20 t25 t30 w
 )
 ) (
 J0 t25 w
 )
 ) w
theorem s72_den (data0 a1 b2 : Value) (K : Value → World → Prop) (w : World) : denFn Try.prog false (bodyOf Try.f72) Try.f72.results a72 [data0, a1, b2] K NoP w = s72 data0 a1 b2 K w := by kernel_rfl
theorem s72_dst : dstsOk (3 + 54) (bodyOf Try.f72) = true := by kernel_rfl
theorem s72_ann : annOk (bodyOf Try.f72) a72 = true := by kernel_rfl
theorem s72_call {data0 a1 b2 : Value} {K : Value → World → Prop} {w : World} (hm : Try.prog.follows .mixedOrders = true) (h : s72 data0 a1 b2 K w) : CallS Try.prog 72 #[data0, a1, b2] K w :=
  fn_call (args := [data0, a1, b2]) (m := 54) hm Try.func72 (by kernel_rfl) (rs := Try.f72.results) rfl Try.ntmps72 s72_dst s72_ann (by rw [s72_den]; exact h)

/-! number 73 -/
def a73 : Ann :=
 (.q (.r [.plain 2]) (.q (.r [.plain 3]) (.b (.l [6, 7] 4294965440 (.q (.q (.r [.plain 3]) (.c .s .s)) (.b (.q (.d [0, 0, 0, 0, 0, 0, 48, 112, 0, 0, 768, 1792, 4083, 8179, 16383, 32767] (.pur 0 (.pur 1 (.pur 2 (.pur 3 (.pur 4 (.pur 5 (.pur 6 (.pur 8 (.pur 9 (.pur 10 (.hld 7 (.hld 11 (.pur 12 (.act 13 (.pur 14 (.act 15 .fin))))))))))))))))) (.q (.r [.plain 3]) (.r [.plain 3])))))))))
def s73 (data0 a1 b2 : Value) (K : Value → World → Prop) (w : World) : Prop :=
 PureS (binV .sub b2 (Value.int .i64 1)) fun t10 =>
 LoopS 2 (fun L0 (i6 j7 : Value) (w : World) =>
 PureS (binV .lss i6 j7) fun t13 =>
 CondS t13 (
 DrawS fun S1 => S1 w.drew ∧ (
 PureS (indexAddrV 1 data0 j7) fun t20 =>
 PureS (indexAddrV 1 data0 i6) fun t24 =>
 HeldC S1 t20 (fun t21 =>
 HeldC S1 t24 (fun t25 =>
 PureS (indexAddrV 1 data0 i6) fun t26 =>
 StoreC t26 t21 (fun w =>
 PureS (indexAddrV 1 data0 j7) fun t27 =>
 StoreC t27 t25 (fun w =>
 PureS (binV .add i6 (Value.int .i64 1)) fun t29 =>
 PureS (binV .sub j7 (Value.int .i64 1)) fun t31 =>
 L0 t29 t31 w
 ) w
 ) w.drew
 )
 )
 )
 ) (
 K (Value.tuple [].toArray) w
 )
 ) a1 t10 w
theorem s73_den (data0 a1 b2 : Value) (K : Value → World → Prop) (w : World) : denFn Try.prog false (bodyOf Try.f73) Try.f73.results a73 [data0, a1, b2] K NoP w = s73 data0 a1 b2 K w := by kernel_rfl
theorem s73_dst : dstsOk (3 + 29) (bodyOf Try.f73) = true := by kernel_rfl
theorem s73_ann : annOk (bodyOf Try.f73) a73 = true := by kernel_rfl
theorem s73_call {data0 a1 b2 : Value} {K : Value → World → Prop} {w : World} (hm : Try.prog.follows .mixedOrders = true) (h : s73 data0 a1 b2 K w) : CallS Try.prog 73 #[data0, a1, b2] K w :=
  fn_call (args := [data0, a1, b2]) (m := 29) hm Try.func73 (by kernel_rfl) (rs := Try.f73.results) rfl Try.ntmps73 s73_dst s73_ann (by rw [s73_den]; exact h)

/-! number 74 -/
def a74 : Ann :=
 (.q (.r [.plain 1]) (.q (.r [.plain 3]) (.j [] 10889035741470030830827987437816582760384 (.q (.r [.plain 1]) (.b (.l [7, 8] 10889035741470030830827987437816582760384 (.q (.q (.r [.plain 2]) (.c .s .s)) (.j [7] 10889035741470030830827987437816582637248 (.b (.j [7] 34359607424 (.b (.l [7] 34359607424 (.q (.j [32] 8589803520 (.d [0, 0, 3, 7, 15, 15, 63, 127, 15, 15, 527, 1807, 3855, 8191, 16383, 32767] (.pur 0 (.pur 1 (.pur 2 (.pur 3 (.ite 3 (.pur 4 (.pur 5 (.pur 6 (.pur 8 (.pur 9 (.pur 10 (.pur 11 (.hld 7 (.hld 12 (.act 13 (.pur 14 (.pur 15 .fin)))))))))))) (.skp 4 (.skp 5 (.skp 6 (.skp 7 (.skp 8 (.skp 9 (.skp 10 (.skp 11 (.skp 12 (.skp 13 (.skp 14 (.pur 15 .fin))))))))))))))))))
  (.c .s .s)) (.b (.r [.plain 3])))))
  (.q (.q (.r [.plain 3]) (.c (.q (.r [.plain 1]) .s) .s)) (.q (.q (.r [.plain 4]) (.c (.q (.r [.plain 1]) .s) .s)) (.q (.d [0, 0, 0, 0, 8, 0, 0, 64, 224, 480, 0, 0, 3072, 7168, 16355, 32739, 65535, 131071] (.pur 0 (.pur 1 (.pur 2 (.pur 3 (.pur 4 (.pur 5 (.pur 6 (.pur 7 (.pur 8 (.pur 10 (.pur 11 (.pur 12 (.hld 9 (.hld 13 (.pur 14 (.act 15 (.pur 16 (.act 17 .fin))))))))))))))))))) (.j [] 39614081256843938420620263936 (.q (.r [.plain 4]) (.c (.q (.r [.plain 3]) (.b (.l [9] 39614081238685424723062424064 (.q (.q (.r [.plain 2]) (.c .s .s)) (.q (.b (.q (.q (.d [0, 0, 3, 7, 0, 0, 32, 112, 240, 511, 1023] (.pur 0 (.pur 1 (.pur 2 (.pur 4 (.pur 5 (.pur 6 (.pur 7 (.hld 3 (.hld 8 (.act 9 (.pur 10 .fin)))))))))))) (.c .s .s)) (.d [0, 0, 0, 0, 8, 0, 0, 64, 224, 480, 0, 0, 3072, 7168, 16355, 32739, 65535, 131071] (.pur 0 (.pur 1 (.pur 2 (.pur 3 (.pur 4 (.pur 5 (.pur 6 (.pur 7 (.pur 8 (.pur 10 (.pur 11 (.pur 12 (.hld 9 (.hld 13 (.pur 14 (.act 15 (.pur 16 (.act 17 .fin))))))))))))))))))))) (.r [.plain 3])))))) .s))
  (.q (.r [.plain 4]) (.c (.q (.r [.plain 3]) (.b (.l [10] 10889035738934729630371528634823176356864 (.q (.q (.r [.plain 3]) (.c .s .s)) (.q (.b (.q (.q (.d [0, 0, 3, 7, 0, 0, 32, 112, 240, 511, 1023] (.pur 0 (.pur 1 (.pur 2 (.pur 4 (.pur 5 (.pur 6 (.pur 7 (.hld 3 (.hld 8 (.act 9 (.pur 10 .fin)))))))))))) (.c .s .s)) (.d [0, 0, 0, 0, 8, 0, 0, 64, 224, 480, 0, 0, 3072, 7168, 16355, 32739, 65535, 131071] (.pur 0 (.pur 1 (.pur 2 (.pur 3 (.pur 4 (.pur 5 (.pur 6 (.pur 7 (.pur 8 (.pur 10 (.pur 11 (.pur 12 (.hld 9 (.hld 13 (.pur 14 (.act 15 (.pur 16 (.act 17 .fin))))))))))))))))))))) (.r [.plain 3])))))) .s))))))))
  (.r [.plain 3]))))))
  (.q (.r [.plain 1]) .s))))
def s74 (data0 a1 b2 : Value) (K : Value → World → Prop) (w : World) : Prop :=
 PureS (binV .add a1 (Value.int .i64 1)) fun t12 =>
 JoinS (fun (w : World) =>
 K (Value.bool false) w
 ) fun J0 =>
 LoopS 2 (fun L1 (i7 j8 : Value) (w : World) =>
 PureS (binV .lss j8 (Value.int .i64 5)) fun t14 =>
 CondS t14 (
 JoinS (fun (i7_1 : Value) (w : World) =>
 PureS (binV .add j8 (Value.int .i64 1)) fun t16 =>
 L1 i7_1 t16 w
 ) fun J2 =>
 JoinS (fun (i7_2 : Value) (w : World) =>
 PureS (binV .eql i7_2 b2) fun t37 =>
 CondS t37 (
 K (Value.bool true) w
 ) (
 PureS (binV .sub b2 a1) fun t40 =>
 PureS (binV .lss t40 (Value.int .i64 50)) fun t41 =>
 CondS t41 (
 K (Value.bool false) w
 ) (
 DrawS fun S4 => S4 w.drew ∧ (
 PureS (binV .sub i7_2 (Value.int .i64 1)) fun t46 =>
 PureS (binV .sub i7_2 (Value.int .i64 1)) fun t49 =>
 PureS (indexAddrV 1 data0 t49) fun t50 =>
 PureS (indexAddrV 1 data0 i7_2) fun t54 =>
 HeldC S4 t50 (fun t51 =>
 HeldC S4 t54 (fun t55 =>
 PureS (indexAddrV 1 data0 i7_2) fun t56 =>
 StoreC t56 t51 (fun w =>
 PureS (indexAddrV 1 data0 t46) fun t57 =>
 StoreC t57 t55 (fun w =>
 JoinS (fun (w : World) =>
 PureS (binV .sub b2 i7_2) fun t97 =>
 PureS (binV .geq t97 (Value.int .i64 2)) fun t98 =>
 CondS t98 (
 PureS (binV .add i7_2 (Value.int .i64 1)) fun t100 =>
 LoopS 1 (fun L6 (j10 : Value) (w : World) =>
 PureS (binV .lss j10 b2) fun t103 =>
 CondS t103 (
 DrawS fun S7 => S7 w.drew ∧ (
 PureS (indexAddrV 1 data0 j10) fun t108 =>
 PureS (binV .sub j10 (Value.int .i64 1)) fun t112 =>
 PureS (indexAddrV 1 data0 t112) fun t113 =>
 HeldC S7 t108 (fun t109 =>
 HeldC S7 t113 (fun t114 =>
 CallS Try.prog 75 [t109, t114].toArray (fun t115 w =>
 PureS (notV t115) fun t116 =>
 CondS t116 (
 J2 i7_2 w
 ) (
 DrawS fun S8 => S8 w.drew ∧ (
 PureS (binV .sub j10 (Value.int .i64 1)) fun t121 =>
 PureS (binV .sub j10 (Value.int .i64 1)) fun t124 =>
 PureS (indexAddrV 1 data0 t124) fun t125 =>
 PureS (indexAddrV 1 data0 j10) fun t129 =>
 HeldC S8 t125 (fun t126 =>
 HeldC S8 t129 (fun t130 =>
 PureS (indexAddrV 1 data0 j10) fun t131 =>
 StoreC t131 t126 (fun w =>
 PureS (indexAddrV 1 data0 t121) fun t132 =>
 StoreC t132 t130 (fun w =>
 PureS (binV .add j10 (Value.int .i64 1)) fun t105 =>
 L6 t105 w
 ) w
 ) w.drew
 )
 )
 )
 )
 ) w.drew
 )
 )
 )
 ) (
 J2 i7_2 w
 )
 ) t100 w
 ) (
 J2 i7_2 w
 )
 ) fun J5 =>
 PureS (binV .sub i7_2 a1) fun t60 =>
 PureS (binV .geq t60 (Value.int .i64 2)) fun t61 =>
 CondS t61 (
 PureS (binV .sub i7_2 (Value.int .i64 1)) fun t63 =>
 LoopS 1 (fun L9 (j9 : Value) (w : World) =>
 PureS (binV .geq j9 (Value.int .i64 1)) fun t65 =>
 CondS t65 (
 DrawS fun S10 => S10 w.drew ∧ (
 PureS (indexAddrV 1 data0 j9) fun t70 =>
 PureS (binV .sub j9 (Value.int .i64 1)) fun t74 =>
 PureS (indexAddrV 1 data0 t74) fun t75 =>
 HeldC S10 t70 (fun t71 =>
 HeldC S10 t75 (fun t76 =>
 CallS Try.prog 75 [t71, t76].toArray (fun t77 w =>
 PureS (notV t77) fun t78 =>
 CondS t78 (
 J5 w
 ) (
 DrawS fun S11 => S11 w.drew ∧ (
 PureS (binV .sub j9 (Value.int .i64 1)) fun t83 =>
 PureS (binV .sub j9 (Value.int .i64 1)) fun t86 =>
 PureS (indexAddrV 1 data0 t86) fun t87 =>
 PureS (indexAddrV 1 data0 j9) fun t91 =>
 HeldC S11 t87 (fun t88 =>
 HeldC S11 t91 (fun t92 =>
 PureS (indexAddrV 1 data0 j9) fun t93 =>
 StoreC t93 t88 (fun w =>
 PureS (indexAddrV 1 data0 t83) fun t94 =>
 StoreC t94 t92 (fun w =>
 PureS (binV .sub j9 (Value.int .i64 1)) fun t67 =>
 L9 t67 w
 ) w
 ) w.drew
 )
 )
 )
 )
 ) w.drew
 )
 )
 )
 ) (
 J5 w
 )
 ) t63 w
 ) (
 J5 w
 )
 ) w
 ) w.drew
 )
 )
 )
 )
 )
 ) fun J3 =>
 LoopS 1 (fun L12 (i7_3 : Value) (w : World) =>
 JoinS (fun (t32 : Value) (w : World) =>
 CondS t32 (
 PureS (binV .add i7_3 (Value.int .i64 1)) fun t34 =>
 L12 t34 w
 ) (
 J3 i7_3 w
 )
 ) fun J13 =>
 DrawS fun S14 => S14 w.drew ∧ (
 PureS (binV .lss i7_3 b2) fun t19 =>
 CondS t19 (
 PureS (indexAddrV 1 data0 i7_3) fun t23 =>
 PureS (binV .sub i7_3 (Value.int .i64 1)) fun t27 =>
 PureS (indexAddrV 1 data0 t27) fun t28 =>
 HeldC S14 t23 (fun t24 =>
 HeldC S14 t28 (fun t29 =>
 CallS Try.prog 75 [t24, t29].toArray (fun t30 w =>
 PureS (notV t30) fun t31 =>
 PureS (pickV (Value.bool true) t31 (Value.bool false)) fun t32_1 =>
 J13 t32_1 w
 ) w.drew
 )
 )
 ) (
 PureS (pickV (Value.bool false) undef (Value.bool false)) fun t32_2 =>
 J13 t32_2 w.drew
 )
 )
 ) i7 w
 ) (
 J0 w
 )
 ) t12 (Value.int .i64 0) w
theorem s74_den (data0 a1 b2 : Value) (K : Value → World → Prop) (w : World) : denFn Try.prog false (bodyOf Try.f74) Try.f74.results a74 [data0, a1, b2] K NoP w = s74 data0 a1 b2 K w := by kernel_rfl
theorem s74_dst : dstsOk (3 + 130) (bodyOf Try.f74) = true := by kernel_rfl
theorem s74_ann : annOk (bodyOf Try.f74) a74 = true := by kernel_rfl
theorem s74_call {data0 a1 b2 : Value} {K : Value → World → Prop} {w : World} (hm : Try.prog.follows .mixedOrders = true) (h : s74 data0 a1 b2 K w) : CallS Try.prog 74 #[data0, a1, b2] K w :=
  fn_call (args := [data0, a1, b2]) (m := 130) hm Try.func74 (by kernel_rfl) (rs := Try.f74.results) rfl Try.ntmps74 s74_dst s74_ann (by rw [s74_den]; exact h)

/-! number 75 -/
def a75 : Ann :=
 (.q (.r [.plain 1]) (.q (.r [.plain 3, .grp 3 [10] 1792, .plain 2, .grp 3 [15] 57344, .plain 2]) .s))
def s75 (x0 y1 : Value) (K : Value → World → Prop) (w : World) : Prop :=
 CallS Try.prog 87 [x0].toArray (fun t6 w =>
 JoinS (fun (t10 : Value) (w : World) =>
 PureS (pickV t6 t10 (Value.bool false)) fun t11 =>
 JoinS (fun (t15 : Value) (w : World) =>
 PureS (pickV t11 (Value.bool true) t15) fun t16 =>
 K t16 w
 ) fun J1 =>
 IfB t11 false (
 PureS (binV .lss x0 y1) fun t15_1 =>
 J1 t15_1 w
 ) (
 J1 undef w
 )
 ) fun J0 =>
 IfB t6 true (
 CallS Try.prog 87 [y1].toArray (fun t9 w =>
 PureS (notV t9) fun t10_1 =>
 J0 t10_1 w
 ) w
 ) (
 J0 undef w
 )
 ) w
theorem s75_den (x0 y1 : Value) (K : Value → World → Prop) (w : World) : denFn Try.prog false (bodyOf Try.f75) Try.f75.results a75 [x0, y1] K NoP w = s75 x0 y1 K w := by kernel_rfl
theorem s75_dst : dstsOk (2 + 15) (bodyOf Try.f75) = true := by kernel_rfl
theorem s75_ann : annOk (bodyOf Try.f75) a75 = true := by kernel_rfl
theorem s75_call {x0 y1 : Value} {K : Value → World → Prop} {w : World} (hm : Try.prog.follows .mixedOrders = true) (h : s75 x0 y1 K w) : CallS Try.prog 75 #[x0, y1] K w :=
  fn_call (args := [x0, y1]) (m := 15) hm Try.func75 (by kernel_rfl) (rs := Try.f75.results) rfl Try.ntmps75 s75_dst s75_ann (by rw [s75_den]; exact h)

/-! number 76 -/
def a76 : Ann :=
 (.q (.r [.plain 1]) (.q (.d [0, 0, 0, 0, 0, 0, 48, 112, 0, 0, 768, 1792, 4083, 8179, 16383, 32767] (.pur 0 (.pur 1 (.pur 2 (.pur 3 (.pur 4 (.pur 5 (.pur 6 (.pur 8 (.pur 9 (.pur 10 (.hld 7 (.hld 11 (.pur 12 (.act 13 (.pur 14 (.act 15 .fin))))))))))))))))) (.q (.r [.plain 6]) (.j [9] 9671406556917032860780032 (.b (.l [9, 10] 9671406556917032860780032 (.b (.j [9] 70368207307264 (.b (.l [9] 70368207307264 (.q (.j [43] 17591649173504 (.d [0, 0, 3, 7, 15, 15, 63, 127, 15, 15, 783, 1807, 4095, 8191, 16383] (.pur 0 (.pur 1 (.pur 2 (.pur 3 (.ite 3 (.pur 4 (.pur 5 (.pur 6 (.pur 8 (.pur 9 (.pur 10 (.hld 7 (.hld 11 (.act 12 (.pur 13 (.pur 14 .fin))))))))))) (.skp 4 (.skp 5 (.skp 6 (.skp 7 (.skp 8 (.skp 9 (.skp 10 (.skp 11 (.skp 12 (.skp 13 (.pur 14 .fin)))))))))))))))))
  (.c .s .s)) (.b (.r [.plain 3])))))
  (.j [10] 4611615649683211264 (.b (.l [10] 4611615649683211264 (.q (.j [59] 1152851135862669312 (.d [0, 0, 3, 7, 15, 15, 63, 127, 15, 15, 783, 1807, 4095, 8191] (.pur 0 (.pur 1 (.pur 2 (.pur 3 (.ite 3 (.pur 4 (.pur 5 (.pur 6 (.pur 8 (.pur 9 (.pur 10 (.hld 7 (.hld 11 (.act 12 (.pur 13 .fin)))))))))) (.skp 4 (.skp 5 (.skp 6 (.skp 7 (.skp 8 (.skp 9 (.skp 10 (.skp 11 (.skp 12 (.pur 13 .fin))))))))))))))))
  (.c .s .s)) (.b (.r [.plain 3])))))
  (.q (.q (.r [.plain 3]) (.c .s .s)) (.q (.d [0, 0, 0, 0, 0, 0, 48, 112, 0, 0, 768, 1792, 4083, 8179, 16383, 32767] (.pur 0 (.pur 1 (.pur 2 (.pur 3 (.pur 4 (.pur 5 (.pur 6 (.pur 8 (.pur 9 (.pur 10 (.hld 7 (.hld 11 (.pur 12 (.act 13 (.pur 14 (.act 15 .fin))))))))))))))))) (.q (.r [.plain 3]) (.r [.plain 3])))))))))
  (.q (.r [.plain 2]) .s)))))
def s76 (data0 a1 b2 pivot3 : Value) (K : Value → World → Prop) (w : World) : Prop :=
 DrawS fun S0 => S0 w.drew ∧ (
 PureS (indexAddrV 1 data0 pivot3) fun t17 =>
 PureS (indexAddrV 1 data0 a1) fun t21 =>
 HeldC S0 t17 (fun t18 =>
 HeldC S0 t21 (fun t22 =>
 PureS (indexAddrV 1 data0 a1) fun t23 =>
 StoreC t23 t18 (fun w =>
 PureS (indexAddrV 1 data0 pivot3) fun t24 =>
 StoreC t24 t22 (fun w =>
 PureS (binV .add a1 (Value.int .i64 1)) fun t26 =>
 PureS (binV .sub b2 (Value.int .i64 1)) fun t28 =>
 JoinS (fun (i9 : Value) (w : World) =>
 K i9 w
 ) fun J1 =>
 LoopS 2 (fun L2 (i9_1 j10 : Value) (w : World) =>
 JoinS (fun (i9_2 : Value) (w : World) =>
 JoinS (fun (j10_1 : Value) (w : World) =>
 PureS (binV .gtr i9_2 j10_1) fun t64 =>
 CondS t64 (
 J1 i9_2 w
 ) (
 DrawS fun S5 => S5 w.drew ∧ (
 PureS (indexAddrV 1 data0 j10_1) fun t71 =>
 PureS (indexAddrV 1 data0 i9_2) fun t75 =>
 HeldC S5 t71 (fun t72 =>
 HeldC S5 t75 (fun t76 =>
 PureS (indexAddrV 1 data0 i9_2) fun t77 =>
 StoreC t77 t72 (fun w =>
 PureS (indexAddrV 1 data0 j10_1) fun t78 =>
 StoreC t78 t76 (fun w =>
 PureS (binV .add i9_2 (Value.int .i64 1)) fun t80 =>
 PureS (binV .sub j10_1 (Value.int .i64 1)) fun t82 =>
 L2 t80 t82 w
 ) w
 ) w.drew
 )
 )
 )
 )
 ) fun J4 =>
 LoopS 1 (fun L6 (j10_2 : Value) (w : World) =>
 JoinS (fun (t59 : Value) (w : World) =>
 CondS t59 (
 PureS (binV .sub j10_2 (Value.int .i64 1)) fun t61 =>
 L6 t61 w
 ) (
 J4 j10_2 w
 )
 ) fun J7 =>
 DrawS fun S8 => S8 w.drew ∧ (
 PureS (binV .leq i9_2 j10_2) fun t48 =>
 CondS t48 (
 PureS (indexAddrV 1 data0 a1) fun t52 =>
 PureS (indexAddrV 1 data0 j10_2) fun t56 =>
 HeldC S8 t52 (fun t53 =>
 HeldC S8 t56 (fun t57 =>
 CallS Try.prog 75 [t53, t57].toArray (fun t58 w =>
 PureS (pickV (Value.bool true) t58 (Value.bool false)) fun t59_1 =>
 J7 t59_1 w
 ) w.drew
 )
 )
 ) (
 PureS (pickV (Value.bool false) undef (Value.bool false)) fun t59_2 =>
 J7 t59_2 w.drew
 )
 )
 ) j10 w
 ) fun J3 =>
 LoopS 1 (fun L9 (i9_3 : Value) (w : World) =>
 JoinS (fun (t43 : Value) (w : World) =>
 CondS t43 (
 PureS (binV .add i9_3 (Value.int .i64 1)) fun t45 =>
 L9 t45 w
 ) (
 J3 i9_3 w
 )
 ) fun J10 =>
 DrawS fun S11 => S11 w.drew ∧ (
 PureS (binV .leq i9_3 j10) fun t31 =>
 CondS t31 (
 PureS (indexAddrV 1 data0 a1) fun t35 =>
 PureS (indexAddrV 1 data0 i9_3) fun t39 =>
 HeldC S11 t35 (fun t36 =>
 HeldC S11 t39 (fun t40 =>
 CallS Try.prog 75 [t36, t40].toArray (fun t41 w =>
 PureS (notV t41) fun t42 =>
 PureS (pickV (Value.bool true) t42 (Value.bool false)) fun t43_1 =>
 J10 t43_1 w
 ) w.drew
 )
 )
 ) (
 PureS (pickV (Value.bool false) undef (Value.bool false)) fun t43_2 =>
 J10 t43_2 w.drew
 )
 )
 ) i9_1 w
 ) t26 t28 w
 ) w
 ) w.drew
 )
 )
 )
theorem s76_den (data0 a1 b2 pivot3 : Value) (K : Value → World → Prop) (w : World) : denFn Try.prog false (bodyOf Try.f76) Try.f76.results a76 [data0, a1, b2, pivot3] K NoP w = s76 data0 a1 b2 pivot3 K w := by kernel_rfl
theorem s76_dst : dstsOk (4 + 80) (bodyOf Try.f76) = true := by kernel_rfl
theorem s76_ann : annOk (bodyOf Try.f76) a76 = true := by kernel_rfl
theorem s76_call {data0 a1 b2 pivot3 : Value} {K : Value → World → Prop} {w : World} (hm : Try.prog.follows .mixedOrders = true) (h : s76 data0 a1 b2 pivot3 K w) : CallS Try.prog 76 #[data0, a1, b2, pivot3] K w :=
  fn_call (args := [data0, a1, b2, pivot3]) (m := 80) hm Try.func76 (by kernel_rfl) (rs := Try.f76.results) rfl Try.ntmps76 s76_dst s76_ann (by rw [s76_den]; exact h)

/-! number 77 -/
def a77 : Ann :=
 (.q (.r [.plain 2]) (.q (.d [0, 0, 0, 0, 0, 0, 48, 112, 0, 0, 768, 1792, 4083, 8179, 16383, 32767] (.pur 0 (.pur 1 (.pur 2 (.pur 3 (.pur 4 (.pur 5 (.pur 6 (.pur 8 (.pur 9 (.pur 10 (.hld 7 (.hld 11 (.pur 12 (.act 13 (.pur 14 (.act 15 .fin))))))))))))))))) (.q (.r [.plain 6]) (.j [10] 70367670436864 (.b (.l [10] 70367670436864 (.q (.j [43] 17591112302592 (.d [0, 0, 3, 7, 15, 15, 63, 127, 15, 15, 783, 1807, 4095, 8191] (.pur 0 (.pur 1 (.pur 2 (.pur 3 (.ite 3 (.pur 4 (.pur 5 (.pur 6 (.pur 8 (.pur 9 (.pur 10 (.hld 7 (.hld 11 (.act 12 (.pur 13 .fin)))))))))) (.skp 4 (.skp 5 (.skp 6 (.skp 7 (.skp 8 (.skp 9 (.skp 10 (.skp 11 (.skp 12 (.pur 13 .fin))))))))))))))))
  (.c .s .s)) (.b (.r [.plain 3])))))
  (.j [11] 9223301668110600192 (.b (.l [11] 9223301668110600192 (.q (.j [60] 2305772640469516288 (.d [0, 0, 3, 7, 15, 15, 63, 127, 15, 15, 783, 1807, 4095, 8191, 16383] (.pur 0 (.pur 1 (.pur 2 (.pur 3 (.ite 3 (.pur 4 (.pur 5 (.pur 6 (.pur 8 (.pur 9 (.pur 10 (.hld 7 (.hld 11 (.act 12 (.pur 13 (.pur 14 .fin))))))))))) (.skp 4 (.skp 5 (.skp 6 (.skp 7 (.skp 8 (.skp 9 (.skp 10 (.skp 11 (.skp 12 (.skp 13 (.pur 14 .fin)))))))))))))))))
  (.c .s .s)) (.b (.r [.plain 3])))))
  (.q (.q (.r [.plain 3]) (.c (.q (.d [0, 0, 0, 0, 0, 0, 48, 112, 0, 0, 768, 1792, 4083, 8179, 16383, 32767] (.pur 0 (.pur 1 (.pur 2 (.pur 3 (.pur 4 (.pur 5 (.pur 6 (.pur 8 (.pur 9 (.pur 10 (.hld 7 (.hld 11 (.pur 12 (.act 13 (.pur 14 (.act 15 .fin))))))))))))))))) (.q (.r [.plain 3]) .s)) .s)) (.q (.d [0, 0, 0, 0, 0, 0, 48, 112, 0, 0, 768, 1792, 4083, 8179, 16383, 32767] (.pur 0 (.pur 1 (.pur 2 (.pur 3 (.pur 4 (.pur 5 (.pur 6 (.pur 8 (.pur 9 (.pur 10 (.hld 7 (.hld 11 (.pur 12 (.act 13 (.pur 14 (.act 15 .fin))))))))))))))))) (.q (.r [.plain 3]) (.q (.r [.plain 3]) (.j [11] 11417981541647678414640987641481260342710373376 (.b (.l [10, 11] 11417981541647678414640987641481260342710373376 (.b (.j [10] 41537741042978506913543222282159104 (.b (.l [10] 41537741042978506913543222282159104 (.q (.j [112] 10383959891769541142360244306837504 (.d [0, 0, 3, 7, 15, 15, 63, 127, 15, 15, 783, 1807, 4095, 8191] (.pur 0 (.pur 1 (.pur 2 (.pur 3 (.ite 3 (.pur 4 (.pur 5 (.pur 6 (.pur 8 (.pur 9 (.pur 10 (.hld 7 (.hld 11 (.act 12 (.pur 13 .fin)))))))))) (.skp 4 (.skp 5 (.skp 6 (.skp 7 (.skp 8 (.skp 9 (.skp 10 (.skp 11 (.skp 12 (.pur 13 .fin))))))))))))))))
  (.c .s .s)) (.b (.r [.plain 3])))))
  (.j [11] 5444476332360147136792965474937657624576 (.b (.l [11] 5444476332360147136792965474937657624576 (.q (.j [129] 1361087929308885575232470185756439085056 (.d [0, 0, 3, 7, 15, 15, 63, 127, 15, 15, 783, 1807, 4095, 8191, 16383] (.pur 0 (.pur 1 (.pur 2 (.pur 3 (.ite 3 (.pur 4 (.pur 5 (.pur 6 (.pur 8 (.pur 9 (.pur 10 (.hld 7 (.hld 11 (.act 12 (.pur 13 (.pur 14 .fin))))))))))) (.skp 4 (.skp 5 (.skp 6 (.skp 7 (.skp 8 (.skp 9 (.skp 10 (.skp 11 (.skp 12 (.skp 13 (.pur 14 .fin)))))))))))))))))
  (.c .s .s)) (.b (.r [.plain 3])))))
  (.q (.q (.r [.plain 3]) (.c .s .s)) (.q (.d [0, 0, 0, 0, 0, 0, 48, 112, 0, 0, 768, 1792, 4083, 8179, 16383, 32767] (.pur 0 (.pur 1 (.pur 2 (.pur 3 (.pur 4 (.pur 5 (.pur 6 (.pur 8 (.pur 9 (.pur 10 (.hld 7 (.hld 11 (.pur 12 (.act 13 (.pur 14 (.act 15 .fin))))))))))))))))) (.q (.r [.plain 3]) (.r [.plain 3])))))))))
  (.q (.d [0, 0, 0, 0, 0, 0, 48, 112, 0, 0, 768, 1792, 4083, 8179, 16383, 32767] (.pur 0 (.pur 1 (.pur 2 (.pur 3 (.pur 4 (.pur 5 (.pur 6 (.pur 8 (.pur 9 (.pur 10 (.hld 7 (.hld 11 (.pur 12 (.act 13 (.pur 14 (.act 15 .fin))))))))))))))))) (.q (.r [.plain 3]) .s))))))))))))
def s77 (data0 a1 b2 pivot3 : Value) (K : Value → World → Prop) (w : World) : Prop :=
 DrawS fun S0 => S0 w.drew ∧ (
 PureS (indexAddrV 1 data0 pivot3) fun t18 =>
 PureS (indexAddrV 1 data0 a1) fun t22 =>
 HeldC S0 t18 (fun t19 =>
 HeldC S0 t22 (fun t23 =>
 PureS (indexAddrV 1 data0 a1) fun t24 =>
 StoreC t24 t19 (fun w =>
 PureS (indexAddrV 1 data0 pivot3) fun t25 =>
 StoreC t25 t23 (fun w =>
 PureS (binV .add a1 (Value.int .i64 1)) fun t27 =>
 PureS (binV .sub b2 (Value.int .i64 1)) fun t29 =>
 JoinS (fun (i10 : Value) (w : World) =>
 JoinS (fun (j11 : Value) (w : World) =>
 PureS (binV .gtr i10 j11) fun t65 =>
 CondS t65 (
 DrawS fun S3 => S3 w.drew ∧ (
 PureS (indexAddrV 1 data0 a1) fun t72 =>
 PureS (indexAddrV 1 data0 j11) fun t76 =>
 HeldC S3 t72 (fun t73 =>
 HeldC S3 t76 (fun t77 =>
 PureS (indexAddrV 1 data0 j11) fun t78 =>
 StoreC t78 t73 (fun w =>
 PureS (indexAddrV 1 data0 a1) fun t79 =>
 StoreC t79 t77 (fun w =>
 K (Value.tuple [j11, (Value.bool true)].toArray) w
 ) w
 ) w.drew
 )
 )
 )
 ) (
 DrawS fun S4 => S4 w.drew ∧ (
 PureS (indexAddrV 1 data0 j11) fun t87 =>
 PureS (indexAddrV 1 data0 i10) fun t91 =>
 HeldC S4 t87 (fun t88 =>
 HeldC S4 t91 (fun t92 =>
 PureS (indexAddrV 1 data0 i10) fun t93 =>
 StoreC t93 t88 (fun w =>
 PureS (indexAddrV 1 data0 j11) fun t94 =>
 StoreC t94 t92 (fun w =>
 PureS (binV .add i10 (Value.int .i64 1)) fun t96 =>
 PureS (binV .sub j11 (Value.int .i64 1)) fun t98 =>
 JoinS (fun (j11_1 : Value) (w : World) =>
 DrawS fun S6 => S6 w.drew ∧ (
 PureS (indexAddrV 1 data0 a1) fun t159 =>
 PureS (indexAddrV 1 data0 j11_1) fun t163 =>
 HeldC S6 t159 (fun t160 =>
 HeldC S6 t163 (fun t164 =>
 PureS (indexAddrV 1 data0 j11_1) fun t165 =>
 StoreC t165 t160 (fun w =>
 PureS (indexAddrV 1 data0 a1) fun t166 =>
 StoreC t166 t164 (fun w =>
 K (Value.tuple [j11_1, (Value.bool false)].toArray) w
 ) w
 ) w.drew
 )
 )
 )
 ) fun J5 =>
 LoopS 2 (fun L7 (i10_1 j11_2 : Value) (w : World) =>
 JoinS (fun (i10_2 : Value) (w : World) =>
 JoinS (fun (j11_3 : Value) (w : World) =>
 PureS (binV .gtr i10_2 j11_3) fun t134 =>
 CondS t134 (
 J5 j11_3 w
 ) (
 DrawS fun S10 => S10 w.drew ∧ (
 PureS (indexAddrV 1 data0 j11_3) fun t141 =>
 PureS (indexAddrV 1 data0 i10_2) fun t145 =>
 HeldC S10 t141 (fun t142 =>
 HeldC S10 t145 (fun t146 =>
 PureS (indexAddrV 1 data0 i10_2) fun t147 =>
 StoreC t147 t142 (fun w =>
 PureS (indexAddrV 1 data0 j11_3) fun t148 =>
 StoreC t148 t146 (fun w =>
 PureS (binV .add i10_2 (Value.int .i64 1)) fun t150 =>
 PureS (binV .sub j11_3 (Value.int .i64 1)) fun t152 =>
 L7 t150 t152 w
 ) w
 ) w.drew
 )
 )
 )
 )
 ) fun J9 =>
 LoopS 1 (fun L11 (j11_4 : Value) (w : World) =>
 JoinS (fun (t129 : Value) (w : World) =>
 CondS t129 (
 PureS (binV .sub j11_4 (Value.int .i64 1)) fun t131 =>
 L11 t131 w
 ) (
 J9 j11_4 w
 )
 ) fun J12 =>
 DrawS fun S13 => S13 w.drew ∧ (
 PureS (binV .leq i10_2 j11_4) fun t117 =>
 CondS t117 (
 PureS (indexAddrV 1 data0 j11_4) fun t121 =>
 PureS (indexAddrV 1 data0 a1) fun t125 =>
 HeldC S13 t121 (fun t122 =>
 HeldC S13 t125 (fun t126 =>
 CallS Try.prog 75 [t122, t126].toArray (fun t127 w =>
 PureS (notV t127) fun t128 =>
 PureS (pickV (Value.bool true) t128 (Value.bool false)) fun t129_1 =>
 J12 t129_1 w
 ) w.drew
 )
 )
 ) (
 PureS (pickV (Value.bool false) undef (Value.bool false)) fun t129_2 =>
 J12 t129_2 w.drew
 )
 )
 ) j11_2 w
 ) fun J8 =>
 LoopS 1 (fun L14 (i10_3 : Value) (w : World) =>
 JoinS (fun (t112 : Value) (w : World) =>
 CondS t112 (
 PureS (binV .add i10_3 (Value.int .i64 1)) fun t114 =>
 L14 t114 w
 ) (
 J8 i10_3 w
 )
 ) fun J15 =>
 DrawS fun S16 => S16 w.drew ∧ (
 PureS (binV .leq i10_3 j11_2) fun t101 =>
 CondS t101 (
 PureS (indexAddrV 1 data0 i10_3) fun t105 =>
 PureS (indexAddrV 1 data0 a1) fun t109 =>
 HeldC S16 t105 (fun t106 =>
 HeldC S16 t109 (fun t110 =>
 CallS Try.prog 75 [t106, t110].toArray (fun t111 w =>
 PureS (pickV (Value.bool true) t111 (Value.bool false)) fun t112_1 =>
 J15 t112_1 w
 ) w.drew
 )
 )
 ) (
 PureS (pickV (Value.bool false) undef (Value.bool false)) fun t112_2 =>
 J15 t112_2 w.drew
 )
 )
 ) i10_1 w
 ) t96 t98 w
 ) w
 ) w.drew
 )
 )
 )
 )
 ) fun J2 =>
 LoopS 1 (fun L17 (j11_5 : Value) (w : World) =>
 JoinS (fun (t60 : Value) (w : World) =>
 CondS t60 (
 PureS (binV .sub j11_5 (Value.int .i64 1)) fun t62 =>
 L17 t62 w
 ) (
 J2 j11_5 w
 )
 ) fun J18 =>
 DrawS fun S19 => S19 w.drew ∧ (
 PureS (binV .leq i10 j11_5) fun t48 =>
 CondS t48 (
 PureS (indexAddrV 1 data0 j11_5) fun t52 =>
 PureS (indexAddrV 1 data0 a1) fun t56 =>
 HeldC S19 t52 (fun t53 =>
 HeldC S19 t56 (fun t57 =>
 CallS Try.prog 75 [t53, t57].toArray (fun t58 w =>
 PureS (notV t58) fun t59 =>
 PureS (pickV (Value.bool true) t59 (Value.bool false)) fun t60_1 =>
 J18 t60_1 w
 ) w.drew
 )
 )
 ) (
 PureS (pickV (Value.bool false) undef (Value.bool false)) fun t60_2 =>
 J18 t60_2 w.drew
 )
 )
 ) t29 w
 ) fun J1 =>
 LoopS 1 (fun L20 (i10_4 : Value) (w : World) =>
 JoinS (fun (t43 : Value) (w : World) =>
 CondS t43 (
 PureS (binV .add i10_4 (Value.int .i64 1)) fun t45 =>
 L20 t45 w
 ) (
 J1 i10_4 w
 )
 ) fun J21 =>
 DrawS fun S22 => S22 w.drew ∧ (
 PureS (binV .leq i10_4 t29) fun t32 =>
 CondS t32 (
 PureS (indexAddrV 1 data0 i10_4) fun t36 =>
 PureS (indexAddrV 1 data0 a1) fun t40 =>
 HeldC S22 t36 (fun t37 =>
 HeldC S22 t40 (fun t41 =>
 CallS Try.prog 75 [t37, t41].toArray (fun t42 w =>
 PureS (pickV (Value.bool true) t42 (Value.bool false)) fun t43_1 =>
 J21 t43_1 w
 ) w.drew
 )
 )
 ) (
 PureS (pickV (Value.bool false) undef (Value.bool false)) fun t43_2 =>
 J21 t43_2 w.drew
 )
 )
 ) t27 w
 ) w
 ) w.drew
 )
 )
 )
theorem s77_den (data0 a1 b2 pivot3 : Value) (K : Value → World → Prop) (w : World) : denFn Try.prog false (bodyOf Try.f77) Try.f77.results a77 [data0, a1, b2, pivot3] K NoP w = s77 data0 a1 b2 pivot3 K w := by kernel_rfl
theorem s77_dst : dstsOk (4 + 164) (bodyOf Try.f77) = true := by kernel_rfl
theorem s77_ann : annOk (bodyOf Try.f77) a77 = true := by kernel_rfl
theorem s77_call {data0 a1 b2 pivot3 : Value} {K : Value → World → Prop} {w : World} (hm : Try.prog.follows .mixedOrders = true) (h : s77 data0 a1 b2 pivot3 K w) : CallS Try.prog 77 #[data0, a1, b2, pivot3] K w :=
  fn_call (args := [data0, a1, b2, pivot3]) (m := 164) hm Try.func77 (by kernel_rfl) (rs := Try.f77.results) rfl Try.ntmps77 s77_dst s77_ann (by rw [s77_den]; exact h)

/-! number 78 -/
def a78 : Ann :=
 (.q (.r [.plain 1]) (.j [0, 2] 125 (.q (.r [.plain 2]) (.c (.q (.r [.plain 3]) (.r [.plain 1])) .s))
  (.j [0, 2] 8069 (.q (.r [.plain 2]) (.c (.q (.r [.plain 3]) (.r [.plain 3])) .s))
  (.q (.r [.plain 7]) .s))))
def s78 (x0 : Value) (K : Value → World → Prop) (w : World) : Prop :=
 JoinS (fun (x0_1 n2 : Value) (w : World) =>
 JoinS (fun (x0_2 n2_1 : Value) (w : World) =>
 PureS (convIntV .u8 x0_2) fun t15 =>
 PureS (indexStrV (Value.string ⟨#[0, 1, 2, 2, 3, 3, 3, 3, 4, 4, 4, 4, 4, 4, 4, 4, 5, 5, 5, 5, 5, 5, 5, 5, 5, 5, 5, 5, 5, 5, 5, 5, 6, 6, 6, 6, 6, 6, 6, 6, 6, 6, 6, 6, 6, 6, 6, 6, 6, 6, 6, 6, 6, 6, 6, 6, 6, 6, 6, 6, 6, 6, 6, 6, 7, 7, 7, 7, 7, 7, 7, 7, 7, 7, 7, 7, 7, 7, 7, 7, 7, 7, 7, 7, 7, 7, 7, 7, 7, 7, 7, 7, 7, 7, 7, 7, 7, 7, 7, 7, 7, 7, 7, 7, 7, 7, 7, 7, 7, 7, 7, 7, 7, 7, 7, 7, 7, 7, 7, 7, 7, 7, 7, 7, 7, 7, 7, 7, 8, 8, 8, 8, 8, 8, 8, 8, 8, 8, 8, 8, 8, 8, 8, 8, 8, 8, 8, 8, 8, 8, 8, 8, 8, 8, 8, 8, 8, 8, 8, 8, 8, 8, 8, 8, 8, 8, 8, 8, 8, 8, 8, 8, 8, 8, 8, 8, 8, 8, 8, 8, 8, 8, 8, 8, 8, 8, 8, 8, 8, 8, 8, 8, 8, 8, 8, 8, 8, 8, 8, 8, 8, 8, 8, 8, 8, 8, 8, 8, 8, 8, 8, 8, 8, 8, 8, 8, 8, 8, 8, 8, 8, 8, 8, 8, 8, 8, 8, 8, 8, 8, 8, 8, 8, 8, 8, 8, 8, 8, 8, 8, 8, 8, 8, 8, 8, 8, 8, 8, 8, 8, 8, 8, 8, 8, 8, 8]⟩) t15) fun t16 =>
 PureS (convIntV .i64 t16) fun t17 =>
 PureS (binV .add n2_1 t17) fun t18 =>
 K t18 w
 ) fun J1 =>
 PureS (binV .geq x0_1 (Value.int .u32 256)) fun t8 =>
 CondS t8 (
 PureS (binV .shr x0_1 (Value.int .u64 8)) fun t10 =>
 PureS (binV .add n2 (Value.int .i64 8)) fun t12 =>
 J1 t10 t12 w
 ) (
 J1 x0_1 n2 w
 )
 ) fun J0 =>
 PureS (binV .geq x0 (Value.int .u32 65536)) fun t4 =>
 CondS t4 (
 PureS (binV .shr x0 (Value.int .u64 16)) fun t6 =>
 J0 t6 (Value.int .i64 16) w
 ) (
 J0 x0 (Value.int .i64 0) w
 )
theorem s78_den (x0 : Value) (K : Value → World → Prop) (w : World) : denFn Try.prog false (bodyOf Try.f78) Try.f78.results a78 [x0] K NoP w = s78 x0 K w := by kernel_rfl
theorem s78_dst : dstsOk (1 + 18) (bodyOf Try.f78) = true := by kernel_rfl
theorem s78_ann : annOk (bodyOf Try.f78) a78 = true := by kernel_rfl
theorem s78_call {x0 : Value} {K : Value → World → Prop} {w : World} (hm : Try.prog.follows .mixedOrders = true) (h : s78 x0 K w) : CallS Try.prog 78 #[x0] K w :=
  fn_call (args := [x0]) (m := 18) hm Try.func78 (by kernel_rfl) (rs := Try.f78.results) rfl Try.ntmps78 s78_dst s78_ann (by rw [s78_den]; exact h)

/-! number 79 -/
def a79 : Ann :=
 (.q (.r [.plain 1]) (.j [0, 2] 125 (.q (.r [.plain 2]) (.c (.q (.r [.plain 3]) (.r [.plain 1])) .s))
  (.j [0, 2] 8069 (.q (.r [.plain 2]) (.c (.q (.r [.plain 3]) (.r [.plain 3])) .s))
  (.j [0, 2] 516101 (.q (.r [.plain 2]) (.c (.q (.r [.plain 3]) (.r [.plain 3])) .s))
  (.q (.r [.plain 7]) .s)))))
def s79 (x0 : Value) (K : Value → World → Prop) (w : World) : Prop :=
 JoinS (fun (x0_1 n2 : Value) (w : World) =>
 JoinS (fun (x0_2 n2_1 : Value) (w : World) =>
 JoinS (fun (x0_3 n2_2 : Value) (w : World) =>
 PureS (convIntV .u8 x0_3) fun t21 =>
 PureS (indexStrV (Value.string ⟨#[0, 1, 2, 2, 3, 3, 3, 3, 4, 4, 4, 4, 4, 4, 4, 4, 5, 5, 5, 5, 5, 5, 5, 5, 5, 5, 5, 5, 5, 5, 5, 5, 6, 6, 6, 6, 6, 6, 6, 6, 6, 6, 6, 6, 6, 6, 6, 6, 6, 6, 6, 6, 6, 6, 6, 6, 6, 6, 6, 6, 6, 6, 6, 6, 7, 7, 7, 7, 7, 7, 7, 7, 7, 7, 7, 7, 7, 7, 7, 7, 7, 7, 7, 7, 7, 7, 7, 7, 7, 7, 7, 7, 7, 7, 7, 7, 7, 7, 7, 7, 7, 7, 7, 7, 7, 7, 7, 7, 7, 7, 7, 7, 7, 7, 7, 7, 7, 7, 7, 7, 7, 7, 7, 7, 7, 7, 7, 7, 8, 8, 8, 8, 8, 8, 8, 8, 8, 8, 8, 8, 8, 8, 8, 8, 8, 8, 8, 8, 8, 8, 8, 8, 8, 8, 8, 8, 8, 8, 8, 8, 8, 8, 8, 8, 8, 8, 8, 8, 8, 8, 8, 8, 8, 8, 8, 8, 8, 8, 8, 8, 8, 8, 8, 8, 8, 8, 8, 8, 8, 8, 8, 8, 8, 8, 8, 8, 8, 8, 8, 8, 8, 8, 8, 8, 8, 8, 8, 8, 8, 8, 8, 8, 8, 8, 8, 8, 8, 8, 8, 8, 8, 8, 8, 8, 8, 8, 8, 8, 8, 8, 8, 8, 8, 8, 8, 8, 8, 8, 8, 8, 8, 8, 8, 8, 8, 8, 8, 8, 8, 8, 8, 8, 8, 8, 8, 8]⟩) t21) fun t22 =>
 PureS (convIntV .i64 t22) fun t23 =>
 PureS (binV .add n2_2 t23) fun t24 =>
 K t24 w
 ) fun J2 =>
 PureS (binV .geq x0_2 (Value.int .u64 256)) fun t14 =>
 CondS t14 (
 PureS (binV .shr x0_2 (Value.int .u64 8)) fun t16 =>
 PureS (binV .add n2_1 (Value.int .i64 8)) fun t18 =>
 J2 t16 t18 w
 ) (
 J2 x0_2 n2_1 w
 )
 ) fun J1 =>
 PureS (binV .geq x0_1 (Value.int .u64 65536)) fun t8 =>
 CondS t8 (
 PureS (binV .shr x0_1 (Value.int .u64 16)) fun t10 =>
 PureS (binV .add n2 (Value.int .i64 16)) fun t12 =>
 J1 t10 t12 w
 ) (
 J1 x0_1 n2 w
 )
 ) fun J0 =>
 PureS (binV .geq x0 (Value.int .u64 4294967296)) fun t4 =>
 CondS t4 (
 PureS (binV .shr x0 (Value.int .u64 32)) fun t6 =>
 J0 t6 (Value.int .i64 32) w
 ) (
 J0 x0 (Value.int .i64 0) w
 )
theorem s79_den (x0 : Value) (K : Value → World → Prop) (w : World) : denFn Try.prog false (bodyOf Try.f79) Try.f79.results a79 [x0] K NoP w = s79 x0 K w := by kernel_rfl
theorem s79_dst : dstsOk (1 + 24) (bodyOf Try.f79) = true := by kernel_rfl
theorem s79_ann : annOk (bodyOf Try.f79) a79 = true := by kernel_rfl
theorem s79_call {x0 : Value} {K : Value → World → Prop} {w : World} (hm : Try.prog.follows .mixedOrders = true) (h : s79 x0 K w) : CallS Try.prog 79 #[x0] K w :=
  fn_call (args := [x0]) (m := 24) hm Try.func79 (by kernel_rfl) (rs := Try.f79.results) rfl Try.ntmps79 s79_dst s79_ann (by rw [s79_den]; exact h)
end Go.Proofs.Ythohdinjpkehpaa
/-! Laid out by a program of ours: what each function of the cut comes to, over named values; and that it is so. -/
namespace Go.Proofs.Ythohdinjpkehpaa
set_option linter.unusedVariables false
set_option maxRecDepth 100000
open Go SG

/-! number 82 -/
def a82 : Ann :=
 (.q (.r [.plain 2]) (.b (.l [8] 75557863725914323417856 (.b (.q (.r [.plain 4]) (.q (.q (.r [.plain 3]) (.c .s .s)) (.j [9] 549755683328 (.j [36] 137438822400 (.d [0, 1, 0, 7, 15, 31, 31, 31, 223, 511, 1023, 31, 31, 31, 12319, 28703, 63519, 129055, 262143, 524287] (.pur 0 (.pur 1 (.pur 2 (.pur 3 (.pur 4 (.ite 4 (.pur 5 (.pur 6 (.pur 7 (.pur 8 (.pur 9 (.pur 11 (.pur 12 (.pur 13 (.pur 14 (.pur 15 (.pur 16 (.hld 10 (.hld 17 (.act 18 (.pur 19 .fin))))))))))))))) (.skp 5 (.skp 6 (.skp 7 (.skp 8 (.skp 9 (.skp 10 (.skp 11 (.skp 12 (.skp 13 (.skp 14 (.skp 15 (.skp 16 (.skp 17 (.skp 18 (.pur 19 .fin))))))))))))))))))))))
  (.c (.r [.plain 3]) .s))
  (.q (.q (.d [0, 0, 0, 6, 15, 31, 0, 0, 0, 384, 960, 1984, 4095, 8191] (.pur 0 (.pur 1 (.pur 2 (.pur 3 (.pur 4 (.pur 6 (.pur 7 (.pur 8 (.pur 9 (.pur 10 (.hld 5 (.hld 11 (.act 12 (.pur 13 .fin))))))))))))))) (.c .s .s)) (.q (.d [0, 0, 0, 6, 0, 0, 0, 96, 0, 0, 0, 1536, 3840, 7936, 0, 0, 0, 98304, 245760, 507904, 1048335, 2096911, 4194303, 8388607] (.pur 0 (.pur 1 (.pur 2 (.pur 3 (.pur 4 (.pur 5 (.pur 6 (.pur 7 (.pur 8 (.pur 9 (.pur 10 (.pur 11 (.pur 12 (.pur 14 (.pur 15 (.pur 16 (.pur 17 (.pur 18 (.hld 13 (.hld 19 (.pur 20 (.act 21 (.pur 22 (.act 23 .fin))))))))))))))))))))))))) (.r [.plain 2]))))))))))
def s82 (data0 lo1 hi2 first3 : Value) (K : Value → World → Prop) (w : World) : Prop :=
 LoopS 1 (fun L0 (root8 : Value) (w : World) =>
 PureS (binV .mul (Value.int .i64 2) root8) fun t12 =>
 PureS (binV .add t12 (Value.int .i64 1)) fun t13 =>
 PureS (binV .geq t13 hi2) fun t16 =>
 CondS t16 (
 K (Value.tuple [].toArray) w
 ) (
 JoinS (fun (child9 : Value) (w : World) =>
 DrawS fun S2 => S2 w.drew ∧ (
 PureS (binV .add first3 root8) fun t42 =>
 PureS (indexAddrV 1 data0 t42) fun t43 =>
 PureS (binV .add first3 child9) fun t48 =>
 PureS (indexAddrV 1 data0 t48) fun t49 =>
 HeldC S2 t43 (fun t44 =>
 HeldC S2 t49 (fun t50 =>
 CallS Try.prog 75 [t44, t50].toArray (fun t51 w =>
 PureS (notV t51) fun t52 =>
 CondS t52 (
 K (Value.tuple [].toArray) w
 ) (
 DrawS fun S3 => S3 w.drew ∧ (
 PureS (binV .add first3 root8) fun t56 =>
 PureS (binV .add first3 child9) fun t60 =>
 PureS (binV .add first3 child9) fun t64 =>
 PureS (indexAddrV 1 data0 t64) fun t65 =>
 PureS (binV .add first3 root8) fun t70 =>
 PureS (indexAddrV 1 data0 t70) fun t71 =>
 HeldC S3 t65 (fun t66 =>
 HeldC S3 t71 (fun t72 =>
 PureS (indexAddrV 1 data0 t56) fun t73 =>
 StoreC t73 t66 (fun w =>
 PureS (indexAddrV 1 data0 t60) fun t74 =>
 StoreC t74 t72 (fun w =>
 L0 child9 w
 ) w
 ) w.drew
 )
 )
 )
 )
 ) w.drew
 )
 )
 )
 ) fun J1 =>
 JoinS (fun (t36 : Value) (w : World) =>
 CondS t36 (
 PureS (binV .add t13 (Value.int .i64 1)) fun t38 =>
 J1 t38 w
 ) (
 J1 t13 w
 )
 ) fun J4 =>
 DrawS fun S5 => S5 w.drew ∧ (
 PureS (binV .add t13 (Value.int .i64 1)) fun t18 =>
 PureS (binV .lss t18 hi2) fun t20 =>
 CondS t20 (
 PureS (binV .add first3 t13) fun t25 =>
 PureS (indexAddrV 1 data0 t25) fun t26 =>
 PureS (binV .add first3 t13) fun t31 =>
 PureS (binV .add t31 (Value.int .i64 1)) fun t32 =>
 PureS (indexAddrV 1 data0 t32) fun t33 =>
 HeldC S5 t26 (fun t27 =>
 HeldC S5 t33 (fun t34 =>
 CallS Try.prog 75 [t27, t34].toArray (fun t35 w =>
 PureS (pickV (Value.bool true) t35 (Value.bool false)) fun t36_1 =>
 J4 t36_1 w
 ) w.drew
 )
 )
 ) (
 PureS (pickV (Value.bool false) undef (Value.bool false)) fun t36_2 =>
 J4 t36_2 w.drew
 )
 )
 )
 ) lo1 w
theorem s82_den (data0 lo1 hi2 first3 : Value) (K : Value → World → Prop) (w : World) : denFn Try.prog false (bodyOf Try.f82) Try.f82.results a82 [data0, lo1, hi2, first3] K NoP w = s82 data0 lo1 hi2 first3 K w := by kernel_rfl
theorem s82_dst : dstsOk (4 + 72) (bodyOf Try.f82) = true := by kernel_rfl
theorem s82_ann : annOk (bodyOf Try.f82) a82 = true := by kernel_rfl
theorem s82_call {data0 lo1 hi2 first3 : Value} {K : Value → World → Prop} {w : World} (hm : Try.prog.follows .mixedOrders = true) (h : s82 data0 lo1 hi2 first3 K w) : CallS Try.prog 82 #[data0, lo1, hi2, first3] K w :=
  fn_call (args := [data0, lo1, hi2, first3]) (m := 72) hm Try.func82 (by kernel_rfl) (rs := Try.f82.results) rfl Try.ntmps82 s82_dst s82_ann (by rw [s82_den]; exact h)

/-! number 83 -/
def a83 : Ann :=
 (.q (.r [.plain 1]) (.q (.r [.plain 5]) .s))
def s83 (length0 : Value) (K : Value → World → Prop) (w : World) : Prop :=
 PureS (convIntV .u64 length0) fun t4 =>
 CallS Try.prog 64 [t4].toArray (fun t5 w =>
 PureS (binV .shl (Value.int .u64 1) t5) fun t6 =>
 K t6 w
 ) w
theorem s83_den (length0 : Value) (K : Value → World → Prop) (w : World) : denFn Try.prog false (bodyOf Try.f83) Try.f83.results a83 [length0] K NoP w = s83 length0 K w := by kernel_rfl
theorem s83_dst : dstsOk (1 + 6) (bodyOf Try.f83) = true := by kernel_rfl
theorem s83_ann : annOk (bodyOf Try.f83) a83 = true := by kernel_rfl
theorem s83_call {length0 : Value} {K : Value → World → Prop} {w : World} (hm : Try.prog.follows .mixedOrders = true) (h : s83 length0 K w) : CallS Try.prog 83 #[length0] K w :=
  fn_call (args := [length0]) (m := 6) hm Try.func83 (by kernel_rfl) (rs := Try.f83.results) rfl Try.ntmps83 s83_dst s83_ann (by rw [s83_den]; exact h)

/-! number 84 -/
def a84 : Ann :=
 (.q (.r [.plain 1]) (.q (.d [0, 1, 3, 0, 8, 24, 56, 127, 255, 511] (.pur 0 (.pur 1 (.pur 3 (.pur 4 (.hld 2 (.hld 5 (.pur 6 (.pur 7 (.pur 8 (.act 9 .fin))))))))))) (.q (.d [0, 1, 3, 0, 8, 24, 56, 127, 255, 511] (.pur 0 (.pur 1 (.pur 3 (.pur 4 (.hld 2 (.hld 5 (.pur 6 (.pur 7 (.pur 8 (.act 9 .fin))))))))))) (.q (.d [0, 1, 3, 0, 8, 24, 56, 127, 255, 511] (.pur 0 (.pur 1 (.pur 3 (.pur 4 (.hld 2 (.hld 5 (.pur 6 (.pur 7 (.pur 8 (.act 9 .fin))))))))))) (.q (.r [.plain 4]) .s)))))
def s84 (r0 : Value) (K : Value → World → Prop) (w : World) : Prop :=
 DrawS fun S0 => S0 w.drew ∧ (
 PureS (nilV r0) fun t4 =>
 PureS (nilV r0) fun t7 =>
 HeldC S0 t4 (fun t5 =>
 HeldC S0 t7 (fun t8 =>
 PureS (binV .shl t8 (Value.int .u64 13)) fun t9 =>
 PureS (binV .xor t5 t9) fun t10 =>
 PureS (nilV r0) fun t11 =>
 StoreC t11 t10 (fun w =>
 DrawS fun S1 => S1 w.drew ∧ (
 PureS (nilV r0) fun t13 =>
 PureS (nilV r0) fun t16 =>
 HeldC S1 t13 (fun t14 =>
 HeldC S1 t16 (fun t17 =>
 PureS (binV .shr t17 (Value.int .u64 7)) fun t18 =>
 PureS (binV .xor t14 t18) fun t19 =>
 PureS (nilV r0) fun t20 =>
 StoreC t20 t19 (fun w =>
 DrawS fun S2 => S2 w.drew ∧ (
 PureS (nilV r0) fun t22 =>
 PureS (nilV r0) fun t25 =>
 HeldC S2 t22 (fun t23 =>
 HeldC S2 t25 (fun t26 =>
 PureS (binV .shl t26 (Value.int .u64 17)) fun t27 =>
 PureS (binV .xor t23 t27) fun t28 =>
 PureS (nilV r0) fun t29 =>
 StoreC t29 t28 (fun w =>
 PureS (nilV r0) fun t31 =>
 LoadC t31 (fun t32 w =>
 K t32 w
 ) w
 ) w.drew
 )
 )
 )
 ) w.drew
 )
 )
 )
 ) w.drew
 )
 )
 )
theorem s84_den (r0 : Value) (K : Value → World → Prop) (w : World) : denFn Try.prog false (bodyOf Try.f84) Try.f84.results a84 [r0] K NoP w = s84 r0 K w := by kernel_rfl
theorem s84_dst : dstsOk (1 + 32) (bodyOf Try.f84) = true := by kernel_rfl
theorem s84_ann : annOk (bodyOf Try.f84) a84 = true := by kernel_rfl
theorem s84_call {r0 : Value} {K : Value → World → Prop} {w : World} (hm : Try.prog.follows .mixedOrders = true) (h : s84 r0 K w) : CallS Try.prog 84 #[r0] K w :=
  fn_call (args := [r0]) (m := 32) hm Try.func84 (by kernel_rfl) (rs := Try.f84.results) rfl Try.ntmps84 s84_dst s84_ann (by rw [s84_den]; exact h)

/-! number 85 -/
def a85 : Ann :=
 (.q (.r [.plain 1]) (.q (.r [.plain 9]) .s))
def s85 (data0 a1 swaps2 : Value) (K : Value → World → Prop) (w : World) : Prop :=
 PureS (binV .sub a1 (Value.int .i64 1)) fun t9 =>
 PureS (binV .add a1 (Value.int .i64 1)) fun t12 =>
 CallS Try.prog 86 [data0, t9, a1, t12, swaps2].toArray (fun t14 w =>
 K t14 w
 ) w
theorem s85_den (data0 a1 swaps2 : Value) (K : Value → World → Prop) (w : World) : denFn Try.prog false (bodyOf Try.f85) Try.f85.results a85 [data0, a1, swaps2] K NoP w = s85 data0 a1 swaps2 K w := by kernel_rfl
theorem s85_dst : dstsOk (3 + 12) (bodyOf Try.f85) = true := by kernel_rfl
theorem s85_ann : annOk (bodyOf Try.f85) a85 = true := by kernel_rfl
theorem s85_call {data0 a1 swaps2 : Value} {K : Value → World → Prop} {w : World} (hm : Try.prog.follows .mixedOrders = true) (h : s85 data0 a1 swaps2 K w) : CallS Try.prog 85 #[data0, a1, swaps2] K w :=
  fn_call (args := [data0, a1, swaps2]) (m := 12) hm Try.func85 (by kernel_rfl) (rs := Try.f85.results) rfl Try.ntmps85 s85_dst s85_ann (by rw [s85_den]; exact h)

/-! number 86 -/
def a86 : Ann :=
 (.q (.r [.plain 1]) (.q (.r [.plain 10]) (.q (.r [.plain 10]) (.q (.r [.plain 10]) (.q (.r [.plain 2]) .s)))))
def s86 (data0 a1 b2 c3 swaps4 : Value) (K : Value → World → Prop) (w : World) : Prop :=
 CallS Try.prog 88 [data0, a1, b2, swaps4].toArray (fun t16 w =>
 PureS (extractV 0 t16) fun t17 =>
 PureS (extractV 1 t16) fun t18 =>
 CallS Try.prog 88 [data0, t18, c3, swaps4].toArray (fun t24 w =>
 PureS (extractV 0 t24) fun t25 =>
 PureS (extractV 1 t24) fun t26 =>
 CallS Try.prog 88 [data0, t17, t25, swaps4].toArray (fun t32 w =>
 PureS (extractV 0 t32) fun t33 =>
 PureS (extractV 1 t32) fun t34 =>
 K t34 w
 ) w
 ) w
 ) w
theorem s86_den (data0 a1 b2 c3 swaps4 : Value) (K : Value → World → Prop) (w : World) : denFn Try.prog false (bodyOf Try.f86) Try.f86.results a86 [data0, a1, b2, c3, swaps4] K NoP w = s86 data0 a1 b2 c3 swaps4 K w := by kernel_rfl
theorem s86_dst : dstsOk (5 + 31) (bodyOf Try.f86) = true := by kernel_rfl
theorem s86_ann : annOk (bodyOf Try.f86) a86 = true := by kernel_rfl
theorem s86_call {data0 a1 b2 c3 swaps4 : Value} {K : Value → World → Prop} {w : World} (hm : Try.prog.follows .mixedOrders = true) (h : s86 data0 a1 b2 c3 swaps4 K w) : CallS Try.prog 86 #[data0, a1, b2, c3, swaps4] K w :=
  fn_call (args := [data0, a1, b2, c3, swaps4]) (m := 31) hm Try.func86 (by kernel_rfl) (rs := Try.f86.results) rfl Try.ntmps86 s86_dst s86_ann (by rw [s86_den]; exact h)

/-! number 87 -/
def a87 : Ann :=
 (.q (.r [.plain 1]) (.q (.r [.plain 4]) .s))
def s87 (x0 : Value) (K : Value → World → Prop) (w : World) : Prop :=
 PureS (binV .neq x0 x0) fun t5 =>
 K t5 w
theorem s87_den (x0 : Value) (K : Value → World → Prop) (w : World) : denFn Try.prog false (bodyOf Try.f87) Try.f87.results a87 [x0] K NoP w = s87 x0 K w := by kernel_rfl
theorem s87_dst : dstsOk (1 + 5) (bodyOf Try.f87) = true := by kernel_rfl
theorem s87_ann : annOk (bodyOf Try.f87) a87 = true := by kernel_rfl
theorem s87_call {x0 : Value} {K : Value → World → Prop} {w : World} (hm : Try.prog.follows .mixedOrders = true) (h : s87 x0 K w) : CallS Try.prog 87 #[x0] K w :=
  fn_call (args := [x0]) (m := 5) hm Try.func87 (by kernel_rfl) (rs := Try.f87.results) rfl Try.ntmps87 s87_dst s87_ann (by rw [s87_den]; exact h)

/-! number 88 -/
def a88 : Ann :=
 (.q (.r [.plain 2]) (.q (.q (.d [0, 0, 3, 7, 0, 0, 48, 112, 255] (.pur 0 (.pur 1 (.pur 2 (.pur 4 (.pur 5 (.pur 6 (.hld 3 (.hld 7 (.act 8 .fin)))))))))) (.c (.q (.r [.plain 6]) (.q (.r [.plain 4]) .s)) .s)) (.q (.r [.plain 4]) .s)))
def s88 (data0 a1 b2 swaps3 : Value) (K : Value → World → Prop) (w : World) : Prop :=
 DrawS fun S0 => S0 w.drew ∧ (
 PureS (indexAddrV 1 data0 b2) fun t12 =>
 PureS (indexAddrV 1 data0 a1) fun t16 =>
 HeldC S0 t12 (fun t13 =>
 HeldC S0 t16 (fun t17 =>
 CallS Try.prog 75 [t13, t17].toArray (fun t18 w =>
 CondS t18 (
 PureS (nilV swaps3) fun t20 =>
 LoadC t20 (fun t21 w =>
 PureS (binV .add t21 (Value.int .i64 1)) fun t22 =>
 PureS (nilV swaps3) fun t23 =>
 StoreC t23 t22 (fun w =>
 K (Value.tuple [b2, a1].toArray) w
 ) w
 ) w
 ) (
 K (Value.tuple [a1, b2].toArray) w
 )
 ) w.drew
 )
 )
 )
theorem s88_den (data0 a1 b2 swaps3 : Value) (K : Value → World → Prop) (w : World) : denFn Try.prog false (bodyOf Try.f88) Try.f88.results a88 [data0, a1, b2, swaps3] K NoP w = s88 data0 a1 b2 swaps3 K w := by kernel_rfl
theorem s88_dst : dstsOk (4 + 24) (bodyOf Try.f88) = true := by kernel_rfl
theorem s88_ann : annOk (bodyOf Try.f88) a88 = true := by kernel_rfl
theorem s88_call {data0 a1 b2 swaps3 : Value} {K : Value → World → Prop} {w : World} (hm : Try.prog.follows .mixedOrders = true) (h : s88 data0 a1 b2 swaps3 K w) : CallS Try.prog 88 #[data0, a1, b2, swaps3] K w :=
  fn_call (args := [data0, a1, b2, swaps3]) (m := 24) hm Try.func88 (by kernel_rfl) (rs := Try.f88.results) rfl Try.ntmps88 s88_dst s88_ann (by rw [s88_den]; exact h)
end Go.Proofs.Ythohdinjpkehpaa
/-! Disks: the start. -/
namespace Go.Proofs.Ythohdinjpkehpaa
open Go SG Go.RowKit Go.Lib
set_option linter.unusedVariables false
set_option maxRecDepth 4000

theorem hm : Try.prog.follows .mixedOrders = true := Checked.mixed Try.checked
end Go.Proofs.Ythohdinjpkehpaa
/-! Rules for sorting in place: swaps, order. No program stands here. -/
namespace SG
open Go Go.RowKit Go.Lib
set_option linter.unusedSimpArgs false
set_option linter.unusedVariables false

section
variable {β : Type}
def swp (xs : List β) (i j : Nat) : List β := match xs[i]?, xs[j]? with
  | some u, some v => (xs.set i v).set j u
  | _, _ => xs
theorem swp_length (xs : List β) (i j : Nat) : (swp xs i j).length = xs.length := by
  unfold swp
  split <;> simp
theorem swp_get {xs : List β} {i j : Nat} (hi : i < xs.length) (hj : j < xs.length) (k : Nat) : (swp xs i j)[k]? = if k = j then xs[i]? else if k = i then xs[j]? else xs[k]? := by
  have h1 : xs[i]? = some xs[i] := List.getElem?_eq_getElem hi
  have h2 : xs[j]? = some xs[j] := List.getElem?_eq_getElem hj
  unfold swp
  rw [h1, h2]
  simp only
  rw [List.getElem?_set]
  by_cases hkj : k = j
  · subst hkj
    rw [if_pos rfl, if_pos rfl, if_pos (by simpa using hj)]
  · rw [if_neg (Ne.symm hkj), if_neg hkj, List.getElem?_set]
    by_cases hki : k = i
    · subst hki
      rw [if_pos rfl, if_pos rfl, if_pos hi]
    · rw [if_neg (Ne.symm hki), if_neg hki]
theorem swp_perm (xs : List β) (i j : Nat) : (swp xs i j).Perm xs := by
  classical
  unfold swp
  split
  · rename_i u v hu hv
    rw [List.perm_iff_count]
    intro a
    have hi := (List.getElem?_eq_some_iff.1 hu).1
    have hj := (List.getElem?_eq_some_iff.1 hv).1
    have eu := (List.getElem?_eq_some_iff.1 hu).2
    have ev := (List.getElem?_eq_some_iff.1 hv).2
    rw [List.count_set (by simpa using hj), List.count_set hi]
    have hgj : (xs.set i v)[j]'(by simpa using hj) = v := by
      by_cases hij : i = j
      · subst hij; simp
      · rw [List.getElem_set_ne hij]; exact ev
    rw [hgj, eu]
    by_cases h1 : u = a <;> by_cases h2 : v = a <;> simp [h1, h2]
    · subst h1
      have : 0 < List.count u xs := List.count_pos_iff.2 (List.mem_of_getElem? hu)
      omega
    · subst h1
      have : 0 < List.count u xs := List.count_pos_iff.2 (List.mem_of_getElem? hu)
      omega
  · exact List.Perm.refl _
/-- swaps within [a, b) -/
inductive Sw (a b : Nat) (xs : List β) : List β → Prop
  | refl : Sw a b xs xs
  | step {ys : List β} (i j : Nat) : a ≤ i → i < b → a ≤ j → j < b → b ≤ xs.length → Sw a b xs ys → Sw a b xs (swp ys i j)
namespace Sw
variable {a b : Nat} {xs ys zs : List β}
theorem len (h : Sw a b xs ys) : ys.length = xs.length := by
  induction h with
  | refl => rfl
  | step i j _ _ _ _ _ _ ih => rw [swp_length, ih]
theorem trans (h : Sw a b xs ys) (k : Sw a b ys zs) : Sw a b xs zs := by
  induction k with
  | refl => exact h
  | step i j h1 h2 h3 h4 h5 _ ih => exact .step i j h1 h2 h3 h4 (by rw [h.len] at h5; exact h5) ih
theorem mono {a' b' : Nat} (h : Sw a b xs ys) (ha : a' ≤ a) (hb : b ≤ b') (hl : b' ≤ xs.length) : Sw a' b' xs ys := by
  induction h with
  | refl => exact .refl
  | step i j h1 h2 h3 h4 _ _ ih => exact .step i j (by omega) (by omega) (by omega) (by omega) hl ih
theorem out (h : Sw a b xs ys) {k : Nat} (hk : k < a ∨ b ≤ k) : ys[k]? = xs[k]? := by
  induction h with
  | refl => rfl
  | step i j h1 h2 h3 h4 h5 h6 ih =>
    have := h6.len
    rw [swp_get (by omega) (by omega), if_neg (by omega), if_neg (by omega), ih]
theorem perm (h : Sw a b xs ys) : ys.Perm xs := by
  induction h with
  | refl => exact List.Perm.refl _
  | step i j _ _ _ _ _ _ ih => exact (swp_perm _ _ _).trans ih
/-- what holds of all that lies within goes on to hold -/
theorem all {P : β → Prop} (h : Sw a b xs ys) (hP : ∀ k u, a ≤ k → k < b → xs[k]? = some u → P u) : ∀ k u, a ≤ k → k < b → ys[k]? = some u → P u := by
  induction h with
  | refl => exact hP
  | step i j h1 h2 h3 h4 h5 h6 ih =>
    intro k u hk1 hk2 hu
    have := h6.len
    rw [swp_get (by omega) (by omega)] at hu
    split at hu
    · exact ih i u h1 h2 hu
    · split at hu
      · exact ih j u h3 h4 hu
      · exact ih k u hk1 hk2 hu
theorem one {i j : Nat} (h1 : a ≤ i) (h2 : i < b) (h3 : a ≤ j) (h4 : j < b) (h5 : b ≤ xs.length) : Sw a b xs (swp xs i j) := .step i j h1 h2 h3 h4 h5 .refl
end Sw

structure Lin (lt : β → β → Bool) : Prop where
  irr : ∀ x, lt x x = false
  tr : ∀ x y z, lt x y = true → lt y z = true → lt x z = true
  tri : ∀ x y, lt x y = false → lt y x = false → x = y
namespace Lin
variable {lt : β → β → Bool}
theorem asym (h : Lin lt) {x y : β} (hxy : lt x y = true) : lt y x = false := by
  cases hyx : lt y x with
  | false => rfl
  | true => have := h.tr _ _ _ hxy hyx; rw [h.irr] at this; cases this
/-- 'not above' carries on -/
theorem le_tr (h : Lin lt) {x y z : β} (h1 : lt y x = false) (h2 : lt z y = false) : lt z x = false := by
  cases hzx : lt z x with
  | false => rfl
  | true =>
    cases hxy : lt x y with
    | true => have := h.tr _ _ _ hzx hxy; rw [h2] at this; cases this
    | false =>
      have := h.tri x y hxy h1
      subst this
      rw [h2] at hzx; cases hzx
theorem le_total (h : Lin lt) (x y : β) : lt x y = false ∨ lt y x = false := by
  cases hxy : lt x y with
  | false => exact .inl rfl
  | true => exact .inr (h.asym hxy)
theorem le_lt (h : Lin lt) {x y z : β} (h1 : lt y x = false) (h2 : lt y z = true) : lt x z = true := by
  cases hxz : lt x z with
  | true => rfl
  | false => have := h.le_tr hxz h1; rw [h2] at this; cases this
theorem lt_le (h : Lin lt) {x y z : β} (h1 : lt x y = true) (h2 : lt z y = false) : lt x z = true := by
  cases hxz : lt x z with
  | true => rfl
  | false => have := h.le_tr h2 hxz; rw [h1] at this; cases this
end Lin
/-- in order between a and b -/
def Srt (lt : β → β → Bool) (a b : Nat) (xs : List β) : Prop := ∀ i j u v, a ≤ i → i < j → j < b → xs[i]? = some u → xs[j]? = some v → lt v u = false
/-- all of [a, b) is not above all of [c, d) -/
def LeAll (lt : β → β → Bool) (a b c d : Nat) (xs : List β) : Prop := ∀ i j u v, a ≤ i → i < b → c ≤ j → j < d → xs[i]? = some u → xs[j]? = some v → lt v u = false
theorem Srt.nil {lt : β → β → Bool} {a b : Nat} {xs : List β} (h : b ≤ a + 1) : Srt lt a b xs := fun i j u v h1 h2 h3 => by omega
theorem Srt.adj {lt : β → β → Bool} (hl : Lin lt) {a b : Nat} {xs : List β} (hb : b ≤ xs.length) (h : ∀ i u v, a ≤ i → i + 1 < b → xs[i]? = some u → xs[i + 1]? = some v → lt v u = false) : Srt lt a b xs := by
  intro i j u v h1 h2 h3 hu hv
  induction j generalizing v with
  | zero => omega
  | succ j ih =>
    by_cases hij : i = j
    · subst hij; exact h i u v h1 h3 hu hv
    · obtain ⟨x, hx⟩ : ∃ x, xs[j]? = some x := ⟨_, List.getElem?_eq_getElem (by omega)⟩
      exact hl.le_tr (ih x (by omega) (by omega) hx) (h j x v (by omega) h3 hx hv)
theorem Srt.same {lt : β → β → Bool} {a b : Nat} {xs ys : List β} (h : Srt lt a b xs) (hs : ∀ k, a ≤ k → k < b → ys[k]? = xs[k]?) : Srt lt a b ys := fun i j u v h1 h2 h3 hu hv =>
  h i j u v h1 h2 h3 (by rw [← hs i h1 (by omega)]; exact hu) (by rw [← hs j (by omega) h3]; exact hv)
/-- two parts in order, the one not above the other -/
theorem Srt.join {lt : β → β → Bool} {a m b : Nat} {xs : List β} (h1 : Srt lt a m xs) (h2 : Srt lt m b xs) (h3 : LeAll lt a m m b xs) : Srt lt a b xs := fun i j u v k1 k2 k3 hu hv => by
  by_cases hj : j < m
  · exact h1 i j u v k1 k2 hj hu hv
  · by_cases hi : i < m
    · exact h3 i j u v k1 hi (by omega) k3 hu hv
    · exact h2 i j u v (by omega) k2 k3 hu hv
theorem LeAll.same {lt : β → β → Bool} {a b c d : Nat} {xs ys : List β} (h : LeAll lt a b c d xs) (h1 : ∀ k, a ≤ k → k < b → ys[k]? = xs[k]?) (h2 : ∀ k, c ≤ k → k < d → ys[k]? = xs[k]?) : LeAll lt a b c d ys := fun i j u v k1 k2 k3 k4 hu hv =>
  h i j u v k1 k2 k3 k4 (by rw [← h1 i k1 k2]; exact hu) (by rw [← h2 j k3 k4]; exact hv)
/-- swaps within the right part -/
theorem LeAll.right {lt : β → β → Bool} {a b c d : Nat} {xs ys : List β} (h : LeAll lt a b c d xs) (hs : Sw c d xs ys) (hbc : b ≤ c ∨ d ≤ a) : LeAll lt a b c d ys := fun i j u v k1 k2 k3 k4 hu hv => by
  rw [hs.out (by omega)] at hu
  exact hs.all (P := fun v => lt v u = false) (fun k w hk1 hk2 hw => h i k u w k1 k2 hk1 hk2 hu hw) j v k3 k4 hv
theorem LeAll.left {lt : β → β → Bool} {a b c d : Nat} {xs ys : List β} (h : LeAll lt a b c d xs) (hs : Sw a b xs ys) (hbc : b ≤ c ∨ d ≤ a) : LeAll lt a b c d ys := fun i j u v k1 k2 k3 k4 hu hv => by
  rw [hs.out (by omega)] at hv
  exact hs.all (P := fun u => lt v u = false) (fun k w hk1 hk2 hw => h k j w v hk1 hk2 k3 k4 hw hv) i u k1 k2 hu
/-- lists in strict or equal order -/
def Asc (lt : β → β → Bool) (xs : List β) : Prop := xs.Pairwise fun u v => lt v u = false
theorem Srt.asc {lt : β → β → Bool} {xs : List β} (h : Srt lt 0 xs.length xs) : Asc lt xs := by
  unfold Asc
  rw [List.pairwise_iff_getElem]
  intro i j hi hj hij
  exact h i j _ _ (by omega) hij hj (List.getElem?_eq_getElem hi) (List.getElem?_eq_getElem hj)
theorem Asc.unique {lt : β → β → Bool} (hl : Lin lt) {xs ys : List β} (h1 : Asc lt xs) (h2 : Asc lt ys) (hp : xs.Perm ys) : xs = ys :=
  List.Perm.eq_of_pairwise (fun u v _ _ h k => hl.tri u v k h) h1 h2 hp
end
end SG
/-! Rules for sorting in place: a row of elements in memory. No program stands here. -/
namespace SG
open Go Go.RowKit Go.Lib
set_option linter.unusedSimpArgs false
set_option linter.unusedVariables false

section
variable {β : Type}
/-- where the row lies: block, type, what lies before and behind it; how an element is written; how many there are -/
structure Lcn (β : Type) where
  g : Nat
  t : TypeId
  pre : List Value
  post : List Value
  enc : β → Value
  n : Nat
  cap : Nat
  one : ∀ x, (enc x).oneCell' = true
  big : n ≤ 4611686018427387904
def Lcn.v (L : Lcn β) : Value := .slice (some ⟨L.g, L.pre.length, none⟩) L.n L.cap
structure Dt (L : Lcn β) (w : World) (xs : List β) : Prop where
  blk : Blk w L.g L.t (L.pre ++ xs.map L.enc ++ L.post)
  len : xs.length = L.n
namespace Dt
variable {L : Lcn β} {w w' : World} {xs : List β} {S : Nat → Prop}
theorem ext (h : Dt L w xs) (e : Ext S w w') (hn : ¬ S L.g) : Dt L w' xs := ⟨h.blk.ext e hn, h.len⟩
theorem no (h : Dt L w xs) (e : Ext No w w') : Dt L w' xs := h.ext e fun h => h
theorem drew (h : Dt L w xs) : Dt L w.drew xs := h.no (Ext.drew w)
theorem idx (h : Dt L w xs) {i : Nat} (hi : i < L.n) : indexAddrV 1 L.v (.int .i64 (i : Int)) = some (.pointer (some ⟨L.g, L.pre.length + i, none⟩)) := by
  unfold Lcn.v
  rw [index_sl ⟨by omega, by omega⟩, Addr.add_mk]
  simp
theorem cell (h : Dt L w xs) {i : Nat} {x : β} (hx : xs[i]? = some x) : w.cell? ⟨L.g, L.pre.length + i, none⟩ = some (L.enc x) := by
  have hi : i < xs.length := (List.getElem?_eq_some_iff.1 hx).1
  rw [h.blk.cell, List.append_assoc, List.getElem?_append_right (by omega), show L.pre.length + i - L.pre.length = i by omega, List.getElem?_append_left (by simpa using hi)]
  simp [hx]
theorem store (h : Dt L w xs) {i : Nat} {x : β} (hi : i < L.n) {K : World → Prop} (hK : ∀ w', Dt L w' (xs.set i x) → Ext (At1 L.g) w w' → w'.heap.size = w.heap.size → K w') : StoreC (.pointer (some ⟨L.g, L.pre.length + i, none⟩)) (L.enc x) K w := by
  have hl := h.len
  refine storeB h.blk (by simp; omega) (L.one x) fun w' b e z => hK w' ⟨?_, by simpa using hl⟩ e z
  have : (L.pre ++ xs.map L.enc ++ L.post).set (L.pre.length + i) (L.enc x) = L.pre ++ (xs.set i x).map L.enc ++ L.post := by
    rw [List.append_assoc, List.set_append_right _ _ (by omega), show L.pre.length + i - L.pre.length = i by omega, List.set_append_left _ _ (by simpa using (by omega : i < xs.length)), List.map_set, ← List.append_assoc]
  rw [this] at b
  exact b
/-- two elements change places -/
theorem swap (h : Dt L w xs) {i j : Nat} {u v : β} (hu : xs[i]? = some u) (hv : xs[j]? = some v) {K : World → Prop} (hK : ∀ w', Dt L w' (swp xs i j) → Ext (At1 L.g) w w' → K w') :
    PureS (indexAddrV 1 L.v (.int .i64 (i : Int))) fun t => StoreC t (L.enc v) (fun w => PureS (indexAddrV 1 L.v (.int .i64 (j : Int))) fun t => StoreC t (L.enc u) K w) w := by
  have hi := (List.getElem?_eq_some_iff.1 hu).1
  have hj := (List.getElem?_eq_some_iff.1 hv).1
  have hl := h.len
  refine pur (h.idx (by omega)) (h.store (by omega) fun w1 h1 e1 z1 => pur (h1.idx (by omega)) (h1.store (by omega) fun w2 h2 e2 z2 => hK w2 ?_ (e1.trans e2)))
  have : swp xs i j = (xs.set i v).set j u := by unfold swp; rw [hu, hv]
  rw [this]; exact h2
end Dt
theorem getN {xs : List β} {i : Nat} (h : i < xs.length) : ∃ x, xs[i]? = some x := ⟨_, List.getElem?_eq_getElem h⟩
end
end SG
/-! Disks: the texts that are put in order. -/
namespace Go.Proofs.Ythohdinjpkehpaa
open Go SG Go.RowKit Go.Lib
set_option linter.unusedVariables false
set_option maxRecDepth 4000

/-- a text is its bytes -/
abbrev El := List UInt8
def encE (x : El) : Value := .string ⟨x.toArray⟩
theorem str_toList (x : El) : (⟨x.toArray⟩ : ByteArray).toList = x := by rw [ByteArray.toList_eq]
theorem encE_of (s : ByteArray) : Value.string s = encE s.data.toList := by unfold encE; rw [Lib.mk_data]
theorem encE_inj {x y : El} (h : encE x = encE y) : x = y := by
  have h1 : (⟨x.toArray⟩ : ByteArray) = ⟨y.toArray⟩ := Value.string.inj h
  rw [← str_toList x, h1, str_toList]
def ltE (x y : El) : Bool := Op.bytesLess x y
theorem lt_irr : ∀ (x : El), ltE x x = false
  | [] => rfl
  | a :: x => by
    have := lt_irr x
    unfold ltE at this ⊢
    simp [Op.bytesLess, this]
theorem lt_cons (a b : UInt8) (x y : El) : ltE (a :: x) (b :: y) = true ↔ a < b ∨ a = b ∧ ltE x y = true := by
  unfold ltE; simp [Op.bytesLess]
theorem lt_trans : ∀ {x y z : El}, ltE x y = true → ltE y z = true → ltE x z = true
  | _, [], _, h, _ => by unfold ltE at h; cases ‹El› <;> simp [Op.bytesLess] at h
  | _, _ :: _, [], _, h => by unfold ltE at h; simp [Op.bytesLess] at h
  | [], _ :: _, _ :: _, _, _ => rfl
  | a :: x, b :: y, c :: z, h, k => by
    rw [lt_cons] at h k ⊢
    rcases h with h | ⟨rfl, h⟩
    · rcases k with k | ⟨rfl, k⟩
      · exact .inl (UInt8.lt_trans h k)
      · exact .inl h
    · rcases k with k | ⟨rfl, k⟩
      · exact .inl k
      · exact .inr ⟨rfl, lt_trans h k⟩
theorem lt_tot : ∀ {x y : El}, ltE x y = false → ltE y x = false → x = y
  | [], [], _, _ => rfl
  | [], _ :: _, h, _ => by unfold ltE at h; simp [Op.bytesLess] at h
  | _ :: _, [], _, h => by unfold ltE at h; simp [Op.bytesLess] at h
  | a :: x, b :: y, h, k => by
    have h' : ¬ (a < b ∨ a = b ∧ ltE x y = true) := fun hh => by rw [(lt_cons a b x y).2 hh] at h; cases h
    have k' : ¬ (b < a ∨ b = a ∧ ltE y x = true) := fun hh => by rw [(lt_cons b a y x).2 hh] at k; cases k
    have hab : a = b := by
      rcases Nat.lt_trichotomy a.toNat b.toNat with hh | hh | hh
      · exact absurd (.inl (UInt8.lt_iff_toNat_lt.2 hh)) h'
      · exact UInt8.toNat_inj.1 hh
      · exact absurd (.inl (UInt8.lt_iff_toNat_lt.2 hh)) k'
    subst hab
    have h1 : ltE x y = false := by cases hh : ltE x y with | false => rfl | true => exact absurd (.inr ⟨rfl, hh⟩) h'
    have h2 : ltE y x = false := by cases hh : ltE y x with | false => rfl | true => exact absurd (.inr ⟨rfl, hh⟩) k'
    rw [lt_tot h1 h2]
theorem linE : Lin ltE := ⟨lt_irr, fun x y z => lt_trans, fun x y => lt_tot⟩
theorem eqE (x y : El) : binV .eql (encE x) (encE y) = some (.bool (decide (x = y))) := by
  refine (str_eql _ _).trans ?_
  rw [str_toList, str_toList]
  congr 2
  rw [Bool.eq_iff_iff, decide_eq_true_iff]; exact beq_iff_eq
theorem neE (x y : El) : binV .neq (encE x) (encE y) = some (.bool (!decide (x = y))) := by
  refine (str_neq _ _).trans ?_
  rw [str_toList, str_toList]
  congr 3
  rw [Bool.eq_iff_iff, decide_eq_true_iff]; exact beq_iff_eq
theorem lsE (x y : El) : binV .lss (encE x) (encE y) = some (.bool (ltE x y)) := by
  refine (str_lss _ _).trans ?_
  rw [str_toList, str_toList]; rfl
theorem cnan (x : El) {K : Value → World → Prop} {w : World} (hK : K (.bool false) w) : CallS Try.prog 87 #[encE x] K w := by
  refine s87_call hm ?_
  unfold s87
  exact pur (v := .bool false) ((neE x x).trans (by simp)) hK
theorem cless {x y : El} {K : Value → World → Prop} {w : World} (hK : K (.bool (ltE x y)) w) : CallS Try.prog 75 #[encE x, encE y] K w := by
  refine s75_call hm ?_
  unfold s75
  refine cnan x ?_
  refine join1 (fun a w' => w = w') ?_ fun J0 hJ0 => ?_
  · rintro a w' rfl
    refine pur (pick_b _ _ _) ?_
    rw [if_neg (by simp)]
    refine join1 (fun a w' => w = w' ∧ a = .bool (ltE x y)) ?_ fun J1 hJ1 => ?_
    · rintro a w' ⟨rfl, rfl⟩
      exact pur (pick_b _ _ _) hK
    · rw [ifB_eq, if_pos rfl]
      exact pur (lsE x y) (hJ1 _ _ ⟨rfl, rfl⟩)
  · rw [ifB_eq, if_neg (by simp)]
    exact hJ0 _ _ rfl
theorem TCE : ElemT Try.prog 74 9 1 16 (.string ⟨#[]⟩) := ⟨Try.underlying74, by kernel_rfl, rfl, by decide, by decide⟩
end Go.Proofs.Ythohdinjpkehpaa
/-! Rules: maps, read as lists of pairs; iterators over them. No program stands here. -/
namespace SG
open Go Go.RowKit Go.Lib
set_option linter.unusedSimpArgs false
set_option linter.unusedVariables false

/-! ### lists of pairs -/
section
variable {κ ν : Type} [DecidableEq κ]
def mget (m : List (κ × ν)) (x : κ) : Option ν := (m.find? fun p => decide (p.1 = x)).map (·.2)
def midx (ks : List κ) (x : κ) : Option Nat := ks.findIdx? fun y => decide (y = x)
def mput (m : List (κ × ν)) (x : κ) (v : ν) : List (κ × ν) := if x ∈ m.map (·.1) then m.map fun p => if p.1 = x then (x, v) else p else m ++ [(x, v)]
def mdel (m : List (κ × ν)) (x : κ) : List (κ × ν) := m.filter fun p => decide (p.1 ≠ x)
def Keys (m : List (κ × ν)) : Prop := (m.map (·.1)).Nodup
theorem mget_cons (p : κ × ν) (m : List (κ × ν)) (x : κ) : mget (p :: m) x = if p.1 = x then some p.2 else mget m x := by
  unfold mget
  rw [List.find?_cons]
  by_cases h : p.1 = x <;> simp [h]
theorem mget_none {m : List (κ × ν)} {x : κ} : mget m x = none ↔ x ∉ m.map (·.1) := by
  induction m with
  | nil => simp [mget]
  | cons p m ih =>
    rw [mget_cons]
    by_cases h : p.1 = x
    · simp [h]
    · rw [if_neg h, ih]; simp [Ne.symm h]
theorem mget_mem {m : List (κ × ν)} (hk : Keys m) {x : κ} {v : ν} : mget m x = some v ↔ (x, v) ∈ m := by
  induction m with
  | nil => simp [mget]
  | cons p m ih =>
    have hk' : p.1 ∉ m.map (·.1) ∧ Keys m := List.nodup_cons.1 hk
    rw [mget_cons]
    by_cases h : p.1 = x
    · rw [if_pos h]
      constructor
      · intro hv; cases hv; subst h; simp
      · intro hm
        rcases List.mem_cons.1 hm with rfl | hm
        · rfl
        · subst h; exact absurd (List.mem_map_of_mem (f := (·.1)) hm) hk'.1
    · rw [if_neg h, ih hk'.2]
      constructor
      · exact fun hm => List.mem_cons_of_mem _ hm
      · intro hm
        rcases List.mem_cons.1 hm with rfl | hm
        · exact absurd rfl h
        · exact hm
theorem mget_isSome {m : List (κ × ν)} {x : κ} : (mget m x).isSome = true ↔ x ∈ m.map (·.1) := by
  cases h : mget m x with
  | none => simpa using mget_none.1 h
  | some v =>
    simp only [Option.isSome_some, true_iff]
    refine Decidable.byContradiction fun hn => ?_
    rw [mget_none.2 hn] at h; cases h
theorem mput_keys_in {m : List (κ × ν)} {x : κ} {v : ν} (h : x ∈ m.map (·.1)) : (mput m x v).map (·.1) = m.map (·.1) := by
  unfold mput
  rw [if_pos h, List.map_map]
  refine List.map_congr_left fun p _ => ?_
  simp only [Function.comp]
  split
  · rename_i hp; exact hp.symm
  · rfl
theorem mput_keys_out {m : List (κ × ν)} {x : κ} {v : ν} (h : x ∉ m.map (·.1)) : mput m x v = m ++ [(x, v)] := by
  unfold mput; rw [if_neg h]
theorem Keys.put {m : List (κ × ν)} (h : Keys m) (x : κ) (v : ν) : Keys (mput m x v) := by
  by_cases hx : x ∈ m.map (·.1)
  · unfold Keys; rw [mput_keys_in hx]; exact h
  · unfold Keys
    rw [mput_keys_out hx, List.map_append, List.nodup_append]
    refine ⟨h, by simp, fun a ha b hb => ?_⟩
    simp at hb; subst hb
    exact fun e => hx (e ▸ ha)
theorem Keys.del {m : List (κ × ν)} (h : Keys m) (x : κ) : Keys (mdel m x) := List.Nodup.sublist (List.Sublist.map _ List.filter_sublist) h
theorem mget_put (m : List (κ × ν)) (x y : κ) (v : ν) : mget (mput m x v) y = if y = x then some v else mget m y := by
  by_cases hx : x ∈ m.map (·.1)
  · unfold mput
    rw [if_pos hx]
    revert hx
    induction m with
    | nil => intro h; simp at h
    | cons p m ih =>
      intro h
      rw [List.map_cons, mget_cons, mget_cons]
      by_cases hp : p.1 = x
      · rw [if_pos hp]
        by_cases hy : y = x
        · subst hy; simp
        · simp only [if_neg hy]
          rw [if_neg (Ne.symm hy), if_neg (by rw [hp]; exact Ne.symm hy)]
          by_cases hm : x ∈ m.map (·.1)
          · rw [ih hm, if_neg hy]
          · have : m.map (fun p => if p.1 = x then (x, v) else p) = m := by
              refine (List.map_congr_left fun q hq => ?_).trans (List.map_id _)
              have hne : ¬ q.1 = x := fun e => hm (e ▸ List.mem_map_of_mem (f := (·.1)) hq)
              rw [if_neg hne]; rfl
            rw [this]
      · rw [if_neg hp]
        have hm : x ∈ m.map (·.1) := by
          simp only [List.map_cons, List.mem_cons] at h
          exact h.resolve_left (Ne.symm hp)
        rw [ih hm]
        by_cases hpy : p.1 = y
        · rw [if_pos hpy, if_pos hpy, if_neg (by rw [← hpy]; exact hp)]
        · rw [if_neg hpy, if_neg hpy]
  · rw [mput_keys_out hx]
    unfold mget
    rw [List.find?_append]
    by_cases hy : y = x
    · subst hy
      have := mget_none.2 hx
      unfold mget at this
      rw [if_pos rfl]
      cases hf : m.find? fun p => decide (p.1 = y) with
      | none => simp
      | some p => rw [hf] at this; cases this
    · rw [if_neg hy]
      cases hf : m.find? fun p => decide (p.1 = y) with
      | none => simp [Ne.symm hy]
      | some p => simp
theorem mget_del {m : List (κ × ν)} (x y : κ) : mget (mdel m x) y = if y = x then none else mget m y := by
  induction m with
  | nil => simp [mdel, mget]
  | cons p m ih =>
    have : mdel (p :: m) x = if p.1 = x then mdel m x else p :: mdel m x := by
      unfold mdel
      rw [List.filter_cons]
      by_cases h : p.1 = x <;> simp [h]
    rw [this, mget_cons]
    by_cases hp : p.1 = x
    · rw [if_pos hp, ih]
      by_cases hy : y = x
      · rw [if_pos hy, if_pos hy]
      · rw [if_neg hy, if_neg hy, if_neg (by rw [hp]; exact Ne.symm hy)]
    · rw [if_neg hp, mget_cons, ih]
      by_cases hy : y = x
      · subst hy; rw [if_pos rfl, if_neg hp, if_pos rfl]
      · rw [if_neg hy, if_neg hy]
theorem mput_length {m : List (κ × ν)} (x : κ) (v : ν) : (mput m x v).length = if (mget m x).isSome then m.length else m.length + 1 := by
  by_cases hx : x ∈ m.map (·.1)
  · rw [if_pos (mget_isSome.2 hx)]
    unfold mput; rw [if_pos hx]; simp
  · rw [if_neg fun h => hx (mget_isSome.1 h), mput_keys_out hx]; simp
theorem midx_some {ks : List κ} {x : κ} {i : Nat} (h : midx ks x = some i) : ks[i]? = some x := by
  unfold midx at h
  rw [List.findIdx?_eq_some_iff_getElem] at h
  obtain ⟨hi, h1, _⟩ := h
  rw [List.getElem?_eq_getElem hi, of_decide_eq_true h1]
theorem midx_none {ks : List κ} {x : κ} (h : midx ks x = none) : x ∉ ks := by
  unfold midx at h
  rw [List.findIdx?_eq_none_iff] at h
  intro hx
  have := h x hx
  simp at this
theorem midx_get {m : List (κ × ν)} {x : κ} : mget m x = (midx (m.map (·.1)) x).bind fun i => (m[i]?).map (·.2) := by
  induction m with
  | nil => simp [mget, midx]
  | cons p m ih =>
    rw [mget_cons, List.map_cons]
    have : midx (p.1 :: m.map (·.1)) x = if p.1 = x then some 0 else (midx (m.map (·.1)) x).map (· + 1) := by
      unfold midx
      rw [List.findIdx?_cons]
      by_cases h : p.1 = x <;> simp [h]
    rw [this]
    by_cases hp : p.1 = x
    · simp [hp]
    · rw [if_neg hp, if_neg hp, ih]
      cases midx (m.map (·.1)) x <;> simp
end

/-! ### a map in memory -/
section
variable {κ ν : Type} [DecidableEq κ]
/-- what a map's type is good for -/
structure MapT (P : Program) (t k e : TypeId) (f : κ → Value) (z : Value) : Prop where
  under : P.underlying t = some (.map k e)
  check : ∀ (b : Bool) (x : κ) (w : World), (Instr.checkKey b 10000 k (f x)).run P w = .ok () w
  find : ∀ (x : κ) (es : List MapEntry) (ks : List κ) (w : World), es.map (·.key) = ks.map f → (Instr.findKey k (f x) es).run P w = .ok ((midx ks x).bind fun i => (es[i]?).map fun e => (i, e.val)) w
  zero : ∀ w, (zeroValue e).run P w = .ok z w
  stays : ∀ x, Instr.sameBits 10000 (f x) (f x) = true
theorem findNow_of {kd : TypeDesc} {f : κ → Value} (h : ∀ x y, Instr.sameNow kd (f x) (f y) = some (decide (x = y))) (x : κ) : ∀ (es : List MapEntry) (ks : List κ) (n : Nat), es.map (·.key) = ks.map f →
    Instr.findNow kd (f x) es n = some ((midx ks x).bind fun i => (es[i]?).map fun e => (n + i, e.val))
  | [], ks, n, hk => by
    have : ks = [] := by simpa using hk.symm
    subst this
    simp [Instr.findNow, midx]
  | e :: es, [], n, hk => by simp at hk
  | e :: es, y :: ks, n, hk => by
    simp only [List.map_cons, List.cons.injEq] at hk
    have hm : midx (y :: ks) x = if y = x then some 0 else (midx ks x).map (· + 1) := by
      unfold midx
      rw [List.findIdx?_cons]
      by_cases h : y = x <;> simp [h]
    rw [hm]
    unfold Instr.findNow
    rw [hk.1, h x y]
    by_cases hxy : x = y
    · subst hxy; simp
    · rw [decide_eq_false hxy, if_neg (Ne.symm hxy)]
      simp only
      rw [findNow_of h x es ks (n + 1) hk.2]
      congr 1
      cases midx ks x with
      | none => rfl
      | some i =>
        simp only [Option.map_some, Option.bind_some, List.getElem?_cons_succ]
        rw [show n + 1 + i = n + (i + 1) by omega]
theorem MapT.of {P : Program} {t k e : TypeId} {f : κ → Value} {z : Value} {kd : TypeDesc} (hu : P.underlying t = some (.map k e)) (hk : P.underlying k = some kd) (hc : ∀ x b w, (Instr.checkKey b 10000 k (f x)).run P w = .ok () w)
    (hs : ∀ x y, Instr.sameNow kd (f x) (f y) = some (decide (x = y))) (hz : (P.info? e).map (·.zero) = some (some z)) (hb : ∀ x, Instr.sameBits 10000 (f x) (f x) = true) : MapT P t k e f z where
  under := hu
  check := fun b x w => hc x b w
  find := fun x es ks w h => by
    have := findNow_of hs x es ks 0 h
    simp only [Nat.zero_add] at this
    simp [Instr.findKey, run_underlying hk, this]
  zero := fun w => by
    cases hi : P.info? e with
    | none => rw [hi] at hz; cases hz
    | some i =>
      rw [hi] at hz
      simp only [Option.map_some, Option.some.injEq] at hz
      simp [zeroValue, typeInfo, hi, hz]
  stays := hb
/-- block b is a map that holds these pairs -/
def MapR (w : World) (b : Nat) (f : κ → Value) (g : ν → Value) (m : List (κ × ν)) : Prop :=
  ∃ (es : List MapEntry) (clock : Nat), w.heap[b]? = some (.map es.toArray clock) ∧ es.map (fun e => (e.key, e.val)) = m.map (fun p => (f p.1, g p.2)) ∧ (es.map (·.born)).Nodup ∧ (∀ e ∈ es, e.born < clock) ∧ Keys m
namespace MapR
variable {P : Program} {t k e : TypeId} {f : κ → Value} {g : ν → Value} {z : Value} {w w' : World} {b : Nat} {m : List (κ × ν)} {S : Nat → Prop}
omit [DecidableEq κ] in
theorem lt (h : MapR w b f g m) : b < w.heap.size := by obtain ⟨es, clock, hb, _⟩ := h; exact (Array.getElem?_eq_some_iff.1 hb).1
omit [DecidableEq κ] in
theorem ext (h : MapR w b f g m) (e : Ext S w w') (hn : ¬ S b) : MapR w' b f g m := by
  have hl := h.lt
  obtain ⟨es, clock, hb, hr⟩ := h
  exact ⟨es, clock, (e.blk b hl hn).trans hb, hr⟩
omit [DecidableEq κ] in
theorem no (h : MapR w b f g m) (e : Ext No w w') : MapR w' b f g m := h.ext e fun h => h
omit [DecidableEq κ] in
theorem keys (h : MapR w b f g m) : Keys m := by obtain ⟨_, _, _, _, _, _, h⟩ := h; exact h
omit [DecidableEq κ] in
theorem make {K : Value → World → Prop} (f : κ → Value) (g : ν → Value) (hK : ∀ w', MapR w' w.heap.size f g ([] : List (κ × ν)) → Ext No w w' → w'.heap.size = w.heap.size + 1 → K (.map (some w.heap.size)) w') : RunS P (Instr.makeMap t none) K w :=
  runS (run_makeMap t w) (hK _ ⟨[], 0, heap_alloc_new w _, rfl, by simp, by simp, by simp [Keys]⟩ (Ext.alloc w _) (by simp))
omit [DecidableEq κ] in
theorem keysOf (es : List MapEntry) (h : es.map (fun e => (e.key, e.val)) = m.map (fun p => (f p.1, g p.2))) : es.map (·.key) = (m.map (·.1)).map f := by
  have := congrArg (List.map Prod.fst) h
  simpa [List.map_map, Function.comp_def] using this
theorem findRun (hT : MapT P t k e f z) (h : MapR w b f g m) (x : κ) : ∃ (es : List MapEntry) (clock : Nat), w.heap[b]? = some (.map es.toArray clock) ∧ (Instr.findKey k (f x) es).run P w = .ok ((midx (m.map (·.1)) x).bind fun i => (m[i]?).map fun p => (i, g p.2)) w := by
  obtain ⟨es, clock, hb, hes, _, _, _⟩ := h
  refine ⟨es, clock, hb, ?_⟩
  rw [hT.find x es _ w (keysOf es hes)]
  congr 1
  cases midx (m.map (·.1)) x with
  | none => rfl
  | some i =>
    simp only [Option.bind_some]
    have := congrArg (fun l => (l[i]?).map (·.2)) hes
    simp only [List.getElem?_map, Option.map_map, Function.comp_def] at this
    have h2 := congrArg (Option.map fun v => (i, v)) this
    simpa [Option.map_map, Function.comp_def] using h2
/-- m[x] -/
theorem lookup (hT : MapT P t k e f z) (h : MapR w b f g m) (x : κ) {K : Value → World → Prop} (hK : K (((mget m x).map g).getD z) w) : RunS P (Instr.lookup t (.map (some b)) (f x) false) K w := by
  obtain ⟨es, clock, hb, hf⟩ := findRun hT h x
  refine runS (w' := w) (v := ((mget m x).map g).getD z) ?_ hK
  have hm := midx_get (m := m) (x := x)
  cases hi : midx (m.map (·.1)) x with
  | none =>
    rw [hi] at hm hf
    simp only [Option.bind_none] at hm hf
    rw [hm]
    simp [Instr.lookup, Sem.run_bind, run_underlying hT.under, MapKept.run_getObj_map hb, hT.check, hf, hT.zero]
  | some i =>
    rw [hi] at hm hf
    simp only [Option.bind_some] at hm hf
    have hl : i < m.length := by have := (List.getElem?_eq_some_iff.1 (midx_some hi)).1; simpa using this
    rw [List.getElem?_eq_getElem hl] at hf
    rw [hm, List.getElem?_eq_getElem hl]
    simp [Instr.lookup, Sem.run_bind, run_underlying hT.under, MapKept.run_getObj_map hb, hT.check, hf]
theorem lookup2 (hT : MapT P t k e f z) (h : MapR w b f g m) (x : κ) {K : Value → World → Prop} (hK : K (.tuple [((mget m x).map g).getD z, .bool (mget m x).isSome].toArray) w) : RunS P (Instr.lookup t (.map (some b)) (f x) true) K w := by
  obtain ⟨es, clock, hb, hf⟩ := findRun hT h x
  refine runS (w' := w) (v := .tuple [((mget m x).map g).getD z, .bool (mget m x).isSome].toArray) ?_ hK
  have hm := midx_get (m := m) (x := x)
  cases hi : midx (m.map (·.1)) x with
  | none =>
    rw [hi] at hm hf
    simp only [Option.bind_none] at hm hf
    rw [hm]
    simp [Instr.lookup, Sem.run_bind, run_underlying hT.under, MapKept.run_getObj_map hb, hT.check, hf, hT.zero]
  | some i =>
    rw [hi] at hm hf
    simp only [Option.bind_some] at hm hf
    have hl : i < m.length := by have := (List.getElem?_eq_some_iff.1 (midx_some hi)).1; simpa using this
    rw [List.getElem?_eq_getElem hl] at hf
    rw [hm, List.getElem?_eq_getElem hl]
    simp [Instr.lookup, Sem.run_bind, run_underlying hT.under, MapKept.run_getObj_map hb, hT.check, hf]
omit [DecidableEq κ] in
theorem size (h : MapR w b f g m) {es : List MapEntry} {clock : Nat} (hb : w.heap[b]? = some (.map es.toArray clock)) : es.length = m.length := by
  obtain ⟨es', clock', hb', hes, _⟩ := h
  rw [hb] at hb'
  simp only [Option.some.injEq, Obj.map.injEq] at hb'
  have : es = es' := by simpa using congrArg Array.toList hb'.1
  subst this
  simpa using congrArg List.length hes
omit [DecidableEq κ] in
/-- len(m) -/
theorem len {t k e : TypeId} (hu : P.underlying t = some (.map k e)) (h : MapR w b f g m) {ty : TypeId} {K : Value → World → Prop} (hK : K (.int .i64 (m.length : Int)) w) : RunS P (Builtin.len_ #[t] ty [.map (some b)].toArray) K w := by
  have hs := fun es clock => h.size (es := es) (clock := clock)
  obtain ⟨es, clock, hb, _⟩ := h
  refine runS (w' := w) (v := .int .i64 (m.length : Int)) ?_ hK
  have := hs es clock hb
  simp [Builtin.len_, run_underlying hu, MapKept.run_getObj_map hb, goInt, this]
omit [DecidableEq κ] in
theorem set_ext (hb : b < w.heap.size) (o : Obj) : Ext (At1 b) w { w with heap := w.heap.setIfInBounds b o } :=
  ⟨rfl, rfl, rfl, by simp, fun i _ hn => Array.getElem?_setIfInBounds_ne fun e => hn (by rw [e]; rfl)⟩
omit [DecidableEq κ] in
theorem set_at (hb : b < w.heap.size) (o : Obj) : ({ w with heap := w.heap.setIfInBounds b o } : World).heap[b]? = some o := by
  show (w.heap.setIfInBounds b o)[b]? = some o
  rw [Array.getElem?_setIfInBounds_self_of_lt hb]
/-- m[x] = v -/
theorem update (hT : MapT P t k e f z) (h : MapR w b f g m) (x : κ) (v : ν) {K : World → Prop} (hK : ∀ w', MapR w' b f g (mput m x v) → Ext (At1 b) w w' → w'.heap.size = w.heap.size → K w') : RunU P (Instr.mapUpdate t (.map (some b)) (f x) (g v)) K w := by
  have hlt := h.lt
  obtain ⟨es0, clock0, hb0, hf⟩ := findRun hT h x
  obtain ⟨es, clock, hb, hes, hnd, hcl, hkm⟩ := h
  rw [hb0] at hb
  simp only [Option.some.injEq, Obj.map.injEq] at hb
  obtain ⟨hes0, rfl⟩ := hb
  have : es0 = es := by simpa using congrArg Array.toList hes0
  subst this
  have hln : es0.length = m.length := by simpa using congrArg List.length hes
  cases hi : midx (m.map (·.1)) x with
  | none =>
    rw [hi] at hf
    have hx := midx_none hi
    refine runU (w' := { w with heap := w.heap.setIfInBounds b (.map (es0.toArray.push { key := f x, val := g v, born := clock0 }) (clock0 + 1)) }) ?_ (hK _ ⟨es0 ++ [{ key := f x, val := g v, born := clock0 }], clock0 + 1, ?_, ?_, ?_, ?_, hkm.put x v⟩ (set_ext hlt _) (by simp))
    · simp [Instr.mapUpdate, Sem.run_bind, run_underlying hT.under, MapKept.run_getObj_map hb0, hT.check, hf, MapKept.run_setObj_map _ hb0]
    · rw [set_at hlt]; simp
    · rw [mput_keys_out hx, List.map_append, List.map_append, hes]; rfl
    · rw [List.map_append, List.nodup_append]
      refine ⟨hnd, by simp, fun a ha c hc => ?_⟩
      simp at hc; subst hc
      obtain ⟨e', he', rfl⟩ := List.mem_map.1 ha
      exact Nat.ne_of_lt (hcl e' he')
    · intro e' he'
      rcases List.mem_append.1 he' with he' | he'
      · exact Nat.lt_succ_of_lt (hcl e' he')
      · simp at he'; subst he'; exact Nat.lt_succ_self _
  | some i =>
    have hki := midx_some hi
    have hl : i < m.length := by have := (List.getElem?_eq_some_iff.1 hki).1; simpa using this
    have hm1 : (m[i]'hl).1 = x := by
      rw [List.getElem?_map, List.getElem?_eq_getElem hl] at hki
      simpa using hki
    rw [hi] at hf
    simp only [Option.bind_some, List.getElem?_eq_getElem hl, Option.map_some] at hf
    have hle : i < es0.length := by omega
    have hek : (es0[i]'hle).key = f x := by
      have := congrArg (fun l => (l[i]?).map (·.1)) hes
      simp only [List.getElem?_map, List.getElem?_eq_getElem hle, List.getElem?_eq_getElem hl, Option.map_some, Option.some.injEq, hm1] at this
      exact this
    have hstay : (Instr.keyThatStays (f x) (f x)).run P w = .ok (f x) w := by simp [Instr.keyThatStays, hT.stays]
    have hxm : x ∈ m.map (·.1) := List.mem_of_getElem? hki
    refine runU (w' := { w with heap := w.heap.setIfInBounds b (.map (es0.toArray.modify i fun e => { e with key := f x, val := g v }) clock0) }) ?_ (hK _ ⟨es0.modify i fun e => { e with key := f x, val := g v }, clock0, ?_, ?_, ?_, ?_, hkm.put x v⟩ (set_ext hlt _) (by simp))
    · simp [Instr.mapUpdate, Sem.run_bind, run_underlying hT.under, MapKept.run_getObj_map hb0, hT.check, hf, MapKept.run_setObj_map _ hb0, hle, hek, hstay]
    · rw [set_at hlt]
      congr 2
      apply Array.ext'
      simp [Array.toList_modify]
    · unfold mput
      rw [if_pos hxm]
      apply List.ext_getElem?
      intro j
      have hj := congrArg (fun l => l[j]?) hes
      simp only [List.getElem?_map] at hj
      simp only [List.getElem?_map, List.getElem?_modify, Option.map_map]
      by_cases hij : i = j
      · subst hij
        rw [List.getElem?_eq_getElem hle, List.getElem?_eq_getElem hl]
        simp [hm1]
      · simp only [if_neg hij]
        cases hmj : m[j]? with
        | none => rw [hmj] at hj; simp only [Option.map_none, Option.map_eq_none_iff] at hj; rw [hj]; rfl
        | some p =>
          rw [hmj] at hj
          have hne : p.1 ≠ x := fun he => by
            have h1 : (m.map (·.1))[i]? = some x := hki
            have h2 : (m.map (·.1))[j]? = some x := by rw [List.getElem?_map, hmj]; simp [he]
            have hjl : j < (m.map (·.1)).length := (List.getElem?_eq_some_iff.1 h2).1
            have hil : i < (m.map (·.1)).length := (List.getElem?_eq_some_iff.1 h1).1
            have h3 := (List.getElem?_eq_some_iff.1 h1).2
            have h4 := (List.getElem?_eq_some_iff.1 h2).2
            rcases Nat.lt_or_gt_of_ne hij with hlt' | hgt
            · exact List.pairwise_iff_getElem.1 hkm i j hil hjl hlt' (h3.trans h4.symm)
            · exact List.pairwise_iff_getElem.1 hkm j i hjl hil hgt (h4.trans h3.symm)
          simp only [Option.map_some, Function.comp, if_neg hne] at hj ⊢
          cases hej : es0[j]? with
          | none => rw [hej] at hj; cases hj
          | some e' => rw [hej] at hj; simpa using hj
    · have : (es0.modify i fun e => { e with key := f x, val := g v }).map (·.born) = es0.map (·.born) := by
        apply List.ext_getElem?
        intro j
        simp only [List.getElem?_map, List.getElem?_modify, Option.map_map]
        by_cases hij : i = j
        · subst hij; cases es0[i]? <;> simp
        · simp [if_neg hij]
      rw [this]; exact hnd
    · intro e' he'
      obtain ⟨j, hj⟩ := List.getElem?_of_mem he'
      rw [List.getElem?_modify] at hj
      cases hej : es0[j]? with
      | none => rw [hej] at hj; cases hj
      | some e0 =>
        rw [hej] at hj
        have hb' := hcl e0 (List.mem_of_getElem? hej)
        by_cases hij : i = j
        · simp [hij] at hj; subst hj; exact hb'
        · simp [hij] at hj; subst hj; exact hb'
end MapR
end
end SG
/-! Rules: what goes from a map; iterators. No program stands here. -/
namespace SG
open Go Go.RowKit Go.Lib
set_option linter.unusedSimpArgs false
set_option linter.unusedVariables false
section
variable {κ ν : Type} [DecidableEq κ]
theorem mdel_out {m : List (κ × ν)} {x : κ} (h : x ∉ m.map (·.1)) : mdel m x = m := by
  unfold mdel
  rw [List.filter_eq_self]
  intro p hp
  have hne : p.1 ≠ x := fun e => h (e ▸ List.mem_map_of_mem (f := (·.1)) hp)
  simpa using hne
theorem mdel_at : ∀ {m : List (κ × ν)} {x : κ} {i : Nat}, Keys m → (m.map (·.1))[i]? = some x → mdel m x = m.eraseIdx i
  | [], x, i, _, h => by simp at h
  | p :: m, x, 0, hk, h => by
    have hk' : p.1 ∉ m.map (·.1) ∧ Keys m := List.nodup_cons.1 hk
    have hp : p.1 = x := by simpa using h
    subst hp
    have : mdel (p :: m) p.1 = mdel m p.1 := by simp [mdel]
    rw [this, mdel_out hk'.1]; rfl
  | p :: m, x, i + 1, hk, h => by
    have hk' : p.1 ∉ m.map (·.1) ∧ Keys m := List.nodup_cons.1 hk
    have hx : (m.map (·.1))[i]? = some x := by simpa using h
    have hne : p.1 ≠ x := fun e => hk'.1 (e ▸ List.mem_of_getElem? hx)
    have : mdel (p :: m) x = p :: mdel m x := by simp [mdel, hne]
    rw [this, mdel_at hk'.2 hx]; rfl
namespace MapR
variable {P : Program} {t k e : TypeId} {f : κ → Value} {g : ν → Value} {z : Value} {w w' : World} {b : Nat} {m : List (κ × ν)} {S : Nat → Prop}
/-- delete(m, x) -/
theorem delete (hT : MapT P t k e f z) (h : MapR w b f g m) (x : κ) {t' ty : TypeId} {K : Value → World → Prop} (hK : ∀ w', MapR w' b f g (mdel m x) → Ext (At1 b) w w' → w'.heap.size = w.heap.size → K (.tuple #[]) w') :
    RunS P (Builtin.delete_ #[t, t'] ty [.map (some b), f x].toArray) K w := by
  have hlt := h.lt
  obtain ⟨es0, clock0, hb0, hf⟩ := findRun hT h x
  obtain ⟨es, clock, hb, hes, hnd, hcl, hkm⟩ := h
  rw [hb0] at hb
  simp only [Option.some.injEq, Obj.map.injEq] at hb
  obtain ⟨hes0, rfl⟩ := hb
  have : es0 = es := by simpa using congrArg Array.toList hes0
  subst this
  have hln : es0.length = m.length := by simpa using congrArg List.length hes
  cases hi : midx (m.map (·.1)) x with
  | none =>
    rw [hi] at hf
    simp only [Option.bind_none] at hf
    have hx := midx_none hi
    refine runS (v := .tuple #[]) (w' := { w with heap := w.heap.setIfInBounds b (.map es0.toArray clock0) }) ?_ (hK _ ⟨es0, clock0, set_at hlt _, by rw [mdel_out hx]; exact hes, hnd, hcl, hkm.del x⟩ (set_ext hlt _) (by simp))
    simp [Builtin.delete_, Sem.run_bind, run_underlying hT.under, MapKept.run_getObj_map hb0, hT.check, hf, MapKept.run_setObj_map _ hb0]
  | some i =>
    have hki := midx_some hi
    have hl : i < m.length := by have := (List.getElem?_eq_some_iff.1 hki).1; simpa using this
    rw [hi] at hf
    simp only [Option.bind_some, List.getElem?_eq_getElem hl, Option.map_some] at hf
    have hle : i < es0.length := by omega
    refine runS (v := .tuple #[]) (w' := { w with heap := w.heap.setIfInBounds b (.map (es0.toArray.eraseIdxIfInBounds i) clock0) }) ?_ (hK _ ⟨es0.eraseIdx i, clock0, ?_, ?_, ?_, ?_, hkm.del x⟩ (set_ext hlt _) (by simp))
    · simp [Builtin.delete_, Sem.run_bind, run_underlying hT.under, MapKept.run_getObj_map hb0, hT.check, hf, MapKept.run_setObj_map _ hb0]
    · rw [set_at hlt]
      congr 2
      apply Array.ext'
      simp [Array.eraseIdxIfInBounds, hle]
    · rw [mdel_at hkm hki, Go.ChangeMaps.map_eraseIdx, Go.ChangeMaps.map_eraseIdx, hes]
    · rw [Go.ChangeMaps.map_eraseIdx]; exact List.Nodup.sublist (List.eraseIdx_sublist _ _) hnd
    · exact fun e' he' => hcl e' (List.mem_of_mem_eraseIdx he')
end MapR

/-- an iterator at r over the map at b; 'done': what has come so far, in its order -/
def IterR (w : World) (r b : Nat) (f : κ → Value) (g : ν → Value) (m done : List (κ × ν)) : Prop :=
  ∃ (es : List MapEntry) (clock since : Nat) (seen : Array Nat) (c0 : Nat), w.heap[b]? = some (.map es.toArray clock) ∧ es.map (fun e => (e.key, e.val)) = m.map (fun p => (f p.1, g p.2)) ∧ (es.map (·.born)).Nodup ∧ (∀ e ∈ es, e.born < clock) ∧ Keys m ∧
    w.heap[r]? = some (.mapIter (some b) since seen c0) ∧ (∀ e ∈ es, e.born < since) ∧ since ≤ c0 ∧ since ≤ clock ∧ done.Nodup ∧ (∀ p ∈ done, p ∈ m) ∧ ∀ (i : Nat) (e : MapEntry) (p : κ × ν), es[i]? = some e → m[i]? = some p → (e.born ∈ seen ↔ p ∈ done)
namespace IterR
variable {P : Program} {t k e : TypeId} {f : κ → Value} {g : ν → Value} {z : Value} {w w' : World} {r b : Nat} {m done : List (κ × ν)} {S : Nat → Prop}
omit [DecidableEq κ]
theorem map (h : IterR w r b f g m done) : MapR w b f g m := by
  obtain ⟨es, clock, since, seen, c0, h1, h2, h3, h4, h5, _⟩ := h
  exact ⟨es, clock, h1, h2, h3, h4, h5⟩
theorem ne (h : IterR w r b f g m done) : r ≠ b := by
  obtain ⟨es, clock, since, seen, c0, h1, h2, h3, h4, h5, h6, _⟩ := h
  intro he
  rw [he, h1] at h6
  cases h6
theorem lt (h : IterR w r b f g m done) : r < w.heap.size := by
  obtain ⟨es, clock, since, seen, c0, h1, h2, h3, h4, h5, h6, _⟩ := h
  exact (Array.getElem?_eq_some_iff.1 h6).1
theorem ext (h : IterR w r b f g m done) (e : Ext S w w') (h1 : ¬ S b) (h2 : ¬ S r) : IterR w' r b f g m done := by
  have hl := h.lt
  have hm := h.map.lt
  obtain ⟨es, clock, since, seen, c0, a1, a2, a3, a4, a5, a6, a7⟩ := h
  exact ⟨es, clock, since, seen, c0, (e.blk b hm h1).trans a1, a2, a3, a4, a5, (e.blk r hl h2).trans a6, a7⟩
theorem no (h : IterR w r b f g m done) (e : Ext No w w') : IterR w' r b f g m done := h.ext e (fun h => h) fun h => h
theorem keys (h : IterR w r b f g m done) : Keys m := h.map.keys
theorem sub (h : IterR w r b f g m done) : done.Nodup ∧ ∀ p ∈ done, p ∈ m := by
  obtain ⟨es, clock, since, seen, c0, a1, a2, a3, a4, a5, a6, a7, a8, a9, b1, b2, _⟩ := h
  exact ⟨b1, b2⟩
/-- range m -/
theorem start {t k e : TypeId} (hu : P.underlying t = some (.map k e)) (h : MapR w b f g m) {K : Value → World → Prop} (hK : ∀ w', IterR w' w.heap.size b f g m [] → Ext No w w' → w'.heap.size = w.heap.size + 1 → K (.pointer (some ⟨w.heap.size, 0, none⟩)) w') :
    RunS P (Instr.range t (.map (some b))) K w := by
  have hlt := h.lt
  obtain ⟨es, clock, hb, h2, h3, h4, h5⟩ := h
  refine runS (run_range_map w t k e b _ clock hu hb) (hK _ ⟨es, clock, clock, #[], clock, ?_, h2, h3, h4, h5, heap_alloc_new w _, h4, Nat.le_refl _, Nat.le_refl _, List.nodup_nil, by simp, by simp⟩ (Ext.alloc w _) (by simp))
  rw [Below.heap_alloc w _ b hlt]; exact hb
theorem nodup_of_keys {m : List (κ × ν)} (h : Keys m) : m.Nodup := by
  induction m with
  | nil => exact List.nodup_nil
  | cons p m ih =>
    have hk' : p.1 ∉ m.map (·.1) ∧ Keys m := List.nodup_cons.1 h
    exact List.nodup_cons.2 ⟨fun hm => hk'.1 (List.mem_map_of_mem (f := (·.1)) hm), ih hk'.2⟩
/-- a step: either all has come; or one that has not -/
theorem next (h : IterR w r b f g m done) (ty : TypeId) {K : Value → World → Prop} (hend : done.Perm m → K (.tuple [.bool false].toArray) w)
    (hK : ∀ p w', p ∈ m → p ∉ done → IterR w' r b f g m (done ++ [p]) → (∀ K' : Value → World → Prop, K' (.tuple [f p.1, g p.2].toArray) w' → RunS P (Instr.entry (.pointer (some ⟨r, 0, none⟩))) K' w') → Ext (At1 r) w w' → w'.heap.size = w.heap.size → K (.tuple [.bool true, f p.1, g p.2].toArray) w') :
    RunS P (Instr.next (.pointer (some ⟨r, 0, none⟩)) false ty) K w := by
  have hne := h.ne
  have hlt := h.lt
  obtain ⟨es, clock, since, seen, c0, a1, a2, a3, a4, a5, a6, a7, a8, a9, b1, b2, b3⟩ := h
  have hln : es.length = m.length := by simpa using congrArg List.length a2
  rcases run_next_at (P := P) w ty r b since c0 seen es.toArray clock a6 a1 (by simpa using a7) a8 with ⟨h0, hrun⟩ | ⟨e, he, w1, hal, hrun⟩
  · refine runS hrun (hend ?_)
    have hall : ∀ p ∈ m, p ∈ done := fun p hp => by
      obtain ⟨i, hi⟩ := List.getElem?_of_mem hp
      have hil := (List.getElem?_eq_some_iff.1 hi).1
      obtain ⟨e, he⟩ : ∃ e, es[i]? = some e := ⟨_, List.getElem?_eq_getElem (by omega)⟩
      refine (b3 i e p he hi).1 ?_
      refine Decidable.byContradiction fun hn => ?_
      have hmem : e ∈ leftOf es.toArray seen := by
        unfold leftOf
        rw [Array.mem_filter]
        exact ⟨by simpa using List.mem_of_getElem? he, by simpa using hn⟩
      have : leftOf es.toArray seen = #[] := Array.eq_empty_of_size_eq_zero h0
      rw [this] at hmem
      simp at hmem
    exact (List.perm_ext_iff_of_nodup b1 (nodup_of_keys a5)).2 fun p => ⟨b2 p, hall p⟩
  · have hmem : e ∈ es ∧ e.born ∉ seen := by
      have : e ∈ leftOf es.toArray seen := by simpa using he
      unfold leftOf at this
      rw [Array.mem_filter] at this
      simpa using this
    obtain ⟨i, hi⟩ := List.getElem?_of_mem hmem.1
    have hil := (List.getElem?_eq_some_iff.1 hi).1
    obtain ⟨p, hp⟩ : ∃ p, m[i]? = some p := ⟨_, List.getElem?_eq_getElem (by omega)⟩
    have hkv : e.key = f p.1 ∧ e.val = g p.2 := by
      have := congrArg (fun l => l[i]?) a2
      simp only [List.getElem?_map, hi, hp, Option.map_some, Option.some.injEq, Prod.mk.injEq] at this
      exact this
    have hpd : p ∉ done := fun hd => hmem.2 ((b3 i e p hi hp).2 hd)
    have hpm : p ∈ m := List.mem_of_getElem? hp
    have hw1 : w1.heap = w.heap := by rcases hal with rfl | rfl <;> rfl
    have h1 : (Go.ChangeMaps.setBlock w1 r (.mapIter (some b) since (seen.push e.born) clock)).heap[r]? = some (.mapIter (some b) since (seen.push e.born) clock) := by
      show (w1.heap.setIfInBounds r _)[r]? = _
      rw [hw1, Array.getElem?_setIfInBounds_self_of_lt hlt]
    have h2 : (Go.ChangeMaps.setBlock w1 r (.mapIter (some b) since (seen.push e.born) clock)).heap[b]? = some (.map es.toArray clock) := by
      show (w1.heap.setIfInBounds r _)[b]? = _
      rw [hw1, Array.getElem?_setIfInBounds_ne hne]; exact a1
    rw [hkv.1, hkv.2] at hrun
    refine runS hrun (hK p _ hpm hpd ⟨es, clock, since, seen.push e.born, clock, h2, a2, a3, a4, a5, h1, a7, a9, a9, ?_, ?_, ?_⟩ ?_ ?_ ?_)
    · rw [List.nodup_append]
      refine ⟨b1, by simp, fun a ha c hc => ?_⟩
      simp at hc; subst hc
      exact fun h => hpd (h ▸ ha)
    · intro q hq
      rcases List.mem_append.1 hq with hq | hq
      · exact b2 q hq
      · simp at hq; subst hq; exact hpm
    · intro j e' q hj hq
      rw [Array.mem_push, List.mem_append, b3 j e' q hj hq]
      simp only [List.mem_singleton]
      have hjl := (List.getElem?_eq_some_iff.1 hj).1
      have key : e'.born = e.born ↔ q = p := by
        constructor
        · intro hbb
          have hij : j = i := by
            refine Decidable.byContradiction fun hne' => ?_
            have h3 : (es.map (·.born))[j]? = some e.born := by rw [List.getElem?_map, hj]; simp [hbb]
            have h4 : (es.map (·.born))[i]? = some e.born := by rw [List.getElem?_map, hi]; rfl
            have h5 := List.getElem?_eq_some_iff.1 h3
            have h6 := List.getElem?_eq_some_iff.1 h4
            rcases Nat.lt_or_gt_of_ne hne' with hlt' | hgt
            · exact List.pairwise_iff_getElem.1 a3 j i h5.1 h6.1 hlt' (h5.2.trans h6.2.symm)
            · exact List.pairwise_iff_getElem.1 a3 i j h6.1 h5.1 hgt (h6.2.trans h5.2.symm)
          subst hij
          rw [hp] at hq; exact (Option.some.inj hq).symm
        · rintro rfl
          have hij : j = i := by
            refine Decidable.byContradiction fun hne' => ?_
            have h5 := List.getElem?_eq_some_iff.1 hq
            have h6 := List.getElem?_eq_some_iff.1 hp
            have hnd := nodup_of_keys a5
            rcases Nat.lt_or_gt_of_ne hne' with hlt' | hgt
            · exact List.pairwise_iff_getElem.1 hnd j i h5.1 h6.1 hlt' (h5.2.trans h6.2.symm)
            · exact List.pairwise_iff_getElem.1 hnd i j h6.1 h5.1 hgt (h6.2.trans h5.2.symm)
          subst hij
          rw [hi] at hj; rw [Option.some.inj hj]
      rw [key]
    · intro K' hK'
      refine runS ?_ hK'
      have := run_entry_at (P := P) (Go.ChangeMaps.setBlock w1 r (.mapIter (some b) since (seen.push e.born) clock)) r b since seen es.toArray clock e h1 h2 (by simpa using hmem.1) (by simpa using a3)
      rw [hkv.1, hkv.2] at this
      exact this
    · refine ⟨?_, ?_, ?_, ?_, ?_⟩
      · show w1.os = w.os; rcases hal with rfl | rfl <;> rfl
      · show w1.tape = w.tape; rcases hal with rfl | rfl <;> rfl
      · show w1.output = w.output; rcases hal with rfl | rfl <;> rfl
      · show w.heap.size ≤ (w1.heap.setIfInBounds r _).size; rw [hw1]; simp
      · intro c _ hn
        show (w1.heap.setIfInBounds r _)[c]? = _
        rw [hw1]
        exact Array.getElem?_setIfInBounds_ne fun e => hn (by rw [e]; rfl)
    · show (w1.heap.setIfInBounds r _).size = _; rw [hw1]; simp
end IterR
end
end SG
