/- Several texts of ours, laid one behind the other. -/
import Derived.Test.YthohdinjpkehpaaMB1
import Derived.Test.YthohdinjpkehpaaProg
/-! Laid out by a program of ours: what each function of the cut comes to, over named values; and that it is so. -/
namespace Go.Proofs.Ythohdinjpkehpaa
set_option linter.unusedVariables false
set_option maxRecDepth 100000
open Go SG

/-! number 3 -/
def a3 : Ann :=
 (.q (.r [.plain 1]) (.q (.q (.r [.plain 2]) (.c (.q (.r [.plain 1]) .s) .s)) (.q (.q (.r [.plain 4, .grp 3 [24] 29360128, .plain 1]) (.c (.q (.r [.plain 1]) .s) .s)) (.q (.r [.plain 6]) (.q (.q (.r [.plain 3, .grp 2 [34] 25769803776, .plain 2, .grp 3 [39] 962072674304, .plain 2, .grp 3 [44] 30786325577728, .plain 2, .grp 4 [50] 2111062325329920, .plain 2, .grp 3 [55] 63050394783186944, .plain 2, .grp 3 [60] 2017612633061982208, .plain 1]) (.c (.q (.r [.plain 1]) .s) .s)) (.q (.r [.plain 3]) (.q (.r [.plain 4, .grp 4 [72] 8854437155380584775680, .plain 2, .grp 3 [77] 264452523040700131966976, .plain 2, .grp 3 [82] 8462480737302404222943232, .plain 2, .grp 3 [87] 270799383593676935134183424, .plain 2]) (.q (.r [.plain 4]) (.q (.r [.plain 7]) (.q (.q (.r [.plain 3, .grp 2 [102] 7605903601369376408980219232256, .grp 5 [107] 314377348856600891571182394933248, .grp 1 [108] 324518553658426726783156020576256, .plain 1]) (.c (.q (.r [.plain 1]) .s) .s)) (.q (.r [.plain 6, .grp 5 [120] 2575379241833274503751126179293167616, .plain 2]) .s)))))))))))
def s3 (old0 fresh1 stop2 keeps3 names4 : Value) (K : Value → World → Prop) (w : World) : Prop :=
 CallS Try.prog 5 [].toArray (fun t16 w =>
 PureS (notV t16) fun t17 =>
 CondS t17 (
 K (Value.bool false) w
 ) (
 PureS (lenSliceV old0) fun t19 =>
 PureS (binV .gtr t19 (Value.int .i64 4194304)) fun t20 =>
 JoinS (fun (t24 : Value) (w : World) =>
 PureS (pickV t20 (Value.bool true) t24) fun t25 =>
 CondS t25 (
 K (Value.bool true) w
 ) (
 CallS Try.prog 6 [(Value.int .i64 268435456)].toArray (fun t27 w =>
 PureS (extractV 0 t27) fun t28 =>
 PureS (extractV 1 t27) fun t29 =>
 PureS (binV .neq t29 (Value.int .i64 0)) fun t31 =>
 JoinS (fun (t34 : Value) (w : World) =>
 PureS (pickV t31 (Value.bool true) t34) fun t35 =>
 JoinS (fun (t39 : Value) (w : World) =>
 PureS (pickV t35 (Value.bool true) t39) fun t40 =>
 JoinS (fun (t44 : Value) (w : World) =>
 PureS (pickV t40 (Value.bool true) t44) fun t45 =>
 JoinS (fun (t50 : Value) (w : World) =>
 PureS (pickV t45 (Value.bool true) t50) fun t51 =>
 JoinS (fun (t55 : Value) (w : World) =>
 PureS (pickV t51 (Value.bool true) t55) fun t56 =>
 JoinS (fun (t60 : Value) (w : World) =>
 PureS (pickV t56 (Value.bool true) t60) fun t61 =>
 CondS t61 (
 K (Value.bool false) w
 ) (
 CallS Try.prog 12 [t28, stop2].toArray (fun t64 w =>
 CallS Try.prog 8 [t28, (Value.string ⟨#[100, 47, 105, 116, 46, 110, 101, 119]⟩)].toArray (fun t66 w =>
 PureS (binV .eql t66 (Value.int .i64 0)) fun t67 =>
 JoinS (fun (t72 : Value) (w : World) =>
 PureS (pickV t67 t72 (Value.bool false)) fun t73 =>
 JoinS (fun (t77 : Value) (w : World) =>
 PureS (pickV t73 t77 (Value.bool false)) fun t78 =>
 JoinS (fun (t82 : Value) (w : World) =>
 PureS (pickV t78 t82 (Value.bool false)) fun t83 =>
 JoinS (fun (t87 : Value) (w : World) =>
 PureS (pickV t83 t87 (Value.bool false)) fun t88 =>
 CallS Try.prog 14 [t28, keeps3, names4].toArray (fun t92 w =>
 CallS Try.prog 15 [t28, (Value.string ⟨#[100, 47, 105, 116]⟩)].toArray (fun t95 w =>
 PureS (extractV 0 t95) fun t96 =>
 PureS (extractV 1 t95) fun t97 =>
 PureS (binV .neq t97 (Value.int .i64 0)) fun t99 =>
 JoinS (fun (t102 : Value) (w : World) =>
 JoinS (fun (t107 : Value) (w : World) =>
 JoinS (fun (t108 : Value) (w : World) =>
 PureS (pickV t99 (Value.bool true) t108) fun t109 =>
 CondS t109 (
 K (Value.bool false) w
 ) (
 RunS Try.prog (convert 22 9 t96) (fun t111 w =>
 RunS Try.prog (convert 22 9 old0) (fun t113 w =>
 PureS (binV .eql t111 t113) fun t114 =>
 JoinS (fun (t120 : Value) (w : World) =>
 PureS (pickV t114 (Value.bool true) t120) fun t121 =>
 K t121 w
 ) fun J14 =>
 IfB t114 false (
 RunS Try.prog (convert 22 9 t96) (fun t117 w =>
 RunS Try.prog (convert 22 9 fresh1) (fun t119 w =>
 PureS (binV .eql t117 t119) fun t120_1 =>
 J14 t120_1 w
 ) w
 ) w
 ) (
 J14 undef w
 )
 ) w
 ) w
 )
 ) fun J13 =>
 IfB t99 false (
 PureS (pickV t102 t107 (Value.bool false)) fun t108_1 =>
 J13 t108_1 w
 ) (
 J13 undef w
 )
 ) fun J12 =>
 IfB t102 true (
 RunS Try.prog (convert 22 9 t96) (fun t104 w =>
 RunS Try.prog (convert 22 9 fresh1) (fun t106 w =>
 PureS (binV .neq t104 t106) fun t107_1 =>
 J12 t107_1 w
 ) w
 ) w
 ) (
 J12 undef w
 )
 ) fun J11 =>
 IfB t99 false (
 J11 t88 w
 ) (
 J11 undef w
 )
 ) w
 ) w
 ) fun J10 =>
 IfB t83 true (
 CallS Try.prog 11 [t28, (Value.string ⟨#[100]⟩)].toArray (fun t86 w =>
 PureS (binV .eql t86 (Value.int .i64 0)) fun t87_1 =>
 J10 t87_1 w
 ) w
 ) (
 J10 undef w
 )
 ) fun J9 =>
 IfB t78 true (
 CallS Try.prog 13 [t28, (Value.string ⟨#[100, 47, 105, 116, 46, 110, 101, 119]⟩), (Value.string ⟨#[100, 47, 105, 116]⟩)].toArray (fun t81 w =>
 PureS (binV .eql t81 (Value.int .i64 0)) fun t82_1 =>
 J9 t82_1 w
 ) w
 ) (
 J9 undef w
 )
 ) fun J8 =>
 IfB t73 true (
 CallS Try.prog 10 [t28, (Value.string ⟨#[100, 47, 105, 116, 46, 110, 101, 119]⟩)].toArray (fun t76 w =>
 PureS (binV .eql t76 (Value.int .i64 0)) fun t77_1 =>
 J8 t77_1 w
 ) w
 ) (
 J8 undef w
 )
 ) fun J7 =>
 IfB t67 true (
 CallS Try.prog 9 [t28, (Value.string ⟨#[100, 47, 105, 116, 46, 110, 101, 119]⟩), fresh1].toArray (fun t71 w =>
 PureS (binV .eql t71 (Value.int .i64 0)) fun t72_1 =>
 J7 t72_1 w
 ) w
 ) (
 J7 undef w
 )
 ) w
 ) w
 )
 ) fun J6 =>
 IfB t56 false (
 CallS Try.prog 11 [t28, (Value.string ⟨#[100]⟩)].toArray (fun t59 w =>
 PureS (binV .neq t59 (Value.int .i64 0)) fun t60_1 =>
 J6 t60_1 w
 ) w
 ) (
 J6 undef w
 )
 ) fun J5 =>
 IfB t51 false (
 CallS Try.prog 10 [t28, (Value.string ⟨#[100, 47, 105, 116]⟩)].toArray (fun t54 w =>
 PureS (binV .neq t54 (Value.int .i64 0)) fun t55_1 =>
 J5 t55_1 w
 ) w
 ) (
 J5 undef w
 )
 ) fun J4 =>
 IfB t45 false (
 CallS Try.prog 9 [t28, (Value.string ⟨#[100, 47, 105, 116]⟩), old0].toArray (fun t49 w =>
 PureS (binV .neq t49 (Value.int .i64 0)) fun t50_1 =>
 J4 t50_1 w
 ) w
 ) (
 J4 undef w
 )
 ) fun J3 =>
 IfB t40 false (
 CallS Try.prog 8 [t28, (Value.string ⟨#[100, 47, 105, 116]⟩)].toArray (fun t43 w =>
 PureS (binV .neq t43 (Value.int .i64 0)) fun t44_1 =>
 J3 t44_1 w
 ) w
 ) (
 J3 undef w
 )
 ) fun J2 =>
 IfB t35 false (
 CallS Try.prog 7 [t28, (Value.string ⟨#[100]⟩)].toArray (fun t38 w =>
 PureS (binV .neq t38 (Value.int .i64 0)) fun t39_1 =>
 J2 t39_1 w
 ) w
 ) (
 J2 undef w
 )
 ) fun J1 =>
 IfB t31 false (
 RunS Try.prog (do eqGuard .eql 25 (Operand.tmp 33) (Operand.const (Value.pointer none)) t28 (Value.pointer none); binOp .eql 25 t28 (Value.pointer none)) (fun t34_1 w =>
 J1 t34_1 w
 ) w
 ) (
 J1 undef w
 )
 ) w
 )
 ) fun J0 =>
 IfB t20 false (
 PureS (lenSliceV fresh1) fun t23 =>
 PureS (binV .gtr t23 (Value.int .i64 4194304)) fun t24_1 =>
 J0 t24_1 w
 ) (
 J0 undef w
 )
 )
 ) w
theorem s3_den (old0 fresh1 stop2 keeps3 names4 : Value) (K : Value → World → Prop) (w : World) : denFn Try.prog false (bodyOf Try.f3) Try.f3.results a3 [old0, fresh1, stop2, keeps3, names4] K NoP w = s3 old0 fresh1 stop2 keeps3 names4 K w := by kernel_rfl
theorem s3_dst : dstsOk (5 + 117) (bodyOf Try.f3) = true := by kernel_rfl
theorem s3_ann : annOk (bodyOf Try.f3) a3 = true := by kernel_rfl
theorem s3_call {old0 fresh1 stop2 keeps3 names4 : Value} {K : Value → World → Prop} {w : World} (hm : Try.prog.follows .mixedOrders = true) (h : s3 old0 fresh1 stop2 keeps3 names4 K w) : CallS Try.prog 3 #[old0, fresh1, stop2, keeps3, names4] K w :=
  fn_call (args := [old0, fresh1, stop2, keeps3, names4]) (m := 117) hm Try.func3 (by kernel_rfl) (rs := Try.f3.results) rfl Try.ntmps3 s3_dst s3_ann (by rw [s3_den]; exact h)

/-! number 4 -/
def a4 : Ann :=
 (.q (.r [.plain 1]) (.q (.q (.r [.plain 2]) (.c (.q (.r [.plain 1]) .s) .s)) (.q (.q (.r [.plain 4, .grp 3 [24] 29360128, .plain 1]) (.c (.q (.r [.plain 1]) .s) .s)) (.q (.r [.plain 6]) (.q (.q (.r [.plain 3, .grp 2 [34] 25769803776, .plain 2, .grp 3 [39] 962072674304, .plain 2, .grp 3 [44] 30786325577728, .plain 2, .grp 3 [49] 985162418487296, .plain 2, .grp 3 [54] 31525197391593472, .plain 2, .grp 4 [60] 2161727821137838080, .plain 1]) (.c (.q (.r [.plain 1]) .s) .s)) (.q (.r [.plain 7]) (.q (.q (.r [.plain 6, .grp 3 [76] 132226261520350065983488, .plain 2, .grp 10 [88] 618365556732882822862209024, .plain 1]) (.c (.q (.r [.plain 1]) .s) .s)) (.q (.r [.plain 7]) (.q (.r [.plain 7]) (.q (.j [136] 174224571862252842693019569603568621060096 (.d [0, 1, 3, 7, 15, 31, 63, 127, 255, 127, 639, 2047, 4095, 8191, 16383, 16383, 16383, 16383, 147455, 475135, 1048575, 2097151, 16383, 4210687, 16777215, 33554431, 67108863, 134217727, 134217727, 536870911, 1073741823, 134217727, 134217727, 6576668671, 15166603263, 34359738367, 68719476735] (.pur 0 (.pur 1 (.pur 2 (.ite 2 (.skp 3 (.skp 4 (.pur 5 (.pur 6 (.ite 6 (.skp 7 (.skp 8 (.skp 9 (.skp 10 (.skp 11 (.pur 12 (.pur 13 (.ite 13 (.skp 14 (.skp 15 (.skp 16 (.skp 17 (.skp 18 (.skp 19 (.skp 20 (.skp 21 (.skp 22 (.skp 23 (.skp 24 (.pur 25 (.pur 26 (.ite 26 (.skp 27 (.skp 28 (.skp 29 (.skp 30 (.skp 31 (.skp 32 (.skp 33 (.skp 34 (.skp 35 (.pur 36 .fin)))))))))) (.pur 27 (.pur 28 (.pur 29 (.pur 31 (.pur 32 (.pur 33 (.hld 30 (.hld 34 (.pur 35 (.pur 36 .fin)))))))))))))))))))))))) (.pur 14 (.pur 15 (.pur 16 (.pur 17 (.pur 18 (.pur 19 (.pur 20 (.pur 22 (.hld 21 (.hld 23 (.pur 24 (.pur 25 (.pur 26 (.ite 26 (.skp 27 (.skp 28 (.skp 29 (.skp 30 (.skp 31 (.skp 32 (.skp 33 (.skp 34 (.skp 35 (.pur 36 .fin)))))))))) (.pur 27 (.pur 28 (.pur 29 (.pur 31 (.pur 32 (.pur 33 (.hld 30 (.hld 34 (.pur 35 (.pur 36 .fin)))))))))))))))))))))))))))))))) (.pur 7 (.pur 9 (.hld 8 (.hld 10 (.pur 11 (.pur 12 (.pur 13 (.ite 13 (.skp 14 (.skp 15 (.skp 16 (.skp 17 (.skp 18 (.skp 19 (.skp 20 (.skp 21 (.skp 22 (.skp 23 (.skp 24 (.pur 25 (.pur 26 (.ite 26 (.skp 27 (.skp 28 (.skp 29 (.skp 30 (.skp 31 (.skp 32 (.skp 33 (.skp 34 (.skp 35 (.pur 36 .fin)))))))))) (.pur 27 (.pur 28 (.pur 29 (.pur 31 (.pur 32 (.pur 33 (.hld 30 (.hld 34 (.pur 35 (.pur 36 .fin)))))))))))))))))))))))) (.pur 14 (.pur 15 (.pur 16 (.pur 17 (.pur 18 (.pur 19 (.pur 20 (.pur 22 (.hld 21 (.hld 23 (.pur 24 (.pur 25 (.pur 26 (.ite 26 (.skp 27 (.skp 28 (.skp 29 (.skp 30 (.skp 31 (.skp 32 (.skp 33 (.skp 34 (.skp 35 (.pur 36 .fin)))))))))) (.pur 27 (.pur 28 (.pur 29 (.pur 31 (.pur 32 (.pur 33 (.hld 30 (.hld 34 (.pur 35 (.pur 36 .fin))))))))))))))))))))))))))))))))))))) (.pur 3 (.pur 4 (.pur 5 (.pur 6 (.ite 6 (.skp 7 (.skp 8 (.skp 9 (.skp 10 (.skp 11 (.pur 12 (.pur 13 (.ite 13 (.skp 14 (.skp 15 (.skp 16 (.skp 17 (.skp 18 (.skp 19 (.skp 20 (.skp 21 (.skp 22 (.skp 23 (.skp 24 (.pur 25 (.pur 26 (.ite 26 (.skp 27 (.skp 28 (.skp 29 (.skp 30 (.skp 31 (.skp 32 (.skp 33 (.skp 34 (.skp 35 (.pur 36 .fin)))))))))) (.pur 27 (.pur 28 (.pur 29 (.pur 31 (.pur 32 (.pur 33 (.hld 30 (.hld 34 (.pur 35 (.pur 36 .fin)))))))))))))))))))))))) (.pur 14 (.pur 15 (.pur 16 (.pur 17 (.pur 18 (.pur 19 (.pur 20 (.pur 22 (.hld 21 (.hld 23 (.pur 24 (.pur 25 (.pur 26 (.ite 26 (.skp 27 (.skp 28 (.skp 29 (.skp 30 (.skp 31 (.skp 32 (.skp 33 (.skp 34 (.skp 35 (.pur 36 .fin)))))))))) (.pur 27 (.pur 28 (.pur 29 (.pur 31 (.pur 32 (.pur 33 (.hld 30 (.hld 34 (.pur 35 (.pur 36 .fin)))))))))))))))))))))))))))))))) (.pur 7 (.pur 9 (.hld 8 (.hld 10 (.pur 11 (.pur 12 (.pur 13 (.ite 13 (.skp 14 (.skp 15 (.skp 16 (.skp 17 (.skp 18 (.skp 19 (.skp 20 (.skp 21 (.skp 22 (.skp 23 (.skp 24 (.pur 25 (.pur 26 (.ite 26 (.skp 27 (.skp 28 (.skp 29 (.skp 30 (.skp 31 (.skp 32 (.skp 33 (.skp 34 (.skp 35 (.pur 36 .fin)))))))))) (.pur 27 (.pur 28 (.pur 29 (.pur 31 (.pur 32 (.pur 33 (.hld 30 (.hld 34 (.pur 35 (.pur 36 .fin)))))))))))))))))))))))) (.pur 14 (.pur 15 (.pur 16 (.pur 17 (.pur 18 (.pur 19 (.pur 20 (.pur 22 (.hld 21 (.hld 23 (.pur 24 (.pur 25 (.pur 26 (.ite 26 (.skp 27 (.skp 28 (.skp 29 (.skp 30 (.skp 31 (.skp 32 (.skp 33 (.skp 34 (.skp 35 (.pur 36 .fin)))))))))) (.pur 27 (.pur 28 (.pur 29 (.pur 31 (.pur 32 (.pur 33 (.hld 30 (.hld 34 (.pur 35 (.pur 36 .fin))))))))))))))))))))))))))))))))))))))))))
  (.c (.q (.r [.plain 1]) .s) .s)) (.q (.q (.r [.plain 4, .grp 2 [142] 8362779449448983678075894352243135564742656, .plain 1]) (.c (.q (.r [.plain 1]) .s) .s)) (.q (.r [.plain 7]) (.q (.r [.plain 3, .grp 5 [156] 176978713895539025251227460211737396911460581376, .plain 2, .grp 3 [161] 5115255730658160213712896914506990568795763900416, .plain 2, .grp 3 [166] 163688183381061126838812701264223698201464444813312, .plain 2]) .s)))))))))))))
def s4 (a0 b1 at2 : Value) (K : Value → World → Prop) (w : World) : Prop :=
 CallS Try.prog 5 [].toArray (fun t16 w =>
 PureS (notV t16) fun t17 =>
 CondS t17 (
 K (Value.bool false) w
 ) (
 PureS (lenSliceV a0) fun t19 =>
 PureS (binV .gtr t19 (Value.int .i64 4194304)) fun t20 =>
 JoinS (fun (t24 : Value) (w : World) =>
 PureS (pickV t20 (Value.bool true) t24) fun t25 =>
 CondS t25 (
 K (Value.bool true) w
 ) (
 CallS Try.prog 6 [(Value.int .i64 268435456)].toArray (fun t27 w =>
 PureS (extractV 0 t27) fun t28 =>
 PureS (extractV 1 t27) fun t29 =>
 PureS (binV .neq t29 (Value.int .i64 0)) fun t31 =>
 JoinS (fun (t34 : Value) (w : World) =>
 PureS (pickV t31 (Value.bool true) t34) fun t35 =>
 JoinS (fun (t39 : Value) (w : World) =>
 PureS (pickV t35 (Value.bool true) t39) fun t40 =>
 JoinS (fun (t44 : Value) (w : World) =>
 PureS (pickV t40 (Value.bool true) t44) fun t45 =>
 JoinS (fun (t49 : Value) (w : World) =>
 PureS (pickV t45 (Value.bool true) t49) fun t50 =>
 JoinS (fun (t54 : Value) (w : World) =>
 PureS (pickV t50 (Value.bool true) t54) fun t55 =>
 JoinS (fun (t60 : Value) (w : World) =>
 PureS (pickV t55 (Value.bool true) t60) fun t61 =>
 CondS t61 (
 K (Value.bool false) w
 ) (
 PureS (convIntV .i64 at2) fun t63 =>
 PureS (lenSliceV a0) fun t65 =>
 PureS (binV .add t65 (Value.int .i64 1)) fun t66 =>
 PureS (binV .rem t63 t66) fun t67 =>
 CallS Try.prog 17 [t28, (Value.string ⟨#[100, 47, 97]⟩), t67, b1].toArray (fun t71 w =>
 PureS (binV .neq t71 (Value.int .i64 0)) fun t72 =>
 JoinS (fun (t76 : Value) (w : World) =>
 PureS (pickV t72 (Value.bool true) t76) fun t77 =>
 JoinS (fun (t88 : Value) (w : World) =>
 PureS (pickV t77 (Value.bool true) t88) fun t89 =>
 CondS t89 (
 K (Value.bool false) w
 ) (
 CallS Try.prog 15 [t28, (Value.string ⟨#[100, 47, 97]⟩)].toArray (fun t92 w =>
 PureS (extractV 0 t92) fun t93 =>
 PureS (extractV 1 t92) fun t94 =>
 CallS Try.prog 15 [t28, (Value.string ⟨#[101, 47, 98]⟩)].toArray (fun t97 w =>
 PureS (extractV 0 t97) fun t98 =>
 PureS (extractV 1 t97) fun t99 =>
 JoinS (fun (t136 : Value) (w : World) =>
 CondS t136 (
 K (Value.bool false) w
 ) (
 CallS Try.prog 20 [t28, (Value.string ⟨#[100, 47, 97]⟩)].toArray (fun t138 w =>
 PureS (binV .neq t138 (Value.int .i64 0)) fun t139 =>
 JoinS (fun (t142 : Value) (w : World) =>
 PureS (pickV t139 (Value.bool true) t142) fun t143 =>
 CondS t143 (
 K (Value.bool false) w
 ) (
 CallS Try.prog 15 [t28, (Value.string ⟨#[101, 47, 98]⟩)].toArray (fun t146 w =>
 PureS (extractV 0 t146) fun t147 =>
 PureS (extractV 1 t146) fun t148 =>
 PureS (binV .eql t148 (Value.int .i64 0)) fun t150 =>
 JoinS (fun (t156 : Value) (w : World) =>
 PureS (pickV t150 t156 (Value.bool false)) fun t157 =>
 JoinS (fun (t161 : Value) (w : World) =>
 PureS (pickV t157 t161 (Value.bool false)) fun t162 =>
 JoinS (fun (t166 : Value) (w : World) =>
 PureS (pickV t162 t166 (Value.bool false)) fun t167 =>
 K t167 w
 ) fun J13 =>
 IfB t162 true (
 CallS Try.prog 19 [t28].toArray (fun t165 w =>
 PureS (binV .eql t165 (Value.int .i64 0)) fun t166_1 =>
 J13 t166_1 w
 ) w
 ) (
 J13 undef w
 )
 ) fun J12 =>
 IfB t157 true (
 CallS Try.prog 20 [t28, (Value.string ⟨#[101, 47, 98]⟩)].toArray (fun t160 w =>
 PureS (binV .eql t160 (Value.int .i64 0)) fun t161_1 =>
 J12 t161_1 w
 ) w
 ) (
 J12 undef w
 )
 ) fun J11 =>
 IfB t150 true (
 RunS Try.prog (convert 22 9 t147) (fun t153 w =>
 RunS Try.prog (convert 22 9 t93) (fun t155 w =>
 PureS (binV .eql t153 t155) fun t156_1 =>
 J11 t156_1 w
 ) w
 ) w
 ) (
 J11 undef w
 )
 ) w
 )
 ) fun J10 =>
 IfB t139 false (
 CallS Try.prog 18 [t28, (Value.string ⟨#[100, 47, 97]⟩), (Value.string ⟨#[101, 47, 98]⟩)].toArray (fun t142_1 w =>
 J10 t142_1 w
 ) w
 ) (
 J10 undef w
 )
 ) w
 )
 ) fun J9 =>
 DrawS fun S14 => S14 w.drew ∧ (
 PureS (binV .neq t94 (Value.int .i64 0)) fun t101 =>
 CondS t101 (
 PureS (pickV (Value.bool true) (Value.bool true) undef) fun t105 =>
 CondS t105 (
 PureS (pickV (Value.bool true) (Value.bool true) undef) fun t112 =>
 CondS t112 (
 PureS (pickV (Value.bool true) (Value.bool true) undef) fun t125 =>
 CondS t125 (
 PureS (pickV (Value.bool true) (Value.bool true) undef) fun t136_1 =>
 J9 t136_1 w.drew
 ) (
 PureS (sliceV 1 t93 none (some t67)) fun t129 =>
 PureS (sliceV 1 a0 none (some t67)) fun t133 =>
 HeldR Try.prog S14 (convert 22 9 t129) (fun t130 =>
 HeldR Try.prog S14 (convert 22 9 t133) (fun t134 =>
 PureS (binV .neq t130 t134) fun t135 =>
 PureS (pickV (Value.bool false) (Value.bool true) t135) fun t136_2 =>
 J9 t136_2 w.drew
 )
 )
 )
 ) (
 PureS (lenSliceV b1) fun t118 =>
 PureS (binV .add t67 t118) fun t119 =>
 PureS (sliceV 1 t93 (some t67) (some t119)) fun t120 =>
 HeldR Try.prog S14 (convert 22 9 t120) (fun t121 =>
 HeldR Try.prog S14 (convert 22 9 b1) (fun t123 =>
 PureS (binV .neq t121 t123) fun t124 =>
 PureS (pickV (Value.bool false) (Value.bool true) t124) fun t125_1 =>
 CondS t125_1 (
 PureS (pickV (Value.bool true) (Value.bool true) undef) fun t136_3 =>
 J9 t136_3 w.drew
 ) (
 PureS (sliceV 1 t93 none (some t67)) fun t129_1 =>
 PureS (sliceV 1 a0 none (some t67)) fun t133_1 =>
 HeldR Try.prog S14 (convert 22 9 t129_1) (fun t130_1 =>
 HeldR Try.prog S14 (convert 22 9 t133_1) (fun t134_1 =>
 PureS (binV .neq t130_1 t134_1) fun t135_1 =>
 PureS (pickV (Value.bool false) (Value.bool true) t135_1) fun t136_4 =>
 J9 t136_4 w.drew
 )
 )
 )
 )
 )
 )
 ) (
 HeldR Try.prog S14 (convert 22 9 t93) (fun t108 =>
 HeldR Try.prog S14 (convert 22 9 t98) (fun t110 =>
 PureS (binV .neq t108 t110) fun t111 =>
 PureS (pickV (Value.bool false) (Value.bool true) t111) fun t112_1 =>
 CondS t112_1 (
 PureS (pickV (Value.bool true) (Value.bool true) undef) fun t125_2 =>
 CondS t125_2 (
 PureS (pickV (Value.bool true) (Value.bool true) undef) fun t136_5 =>
 J9 t136_5 w.drew
 ) (
 PureS (sliceV 1 t93 none (some t67)) fun t129_2 =>
 PureS (sliceV 1 a0 none (some t67)) fun t133_2 =>
 HeldR Try.prog S14 (convert 22 9 t129_2) (fun t130_2 =>
 HeldR Try.prog S14 (convert 22 9 t133_2) (fun t134_2 =>
 PureS (binV .neq t130_2 t134_2) fun t135_2 =>
 PureS (pickV (Value.bool false) (Value.bool true) t135_2) fun t136_6 =>
 J9 t136_6 w.drew
 )
 )
 )
 ) (
 PureS (lenSliceV b1) fun t118_1 =>
 PureS (binV .add t67 t118_1) fun t119_1 =>
 PureS (sliceV 1 t93 (some t67) (some t119_1)) fun t120_1 =>
 HeldR Try.prog S14 (convert 22 9 t120_1) (fun t121_1 =>
 HeldR Try.prog S14 (convert 22 9 b1) (fun t123_1 =>
 PureS (binV .neq t121_1 t123_1) fun t124_1 =>
 PureS (pickV (Value.bool false) (Value.bool true) t124_1) fun t125_3 =>
 CondS t125_3 (
 PureS (pickV (Value.bool true) (Value.bool true) undef) fun t136_7 =>
 J9 t136_7 w.drew
 ) (
 PureS (sliceV 1 t93 none (some t67)) fun t129_3 =>
 PureS (sliceV 1 a0 none (some t67)) fun t133_3 =>
 HeldR Try.prog S14 (convert 22 9 t129_3) (fun t130_3 =>
 HeldR Try.prog S14 (convert 22 9 t133_3) (fun t134_3 =>
 PureS (binV .neq t130_3 t134_3) fun t135_3 =>
 PureS (pickV (Value.bool false) (Value.bool true) t135_3) fun t136_8 =>
 J9 t136_8 w.drew
 )
 )
 )
 )
 )
 )
 )
 )
 )
 ) (
 PureS (binV .neq t99 (Value.int .i64 0)) fun t104 =>
 PureS (pickV (Value.bool false) (Value.bool true) t104) fun t105_1 =>
 CondS t105_1 (
 PureS (pickV (Value.bool true) (Value.bool true) undef) fun t112_2 =>
 CondS t112_2 (
 PureS (pickV (Value.bool true) (Value.bool true) undef) fun t125_4 =>
 CondS t125_4 (
 PureS (pickV (Value.bool true) (Value.bool true) undef) fun t136_9 =>
 J9 t136_9 w.drew
 ) (
 PureS (sliceV 1 t93 none (some t67)) fun t129_4 =>
 PureS (sliceV 1 a0 none (some t67)) fun t133_4 =>
 HeldR Try.prog S14 (convert 22 9 t129_4) (fun t130_4 =>
 HeldR Try.prog S14 (convert 22 9 t133_4) (fun t134_4 =>
 PureS (binV .neq t130_4 t134_4) fun t135_4 =>
 PureS (pickV (Value.bool false) (Value.bool true) t135_4) fun t136_10 =>
 J9 t136_10 w.drew
 )
 )
 )
 ) (
 PureS (lenSliceV b1) fun t118_2 =>
 PureS (binV .add t67 t118_2) fun t119_2 =>
 PureS (sliceV 1 t93 (some t67) (some t119_2)) fun t120_2 =>
 HeldR Try.prog S14 (convert 22 9 t120_2) (fun t121_2 =>
 HeldR Try.prog S14 (convert 22 9 b1) (fun t123_2 =>
 PureS (binV .neq t121_2 t123_2) fun t124_2 =>
 PureS (pickV (Value.bool false) (Value.bool true) t124_2) fun t125_5 =>
 CondS t125_5 (
 PureS (pickV (Value.bool true) (Value.bool true) undef) fun t136_11 =>
 J9 t136_11 w.drew
 ) (
 PureS (sliceV 1 t93 none (some t67)) fun t129_5 =>
 PureS (sliceV 1 a0 none (some t67)) fun t133_5 =>
 HeldR Try.prog S14 (convert 22 9 t129_5) (fun t130_5 =>
 HeldR Try.prog S14 (convert 22 9 t133_5) (fun t134_5 =>
 PureS (binV .neq t130_5 t134_5) fun t135_5 =>
 PureS (pickV (Value.bool false) (Value.bool true) t135_5) fun t136_12 =>
 J9 t136_12 w.drew
 )
 )
 )
 )
 )
 )
 ) (
 HeldR Try.prog S14 (convert 22 9 t93) (fun t108_1 =>
 HeldR Try.prog S14 (convert 22 9 t98) (fun t110_1 =>
 PureS (binV .neq t108_1 t110_1) fun t111_1 =>
 PureS (pickV (Value.bool false) (Value.bool true) t111_1) fun t112_3 =>
 CondS t112_3 (
 PureS (pickV (Value.bool true) (Value.bool true) undef) fun t125_6 =>
 CondS t125_6 (
 PureS (pickV (Value.bool true) (Value.bool true) undef) fun t136_13 =>
 J9 t136_13 w.drew
 ) (
 PureS (sliceV 1 t93 none (some t67)) fun t129_6 =>
 PureS (sliceV 1 a0 none (some t67)) fun t133_6 =>
 HeldR Try.prog S14 (convert 22 9 t129_6) (fun t130_6 =>
 HeldR Try.prog S14 (convert 22 9 t133_6) (fun t134_6 =>
 PureS (binV .neq t130_6 t134_6) fun t135_6 =>
 PureS (pickV (Value.bool false) (Value.bool true) t135_6) fun t136_14 =>
 J9 t136_14 w.drew
 )
 )
 )
 ) (
 PureS (lenSliceV b1) fun t118_3 =>
 PureS (binV .add t67 t118_3) fun t119_3 =>
 PureS (sliceV 1 t93 (some t67) (some t119_3)) fun t120_3 =>
 HeldR Try.prog S14 (convert 22 9 t120_3) (fun t121_3 =>
 HeldR Try.prog S14 (convert 22 9 b1) (fun t123_3 =>
 PureS (binV .neq t121_3 t123_3) fun t124_3 =>
 PureS (pickV (Value.bool false) (Value.bool true) t124_3) fun t125_7 =>
 CondS t125_7 (
 PureS (pickV (Value.bool true) (Value.bool true) undef) fun t136_15 =>
 J9 t136_15 w.drew
 ) (
 PureS (sliceV 1 t93 none (some t67)) fun t129_7 =>
 PureS (sliceV 1 a0 none (some t67)) fun t133_7 =>
 HeldR Try.prog S14 (convert 22 9 t129_7) (fun t130_7 =>
 HeldR Try.prog S14 (convert 22 9 t133_7) (fun t134_7 =>
 PureS (binV .neq t130_7 t134_7) fun t135_7 =>
 PureS (pickV (Value.bool false) (Value.bool true) t135_7) fun t136_16 =>
 J9 t136_16 w.drew
 )
 )
 )
 )
 )
 )
 )
 )
 )
 )
 )
 ) w
 ) w
 )
 ) fun J8 =>
 IfB t77 false (
 CallS Try.prog 19 [t28].toArray (fun t80 w =>
 PureS (lenSliceV a0) fun t82 =>
 PureS (lenSliceV b1) fun t85 =>
 PureS (binV .add t67 t85) fun t86 =>
 PureS (maxV t82 t86) fun t87 =>
 PureS (binV .neq t80 t87) fun t88_1 =>
 J8 t88_1 w
 ) w
 ) (
 J8 undef w
 )
 ) fun J7 =>
 IfB t72 false (
 CallS Try.prog 18 [t28, (Value.string ⟨#[100, 47, 97]⟩), (Value.string ⟨#[101, 47, 98]⟩)].toArray (fun t75 w =>
 PureS (notV t75) fun t76_1 =>
 J7 t76_1 w
 ) w
 ) (
 J7 undef w
 )
 ) w
 )
 ) fun J6 =>
 IfB t55 false (
 CallS Try.prog 9 [t28, (Value.string ⟨#[101, 47, 98]⟩), a0].toArray (fun t59 w =>
 PureS (binV .neq t59 (Value.int .i64 0)) fun t60_1 =>
 J6 t60_1 w
 ) w
 ) (
 J6 undef w
 )
 ) fun J5 =>
 IfB t50 false (
 CallS Try.prog 16 [t28, (Value.string ⟨#[100, 47, 97]⟩), (Value.string ⟨#[101, 47, 98]⟩)].toArray (fun t53 w =>
 PureS (binV .neq t53 (Value.int .i64 0)) fun t54_1 =>
 J5 t54_1 w
 ) w
 ) (
 J5 undef w
 )
 ) fun J4 =>
 IfB t45 false (
 CallS Try.prog 8 [t28, (Value.string ⟨#[100, 47, 97]⟩)].toArray (fun t48 w =>
 PureS (binV .neq t48 (Value.int .i64 0)) fun t49_1 =>
 J4 t49_1 w
 ) w
 ) (
 J4 undef w
 )
 ) fun J3 =>
 IfB t40 false (
 CallS Try.prog 7 [t28, (Value.string ⟨#[101]⟩)].toArray (fun t43 w =>
 PureS (binV .neq t43 (Value.int .i64 0)) fun t44_1 =>
 J3 t44_1 w
 ) w
 ) (
 J3 undef w
 )
 ) fun J2 =>
 IfB t35 false (
 CallS Try.prog 7 [t28, (Value.string ⟨#[100]⟩)].toArray (fun t38 w =>
 PureS (binV .neq t38 (Value.int .i64 0)) fun t39_1 =>
 J2 t39_1 w
 ) w
 ) (
 J2 undef w
 )
 ) fun J1 =>
 IfB t31 false (
 RunS Try.prog (do eqGuard .eql 25 (Operand.tmp 33) (Operand.const (Value.pointer none)) t28 (Value.pointer none); binOp .eql 25 t28 (Value.pointer none)) (fun t34_1 w =>
 J1 t34_1 w
 ) w
 ) (
 J1 undef w
 )
 ) w
 )
 ) fun J0 =>
 IfB t20 false (
 PureS (lenSliceV b1) fun t23 =>
 PureS (binV .gtr t23 (Value.int .i64 4194304)) fun t24_1 =>
 J0 t24_1 w
 ) (
 J0 undef w
 )
 )
 ) w
theorem s4_den (a0 b1 at2 : Value) (K : Value → World → Prop) (w : World) : denFn Try.prog false (bodyOf Try.f4) Try.f4.results a4 [a0, b1, at2] K NoP w = s4 a0 b1 at2 K w := by kernel_rfl
theorem s4_dst : dstsOk (3 + 165) (bodyOf Try.f4) = true := by kernel_rfl
theorem s4_ann : annOk (bodyOf Try.f4) a4 = true := by kernel_rfl
theorem s4_call {a0 b1 at2 : Value} {K : Value → World → Prop} {w : World} (hm : Try.prog.follows .mixedOrders = true) (h : s4 a0 b1 at2 K w) : CallS Try.prog 4 #[a0, b1, at2] K w :=
  fn_call (args := [a0, b1, at2]) (m := 165) hm Try.func4 (by kernel_rfl) (rs := Try.f4.results) rfl Try.ntmps4 s4_dst s4_ann (by rw [s4_den]; exact h)

/-! number 5 -/
def a5 : Ann :=
 (.q (.r [.plain 1]) (.q (.r [.plain 6]) (.q (.q (.r [.plain 3, .grp 2 [13] 12288, .plain 2, .grp 3 [18] 458752, .plain 2, .grp 3 [23] 14680064, .plain 2, .grp 5 [30] 2080374784, .plain 2, .grp 3 [35] 60129542144, .plain 2, .grp 5 [42] 8521215115264, .plain 2, .grp 3 [47] 246290604621824, .plain 1]) (.c (.q (.r [.plain 1]) .s) .s)) (.q (.r [.plain 3]) (.q (.r [.plain 7]) (.q (.r [.plain 3, .grp 3 [62] 8070450532247928832, .plain 2]) .s))))))
def s5 (K : Value → World → Prop) (w : World) : Prop :=
 CallS Try.prog 6 [(Value.int .i64 100)].toArray (fun t6 w =>
 PureS (extractV 0 t6) fun t7 =>
 PureS (extractV 1 t6) fun t8 =>
 PureS (binV .neq t8 (Value.int .i64 0)) fun t10 =>
 JoinS (fun (t13 : Value) (w : World) =>
 PureS (pickV t10 (Value.bool true) t13) fun t14 =>
 JoinS (fun (t18 : Value) (w : World) =>
 PureS (pickV t14 (Value.bool true) t18) fun t19 =>
 JoinS (fun (t23 : Value) (w : World) =>
 PureS (pickV t19 (Value.bool true) t23) fun t24 =>
 JoinS (fun (t30 : Value) (w : World) =>
 PureS (pickV t24 (Value.bool true) t30) fun t31 =>
 JoinS (fun (t35 : Value) (w : World) =>
 PureS (pickV t31 (Value.bool true) t35) fun t36 =>
 JoinS (fun (t42 : Value) (w : World) =>
 PureS (pickV t36 (Value.bool true) t42) fun t43 =>
 JoinS (fun (t47 : Value) (w : World) =>
 PureS (pickV t43 (Value.bool true) t47) fun t48 =>
 CondS t48 (
 K (Value.bool false) w
 ) (
 RunS Try.prog (Instr.buildSlice 23 1 [(0, (Value.int .i64 1))].toArray) (fun t50 w =>
 CallS Try.prog 14 [t7, t50, (Value.slice none 0 0)].toArray (fun t51 w =>
 CallS Try.prog 15 [t7, (Value.string ⟨#[100, 47, 97]⟩)].toArray (fun t54 w =>
 PureS (extractV 0 t54) fun t55 =>
 PureS (extractV 1 t54) fun t56 =>
 PureS (binV .eql t56 (Value.int .i64 0)) fun t58 =>
 JoinS (fun (t62 : Value) (w : World) =>
 PureS (pickV t58 t62 (Value.bool false)) fun t63 =>
 K t63 w
 ) fun J7 =>
 IfB t58 true (
 RunS Try.prog (convert 22 9 t55) (fun t61 w =>
 PureS (binV .eql t61 (Value.string ⟨#[120, 85, 122]⟩)) fun t62_1 =>
 J7 t62_1 w
 ) w
 ) (
 J7 undef w
 )
 ) w
 ) w
 ) w
 )
 ) fun J6 =>
 IfB t43 false (
 CallS Try.prog 11 [t7, (Value.string ⟨#[100]⟩)].toArray (fun t46 w =>
 PureS (binV .neq t46 (Value.int .i64 0)) fun t47_1 =>
 J6 t47_1 w
 ) w
 ) (
 J6 undef w
 )
 ) fun J5 =>
 IfB t36 false (
 RunS Try.prog (Instr.buildSlice 22 2 [(0, (Value.int .u8 85)), (1, (Value.int .u8 86))].toArray) (fun t39 w =>
 RunS Try.prog (convert 22 22 t39) (fun t40 w =>
 CallS Try.prog 17 [t7, (Value.string ⟨#[100, 47, 97]⟩), (Value.int .i64 1), t40].toArray (fun t41 w =>
 PureS (binV .neq t41 (Value.int .i64 0)) fun t42_1 =>
 J5 t42_1 w
 ) w
 ) w
 ) w
 ) (
 J5 undef w
 )
 ) fun J4 =>
 IfB t31 false (
 CallS Try.prog 10 [t7, (Value.string ⟨#[100, 47, 97]⟩)].toArray (fun t34 w =>
 PureS (binV .neq t34 (Value.int .i64 0)) fun t35_1 =>
 J4 t35_1 w
 ) w
 ) (
 J4 undef w
 )
 ) fun J3 =>
 IfB t24 false (
 RunS Try.prog (Instr.buildSlice 22 3 [(0, (Value.int .u8 120)), (1, (Value.int .u8 121)), (2, (Value.int .u8 122))].toArray) (fun t27 w =>
 RunS Try.prog (convert 22 22 t27) (fun t28 w =>
 CallS Try.prog 9 [t7, (Value.string ⟨#[100, 47, 97]⟩), t28].toArray (fun t29 w =>
 PureS (binV .neq t29 (Value.int .i64 0)) fun t30_1 =>
 J3 t30_1 w
 ) w
 ) w
 ) w
 ) (
 J3 undef w
 )
 ) fun J2 =>
 IfB t19 false (
 CallS Try.prog 8 [t7, (Value.string ⟨#[100, 47, 97]⟩)].toArray (fun t22 w =>
 PureS (binV .neq t22 (Value.int .i64 0)) fun t23_1 =>
 J2 t23_1 w
 ) w
 ) (
 J2 undef w
 )
 ) fun J1 =>
 IfB t14 false (
 CallS Try.prog 7 [t7, (Value.string ⟨#[100]⟩)].toArray (fun t17 w =>
 PureS (binV .neq t17 (Value.int .i64 0)) fun t18_1 =>
 J1 t18_1 w
 ) w
 ) (
 J1 undef w
 )
 ) fun J0 =>
 IfB t10 false (
 RunS Try.prog (do eqGuard .eql 25 (Operand.tmp 12) (Operand.const (Value.pointer none)) t7 (Value.pointer none); binOp .eql 25 t7 (Value.pointer none)) (fun t13_1 w =>
 J0 t13_1 w
 ) w
 ) (
 J0 undef w
 )
 ) w
theorem s5_den (K : Value → World → Prop) (w : World) : denFn Try.prog false (bodyOf Try.f5) Try.f5.results a5 [] K NoP w = s5 K w := by kernel_rfl
theorem s5_dst : dstsOk (0 + 64) (bodyOf Try.f5) = true := by kernel_rfl
theorem s5_ann : annOk (bodyOf Try.f5) a5 = true := by kernel_rfl
theorem s5_call {K : Value → World → Prop} {w : World} (hm : Try.prog.follows .mixedOrders = true) (h : s5 K w) : CallS Try.prog 5 #[] K w :=
  fn_call (args := []) (m := 64) hm Try.func5 (by kernel_rfl) (rs := Try.f5.results) rfl Try.ntmps5 s5_dst s5_ann (by rw [s5_den]; exact h)

/-! number 6 -/
def a6 : Ann :=
 (.q (.r [.plain 2]) (.q (.q (.r [.plain 3, .grp 2 [8] 384, .plain 1]) (.c (.q (.r [.plain 2]) .s) .s)) (.q (.r [.plain 6]) .s)))
def s6 (quota0 : Value) (K : Value → World → Prop) (w : World) : Prop :=
 PureS (binV .lss quota0 (Value.int .i64 0)) fun t5 =>
 JoinS (fun (t8 : Value) (w : World) =>
 PureS (pickV t5 (Value.bool true) t8) fun t9 =>
 CondS t9 (
 K (Value.tuple [(Value.pointer none), (Value.int .i64 1)].toArray) w
 ) (
 RunS Try.prog (Instr.makeMap 42 none) (fun t11 w =>
 RunS Try.prog (Instr.build 46 [(0, quota0), (1, t11)].toArray) (fun t12 w =>
 BoxS 46 t12 (fun t13 w =>
 K (Value.tuple [t13, (Value.int .i64 0)].toArray) w
 ) w
 ) w
 ) w
 )
 ) fun J0 =>
 IfB t5 false (
 PureS (binV .gtr quota0 (Value.int .i64 268435456)) fun t8_1 =>
 J0 t8_1 w
 ) (
 J0 undef w
 )
theorem s6_den (quota0 : Value) (K : Value → World → Prop) (w : World) : denFn Try.prog false (bodyOf Try.f6) Try.f6.results a6 [quota0] K NoP w = s6 quota0 K w := by kernel_rfl
theorem s6_dst : dstsOk (1 + 13) (bodyOf Try.f6) = true := by kernel_rfl
theorem s6_ann : annOk (bodyOf Try.f6) a6 = true := by kernel_rfl
theorem s6_call {quota0 : Value} {K : Value → World → Prop} {w : World} (hm : Try.prog.follows .mixedOrders = true) (h : s6 quota0 K w) : CallS Try.prog 6 #[quota0] K w :=
  fn_call (args := [quota0]) (m := 13) hm Try.func6 (by kernel_rfl) (rs := Try.f6.results) rfl Try.ntmps6 s6_dst s6_ann (by rw [s6_den]; exact h)

/-! number 7 -/
def a7 : Ann :=
 (.q (.r [.plain 1]) (.q (.q (.r [.plain 3]) (.c (.q (.r [.plain 1]) .s) .s)) (.q (.q (.r [.plain 11]) (.q (.r [.plain 1]) (.c (.q (.r [.plain 1]) .s) .s))) (.q (.q (.r [.plain 6]) (.c (.q (.r [.plain 1]) .s) .s)) (.q (.q (.r [.plain 7]) (.q (.r [.plain 2]) (.c (.q (.r [.plain 2]) .s) .s))) (.q (.r [.plain 9]) (.q (.r [.plain 1]) .s)))))))
def s7 (f0 name1 : Value) (K : Value → World → Prop) (w : World) : Prop :=
 CallS Try.prog 21 [name1].toArray (fun t10 w =>
 PureS (notV t10) fun t11 =>
 CondS t11 (
 K (Value.int .i64 1) w
 ) (
 PureS (nilV f0) fun t14 =>
 PureS (fieldAddrV 1 t14) fun t15 =>
 LoadC t15 (fun t16 w =>
 RunS Try.prog (Instr.lookup 42 t16 name1 true) (fun t18 w =>
 PureS (extractV 0 t18) fun t19 =>
 PureS (extractV 1 t18) fun t20 =>
 CondS t20 (
 K (Value.int .i64 7) w
 ) (
 PureS (nilV f0) fun t23 =>
 PureS (fieldAddrV 1 t23) fun t24 =>
 LoadC t24 (fun t25 w =>
 RunS Try.prog (Builtin.len_ #[42] 3 [t25].toArray) (fun t26 w =>
 PureS (binV .geq t26 (Value.int .i64 64)) fun t27 =>
 CondS t27 (
 K (Value.int .i64 2) w
 ) (
 CallS Try.prog 22 [f0].toArray (fun t30 w =>
 PureS (extractV 0 t30) fun t31 =>
 PureS (extractV 1 t30) fun t32 =>
 PureS (binV .neq t31 (Value.int .i64 0)) fun t34 =>
 CondS t34 (
 K t31 w
 ) (
 PureS (nilV f0) fun t37 =>
 PureS (fieldAddrV 1 t37) fun t38 =>
 LoadC t38 (fun t39 w =>
 RunS Try.prog (Instr.makeMap 53 none) (fun t41 w =>
 RunS Try.prog (Instr.build 56 [(0, t41)].toArray) (fun t42 w =>
 BoxS 56 t42 (fun t43 w =>
 RunU Try.prog (Instr.mapUpdate 42 t39 name1 t43) (fun w =>
 K (Value.int .i64 0) w
 ) w
 ) w
 ) w
 ) w
 ) w
 )
 ) w
 )
 ) w
 ) w
 )
 ) w
 ) w
 )
 ) w
theorem s7_den (f0 name1 : Value) (K : Value → World → Prop) (w : World) : denFn Try.prog false (bodyOf Try.f7) Try.f7.results a7 [f0, name1] K NoP w = s7 f0 name1 K w := by kernel_rfl
theorem s7_dst : dstsOk (2 + 42) (bodyOf Try.f7) = true := by kernel_rfl
theorem s7_ann : annOk (bodyOf Try.f7) a7 = true := by kernel_rfl
theorem s7_call {f0 name1 : Value} {K : Value → World → Prop} {w : World} (hm : Try.prog.follows .mixedOrders = true) (h : s7 f0 name1 K w) : CallS Try.prog 7 #[f0, name1] K w :=
  fn_call (args := [f0, name1]) (m := 42) hm Try.func7 (by kernel_rfl) (rs := Try.f7.results) rfl Try.ntmps7 s7_dst s7_ann (by rw [s7_den]; exact h)

/-! number 8 -/
def a8 : Ann :=
 (.q (.r [.plain 1]) (.q (.r [.plain 11]) (.q (.q (.r [.plain 2]) (.c (.q (.r [.plain 2]) .s) .s)) (.q (.q (.d [0, 1, 3, 7, 0, 31, 63, 127, 127, 255, 1023] (.pur 0 (.pur 1 (.pur 2 (.hld 3 (.hld 4 (.hld 5 (.pur 6 (.pur 7 (.pur 8 (.pur 9 (.pur 10 .fin)))))))))))) (.q (.r [.plain 1]) (.c (.q (.r [.plain 1]) .s) .s))) (.q (.q (.r [.plain 6]) (.c (.q (.r [.plain 1]) .s) .s)) (.q (.q (.r [.plain 7]) (.q (.r [.plain 2]) (.c (.q (.r [.plain 2]) .s) .s))) (.q (.r [.plain 3]) (.q (.r [.plain 1]) .s))))))))
def s8 (f0 path1 : Value) (K : Value → World → Prop) (w : World) : Prop :=
 CallS Try.prog 23 [f0, path1].toArray (fun t15 w =>
 PureS (extractV 0 t15) fun t16 =>
 PureS (extractV 1 t15) fun t17 =>
 PureS (extractV 2 t15) fun t18 =>
 BoxS 9 (Value.string ⟨#[]⟩) (fun name6 w =>
 StoreC name6 t17 (fun w =>
 PureS (binV .neq t18 (Value.int .i64 0)) fun t20 =>
 CondS t20 (
 K t18 w
 ) (
 DrawS fun S0 => S0 w.drew ∧ (
 PureS (nilV t16) fun t24 =>
 PureS (fieldAddrV 0 t24) fun t25 =>
 HeldC S0 t25 (fun t26 =>
 HeldC S0 name6 (fun t27 =>
 HeldR Try.prog S0 (Instr.lookup 53 t26 t27 true) (fun t28 =>
 PureS (extractV 0 t28) fun t29 =>
 PureS (extractV 1 t28) fun t30 =>
 CondS t30 (
 K (Value.int .i64 7) w.drew
 ) (
 PureS (nilV t16) fun t33 =>
 PureS (fieldAddrV 0 t33) fun t34 =>
 LoadC t34 (fun t35 w =>
 RunS Try.prog (Builtin.len_ #[53] 3 [t35].toArray) (fun t36 w =>
 PureS (binV .geq t36 (Value.int .i64 1024)) fun t37 =>
 CondS t37 (
 K (Value.int .i64 2) w
 ) (
 CallS Try.prog 22 [f0].toArray (fun t40 w =>
 PureS (extractV 0 t40) fun t41 =>
 PureS (extractV 1 t40) fun t42 =>
 PureS (binV .neq t41 (Value.int .i64 0)) fun t44 =>
 CondS t44 (
 K t41 w
 ) (
 CallS Try.prog 24 [t16, (Value.func (Fn.func 25) [].toArray [name6].toArray)].toArray (fun t48 w =>
 K (Value.int .i64 0) w
 ) w
 )
 ) w
 )
 ) w
 ) w.drew
 )
 )
 )
 )
 )
 )
 ) w
 ) w
 ) w
theorem s8_den (f0 path1 : Value) (K : Value → World → Prop) (w : World) : denFn Try.prog false (bodyOf Try.f8) Try.f8.results a8 [f0, path1] K NoP w = s8 f0 path1 K w := by kernel_rfl
theorem s8_dst : dstsOk (2 + 47) (bodyOf Try.f8) = true := by kernel_rfl
theorem s8_ann : annOk (bodyOf Try.f8) a8 = true := by kernel_rfl
theorem s8_call {f0 path1 : Value} {K : Value → World → Prop} {w : World} (hm : Try.prog.follows .mixedOrders = true) (h : s8 f0 path1 K w) : CallS Try.prog 8 #[f0, path1] K w :=
  fn_call (args := [f0, path1]) (m := 47) hm Try.func8 (by kernel_rfl) (rs := Try.f8.results) rfl Try.ntmps8 s8_dst s8_ann (by rw [s8_den]; exact h)

/-! number 9 -/
def a9 : Ann :=
 (.q (.r [.plain 1]) (.q (.r [.plain 8]) (.q (.q (.r [.plain 2]) (.c (.q (.r [.plain 2]) .s) .s)) (.q (.r [.plain 10]) .s))))
def s9 (f0 path1 b2 : Value) (K : Value → World → Prop) (w : World) : Prop :=
 CallS Try.prog 26 [f0, path1].toArray (fun t12 w =>
 PureS (extractV 0 t12) fun t13 =>
 PureS (extractV 1 t12) fun t14 =>
 PureS (binV .neq t14 (Value.int .i64 0)) fun t16 =>
 CondS t16 (
 K t14 w
 ) (
 PureS (nilV t13) fun t21 =>
 PureS (fieldAddrV 2 t21) fun t22 =>
 LoadC t22 (fun t23 w =>
 PureS (lenSliceV t23) fun t24 =>
 CallS Try.prog 27 [f0, t13, t24, b2].toArray (fun t26 w =>
 K t26 w
 ) w
 ) w
 )
 ) w
theorem s9_den (f0 path1 b2 : Value) (K : Value → World → Prop) (w : World) : denFn Try.prog false (bodyOf Try.f9) Try.f9.results a9 [f0, path1, b2] K NoP w = s9 f0 path1 b2 K w := by kernel_rfl
theorem s9_dst : dstsOk (3 + 24) (bodyOf Try.f9) = true := by kernel_rfl
theorem s9_ann : annOk (bodyOf Try.f9) a9 = true := by kernel_rfl
theorem s9_call {f0 path1 b2 : Value} {K : Value → World → Prop} {w : World} (hm : Try.prog.follows .mixedOrders = true) (h : s9 f0 path1 b2 K w) : CallS Try.prog 9 #[f0, path1, b2] K w :=
  fn_call (args := [f0, path1, b2]) (m := 24) hm Try.func9 (by kernel_rfl) (rs := Try.f9.results) rfl Try.ntmps9 s9_dst s9_ann (by rw [s9_den]; exact h)

/-! number 10 -/
def a10 : Ann :=
 (.q (.r [.plain 1]) (.q (.r [.plain 8]) (.q (.q (.r [.plain 2]) (.c (.q (.r [.plain 2]) .s) .s)) (.q (.q (.r [.plain 7]) (.q (.r [.plain 2]) (.c (.q (.r [.plain 2]) .s) .s))) (.q (.r [.plain 12]) (.q (.r [.plain 1]) .s))))))
def s10 (f0 path1 : Value) (K : Value → World → Prop) (w : World) : Prop :=
 CallS Try.prog 26 [f0, path1].toArray (fun t12 w =>
 PureS (extractV 0 t12) fun t13 =>
 PureS (extractV 1 t12) fun t14 =>
 PureS (binV .neq t14 (Value.int .i64 0)) fun t16 =>
 CondS t16 (
 K t14 w
 ) (
 CallS Try.prog 22 [f0].toArray (fun t20 w =>
 PureS (extractV 0 t20) fun t21 =>
 PureS (extractV 1 t20) fun t22 =>
 PureS (binV .neq t21 (Value.int .i64 0)) fun t24 =>
 CondS t24 (
 K t21 w
 ) (
 PureS (nilV t13) fun t29 =>
 PureS (fieldAddrV 2 t29) fun t30 =>
 LoadC t30 (fun t31 w =>
 PureS (nilV t13) fun t32 =>
 PureS (fieldAddrV 0 t32) fun t33 =>
 StoreC t33 t31 (fun w =>
 PureS (nilV t13) fun t34 =>
 PureS (fieldAddrV 1 t34) fun t35 =>
 StoreC t35 (Value.slice none 0 0) (fun w =>
 K (Value.int .i64 0) w
 ) w
 ) w
 ) w
 )
 ) w
 )
 ) w
theorem s10_den (f0 path1 : Value) (K : Value → World → Prop) (w : World) : denFn Try.prog false (bodyOf Try.f10) Try.f10.results a10 [f0, path1] K NoP w = s10 f0 path1 K w := by kernel_rfl
theorem s10_dst : dstsOk (2 + 34) (bodyOf Try.f10) = true := by kernel_rfl
theorem s10_ann : annOk (bodyOf Try.f10) a10 = true := by kernel_rfl
theorem s10_call {f0 path1 : Value} {K : Value → World → Prop} {w : World} (hm : Try.prog.follows .mixedOrders = true) (h : s10 f0 path1 K w) : CallS Try.prog 10 #[f0, path1] K w :=
  fn_call (args := [f0, path1]) (m := 34) hm Try.func10 (by kernel_rfl) (rs := Try.f10.results) rfl Try.ntmps10 s10_dst s10_ann (by rw [s10_den]; exact h)

/-! number 11 -/
def a11 : Ann :=
 (.q (.r [.plain 1]) (.q (.r [.plain 8]) (.q (.q (.r [.plain 2]) (.c (.q (.r [.plain 2]) .s) .s)) (.q (.q (.r [.plain 7]) (.q (.r [.plain 2]) (.c (.q (.r [.plain 2]) .s) .s))) (.q (.r [.plain 4]) (.q (.r [.plain 1]) .s))))))
def s11 (f0 name1 : Value) (K : Value → World → Prop) (w : World) : Prop :=
 CallS Try.prog 28 [f0, name1].toArray (fun t12 w =>
 PureS (extractV 0 t12) fun t13 =>
 PureS (extractV 1 t12) fun t14 =>
 PureS (binV .neq t14 (Value.int .i64 0)) fun t16 =>
 CondS t16 (
 K t14 w
 ) (
 CallS Try.prog 22 [f0].toArray (fun t20 w =>
 PureS (extractV 0 t20) fun t21 =>
 PureS (extractV 1 t20) fun t22 =>
 PureS (binV .neq t21 (Value.int .i64 0)) fun t24 =>
 CondS t24 (
 K t21 w
 ) (
 PureS (nilV t13) fun t27 =>
 PureS (fieldAddrV 1 t27) fun t28 =>
 StoreC t28 (Value.slice none 0 0) (fun w =>
 K (Value.int .i64 0) w
 ) w
 )
 ) w
 )
 ) w
theorem s11_den (f0 name1 : Value) (K : Value → World → Prop) (w : World) : denFn Try.prog false (bodyOf Try.f11) Try.f11.results a11 [f0, name1] K NoP w = s11 f0 name1 K w := by kernel_rfl
theorem s11_dst : dstsOk (2 + 27) (bodyOf Try.f11) = true := by kernel_rfl
theorem s11_ann : annOk (bodyOf Try.f11) a11 = true := by kernel_rfl
theorem s11_call {f0 name1 : Value} {K : Value → World → Prop} {w : World} (hm : Try.prog.follows .mixedOrders = true) (h : s11 f0 name1 K w) : CallS Try.prog 11 #[f0, name1] K w :=
  fn_call (args := [f0, name1]) (m := 27) hm Try.func11 (by kernel_rfl) (rs := Try.f11.results) rfl Try.ntmps11 s11_dst s11_ann (by rw [s11_den]; exact h)

/-! number 12 -/
def a12 : Ann :=
 (.r [.plain 6])
def s12 (f0 n1 : Value) (K : Value → World → Prop) (w : World) : Prop :=
 RunS Try.prog (Instr.build 44 [(0, n1), (1, (Value.int .i64 (-1)))].toArray) (fun t6 w =>
 PureS (nilV f0) fun t7 =>
 PureS (fieldAddrV 5 t7) fun t8 =>
 StoreA 3 t8 t6 (fun w =>
 K (Value.tuple [].toArray) w
 ) w
 ) w
theorem s12_den (f0 n1 : Value) (K : Value → World → Prop) (w : World) : denFn Try.prog false (bodyOf Try.f12) Try.f12.results a12 [f0, n1] K NoP w = s12 f0 n1 K w := by kernel_rfl
theorem s12_dst : dstsOk (2 + 7) (bodyOf Try.f12) = true := by kernel_rfl
theorem s12_ann : annOk (bodyOf Try.f12) a12 = true := by kernel_rfl
theorem s12_call {f0 n1 : Value} {K : Value → World → Prop} {w : World} (hm : Try.prog.follows .mixedOrders = true) (h : s12 f0 n1 K w) : CallS Try.prog 12 #[f0, n1] K w :=
  fn_call (args := [f0, n1]) (m := 7) hm Try.func12 (by kernel_rfl) (rs := Try.f12.results) rfl Try.ntmps12 s12_dst s12_ann (by rw [s12_den]; exact h)

/-! number 13 -/
def a13 : Ann :=
 (.q (.r [.plain 1]) (.q (.r [.plain 20]) (.q (.q (.r [.plain 2]) (.c (.q (.r [.plain 2]) .s) .s)) (.q (.q (.d [0, 1, 3, 7, 0, 31, 63, 127, 127, 255, 1023] (.pur 0 (.pur 1 (.pur 2 (.hld 3 (.hld 4 (.hld 5 (.pur 6 (.pur 7 (.pur 8 (.pur 9 (.pur 10 .fin)))))))))))) (.q (.r [.plain 3, .grp 3 [45] 61572651155456, .plain 2, .grp 6 [53] 17732923532771328, .plain 1]) (.c (.q (.r [.plain 1]) .s) .s))) (.q (.q (.r [.plain 7]) (.q (.r [.plain 3, .grp 3 [65] 64563604257983430656, .plain 1]) (.c (.q (.r [.plain 2]) .s) .s))) (.q (.q (.r [.plain 3]) (.c (.q (.r [.plain 3]) (.q (.r [.plain 1]) .s)) .s)) (.q (.r [.plain 3]) (.q (.r [.plain 3]) (.q (.r [.plain 1]) .s)))))))))
def s13 (f0 from1 to2 : Value) (K : Value → World → Prop) (w : World) : Prop :=
 CallS Try.prog 29 [f0, from1, to2].toArray (fun t21 w =>
 PureS (extractV 0 t21) fun t22 =>
 PureS (extractV 1 t21) fun t23 =>
 PureS (extractV 2 t21) fun t24 =>
 PureS (extractV 3 t21) fun t25 =>
 PureS (extractV 4 t21) fun t26 =>
 PureS (extractV 5 t21) fun t27 =>
 BoxS 9 (Value.string ⟨#[]⟩) (fun x9 w =>
 BoxS 9 (Value.string ⟨#[]⟩) (fun y10 w =>
 BoxS 59 (Value.pointer none) (fun it11 w =>
 StoreC x9 t24 (fun w =>
 StoreC y10 t25 (fun w =>
 StoreC it11 t26 (fun w =>
 PureS (binV .neq t27 (Value.int .i64 0)) fun t29 =>
 CondS t29 (
 K t27 w
 ) (
 DrawS fun S0 => S0 w.drew ∧ (
 PureS (nilV t23) fun t33 =>
 PureS (fieldAddrV 0 t33) fun t34 =>
 HeldC S0 t34 (fun t35 =>
 HeldC S0 y10 (fun t36 =>
 HeldR Try.prog S0 (Instr.lookup 53 t35 t36 true) (fun t37 =>
 PureS (extractV 0 t37) fun t38 =>
 PureS (extractV 1 t37) fun t39 =>
 PureS (notV t39) fun t41 =>
 JoinS (fun (t45 : Value) (w : World) =>
 PureS (pickV t41 t45 (Value.bool false)) fun t46 =>
 JoinS (fun (t53 : Value) (w : World) =>
 PureS (pickV t46 t53 (Value.bool false)) fun t54 =>
 CondS t54 (
 K (Value.int .i64 2) w
 ) (
 CallS Try.prog 22 [f0].toArray (fun t57 w =>
 PureS (extractV 0 t57) fun t58 =>
 PureS (extractV 1 t57) fun t59 =>
 PureS (binV .neq t58 (Value.int .i64 0)) fun t61 =>
 JoinS (fun (t65 : Value) (w : World) =>
 PureS (pickV t61 (Value.bool true) t65) fun t66 =>
 CondS t66 (
 K t58 w
 ) (
 RunS Try.prog (do eqGuard .eql 48 (Operand.tmp 68) (Operand.tmp 69) t22 t23; binOp .eql 48 t22 t23) (fun t70 w =>
 CondS t70 (
 CallS Try.prog 24 [t22, (Value.func (Fn.func 30) [].toArray [x9, it11, y10].toArray)].toArray (fun t73 w =>
 K (Value.int .i64 0) w
 ) w
 ) (
 CallS Try.prog 24 [t23, (Value.func (Fn.func 31) [].toArray [it11, y10].toArray)].toArray (fun t76 w =>
 CallS Try.prog 24 [t22, (Value.func (Fn.func 32) [].toArray [x9].toArray)].toArray (fun t79 w =>
 K (Value.int .i64 0) w
 ) w
 ) w
 )
 ) w
 )
 ) fun J3 =>
 IfB t61 false (
 PureS (binV .eql from1 to2) fun t65_1 =>
 J3 t65_1 w
 ) (
 J3 undef w
 )
 ) w
 )
 ) fun J2 =>
 IfB t46 true (
 PureS (nilV t23) fun t49 =>
 PureS (fieldAddrV 0 t49) fun t50 =>
 LoadC t50 (fun t51 w =>
 RunS Try.prog (Builtin.len_ #[53] 3 [t51].toArray) (fun t52 w =>
 PureS (binV .geq t52 (Value.int .i64 1024)) fun t53_1 =>
 J2 t53_1 w
 ) w
 ) w
 ) (
 J2 undef w
 )
 ) fun J1 =>
 IfB t41 true (
 RunS Try.prog (do eqGuard .neq 48 (Operand.tmp 43) (Operand.tmp 44) t22 t23; binOp .neq 48 t22 t23) (fun t45_1 w =>
 J1 t45_1 w
 ) w.drew
 ) (
 J1 undef w.drew
 )
 )
 )
 )
 )
 )
 ) w
 ) w
 ) w
 ) w
 ) w
 ) w
 ) w
theorem s13_den (f0 from1 to2 : Value) (K : Value → World → Prop) (w : World) : denFn Try.prog false (bodyOf Try.f13) Try.f13.results a13 [f0, from1, to2] K NoP w = s13 f0 from1 to2 K w := by kernel_rfl
theorem s13_dst : dstsOk (3 + 77) (bodyOf Try.f13) = true := by kernel_rfl
theorem s13_ann : annOk (bodyOf Try.f13) a13 = true := by kernel_rfl
theorem s13_call {f0 from1 to2 : Value} {K : Value → World → Prop} {w : World} (hm : Try.prog.follows .mixedOrders = true) (h : s13 f0 from1 to2 K w) : CallS Try.prog 13 #[f0, from1, to2] K w :=
  fn_call (args := [f0, from1, to2]) (m := 77) hm Try.func13 (by kernel_rfl) (rs := Try.f13.results) rfl Try.ntmps13 s13_dst s13_ann (by rw [s13_den]; exact h)

/-! number 14 -/
def a14 : Ann :=
 (.q (.r [.plain 7]) (.j [] 36893488147419041280 (.q (.r [.plain 4]) (.b (.l [19] 36893488147418582528 (.q (.r [.plain 1]) (.q (.c .s .s) (.j [] 18446744073707458048 (.b (.q (.r [.plain 3]) (.q (.r [.plain 7]) (.q (.q (.r [.plain 6]) (.c .s .s)) (.j [] 2305842974853957632 (.q (.d [0, 1, 0, 4, 12, 28, 60, 124, 255, 511] (.pur 0 (.pur 2 (.pur 3 (.pur 4 (.hld 5 (.pur 6 (.pur 7 (.act 1 (.pur 8 (.pur 9 .fin))))))))))) (.q (.r [.plain 7]) (.c (.r [.plain 11]) .s)))
  (.r [.plain 4]))))))
  (.r [.plain 2])))))))
  (.q (.r [.plain 3]) (.r [.plain 10]))))
def s14 (f0 keeps1 changes2 : Value) (K : Value → World → Prop) (w : World) : Prop :=
 CallS Try.prog 33 [keeps1].toArray (fun t13 w =>
 CallS Try.prog 33 [changes2].toArray (fun t15 w =>
 BoxS 40 Value.nilFunc (fun keep6 w =>
 StoreC keep6 t13 (fun w =>
 JoinS (fun (w : World) =>
 CallS Try.prog 35 [f0, (Value.func (Fn.func 36) [].toArray [keep6].toArray)].toArray (fun t67 w =>
 RunS Try.prog (Instr.build 44 [].toArray) (fun t70 w =>
 RunS Try.prog (Instr.build 44 [].toArray) (fun t71 w =>
 PureS (nilV f0) fun t72 =>
 PureS (fieldAddrV 2 t72) fun t73 =>
 StoreA 3 t73 t70 (fun w =>
 PureS (nilV f0) fun t74 =>
 PureS (fieldAddrV 5 t74) fun t75 =>
 StoreA 3 t75 t71 (fun w =>
 K (Value.tuple [].toArray) w
 ) w
 ) w
 ) w
 ) w
 ) w
 ) fun J0 =>
 CallS Try.prog 34 [f0].toArray (fun t17 w =>
 PureS (lenSliceV t17) fun t18 =>
 LoopS 1 (fun L1 (t19 : Value) (w : World) =>
 PureS (binV .lss t19 t18) fun t20 =>
 CondS t20 (
 JoinS (fun (w : World) =>
 PureS (binV .add t19 (Value.int .i64 1)) fun t64 =>
 L1 t64 w
 ) fun J2 =>
 PureS (indexAddrV 1 t17 t19) fun t21 =>
 LoadC t21 (fun t22 w =>
 PureS (nilV f0) fun t24 =>
 PureS (fieldAddrV 1 t24) fun t25 =>
 LoadC t25 (fun t26 w =>
 RunS Try.prog (Instr.lookup 42 t26 t22 false) (fun t28 w =>
 PureS (nilV t28) fun t30 =>
 PureS (fieldAddrV 1 t30) fun t31 =>
 LoadC t31 (fun t32 w =>
 PureS (lenSliceV t32) fun t33 =>
 PureS (binV .eql t33 (Value.int .i64 0)) fun t34 =>
 CondS t34 (
 J2 w
 ) (
 JoinS (fun (w : World) =>
 PureS (nilV t28) fun t62 =>
 PureS (fieldAddrV 1 t62) fun t63 =>
 StoreC t63 (Value.slice none 0 0) (fun w =>
 J2 w
 ) w
 ) fun J3 =>
 DrawS fun S4 => S4 w.drew ∧ (
 PureS (nilV t28) fun t38 =>
 PureS (fieldAddrV 1 t38) fun t39 =>
 HeldC S4 t39 (fun t40 =>
 PureS (lenSliceV t40) fun t41 =>
 PureS (binV .add t41 (Value.int .i64 1)) fun t42 =>
 CallW' Try.prog false t15 [] NoP (fun t36 w =>
 S4 w ∧ (
 PureS (binV .rem t36 t42) fun t43 =>
 PureS (nilV t28) fun t46 =>
 PureS (fieldAddrV 1 t46) fun t47 =>
 LoadC t47 (fun t48 w =>
 PureS (lenSliceV t48) fun t49 =>
 PureS (binV .lss t43 t49) fun t50 =>
 CondS t50 (
 PureS (nilV t28) fun t53 =>
 PureS (fieldAddrV 1 t53) fun t54 =>
 LoadC t54 (fun t55 w =>
 PureS (indexAddrV 1 t55 t43) fun t57 =>
 LoadC t57 (fun t58 w =>
 PureS (nilV t28) fun t59 =>
 PureS (fieldAddrV 0 t59) fun t60 =>
 StoreC t60 t58 (fun w =>
 J3 w
 ) w
 ) w
 ) w
 ) (
 J3 w
 )
 ) w
 )
 ) w.drew
 )
 )
 )
 ) w
 ) w
 ) w
 ) w
 ) (
 J0 w
 )
 ) (Value.int .i64 0) w
 ) w
 ) w
 ) w
 ) w
 ) w
theorem s14_den (f0 keeps1 changes2 : Value) (K : Value → World → Prop) (w : World) : denFn Try.prog false (bodyOf Try.f14) Try.f14.results a14 [f0, keeps1, changes2] K NoP w = s14 f0 keeps1 changes2 K w := by kernel_rfl
theorem s14_dst : dstsOk (3 + 73) (bodyOf Try.f14) = true := by kernel_rfl
theorem s14_ann : annOk (bodyOf Try.f14) a14 = true := by kernel_rfl
theorem s14_call {f0 keeps1 changes2 : Value} {K : Value → World → Prop} {w : World} (hm : Try.prog.follows .mixedOrders = true) (h : s14 f0 keeps1 changes2 K w) : CallS Try.prog 14 #[f0, keeps1, changes2] K w :=
  fn_call (args := [f0, keeps1, changes2]) (m := 73) hm Try.func14 (by kernel_rfl) (rs := Try.f14.results) rfl Try.ntmps14 s14_dst s14_ann (by rw [s14_den]; exact h)

/-! number 15 -/
def a15 : Ann :=
 (.q (.r [.plain 2]) (.q (.r [.plain 8]) (.q (.q (.r [.plain 2]) (.c (.q (.r [.plain 3]) .s) .s)) (.q (.r [.plain 7]) .s))))
def s15 (f0 path1 : Value) (K : Value → World → Prop) (w : World) : Prop :=
 CallS Try.prog 26 [f0, path1].toArray (fun t11 w =>
 PureS (extractV 0 t11) fun t12 =>
 PureS (extractV 1 t11) fun t13 =>
 PureS (binV .neq t13 (Value.int .i64 0)) fun t15 =>
 CondS t15 (
 K (Value.tuple [(Value.slice none 0 0), t13].toArray) w
 ) (
 PureS (nilV t12) fun t18 =>
 PureS (fieldAddrV 2 t18) fun t19 =>
 LoadC t19 (fun t20 w =>
 CallS Try.prog 39 [t20].toArray (fun t21 w =>
 K (Value.tuple [t21, (Value.int .i64 0)].toArray) w
 ) w
 ) w
 )
 ) w
theorem s15_den (f0 path1 : Value) (K : Value → World → Prop) (w : World) : denFn Try.prog false (bodyOf Try.f15) Try.f15.results a15 [f0, path1] K NoP w = s15 f0 path1 K w := by kernel_rfl
theorem s15_dst : dstsOk (2 + 20) (bodyOf Try.f15) = true := by kernel_rfl
theorem s15_ann : annOk (bodyOf Try.f15) a15 = true := by kernel_rfl
theorem s15_call {f0 path1 : Value} {K : Value → World → Prop} {w : World} (hm : Try.prog.follows .mixedOrders = true) (h : s15 f0 path1 K w) : CallS Try.prog 15 #[f0, path1] K w :=
  fn_call (args := [f0, path1]) (m := 20) hm Try.func15 (by kernel_rfl) (rs := Try.f15.results) rfl Try.ntmps15 s15_dst s15_ann (by rw [s15_den]; exact h)

/-! number 16 -/
def a16 : Ann :=
 (.q (.r [.plain 1]) (.q (.r [.plain 19]) (.q (.q (.r [.plain 2]) (.c (.q (.r [.plain 2]) .s) .s)) (.q (.q (.d [0, 1, 3, 7, 0, 31, 63, 127, 127, 255, 1023] (.pur 0 (.pur 1 (.pur 2 (.hld 3 (.hld 4 (.hld 5 (.pur 6 (.pur 7 (.pur 8 (.pur 9 (.pur 10 .fin)))))))))))) (.q (.r [.plain 1]) (.c (.q (.r [.plain 1]) .s) .s))) (.q (.q (.r [.plain 6]) (.c (.q (.r [.plain 1]) .s) .s)) (.q (.q (.r [.plain 7]) (.q (.r [.plain 2]) (.c (.q (.r [.plain 2]) .s) .s))) (.q (.r [.plain 3]) (.q (.r [.plain 1]) .s))))))))
def s16 (f0 from1 to2 : Value) (K : Value → World → Prop) (w : World) : Prop :=
 CallS Try.prog 29 [f0, from1, to2].toArray (fun t21 w =>
 PureS (extractV 0 t21) fun t22 =>
 PureS (extractV 1 t21) fun t23 =>
 PureS (extractV 2 t21) fun t24 =>
 PureS (extractV 3 t21) fun t25 =>
 PureS (extractV 4 t21) fun t26 =>
 PureS (extractV 5 t21) fun t27 =>
 BoxS 9 (Value.string ⟨#[]⟩) (fun y10 w =>
 BoxS 59 (Value.pointer none) (fun it11 w =>
 StoreC y10 t25 (fun w =>
 StoreC it11 t26 (fun w =>
 PureS (binV .neq t27 (Value.int .i64 0)) fun t29 =>
 CondS t29 (
 K t27 w
 ) (
 DrawS fun S0 => S0 w.drew ∧ (
 PureS (nilV t23) fun t33 =>
 PureS (fieldAddrV 0 t33) fun t34 =>
 HeldC S0 t34 (fun t35 =>
 HeldC S0 y10 (fun t36 =>
 HeldR Try.prog S0 (Instr.lookup 53 t35 t36 true) (fun t37 =>
 PureS (extractV 0 t37) fun t38 =>
 PureS (extractV 1 t37) fun t39 =>
 CondS t39 (
 K (Value.int .i64 7) w.drew
 ) (
 PureS (nilV t23) fun t42 =>
 PureS (fieldAddrV 0 t42) fun t43 =>
 LoadC t43 (fun t44 w =>
 RunS Try.prog (Builtin.len_ #[53] 3 [t44].toArray) (fun t45 w =>
 PureS (binV .geq t45 (Value.int .i64 1024)) fun t46 =>
 CondS t46 (
 K (Value.int .i64 2) w
 ) (
 CallS Try.prog 22 [f0].toArray (fun t49 w =>
 PureS (extractV 0 t49) fun t50 =>
 PureS (extractV 1 t49) fun t51 =>
 PureS (binV .neq t50 (Value.int .i64 0)) fun t53 =>
 CondS t53 (
 K t50 w
 ) (
 CallS Try.prog 24 [t23, (Value.func (Fn.func 40) [].toArray [it11, y10].toArray)].toArray (fun t57 w =>
 K (Value.int .i64 0) w
 ) w
 )
 ) w
 )
 ) w
 ) w.drew
 )
 )
 )
 )
 )
 )
 ) w
 ) w
 ) w
 ) w
 ) w
theorem s16_den (f0 from1 to2 : Value) (K : Value → World → Prop) (w : World) : denFn Try.prog false (bodyOf Try.f16) Try.f16.results a16 [f0, from1, to2] K NoP w = s16 f0 from1 to2 K w := by kernel_rfl
theorem s16_dst : dstsOk (3 + 55) (bodyOf Try.f16) = true := by kernel_rfl
theorem s16_ann : annOk (bodyOf Try.f16) a16 = true := by kernel_rfl
theorem s16_call {f0 from1 to2 : Value} {K : Value → World → Prop} {w : World} (hm : Try.prog.follows .mixedOrders = true) (h : s16 f0 from1 to2 K w) : CallS Try.prog 16 #[f0, from1, to2] K w :=
  fn_call (args := [f0, from1, to2]) (m := 55) hm Try.func16 (by kernel_rfl) (rs := Try.f16.results) rfl Try.ntmps16 s16_dst s16_ann (by rw [s16_den]; exact h)

/-! number 17 -/
def a17 : Ann :=
 (.q (.r [.plain 1]) (.q (.r [.plain 8]) (.q (.q (.r [.plain 2]) (.c (.q (.r [.plain 2]) .s) .s)) (.q (.r [.plain 6]) .s))))
def s17 (f0 path1 at2 b3 : Value) (K : Value → World → Prop) (w : World) : Prop :=
 CallS Try.prog 26 [f0, path1].toArray (fun t14 w =>
 PureS (extractV 0 t14) fun t15 =>
 PureS (extractV 1 t14) fun t16 =>
 PureS (binV .neq t16 (Value.int .i64 0)) fun t18 =>
 CondS t18 (
 K t16 w
 ) (
 CallS Try.prog 27 [f0, t15, at2, b3].toArray (fun t24 w =>
 K t24 w
 ) w
 )
 ) w
theorem s17_den (f0 path1 at2 b3 : Value) (K : Value → World → Prop) (w : World) : denFn Try.prog false (bodyOf Try.f17) Try.f17.results a17 [f0, path1, at2, b3] K NoP w = s17 f0 path1 at2 b3 K w := by kernel_rfl
theorem s17_dst : dstsOk (4 + 21) (bodyOf Try.f17) = true := by kernel_rfl
theorem s17_ann : annOk (bodyOf Try.f17) a17 = true := by kernel_rfl
theorem s17_call {f0 path1 at2 b3 : Value} {K : Value → World → Prop} {w : World} (hm : Try.prog.follows .mixedOrders = true) (h : s17 f0 path1 at2 b3 K w) : CallS Try.prog 17 #[f0, path1, at2, b3] K w :=
  fn_call (args := [f0, path1, at2, b3]) (m := 21) hm Try.func17 (by kernel_rfl) (rs := Try.f17.results) rfl Try.ntmps17 s17_dst s17_ann (by rw [s17_den]; exact h)

/-! number 18 -/
def a18 : Ann :=
 (.q (.r [.plain 1]) (.q (.r [.plain 8]) (.q (.r [.plain 8]) (.q (.r [.plain 3, .grp 2 [27] 201326592, .plain 2, .grp 3 [32] 7516192768, .plain 2]) .s))))
def s18 (f0 a1 b2 : Value) (K : Value → World → Prop) (w : World) : Prop :=
 CallS Try.prog 26 [f0, a1].toArray (fun t14 w =>
 PureS (extractV 0 t14) fun t15 =>
 PureS (extractV 1 t14) fun t16 =>
 CallS Try.prog 26 [f0, b2].toArray (fun t20 w =>
 PureS (extractV 0 t20) fun t21 =>
 PureS (extractV 1 t20) fun t22 =>
 PureS (binV .eql t16 (Value.int .i64 0)) fun t24 =>
 JoinS (fun (t27 : Value) (w : World) =>
 PureS (pickV t24 t27 (Value.bool false)) fun t28 =>
 JoinS (fun (t32 : Value) (w : World) =>
 PureS (pickV t28 t32 (Value.bool false)) fun t33 =>
 K t33 w
 ) fun J1 =>
 IfB t28 true (
 RunS Try.prog (do eqGuard .eql 59 (Operand.tmp 30) (Operand.tmp 31) t15 t21; binOp .eql 59 t15 t21) (fun t32_1 w =>
 J1 t32_1 w
 ) w
 ) (
 J1 undef w
 )
 ) fun J0 =>
 IfB t24 true (
 PureS (binV .eql t22 (Value.int .i64 0)) fun t27_1 =>
 J0 t27_1 w
 ) (
 J0 undef w
 )
 ) w
 ) w
theorem s18_den (f0 a1 b2 : Value) (K : Value → World → Prop) (w : World) : denFn Try.prog false (bodyOf Try.f18) Try.f18.results a18 [f0, a1, b2] K NoP w = s18 f0 a1 b2 K w := by kernel_rfl
theorem s18_dst : dstsOk (3 + 31) (bodyOf Try.f18) = true := by kernel_rfl
theorem s18_ann : annOk (bodyOf Try.f18) a18 = true := by kernel_rfl
theorem s18_call {f0 a1 b2 : Value} {K : Value → World → Prop} {w : World} (hm : Try.prog.follows .mixedOrders = true) (h : s18 f0 a1 b2 K w) : CallS Try.prog 18 #[f0, a1, b2] K w :=
  fn_call (args := [f0, a1, b2]) (m := 31) hm Try.func18 (by kernel_rfl) (rs := Try.f18.results) rfl Try.ntmps18 s18_dst s18_ann (by rw [s18_den]; exact h)

/-! number 19 -/
def a19 : Ann :=
 (.q (.r [.plain 1]) (.q (.r [.plain 3]) .s))
def s19 (f0 : Value) (K : Value → World → Prop) (w : World) : Prop :=
 CallS Try.prog 41 [f0].toArray (fun t4 w =>
 K t4 w
 ) w
theorem s19_den (f0 : Value) (K : Value → World → Prop) (w : World) : denFn Try.prog false (bodyOf Try.f19) Try.f19.results a19 [f0] K NoP w = s19 f0 K w := by kernel_rfl
theorem s19_dst : dstsOk (1 + 4) (bodyOf Try.f19) = true := by kernel_rfl
theorem s19_ann : annOk (bodyOf Try.f19) a19 = true := by kernel_rfl
theorem s19_call {f0 : Value} {K : Value → World → Prop} {w : World} (hm : Try.prog.follows .mixedOrders = true) (h : s19 f0 K w) : CallS Try.prog 19 #[f0] K w :=
  fn_call (args := [f0]) (m := 4) hm Try.func19 (by kernel_rfl) (rs := Try.f19.results) rfl Try.ntmps19 s19_dst s19_ann (by rw [s19_den]; exact h)

/-! number 20 -/
def a20 : Ann :=
 (.q (.r [.plain 1]) (.q (.q (.r [.plain 8]) (.q (.r [.plain 2]) (.c (.q (.r [.plain 2]) .s) .s))) (.q (.r [.plain 11]) (.q (.q (.r [.plain 7]) (.q (.r [.plain 2]) (.c (.q (.r [.plain 2]) .s) .s))) (.q (.r [.plain 3]) (.q (.r [.plain 1]) .s))))))
def s20 (f0 path1 : Value) (K : Value → World → Prop) (w : World) : Prop :=
 CallS Try.prog 26 [f0, path1].toArray (fun t15 w =>
 PureS (extractV 0 t15) fun t16 =>
 PureS (extractV 1 t15) fun t17 =>
 PureS (binV .neq t17 (Value.int .i64 0)) fun t19 =>
 CondS t19 (
 K t17 w
 ) (
 CallS Try.prog 23 [f0, path1].toArray (fun t24 w =>
 PureS (extractV 0 t24) fun t25 =>
 PureS (extractV 1 t24) fun t26 =>
 PureS (extractV 2 t24) fun t27 =>
 BoxS 9 (Value.string ⟨#[]⟩) (fun name8 w =>
 StoreC name8 t26 (fun w =>
 CallS Try.prog 22 [f0].toArray (fun t30 w =>
 PureS (extractV 0 t30) fun t31 =>
 PureS (extractV 1 t30) fun t32 =>
 PureS (binV .neq t31 (Value.int .i64 0)) fun t34 =>
 CondS t34 (
 K t31 w
 ) (
 CallS Try.prog 24 [t25, (Value.func (Fn.func 42) [].toArray [name8].toArray)].toArray (fun t38 w =>
 K (Value.int .i64 0) w
 ) w
 )
 ) w
 ) w
 ) w
 ) w
 )
 ) w
theorem s20_den (f0 path1 : Value) (K : Value → World → Prop) (w : World) : denFn Try.prog false (bodyOf Try.f20) Try.f20.results a20 [f0, path1] K NoP w = s20 f0 path1 K w := by kernel_rfl
theorem s20_dst : dstsOk (2 + 37) (bodyOf Try.f20) = true := by kernel_rfl
theorem s20_ann : annOk (bodyOf Try.f20) a20 = true := by kernel_rfl
theorem s20_call {f0 path1 : Value} {K : Value → World → Prop} {w : World} (hm : Try.prog.follows .mixedOrders = true) (h : s20 f0 path1 K w) : CallS Try.prog 20 #[f0, path1] K w :=
  fn_call (args := [f0, path1]) (m := 37) hm Try.func20 (by kernel_rfl) (rs := Try.f20.results) rfl Try.ntmps20 s20_dst s20_ann (by rw [s20_den]; exact h)
end Go.Proofs.Ythohdinjpkehpaa
/-! Laid out by a program of ours: what each function of the cut comes to, over named values; and that it is so. -/
namespace Go.Proofs.Ythohdinjpkehpaa
set_option linter.unusedVariables false
set_option maxRecDepth 100000
open Go SG

/-! number 21 -/
def a21 : Ann :=
 (.q (.r [.plain 1]) (.q (.r [.plain 4, .grp 3 [9] 896, .plain 2, .grp 3 [14] 28672, .plain 2]) .s))
def s21 (s0 : Value) (K : Value → World → Prop) (w : World) : Prop :=
 PureS (lenStrV s0) fun t4 =>
 PureS (binV .geq t4 (Value.int .i64 1)) fun t5 =>
 JoinS (fun (t9 : Value) (w : World) =>
 PureS (pickV t5 t9 (Value.bool false)) fun t10 =>
 JoinS (fun (t14 : Value) (w : World) =>
 PureS (pickV t10 t14 (Value.bool false)) fun t15 =>
 K t15 w
 ) fun J1 =>
 IfB t10 true (
 CallS Try.prog 43 [s0, (Value.func (Fn.func 44) #[] #[])].toArray (fun t13 w =>
 PureS (binV .lss t13 (Value.int .i64 0)) fun t14_1 =>
 J1 t14_1 w
 ) w
 ) (
 J1 undef w
 )
 ) fun J0 =>
 IfB t5 true (
 PureS (lenStrV s0) fun t8 =>
 PureS (binV .leq t8 (Value.int .i64 32)) fun t9_1 =>
 J0 t9_1 w
 ) (
 J0 undef w
 )
theorem s21_den (s0 : Value) (K : Value → World → Prop) (w : World) : denFn Try.prog false (bodyOf Try.f21) Try.f21.results a21 [s0] K NoP w = s21 s0 K w := by kernel_rfl
theorem s21_dst : dstsOk (1 + 15) (bodyOf Try.f21) = true := by kernel_rfl
theorem s21_ann : annOk (bodyOf Try.f21) a21 = true := by kernel_rfl
theorem s21_call {s0 : Value} {K : Value → World → Prop} {w : World} (hm : Try.prog.follows .mixedOrders = true) (h : s21 s0 K w) : CallS Try.prog 21 #[s0] K w :=
  fn_call (args := [s0]) (m := 15) hm Try.func21 (by kernel_rfl) (rs := Try.f21.results) rfl Try.ntmps21 s21_dst s21_ann (by rw [s21_den]; exact h)

/-! number 22 -/
def a22 : Ann :=
 (.q (.r [.plain 2]) (.q (.r [.plain 9]) (.q (.r [.plain 9]) (.q (.b (.q (.r [.plain 2]) (.c (.q (.r [.plain 3]) .s) (.q (.r [.plain 2]) (.c (.q (.r [.plain 3]) .s) .s))))) (.q (.r [.plain 2]) .s)))))
def s22 (f0 : Value) (K : Value → World → Prop) (w : World) : Prop :=
 PureS (nilV f0) fun t10 =>
 PureS (fieldAddrV 2 t10) fun t11 =>
 CallS Try.prog 45 [t11].toArray (fun t12 w =>
 PureS (extractV 0 t12) fun t13 =>
 PureS (extractV 1 t12) fun t14 =>
 PureS (nilV f0) fun t17 =>
 PureS (fieldAddrV 5 t17) fun t18 =>
 CallS Try.prog 45 [t18].toArray (fun t19 w =>
 PureS (extractV 0 t19) fun t20 =>
 PureS (extractV 1 t19) fun t21 =>
 CondS t20 (
 K (Value.tuple [(Value.int .i64 22), t21].toArray) w
 ) (
 CondS t13 (
 K (Value.tuple [(Value.int .i64 21), t14].toArray) w
 ) (
 K (Value.tuple [(Value.int .i64 0), (Value.bool false)].toArray) w
 )
 )
 ) w
 ) w
theorem s22_den (f0 : Value) (K : Value → World → Prop) (w : World) : denFn Try.prog false (bodyOf Try.f22) Try.f22.results a22 [f0] K NoP w = s22 f0 K w := by kernel_rfl
theorem s22_dst : dstsOk (1 + 27) (bodyOf Try.f22) = true := by kernel_rfl
theorem s22_ann : annOk (bodyOf Try.f22) a22 = true := by kernel_rfl
theorem s22_call {f0 : Value} {K : Value → World → Prop} {w : World} (hm : Try.prog.follows .mixedOrders = true) (h : s22 f0 K w) : CallS Try.prog 22 #[f0] K w :=
  fn_call (args := [f0]) (m := 27) hm Try.func22 (by kernel_rfl) (rs := Try.f22.results) rfl Try.ntmps22 s22_dst s22_ann (by rw [s22_den]; exact h)

/-! number 23 -/
def a23 : Ann :=
 (.q (.r [.plain 3]) (.q (.r [.plain 9]) (.q (.q (.r [.plain 3, .grp 3 [23] 14680064, .plain 2, .grp 3 [28] 469762048, .plain 1]) (.c (.q (.r [.plain 3]) .s) .s)) (.q (.r [.plain 11]) (.q (.q (.r [.plain 2]) (.c (.q (.r [.plain 3]) .s) .s)) (.q (.r [.plain 5]) .s))))))
def s23 (f0 path1 : Value) (K : Value → World → Prop) (w : World) : Prop :=
 CallS Try.prog 46 [path1, (Value.string ⟨#[47]⟩)].toArray (fun t14 w =>
 PureS (extractV 0 t14) fun t15 =>
 PureS (extractV 1 t14) fun t16 =>
 PureS (extractV 2 t14) fun t17 =>
 PureS (notV t17) fun t19 =>
 JoinS (fun (t23 : Value) (w : World) =>
 PureS (pickV t19 (Value.bool true) t23) fun t24 =>
 JoinS (fun (t28 : Value) (w : World) =>
 PureS (pickV t24 (Value.bool true) t28) fun t29 =>
 CondS t29 (
 K (Value.tuple [(Value.pointer none), (Value.string ⟨#[]⟩), (Value.int .i64 1)].toArray) w
 ) (
 PureS (nilV f0) fun t32 =>
 PureS (fieldAddrV 1 t32) fun t33 =>
 LoadC t33 (fun t34 w =>
 RunS Try.prog (Instr.lookup 42 t34 t15 true) (fun t36 w =>
 PureS (extractV 0 t36) fun t37 =>
 PureS (extractV 1 t36) fun t38 =>
 PureS (notV t38) fun t40 =>
 CondS t40 (
 K (Value.tuple [(Value.pointer none), (Value.string ⟨#[]⟩), (Value.int .i64 6)].toArray) w
 ) (
 K (Value.tuple [t37, t16, (Value.int .i64 0)].toArray) w
 )
 ) w
 ) w
 )
 ) fun J1 =>
 IfB t24 false (
 CallS Try.prog 21 [t16].toArray (fun t27 w =>
 PureS (notV t27) fun t28_1 =>
 J1 t28_1 w
 ) w
 ) (
 J1 undef w
 )
 ) fun J0 =>
 IfB t19 false (
 CallS Try.prog 21 [t15].toArray (fun t22 w =>
 PureS (notV t22) fun t23_1 =>
 J0 t23_1 w
 ) w
 ) (
 J0 undef w
 )
 ) w
theorem s23_den (f0 path1 : Value) (K : Value → World → Prop) (w : World) : denFn Try.prog false (bodyOf Try.f23) Try.f23.results a23 [f0, path1] K NoP w = s23 f0 path1 K w := by kernel_rfl
theorem s23_dst : dstsOk (2 + 41) (bodyOf Try.f23) = true := by kernel_rfl
theorem s23_ann : annOk (bodyOf Try.f23) a23 = true := by kernel_rfl
theorem s23_call {f0 path1 : Value} {K : Value → World → Prop} {w : World} (hm : Try.prog.follows .mixedOrders = true) (h : s23 f0 path1 K w) : CallS Try.prog 23 #[f0, path1] K w :=
  fn_call (args := [f0, path1]) (m := 41) hm Try.func23 (by kernel_rfl) (rs := Try.f23.results) rfl Try.ntmps23 s23_dst s23_ann (by rw [s23_den]; exact h)

/-! number 24 -/
def a24 : Ann :=
 (.q (.d [0, 0, 2, 6, 14, 0, 32, 96, 224, 480, 1022, 2047, 4095, 8191] (.pur 0 (.pur 1 (.pur 2 (.pur 3 (.pur 5 (.pur 6 (.pur 7 (.hld 4 (.hld 8 (.act 9 (.act 10 (.pur 11 (.pur 12 (.act 13 .fin))))))))))))))) (.q (.r [.plain 9]) (.r [.plain 6])))
def s24 (d0 does1 : Value) (K : Value → World → Prop) (w : World) : Prop :=
 DrawS fun S0 => S0 w.drew ∧ (
 PureS (nilV d0) fun t6 =>
 PureS (fieldAddrV 1 t6) fun t7 =>
 PureS (nilV d0) fun t10 =>
 PureS (fieldAddrV 0 t10) fun t11 =>
 HeldC S0 t7 (fun t8 =>
 HeldC S0 t11 (fun t12 =>
 RunS Try.prog (Instr.buildSlice 54 1 [(0, t12)].toArray) (fun t13 w =>
 S0 w ∧ (
 RunS Try.prog (Builtin.append_ #[54, 54] 54 [t8, t13].toArray) (fun t14 w =>
 PureS (nilV d0) fun t15 =>
 PureS (fieldAddrV 1 t15) fun t16 =>
 StoreC t16 t14 (fun w =>
 PureS (nilV d0) fun t19 =>
 PureS (fieldAddrV 0 t19) fun t20 =>
 LoadC t20 (fun t21 w =>
 CallS Try.prog 47 [t21].toArray (fun t22 w =>
 PureS (nilV d0) fun t23 =>
 PureS (fieldAddrV 0 t23) fun t24 =>
 StoreC t24 t22 (fun w =>
 PureS (nilV d0) fun t27 =>
 PureS (fieldAddrV 0 t27) fun t28 =>
 LoadC t28 (fun t29 w =>
 CallV' Try.prog false does1 [t29] NoP (fun t30 w =>
 K (Value.tuple [].toArray) w
 ) w
 ) w
 ) w
 ) w
 ) w
 ) w
 ) w
 )
 ) w.drew
 )
 )
 )
theorem s24_den (d0 does1 : Value) (K : Value → World → Prop) (w : World) : denFn Try.prog false (bodyOf Try.f24) Try.f24.results a24 [d0, does1] K NoP w = s24 d0 does1 K w := by kernel_rfl
theorem s24_dst : dstsOk (2 + 29) (bodyOf Try.f24) = true := by kernel_rfl
theorem s24_ann : annOk (bodyOf Try.f24) a24 = true := by kernel_rfl
theorem s24_call {d0 does1 : Value} {K : Value → World → Prop} {w : World} (hm : Try.prog.follows .mixedOrders = true) (h : s24 d0 does1 K w) : CallS Try.prog 24 #[d0, does1] K w :=
  fn_call (args := [d0, does1]) (m := 29) hm Try.func24 (by kernel_rfl) (rs := Try.f24.results) rfl Try.ntmps24 s24_dst s24_ann (by rw [s24_den]; exact h)

/-! number 25 -/
def a25 : Ann :=
 (.r [.plain 5])
def s25 (n0 t1 : Value) (K : Value → World → Prop) (w : World) : Prop :=
 LoadC t1 (fun t4 w =>
 RunS Try.prog (Instr.build 64 [].toArray) (fun t5 w =>
 BoxS 64 t5 (fun t6 w =>
 RunU Try.prog (Instr.mapUpdate 53 n0 t4 t6) (fun w =>
 K (Value.tuple [].toArray) w
 ) w
 ) w
 ) w
 ) w
theorem s25_den (n0 t1 : Value) (K : Value → World → Prop) (w : World) : denFn Try.prog false (bodyOf Try.f25) Try.f25.results a25 [n0, t1] K NoP w = s25 n0 t1 K w := by kernel_rfl
theorem s25_dst : dstsOk (2 + 5) (bodyOf Try.f25) = true := by kernel_rfl
theorem s25_ann : annOk (bodyOf Try.f25) a25 = true := by kernel_rfl
theorem s25_call {n0 t1 : Value} {K : Value → World → Prop} {w : World} (hm : Try.prog.follows .mixedOrders = true) (h : s25 n0 t1 K w) : CallS Try.prog 25 #[n0, t1] K w :=
  fn_call (args := [n0, t1]) (m := 5) hm Try.func25 (by kernel_rfl) (rs := Try.f25.results) rfl Try.ntmps25 s25_dst s25_ann (by rw [s25_den]; exact h)

/-! number 26 -/
def a26 : Ann :=
 (.q (.r [.plain 2]) (.q (.r [.plain 10]) (.q (.q (.r [.plain 2]) (.c (.q (.r [.plain 3]) .s) .s)) (.q (.r [.plain 11]) (.q (.q (.r [.plain 2]) (.c (.q (.r [.plain 2]) .s) .s)) (.q (.r [.plain 3]) .s))))))
def s26 (f0 path1 : Value) (K : Value → World → Prop) (w : World) : Prop :=
 CallS Try.prog 23 [f0, path1].toArray (fun t14 w =>
 PureS (extractV 0 t14) fun t15 =>
 PureS (extractV 1 t14) fun t16 =>
 PureS (extractV 2 t14) fun t17 =>
 PureS (binV .neq t17 (Value.int .i64 0)) fun t19 =>
 CondS t19 (
 K (Value.tuple [(Value.pointer none), t17].toArray) w
 ) (
 PureS (nilV t15) fun t23 =>
 PureS (fieldAddrV 0 t23) fun t24 =>
 LoadC t24 (fun t25 w =>
 RunS Try.prog (Instr.lookup 53 t25 t16 true) (fun t27 w =>
 PureS (extractV 0 t27) fun t28 =>
 PureS (extractV 1 t27) fun t29 =>
 PureS (notV t29) fun t31 =>
 CondS t31 (
 K (Value.tuple [(Value.pointer none), (Value.int .i64 6)].toArray) w
 ) (
 K (Value.tuple [t28, (Value.int .i64 0)].toArray) w
 )
 ) w
 ) w
 )
 ) w
theorem s26_den (f0 path1 : Value) (K : Value → World → Prop) (w : World) : denFn Try.prog false (bodyOf Try.f26) Try.f26.results a26 [f0, path1] K NoP w = s26 f0 path1 K w := by kernel_rfl
theorem s26_dst : dstsOk (2 + 31) (bodyOf Try.f26) = true := by kernel_rfl
theorem s26_ann : annOk (bodyOf Try.f26) a26 = true := by kernel_rfl
theorem s26_call {f0 path1 : Value} {K : Value → World → Prop} {w : World} (hm : Try.prog.follows .mixedOrders = true) (h : s26 f0 path1 K w) : CallS Try.prog 26 #[f0, path1] K w :=
  fn_call (args := [f0, path1]) (m := 31) hm Try.func26 (by kernel_rfl) (rs := Try.f26.results) rfl Try.ntmps26 s26_dst s26_ann (by rw [s26_den]; exact h)

/-! number 27 -/
def a27 : Ann :=
 (.q (.r [.plain 1]) (.q (.q (.r [.plain 3, .grp 7 [22] 8323072, .plain 1]) (.c (.q (.r [.plain 1]) .s) .s)) (.q (.q (.r [.plain 11]) (.j [46] 140720308486144 (.d [0, 1, 3, 7, 15, 7, 63, 7, 135, 391, 903, 2047, 4095] (.pur 0 (.pur 1 (.pur 2 (.ite 2 (.pur 3 (.pur 5 (.pur 7 (.pur 8 (.pur 9 (.hld 10 (.act 4 (.pur 6 (.pur 11 (.pur 12 .fin)))))))))) (.skp 3 (.skp 4 (.skp 5 (.skp 6 (.skp 7 (.skp 8 (.skp 9 (.skp 10 (.skp 11 (.pur 12 .fin)))))))))))))))
  (.c (.q (.r [.plain 1]) .s) .s))) (.q (.r [.plain 7]) (.j [3] 283726776524341256 (.q (.r [.plain 1]) (.c (.r [.plain 6]) .s))
  (.j [] 2475880078282530173646540800 (.q (.r [.plain 3, .grp 1 [61] 2305843009213693952, .plain 2, .grp 3 [66] 129127208515966861312, .plain 1]) (.c (.q (.r [.plain 6]) (.q (.d [0, 0, 2, 6, 14, 0, 32, 126, 255, 511, 1023] (.pur 0 (.pur 1 (.pur 2 (.pur 3 (.hld 4 (.hld 5 (.act 6 (.act 7 (.pur 8 (.pur 9 (.act 10 .fin)))))))))))) (.d [0, 0, 0, 4, 12, 28, 62, 127, 255, 511] (.pur 0 (.pur 2 (.pur 3 (.pur 4 (.hld 1 (.hld 5 (.act 6 (.pur 7 (.pur 8 (.act 9 .fin))))))))))))) .s))
  (.q (.r [.plain 2]) .s)))))))
def s27 (f0 x1 at2 b3 : Value) (K : Value → World → Prop) (w : World) : Prop :=
 PureS (binV .lss at2 (Value.int .i64 0)) fun t14 =>
 JoinS (fun (t22 : Value) (w : World) =>
 PureS (pickV t14 (Value.bool true) t22) fun t23 =>
 CondS t23 (
 K (Value.int .i64 1) w
 ) (
 PureS (lenSliceV b3) fun t26 =>
 PureS (binV .add at2 t26) fun t27 =>
 PureS (nilV x1) fun t29 =>
 PureS (fieldAddrV 2 t29) fun t30 =>
 LoadC t30 (fun t31 w =>
 PureS (lenSliceV t31) fun t32 =>
 PureS (binV .sub t27 t32) fun t33 =>
 JoinS (fun (t46 : Value) (w : World) =>
 CondS t46 (
 K (Value.int .i64 20) w
 ) (
 CallS Try.prog 22 [f0].toArray (fun t49 w =>
 PureS (extractV 0 t49) fun t50 =>
 PureS (extractV 1 t49) fun t51 =>
 JoinS (fun (b3_1 : Value) (w : World) =>
 JoinS (fun (w : World) =>
 K t50 w
 ) fun J3 =>
 PureS (binV .eql t50 (Value.int .i64 0)) fun t59 =>
 JoinS (fun (t61 : Value) (w : World) =>
 PureS (pickV t59 (Value.bool true) t61) fun t62 =>
 JoinS (fun (t66 : Value) (w : World) =>
 PureS (pickV t62 t66 (Value.bool false)) fun t67 =>
 CondS t67 (
 CallS Try.prog 39 [b3_1].toArray (fun t70 w =>
 RunS Try.prog (Instr.build 87 [(0, at2), (1, t70)].toArray) (fun t71 w =>
 BoxS 87 (Value.agg #[(Value.int .i64 0), (Value.slice none 0 0)]) (fun w12 w =>
 StoreA 2 w12 t71 (fun w =>
 DrawS fun S6 => S6 w.drew ∧ (
 PureS (nilV x1) fun t74 =>
 PureS (fieldAddrV 1 t74) fun t75 =>
 HeldC S6 t75 (fun t76 =>
 HeldA 2 S6 w12 (fun t77 =>
 RunS Try.prog (Instr.buildSlice 62 1 [(0, t77)].toArray) (fun t78 w =>
 S6 w ∧ (
 RunS Try.prog (Builtin.append_ #[62, 62] 62 [t76, t78].toArray) (fun t79 w =>
 PureS (nilV x1) fun t80 =>
 PureS (fieldAddrV 1 t80) fun t81 =>
 StoreC t81 t79 (fun w =>
 DrawS fun S7 => S7 w.drew ∧ (
 PureS (nilV x1) fun t85 =>
 PureS (fieldAddrV 2 t85) fun t86 =>
 HeldA 2 S7 w12 (fun t83 =>
 HeldC S7 t86 (fun t87 =>
 CallS Try.prog 48 [t83, t87].toArray (fun t88 w =>
 PureS (nilV x1) fun t89 =>
 PureS (fieldAddrV 2 t89) fun t90 =>
 StoreC t90 t88 (fun w =>
 J3 w
 ) w
 ) w.drew
 )
 )
 )
 ) w
 ) w
 )
 ) w.drew
 )
 )
 )
 ) w
 ) w
 ) w
 ) w
 ) (
 J3 w
 )
 ) fun J5 =>
 IfB t62 true (
 PureS (lenSliceV b3_1) fun t65 =>
 PureS (binV .gtr t65 (Value.int .i64 0)) fun t66_1 =>
 J5 t66_1 w
 ) (
 J5 undef w
 )
 ) fun J4 =>
 IfB t59 false (
 J4 t51 w
 ) (
 J4 undef w
 )
 ) fun J2 =>
 CondS t51 (
 PureS (lenSliceV b3) fun t55 =>
 PureS (binV .quo t55 (Value.int .i64 2)) fun t56 =>
 PureS (sliceV 1 b3 none (some t56)) fun t57 =>
 J2 t57 w
 ) (
 J2 b3 w
 )
 ) w
 )
 ) fun J1 =>
 DrawS fun S8 => S8 w.drew ∧ (
 PureS (binV .gtr t33 (Value.int .i64 0)) fun t35 =>
 CondS t35 (
 PureS (nilV f0) fun t42 =>
 PureS (fieldAddrV 0 t42) fun t43 =>
 HeldC S8 t43 (fun t44 =>
 CallS Try.prog 41 [f0].toArray (fun t38 w =>
 S8 w ∧ (
 PureS (binV .add t38 t33) fun t40 =>
 PureS (binV .gtr t40 t44) fun t45 =>
 PureS (pickV (Value.bool true) t45 (Value.bool false)) fun t46_1 =>
 J1 t46_1 w
 )
 ) w.drew
 )
 ) (
 PureS (pickV (Value.bool false) undef (Value.bool false)) fun t46_2 =>
 J1 t46_2 w.drew
 )
 )
 ) w
 )
 ) fun J0 =>
 IfB t14 false (
 PureS (nilV x1) fun t18 =>
 PureS (fieldAddrV 2 t18) fun t19 =>
 LoadC t19 (fun t20 w =>
 PureS (lenSliceV t20) fun t21 =>
 PureS (binV .gtr at2 t21) fun t22_1 =>
 J0 t22_1 w
 ) w
 ) (
 J0 undef w
 )
theorem s27_den (f0 x1 at2 b3 : Value) (K : Value → World → Prop) (w : World) : denFn Try.prog false (bodyOf Try.f27) Try.f27.results a27 [f0, x1, at2, b3] K NoP w = s27 f0 x1 at2 b3 K w := by kernel_rfl
theorem s27_dst : dstsOk (4 + 88) (bodyOf Try.f27) = true := by kernel_rfl
theorem s27_ann : annOk (bodyOf Try.f27) a27 = true := by kernel_rfl
theorem s27_call {f0 x1 at2 b3 : Value} {K : Value → World → Prop} {w : World} (hm : Try.prog.follows .mixedOrders = true) (h : s27 f0 x1 at2 b3 K w) : CallS Try.prog 27 #[f0, x1, at2, b3] K w :=
  fn_call (args := [f0, x1, at2, b3]) (m := 88) hm Try.func27 (by kernel_rfl) (rs := Try.f27.results) rfl Try.ntmps27 s27_dst s27_ann (by rw [s27_den]; exact h)

/-! number 28 -/
def a28 : Ann :=
 (.q (.r [.plain 2]) (.q (.q (.r [.plain 3]) (.c (.q (.r [.plain 2]) .s) .s)) (.q (.r [.plain 11]) (.q (.q (.r [.plain 2]) (.c (.q (.r [.plain 2]) .s) .s)) (.q (.r [.plain 3]) .s)))))
def s28 (f0 name1 : Value) (K : Value → World → Prop) (w : World) : Prop :=
 CallS Try.prog 21 [name1].toArray (fun t9 w =>
 PureS (notV t9) fun t10 =>
 CondS t10 (
 K (Value.tuple [(Value.pointer none), (Value.int .i64 1)].toArray) w
 ) (
 PureS (nilV f0) fun t13 =>
 PureS (fieldAddrV 1 t13) fun t14 =>
 LoadC t14 (fun t15 w =>
 RunS Try.prog (Instr.lookup 42 t15 name1 true) (fun t17 w =>
 PureS (extractV 0 t17) fun t18 =>
 PureS (extractV 1 t17) fun t19 =>
 PureS (notV t19) fun t21 =>
 CondS t21 (
 K (Value.tuple [(Value.pointer none), (Value.int .i64 6)].toArray) w
 ) (
 K (Value.tuple [t18, (Value.int .i64 0)].toArray) w
 )
 ) w
 ) w
 )
 ) w
theorem s28_den (f0 name1 : Value) (K : Value → World → Prop) (w : World) : denFn Try.prog false (bodyOf Try.f28) Try.f28.results a28 [f0, name1] K NoP w = s28 f0 name1 K w := by kernel_rfl
theorem s28_dst : dstsOk (2 + 21) (bodyOf Try.f28) = true := by kernel_rfl
theorem s28_ann : annOk (bodyOf Try.f28) a28 = true := by kernel_rfl
theorem s28_call {f0 name1 : Value} {K : Value → World → Prop} {w : World} (hm : Try.prog.follows .mixedOrders = true) (h : s28 f0 name1 K w) : CallS Try.prog 28 #[f0, name1] K w :=
  fn_call (args := [f0, name1]) (m := 21) hm Try.func28 (by kernel_rfl) (rs := Try.f28.results) rfl Try.ntmps28 s28_dst s28_ann (by rw [s28_den]; exact h)

/-! number 29 -/
def a29 : Ann :=
 (.q (.r [.plain 6]) (.q (.q (.r [.plain 10]) (.q (.r [.plain 2]) (.c .s .s))) (.q (.q (.r [.plain 10]) (.q (.r [.plain 2]) (.c .s .s))) (.q (.r [.plain 7]) (.q (.q (.r [.plain 2]) (.c (.r [.plain 1]) .s)) .s)))))
def s29 (f0 from1 to2 : Value) (K : Value → World → Prop) (w : World) : Prop :=
 CallS Try.prog 23 [f0, from1].toArray (fun t15 w =>
 PureS (extractV 0 t15) fun t16 =>
 PureS (extractV 1 t15) fun t17 =>
 PureS (extractV 2 t15) fun t18 =>
 PureS (binV .neq t18 (Value.int .i64 0)) fun t20 =>
 CondS t20 (
 K (Value.tuple [t16, (Value.pointer none), t17, (Value.string ⟨#[]⟩), (Value.pointer none), t18].toArray) w
 ) (
 CallS Try.prog 23 [f0, to2].toArray (fun t24 w =>
 PureS (extractV 0 t24) fun t25 =>
 PureS (extractV 1 t24) fun t26 =>
 PureS (extractV 2 t24) fun t27 =>
 PureS (binV .neq t27 (Value.int .i64 0)) fun t29 =>
 CondS t29 (
 K (Value.tuple [t16, t25, t17, t26, (Value.pointer none), t27].toArray) w
 ) (
 PureS (nilV t16) fun t31 =>
 PureS (fieldAddrV 0 t31) fun t32 =>
 LoadC t32 (fun t33 w =>
 RunS Try.prog (Instr.lookup 53 t33 t17 false) (fun t35 w =>
 RunS Try.prog (do eqGuard .eql 59 (Operand.tmp 36) (Operand.const (Value.pointer none)) t35 (Value.pointer none); binOp .eql 59 t35 (Value.pointer none)) (fun t37 w =>
 CondS t37 (
 K (Value.tuple [t16, t25, t17, t26, t35, (Value.int .i64 6)].toArray) w
 ) (
 K (Value.tuple [t16, t25, t17, t26, t35, t27].toArray) w
 )
 ) w
 ) w
 ) w
 )
 ) w
 )
 ) w
theorem s29_den (f0 from1 to2 : Value) (K : Value → World → Prop) (w : World) : denFn Try.prog false (bodyOf Try.f29) Try.f29.results a29 [f0, from1, to2] K NoP w = s29 f0 from1 to2 K w := by kernel_rfl
theorem s29_dst : dstsOk (3 + 35) (bodyOf Try.f29) = true := by kernel_rfl
theorem s29_ann : annOk (bodyOf Try.f29) a29 = true := by kernel_rfl
theorem s29_call {f0 from1 to2 : Value} {K : Value → World → Prop} {w : World} (hm : Try.prog.follows .mixedOrders = true) (h : s29 f0 from1 to2 K w) : CallS Try.prog 29 #[f0, from1, to2] K w :=
  fn_call (args := [f0, from1, to2]) (m := 35) hm Try.func29 (by kernel_rfl) (rs := Try.f29.results) rfl Try.ntmps29 s29_dst s29_ann (by rw [s29_den]; exact h)

/-! number 30 -/
def a30 : Ann :=
 (.q (.r [.plain 3]) (.r [.plain 4]))
def s30 (n0 t1 t2 t3 : Value) (K : Value → World → Prop) (w : World) : Prop :=
 LoadC t1 (fun t6 w =>
 RunS Try.prog (Builtin.delete_ #[53, 9] 0 [n0, t6].toArray) (fun _ w =>
 LoadC t3 (fun t8 w =>
 LoadC t2 (fun t9 w =>
 RunU Try.prog (Instr.mapUpdate 53 n0 t8 t9) (fun w =>
 K (Value.tuple [].toArray) w
 ) w
 ) w
 ) w
 ) w
 ) w
theorem s30_den (n0 t1 t2 t3 : Value) (K : Value → World → Prop) (w : World) : denFn Try.prog false (bodyOf Try.f30) Try.f30.results a30 [n0, t1, t2, t3] K NoP w = s30 n0 t1 t2 t3 K w := by kernel_rfl
theorem s30_dst : dstsOk (4 + 6) (bodyOf Try.f30) = true := by kernel_rfl
theorem s30_ann : annOk (bodyOf Try.f30) a30 = true := by kernel_rfl
theorem s30_call {n0 t1 t2 t3 : Value} {K : Value → World → Prop} {w : World} (hm : Try.prog.follows .mixedOrders = true) (h : s30 n0 t1 t2 t3 K w) : CallS Try.prog 30 #[n0, t1, t2, t3] K w :=
  fn_call (args := [n0, t1, t2, t3]) (m := 6) hm Try.func30 (by kernel_rfl) (rs := Try.f30.results) rfl Try.ntmps30 s30_dst s30_ann (by rw [s30_den]; exact h)

/-! number 31 -/
def a31 : Ann :=
 (.r [.plain 4])
def s31 (n0 t1 t2 : Value) (K : Value → World → Prop) (w : World) : Prop :=
 LoadC t2 (fun t5 w =>
 LoadC t1 (fun t6 w =>
 RunU Try.prog (Instr.mapUpdate 53 n0 t5 t6) (fun w =>
 K (Value.tuple [].toArray) w
 ) w
 ) w
 ) w
theorem s31_den (n0 t1 t2 : Value) (K : Value → World → Prop) (w : World) : denFn Try.prog false (bodyOf Try.f31) Try.f31.results a31 [n0, t1, t2] K NoP w = s31 n0 t1 t2 K w := by kernel_rfl
theorem s31_dst : dstsOk (3 + 4) (bodyOf Try.f31) = true := by kernel_rfl
theorem s31_ann : annOk (bodyOf Try.f31) a31 = true := by kernel_rfl
theorem s31_call {n0 t1 t2 : Value} {K : Value → World → Prop} {w : World} (hm : Try.prog.follows .mixedOrders = true) (h : s31 n0 t1 t2 K w) : CallS Try.prog 31 #[n0, t1, t2] K w :=
  fn_call (args := [n0, t1, t2]) (m := 4) hm Try.func31 (by kernel_rfl) (rs := Try.f31.results) rfl Try.ntmps31 s31_dst s31_ann (by rw [s31_den]; exact h)

/-! number 32 -/
def a32 : Ann :=
 (.r [.plain 3])
def s32 (n0 t1 : Value) (K : Value → World → Prop) (w : World) : Prop :=
 LoadC t1 (fun t4 w =>
 RunS Try.prog (Builtin.delete_ #[53, 9] 0 [n0, t4].toArray) (fun _ w =>
 K (Value.tuple [].toArray) w
 ) w
 ) w
theorem s32_den (n0 t1 : Value) (K : Value → World → Prop) (w : World) : denFn Try.prog false (bodyOf Try.f32) Try.f32.results a32 [n0, t1] K NoP w = s32 n0 t1 K w := by kernel_rfl
theorem s32_dst : dstsOk (2 + 3) (bodyOf Try.f32) = true := by kernel_rfl
theorem s32_ann : annOk (bodyOf Try.f32) a32 = true := by kernel_rfl
theorem s32_call {n0 t1 : Value} {K : Value → World → Prop} {w : World} (hm : Try.prog.follows .mixedOrders = true) (h : s32 n0 t1 K w) : CallS Try.prog 32 #[n0, t1] K w :=
  fn_call (args := [n0, t1]) (m := 3) hm Try.func32 (by kernel_rfl) (rs := Try.f32.results) rfl Try.ntmps32 s32_dst s32_ann (by rw [s32_den]; exact h)

/-! number 33 -/
def a33 : Ann :=
 (.q (.r [.plain 2]) (.q (.r [.plain 2]) (.q (.r [.plain 2]) .s)))
def s33 (l0 : Value) (K : Value → World → Prop) (w : World) : Prop :=
 BoxS 23 l0 (fun l1 w =>
 BoxS 3 (Value.int .i64 0) (fun next3 w =>
 StoreC next3 (Value.int .i64 0) (fun w =>
 K (Value.func (Fn.func 49) [].toArray [l1, next3].toArray) w
 ) w
 ) w
 ) w
theorem s33_den (l0 : Value) (K : Value → World → Prop) (w : World) : denFn Try.prog false (bodyOf Try.f33) Try.f33.results a33 [l0] K NoP w = s33 l0 K w := by kernel_rfl
theorem s33_dst : dstsOk (1 + 4) (bodyOf Try.f33) = true := by kernel_rfl
theorem s33_ann : annOk (bodyOf Try.f33) a33 = true := by kernel_rfl
theorem s33_call {l0 : Value} {K : Value → World → Prop} {w : World} (hm : Try.prog.follows .mixedOrders = true) (h : s33 l0 K w) : CallS Try.prog 33 #[l0] K w :=
  fn_call (args := [l0]) (m := 4) hm Try.func33 (by kernel_rfl) (rs := Try.f33.results) rfl Try.ntmps33 s33_dst s33_ann (by rw [s33_den]; exact h)

/-! number 34 -/
def a34 : Ann :=
 (.q (.r [.plain 1]) (.q (.r [.plain 7]) .s))
def s34 (f0 : Value) (K : Value → World → Prop) (w : World) : Prop :=
 PureS (nilV f0) fun t4 =>
 PureS (fieldAddrV 1 t4) fun t5 =>
 LoadC t5 (fun t6 w =>
 CallS Try.prog 51 [t6].toArray (fun t7 w =>
 CallS Try.prog 50 [t7].toArray (fun t8 w =>
 K t8 w
 ) w
 ) w
 ) w
theorem s34_den (f0 : Value) (K : Value → World → Prop) (w : World) : denFn Try.prog false (bodyOf Try.f34) Try.f34.results a34 [f0] K NoP w = s34 f0 K w := by kernel_rfl
theorem s34_dst : dstsOk (1 + 8) (bodyOf Try.f34) = true := by kernel_rfl
theorem s34_ann : annOk (bodyOf Try.f34) a34 = true := by kernel_rfl
theorem s34_call {f0 : Value} {K : Value → World → Prop} {w : World} (hm : Try.prog.follows .mixedOrders = true) (h : s34 f0 K w) : CallS Try.prog 34 #[f0] K w :=
  fn_call (args := [f0]) (m := 8) hm Try.func34 (by kernel_rfl) (rs := Try.f34.results) rfl Try.ntmps34 s34_dst s34_ann (by rw [s34_den]; exact h)

/-! number 35 -/
def a35 : Ann :=
 (.q (.r [.plain 2]) (.q (.r [.plain 4]) (.b (.l [15] 18014398509450944 (.q (.r [.plain 1]) (.q (.c .s .s) (.j [] 9007199254611648 (.b (.q (.r [.plain 3]) (.q (.r [.plain 10]) (.q (.r [.plain 5]) (.b (.l [32] 9007194959775232 (.q (.r [.plain 1]) (.q (.c .s .s) (.q (.b (.q (.r [.plain 3]) (.q (.r [.plain 4]) (.q (.r [.plain 11]) (.r [.plain 3]))))) (.r [.plain 2]))))))))))
  (.r [.plain 2]))))))))
def s35 (f0 does1 : Value) (K : Value → World → Prop) (w : World) : Prop :=
 RunS Try.prog (Instr.makeMap 92 none) (fun t11 w =>
 CallS Try.prog 34 [f0].toArray (fun t13 w =>
 PureS (lenSliceV t13) fun t14 =>
 LoopS 1 (fun L0 (t15 : Value) (w : World) =>
 PureS (binV .lss t15 t14) fun t16 =>
 CondS t16 (
 JoinS (fun (w : World) =>
 PureS (binV .add t15 (Value.int .i64 1)) fun t53 =>
 L0 t53 w
 ) fun J1 =>
 PureS (indexAddrV 1 t13 t15) fun t17 =>
 LoadC t17 (fun t18 w =>
 PureS (nilV f0) fun t20 =>
 PureS (fieldAddrV 1 t20) fun t21 =>
 LoadC t21 (fun t22 w =>
 RunS Try.prog (Instr.lookup 42 t22 t18 false) (fun t24 w =>
 PureS (nilV t24) fun t25 =>
 PureS (fieldAddrV 0 t25) fun t26 =>
 LoadC t26 (fun t27 w =>
 CallS Try.prog 52 [t27].toArray (fun t29 w =>
 CallS Try.prog 50 [t29].toArray (fun t30 w =>
 PureS (lenSliceV t30) fun t31 =>
 LoopS 1 (fun L2 (t32 : Value) (w : World) =>
 PureS (binV .lss t32 t31) fun t33 =>
 CondS t33 (
 PureS (indexAddrV 1 t30 t32) fun t34 =>
 LoadC t34 (fun t35 w =>
 RunS Try.prog (Instr.lookup 53 t27 t35 false) (fun t38 w =>
 PureS (binV .add t18 (Value.string ⟨#[47]⟩)) fun t41 =>
 PureS (binV .add t41 t35) fun t43 =>
 RunS Try.prog (Instr.lookup 92 t11 t38 false) (fun t47 w =>
 PureS (notV t47) fun t48 =>
 CallV' Try.prog false does1 [t43, t38, t48] NoP (fun t49 w =>
 RunU Try.prog (Instr.mapUpdate 92 t11 t38 (Value.bool true)) (fun w =>
 PureS (binV .add t32 (Value.int .i64 1)) fun t52 =>
 L2 t52 w
 ) w
 ) w
 ) w
 ) w
 ) w
 ) (
 J1 w
 )
 ) (Value.int .i64 0) w
 ) w
 ) w
 ) w
 ) w
 ) w
 ) w
 ) (
 K (Value.tuple [].toArray) w
 )
 ) (Value.int .i64 0) w
 ) w
 ) w
theorem s35_den (f0 does1 : Value) (K : Value → World → Prop) (w : World) : denFn Try.prog false (bodyOf Try.f35) Try.f35.results a35 [f0, does1] K NoP w = s35 f0 does1 K w := by kernel_rfl
theorem s35_dst : dstsOk (2 + 52) (bodyOf Try.f35) = true := by kernel_rfl
theorem s35_ann : annOk (bodyOf Try.f35) a35 = true := by kernel_rfl
theorem s35_call {f0 does1 : Value} {K : Value → World → Prop} {w : World} (hm : Try.prog.follows .mixedOrders = true) (h : s35 f0 does1 K w) : CallS Try.prog 35 #[f0, does1] K w :=
  fn_call (args := [f0, does1]) (m := 52) hm Try.func35 (by kernel_rfl) (rs := Try.f35.results) rfl Try.ntmps35 s35_dst s35_ann (by rw [s35_den]; exact h)

/-! number 36 -/
def a36 : Ann :=
 (.q (.r [.plain 3]) (.q (.r [.plain 2, .grp 2 [13] 12288, .plain 1]) (.c (.r [.plain 7]) .s)))
def s36 (t0 x1 first2 t3 : Value) (K : Value → World → Prop) (w : World) : Prop :=
 CallS Try.prog 37 [x1].toArray (fun t9 w =>
 JoinS (fun (t13 : Value) (w : World) =>
 PureS (pickV first2 t13 (Value.bool false)) fun t14 =>
 CondS t14 (
 LoadC t3 (fun t16 w =>
 CallV' Try.prog false t16 [] NoP (fun t17 w =>
 PureS (binV .add t9 (Value.int .i64 1)) fun t19 =>
 PureS (binV .rem t17 t19) fun t20 =>
 CallS Try.prog 38 [x1, t20].toArray (fun t21 w =>
 K (Value.tuple [].toArray) w
 ) w
 ) w
 ) w
 ) (
 K (Value.tuple [].toArray) w
 )
 ) fun J0 =>
 IfB first2 true (
 PureS (binV .gtr t9 (Value.int .i64 0)) fun t13_1 =>
 J0 t13_1 w
 ) (
 J0 undef w
 )
 ) w
theorem s36_den (t0 x1 first2 t3 : Value) (K : Value → World → Prop) (w : World) : denFn Try.prog false (bodyOf Try.f36) Try.f36.results a36 [t0, x1, first2, t3] K NoP w = s36 t0 x1 first2 t3 K w := by kernel_rfl
theorem s36_dst : dstsOk (4 + 18) (bodyOf Try.f36) = true := by kernel_rfl
theorem s36_ann : annOk (bodyOf Try.f36) a36 = true := by kernel_rfl
theorem s36_call {t0 x1 first2 t3 : Value} {K : Value → World → Prop} {w : World} (hm : Try.prog.follows .mixedOrders = true) (h : s36 t0 x1 first2 t3 K w) : CallS Try.prog 36 #[t0, x1, first2, t3] K w :=
  fn_call (args := [t0, x1, first2, t3]) (m := 18) hm Try.func36 (by kernel_rfl) (rs := Try.f36.results) rfl Try.ntmps36 s36_dst s36_ann (by rw [s36_den]; exact h)

/-! number 37 -/
def a37 : Ann :=
 (.q (.r [.plain 1]) (.q (.r [.plain 1]) (.j [3] 2097128 (.q (.r [.plain 6]) (.b (.l [3, 11] 2095144 (.q (.r [.plain 1]) (.q (.c .s .s) (.q (.b (.q (.r [.plain 4]) (.r [.plain 6]))) (.r [.plain 2])))))))
  (.q (.r [.plain 2]) .s))))
def s37 (x0 : Value) (K : Value → World → Prop) (w : World) : Prop :=
 JoinS (fun (n3 : Value) (w : World) =>
 K n3 w
 ) fun J0 =>
 PureS (nilV x0) fun t7 =>
 PureS (fieldAddrV 1 t7) fun t8 =>
 LoadC t8 (fun t9 w =>
 PureS (lenSliceV t9) fun t10 =>
 LoopS 2 (fun L1 (n3_1 t11 : Value) (w : World) =>
 PureS (binV .lss t11 t10) fun t12 =>
 CondS t12 (
 PureS (indexAddrV 2 t9 t11) fun t13 =>
 LoadA 2 t13 (fun t14 w =>
 BoxS 87 (Value.agg #[(Value.int .i64 0), (Value.slice none 0 0)]) (fun w5 w =>
 StoreA 2 w5 t14 (fun w =>
 PureS (fieldAddrV 1 w5) fun t16 =>
 LoadC t16 (fun t17 w =>
 PureS (lenSliceV t17) fun t18 =>
 PureS (binV .add n3_1 t18) fun t19 =>
 PureS (binV .add t11 (Value.int .i64 1)) fun t20 =>
 L1 t19 t20 w
 ) w
 ) w
 ) w
 ) w
 ) (
 J0 n3_1 w
 )
 ) (Value.int .i64 0) (Value.int .i64 0) w
 ) w
theorem s37_den (x0 : Value) (K : Value → World → Prop) (w : World) : denFn Try.prog false (bodyOf Try.f37) Try.f37.results a37 [x0] K NoP w = s37 x0 K w := by kernel_rfl
theorem s37_dst : dstsOk (1 + 21) (bodyOf Try.f37) = true := by kernel_rfl
theorem s37_ann : annOk (bodyOf Try.f37) a37 = true := by kernel_rfl
theorem s37_call {x0 : Value} {K : Value → World → Prop} {w : World} (hm : Try.prog.follows .mixedOrders = true) (h : s37 x0 K w) : CallS Try.prog 37 #[x0] K w :=
  fn_call (args := [x0]) (m := 21) hm Try.func37 (by kernel_rfl) (rs := Try.f37.results) rfl Try.ntmps37 s37_dst s37_ann (by rw [s37_den]; exact h)

/-! number 38 -/
def a38 : Ann :=
 (.q (.r [.plain 5]) (.j [4] 2199023251666 (.q (.r [.plain 6]) (.b (.l [1, 4, 17] 2199023124690 (.q (.r [.plain 1]) (.q (.c .s .s) (.q (.b (.q (.r [.plain 4]) (.q (.r [.plain 6]) (.j [4] 137371844624 (.q (.r [.plain 2]) (.c (.d [0, 1, 0, 4, 0, 28, 63, 0, 255, 511] (.pur 0 (.pur 2 (.pur 4 (.pur 7 (.hld 1 (.hld 3 (.pur 5 (.act 6 (.act 8 (.pur 9 .fin))))))))))) .s))
  (.r [.plain 4]))))) (.r [.plain 2])))))))
  (.r [.plain 14])))
def s38 (x0 k1 : Value) (K : Value → World → Prop) (w : World) : Prop :=
 PureS (nilV x0) fun t9 =>
 PureS (fieldAddrV 0 t9) fun t10 =>
 LoadC t10 (fun t11 w =>
 JoinS (fun (b4 : Value) (w : World) =>
 PureS (nilV x0) fun t46 =>
 PureS (fieldAddrV 0 t46) fun t47 =>
 StoreC t47 b4 (fun w =>
 PureS (nilV x0) fun t48 =>
 PureS (fieldAddrV 1 t48) fun t49 =>
 StoreC t49 (Value.slice none 0 0) (fun w =>
 PureS (nilV x0) fun t50 =>
 PureS (fieldAddrV 2 t50) fun t51 =>
 StoreC t51 b4 (fun w =>
 K (Value.tuple [].toArray) w
 ) w
 ) w
 ) w
 ) fun J0 =>
 PureS (nilV x0) fun t13 =>
 PureS (fieldAddrV 1 t13) fun t14 =>
 LoadC t14 (fun t15 w =>
 PureS (lenSliceV t15) fun t16 =>
 LoopS 3 (fun L1 (k1_1 b4_1 t17 : Value) (w : World) =>
 PureS (binV .lss t17 t16) fun t18 =>
 CondS t18 (
 PureS (indexAddrV 2 t15 t17) fun t19 =>
 LoadA 2 t19 (fun t20 w =>
 BoxS 87 (Value.agg #[(Value.int .i64 0), (Value.slice none 0 0)]) (fun w6 w =>
 StoreA 2 w6 t20 (fun w =>
 PureS (fieldAddrV 1 w6) fun t22 =>
 LoadC t22 (fun t23 w =>
 PureS (lenSliceV t23) fun t24 =>
 PureS (minV k1_1 t24) fun t25 =>
 JoinS (fun (b4_2 : Value) (w : World) =>
 PureS (binV .sub k1_1 t25) fun t39 =>
 PureS (binV .add t17 (Value.int .i64 1)) fun t40 =>
 L1 t39 b4_2 t40 w
 ) fun J2 =>
 PureS (binV .gtr t25 (Value.int .i64 0)) fun t27 =>
 CondS t27 (
 DrawS fun S3 => S3 w.drew ∧ (
 PureS (fieldAddrV 0 w6) fun t28 =>
 PureS (fieldAddrV 1 w6) fun t30 =>
 HeldC S3 t28 (fun t29 =>
 HeldC S3 t30 (fun t31 =>
 PureS (sliceV 1 t31 none (some t25)) fun t33 =>
 RunS Try.prog (Instr.build 87 [(0, t29), (1, t33)].toArray) (fun t34 w =>
 CallS Try.prog 48 [t34, b4_1].toArray (fun t36 w =>
 J2 t36 w
 ) w
 ) w.drew
 )
 )
 )
 ) (
 J2 b4_1 w
 )
 ) w
 ) w
 ) w
 ) w
 ) (
 J0 b4_1 w
 )
 ) k1 t11 (Value.int .i64 0) w
 ) w
 ) w
theorem s38_den (x0 k1 : Value) (K : Value → World → Prop) (w : World) : denFn Try.prog false (bodyOf Try.f38) Try.f38.results a38 [x0, k1] K NoP w = s38 x0 k1 K w := by kernel_rfl
theorem s38_dst : dstsOk (2 + 50) (bodyOf Try.f38) = true := by kernel_rfl
theorem s38_ann : annOk (bodyOf Try.f38) a38 = true := by kernel_rfl
theorem s38_call {x0 k1 : Value} {K : Value → World → Prop} {w : World} (hm : Try.prog.follows .mixedOrders = true) (h : s38 x0 k1 K w) : CallS Try.prog 38 #[x0, k1] K w :=
  fn_call (args := [x0, k1]) (m := 50) hm Try.func38 (by kernel_rfl) (rs := Try.f38.results) rfl Try.ntmps38 s38_dst s38_ann (by rw [s38_den]; exact h)

/-! number 39 -/
def a39 : Ann :=
 (.q (.r [.plain 1]) (.q (.q (.r [.plain 2]) (.c (.q (.r [.plain 1]) .s) .s)) (.q (.r [.plain 4]) .s)))
def s39 (s0 : Value) (K : Value → World → Prop) (w : World) : Prop :=
 RunS Try.prog (do eqGuard .eql 22 (Operand.tmp 3) (Operand.const (Value.slice none 0 0)) s0 (Value.slice none 0 0); binOp .eql 22 s0 (Value.slice none 0 0)) (fun t4 w =>
 CondS t4 (
 K (Value.slice none 0 0) w
 ) (
 RunS Try.prog (Instr.buildSlice 22 0 [].toArray) (fun t5 w =>
 RunS Try.prog (Builtin.append_ #[22, 22] 22 [t5, s0].toArray) (fun t7 w =>
 K t7 w
 ) w
 ) w
 )
 ) w
theorem s39_den (s0 : Value) (K : Value → World → Prop) (w : World) : denFn Try.prog false (bodyOf Try.f39) Try.f39.results a39 [s0] K NoP w = s39 s0 K w := by kernel_rfl
theorem s39_dst : dstsOk (1 + 7) (bodyOf Try.f39) = true := by kernel_rfl
theorem s39_ann : annOk (bodyOf Try.f39) a39 = true := by kernel_rfl
theorem s39_call {s0 : Value} {K : Value → World → Prop} {w : World} (hm : Try.prog.follows .mixedOrders = true) (h : s39 s0 K w) : CallS Try.prog 39 #[s0] K w :=
  fn_call (args := [s0]) (m := 7) hm Try.func39 (by kernel_rfl) (rs := Try.f39.results) rfl Try.ntmps39 s39_dst s39_ann (by rw [s39_den]; exact h)

/-! number 40 -/
def a40 : Ann :=
 (.r [.plain 4])
def s40 (n0 t1 t2 : Value) (K : Value → World → Prop) (w : World) : Prop :=
 LoadC t2 (fun t5 w =>
 LoadC t1 (fun t6 w =>
 RunU Try.prog (Instr.mapUpdate 53 n0 t5 t6) (fun w =>
 K (Value.tuple [].toArray) w
 ) w
 ) w
 ) w
theorem s40_den (n0 t1 t2 : Value) (K : Value → World → Prop) (w : World) : denFn Try.prog false (bodyOf Try.f40) Try.f40.results a40 [n0, t1, t2] K NoP w = s40 n0 t1 t2 K w := by kernel_rfl
theorem s40_dst : dstsOk (3 + 4) (bodyOf Try.f40) = true := by kernel_rfl
theorem s40_ann : annOk (bodyOf Try.f40) a40 = true := by kernel_rfl
theorem s40_call {n0 t1 t2 : Value} {K : Value → World → Prop} {w : World} (hm : Try.prog.follows .mixedOrders = true) (h : s40 n0 t1 t2 K w) : CallS Try.prog 40 #[n0, t1, t2] K w :=
  fn_call (args := [n0, t1, t2]) (m := 4) hm Try.func40 (by kernel_rfl) (rs := Try.f40.results) rfl Try.ntmps40 s40_dst s40_ann (by rw [s40_den]; exact h)

/-! number 41 -/
def a41 : Ann :=
 (.q (.r [.plain 1]) (.q (.r [.plain 2]) (.q (.r [.plain 3]) (.q (.r [.plain 2]) .s))))
def s41 (f0 : Value) (K : Value → World → Prop) (w : World) : Prop :=
 BoxS 3 (Value.int .i64 0) (fun n3 w =>
 StoreC n3 (Value.int .i64 0) (fun w =>
 CallS Try.prog 35 [f0, (Value.func (Fn.func 53) [].toArray [n3].toArray)].toArray (fun t6 w =>
 LoadC n3 (fun t7 w =>
 K t7 w
 ) w
 ) w
 ) w
 ) w
theorem s41_den (f0 : Value) (K : Value → World → Prop) (w : World) : denFn Try.prog false (bodyOf Try.f41) Try.f41.results a41 [f0] K NoP w = s41 f0 K w := by kernel_rfl
theorem s41_dst : dstsOk (1 + 7) (bodyOf Try.f41) = true := by kernel_rfl
theorem s41_ann : annOk (bodyOf Try.f41) a41 = true := by kernel_rfl
theorem s41_call {f0 : Value} {K : Value → World → Prop} {w : World} (hm : Try.prog.follows .mixedOrders = true) (h : s41 f0 K w) : CallS Try.prog 41 #[f0] K w :=
  fn_call (args := [f0]) (m := 7) hm Try.func41 (by kernel_rfl) (rs := Try.f41.results) rfl Try.ntmps41 s41_dst s41_ann (by rw [s41_den]; exact h)

/-! number 42 -/
def a42 : Ann :=
 (.r [.plain 3])
def s42 (n0 t1 : Value) (K : Value → World → Prop) (w : World) : Prop :=
 LoadC t1 (fun t4 w =>
 RunS Try.prog (Builtin.delete_ #[53, 9] 0 [n0, t4].toArray) (fun _ w =>
 K (Value.tuple [].toArray) w
 ) w
 ) w
theorem s42_den (n0 t1 : Value) (K : Value → World → Prop) (w : World) : denFn Try.prog false (bodyOf Try.f42) Try.f42.results a42 [n0, t1] K NoP w = s42 n0 t1 K w := by kernel_rfl
theorem s42_dst : dstsOk (2 + 3) (bodyOf Try.f42) = true := by kernel_rfl
theorem s42_ann : annOk (bodyOf Try.f42) a42 = true := by kernel_rfl
theorem s42_call {n0 t1 : Value} {K : Value → World → Prop} {w : World} (hm : Try.prog.follows .mixedOrders = true) (h : s42 n0 t1 K w) : CallS Try.prog 42 #[n0, t1] K w :=
  fn_call (args := [n0, t1]) (m := 3) hm Try.func42 (by kernel_rfl) (rs := Try.f42.results) rfl Try.ntmps42 s42_dst s42_ann (by rw [s42_den]; exact h)

/-! number 43 -/
def a43 : Ann :=
 (.q (.r [.plain 1]) (.q (.r [.plain 4]) .s))
def s43 (s0 f1 : Value) (K : Value → World → Prop) (w : World) : Prop :=
 CallS Try.prog 54 [s0, f1, (Value.bool true)].toArray (fun t7 w =>
 K t7 w
 ) w
theorem s43_den (s0 f1 : Value) (K : Value → World → Prop) (w : World) : denFn Try.prog false (bodyOf Try.f43) Try.f43.results a43 [s0, f1] K NoP w = s43 s0 f1 K w := by kernel_rfl
theorem s43_dst : dstsOk (2 + 6) (bodyOf Try.f43) = true := by kernel_rfl
theorem s43_ann : annOk (bodyOf Try.f43) a43 = true := by kernel_rfl
theorem s43_call {s0 f1 : Value} {K : Value → World → Prop} {w : World} (hm : Try.prog.follows .mixedOrders = true) (h : s43 s0 f1 K w) : CallS Try.prog 43 #[s0, f1] K w :=
  fn_call (args := [s0, f1]) (m := 6) hm Try.func43 (by kernel_rfl) (rs := Try.f43.results) rfl Try.ntmps43 s43_dst s43_ann (by rw [s43_den]; exact h)

/-! number 44 -/
def a44 : Ann :=
 (.q (.r [.plain 1]) (.q (.r [.plain 3, .grp 2 [7] 192, .plain 2, .grp 2 [11] 3072, .plain 2]) .s))
def s44 (r0 : Value) (K : Value → World → Prop) (w : World) : Prop :=
 PureS (binV .lss r0 (Value.int .i32 33)) fun t4 =>
 JoinS (fun (t7 : Value) (w : World) =>
 PureS (pickV t4 (Value.bool true) t7) fun t8 =>
 JoinS (fun (t11 : Value) (w : World) =>
 PureS (pickV t8 (Value.bool true) t11) fun t12 =>
 K t12 w
 ) fun J1 =>
 IfB t8 false (
 PureS (binV .eql r0 (Value.int .i32 47)) fun t11_1 =>
 J1 t11_1 w
 ) (
 J1 undef w
 )
 ) fun J0 =>
 IfB t4 false (
 PureS (binV .gtr r0 (Value.int .i32 126)) fun t7_1 =>
 J0 t7_1 w
 ) (
 J0 undef w
 )
theorem s44_den (r0 : Value) (K : Value → World → Prop) (w : World) : denFn Try.prog false (bodyOf Try.f44) Try.f44.results a44 [r0] K NoP w = s44 r0 K w := by kernel_rfl
theorem s44_dst : dstsOk (1 + 12) (bodyOf Try.f44) = true := by kernel_rfl
theorem s44_ann : annOk (bodyOf Try.f44) a44 = true := by kernel_rfl
theorem s44_call {r0 : Value} {K : Value → World → Prop} {w : World} (hm : Try.prog.follows .mixedOrders = true) (h : s44 r0 K w) : CallS Try.prog 44 #[r0] K w :=
  fn_call (args := [r0]) (m := 12) hm Try.func44 (by kernel_rfl) (rs := Try.f44.results) rfl Try.ntmps44 s44_dst s44_ann (by rw [s44_den]; exact h)

/-! number 45 -/
def a45 : Ann :=
 (.q (.r [.plain 2]) (.q (.q (.r [.plain 6, .grp 5 [15] 63488, .plain 1]) (.c (.q (.r [.plain 2]) .s) .s)) (.q (.r [.plain 8]) (.q (.d [0, 1, 3, 7, 0, 16, 48, 112, 255, 511] (.pur 0 (.pur 1 (.pur 2 (.pur 4 (.pur 5 (.pur 6 (.hld 3 (.hld 7 (.pur 8 (.pur 9 .fin))))))))))) (.q (.r [.plain 3, .grp 6 [41] 4329327034368, .grp 6 [47] 277076930199552, .grp 1 [48] 281474976710656, .plain 5]) .s)))))
def s45 (s0 : Value) (K : Value → World → Prop) (w : World) : Prop :=
 PureS (nilV s0) fun t6 =>
 PureS (fieldAddrV 0 t6) fun t7 =>
 LoadC t7 (fun t8 w =>
 PureS (binV .lss t8 (Value.int .i64 1)) fun t9 =>
 JoinS (fun (t15 : Value) (w : World) =>
 PureS (pickV t9 (Value.bool true) t15) fun t16 =>
 CondS t16 (
 K (Value.tuple [(Value.bool false), (Value.bool false)].toArray) w
 ) (
 PureS (nilV s0) fun t18 =>
 PureS (fieldAddrV 2 t18) fun t19 =>
 LoadC t19 (fun t20 w =>
 PureS (binV .add t20 (Value.int .i64 1)) fun t21 =>
 PureS (nilV s0) fun t22 =>
 PureS (fieldAddrV 2 t22) fun t23 =>
 StoreC t23 t21 (fun w =>
 DrawS fun S1 => S1 w.drew ∧ (
 PureS (nilV s0) fun t25 =>
 PureS (fieldAddrV 2 t25) fun t26 =>
 PureS (nilV s0) fun t29 =>
 PureS (fieldAddrV 0 t29) fun t30 =>
 HeldC S1 t26 (fun t27 =>
 HeldC S1 t30 (fun t31 =>
 PureS (binV .sub t27 t31) fun t32 =>
 PureS (binV .geq t32 (Value.int .i64 0)) fun t34 =>
 JoinS (fun (t41 : Value) (w : World) =>
 JoinS (fun (t47 : Value) (w : World) =>
 JoinS (fun (t48 : Value) (w : World) =>
 PureS (pickV t34 t48 (Value.bool false)) fun t49 =>
 PureS (binV .eql t32 (Value.int .i64 0)) fun t51 =>
 K (Value.tuple [t49, t51].toArray) w
 ) fun J4 =>
 IfB t34 true (
 PureS (pickV t41 (Value.bool true) t47) fun t48_1 =>
 J4 t48_1 w
 ) (
 J4 undef w
 )
 ) fun J3 =>
 IfB t41 false (
 PureS (nilV s0) fun t44 =>
 PureS (fieldAddrV 1 t44) fun t45 =>
 LoadC t45 (fun t46 w =>
 PureS (binV .lss t32 t46) fun t47_1 =>
 J3 t47_1 w
 ) w
 ) (
 J3 undef w
 )
 ) fun J2 =>
 IfB t34 true (
 PureS (nilV s0) fun t37 =>
 PureS (fieldAddrV 1 t37) fun t38 =>
 LoadC t38 (fun t39 w =>
 PureS (binV .lss t39 (Value.int .i64 0)) fun t40 =>
 J2 t40 w
 ) w.drew
 ) (
 J2 undef w.drew
 )
 )
 )
 )
 ) w
 ) w
 )
 ) fun J0 =>
 IfB t9 false (
 PureS (nilV s0) fun t12 =>
 PureS (fieldAddrV 1 t12) fun t13 =>
 LoadC t13 (fun t14 w =>
 PureS (binV .eql t14 (Value.int .i64 0)) fun t15_1 =>
 J0 t15_1 w
 ) w
 ) (
 J0 undef w
 )
 ) w
theorem s45_den (s0 : Value) (K : Value → World → Prop) (w : World) : denFn Try.prog false (bodyOf Try.f45) Try.f45.results a45 [s0] K NoP w = s45 s0 K w := by kernel_rfl
theorem s45_dst : dstsOk (1 + 51) (bodyOf Try.f45) = true := by kernel_rfl
theorem s45_ann : annOk (bodyOf Try.f45) a45 = true := by kernel_rfl
theorem s45_call {s0 : Value} {K : Value → World → Prop} {w : World} (hm : Try.prog.follows .mixedOrders = true) (h : s45 s0 K w) : CallS Try.prog 45 #[s0] K w :=
  fn_call (args := [s0]) (m := 51) hm Try.func45 (by kernel_rfl) (rs := Try.f45.results) rfl Try.ntmps45 s45_dst s45_ann (by rw [s45_den]; exact h)

/-! number 46 -/
def a46 : Ann :=
 (.q (.r [.plain 3]) (.q (.r [.plain 9]) .s))
def s46 (s0 sep1 : Value) (K : Value → World → Prop) (w : World) : Prop :=
 CallS Try.prog 55 [s0, sep1].toArray (fun t9 w =>
 PureS (extractV 0 t9) fun t10 =>
 PureS (extractV 1 t9) fun t11 =>
 PureS (extractV 2 t9) fun t12 =>
 K (Value.tuple [t10, t11, t12].toArray) w
 ) w
theorem s46_den (s0 sep1 : Value) (K : Value → World → Prop) (w : World) : denFn Try.prog false (bodyOf Try.f46) Try.f46.results a46 [s0, sep1] K NoP w = s46 s0 sep1 K w := by kernel_rfl
theorem s46_dst : dstsOk (2 + 11) (bodyOf Try.f46) = true := by kernel_rfl
theorem s46_ann : annOk (bodyOf Try.f46) a46 = true := by kernel_rfl
theorem s46_call {s0 sep1 : Value} {K : Value → World → Prop} {w : World} (hm : Try.prog.follows .mixedOrders = true) (h : s46 s0 sep1 K w) : CallS Try.prog 46 #[s0, sep1] K w :=
  fn_call (args := [s0, sep1]) (m := 11) hm Try.func46 (by kernel_rfl) (rs := Try.f46.results) rfl Try.ntmps46 s46_dst s46_ann (by rw [s46_den]; exact h)

/-! number 47 -/
def a47 : Ann :=
 (.q (.r [.plain 1]) (.q (.q (.r [.plain 2]) (.c (.q (.r [.plain 1]) .s) .s)) (.q (.r [.plain 5]) .s)))
def s47 (m0 : Value) (K : Value → World → Prop) (w : World) : Prop :=
 RunS Try.prog (do eqGuard .eql 53 (Operand.tmp 3) (Operand.const (Value.map none)) m0 (Value.map none); binOp .eql 53 m0 (Value.map none)) (fun t4 w =>
 CondS t4 (
 K (Value.map none) w
 ) (
 CallX Try.prog 56 [(Value.iface 53 m0)].toArray (fun t7 w =>
 RunS Try.prog (Instr.typeAssert t7 20 53 false) (fun t8 w =>
 K t8 w
 ) w
 ) w
 )
 ) w
theorem s47_den (m0 : Value) (K : Value → World → Prop) (w : World) : denFn Try.prog false (bodyOf Try.f47) Try.f47.results a47 [m0] K NoP w = s47 m0 K w := by kernel_rfl
theorem s47_dst : dstsOk (1 + 8) (bodyOf Try.f47) = true := by kernel_rfl
theorem s47_ann : annOk (bodyOf Try.f47) a47 = true := by kernel_rfl
theorem s47_call {m0 : Value} {K : Value → World → Prop} {w : World} (hm : Try.prog.follows .mixedOrders = true) (h : s47 m0 K w) : CallS Try.prog 47 #[m0] K w :=
  fn_call (args := [m0]) (m := 8) hm Try.func47 (by kernel_rfl) (rs := Try.f47.results) rfl Try.ntmps47 s47_dst s47_ann (by rw [s47_den]; exact h)

/-! number 48 -/
def a48 : Ann :=
 (.q (.r [.plain 2]) (.j [1] 33554402 (.q (.r [.plain 7]) (.q (.r [.plain 4]) (.c (.r [.plain 8]) (.r [.plain 3]))))
  (.q (.d [0, 0, 2, 7, 0, 16, 63] (.pur 0 (.pur 1 (.pur 4 (.hld 2 (.pur 3 (.hld 5 (.act 6 .fin)))))))) (.q (.r [.plain 2]) .s))))
def s48 (w0 b1 : Value) (K : Value → World → Prop) (w : World) : Prop :=
 BoxS 87 w0 (fun w2 w =>
 JoinS (fun (b1_1 : Value) (w : World) =>
 DrawS fun S1 => S1 w.drew ∧ (
 PureS (fieldAddrV 0 w2) fun t26 =>
 PureS (fieldAddrV 1 w2) fun t29 =>
 HeldC S1 t26 (fun t27 =>
 PureS (sliceV 1 b1_1 (some t27) none) fun t28 =>
 HeldC S1 t29 (fun t30 =>
 RunS Try.prog (Builtin.copy_ #[22, 22] 3 [t28, t30].toArray) (fun t31 w =>
 K b1_1 w
 ) w.drew
 )
 )
 )
 ) fun J0 =>
 PureS (fieldAddrV 0 w2) fun t6 =>
 LoadC t6 (fun t7 w =>
 PureS (fieldAddrV 1 w2) fun t8 =>
 LoadC t8 (fun t9 w =>
 PureS (lenSliceV t9) fun t10 =>
 PureS (binV .add t7 t10) fun t11 =>
 PureS (lenSliceV b1) fun t14 =>
 PureS (binV .gtr t11 t14) fun t15 =>
 CondS t15 (
 CallS Try.prog 39 [b1].toArray (fun t17 w =>
 PureS (lenSliceV b1) fun t20 =>
 PureS (binV .sub t11 t20) fun t21 =>
 RunS Try.prog (Builtin.append_ #[22, 3] 22 [t17, t21].toArray) (fun t22 w =>
 J0 t22 w
 ) w
 ) w
 ) (
 CallS Try.prog 39 [b1].toArray (fun t24 w =>
 J0 t24 w
 ) w
 )
 ) w
 ) w
 ) w
theorem s48_den (w0 b1 : Value) (K : Value → World → Prop) (w : World) : denFn Try.prog false (bodyOf Try.f48) Try.f48.results a48 [w0, b1] K NoP w = s48 w0 b1 K w := by kernel_rfl
theorem s48_dst : dstsOk (2 + 31) (bodyOf Try.f48) = true := by kernel_rfl
theorem s48_ann : annOk (bodyOf Try.f48) a48 = true := by kernel_rfl
theorem s48_call {w0 b1 : Value} {K : Value → World → Prop} {w : World} (hm : Try.prog.follows .mixedOrders = true) (h : s48 w0 b1 K w) : CallS Try.prog 48 #[w0, b1] K w :=
  fn_call (args := [w0, b1]) (m := 31) hm Try.func48 (by kernel_rfl) (rs := Try.f48.results) rfl Try.ntmps48 s48_dst s48_ann (by rw [s48_den]; exact h)

/-! number 49 -/
def a49 : Ann :=
 (.q (.r [.plain 1]) (.q (.q (.r [.plain 3]) (.c (.q (.r [.plain 1]) .s) .s)) (.q (.r [.plain 3]) (.q (.d [0, 0, 2, 0, 8, 30, 63, 127, 255, 511] (.hld 0 (.hld 1 (.pur 2 (.hld 3 (.pur 4 (.pur 5 (.pur 6 (.hld 7 (.pur 8 (.pur 9 .fin))))))))))) .s))))
def s49 (t0 t1 : Value) (K : Value → World → Prop) (w : World) : Prop :=
 LoadC t0 (fun t3 w =>
 PureS (lenSliceV t3) fun t4 =>
 PureS (binV .eql t4 (Value.int .i64 0)) fun t5 =>
 CondS t5 (
 K (Value.int .i64 0) w
 ) (
 LoadC t1 (fun t6 w =>
 PureS (binV .add t6 (Value.int .i64 1)) fun t7 =>
 StoreC t1 t7 (fun w =>
 DrawS fun S0 => S0 w.drew ∧ (
 HeldC S0 t0 (fun t8 =>
 HeldC S0 t1 (fun t9 =>
 PureS (binV .sub t9 (Value.int .i64 1)) fun t10 =>
 HeldC S0 t0 (fun t11 =>
 PureS (lenSliceV t11) fun t12 =>
 PureS (binV .rem t10 t12) fun t13 =>
 PureS (indexAddrV 1 t8 t13) fun t14 =>
 HeldC S0 t14 (fun t15 =>
 PureS (maxV t15 (Value.int .i64 0)) fun t16 =>
 K t16 w.drew
 )
 )
 )
 )
 )
 ) w
 ) w
 )
 ) w
theorem s49_den (t0 t1 : Value) (K : Value → World → Prop) (w : World) : denFn Try.prog false (bodyOf Try.f49) Try.f49.results a49 [t0, t1] K NoP w = s49 t0 t1 K w := by kernel_rfl
theorem s49_dst : dstsOk (2 + 15) (bodyOf Try.f49) = true := by kernel_rfl
theorem s49_ann : annOk (bodyOf Try.f49) a49 = true := by kernel_rfl
theorem s49_call {t0 t1 : Value} {K : Value → World → Prop} {w : World} (hm : Try.prog.follows .mixedOrders = true) (h : s49 t0 t1 K w) : CallS Try.prog 49 #[t0, t1] K w :=
  fn_call (args := [t0, t1]) (m := 15) hm Try.func49 (by kernel_rfl) (rs := Try.f49.results) rfl Try.ntmps49 s49_dst s49_ann (by rw [s49_den]; exact h)

/-! number 50 -/
def a50 : Ann :=
 (.q (.r [.plain 1]) (.q (.r [.plain 3]) (.q (.r [.plain 2]) (.q (.r [.plain 2]) .s))))
def s50 (seq0 : Value) (K : Value → World → Prop) (w : World) : Prop :=
 CallS Try.prog 57 [seq0].toArray (fun t5 w =>
 CallS Try.prog 58 [t5].toArray (fun t7 w =>
 K t5 w
 ) w
 ) w
theorem s50_den (seq0 : Value) (K : Value → World → Prop) (w : World) : denFn Try.prog false (bodyOf Try.f50) Try.f50.results a50 [seq0] K NoP w = s50 seq0 K w := by kernel_rfl
theorem s50_dst : dstsOk (1 + 8) (bodyOf Try.f50) = true := by kernel_rfl
theorem s50_ann : annOk (bodyOf Try.f50) a50 = true := by kernel_rfl
theorem s50_call {seq0 : Value} {K : Value → World → Prop} {w : World} (hm : Try.prog.follows .mixedOrders = true) (h : s50 seq0 K w) : CallS Try.prog 50 #[seq0] K w :=
  fn_call (args := [seq0]) (m := 8) hm Try.func50 (by kernel_rfl) (rs := Try.f50.results) rfl Try.ntmps50 s50_dst s50_ann (by rw [s50_den]; exact h)

/-! number 51 -/
def a51 : Ann :=
 (.q (.r [.plain 2]) (.q (.r [.plain 2]) .s))
def s51 (m0 : Value) (K : Value → World → Prop) (w : World) : Prop :=
 BoxS 42 m0 (fun m1 w =>
 K (Value.func (Fn.func 59) [].toArray [m1].toArray) w
 ) w
theorem s51_den (m0 : Value) (K : Value → World → Prop) (w : World) : denFn Try.prog false (bodyOf Try.f51) Try.f51.results a51 [m0] K NoP w = s51 m0 K w := by kernel_rfl
theorem s51_dst : dstsOk (1 + 3) (bodyOf Try.f51) = true := by kernel_rfl
theorem s51_ann : annOk (bodyOf Try.f51) a51 = true := by kernel_rfl
theorem s51_call {m0 : Value} {K : Value → World → Prop} {w : World} (hm : Try.prog.follows .mixedOrders = true) (h : s51 m0 K w) : CallS Try.prog 51 #[m0] K w :=
  fn_call (args := [m0]) (m := 3) hm Try.func51 (by kernel_rfl) (rs := Try.f51.results) rfl Try.ntmps51 s51_dst s51_ann (by rw [s51_den]; exact h)

/-! number 52 -/
def a52 : Ann :=
 (.q (.r [.plain 2]) (.q (.r [.plain 2]) .s))
def s52 (m0 : Value) (K : Value → World → Prop) (w : World) : Prop :=
 BoxS 53 m0 (fun m1 w =>
 K (Value.func (Fn.func 60) [].toArray [m1].toArray) w
 ) w
theorem s52_den (m0 : Value) (K : Value → World → Prop) (w : World) : denFn Try.prog false (bodyOf Try.f52) Try.f52.results a52 [m0] K NoP w = s52 m0 K w := by kernel_rfl
theorem s52_dst : dstsOk (1 + 3) (bodyOf Try.f52) = true := by kernel_rfl
theorem s52_ann : annOk (bodyOf Try.f52) a52 = true := by kernel_rfl
theorem s52_call {m0 : Value} {K : Value → World → Prop} {w : World} (hm : Try.prog.follows .mixedOrders = true) (h : s52 m0 K w) : CallS Try.prog 52 #[m0] K w :=
  fn_call (args := [m0]) (m := 3) hm Try.func52 (by kernel_rfl) (rs := Try.f52.results) rfl Try.ntmps52 s52_dst s52_ann (by rw [s52_den]; exact h)

/-! number 53 -/
def a53 : Ann :=
 (.q (.r [.plain 1]) (.c (.d [0, 0, 2, 6, 14, 30, 63, 127] (.pur 1 (.pur 2 (.pur 3 (.hld 0 (.hld 4 (.pur 5 (.pur 6 (.act 7 .fin))))))))) .s))
def s53 (t0 x1 first2 t3 : Value) (K : Value → World → Prop) (w : World) : Prop :=
 CondS first2 (
 DrawS fun S0 => S0 w.drew ∧ (
 PureS (nilV x1) fun t10 =>
 PureS (fieldAddrV 2 t10) fun t11 =>
 HeldC S0 t3 (fun t8 =>
 HeldC S0 t11 (fun t12 =>
 PureS (lenSliceV t12) fun t13 =>
 PureS (binV .add t8 t13) fun t14 =>
 StoreC t3 t14 (fun w =>
 K (Value.tuple [].toArray) w
 ) w.drew
 )
 )
 )
 ) (
 K (Value.tuple [].toArray) w
 )
theorem s53_den (t0 x1 first2 t3 : Value) (K : Value → World → Prop) (w : World) : denFn Try.prog false (bodyOf Try.f53) Try.f53.results a53 [t0, x1, first2, t3] K NoP w = s53 t0 x1 first2 t3 K w := by kernel_rfl
theorem s53_dst : dstsOk (4 + 11) (bodyOf Try.f53) = true := by kernel_rfl
theorem s53_ann : annOk (bodyOf Try.f53) a53 = true := by kernel_rfl
theorem s53_call {t0 x1 first2 t3 : Value} {K : Value → World → Prop} {w : World} (hm : Try.prog.follows .mixedOrders = true) (h : s53 t0 x1 first2 t3 K w) : CallS Try.prog 53 #[t0, x1, first2, t3] K w :=
  fn_call (args := [t0, x1, first2, t3]) (m := 11) hm Try.func53 (by kernel_rfl) (rs := Try.f53.results) rfl Try.ntmps53 s53_dst s53_ann (by rw [s53_den]; exact h)

/-! number 54 -/
def a54 : Ann :=
 (.q (.r [.plain 1]) (.j [] 2097088 (.q (.r [.plain 2]) (.b (.l [] 2095552 (.q (.r [.plain 2]) (.q (.c .s .s) (.b (.q (.r [.plain 4]) (.q (.r [.plain 5]) (.c (.q (.r [.plain 2]) .s) .s)))))))))
  (.q (.r [.plain 1]) .s)))
def s54 (s0 f1 truth2 : Value) (K : Value → World → Prop) (w : World) : Prop :=
 JoinS (fun (w : World) =>
 K (Value.int .i64 (-1)) w
 ) fun J0 =>
 RunS Try.prog (Instr.range 9 s0) (fun t10 w =>
 LoopS 0 (fun L1 (w : World) =>
 RunS Try.prog (Instr.next t10 true 0) (fun t11 w =>
 PureS (extractV 0 t11) fun t12 =>
 CondS t12 (
 PureS (extractV 1 t11) fun t13 =>
 PureS (extractV 2 t11) fun t14 =>
 CallV' Try.prog false f1 [t14] NoP (fun t17 w =>
 PureS (boolV .eql t17 truth2) fun t19 =>
 CondS t19 (
 K t13 w
 ) (
 L1 w
 )
 ) w
 ) (
 J0 w
 )
 ) w
 ) w
 ) w
theorem s54_den (s0 f1 truth2 : Value) (K : Value → World → Prop) (w : World) : denFn Try.prog false (bodyOf Try.f54) Try.f54.results a54 [s0, f1, truth2] K NoP w = s54 s0 f1 truth2 K w := by kernel_rfl
theorem s54_dst : dstsOk (3 + 18) (bodyOf Try.f54) = true := by kernel_rfl
theorem s54_ann : annOk (bodyOf Try.f54) a54 = true := by kernel_rfl
theorem s54_call {s0 f1 truth2 : Value} {K : Value → World → Prop} {w : World} (hm : Try.prog.follows .mixedOrders = true) (h : s54 s0 f1 truth2 K w) : CallS Try.prog 54 #[s0, f1, truth2] K w :=
  fn_call (args := [s0, f1, truth2]) (m := 18) hm Try.func54 (by kernel_rfl) (rs := Try.f54.results) rfl Try.ntmps54 s54_dst s54_ann (by rw [s54_den]; exact h)

/-! number 55 -/
def a55 : Ann :=
 (.q (.r [.plain 3]) (.q (.q (.r [.plain 4]) (.q (.r [.plain 2]) (.c (.q (.d [0, 0, 3, 0, 0, 0, 32, 112, 248, 7, 1023, 2047] (.pur 0 (.pur 1 (.pur 2 (.pur 3 (.pur 4 (.pur 5 (.pur 6 (.pur 7 (.pur 8 (.pur 9 (.pur 10 (.pur 11 .fin))))))))))))) .s) .s))) (.q (.r [.plain 4]) .s)))
def s55 (s0 sep1 : Value) (K : Value → World → Prop) (w : World) : Prop :=
 CallS Try.prog 61 [s0, sep1].toArray (fun t10 w =>
 PureS (binV .geq t10 (Value.int .i64 0)) fun t12 =>
 CondS t12 (
 DrawS fun S0 => S0 w.drew ∧ (
 PureS (sliceStrV s0 none (some t10)) fun t15 =>
 PureS (lenStrV sep1) fun t19 =>
 PureS (binV .add t10 t19) fun t20 =>
 PureS (sliceStrV s0 (some t20) none) fun t21 =>
 K (Value.tuple [t15, t21, (Value.bool true)].toArray) w.drew
 )
 ) (
 K (Value.tuple [s0, (Value.string ⟨#[]⟩), (Value.bool false)].toArray) w
 )
 ) w
theorem s55_den (s0 sep1 : Value) (K : Value → World → Prop) (w : World) : denFn Try.prog false (bodyOf Try.f55) Try.f55.results a55 [s0, sep1] K NoP w = s55 s0 sep1 K w := by kernel_rfl
theorem s55_dst : dstsOk (2 + 21) (bodyOf Try.f55) = true := by kernel_rfl
theorem s55_ann : annOk (bodyOf Try.f55) a55 = true := by kernel_rfl
theorem s55_call {s0 sep1 : Value} {K : Value → World → Prop} {w : World} (hm : Try.prog.follows .mixedOrders = true) (h : s55 s0 sep1 K w) : CallS Try.prog 55 #[s0, sep1] K w :=
  fn_call (args := [s0, sep1]) (m := 21) hm Try.func55 (by kernel_rfl) (rs := Try.f55.results) rfl Try.ntmps55 s55_dst s55_ann (by rw [s55_den]; exact h)

/-! number 57 -/
def a57 : Ann :=
 (.q (.r [.plain 1]) (.q (.r [.plain 3]) .s))
def s57 (seq0 : Value) (K : Value → World → Prop) (w : World) : Prop :=
 CallS Try.prog 62 [(Value.slice none 0 0), seq0].toArray (fun t4 w =>
 K t4 w
 ) w
theorem s57_den (seq0 : Value) (K : Value → World → Prop) (w : World) : denFn Try.prog false (bodyOf Try.f57) Try.f57.results a57 [seq0] K NoP w = s57 seq0 K w := by kernel_rfl
theorem s57_dst : dstsOk (1 + 4) (bodyOf Try.f57) = true := by kernel_rfl
theorem s57_ann : annOk (bodyOf Try.f57) a57 = true := by kernel_rfl
theorem s57_call {seq0 : Value} {K : Value → World → Prop} {w : World} (hm : Try.prog.follows .mixedOrders = true) (h : s57 seq0 K w) : CallS Try.prog 57 #[seq0] K w :=
  fn_call (args := [seq0]) (m := 4) hm Try.func57 (by kernel_rfl) (rs := Try.f57.results) rfl Try.ntmps57 s57_dst s57_ann (by rw [s57_den]; exact h)

/-! number 58 -/
def a58 : Ann :=
 (.q (.r [.plain 3]) (.r [.plain 6]))
def s58 (x0 : Value) (K : Value → World → Prop) (w : World) : Prop :=
 PureS (lenSliceV x0) fun t4 =>
 PureS (convIntV .u64 t4) fun t8 =>
 CallS Try.prog 64 [t8].toArray (fun t9 w =>
 CallS Try.prog 63 [x0, (Value.int .i64 0), t4, t9].toArray (fun t10 w =>
 K (Value.tuple [].toArray) w
 ) w
 ) w
theorem s58_den (x0 : Value) (K : Value → World → Prop) (w : World) : denFn Try.prog false (bodyOf Try.f58) Try.f58.results a58 [x0] K NoP w = s58 x0 K w := by kernel_rfl
theorem s58_dst : dstsOk (1 + 10) (bodyOf Try.f58) = true := by kernel_rfl
theorem s58_ann : annOk (bodyOf Try.f58) a58 = true := by kernel_rfl
theorem s58_call {x0 : Value} {K : Value → World → Prop} {w : World} (hm : Try.prog.follows .mixedOrders = true) (h : s58 x0 K w) : CallS Try.prog 58 #[x0] K w :=
  fn_call (args := [x0]) (m := 10) hm Try.func58 (by kernel_rfl) (rs := Try.f58.results) rfl Try.ntmps58 s58_dst s58_ann (by rw [s58_den]; exact h)

/-! number 59 -/
def a59 : Ann :=
 (.q (.r [.plain 2]) (.b (.l [] 16328 (.q (.r [.plain 2]) (.q (.c .s .s) (.b (.q (.r [.plain 3]) (.q (.r [.plain 4]) (.c .s .s)))))))))
def s59 (yield0 t1 : Value) (K : Value → World → Prop) (w : World) : Prop :=
 LoadC t1 (fun t4 w =>
 RunS Try.prog (Instr.range 42 t4) (fun t5 w =>
 LoopS 0 (fun L0 (w : World) =>
 RunS Try.prog (Instr.next t5 false 0) (fun t6 w =>
 PureS (extractV 0 t6) fun t7 =>
 CondS t7 (
 RunS Try.prog (Instr.entry t5) (fun t8 w =>
 PureS (extractV 0 t8) fun t9 =>
 CallV' Try.prog false yield0 [t9] NoP (fun t12 w =>
 PureS (notV t12) fun t13 =>
 CondS t13 (
 K (Value.tuple [].toArray) w
 ) (
 L0 w
 )
 ) w
 ) w
 ) (
 K (Value.tuple [].toArray) w
 )
 ) w
 ) w
 ) w
 ) w
theorem s59_den (yield0 t1 : Value) (K : Value → World → Prop) (w : World) : denFn Try.prog false (bodyOf Try.f59) Try.f59.results a59 [yield0, t1] K NoP w = s59 yield0 t1 K w := by kernel_rfl
theorem s59_dst : dstsOk (2 + 12) (bodyOf Try.f59) = true := by kernel_rfl
theorem s59_ann : annOk (bodyOf Try.f59) a59 = true := by kernel_rfl
theorem s59_call {yield0 t1 : Value} {K : Value → World → Prop} {w : World} (hm : Try.prog.follows .mixedOrders = true) (h : s59 yield0 t1 K w) : CallS Try.prog 59 #[yield0, t1] K w :=
  fn_call (args := [yield0, t1]) (m := 12) hm Try.func59 (by kernel_rfl) (rs := Try.f59.results) rfl Try.ntmps59 s59_dst s59_ann (by rw [s59_den]; exact h)

/-! number 60 -/
def a60 : Ann :=
 (.q (.r [.plain 2]) (.b (.l [] 16328 (.q (.r [.plain 2]) (.q (.c .s .s) (.b (.q (.r [.plain 3]) (.q (.r [.plain 4]) (.c .s .s)))))))))
def s60 (yield0 t1 : Value) (K : Value → World → Prop) (w : World) : Prop :=
 LoadC t1 (fun t4 w =>
 RunS Try.prog (Instr.range 53 t4) (fun t5 w =>
 LoopS 0 (fun L0 (w : World) =>
 RunS Try.prog (Instr.next t5 false 0) (fun t6 w =>
 PureS (extractV 0 t6) fun t7 =>
 CondS t7 (
 RunS Try.prog (Instr.entry t5) (fun t8 w =>
 PureS (extractV 0 t8) fun t9 =>
 CallV' Try.prog false yield0 [t9] NoP (fun t12 w =>
 PureS (notV t12) fun t13 =>
 CondS t13 (
 K (Value.tuple [].toArray) w
 ) (
 L0 w
 )
 ) w
 ) w
 ) (
 K (Value.tuple [].toArray) w
 )
 ) w
 ) w
 ) w
 ) w
theorem s60_den (yield0 t1 : Value) (K : Value → World → Prop) (w : World) : denFn Try.prog false (bodyOf Try.f60) Try.f60.results a60 [yield0, t1] K NoP w = s60 yield0 t1 K w := by kernel_rfl
theorem s60_dst : dstsOk (2 + 12) (bodyOf Try.f60) = true := by kernel_rfl
theorem s60_ann : annOk (bodyOf Try.f60) a60 = true := by kernel_rfl
theorem s60_call {yield0 t1 : Value} {K : Value → World → Prop} {w : World} (hm : Try.prog.follows .mixedOrders = true) (h : s60 yield0 t1 K w) : CallS Try.prog 60 #[yield0, t1] K w :=
  fn_call (args := [yield0, t1]) (m := 12) hm Try.func60 (by kernel_rfl) (rs := Try.f60.results) rfl Try.ntmps60 s60_dst s60_ann (by rw [s60_den]; exact h)
end Go.Proofs.Ythohdinjpkehpaa
