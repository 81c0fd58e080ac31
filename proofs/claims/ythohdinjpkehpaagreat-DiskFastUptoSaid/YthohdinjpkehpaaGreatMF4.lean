/- Several texts of ours, laid one behind the other. -/
import Derived.Test.YthohdinjpkehpaaGreatMF3
import Derived.Test.YthohdinjpkehpaaGreatProg
import Derived.Test.YthohdinjpkehpaaGreatChecked
import Derived.Eval
import Derived.Lib.Strings
namespace Go.Proofs.YthohdinjpkehpaaGreat
set_option linter.unusedVariables false
set_option maxRecDepth 100000
open Go SG

def a113 : Ann :=
 (.q (.r [.plain 2]) (.q (.r [.plain 8]) (.q (.b (.q (.r [.plain 3]) (.c (.q (.r [.plain 3]) .s) (.q (.r [.plain 3, .grp 2 [27] 201326592, .plain 2, .grp 4 [33] 16106127360, .plain 2]) (.c (.q (.r [.plain 2]) .s) .s))))) (.q (.r [.plain 4]) (.j [10] 34909494182912 (.q (.r [.plain 4]) (.c (.r [.plain 4]) .s))
  (.q (.r [.plain 3]) .s))))))
def s113 (f0 path1 at2 n3 : Value) (K : Value → World → Prop) (w : World) : Prop :=
 CallS Tryz.prog 110 [f0, path1].toArray (fun t15 w =>
 PureS (extractV 0 t15) fun t16 =>
 PureS (extractV 1 t15) fun t17 =>
 PureS (binV .neq t17 (Value.int .i64 0)) fun t20 =>
 CondS t20 (
 K (Value.tuple [(Value.slice none 0 0), t17].toArray) w
 ) (
 PureS (binV .lss n3 (Value.int .i64 0)) fun t24 =>
 JoinS (fun (t27 : Value) (w : World) =>
 PureS (pickV t24 (Value.bool true) t27) fun t28 =>
 JoinS (fun (t33 : Value) (w : World) =>
 PureS (pickV t28 (Value.bool true) t33) fun t34 =>
 CondS t34 (
 K (Value.tuple [(Value.slice none 0 0), (Value.int .i64 1)].toArray) w
 ) (
 PureS (sliceV 1 t16 (some at2) none) fun t37 =>
 JoinS (fun (b10 : Value) (w : World) =>
 K (Value.tuple [b10, (Value.int .i64 0)].toArray) w
 ) fun J2 =>
 PureS (lenSliceV t37) fun t39 =>
 PureS (binV .gtr t39 n3) fun t41 =>
 CondS t41 (
 PureS (sliceV 1 t37 none (some n3)) fun t44 =>
 J2 t44 w
 ) (
 J2 t37 w
 )
 )
 ) fun J1 =>
 IfB t28 false (
 PureS (lenSliceV t16) fun t32 =>
 PureS (binV .gtr at2 t32) fun t33_1 =>
 J1 t33_1 w
 ) (
 J1 undef w
 )
 ) fun J0 =>
 IfB t24 false (
 PureS (binV .lss at2 (Value.int .i64 0)) fun t27_1 =>
 J0 t27_1 w
 ) (
 J0 undef w
 )
 )
 ) w
theorem s113_den (f0 path1 at2 n3 : Value) (K : Value → World → Prop) (w : World) : denFn Tryz.prog false (bodyOf Tryz.f113) Tryz.f113.results a113 [f0, path1, at2, n3] K NoP w = s113 f0 path1 at2 n3 K w := by kernel_rfl
theorem s113_dst : dstsOk (4 + 42) (bodyOf Tryz.f113) = true := by kernel_rfl
theorem s113_ann : annOk (bodyOf Tryz.f113) a113 = true := by kernel_rfl
theorem s113_call {f0 path1 at2 n3 : Value} {K : Value → World → Prop} {w : World} (hm : Tryz.prog.follows .mixedOrders = true) (h : s113 f0 path1 at2 n3 K w) : CallS Tryz.prog 113 #[f0, path1, at2, n3] K w :=
  fn_call (args := [f0, path1, at2, n3]) (m := 42) hm Tryz.func113 (by kernel_rfl) (rs := Tryz.f113.results) rfl Tryz.ntmps113 s113_dst s113_ann (by rw [s113_den]; exact h)

def a114 : Ann :=
 (.q (.r [.plain 2]) (.q (.r [.plain 8]) (.q (.q (.r [.plain 2]) (.c (.q (.r [.plain 3]) .s) .s)) (.q (.r [.plain 4]) .s))))
def s114 (f0 path1 : Value) (K : Value → World → Prop) (w : World) : Prop :=
 CallS Tryz.prog 33 [f0, path1].toArray (fun t11 w =>
 PureS (extractV 0 t11) fun t12 =>
 PureS (extractV 1 t11) fun t13 =>
 PureS (binV .neq t13 (Value.int .i64 0)) fun t15 =>
 CondS t15 (
 K (Value.tuple [(Value.int .i64 0), t13].toArray) w
 ) (
 CallS Tryz.prog 29 [t12].toArray (fun t18 w =>
 K (Value.tuple [t18, (Value.int .i64 0)].toArray) w
 ) w
 )
 ) w
theorem s114_den (f0 path1 : Value) (K : Value → World → Prop) (w : World) : denFn Tryz.prog false (bodyOf Tryz.f114) Tryz.f114.results a114 [f0, path1] K NoP w = s114 f0 path1 K w := by kernel_rfl
theorem s114_dst : dstsOk (2 + 17) (bodyOf Tryz.f114) = true := by kernel_rfl
theorem s114_ann : annOk (bodyOf Tryz.f114) a114 = true := by kernel_rfl
theorem s114_call {f0 path1 : Value} {K : Value → World → Prop} {w : World} (hm : Tryz.prog.follows .mixedOrders = true) (h : s114 f0 path1 K w) : CallS Tryz.prog 114 #[f0, path1] K w :=
  fn_call (args := [f0, path1]) (m := 17) hm Tryz.func114 (by kernel_rfl) (rs := Tryz.f114.results) rfl Tryz.ntmps114 s114_dst s114_ann (by rw [s114_den]; exact h)

def a115 : Ann :=
 (.q (.r [.plain 2]) (.q (.r [.plain 8]) (.q (.q (.r [.plain 2]) (.c (.q (.r [.plain 3]) .s) .s)) (.q (.r [.plain 10]) .s))))
def s115 (f0 path1 : Value) (K : Value → World → Prop) (w : World) : Prop :=
 CallS Tryz.prog 94 [f0, path1].toArray (fun t11 w =>
 PureS (extractV 0 t11) fun t12 =>
 PureS (extractV 1 t11) fun t13 =>
 PureS (binV .neq t13 (Value.int .i64 0)) fun t15 =>
 CondS t15 (
 K (Value.tuple [(Value.int .i64 0), t13].toArray) w
 ) (
 PureS (nilV f0) fun t18 =>
 PureS (fieldAddrV 2 t18) fun t19 =>
 LoadC t19 (fun t20 w =>
 PureS (indexAddrV 2 t20 t12) fun t22 =>
 LoadA 2 t22 (fun t23 w =>
 CallS Tryz.prog 108 [t23].toArray (fun t24 w =>
 K (Value.tuple [t24, (Value.int .i64 0)].toArray) w
 ) w
 ) w
 ) w
 )
 ) w
theorem s115_den (f0 path1 : Value) (K : Value → World → Prop) (w : World) : denFn Tryz.prog false (bodyOf Tryz.f115) Tryz.f115.results a115 [f0, path1] K NoP w = s115 f0 path1 K w := by kernel_rfl
theorem s115_dst : dstsOk (2 + 23) (bodyOf Tryz.f115) = true := by kernel_rfl
theorem s115_ann : annOk (bodyOf Tryz.f115) a115 = true := by kernel_rfl
theorem s115_call {f0 path1 : Value} {K : Value → World → Prop} {w : World} (hm : Tryz.prog.follows .mixedOrders = true) (h : s115 f0 path1 K w) : CallS Tryz.prog 115 #[f0, path1] K w :=
  fn_call (args := [f0, path1]) (m := 23) hm Tryz.func115 (by kernel_rfl) (rs := Tryz.f115.results) rfl Tryz.ntmps115 s115_dst s115_ann (by rw [s115_den]; exact h)

def a116 : Ann :=
 (.q (.r [.plain 2]) (.q (.r [.plain 8]) (.q (.q (.r [.plain 2]) (.c (.q (.r [.plain 3]) .s) .s)) (.q (.r [.plain 8]) .s))))
def s116 (f0 name1 : Value) (K : Value → World → Prop) (w : World) : Prop :=
 CallS Tryz.prog 75 [f0, name1].toArray (fun t11 w =>
 PureS (extractV 0 t11) fun t12 =>
 PureS (extractV 1 t11) fun t13 =>
 PureS (binV .neq t13 (Value.int .i64 0)) fun t15 =>
 CondS t15 (
 K (Value.tuple [(Value.slice none 0 0), t13].toArray) w
 ) (
 PureS (nilV t12) fun t18 =>
 PureS (fieldAddrV 0 t18) fun t19 =>
 LoadC t19 (fun t20 w =>
 CallS Tryz.prog 79 [t20].toArray (fun t21 w =>
 CallS Tryz.prog 77 [t21].toArray (fun t22 w =>
 K (Value.tuple [t22, (Value.int .i64 0)].toArray) w
 ) w
 ) w
 ) w
 )
 ) w
theorem s116_den (f0 name1 : Value) (K : Value → World → Prop) (w : World) : denFn Tryz.prog false (bodyOf Tryz.f116) Tryz.f116.results a116 [f0, name1] K NoP w = s116 f0 name1 K w := by kernel_rfl
theorem s116_dst : dstsOk (2 + 21) (bodyOf Tryz.f116) = true := by kernel_rfl
theorem s116_ann : annOk (bodyOf Tryz.f116) a116 = true := by kernel_rfl
theorem s116_call {f0 name1 : Value} {K : Value → World → Prop} {w : World} (hm : Tryz.prog.follows .mixedOrders = true) (h : s116 f0 name1 K w) : CallS Tryz.prog 116 #[f0, name1] K w :=
  fn_call (args := [f0, name1]) (m := 21) hm Tryz.func116 (by kernel_rfl) (rs := Tryz.f116.results) rfl Tryz.ntmps116 s116_dst s116_ann (by rw [s116_den]; exact h)

def a117 : Ann :=
 (.q (.r [.plain 2]) (.q (.r [.plain 8]) (.q (.q (.r [.plain 2]) (.c (.q (.r [.plain 3]) .s) .s)) (.q (.r [.plain 6]) .s))))
def s117 (f0 dir1 : Value) (K : Value → World → Prop) (w : World) : Prop :=
 CallS Tryz.prog 104 [f0, dir1].toArray (fun t11 w =>
 PureS (extractV 0 t11) fun t12 =>
 PureS (extractV 1 t11) fun t13 =>
 PureS (binV .neq t13 (Value.int .i64 0)) fun t15 =>
 CondS t15 (
 K (Value.tuple [(Value.slice none 0 0), t13].toArray) w
 ) (
 CallS Tryz.prog 86 [f0, t12].toArray (fun t19 w =>
 RunS Tryz.prog (Instr.field 129 t19 0) (fun t20 w =>
 K (Value.tuple [t20, (Value.int .i64 0)].toArray) w
 ) w
 ) w
 )
 ) w
theorem s117_den (f0 dir1 : Value) (K : Value → World → Prop) (w : World) : denFn Tryz.prog false (bodyOf Tryz.f117) Tryz.f117.results a117 [f0, dir1] K NoP w = s117 f0 dir1 K w := by kernel_rfl
theorem s117_dst : dstsOk (2 + 19) (bodyOf Tryz.f117) = true := by kernel_rfl
theorem s117_ann : annOk (bodyOf Tryz.f117) a117 = true := by kernel_rfl
theorem s117_call {f0 dir1 : Value} {K : Value → World → Prop} {w : World} (hm : Tryz.prog.follows .mixedOrders = true) (h : s117 f0 dir1 K w) : CallS Tryz.prog 117 #[f0, dir1] K w :=
  fn_call (args := [f0, dir1]) (m := 19) hm Tryz.func117 (by kernel_rfl) (rs := Tryz.f117.results) rfl Tryz.ntmps117 s117_dst s117_ann (by rw [s117_den]; exact h)

def a118 : Ann :=
 (.q (.r [.plain 1]) (.q (.r [.plain 8]) (.q (.r [.plain 8]) (.q (.r [.plain 3, .grp 2 [27] 201326592, .plain 2, .grp 3 [32] 7516192768, .plain 2]) .s))))
def s118 (f0 a1 b2 : Value) (K : Value → World → Prop) (w : World) : Prop :=
 CallS Tryz.prog 33 [f0, a1].toArray (fun t14 w =>
 PureS (extractV 0 t14) fun t15 =>
 PureS (extractV 1 t14) fun t16 =>
 CallS Tryz.prog 33 [f0, b2].toArray (fun t20 w =>
 PureS (extractV 0 t20) fun t21 =>
 PureS (extractV 1 t20) fun t22 =>
 PureS (binV .eql t16 (Value.int .i64 0)) fun t24 =>
 JoinS (fun (t27 : Value) (w : World) =>
 PureS (pickV t24 t27 (Value.bool false)) fun t28 =>
 JoinS (fun (t32 : Value) (w : World) =>
 PureS (pickV t28 t32 (Value.bool false)) fun t33 =>
 K t33 w
 ) fun J1 =>
 IfB t28 true (
 RunS Tryz.prog (do eqGuard .eql 75 (Operand.tmp 30) (Operand.tmp 31) t15 t21; binOp .eql 75 t15 t21) (fun t32_1 w =>
 J1 t32_1 w
 ) w
 ) (
 J1 undef w
 )
 ) fun J0 =>
 IfB t24 true (
 PureS (binV .eql t22 (Value.int .i64 0)) fun t27_1 =>
 J0 t27_1 w
 ) (
 J0 undef w
 )
 ) w
 ) w
theorem s118_den (f0 a1 b2 : Value) (K : Value → World → Prop) (w : World) : denFn Tryz.prog false (bodyOf Tryz.f118) Tryz.f118.results a118 [f0, a1, b2] K NoP w = s118 f0 a1 b2 K w := by kernel_rfl
theorem s118_dst : dstsOk (3 + 31) (bodyOf Tryz.f118) = true := by kernel_rfl
theorem s118_ann : annOk (bodyOf Tryz.f118) a118 = true := by kernel_rfl
theorem s118_call {f0 a1 b2 : Value} {K : Value → World → Prop} {w : World} (hm : Tryz.prog.follows .mixedOrders = true) (h : s118 f0 a1 b2 K w) : CallS Tryz.prog 118 #[f0, a1, b2] K w :=
  fn_call (args := [f0, a1, b2]) (m := 31) hm Tryz.func118 (by kernel_rfl) (rs := Tryz.f118.results) rfl Tryz.ntmps118 s118_dst s118_ann (by rw [s118_den]; exact h)

def a119 : Ann :=
 (.q (.r [.plain 1]) (.q (.r [.plain 8]) (.q (.r [.plain 8]) (.q (.r [.plain 3, .grp 2 [27] 201326592, .plain 2, .grp 3 [32] 7516192768, .plain 2]) .s))))
def s119 (f0 a1 b2 : Value) (K : Value → World → Prop) (w : World) : Prop :=
 CallS Tryz.prog 94 [f0, a1].toArray (fun t14 w =>
 PureS (extractV 0 t14) fun t15 =>
 PureS (extractV 1 t14) fun t16 =>
 CallS Tryz.prog 94 [f0, b2].toArray (fun t20 w =>
 PureS (extractV 0 t20) fun t21 =>
 PureS (extractV 1 t20) fun t22 =>
 PureS (binV .eql t16 (Value.int .i64 0)) fun t24 =>
 JoinS (fun (t27 : Value) (w : World) =>
 PureS (pickV t24 t27 (Value.bool false)) fun t28 =>
 JoinS (fun (t32 : Value) (w : World) =>
 PureS (pickV t28 t32 (Value.bool false)) fun t33 =>
 K t33 w
 ) fun J1 =>
 IfB t28 true (
 PureS (binV .eql t15 t21) fun t32_1 =>
 J1 t32_1 w
 ) (
 J1 undef w
 )
 ) fun J0 =>
 IfB t24 true (
 PureS (binV .eql t22 (Value.int .i64 0)) fun t27_1 =>
 J0 t27_1 w
 ) (
 J0 undef w
 )
 ) w
 ) w
theorem s119_den (f0 a1 b2 : Value) (K : Value → World → Prop) (w : World) : denFn Tryz.prog false (bodyOf Tryz.f119) Tryz.f119.results a119 [f0, a1, b2] K NoP w = s119 f0 a1 b2 K w := by kernel_rfl
theorem s119_dst : dstsOk (3 + 31) (bodyOf Tryz.f119) = true := by kernel_rfl
theorem s119_ann : annOk (bodyOf Tryz.f119) a119 = true := by kernel_rfl
theorem s119_call {f0 a1 b2 : Value} {K : Value → World → Prop} {w : World} (hm : Tryz.prog.follows .mixedOrders = true) (h : s119 f0 a1 b2 K w) : CallS Tryz.prog 119 #[f0, a1, b2] K w :=
  fn_call (args := [f0, a1, b2]) (m := 31) hm Tryz.func119 (by kernel_rfl) (rs := Tryz.f119.results) rfl Tryz.ntmps119 s119_dst s119_ann (by rw [s119_den]; exact h)

def a120 : Ann :=
 (.q (.r [.plain 1]) (.q (.r [.plain 4]) .s))
def s120 (s0 f1 : Value) (K : Value → World → Prop) (w : World) : Prop :=
 CallS Tryz.prog 133 [s0, f1, (Value.bool true)].toArray (fun t7 w =>
 K t7 w
 ) w
theorem s120_den (s0 f1 : Value) (K : Value → World → Prop) (w : World) : denFn Tryz.prog false (bodyOf Tryz.f120) Tryz.f120.results a120 [s0, f1] K NoP w = s120 s0 f1 K w := by kernel_rfl
theorem s120_dst : dstsOk (2 + 6) (bodyOf Tryz.f120) = true := by kernel_rfl
theorem s120_ann : annOk (bodyOf Tryz.f120) a120 = true := by kernel_rfl
theorem s120_call {s0 f1 : Value} {K : Value → World → Prop} {w : World} (hm : Tryz.prog.follows .mixedOrders = true) (h : s120 s0 f1 K w) : CallS Tryz.prog 120 #[s0, f1] K w :=
  fn_call (args := [s0, f1]) (m := 6) hm Tryz.func120 (by kernel_rfl) (rs := Tryz.f120.results) rfl Tryz.ntmps120 s120_dst s120_ann (by rw [s120_den]; exact h)

def a121 : Ann :=
 (.q (.r [.plain 1]) (.q (.r [.plain 3, .grp 2 [7] 192, .plain 2, .grp 2 [11] 3072, .plain 2]) .s))
def s121 (r0 : Value) (K : Value → World → Prop) (w : World) : Prop :=
 PureS (binV .lss r0 (Value.int .i32 33)) fun t4 =>
 JoinS (fun (t7 : Value) (w : World) =>
 PureS (pickV t4 (Value.bool true) t7) fun t8 =>
 JoinS (fun (t11 : Value) (w : World) =>
 PureS (pickV t8 (Value.bool true) t11) fun t12 =>
 K t12 w
 ) fun J1 =>
 IfB t8 false (
 PureS (binV .eql r0 (Value.int .i32 47)) fun t11_1 =>
 J1 t11_1 w
 ) (
 J1 undef w
 )
 ) fun J0 =>
 IfB t4 false (
 PureS (binV .gtr r0 (Value.int .i32 126)) fun t7_1 =>
 J0 t7_1 w
 ) (
 J0 undef w
 )
theorem s121_den (r0 : Value) (K : Value → World → Prop) (w : World) : denFn Tryz.prog false (bodyOf Tryz.f121) Tryz.f121.results a121 [r0] K NoP w = s121 r0 K w := by kernel_rfl
theorem s121_dst : dstsOk (1 + 12) (bodyOf Tryz.f121) = true := by kernel_rfl
theorem s121_ann : annOk (bodyOf Tryz.f121) a121 = true := by kernel_rfl
theorem s121_call {r0 : Value} {K : Value → World → Prop} {w : World} (hm : Tryz.prog.follows .mixedOrders = true) (h : s121 r0 K w) : CallS Tryz.prog 121 #[r0] K w :=
  fn_call (args := [r0]) (m := 12) hm Tryz.func121 (by kernel_rfl) (rs := Tryz.f121.results) rfl Tryz.ntmps121 s121_dst s121_ann (by rw [s121_den]; exact h)

def a122 : Ann :=
 (.q (.r [.plain 3]) (.q (.r [.plain 9]) .s))
def s122 (s0 sep1 : Value) (K : Value → World → Prop) (w : World) : Prop :=
 CallS Tryz.prog 134 [s0, sep1].toArray (fun t9 w =>
 PureS (extractV 0 t9) fun t10 =>
 PureS (extractV 1 t9) fun t11 =>
 PureS (extractV 2 t9) fun t12 =>
 K (Value.tuple [t10, t11, t12].toArray) w
 ) w
theorem s122_den (s0 sep1 : Value) (K : Value → World → Prop) (w : World) : denFn Tryz.prog false (bodyOf Tryz.f122) Tryz.f122.results a122 [s0, sep1] K NoP w = s122 s0 sep1 K w := by kernel_rfl
theorem s122_dst : dstsOk (2 + 11) (bodyOf Tryz.f122) = true := by kernel_rfl
theorem s122_ann : annOk (bodyOf Tryz.f122) a122 = true := by kernel_rfl
theorem s122_call {s0 sep1 : Value} {K : Value → World → Prop} {w : World} (hm : Tryz.prog.follows .mixedOrders = true) (h : s122 s0 sep1 K w) : CallS Tryz.prog 122 #[s0, sep1] K w :=
  fn_call (args := [s0, sep1]) (m := 11) hm Tryz.func122 (by kernel_rfl) (rs := Tryz.f122.results) rfl Tryz.ntmps122 s122_dst s122_ann (by rw [s122_den]; exact h)

def a123 : Ann :=
 (.q (.r [.plain 1]) (.q (.q (.r [.plain 2]) (.c (.q (.r [.plain 1]) .s) .s)) (.q (.r [.plain 5]) .s)))
def s123 (m0 : Value) (K : Value → World → Prop) (w : World) : Prop :=
 RunS Tryz.prog (do eqGuard .eql 70 (Operand.tmp 3) (Operand.const (Value.map none)) m0 (Value.map none); binOp .eql 70 m0 (Value.map none)) (fun t4 w =>
 CondS t4 (
 K (Value.map none) w
 ) (
 CallX Tryz.prog 135 [(Value.iface 70 m0)].toArray (fun t7 w =>
 RunS Tryz.prog (Instr.typeAssert t7 20 70 false) (fun t8 w =>
 K t8 w
 ) w
 ) w
 )
 ) w
theorem s123_den (m0 : Value) (K : Value → World → Prop) (w : World) : denFn Tryz.prog false (bodyOf Tryz.f123) Tryz.f123.results a123 [m0] K NoP w = s123 m0 K w := by kernel_rfl
theorem s123_dst : dstsOk (1 + 8) (bodyOf Tryz.f123) = true := by kernel_rfl
theorem s123_ann : annOk (bodyOf Tryz.f123) a123 = true := by kernel_rfl
theorem s123_call {m0 : Value} {K : Value → World → Prop} {w : World} (hm : Tryz.prog.follows .mixedOrders = true) (h : s123 m0 K w) : CallS Tryz.prog 123 #[m0] K w :=
  fn_call (args := [m0]) (m := 8) hm Tryz.func123 (by kernel_rfl) (rs := Tryz.f123.results) rfl Tryz.ntmps123 s123_dst s123_ann (by rw [s123_den]; exact h)

def a124 : Ann :=
 (.q (.r [.plain 1]) (.q (.r [.plain 3]) .s))
def s124 (seq0 : Value) (K : Value → World → Prop) (w : World) : Prop :=
 CallS Tryz.prog 136 [(Value.slice none 0 0), seq0].toArray (fun t4 w =>
 K t4 w
 ) w
theorem s124_den (seq0 : Value) (K : Value → World → Prop) (w : World) : denFn Tryz.prog false (bodyOf Tryz.f124) Tryz.f124.results a124 [seq0] K NoP w = s124 seq0 K w := by kernel_rfl
theorem s124_dst : dstsOk (1 + 4) (bodyOf Tryz.f124) = true := by kernel_rfl
theorem s124_ann : annOk (bodyOf Tryz.f124) a124 = true := by kernel_rfl
theorem s124_call {seq0 : Value} {K : Value → World → Prop} {w : World} (hm : Tryz.prog.follows .mixedOrders = true) (h : s124 seq0 K w) : CallS Tryz.prog 124 #[seq0] K w :=
  fn_call (args := [seq0]) (m := 4) hm Tryz.func124 (by kernel_rfl) (rs := Tryz.f124.results) rfl Tryz.ntmps124 s124_dst s124_ann (by rw [s124_den]; exact h)

def a125 : Ann :=
 (.q (.r [.plain 3]) (.r [.plain 6]))
def s125 (x0 : Value) (K : Value → World → Prop) (w : World) : Prop :=
 PureS (lenSliceV x0) fun t4 =>
 PureS (convIntV .u64 t4) fun t8 =>
 CallS Tryz.prog 138 [t8].toArray (fun t9 w =>
 CallS Tryz.prog 137 [x0, (Value.int .i64 0), t4, t9].toArray (fun t10 w =>
 K (Value.tuple [].toArray) w
 ) w
 ) w
theorem s125_den (x0 : Value) (K : Value → World → Prop) (w : World) : denFn Tryz.prog false (bodyOf Tryz.f125) Tryz.f125.results a125 [x0] K NoP w = s125 x0 K w := by kernel_rfl
theorem s125_dst : dstsOk (1 + 10) (bodyOf Tryz.f125) = true := by kernel_rfl
theorem s125_ann : annOk (bodyOf Tryz.f125) a125 = true := by kernel_rfl
theorem s125_call {x0 : Value} {K : Value → World → Prop} {w : World} (hm : Tryz.prog.follows .mixedOrders = true) (h : s125 x0 K w) : CallS Tryz.prog 125 #[x0] K w :=
  fn_call (args := [x0]) (m := 10) hm Tryz.func125 (by kernel_rfl) (rs := Tryz.f125.results) rfl Tryz.ntmps125 s125_dst s125_ann (by rw [s125_den]; exact h)

def a126 : Ann :=
 (.q (.r [.plain 2]) (.b (.l [] 16328 (.q (.r [.plain 2]) (.q (.c .s .s) (.b (.q (.r [.plain 3]) (.q (.r [.plain 4]) (.c .s .s)))))))))
def s126 (yield0 t1 : Value) (K : Value → World → Prop) (w : World) : Prop :=
 LoadC t1 (fun t4 w =>
 RunS Tryz.prog (Instr.range 64 t4) (fun t5 w =>
 LoopS 0 (fun L0 (w : World) =>
 RunS Tryz.prog (Instr.next t5 false 0) (fun t6 w =>
 PureS (extractV 0 t6) fun t7 =>
 CondS t7 (
 RunS Tryz.prog (Instr.entry t5) (fun t8 w =>
 PureS (extractV 0 t8) fun t9 =>
 CallV' Tryz.prog false yield0 [t9] NoP (fun t12 w =>
 PureS (notV t12) fun t13 =>
 CondS t13 (
 K (Value.tuple [].toArray) w
 ) (
 L0 w
 )
 ) w
 ) w
 ) (
 K (Value.tuple [].toArray) w
 )
 ) w
 ) w
 ) w
 ) w
theorem s126_den (yield0 t1 : Value) (K : Value → World → Prop) (w : World) : denFn Tryz.prog false (bodyOf Tryz.f126) Tryz.f126.results a126 [yield0, t1] K NoP w = s126 yield0 t1 K w := by kernel_rfl
theorem s126_dst : dstsOk (2 + 12) (bodyOf Tryz.f126) = true := by kernel_rfl
theorem s126_ann : annOk (bodyOf Tryz.f126) a126 = true := by kernel_rfl
theorem s126_call {yield0 t1 : Value} {K : Value → World → Prop} {w : World} (hm : Tryz.prog.follows .mixedOrders = true) (h : s126 yield0 t1 K w) : CallS Tryz.prog 126 #[yield0, t1] K w :=
  fn_call (args := [yield0, t1]) (m := 12) hm Tryz.func126 (by kernel_rfl) (rs := Tryz.f126.results) rfl Tryz.ntmps126 s126_dst s126_ann (by rw [s126_den]; exact h)

def a127 : Ann :=
 (.q (.r [.plain 2]) (.b (.l [] 16328 (.q (.r [.plain 2]) (.q (.c .s .s) (.b (.q (.r [.plain 3]) (.q (.r [.plain 4]) (.c .s .s)))))))))
def s127 (yield0 t1 : Value) (K : Value → World → Prop) (w : World) : Prop :=
 LoadC t1 (fun t4 w =>
 RunS Tryz.prog (Instr.range 70 t4) (fun t5 w =>
 LoopS 0 (fun L0 (w : World) =>
 RunS Tryz.prog (Instr.next t5 false 0) (fun t6 w =>
 PureS (extractV 0 t6) fun t7 =>
 CondS t7 (
 RunS Tryz.prog (Instr.entry t5) (fun t8 w =>
 PureS (extractV 0 t8) fun t9 =>
 CallV' Tryz.prog false yield0 [t9] NoP (fun t12 w =>
 PureS (notV t12) fun t13 =>
 CondS t13 (
 K (Value.tuple [].toArray) w
 ) (
 L0 w
 )
 ) w
 ) w
 ) (
 K (Value.tuple [].toArray) w
 )
 ) w
 ) w
 ) w
 ) w
theorem s127_den (yield0 t1 : Value) (K : Value → World → Prop) (w : World) : denFn Tryz.prog false (bodyOf Tryz.f127) Tryz.f127.results a127 [yield0, t1] K NoP w = s127 yield0 t1 K w := by kernel_rfl
theorem s127_dst : dstsOk (2 + 12) (bodyOf Tryz.f127) = true := by kernel_rfl
theorem s127_ann : annOk (bodyOf Tryz.f127) a127 = true := by kernel_rfl
theorem s127_call {yield0 t1 : Value} {K : Value → World → Prop} {w : World} (hm : Tryz.prog.follows .mixedOrders = true) (h : s127 yield0 t1 K w) : CallS Tryz.prog 127 #[yield0, t1] K w :=
  fn_call (args := [yield0, t1]) (m := 12) hm Tryz.func127 (by kernel_rfl) (rs := Tryz.f127.results) rfl Tryz.ntmps127 s127_dst s127_ann (by rw [s127_den]; exact h)

def a128 : Ann :=
 (.q (.r [.plain 1]) (.c (.d [0, 0, 2, 6, 14, 30, 63, 127] (.pur 1 (.pur 2 (.pur 3 (.hld 0 (.hld 4 (.pur 5 (.pur 6 (.act 7 .fin))))))))) .s))
def s128 (t0 x1 first2 t3 : Value) (K : Value → World → Prop) (w : World) : Prop :=
 CondS first2 (
 DrawS fun S0 => S0 w.drew ∧ (
 PureS (nilV x1) fun t10 =>
 PureS (fieldAddrV 2 t10) fun t11 =>
 HeldC S0 t3 (fun t8 =>
 HeldC S0 t11 (fun t12 =>
 PureS (lenSliceV t12) fun t13 =>
 PureS (binV .add t8 t13) fun t14 =>
 StoreC t3 t14 (fun w =>
 K (Value.tuple [].toArray) w
 ) w.drew
 )
 )
 )
 ) (
 K (Value.tuple [].toArray) w
 )
theorem s128_den (t0 x1 first2 t3 : Value) (K : Value → World → Prop) (w : World) : denFn Tryz.prog false (bodyOf Tryz.f128) Tryz.f128.results a128 [t0, x1, first2, t3] K NoP w = s128 t0 x1 first2 t3 K w := by kernel_rfl
theorem s128_dst : dstsOk (4 + 11) (bodyOf Tryz.f128) = true := by kernel_rfl
theorem s128_ann : annOk (bodyOf Tryz.f128) a128 = true := by kernel_rfl
theorem s128_call {t0 x1 first2 t3 : Value} {K : Value → World → Prop} {w : World} (hm : Tryz.prog.follows .mixedOrders = true) (h : s128 t0 x1 first2 t3 K w) : CallS Tryz.prog 128 #[t0, x1, first2, t3] K w :=
  fn_call (args := [t0, x1, first2, t3]) (m := 11) hm Tryz.func128 (by kernel_rfl) (rs := Tryz.f128.results) rfl Tryz.ntmps128 s128_dst s128_ann (by rw [s128_den]; exact h)

def a129 : Ann :=
 (.q (.r [.plain 2]) (.q (.r [.plain 2]) (.j [4, 5] 35184372088816 (.q (.r [.plain 5]) (.c (.r [.plain 8]) (.q (.r [.plain 5]) (.c (.q (.r [.plain 2]) (.q (.r [.plain 4]) (.r [.plain 8]))) (.q (.r [.plain 5]) (.c (.q (.r [.plain 1]) (.r [.plain 8])) .s))))))
  (.j [] 37778931827772789620748 (.b (.q (.r [.plain 5]) (.c (.q (.r [.plain 2]) .s) (.q (.r [.plain 6]) (.c (.r [.plain 8]) (.q (.r [.plain 6]) (.c (.q (.r [.plain 8]) (.q (.r [.plain 2]) .s)) .s)))))))
  (.q (.r [.plain 4]) .s)))))
def s129 (f0 : Value) (K : Value → World → Prop) (w : World) : Prop :=
 JoinS (fun (e4 half5 : Value) (w : World) =>
 JoinS (fun (w : World) =>
 K (Value.tuple [e4, half5].toArray) w
 ) fun J1 =>
 PureS (nilV f0) fun t47 =>
 PureS (fieldAddrV 6 t47) fun t48 =>
 LoadC t48 (fun t49 w =>
 CondS t49 (
 K (Value.tuple [(Value.int .i64 22), (Value.bool false)].toArray) w
 ) (
 PureS (nilV f0) fun t52 =>
 PureS (fieldAddrV 5 t52) fun t53 =>
 LoadC t53 (fun t54 w =>
 PureS (binV .gtr t54 (Value.int .i64 1)) fun t55 =>
 CondS t55 (
 PureS (nilV f0) fun t57 =>
 PureS (fieldAddrV 5 t57) fun t58 =>
 LoadC t58 (fun t59 w =>
 PureS (binV .sub t59 (Value.int .i64 1)) fun t60 =>
 PureS (nilV f0) fun t61 =>
 PureS (fieldAddrV 5 t61) fun t62 =>
 StoreC t62 t60 (fun w =>
 J1 w
 ) w
 ) w
 ) (
 PureS (nilV f0) fun t65 =>
 PureS (fieldAddrV 5 t65) fun t66 =>
 LoadC t66 (fun t67 w =>
 PureS (binV .eql t67 (Value.int .i64 1)) fun t68 =>
 CondS t68 (
 PureS (nilV f0) fun t71 =>
 PureS (fieldAddrV 5 t71) fun t72 =>
 StoreC t72 (Value.int .i64 0) (fun w =>
 PureS (nilV f0) fun t73 =>
 PureS (fieldAddrV 6 t73) fun t74 =>
 StoreC t74 (Value.bool true) (fun w =>
 K (Value.tuple [(Value.int .i64 22), (Value.bool true)].toArray) w
 ) w
 ) w
 ) (
 J1 w
 )
 ) w
 )
 ) w
 )
 ) w
 ) fun J0 =>
 PureS (nilV f0) fun t7 =>
 PureS (fieldAddrV 3 t7) fun t8 =>
 LoadC t8 (fun t9 w =>
 PureS (binV .gtr t9 (Value.int .i64 1)) fun t10 =>
 CondS t10 (
 PureS (nilV f0) fun t12 =>
 PureS (fieldAddrV 3 t12) fun t13 =>
 LoadC t13 (fun t14 w =>
 PureS (binV .sub t14 (Value.int .i64 1)) fun t15 =>
 PureS (nilV f0) fun t16 =>
 PureS (fieldAddrV 3 t16) fun t17 =>
 StoreC t17 t15 (fun w =>
 J0 (Value.int .i64 0) (Value.bool false) w
 ) w
 ) w
 ) (
 PureS (nilV f0) fun t19 =>
 PureS (fieldAddrV 3 t19) fun t20 =>
 LoadC t20 (fun t21 w =>
 PureS (binV .eql t21 (Value.int .i64 1)) fun t22 =>
 CondS t22 (
 PureS (nilV f0) fun t24 =>
 PureS (fieldAddrV 3 t24) fun t25 =>
 StoreC t25 (Value.int .i64 0) (fun w =>
 PureS (nilV f0) fun t27 =>
 PureS (fieldAddrV 4 t27) fun t28 =>
 LoadC t28 (fun t29 w =>
 PureS (binV .sub t29 (Value.int .i64 1)) fun t30 =>
 PureS (nilV f0) fun t31 =>
 PureS (fieldAddrV 4 t31) fun t32 =>
 StoreC t32 t30 (fun w =>
 J0 (Value.int .i64 21) (Value.bool true) w
 ) w
 ) w
 ) w
 ) (
 PureS (nilV f0) fun t34 =>
 PureS (fieldAddrV 4 t34) fun t35 =>
 LoadC t35 (fun t36 w =>
 PureS (binV .gtr t36 (Value.int .i64 0)) fun t37 =>
 CondS t37 (
 PureS (nilV f0) fun t39 =>
 PureS (fieldAddrV 4 t39) fun t40 =>
 LoadC t40 (fun t41 w =>
 PureS (binV .sub t41 (Value.int .i64 1)) fun t42 =>
 PureS (nilV f0) fun t43 =>
 PureS (fieldAddrV 4 t43) fun t44 =>
 StoreC t44 t42 (fun w =>
 J0 (Value.int .i64 21) (Value.bool false) w
 ) w
 ) w
 ) (
 J0 (Value.int .i64 0) (Value.bool false) w
 )
 ) w
 )
 ) w
 )
 ) w
theorem s129_den (f0 : Value) (K : Value → World → Prop) (w : World) : denFn Tryz.prog false (bodyOf Tryz.f129) Tryz.f129.results a129 [f0] K NoP w = s129 f0 K w := by kernel_rfl
theorem s129_dst : dstsOk (1 + 76) (bodyOf Tryz.f129) = true := by kernel_rfl
theorem s129_ann : annOk (bodyOf Tryz.f129) a129 = true := by kernel_rfl
theorem s129_call {f0 : Value} {K : Value → World → Prop} {w : World} (hm : Tryz.prog.follows .mixedOrders = true) (h : s129 f0 K w) : CallS Tryz.prog 129 #[f0] K w :=
  fn_call (args := [f0]) (m := 76) hm Tryz.func129 (by kernel_rfl) (rs := Tryz.f129.results) rfl Tryz.ntmps129 s129_dst s129_ann (by rw [s129_den]; exact h)

def a130 : Ann :=
 (.q (.r [.plain 3]) (.j [] 17179869180 (.q (.r [.plain 1]) (.b (.l [5] 17179869180 (.q (.q (.r [.plain 4]) (.c .s .s)) (.q (.b (.q (.r [.plain 4]) (.c (.q (.d [0, 0, 3, 0, 0, 16, 56, 0, 0, 384, 896, 1920, 3968, 3968, 12160, 32640, 65408, 130944, 130951, 393215, 1048575] (.pur 0 (.pur 1 (.pur 2 (.pur 3 (.pur 4 (.pur 5 (.pur 6 (.pur 7 (.pur 8 (.pur 9 (.act 10 (.pur 11 (.ite 11 (.pur 12 (.pur 13 (.pur 14 (.pur 15 (.act 16 (.pur 17 (.pur 18 (.pur 19 (.pur 20 .fin))))))))) (.skp 12 (.skp 13 (.skp 14 (.skp 15 (.skp 16 (.pur 17 (.pur 18 (.pur 19 (.pur 20 .fin))))))))))))))))))))))) .s) .s))) (.r [.plain 3]))))))
  (.q (.r [.plain 3]) .s)))
def s130 (path0 : Value) (K : Value → World → Prop) (w : World) : Prop :=
 JoinS (fun (w : World) =>
 K (Value.tuple [(Value.string ⟨#[]⟩), (Value.string ⟨#[]⟩), (Value.bool false)].toArray) w
 ) fun J0 =>
 LoopS 1 (fun L1 (i5 : Value) (w : World) =>
 PureS (lenStrV path0) fun t8 =>
 PureS (binV .lss i5 t8) fun t9 =>
 CondS t9 (
 PureS (indexStrV path0 i5) fun t14 =>
 PureS (binV .eql t14 (Value.int .u8 47)) fun t15 =>
 CondS t15 (
 DrawS fun S2 => S2 w.drew ∧ (
 PureS (sliceStrV path0 none (some i5)) fun t18 =>
 PureS (binV .add i5 (Value.int .i64 1)) fun t21 =>
 PureS (sliceStrV path0 (some t21) none) fun t22 =>
 PureS (sliceStrV path0 none (some i5)) fun t25 =>
 CallS Tryz.prog 83 [t25].toArray (fun t26 w =>
 CondS t26 (
 PureS (binV .add i5 (Value.int .i64 1)) fun t30 =>
 PureS (sliceStrV path0 (some t30) none) fun t31 =>
 CallS Tryz.prog 83 [t31].toArray (fun t32 w =>
 PureS (pickV (Value.bool true) t32 (Value.bool false)) fun t33 =>
 K (Value.tuple [t18, t22, t33].toArray) w
 ) w
 ) (
 PureS (pickV (Value.bool false) undef (Value.bool false)) fun t33_1 =>
 K (Value.tuple [t18, t22, t33_1].toArray) w
 )
 ) w.drew
 )
 ) (
 PureS (binV .add i5 (Value.int .i64 1)) fun t11 =>
 L1 t11 w
 )
 ) (
 J0 w
 )
 ) (Value.int .i64 0) w
theorem s130_den (path0 : Value) (K : Value → World → Prop) (w : World) : denFn Tryz.prog false (bodyOf Tryz.f130) Tryz.f130.results a130 [path0] K NoP w = s130 path0 K w := by kernel_rfl
theorem s130_dst : dstsOk (1 + 33) (bodyOf Tryz.f130) = true := by kernel_rfl
theorem s130_ann : annOk (bodyOf Tryz.f130) a130 = true := by kernel_rfl
theorem s130_call {path0 : Value} {K : Value → World → Prop} {w : World} (hm : Tryz.prog.follows .mixedOrders = true) (h : s130 path0 K w) : CallS Tryz.prog 130 #[path0] K w :=
  fn_call (args := [path0]) (m := 33) hm Tryz.func130 (by kernel_rfl) (rs := Tryz.f130.results) rfl Tryz.ntmps130 s130_dst s130_ann (by rw [s130_den]; exact h)

def a131 : Ann :=
 (.q (.r [.plain 2]) (.q (.r [.plain 4]) (.j [5] 8796093021280 (.q (.r [.plain 1]) (.b (.l [5, 6] 8796093021280 (.q (.q (.r [.plain 5]) (.c .s .s)) (.j [5] 8796092891168 (.b (.q (.r [.plain 7]) (.c (.d [0, 0, 2, 0, 14, 0, 32, 0, 224, 480, 1023, 2047] (.pur 0 (.pur 1 (.pur 3 (.pur 5 (.pur 7 (.hld 2 (.pur 4 (.hld 6 (.pur 8 (.hld 9 (.pur 10 (.act 11 .fin))))))))))))) (.r [.plain 9]))))
  (.r [.plain 3]))))))
  (.q (.r [.plain 2]) .s))))
def s131 (b0 w1 : Value) (K : Value → World → Prop) (w : World) : Prop :=
 BoxS 160 w1 (fun w3 w =>
 RunS Tryz.prog (Instr.buildSlice 34 0 [].toArray) (fun t7 w =>
 RunS Tryz.prog (Builtin.append_ #[34, 34] 34 [t7, b0].toArray) (fun t9 w =>
 JoinS (fun (out5 : Value) (w : World) =>
 K out5 w
 ) fun J0 =>
 LoopS 2 (fun L1 (out5_1 i6 : Value) (w : World) =>
 PureS (fieldAddrV 1 w3) fun t11 =>
 LoadC t11 (fun t12 w =>
 PureS (lenSliceV t12) fun t13 =>
 PureS (binV .lss i6 t13) fun t14 =>
 CondS t14 (
 JoinS (fun (out5_2 : Value) (w : World) =>
 PureS (binV .add i6 (Value.int .i64 1)) fun t16 =>
 L1 out5_2 t16 w
 ) fun J2 =>
 PureS (fieldAddrV 0 w3) fun t17 =>
 LoadC t17 (fun t18 w =>
 PureS (binV .add t18 i6) fun t20 =>
 PureS (lenSliceV out5_1) fun t22 =>
 PureS (binV .lss t20 t22) fun t23 =>
 CondS t23 (
 DrawS fun S3 => S3 w.drew ∧ (
 PureS (fieldAddrV 0 w3) fun t25 =>
 PureS (fieldAddrV 1 w3) fun t29 =>
 HeldC S3 t25 (fun t26 =>
 PureS (binV .add t26 i6) fun t28 =>
 HeldC S3 t29 (fun t30 =>
 PureS (indexAddrV 1 t30 i6) fun t32 =>
 HeldC S3 t32 (fun t33 =>
 PureS (indexAddrV 1 out5_1 t28) fun t34 =>
 StoreC t34 t33 (fun w =>
 J2 out5_1 w
 ) w.drew
 )
 )
 )
 )
 ) (
 PureS (fieldAddrV 1 w3) fun t36 =>
 LoadC t36 (fun t37 w =>
 PureS (indexAddrV 1 t37 i6) fun t39 =>
 LoadC t39 (fun t40 w =>
 RunS Tryz.prog (Instr.buildSlice 34 1 [(0, t40)].toArray) (fun t41 w =>
 RunS Tryz.prog (Builtin.append_ #[34, 34] 34 [out5_1, t41].toArray) (fun t42 w =>
 J2 t42 w
 ) w
 ) w
 ) w
 ) w
 )
 ) w
 ) (
 J0 out5_1 w
 )
 ) w
 ) t9 (Value.int .i64 0) w
 ) w
 ) w
 ) w
theorem s131_den (b0 w1 : Value) (K : Value → World → Prop) (w : World) : denFn Tryz.prog false (bodyOf Tryz.f131) Tryz.f131.results a131 [b0, w1] K NoP w = s131 b0 w1 K w := by kernel_rfl
theorem s131_dst : dstsOk (2 + 42) (bodyOf Tryz.f131) = true := by kernel_rfl
theorem s131_ann : annOk (bodyOf Tryz.f131) a131 = true := by kernel_rfl
theorem s131_call {b0 w1 : Value} {K : Value → World → Prop} {w : World} (hm : Tryz.prog.follows .mixedOrders = true) (h : s131 b0 w1 K w) : CallS Tryz.prog 131 #[b0, w1] K w :=
  fn_call (args := [b0, w1]) (m := 42) hm Tryz.func131 (by kernel_rfl) (rs := Tryz.f131.results) rfl Tryz.ntmps131 s131_dst s131_ann (by rw [s131_den]; exact h)

def a132 : Ann :=
 (.q (.r [.plain 1]) (.j [] 262128 (.q (.r [.plain 1]) (.b (.l [5] 262128 (.q (.q (.r [.plain 4]) (.c .s .s)) (.q (.b (.q (.r [.plain 6]) (.c (.q (.r [.plain 1]) .s) .s))) (.r [.plain 3]))))))
  (.q (.r [.plain 1]) .s)))
def s132 (l0 n1 : Value) (K : Value → World → Prop) (w : World) : Prop :=
 JoinS (fun (w : World) =>
 K (Value.bool false) w
 ) fun J0 =>
 LoopS 1 (fun L1 (i5 : Value) (w : World) =>
 PureS (lenSliceV l0) fun t8 =>
 PureS (binV .lss i5 t8) fun t9 =>
 CondS t9 (
 PureS (indexAddrV 1 l0 i5) fun t14 =>
 LoadC t14 (fun t15 w =>
 PureS (binV .eql t15 n1) fun t17 =>
 CondS t17 (
 K (Value.bool true) w
 ) (
 PureS (binV .add i5 (Value.int .i64 1)) fun t11 =>
 L1 t11 w
 )
 ) w
 ) (
 J0 w
 )
 ) (Value.int .i64 0) w
theorem s132_den (l0 n1 : Value) (K : Value → World → Prop) (w : World) : denFn Tryz.prog false (bodyOf Tryz.f132) Tryz.f132.results a132 [l0, n1] K NoP w = s132 l0 n1 K w := by kernel_rfl
theorem s132_dst : dstsOk (2 + 16) (bodyOf Tryz.f132) = true := by kernel_rfl
theorem s132_ann : annOk (bodyOf Tryz.f132) a132 = true := by kernel_rfl
theorem s132_call {l0 n1 : Value} {K : Value → World → Prop} {w : World} (hm : Tryz.prog.follows .mixedOrders = true) (h : s132 l0 n1 K w) : CallS Tryz.prog 132 #[l0, n1] K w :=
  fn_call (args := [l0, n1]) (m := 16) hm Tryz.func132 (by kernel_rfl) (rs := Tryz.f132.results) rfl Tryz.ntmps132 s132_dst s132_ann (by rw [s132_den]; exact h)

def a133 : Ann :=
 (.q (.r [.plain 1]) (.j [] 2097088 (.q (.r [.plain 2]) (.b (.l [] 2095552 (.q (.r [.plain 2]) (.q (.c .s .s) (.b (.q (.r [.plain 4]) (.q (.r [.plain 5]) (.c (.q (.r [.plain 2]) .s) .s)))))))))
  (.q (.r [.plain 1]) .s)))
def s133 (s0 f1 truth2 : Value) (K : Value → World → Prop) (w : World) : Prop :=
 JoinS (fun (w : World) =>
 K (Value.int .i64 (-1)) w
 ) fun J0 =>
 RunS Tryz.prog (Instr.range 9 s0) (fun t10 w =>
 LoopS 0 (fun L1 (w : World) =>
 RunS Tryz.prog (Instr.next t10 true 0) (fun t11 w =>
 PureS (extractV 0 t11) fun t12 =>
 CondS t12 (
 PureS (extractV 1 t11) fun t13 =>
 PureS (extractV 2 t11) fun t14 =>
 CallV' Tryz.prog false f1 [t14] NoP (fun t17 w =>
 PureS (boolV .eql t17 truth2) fun t19 =>
 CondS t19 (
 K t13 w
 ) (
 L1 w
 )
 ) w
 ) (
 J0 w
 )
 ) w
 ) w
 ) w
theorem s133_den (s0 f1 truth2 : Value) (K : Value → World → Prop) (w : World) : denFn Tryz.prog false (bodyOf Tryz.f133) Tryz.f133.results a133 [s0, f1, truth2] K NoP w = s133 s0 f1 truth2 K w := by kernel_rfl
theorem s133_dst : dstsOk (3 + 18) (bodyOf Tryz.f133) = true := by kernel_rfl
theorem s133_ann : annOk (bodyOf Tryz.f133) a133 = true := by kernel_rfl
theorem s133_call {s0 f1 truth2 : Value} {K : Value → World → Prop} {w : World} (hm : Tryz.prog.follows .mixedOrders = true) (h : s133 s0 f1 truth2 K w) : CallS Tryz.prog 133 #[s0, f1, truth2] K w :=
  fn_call (args := [s0, f1, truth2]) (m := 18) hm Tryz.func133 (by kernel_rfl) (rs := Tryz.f133.results) rfl Tryz.ntmps133 s133_dst s133_ann (by rw [s133_den]; exact h)

def a134 : Ann :=
 (.q (.r [.plain 3]) (.q (.q (.r [.plain 4]) (.q (.r [.plain 2]) (.c (.q (.d [0, 0, 3, 0, 0, 0, 32, 112, 248, 7, 1023, 2047] (.pur 0 (.pur 1 (.pur 2 (.pur 3 (.pur 4 (.pur 5 (.pur 6 (.pur 7 (.pur 8 (.pur 9 (.pur 10 (.pur 11 .fin))))))))))))) .s) .s))) (.q (.r [.plain 4]) .s)))
def s134 (s0 sep1 : Value) (K : Value → World → Prop) (w : World) : Prop :=
 CallS Tryz.prog 139 [s0, sep1].toArray (fun t10 w =>
 PureS (binV .geq t10 (Value.int .i64 0)) fun t12 =>
 CondS t12 (
 DrawS fun S0 => S0 w.drew ∧ (
 PureS (sliceStrV s0 none (some t10)) fun t15 =>
 PureS (lenStrV sep1) fun t19 =>
 PureS (binV .add t10 t19) fun t20 =>
 PureS (sliceStrV s0 (some t20) none) fun t21 =>
 K (Value.tuple [t15, t21, (Value.bool true)].toArray) w.drew
 )
 ) (
 K (Value.tuple [s0, (Value.string ⟨#[]⟩), (Value.bool false)].toArray) w
 )
 ) w
theorem s134_den (s0 sep1 : Value) (K : Value → World → Prop) (w : World) : denFn Tryz.prog false (bodyOf Tryz.f134) Tryz.f134.results a134 [s0, sep1] K NoP w = s134 s0 sep1 K w := by kernel_rfl
theorem s134_dst : dstsOk (2 + 21) (bodyOf Tryz.f134) = true := by kernel_rfl
theorem s134_ann : annOk (bodyOf Tryz.f134) a134 = true := by kernel_rfl
theorem s134_call {s0 sep1 : Value} {K : Value → World → Prop} {w : World} (hm : Tryz.prog.follows .mixedOrders = true) (h : s134 s0 sep1 K w) : CallS Tryz.prog 134 #[s0, sep1] K w :=
  fn_call (args := [s0, sep1]) (m := 21) hm Tryz.func134 (by kernel_rfl) (rs := Tryz.f134.results) rfl Tryz.ntmps134 s134_dst s134_ann (by rw [s134_den]; exact h)

def a136 : Ann :=
 (.q (.r [.plain 2]) (.q (.q (.r [.plain 1]) (.b (.r [.plain 5]))) (.q (.r [.plain 2]) .s)))
def s136 (s0 seq1 : Value) (K : Value → World → Prop) (w : World) : Prop :=
 BoxS 61 s0 (fun s2 w =>
 RangeS Tryz.prog seq1 1 (fun vs KW w =>
 LoadC s2 (fun t8 w =>
 RunS Tryz.prog (Instr.buildSlice 61 1 [(0, (vs.getD 0 undef))].toArray) (fun t10 w =>
 RunS Tryz.prog (Builtin.append_ #[61, 61] 61 [t8, t10].toArray) (fun t11 w =>
 StoreC s2 t11 (fun w =>
 KW w
 ) w
 ) w
 ) w
 ) w
 ) (fun D w =>
 LoadC s2 (fun t12 w =>
 (w).heap[D]? = some (.deferred (some [])) ∧ (
 K t12 ((w).putObj D (.deferred none))
 )
 ) w
 ) w
 ) w
theorem s136_den (s0 seq1 : Value) (K : Value → World → Prop) (w : World) : denG Tryz.prog Tryz.f136.results.toList K (bodyOf Tryz.f136) a136 (argF [s0, seq1] 0) w = s136 s0 seq1 K w := by kernel_rfl
theorem s136_ann : okG (2 + 11) (bodyOf Tryz.f136) a136 = true := by kernel_rfl
theorem s136_call {s0 seq1 : Value} {K : Value → World → Prop} {w : World} (hm : Tryz.prog.follows .mixedOrders = true) (h : s136 s0 seq1 K w) : CallS Tryz.prog 136 #[s0, seq1] K w :=
  fn_range (args := [s0, seq1]) (m := 11) hm Tryz.func136 (by kernel_rfl) (rs := Tryz.f136.results) rfl Tryz.ntmps136 s136_ann (by rw [s136_den]; exact h)

def a137 : Ann :=
 (.q (.r [.plain 1]) (.q (.r [.plain 1]) (.b (.l [1, 2, 3, 8, 9] 21778071482940061661655974875633165532942 (.b (.q (.r [.plain 4]) (.q (.q (.r [.plain 2]) (.c (.q (.r [.plain 4]) .s) .s)) (.q (.q (.r [.plain 2]) (.c (.q (.r [.plain 4]) .s) .s)) (.j [3] 4380866641928 (.q (.r [.plain 2]) (.c (.q (.r [.plain 4]) (.r [.plain 3])) .s))
  (.q (.r [.plain 9]) (.j [11, 12] 2305280059260278784 (.q (.r [.plain 2]) (.c (.q (.r [.plain 4]) (.q (.r [.plain 7]) (.r [.plain 1]))) .s))
  (.j [] 9442427122730076733440 (.q (.r [.plain 2, .grp 1 [63] 9223372036854775808, .plain 2, .grp 2 [67] 221360928884514619392, .plain 1]) (.c (.q (.r [.plain 4]) (.c .s .s)) .s))
  (.q (.j [87] 309475565088379329434353664 (.d [0, 1, 3, 7, 7, 23, 63, 127, 7, 7, 775, 1799, 4095, 8191, 16383] (.pur 0 (.pur 1 (.pur 2 (.ite 2 (.pur 3 (.pur 4 (.pur 5 (.pur 6 (.pur 8 (.pur 9 (.pur 10 (.hld 7 (.hld 11 (.act 12 (.pur 13 (.pur 14 .fin)))))))))))) (.skp 3 (.skp 4 (.skp 5 (.skp 6 (.skp 7 (.skp 8 (.skp 9 (.skp 10 (.skp 11 (.skp 12 (.skp 13 (.pur 14 .fin)))))))))))))))))
  (.c (.q (.r [.plain 6]) (.q (.r [.plain 2]) .s)) .s)) (.q (.r [.plain 10]) (.q (.r [.plain 2]) (.q (.r [.plain 8]) (.q (.r [.plain 3]) (.q (.r [.plain 3]) (.c (.q (.r [.plain 4]) (.q (.r [.plain 5]) (.r [.plain 3]))) (.q (.r [.plain 4]) (.q (.r [.plain 6]) (.r [.plain 2]))))))))))))))))))))))
def s137 (data0 a1 b2 limit3 : Value) (K : Value → World → Prop) (w : World) : Prop :=
 LoopS 5 (fun L0 (a1_1 b2_1 limit3_1 wasBalanced8 wasPartitioned9 : Value) (w : World) =>
 PureS (binV .sub b2_1 a1_1) fun t21 =>
 PureS (binV .leq t21 (Value.int .i64 12)) fun t23 =>
 CondS t23 (
 CallS Tryz.prog 140 [data0, a1_1, b2_1].toArray (fun t27 w =>
 K (Value.tuple [].toArray) w
 ) w
 ) (
 PureS (binV .eql limit3_1 (Value.int .i64 0)) fun t29 =>
 CondS t29 (
 CallS Tryz.prog 141 [data0, a1_1, b2_1].toArray (fun t33 w =>
 K (Value.tuple [].toArray) w
 ) w
 ) (
 JoinS (fun (limit3_2 : Value) (w : World) =>
 CallS Tryz.prog 143 [data0, a1_1, b2_1].toArray (fun t46 w =>
 PureS (extractV 0 t46) fun t47 =>
 PureS (extractV 1 t46) fun t48 =>
 JoinS (fun (pivot11 hint12 : Value) (w : World) =>
 JoinS (fun (w : World) =>
 JoinS (fun (t87 : Value) (w : World) =>
 CondS t87 (
 CallS Tryz.prog 147 [data0, a1_1, b2_1, pivot11].toArray (fun t92 w =>
 L0 t92 b2_1 limit3_2 wasBalanced8 wasPartitioned9 w
 ) w
 ) (
 CallS Tryz.prog 148 [data0, a1_1, b2_1, pivot11].toArray (fun t99 w =>
 PureS (extractV 0 t99) fun t100 =>
 PureS (extractV 1 t99) fun t101 =>
 PureS (binV .sub t100 a1_1) fun t105 =>
 PureS (binV .sub b2_1 t100) fun t108 =>
 PureS (binV .quo t21 (Value.int .i64 8)) fun t110 =>
 PureS (binV .lss t105 t108) fun t113 =>
 CondS t113 (
 PureS (binV .geq t105 t110) fun t116 =>
 CallS Tryz.prog 137 [data0, a1_1, t100, limit3_2].toArray (fun t121 w =>
 PureS (binV .add t100 (Value.int .i64 1)) fun t123 =>
 L0 t123 b2_1 limit3_2 t116 t101 w
 ) w
 ) (
 PureS (binV .geq t108 t110) fun t126 =>
 PureS (binV .add t100 (Value.int .i64 1)) fun t129 =>
 CallS Tryz.prog 137 [data0, t129, b2_1, limit3_2].toArray (fun t132 w =>
 L0 a1_1 t100 limit3_2 t126 t101 w
 ) w
 )
 ) w
 )
 ) fun J4 =>
 DrawS fun S5 => S5 w.drew ∧ (
 PureS (binV .gtr a1_1 (Value.int .i64 0)) fun t74 =>
 CondS t74 (
 PureS (binV .sub a1_1 (Value.int .i64 1)) fun t78 =>
 PureS (indexAddrV 1 data0 t78) fun t79 =>
 PureS (indexAddrV 1 data0 pivot11) fun t83 =>
 HeldC S5 t79 (fun t80 =>
 HeldC S5 t83 (fun t84 =>
 CallS Tryz.prog 146 [t80, t84].toArray (fun t85 w =>
 PureS (notV t85) fun t86 =>
 PureS (pickV (Value.bool true) t86 (Value.bool false)) fun t87_1 =>
 J4 t87_1 w
 ) w.drew
 )
 )
 ) (
 PureS (pickV (Value.bool false) undef (Value.bool false)) fun t87_2 =>
 J4 t87_2 w.drew
 )
 )
 ) fun J3 =>
 JoinS (fun (t63 : Value) (w : World) =>
 PureS (pickV wasBalanced8 t63 (Value.bool false)) fun t64 =>
 JoinS (fun (t67 : Value) (w : World) =>
 PureS (pickV t64 t67 (Value.bool false)) fun t68 =>
 CondS t68 (
 CallS Tryz.prog 145 [data0, a1_1, b2_1].toArray (fun t72 w =>
 CondS t72 (
 K (Value.tuple [].toArray) w
 ) (
 J3 w
 )
 ) w
 ) (
 J3 w
 )
 ) fun J7 =>
 IfB t64 true (
 PureS (binV .eql hint12 (Value.int .i64 1)) fun t67_1 =>
 J7 t67_1 w
 ) (
 J7 undef w
 )
 ) fun J6 =>
 IfB wasBalanced8 true (
 J6 wasPartitioned9 w
 ) (
 J6 undef w
 )
 ) fun J2 =>
 PureS (binV .eql t48 (Value.int .i64 2)) fun t50 =>
 CondS t50 (
 CallS Tryz.prog 144 [data0, a1_1, b2_1].toArray (fun t54 w =>
 PureS (binV .sub b2_1 (Value.int .i64 1)) fun t56 =>
 PureS (binV .sub t47 a1_1) fun t59 =>
 PureS (binV .sub t56 t59) fun t60 =>
 J2 t60 (Value.int .i64 1) w
 ) w
 ) (
 J2 t47 t48 w
 )
 ) w
 ) fun J1 =>
 PureS (notV wasBalanced8) fun t35 =>
 CondS t35 (
 CallS Tryz.prog 142 [data0, a1_1, b2_1].toArray (fun t39 w =>
 PureS (binV .sub limit3_1 (Value.int .i64 1)) fun t41 =>
 J1 t41 w
 ) w
 ) (
 J1 limit3_1 w
 )
 )
 )
 ) a1 b2 limit3 (Value.bool true) (Value.bool true) w
theorem s137_den (data0 a1 b2 limit3 : Value) (K : Value → World → Prop) (w : World) : denFn Tryz.prog false (bodyOf Tryz.f137) Tryz.f137.results a137 [data0, a1, b2, limit3] K NoP w = s137 data0 a1 b2 limit3 K w := by kernel_rfl
theorem s137_dst : dstsOk (4 + 130) (bodyOf Tryz.f137) = true := by kernel_rfl
theorem s137_ann : annOk (bodyOf Tryz.f137) a137 = true := by kernel_rfl
theorem s137_call {data0 a1 b2 limit3 : Value} {K : Value → World → Prop} {w : World} (hm : Tryz.prog.follows .mixedOrders = true) (h : s137 data0 a1 b2 limit3 K w) : CallS Tryz.prog 137 #[data0, a1, b2, limit3] K w :=
  fn_call (args := [data0, a1, b2, limit3]) (m := 130) hm Tryz.func137 (by kernel_rfl) (rs := Tryz.f137.results) rfl Tryz.ntmps137 s137_dst s137_ann (by rw [s137_den]; exact h)

def a138 : Ann :=
 (.q (.r [.plain 1]) (.q (.c (.q (.r [.plain 4]) .s) .s) (.q (.r [.plain 3]) .s)))
def s138 (x0 : Value) (K : Value → World → Prop) (w : World) : Prop :=
 CondS (Value.bool false) (
 PureS (convIntV .u32 x0) fun t4 =>
 CallS Tryz.prog 149 [t4].toArray (fun t5 w =>
 K t5 w
 ) w
 ) (
 CallS Tryz.prog 150 [x0].toArray (fun t7 w =>
 K t7 w
 ) w
 )
theorem s138_den (x0 : Value) (K : Value → World → Prop) (w : World) : denFn Tryz.prog false (bodyOf Tryz.f138) Tryz.f138.results a138 [x0] K NoP w = s138 x0 K w := by kernel_rfl
theorem s138_dst : dstsOk (1 + 7) (bodyOf Tryz.f138) = true := by kernel_rfl
theorem s138_ann : annOk (bodyOf Tryz.f138) a138 = true := by kernel_rfl
theorem s138_call {x0 : Value} {K : Value → World → Prop} {w : World} (hm : Tryz.prog.follows .mixedOrders = true) (h : s138 x0 K w) : CallS Tryz.prog 138 #[x0] K w :=
  fn_call (args := [x0]) (m := 7) hm Tryz.func138 (by kernel_rfl) (rs := Tryz.f138.results) rfl Tryz.ntmps138 s138_dst s138_ann (by rw [s138_den]; exact h)

def a139 : Ann :=
 (.q (.r [.plain 1]) (.q (.r [.plain 3]) (.q (.b (.q (.r [.plain 3, .grp 3 [22] 7340032, .plain 2]) (.c (.q (.r [.plain 1]) .s) (.q (.r [.plain 3]) (.c (.q (.r [.plain 5]) .s) (.q (.r [.plain 5]) (.c (.q (.r [.plain 1]) .s) (.q (.r [.plain 4, .grp 3 [43] 15393162788864, .plain 2]) (.c (.q (.r [.plain 4]) .s) .s))))))))) (.q (.r [.plain 3]) (.q (.r [.plain 3]) (.q (.r [.plain 1]) (.q (.r [.plain 6]) (.q (.r [.plain 1]) (.j [] 11150372599265311570767858992208992677149968 (.b (.l [8, 10] 11150372599265311570767858992208992677149968 (.q (.q (.r [.plain 3]) (.c .s .s)) (.b (.j [8] 302230301982152686831888 (.q (.r [.plain 5]) (.c (.q (.r [.plain 8]) (.q (.q (.r [.plain 2]) (.c (.q (.r [.plain 1]) .s) .s)) (.r [.plain 5]))) .s))
  (.q (.q (.r [.plain 7, .grp 8 [92] 9864834688055374065602396160, .plain 1]) (.c (.q (.r [.plain 2]) .s) .s)) (.q (.r [.plain 3]) (.q (.r [.plain 3]) (.q (.r [.plain 4, .grp 4 [106] 152118072027387528179604384645120, .plain 1]) (.c (.q (.r [.plain 6]) (.q (.q (.r [.plain 2]) (.c (.q (.r [.plain 4]) .s) .s)) (.q (.r [.plain 1]) .s))) (.q (.r [.plain 4, .grp 5 [126] 164824271477329568240072075474762727424, .plain 2, .grp 3 [131] 4763953136893138488487244504044754960384, .plain 1]) (.c (.q (.r [.plain 6]) (.q (.q (.r [.plain 2]) (.c (.q (.r [.plain 1]) .s) .s)) (.q (.r [.plain 4]) .s))) .s))))))))))))
  (.q (.r [.plain 1]) .s))))))))))
def s139 (s0 substr1 : Value) (K : Value → World → Prop) (w : World) : Prop :=
 PureS (lenStrV substr1) fun t15 =>
 PureS (binV .eql t15 (Value.int .i64 0)) fun t18 =>
 JoinS (fun (t22 : Value) (w : World) =>
 PureS (pickV t18 (Value.bool true) t22) fun t23 =>
 CondS t23 (
 K (Value.int .i64 0) w
 ) (
 PureS (binV .eql t15 (Value.int .i64 1)) fun t26 =>
 CondS t26 (
 PureS (indexStrV substr1 (Value.int .i64 0)) fun t29 =>
 CallS Tryz.prog 151 [s0, t29].toArray (fun t30 w =>
 K t30 w
 ) w
 ) (
 PureS (lenStrV s0) fun t34 =>
 PureS (binV .geq t15 t34) fun t35 =>
 CondS t35 (
 K (Value.int .i64 (-1)) w
 ) (
 LoadC (Value.pointer (some ⟨0, 0, none⟩)) (fun t38 w =>
 PureS (binV .leq t15 t38) fun t39 =>
 JoinS (fun (t43 : Value) (w : World) =>
 PureS (pickV t39 t43 (Value.bool false)) fun t44 =>
 CondS t44 (
 CallX Tryz.prog 152 [s0, substr1].toArray (fun t47 w =>
 K t47 w
 ) w
 ) (
 PureS (indexStrV substr1 (Value.int .i64 0)) fun t49 =>
 PureS (indexStrV substr1 (Value.int .i64 1)) fun t51 =>
 PureS (lenStrV s0) fun t53 =>
 PureS (binV .sub t53 t15) fun t55 =>
 PureS (binV .add t55 (Value.int .i64 1)) fun t56 =>
 JoinS (fun (w : World) =>
 K (Value.int .i64 (-1)) w
 ) fun J2 =>
 LoopS 2 (fun L3 (i8 fails10 : Value) (w : World) =>
 PureS (binV .lss i8 t56) fun t59 =>
 CondS t59 (
 JoinS (fun (i8_1 : Value) (w : World) =>
 PureS (binV .add i8_1 (Value.int .i64 1)) fun t80 =>
 PureS (indexStrV s0 t80) fun t81 =>
 PureS (binV .eql t81 t51) fun t83 =>
 JoinS (fun (t92 : Value) (w : World) =>
 PureS (pickV t83 t92 (Value.bool false)) fun t93 =>
 CondS t93 (
 K i8_1 w
 ) (
 PureS (binV .add i8_1 (Value.int .i64 1)) fun t96 =>
 PureS (binV .add fails10 (Value.int .i64 1)) fun t98 =>
 LoadC (Value.pointer (some ⟨0, 0, none⟩)) (fun t100 w =>
 PureS (binV .leq t15 t100) fun t101 =>
 JoinS (fun (t106 : Value) (w : World) =>
 PureS (pickV t101 t106 (Value.bool false)) fun t107 =>
 CondS t107 (
 PureS (sliceStrV s0 (some t96) none) fun t110 =>
 CallX Tryz.prog 152 [t110, substr1].toArray (fun t112 w =>
 PureS (binV .geq t112 (Value.int .i64 0)) fun t114 =>
 CondS t114 (
 PureS (binV .add t112 t96) fun t117 =>
 K t117 w
 ) (
 K (Value.int .i64 (-1)) w
 )
 ) w
 ) (
 LoadC (Value.pointer (some ⟨0, 0, none⟩)) (fun t119 w =>
 PureS (binV .gtr t15 t119) fun t120 =>
 JoinS (fun (t126 : Value) (w : World) =>
 PureS (pickV t120 t126 (Value.bool false)) fun t127 =>
 JoinS (fun (t131 : Value) (w : World) =>
 PureS (pickV t127 t131 (Value.bool false)) fun t132 =>
 CondS t132 (
 PureS (sliceStrV s0 (some t96) none) fun t135 =>
 CallS Tryz.prog 154 [t135, substr1].toArray (fun t137 w =>
 PureS (binV .lss t137 (Value.int .i64 0)) fun t139 =>
 CondS t139 (
 K (Value.int .i64 (-1)) w
 ) (
 PureS (binV .add t96 t137) fun t142 =>
 K t142 w
 )
 ) w
 ) (
 L3 t96 t98 w
 )
 ) fun J8 =>
 IfB t127 true (
 PureS (binV .lss t96 t56) fun t131_1 =>
 J8 t131_1 w
 ) (
 J8 undef w
 )
 ) fun J7 =>
 IfB t120 true (
 PureS (binV .shr t96 (Value.int .u64 4)) fun t124 =>
 PureS (binV .add (Value.int .i64 4) t124) fun t125 =>
 PureS (binV .geq t98 t125) fun t126_1 =>
 J7 t126_1 w
 ) (
 J7 undef w
 )
 ) w
 )
 ) fun J6 =>
 IfB t101 true (
 CallS Tryz.prog 153 [t96].toArray (fun t105 w =>
 PureS (binV .gtr t98 t105) fun t106_1 =>
 J6 t106_1 w
 ) w
 ) (
 J6 undef w
 )
 ) w
 )
 ) fun J5 =>
 IfB t83 true (
 PureS (binV .add i8_1 t15) fun t89 =>
 PureS (sliceStrV s0 (some i8_1) (some t89)) fun t90 =>
 PureS (binV .eql t90 substr1) fun t92_1 =>
 J5 t92_1 w
 ) (
 J5 undef w
 )
 ) fun J4 =>
 PureS (indexStrV s0 i8) fun t62 =>
 PureS (binV .neq t62 t49) fun t64 =>
 CondS t64 (
 PureS (binV .add i8 (Value.int .i64 1)) fun t67 =>
 PureS (sliceStrV s0 (some t67) (some t56)) fun t69 =>
 CallS Tryz.prog 151 [t69, t49].toArray (fun t71 w =>
 PureS (binV .lss t71 (Value.int .i64 0)) fun t73 =>
 CondS t73 (
 K (Value.int .i64 (-1)) w
 ) (
 PureS (binV .add t71 (Value.int .i64 1)) fun t76 =>
 PureS (binV .add i8 t76) fun t77 =>
 J4 t77 w
 )
 ) w
 ) (
 J4 i8 w
 )
 ) (
 J2 w
 )
 ) (Value.int .i64 0) (Value.int .i64 0) w
 )
 ) fun J1 =>
 IfB t39 true (
 PureS (lenStrV s0) fun t42 =>
 PureS (binV .leq t42 (Value.int .i64 64)) fun t43_1 =>
 J1 t43_1 w
 ) (
 J1 undef w
 )
 ) w
 )
 )
 )
 ) fun J0 =>
 IfB t18 false (
 PureS (binV .eql substr1 s0) fun t22_1 =>
 J0 t22_1 w
 ) (
 J0 undef w
 )
theorem s139_den (s0 substr1 : Value) (K : Value → World → Prop) (w : World) : denFn Tryz.prog false (bodyOf Tryz.f139) Tryz.f139.results a139 [s0, substr1] K NoP w = s139 s0 substr1 K w := by kernel_rfl
theorem s139_dst : dstsOk (2 + 141) (bodyOf Tryz.f139) = true := by kernel_rfl
theorem s139_ann : annOk (bodyOf Tryz.f139) a139 = true := by kernel_rfl
theorem s139_call {s0 substr1 : Value} {K : Value → World → Prop} {w : World} (hm : Tryz.prog.follows .mixedOrders = true) (h : s139 s0 substr1 K w) : CallS Tryz.prog 139 #[s0, substr1] K w :=
  fn_call (args := [s0, substr1]) (m := 141) hm Tryz.func139 (by kernel_rfl) (rs := Tryz.f139.results) rfl Tryz.ntmps139 s139_dst s139_ann (by rw [s139_den]; exact h)

def a140 : Ann :=
 (.q (.r [.plain 3]) (.b (.l [6] 562949953420480 (.q (.q (.r [.plain 3]) (.c .s .s)) (.j [] 562949953388672 (.b (.q (.r [.plain 2]) (.b (.l [7] 562949953355904 (.q (.j [30] 2147418112 (.d [0, 0, 3, 7, 15, 15, 63, 127, 15, 15, 527, 1807, 3855, 8191, 16383] (.pur 0 (.pur 1 (.pur 2 (.pur 3 (.ite 3 (.pur 4 (.pur 5 (.pur 6 (.pur 8 (.pur 9 (.pur 10 (.pur 11 (.hld 7 (.hld 12 (.act 13 (.pur 14 .fin))))))))))) (.skp 4 (.skp 5 (.skp 6 (.skp 7 (.skp 8 (.skp 9 (.skp 10 (.skp 11 (.skp 12 (.skp 13 (.pur 14 .fin)))))))))))))))))
  (.c .s .s)) (.q (.b (.d [0, 0, 0, 0, 8, 0, 0, 64, 224, 480, 0, 0, 3072, 7168, 16355, 32739, 65535, 131071] (.pur 0 (.pur 1 (.pur 2 (.pur 3 (.pur 4 (.pur 5 (.pur 6 (.pur 7 (.pur 8 (.pur 10 (.pur 11 (.pur 12 (.hld 9 (.hld 13 (.pur 14 (.act 15 (.pur 16 (.act 17 .fin)))))))))))))))))))) (.r [.plain 3])))))))
  (.r [.plain 3]))))))
def s140 (data0 a1 b2 : Value) (K : Value → World → Prop) (w : World) : Prop :=
 PureS (binV .add a1 (Value.int .i64 1)) fun t9 =>
 LoopS 1 (fun L0 (i6 : Value) (w : World) =>
 PureS (binV .lss i6 b2) fun t12 =>
 CondS t12 (
 JoinS (fun (w : World) =>
 PureS (binV .add i6 (Value.int .i64 1)) fun t14 =>
 L0 t14 w
 ) fun J1 =>
 LoopS 1 (fun L2 (j7 : Value) (w : World) =>
 JoinS (fun (t30 : Value) (w : World) =>
 CondS t30 (
 DrawS fun S4 => S4 w.drew ∧ (
 PureS (binV .sub j7 (Value.int .i64 1)) fun t37 =>
 PureS (binV .sub j7 (Value.int .i64 1)) fun t40 =>
 PureS (indexAddrV 1 data0 t40) fun t41 =>
 PureS (indexAddrV 1 data0 j7) fun t45 =>
 HeldC S4 t41 (fun t42 =>
 HeldC S4 t45 (fun t46 =>
 PureS (indexAddrV 1 data0 j7) fun t47 =>
 StoreC t47 t42 (fun w =>
 PureS (indexAddrV 1 data0 t37) fun t48 =>
 StoreC t48 t46 (fun w =>
 PureS (binV .sub j7 (Value.int .i64 1)) fun t32 =>
 L2 t32 w
 ) w
 ) w.drew
 )
 )
 )
 ) (
 J1 w
 )
 ) fun J3 =>
 DrawS fun S5 => S5 w.drew ∧ (
 PureS (binV .gtr j7 a1) fun t18 =>
 CondS t18 (
 PureS (indexAddrV 1 data0 j7) fun t22 =>
 PureS (binV .sub j7 (Value.int .i64 1)) fun t26 =>
 PureS (indexAddrV 1 data0 t26) fun t27 =>
 HeldC S5 t22 (fun t23 =>
 HeldC S5 t27 (fun t28 =>
 CallS Tryz.prog 146 [t23, t28].toArray (fun t29 w =>
 PureS (pickV (Value.bool true) t29 (Value.bool false)) fun t30_1 =>
 J3 t30_1 w
 ) w.drew
 )
 )
 ) (
 PureS (pickV (Value.bool false) undef (Value.bool false)) fun t30_2 =>
 J3 t30_2 w.drew
 )
 )
 ) i6 w
 ) (
 K (Value.tuple [].toArray) w
 )
 ) t9 w
theorem s140_den (data0 a1 b2 : Value) (K : Value → World → Prop) (w : World) : denFn Tryz.prog false (bodyOf Tryz.f140) Tryz.f140.results a140 [data0, a1, b2] K NoP w = s140 data0 a1 b2 K w := by kernel_rfl
theorem s140_dst : dstsOk (3 + 46) (bodyOf Tryz.f140) = true := by kernel_rfl
theorem s140_ann : annOk (bodyOf Tryz.f140) a140 = true := by kernel_rfl
theorem s140_call {data0 a1 b2 : Value} {K : Value → World → Prop} {w : World} (hm : Tryz.prog.follows .mixedOrders = true) (h : s140 data0 a1 b2 K w) : CallS Tryz.prog 140 #[data0, a1, b2] K w :=
  fn_call (args := [data0, a1, b2]) (m := 46) hm Tryz.func140 (by kernel_rfl) (rs := Tryz.f140.results) rfl Tryz.ntmps140 s140_dst s140_ann (by rw [s140_den]; exact h)

def a141 : Ann :=
 (.q (.r [.plain 2]) (.q (.r [.plain 1]) (.q (.r [.plain 4]) (.j [] 134185472 (.q (.r [.plain 4]) (.b (.l [9] 133956096 (.q (.q (.r [.plain 2]) (.c .s .s)) (.q (.b (.r [.plain 5])) (.r [.plain 3]))))))
  (.q (.r [.plain 3]) (.b (.l [10] 72057593501058048 (.q (.q (.r [.plain 2]) (.c .s .s)) (.q (.b (.q (.d [0, 0, 0, 0, 0, 24, 0, 0, 0, 384, 960, 1984, 0, 0, 12288, 28672, 65475, 131011, 262143, 524287] (.pur 0 (.pur 1 (.pur 2 (.pur 3 (.pur 4 (.pur 5 (.pur 6 (.pur 7 (.pur 8 (.pur 9 (.pur 10 (.pur 12 (.pur 13 (.pur 14 (.hld 11 (.hld 15 (.pur 16 (.act 17 (.pur 18 (.act 19 .fin))))))))))))))))))))) (.r [.plain 5]))) (.r [.plain 3]))))))))))
def s141 (data0 a1 b2 : Value) (K : Value → World → Prop) (w : World) : Prop :=
 PureS (binV .sub b2 a1) fun t14 =>
 JoinS (fun (w : World) =>
 PureS (binV .sub t14 (Value.int .i64 1)) fun t28 =>
 LoopS 1 (fun L1 (i10 : Value) (w : World) =>
 PureS (binV .geq i10 (Value.int .i64 0)) fun t30 =>
 CondS t30 (
 DrawS fun S2 => S2 w.drew ∧ (
 PureS (binV .add a1 i10) fun t38 =>
 PureS (binV .add a1 i10) fun t42 =>
 PureS (indexAddrV 1 data0 t42) fun t43 =>
 PureS (indexAddrV 1 data0 a1) fun t47 =>
 HeldC S2 t43 (fun t44 =>
 HeldC S2 t47 (fun t48 =>
 PureS (indexAddrV 1 data0 a1) fun t49 =>
 StoreC t49 t44 (fun w =>
 PureS (indexAddrV 1 data0 t38) fun t50 =>
 StoreC t50 t48 (fun w =>
 CallS Tryz.prog 155 [data0, (Value.int .i64 0), i10, a1].toArray (fun t55 w =>
 PureS (binV .sub i10 (Value.int .i64 1)) fun t32 =>
 L1 t32 w
 ) w
 ) w
 ) w.drew
 )
 )
 )
 ) (
 K (Value.tuple [].toArray) w
 )
 ) t28 w
 ) fun J0 =>
 PureS (binV .sub t14 (Value.int .i64 1)) fun t16 =>
 PureS (binV .quo t16 (Value.int .i64 2)) fun t17 =>
 LoopS 1 (fun L3 (i9 : Value) (w : World) =>
 PureS (binV .geq i9 (Value.int .i64 0)) fun t19 =>
 CondS t19 (
 CallS Tryz.prog 155 [data0, i9, t14, a1].toArray (fun t26 w =>
 PureS (binV .sub i9 (Value.int .i64 1)) fun t21 =>
 L3 t21 w
 ) w
 ) (
 J0 w
 )
 ) t17 w
theorem s141_den (data0 a1 b2 : Value) (K : Value → World → Prop) (w : World) : denFn Tryz.prog false (bodyOf Tryz.f141) Tryz.f141.results a141 [data0, a1, b2] K NoP w = s141 data0 a1 b2 K w := by kernel_rfl
theorem s141_dst : dstsOk (3 + 53) (bodyOf Tryz.f141) = true := by kernel_rfl
theorem s141_ann : annOk (bodyOf Tryz.f141) a141 = true := by kernel_rfl
theorem s141_call {data0 a1 b2 : Value} {K : Value → World → Prop} {w : World} (hm : Tryz.prog.follows .mixedOrders = true) (h : s141 data0 a1 b2 K w) : CallS Tryz.prog 141 #[data0, a1, b2] K w :=
  fn_call (args := [data0, a1, b2]) (m := 53) hm Tryz.func141 (by kernel_rfl) (rs := Tryz.f141.results) rfl Tryz.ntmps141 s141_dst s141_ann (by rw [s141_den]; exact h)

def a142 : Ann :=
 (.q (.r [.plain 4]) (.q (.r [.plain 2]) (.c (.q (.r [.plain 4]) (.q (.r [.plain 3]) (.q (.r [.plain 7]) (.b (.l [9] 36893488147351995904 (.q (.q (.r [.plain 8]) (.c .s .s)) (.q (.b (.q (.r [.plain 6]) (.j [10] 138538465100800 (.q (.r [.plain 3]) (.c (.r [.plain 4]) .s))
  (.d [0, 0, 0, 0, 0, 24, 0, 0, 0, 384, 960, 1984, 0, 0, 12288, 28672, 65475, 131011, 262143, 524287] (.pur 0 (.pur 1 (.pur 2 (.pur 3 (.pur 4 (.pur 5 (.pur 6 (.pur 7 (.pur 8 (.pur 9 (.pur 10 (.pur 12 (.pur 13 (.pur 14 (.hld 11 (.hld 15 (.pur 16 (.act 17 (.pur 18 (.act 19 .fin)))))))))))))))))))))))) (.r [.plain 3])))))))) .s)))
def s142 (data0 a1 b2 : Value) (K : Value → World → Prop) (w : World) : Prop :=
 PureS (binV .sub b2 a1) fun t13 =>
 PureS (binV .geq t13 (Value.int .i64 8)) fun t15 =>
 CondS t15 (
 PureS (convIntV .u64 t13) fun t17 =>
 BoxS 183 (Value.int .u64 0) (fun random7 w =>
 StoreC random7 t17 (fun w =>
 CallS Tryz.prog 156 [t13].toArray (fun t19 w =>
 PureS (binV .quo t13 (Value.int .i64 4)) fun t22 =>
 PureS (binV .mul t22 (Value.int .i64 2)) fun t23 =>
 PureS (binV .add a1 t23) fun t24 =>
 PureS (binV .sub t24 (Value.int .i64 1)) fun t25 =>
 LoopS 1 (fun L0 (idx9 : Value) (w : World) =>
 PureS (binV .quo t13 (Value.int .i64 4)) fun t29 =>
 PureS (binV .mul t29 (Value.int .i64 2)) fun t30 =>
 PureS (binV .add a1 t30) fun t31 =>
 PureS (binV .add t31 (Value.int .i64 1)) fun t32 =>
 PureS (binV .leq idx9 t32) fun t33 =>
 CondS t33 (
 CallS Tryz.prog 157 [random7].toArray (fun t36 w =>
 PureS (binV .sub t19 (Value.int .u64 1)) fun t38 =>
 PureS (binV .and t36 t38) fun t39 =>
 PureS (convIntV .i64 t39) fun t40 =>
 JoinS (fun (other10 : Value) (w : World) =>
 DrawS fun S2 => S2 w.drew ∧ (
 PureS (binV .add a1 other10) fun t52 =>
 PureS (binV .add a1 other10) fun t56 =>
 PureS (indexAddrV 1 data0 t56) fun t57 =>
 PureS (indexAddrV 1 data0 idx9) fun t61 =>
 HeldC S2 t57 (fun t58 =>
 HeldC S2 t61 (fun t62 =>
 PureS (indexAddrV 1 data0 idx9) fun t63 =>
 StoreC t63 t58 (fun w =>
 PureS (indexAddrV 1 data0 t52) fun t64 =>
 StoreC t64 t62 (fun w =>
 PureS (binV .add idx9 (Value.int .i64 1)) fun t35 =>
 L0 t35 w
 ) w
 ) w.drew
 )
 )
 )
 ) fun J1 =>
 PureS (binV .geq t40 t13) fun t43 =>
 CondS t43 (
 PureS (binV .sub t40 t13) fun t46 =>
 J1 t46 w
 ) (
 J1 t40 w
 )
 ) w
 ) (
 K (Value.tuple [].toArray) w
 )
 ) t25 w
 ) w
 ) w
 ) w
 ) (
 K (Value.tuple [].toArray) w
 )
theorem s142_den (data0 a1 b2 : Value) (K : Value → World → Prop) (w : World) : denFn Tryz.prog false (bodyOf Tryz.f142) Tryz.f142.results a142 [data0, a1, b2] K NoP w = s142 data0 a1 b2 K w := by kernel_rfl
theorem s142_dst : dstsOk (3 + 62) (bodyOf Tryz.f142) = true := by kernel_rfl
theorem s142_ann : annOk (bodyOf Tryz.f142) a142 = true := by kernel_rfl
theorem s142_call {data0 a1 b2 : Value} {K : Value → World → Prop} {w : World} (hm : Tryz.prog.follows .mixedOrders = true) (h : s142 data0 a1 b2 K w) : CallS Tryz.prog 142 #[data0, a1, b2] K w :=
  fn_call (args := [data0, a1, b2]) (m := 62) hm Tryz.func142 (by kernel_rfl) (rs := Tryz.f142.results) rfl Tryz.ntmps142 s142_dst s142_ann (by rw [s142_den]; exact h)
end Go.Proofs.YthohdinjpkehpaaGreat

namespace Go.Proofs.YthohdinjpkehpaaGreat
set_option linter.unusedVariables false
set_option maxRecDepth 100000
open Go SG

def a143 : Ann :=
 (.q (.r [.plain 2]) (.q (.r [.plain 4]) (.q (.r [.plain 1]) (.q (.r [.plain 6]) (.q (.r [.plain 6]) (.q (.r [.plain 6]) (.j [11] 562947805944832 (.q (.r [.plain 2]) (.c (.j [10, 11, 12] 17583596116992 (.q (.r [.plain 2]) (.c (.q (.r [.plain 4]) (.q (.r [.plain 4]) (.r [.plain 4]))) .s))
  (.r [.plain 6])) .s))
  (.q (.r [.plain 1]) (.b (.q (.r [.plain 2]) (.c (.q (.r [.plain 3]) .s) (.q (.r [.plain 2]) (.c (.q (.r [.plain 3]) .s) (.q (.r [.plain 3]) .s))))))))))))))
def s143 (data0 a1 b2 : Value) (K : Value → World → Prop) (w : World) : Prop :=
 PureS (binV .sub b2 a1) fun t15 =>
 BoxS 3 (Value.int .i64 0) (fun swaps9 w =>
 PureS (binV .quo t15 (Value.int .i64 4)) fun t18 =>
 PureS (binV .mul t18 (Value.int .i64 1)) fun t19 =>
 PureS (binV .add a1 t19) fun t20 =>
 PureS (binV .quo t15 (Value.int .i64 4)) fun t23 =>
 PureS (binV .mul t23 (Value.int .i64 2)) fun t24 =>
 PureS (binV .add a1 t24) fun t25 =>
 PureS (binV .quo t15 (Value.int .i64 4)) fun t28 =>
 PureS (binV .mul t28 (Value.int .i64 3)) fun t29 =>
 PureS (binV .add a1 t29) fun t30 =>
 JoinS (fun (j11 : Value) (w : World) =>
 LoadC swaps9 (fun t49 w =>
 PureS (binV .eql t49 (Value.int .i64 0)) fun t52 =>
 CondS t52 (
 K (Value.tuple [j11, (Value.int .i64 1)].toArray) w
 ) (
 PureS (binV .eql t49 (Value.int .i64 12)) fun t55 =>
 CondS t55 (
 K (Value.tuple [j11, (Value.int .i64 2)].toArray) w
 ) (
 K (Value.tuple [j11, (Value.int .i64 0)].toArray) w
 )
 )
 ) w
 ) fun J0 =>
 PureS (binV .geq t15 (Value.int .i64 8)) fun t32 =>
 CondS t32 (
 JoinS (fun (i10 j11_1 k12 : Value) (w : World) =>
 CallS Tryz.prog 159 [data0, i10, j11_1, k12, swaps9].toArray (fun t48 w =>
 J0 t48 w
 ) w
 ) fun J1 =>
 PureS (binV .geq t15 (Value.int .i64 50)) fun t34 =>
 CondS t34 (
 CallS Tryz.prog 158 [data0, t20, swaps9].toArray (fun t37 w =>
 CallS Tryz.prog 158 [data0, t25, swaps9].toArray (fun t40 w =>
 CallS Tryz.prog 158 [data0, t30, swaps9].toArray (fun t43 w =>
 J1 t37 t40 t43 w
 ) w
 ) w
 ) w
 ) (
 J1 t20 t25 t30 w
 )
 ) (
 J0 t25 w
 )
 ) w
theorem s143_den (data0 a1 b2 : Value) (K : Value → World → Prop) (w : World) : denFn Tryz.prog false (bodyOf Tryz.f143) Tryz.f143.results a143 [data0, a1, b2] K NoP w = s143 data0 a1 b2 K w := by kernel_rfl
theorem s143_dst : dstsOk (3 + 54) (bodyOf Tryz.f143) = true := by kernel_rfl
theorem s143_ann : annOk (bodyOf Tryz.f143) a143 = true := by kernel_rfl
theorem s143_call {data0 a1 b2 : Value} {K : Value → World → Prop} {w : World} (hm : Tryz.prog.follows .mixedOrders = true) (h : s143 data0 a1 b2 K w) : CallS Tryz.prog 143 #[data0, a1, b2] K w :=
  fn_call (args := [data0, a1, b2]) (m := 54) hm Tryz.func143 (by kernel_rfl) (rs := Tryz.f143.results) rfl Tryz.ntmps143 s143_dst s143_ann (by rw [s143_den]; exact h)

def a144 : Ann :=
 (.q (.r [.plain 2]) (.q (.r [.plain 3]) (.b (.l [6, 7] 4294965440 (.q (.q (.r [.plain 3]) (.c .s .s)) (.b (.q (.d [0, 0, 0, 0, 0, 0, 48, 112, 0, 0, 768, 1792, 4083, 8179, 16383, 32767] (.pur 0 (.pur 1 (.pur 2 (.pur 3 (.pur 4 (.pur 5 (.pur 6 (.pur 8 (.pur 9 (.pur 10 (.hld 7 (.hld 11 (.pur 12 (.act 13 (.pur 14 (.act 15 .fin))))))))))))))))) (.q (.r [.plain 3]) (.r [.plain 3])))))))))
def s144 (data0 a1 b2 : Value) (K : Value → World → Prop) (w : World) : Prop :=
 PureS (binV .sub b2 (Value.int .i64 1)) fun t10 =>
 LoopS 2 (fun L0 (i6 j7 : Value) (w : World) =>
 PureS (binV .lss i6 j7) fun t13 =>
 CondS t13 (
 DrawS fun S1 => S1 w.drew ∧ (
 PureS (indexAddrV 1 data0 j7) fun t20 =>
 PureS (indexAddrV 1 data0 i6) fun t24 =>
 HeldC S1 t20 (fun t21 =>
 HeldC S1 t24 (fun t25 =>
 PureS (indexAddrV 1 data0 i6) fun t26 =>
 StoreC t26 t21 (fun w =>
 PureS (indexAddrV 1 data0 j7) fun t27 =>
 StoreC t27 t25 (fun w =>
 PureS (binV .add i6 (Value.int .i64 1)) fun t29 =>
 PureS (binV .sub j7 (Value.int .i64 1)) fun t31 =>
 L0 t29 t31 w
 ) w
 ) w.drew
 )
 )
 )
 ) (
 K (Value.tuple [].toArray) w
 )
 ) a1 t10 w
theorem s144_den (data0 a1 b2 : Value) (K : Value → World → Prop) (w : World) : denFn Tryz.prog false (bodyOf Tryz.f144) Tryz.f144.results a144 [data0, a1, b2] K NoP w = s144 data0 a1 b2 K w := by kernel_rfl
theorem s144_dst : dstsOk (3 + 29) (bodyOf Tryz.f144) = true := by kernel_rfl
theorem s144_ann : annOk (bodyOf Tryz.f144) a144 = true := by kernel_rfl
theorem s144_call {data0 a1 b2 : Value} {K : Value → World → Prop} {w : World} (hm : Tryz.prog.follows .mixedOrders = true) (h : s144 data0 a1 b2 K w) : CallS Tryz.prog 144 #[data0, a1, b2] K w :=
  fn_call (args := [data0, a1, b2]) (m := 29) hm Tryz.func144 (by kernel_rfl) (rs := Tryz.f144.results) rfl Tryz.ntmps144 s144_dst s144_ann (by rw [s144_den]; exact h)

def a145 : Ann :=
 (.q (.r [.plain 1]) (.q (.r [.plain 3]) (.j [] 10889035741470030830827987437816582760384 (.q (.r [.plain 1]) (.b (.l [7, 8] 10889035741470030830827987437816582760384 (.q (.q (.r [.plain 2]) (.c .s .s)) (.j [7] 10889035741470030830827987437816582637248 (.b (.j [7] 34359607424 (.b (.l [7] 34359607424 (.q (.j [32] 8589803520 (.d [0, 0, 3, 7, 15, 15, 63, 127, 15, 15, 527, 1807, 3855, 8191, 16383, 32767] (.pur 0 (.pur 1 (.pur 2 (.pur 3 (.ite 3 (.pur 4 (.pur 5 (.pur 6 (.pur 8 (.pur 9 (.pur 10 (.pur 11 (.hld 7 (.hld 12 (.act 13 (.pur 14 (.pur 15 .fin)))))))))))) (.skp 4 (.skp 5 (.skp 6 (.skp 7 (.skp 8 (.skp 9 (.skp 10 (.skp 11 (.skp 12 (.skp 13 (.skp 14 (.pur 15 .fin))))))))))))))))))
  (.c .s .s)) (.b (.r [.plain 3])))))
  (.q (.q (.r [.plain 3]) (.c (.q (.r [.plain 1]) .s) .s)) (.q (.q (.r [.plain 4]) (.c (.q (.r [.plain 1]) .s) .s)) (.q (.d [0, 0, 0, 0, 8, 0, 0, 64, 224, 480, 0, 0, 3072, 7168, 16355, 32739, 65535, 131071] (.pur 0 (.pur 1 (.pur 2 (.pur 3 (.pur 4 (.pur 5 (.pur 6 (.pur 7 (.pur 8 (.pur 10 (.pur 11 (.pur 12 (.hld 9 (.hld 13 (.pur 14 (.act 15 (.pur 16 (.act 17 .fin))))))))))))))))))) (.j [] 39614081256843938420620263936 (.q (.r [.plain 4]) (.c (.q (.r [.plain 3]) (.b (.l [9] 39614081238685424723062424064 (.q (.q (.r [.plain 2]) (.c .s .s)) (.q (.b (.q (.q (.d [0, 0, 3, 7, 0, 0, 32, 112, 240, 511, 1023] (.pur 0 (.pur 1 (.pur 2 (.pur 4 (.pur 5 (.pur 6 (.pur 7 (.hld 3 (.hld 8 (.act 9 (.pur 10 .fin)))))))))))) (.c .s .s)) (.d [0, 0, 0, 0, 8, 0, 0, 64, 224, 480, 0, 0, 3072, 7168, 16355, 32739, 65535, 131071] (.pur 0 (.pur 1 (.pur 2 (.pur 3 (.pur 4 (.pur 5 (.pur 6 (.pur 7 (.pur 8 (.pur 10 (.pur 11 (.pur 12 (.hld 9 (.hld 13 (.pur 14 (.act 15 (.pur 16 (.act 17 .fin))))))))))))))))))))) (.r [.plain 3])))))) .s))
  (.q (.r [.plain 4]) (.c (.q (.r [.plain 3]) (.b (.l [10] 10889035738934729630371528634823176356864 (.q (.q (.r [.plain 3]) (.c .s .s)) (.q (.b (.q (.q (.d [0, 0, 3, 7, 0, 0, 32, 112, 240, 511, 1023] (.pur 0 (.pur 1 (.pur 2 (.pur 4 (.pur 5 (.pur 6 (.pur 7 (.hld 3 (.hld 8 (.act 9 (.pur 10 .fin)))))))))))) (.c .s .s)) (.d [0, 0, 0, 0, 8, 0, 0, 64, 224, 480, 0, 0, 3072, 7168, 16355, 32739, 65535, 131071] (.pur 0 (.pur 1 (.pur 2 (.pur 3 (.pur 4 (.pur 5 (.pur 6 (.pur 7 (.pur 8 (.pur 10 (.pur 11 (.pur 12 (.hld 9 (.hld 13 (.pur 14 (.act 15 (.pur 16 (.act 17 .fin))))))))))))))))))))) (.r [.plain 3])))))) .s))))))))
  (.r [.plain 3]))))))
  (.q (.r [.plain 1]) .s))))
def s145 (data0 a1 b2 : Value) (K : Value → World → Prop) (w : World) : Prop :=
 PureS (binV .add a1 (Value.int .i64 1)) fun t12 =>
 JoinS (fun (w : World) =>
 K (Value.bool false) w
 ) fun J0 =>
 LoopS 2 (fun L1 (i7 j8 : Value) (w : World) =>
 PureS (binV .lss j8 (Value.int .i64 5)) fun t14 =>
 CondS t14 (
 JoinS (fun (i7_1 : Value) (w : World) =>
 PureS (binV .add j8 (Value.int .i64 1)) fun t16 =>
 L1 i7_1 t16 w
 ) fun J2 =>
 JoinS (fun (i7_2 : Value) (w : World) =>
 PureS (binV .eql i7_2 b2) fun t37 =>
 CondS t37 (
 K (Value.bool true) w
 ) (
 PureS (binV .sub b2 a1) fun t40 =>
 PureS (binV .lss t40 (Value.int .i64 50)) fun t41 =>
 CondS t41 (
 K (Value.bool false) w
 ) (
 DrawS fun S4 => S4 w.drew ∧ (
 PureS (binV .sub i7_2 (Value.int .i64 1)) fun t46 =>
 PureS (binV .sub i7_2 (Value.int .i64 1)) fun t49 =>
 PureS (indexAddrV 1 data0 t49) fun t50 =>
 PureS (indexAddrV 1 data0 i7_2) fun t54 =>
 HeldC S4 t50 (fun t51 =>
 HeldC S4 t54 (fun t55 =>
 PureS (indexAddrV 1 data0 i7_2) fun t56 =>
 StoreC t56 t51 (fun w =>
 PureS (indexAddrV 1 data0 t46) fun t57 =>
 StoreC t57 t55 (fun w =>
 JoinS (fun (w : World) =>
 PureS (binV .sub b2 i7_2) fun t97 =>
 PureS (binV .geq t97 (Value.int .i64 2)) fun t98 =>
 CondS t98 (
 PureS (binV .add i7_2 (Value.int .i64 1)) fun t100 =>
 LoopS 1 (fun L6 (j10 : Value) (w : World) =>
 PureS (binV .lss j10 b2) fun t103 =>
 CondS t103 (
 DrawS fun S7 => S7 w.drew ∧ (
 PureS (indexAddrV 1 data0 j10) fun t108 =>
 PureS (binV .sub j10 (Value.int .i64 1)) fun t112 =>
 PureS (indexAddrV 1 data0 t112) fun t113 =>
 HeldC S7 t108 (fun t109 =>
 HeldC S7 t113 (fun t114 =>
 CallS Tryz.prog 146 [t109, t114].toArray (fun t115 w =>
 PureS (notV t115) fun t116 =>
 CondS t116 (
 J2 i7_2 w
 ) (
 DrawS fun S8 => S8 w.drew ∧ (
 PureS (binV .sub j10 (Value.int .i64 1)) fun t121 =>
 PureS (binV .sub j10 (Value.int .i64 1)) fun t124 =>
 PureS (indexAddrV 1 data0 t124) fun t125 =>
 PureS (indexAddrV 1 data0 j10) fun t129 =>
 HeldC S8 t125 (fun t126 =>
 HeldC S8 t129 (fun t130 =>
 PureS (indexAddrV 1 data0 j10) fun t131 =>
 StoreC t131 t126 (fun w =>
 PureS (indexAddrV 1 data0 t121) fun t132 =>
 StoreC t132 t130 (fun w =>
 PureS (binV .add j10 (Value.int .i64 1)) fun t105 =>
 L6 t105 w
 ) w
 ) w.drew
 )
 )
 )
 )
 ) w.drew
 )
 )
 )
 ) (
 J2 i7_2 w
 )
 ) t100 w
 ) (
 J2 i7_2 w
 )
 ) fun J5 =>
 PureS (binV .sub i7_2 a1) fun t60 =>
 PureS (binV .geq t60 (Value.int .i64 2)) fun t61 =>
 CondS t61 (
 PureS (binV .sub i7_2 (Value.int .i64 1)) fun t63 =>
 LoopS 1 (fun L9 (j9 : Value) (w : World) =>
 PureS (binV .geq j9 (Value.int .i64 1)) fun t65 =>
 CondS t65 (
 DrawS fun S10 => S10 w.drew ∧ (
 PureS (indexAddrV 1 data0 j9) fun t70 =>
 PureS (binV .sub j9 (Value.int .i64 1)) fun t74 =>
 PureS (indexAddrV 1 data0 t74) fun t75 =>
 HeldC S10 t70 (fun t71 =>
 HeldC S10 t75 (fun t76 =>
 CallS Tryz.prog 146 [t71, t76].toArray (fun t77 w =>
 PureS (notV t77) fun t78 =>
 CondS t78 (
 J5 w
 ) (
 DrawS fun S11 => S11 w.drew ∧ (
 PureS (binV .sub j9 (Value.int .i64 1)) fun t83 =>
 PureS (binV .sub j9 (Value.int .i64 1)) fun t86 =>
 PureS (indexAddrV 1 data0 t86) fun t87 =>
 PureS (indexAddrV 1 data0 j9) fun t91 =>
 HeldC S11 t87 (fun t88 =>
 HeldC S11 t91 (fun t92 =>
 PureS (indexAddrV 1 data0 j9) fun t93 =>
 StoreC t93 t88 (fun w =>
 PureS (indexAddrV 1 data0 t83) fun t94 =>
 StoreC t94 t92 (fun w =>
 PureS (binV .sub j9 (Value.int .i64 1)) fun t67 =>
 L9 t67 w
 ) w
 ) w.drew
 )
 )
 )
 )
 ) w.drew
 )
 )
 )
 ) (
 J5 w
 )
 ) t63 w
 ) (
 J5 w
 )
 ) w
 ) w.drew
 )
 )
 )
 )
 )
 ) fun J3 =>
 LoopS 1 (fun L12 (i7_3 : Value) (w : World) =>
 JoinS (fun (t32 : Value) (w : World) =>
 CondS t32 (
 PureS (binV .add i7_3 (Value.int .i64 1)) fun t34 =>
 L12 t34 w
 ) (
 J3 i7_3 w
 )
 ) fun J13 =>
 DrawS fun S14 => S14 w.drew ∧ (
 PureS (binV .lss i7_3 b2) fun t19 =>
 CondS t19 (
 PureS (indexAddrV 1 data0 i7_3) fun t23 =>
 PureS (binV .sub i7_3 (Value.int .i64 1)) fun t27 =>
 PureS (indexAddrV 1 data0 t27) fun t28 =>
 HeldC S14 t23 (fun t24 =>
 HeldC S14 t28 (fun t29 =>
 CallS Tryz.prog 146 [t24, t29].toArray (fun t30 w =>
 PureS (notV t30) fun t31 =>
 PureS (pickV (Value.bool true) t31 (Value.bool false)) fun t32_1 =>
 J13 t32_1 w
 ) w.drew
 )
 )
 ) (
 PureS (pickV (Value.bool false) undef (Value.bool false)) fun t32_2 =>
 J13 t32_2 w.drew
 )
 )
 ) i7 w
 ) (
 J0 w
 )
 ) t12 (Value.int .i64 0) w
theorem s145_den (data0 a1 b2 : Value) (K : Value → World → Prop) (w : World) : denFn Tryz.prog false (bodyOf Tryz.f145) Tryz.f145.results a145 [data0, a1, b2] K NoP w = s145 data0 a1 b2 K w := by kernel_rfl
theorem s145_dst : dstsOk (3 + 130) (bodyOf Tryz.f145) = true := by kernel_rfl
theorem s145_ann : annOk (bodyOf Tryz.f145) a145 = true := by kernel_rfl
theorem s145_call {data0 a1 b2 : Value} {K : Value → World → Prop} {w : World} (hm : Tryz.prog.follows .mixedOrders = true) (h : s145 data0 a1 b2 K w) : CallS Tryz.prog 145 #[data0, a1, b2] K w :=
  fn_call (args := [data0, a1, b2]) (m := 130) hm Tryz.func145 (by kernel_rfl) (rs := Tryz.f145.results) rfl Tryz.ntmps145 s145_dst s145_ann (by rw [s145_den]; exact h)

def a146 : Ann :=
 (.q (.r [.plain 1]) (.q (.r [.plain 3, .grp 3 [10] 1792, .plain 2, .grp 3 [15] 57344, .plain 2]) .s))
def s146 (x0 y1 : Value) (K : Value → World → Prop) (w : World) : Prop :=
 CallS Tryz.prog 160 [x0].toArray (fun t6 w =>
 JoinS (fun (t10 : Value) (w : World) =>
 PureS (pickV t6 t10 (Value.bool false)) fun t11 =>
 JoinS (fun (t15 : Value) (w : World) =>
 PureS (pickV t11 (Value.bool true) t15) fun t16 =>
 K t16 w
 ) fun J1 =>
 IfB t11 false (
 PureS (binV .lss x0 y1) fun t15_1 =>
 J1 t15_1 w
 ) (
 J1 undef w
 )
 ) fun J0 =>
 IfB t6 true (
 CallS Tryz.prog 160 [y1].toArray (fun t9 w =>
 PureS (notV t9) fun t10_1 =>
 J0 t10_1 w
 ) w
 ) (
 J0 undef w
 )
 ) w
theorem s146_den (x0 y1 : Value) (K : Value → World → Prop) (w : World) : denFn Tryz.prog false (bodyOf Tryz.f146) Tryz.f146.results a146 [x0, y1] K NoP w = s146 x0 y1 K w := by kernel_rfl
theorem s146_dst : dstsOk (2 + 15) (bodyOf Tryz.f146) = true := by kernel_rfl
theorem s146_ann : annOk (bodyOf Tryz.f146) a146 = true := by kernel_rfl
theorem s146_call {x0 y1 : Value} {K : Value → World → Prop} {w : World} (hm : Tryz.prog.follows .mixedOrders = true) (h : s146 x0 y1 K w) : CallS Tryz.prog 146 #[x0, y1] K w :=
  fn_call (args := [x0, y1]) (m := 15) hm Tryz.func146 (by kernel_rfl) (rs := Tryz.f146.results) rfl Tryz.ntmps146 s146_dst s146_ann (by rw [s146_den]; exact h)

def a147 : Ann :=
 (.q (.r [.plain 1]) (.q (.d [0, 0, 0, 0, 0, 0, 48, 112, 0, 0, 768, 1792, 4083, 8179, 16383, 32767] (.pur 0 (.pur 1 (.pur 2 (.pur 3 (.pur 4 (.pur 5 (.pur 6 (.pur 8 (.pur 9 (.pur 10 (.hld 7 (.hld 11 (.pur 12 (.act 13 (.pur 14 (.act 15 .fin))))))))))))))))) (.q (.r [.plain 6]) (.j [9] 9671406556917032860780032 (.b (.l [9, 10] 9671406556917032860780032 (.b (.j [9] 70368207307264 (.b (.l [9] 70368207307264 (.q (.j [43] 17591649173504 (.d [0, 0, 3, 7, 15, 15, 63, 127, 15, 15, 783, 1807, 4095, 8191, 16383] (.pur 0 (.pur 1 (.pur 2 (.pur 3 (.ite 3 (.pur 4 (.pur 5 (.pur 6 (.pur 8 (.pur 9 (.pur 10 (.hld 7 (.hld 11 (.act 12 (.pur 13 (.pur 14 .fin))))))))))) (.skp 4 (.skp 5 (.skp 6 (.skp 7 (.skp 8 (.skp 9 (.skp 10 (.skp 11 (.skp 12 (.skp 13 (.pur 14 .fin)))))))))))))))))
  (.c .s .s)) (.b (.r [.plain 3])))))
  (.j [10] 4611615649683211264 (.b (.l [10] 4611615649683211264 (.q (.j [59] 1152851135862669312 (.d [0, 0, 3, 7, 15, 15, 63, 127, 15, 15, 783, 1807, 4095, 8191] (.pur 0 (.pur 1 (.pur 2 (.pur 3 (.ite 3 (.pur 4 (.pur 5 (.pur 6 (.pur 8 (.pur 9 (.pur 10 (.hld 7 (.hld 11 (.act 12 (.pur 13 .fin)))))))))) (.skp 4 (.skp 5 (.skp 6 (.skp 7 (.skp 8 (.skp 9 (.skp 10 (.skp 11 (.skp 12 (.pur 13 .fin))))))))))))))))
  (.c .s .s)) (.b (.r [.plain 3])))))
  (.q (.q (.r [.plain 3]) (.c .s .s)) (.q (.d [0, 0, 0, 0, 0, 0, 48, 112, 0, 0, 768, 1792, 4083, 8179, 16383, 32767] (.pur 0 (.pur 1 (.pur 2 (.pur 3 (.pur 4 (.pur 5 (.pur 6 (.pur 8 (.pur 9 (.pur 10 (.hld 7 (.hld 11 (.pur 12 (.act 13 (.pur 14 (.act 15 .fin))))))))))))))))) (.q (.r [.plain 3]) (.r [.plain 3])))))))))
  (.q (.r [.plain 2]) .s)))))
def s147 (data0 a1 b2 pivot3 : Value) (K : Value → World → Prop) (w : World) : Prop :=
 DrawS fun S0 => S0 w.drew ∧ (
 PureS (indexAddrV 1 data0 pivot3) fun t17 =>
 PureS (indexAddrV 1 data0 a1) fun t21 =>
 HeldC S0 t17 (fun t18 =>
 HeldC S0 t21 (fun t22 =>
 PureS (indexAddrV 1 data0 a1) fun t23 =>
 StoreC t23 t18 (fun w =>
 PureS (indexAddrV 1 data0 pivot3) fun t24 =>
 StoreC t24 t22 (fun w =>
 PureS (binV .add a1 (Value.int .i64 1)) fun t26 =>
 PureS (binV .sub b2 (Value.int .i64 1)) fun t28 =>
 JoinS (fun (i9 : Value) (w : World) =>
 K i9 w
 ) fun J1 =>
 LoopS 2 (fun L2 (i9_1 j10 : Value) (w : World) =>
 JoinS (fun (i9_2 : Value) (w : World) =>
 JoinS (fun (j10_1 : Value) (w : World) =>
 PureS (binV .gtr i9_2 j10_1) fun t64 =>
 CondS t64 (
 J1 i9_2 w
 ) (
 DrawS fun S5 => S5 w.drew ∧ (
 PureS (indexAddrV 1 data0 j10_1) fun t71 =>
 PureS (indexAddrV 1 data0 i9_2) fun t75 =>
 HeldC S5 t71 (fun t72 =>
 HeldC S5 t75 (fun t76 =>
 PureS (indexAddrV 1 data0 i9_2) fun t77 =>
 StoreC t77 t72 (fun w =>
 PureS (indexAddrV 1 data0 j10_1) fun t78 =>
 StoreC t78 t76 (fun w =>
 PureS (binV .add i9_2 (Value.int .i64 1)) fun t80 =>
 PureS (binV .sub j10_1 (Value.int .i64 1)) fun t82 =>
 L2 t80 t82 w
 ) w
 ) w.drew
 )
 )
 )
 )
 ) fun J4 =>
 LoopS 1 (fun L6 (j10_2 : Value) (w : World) =>
 JoinS (fun (t59 : Value) (w : World) =>
 CondS t59 (
 PureS (binV .sub j10_2 (Value.int .i64 1)) fun t61 =>
 L6 t61 w
 ) (
 J4 j10_2 w
 )
 ) fun J7 =>
 DrawS fun S8 => S8 w.drew ∧ (
 PureS (binV .leq i9_2 j10_2) fun t48 =>
 CondS t48 (
 PureS (indexAddrV 1 data0 a1) fun t52 =>
 PureS (indexAddrV 1 data0 j10_2) fun t56 =>
 HeldC S8 t52 (fun t53 =>
 HeldC S8 t56 (fun t57 =>
 CallS Tryz.prog 146 [t53, t57].toArray (fun t58 w =>
 PureS (pickV (Value.bool true) t58 (Value.bool false)) fun t59_1 =>
 J7 t59_1 w
 ) w.drew
 )
 )
 ) (
 PureS (pickV (Value.bool false) undef (Value.bool false)) fun t59_2 =>
 J7 t59_2 w.drew
 )
 )
 ) j10 w
 ) fun J3 =>
 LoopS 1 (fun L9 (i9_3 : Value) (w : World) =>
 JoinS (fun (t43 : Value) (w : World) =>
 CondS t43 (
 PureS (binV .add i9_3 (Value.int .i64 1)) fun t45 =>
 L9 t45 w
 ) (
 J3 i9_3 w
 )
 ) fun J10 =>
 DrawS fun S11 => S11 w.drew ∧ (
 PureS (binV .leq i9_3 j10) fun t31 =>
 CondS t31 (
 PureS (indexAddrV 1 data0 a1) fun t35 =>
 PureS (indexAddrV 1 data0 i9_3) fun t39 =>
 HeldC S11 t35 (fun t36 =>
 HeldC S11 t39 (fun t40 =>
 CallS Tryz.prog 146 [t36, t40].toArray (fun t41 w =>
 PureS (notV t41) fun t42 =>
 PureS (pickV (Value.bool true) t42 (Value.bool false)) fun t43_1 =>
 J10 t43_1 w
 ) w.drew
 )
 )
 ) (
 PureS (pickV (Value.bool false) undef (Value.bool false)) fun t43_2 =>
 J10 t43_2 w.drew
 )
 )
 ) i9_1 w
 ) t26 t28 w
 ) w
 ) w.drew
 )
 )
 )
theorem s147_den (data0 a1 b2 pivot3 : Value) (K : Value → World → Prop) (w : World) : denFn Tryz.prog false (bodyOf Tryz.f147) Tryz.f147.results a147 [data0, a1, b2, pivot3] K NoP w = s147 data0 a1 b2 pivot3 K w := by kernel_rfl
theorem s147_dst : dstsOk (4 + 80) (bodyOf Tryz.f147) = true := by kernel_rfl
theorem s147_ann : annOk (bodyOf Tryz.f147) a147 = true := by kernel_rfl
theorem s147_call {data0 a1 b2 pivot3 : Value} {K : Value → World → Prop} {w : World} (hm : Tryz.prog.follows .mixedOrders = true) (h : s147 data0 a1 b2 pivot3 K w) : CallS Tryz.prog 147 #[data0, a1, b2, pivot3] K w :=
  fn_call (args := [data0, a1, b2, pivot3]) (m := 80) hm Tryz.func147 (by kernel_rfl) (rs := Tryz.f147.results) rfl Tryz.ntmps147 s147_dst s147_ann (by rw [s147_den]; exact h)

def a148 : Ann :=
 (.q (.r [.plain 2]) (.q (.d [0, 0, 0, 0, 0, 0, 48, 112, 0, 0, 768, 1792, 4083, 8179, 16383, 32767] (.pur 0 (.pur 1 (.pur 2 (.pur 3 (.pur 4 (.pur 5 (.pur 6 (.pur 8 (.pur 9 (.pur 10 (.hld 7 (.hld 11 (.pur 12 (.act 13 (.pur 14 (.act 15 .fin))))))))))))))))) (.q (.r [.plain 6]) (.j [10] 70367670436864 (.b (.l [10] 70367670436864 (.q (.j [43] 17591112302592 (.d [0, 0, 3, 7, 15, 15, 63, 127, 15, 15, 783, 1807, 4095, 8191] (.pur 0 (.pur 1 (.pur 2 (.pur 3 (.ite 3 (.pur 4 (.pur 5 (.pur 6 (.pur 8 (.pur 9 (.pur 10 (.hld 7 (.hld 11 (.act 12 (.pur 13 .fin)))))))))) (.skp 4 (.skp 5 (.skp 6 (.skp 7 (.skp 8 (.skp 9 (.skp 10 (.skp 11 (.skp 12 (.pur 13 .fin))))))))))))))))
  (.c .s .s)) (.b (.r [.plain 3])))))
  (.j [11] 9223301668110600192 (.b (.l [11] 9223301668110600192 (.q (.j [60] 2305772640469516288 (.d [0, 0, 3, 7, 15, 15, 63, 127, 15, 15, 783, 1807, 4095, 8191, 16383] (.pur 0 (.pur 1 (.pur 2 (.pur 3 (.ite 3 (.pur 4 (.pur 5 (.pur 6 (.pur 8 (.pur 9 (.pur 10 (.hld 7 (.hld 11 (.act 12 (.pur 13 (.pur 14 .fin))))))))))) (.skp 4 (.skp 5 (.skp 6 (.skp 7 (.skp 8 (.skp 9 (.skp 10 (.skp 11 (.skp 12 (.skp 13 (.pur 14 .fin)))))))))))))))))
  (.c .s .s)) (.b (.r [.plain 3])))))
  (.q (.q (.r [.plain 3]) (.c (.q (.d [0, 0, 0, 0, 0, 0, 48, 112, 0, 0, 768, 1792, 4083, 8179, 16383, 32767] (.pur 0 (.pur 1 (.pur 2 (.pur 3 (.pur 4 (.pur 5 (.pur 6 (.pur 8 (.pur 9 (.pur 10 (.hld 7 (.hld 11 (.pur 12 (.act 13 (.pur 14 (.act 15 .fin))))))))))))))))) (.q (.r [.plain 3]) .s)) .s)) (.q (.d [0, 0, 0, 0, 0, 0, 48, 112, 0, 0, 768, 1792, 4083, 8179, 16383, 32767] (.pur 0 (.pur 1 (.pur 2 (.pur 3 (.pur 4 (.pur 5 (.pur 6 (.pur 8 (.pur 9 (.pur 10 (.hld 7 (.hld 11 (.pur 12 (.act 13 (.pur 14 (.act 15 .fin))))))))))))))))) (.q (.r [.plain 3]) (.q (.r [.plain 3]) (.j [11] 11417981541647678414640987641481260342710373376 (.b (.l [10, 11] 11417981541647678414640987641481260342710373376 (.b (.j [10] 41537741042978506913543222282159104 (.b (.l [10] 41537741042978506913543222282159104 (.q (.j [112] 10383959891769541142360244306837504 (.d [0, 0, 3, 7, 15, 15, 63, 127, 15, 15, 783, 1807, 4095, 8191] (.pur 0 (.pur 1 (.pur 2 (.pur 3 (.ite 3 (.pur 4 (.pur 5 (.pur 6 (.pur 8 (.pur 9 (.pur 10 (.hld 7 (.hld 11 (.act 12 (.pur 13 .fin)))))))))) (.skp 4 (.skp 5 (.skp 6 (.skp 7 (.skp 8 (.skp 9 (.skp 10 (.skp 11 (.skp 12 (.pur 13 .fin))))))))))))))))
  (.c .s .s)) (.b (.r [.plain 3])))))
  (.j [11] 5444476332360147136792965474937657624576 (.b (.l [11] 5444476332360147136792965474937657624576 (.q (.j [129] 1361087929308885575232470185756439085056 (.d [0, 0, 3, 7, 15, 15, 63, 127, 15, 15, 783, 1807, 4095, 8191, 16383] (.pur 0 (.pur 1 (.pur 2 (.pur 3 (.ite 3 (.pur 4 (.pur 5 (.pur 6 (.pur 8 (.pur 9 (.pur 10 (.hld 7 (.hld 11 (.act 12 (.pur 13 (.pur 14 .fin))))))))))) (.skp 4 (.skp 5 (.skp 6 (.skp 7 (.skp 8 (.skp 9 (.skp 10 (.skp 11 (.skp 12 (.skp 13 (.pur 14 .fin)))))))))))))))))
  (.c .s .s)) (.b (.r [.plain 3])))))
  (.q (.q (.r [.plain 3]) (.c .s .s)) (.q (.d [0, 0, 0, 0, 0, 0, 48, 112, 0, 0, 768, 1792, 4083, 8179, 16383, 32767] (.pur 0 (.pur 1 (.pur 2 (.pur 3 (.pur 4 (.pur 5 (.pur 6 (.pur 8 (.pur 9 (.pur 10 (.hld 7 (.hld 11 (.pur 12 (.act 13 (.pur 14 (.act 15 .fin))))))))))))))))) (.q (.r [.plain 3]) (.r [.plain 3])))))))))
  (.q (.d [0, 0, 0, 0, 0, 0, 48, 112, 0, 0, 768, 1792, 4083, 8179, 16383, 32767] (.pur 0 (.pur 1 (.pur 2 (.pur 3 (.pur 4 (.pur 5 (.pur 6 (.pur 8 (.pur 9 (.pur 10 (.hld 7 (.hld 11 (.pur 12 (.act 13 (.pur 14 (.act 15 .fin))))))))))))))))) (.q (.r [.plain 3]) .s))))))))))))
def s148 (data0 a1 b2 pivot3 : Value) (K : Value → World → Prop) (w : World) : Prop :=
 DrawS fun S0 => S0 w.drew ∧ (
 PureS (indexAddrV 1 data0 pivot3) fun t18 =>
 PureS (indexAddrV 1 data0 a1) fun t22 =>
 HeldC S0 t18 (fun t19 =>
 HeldC S0 t22 (fun t23 =>
 PureS (indexAddrV 1 data0 a1) fun t24 =>
 StoreC t24 t19 (fun w =>
 PureS (indexAddrV 1 data0 pivot3) fun t25 =>
 StoreC t25 t23 (fun w =>
 PureS (binV .add a1 (Value.int .i64 1)) fun t27 =>
 PureS (binV .sub b2 (Value.int .i64 1)) fun t29 =>
 JoinS (fun (i10 : Value) (w : World) =>
 JoinS (fun (j11 : Value) (w : World) =>
 PureS (binV .gtr i10 j11) fun t65 =>
 CondS t65 (
 DrawS fun S3 => S3 w.drew ∧ (
 PureS (indexAddrV 1 data0 a1) fun t72 =>
 PureS (indexAddrV 1 data0 j11) fun t76 =>
 HeldC S3 t72 (fun t73 =>
 HeldC S3 t76 (fun t77 =>
 PureS (indexAddrV 1 data0 j11) fun t78 =>
 StoreC t78 t73 (fun w =>
 PureS (indexAddrV 1 data0 a1) fun t79 =>
 StoreC t79 t77 (fun w =>
 K (Value.tuple [j11, (Value.bool true)].toArray) w
 ) w
 ) w.drew
 )
 )
 )
 ) (
 DrawS fun S4 => S4 w.drew ∧ (
 PureS (indexAddrV 1 data0 j11) fun t87 =>
 PureS (indexAddrV 1 data0 i10) fun t91 =>
 HeldC S4 t87 (fun t88 =>
 HeldC S4 t91 (fun t92 =>
 PureS (indexAddrV 1 data0 i10) fun t93 =>
 StoreC t93 t88 (fun w =>
 PureS (indexAddrV 1 data0 j11) fun t94 =>
 StoreC t94 t92 (fun w =>
 PureS (binV .add i10 (Value.int .i64 1)) fun t96 =>
 PureS (binV .sub j11 (Value.int .i64 1)) fun t98 =>
 JoinS (fun (j11_1 : Value) (w : World) =>
 DrawS fun S6 => S6 w.drew ∧ (
 PureS (indexAddrV 1 data0 a1) fun t159 =>
 PureS (indexAddrV 1 data0 j11_1) fun t163 =>
 HeldC S6 t159 (fun t160 =>
 HeldC S6 t163 (fun t164 =>
 PureS (indexAddrV 1 data0 j11_1) fun t165 =>
 StoreC t165 t160 (fun w =>
 PureS (indexAddrV 1 data0 a1) fun t166 =>
 StoreC t166 t164 (fun w =>
 K (Value.tuple [j11_1, (Value.bool false)].toArray) w
 ) w
 ) w.drew
 )
 )
 )
 ) fun J5 =>
 LoopS 2 (fun L7 (i10_1 j11_2 : Value) (w : World) =>
 JoinS (fun (i10_2 : Value) (w : World) =>
 JoinS (fun (j11_3 : Value) (w : World) =>
 PureS (binV .gtr i10_2 j11_3) fun t134 =>
 CondS t134 (
 J5 j11_3 w
 ) (
 DrawS fun S10 => S10 w.drew ∧ (
 PureS (indexAddrV 1 data0 j11_3) fun t141 =>
 PureS (indexAddrV 1 data0 i10_2) fun t145 =>
 HeldC S10 t141 (fun t142 =>
 HeldC S10 t145 (fun t146 =>
 PureS (indexAddrV 1 data0 i10_2) fun t147 =>
 StoreC t147 t142 (fun w =>
 PureS (indexAddrV 1 data0 j11_3) fun t148 =>
 StoreC t148 t146 (fun w =>
 PureS (binV .add i10_2 (Value.int .i64 1)) fun t150 =>
 PureS (binV .sub j11_3 (Value.int .i64 1)) fun t152 =>
 L7 t150 t152 w
 ) w
 ) w.drew
 )
 )
 )
 )
 ) fun J9 =>
 LoopS 1 (fun L11 (j11_4 : Value) (w : World) =>
 JoinS (fun (t129 : Value) (w : World) =>
 CondS t129 (
 PureS (binV .sub j11_4 (Value.int .i64 1)) fun t131 =>
 L11 t131 w
 ) (
 J9 j11_4 w
 )
 ) fun J12 =>
 DrawS fun S13 => S13 w.drew ∧ (
 PureS (binV .leq i10_2 j11_4) fun t117 =>
 CondS t117 (
 PureS (indexAddrV 1 data0 j11_4) fun t121 =>
 PureS (indexAddrV 1 data0 a1) fun t125 =>
 HeldC S13 t121 (fun t122 =>
 HeldC S13 t125 (fun t126 =>
 CallS Tryz.prog 146 [t122, t126].toArray (fun t127 w =>
 PureS (notV t127) fun t128 =>
 PureS (pickV (Value.bool true) t128 (Value.bool false)) fun t129_1 =>
 J12 t129_1 w
 ) w.drew
 )
 )
 ) (
 PureS (pickV (Value.bool false) undef (Value.bool false)) fun t129_2 =>
 J12 t129_2 w.drew
 )
 )
 ) j11_2 w
 ) fun J8 =>
 LoopS 1 (fun L14 (i10_3 : Value) (w : World) =>
 JoinS (fun (t112 : Value) (w : World) =>
 CondS t112 (
 PureS (binV .add i10_3 (Value.int .i64 1)) fun t114 =>
 L14 t114 w
 ) (
 J8 i10_3 w
 )
 ) fun J15 =>
 DrawS fun S16 => S16 w.drew ∧ (
 PureS (binV .leq i10_3 j11_2) fun t101 =>
 CondS t101 (
 PureS (indexAddrV 1 data0 i10_3) fun t105 =>
 PureS (indexAddrV 1 data0 a1) fun t109 =>
 HeldC S16 t105 (fun t106 =>
 HeldC S16 t109 (fun t110 =>
 CallS Tryz.prog 146 [t106, t110].toArray (fun t111 w =>
 PureS (pickV (Value.bool true) t111 (Value.bool false)) fun t112_1 =>
 J15 t112_1 w
 ) w.drew
 )
 )
 ) (
 PureS (pickV (Value.bool false) undef (Value.bool false)) fun t112_2 =>
 J15 t112_2 w.drew
 )
 )
 ) i10_1 w
 ) t96 t98 w
 ) w
 ) w.drew
 )
 )
 )
 )
 ) fun J2 =>
 LoopS 1 (fun L17 (j11_5 : Value) (w : World) =>
 JoinS (fun (t60 : Value) (w : World) =>
 CondS t60 (
 PureS (binV .sub j11_5 (Value.int .i64 1)) fun t62 =>
 L17 t62 w
 ) (
 J2 j11_5 w
 )
 ) fun J18 =>
 DrawS fun S19 => S19 w.drew ∧ (
 PureS (binV .leq i10 j11_5) fun t48 =>
 CondS t48 (
 PureS (indexAddrV 1 data0 j11_5) fun t52 =>
 PureS (indexAddrV 1 data0 a1) fun t56 =>
 HeldC S19 t52 (fun t53 =>
 HeldC S19 t56 (fun t57 =>
 CallS Tryz.prog 146 [t53, t57].toArray (fun t58 w =>
 PureS (notV t58) fun t59 =>
 PureS (pickV (Value.bool true) t59 (Value.bool false)) fun t60_1 =>
 J18 t60_1 w
 ) w.drew
 )
 )
 ) (
 PureS (pickV (Value.bool false) undef (Value.bool false)) fun t60_2 =>
 J18 t60_2 w.drew
 )
 )
 ) t29 w
 ) fun J1 =>
 LoopS 1 (fun L20 (i10_4 : Value) (w : World) =>
 JoinS (fun (t43 : Value) (w : World) =>
 CondS t43 (
 PureS (binV .add i10_4 (Value.int .i64 1)) fun t45 =>
 L20 t45 w
 ) (
 J1 i10_4 w
 )
 ) fun J21 =>
 DrawS fun S22 => S22 w.drew ∧ (
 PureS (binV .leq i10_4 t29) fun t32 =>
 CondS t32 (
 PureS (indexAddrV 1 data0 i10_4) fun t36 =>
 PureS (indexAddrV 1 data0 a1) fun t40 =>
 HeldC S22 t36 (fun t37 =>
 HeldC S22 t40 (fun t41 =>
 CallS Tryz.prog 146 [t37, t41].toArray (fun t42 w =>
 PureS (pickV (Value.bool true) t42 (Value.bool false)) fun t43_1 =>
 J21 t43_1 w
 ) w.drew
 )
 )
 ) (
 PureS (pickV (Value.bool false) undef (Value.bool false)) fun t43_2 =>
 J21 t43_2 w.drew
 )
 )
 ) t27 w
 ) w
 ) w.drew
 )
 )
 )
theorem s148_den (data0 a1 b2 pivot3 : Value) (K : Value → World → Prop) (w : World) : denFn Tryz.prog false (bodyOf Tryz.f148) Tryz.f148.results a148 [data0, a1, b2, pivot3] K NoP w = s148 data0 a1 b2 pivot3 K w := by kernel_rfl
theorem s148_dst : dstsOk (4 + 164) (bodyOf Tryz.f148) = true := by kernel_rfl
theorem s148_ann : annOk (bodyOf Tryz.f148) a148 = true := by kernel_rfl
theorem s148_call {data0 a1 b2 pivot3 : Value} {K : Value → World → Prop} {w : World} (hm : Tryz.prog.follows .mixedOrders = true) (h : s148 data0 a1 b2 pivot3 K w) : CallS Tryz.prog 148 #[data0, a1, b2, pivot3] K w :=
  fn_call (args := [data0, a1, b2, pivot3]) (m := 164) hm Tryz.func148 (by kernel_rfl) (rs := Tryz.f148.results) rfl Tryz.ntmps148 s148_dst s148_ann (by rw [s148_den]; exact h)

def a150 : Ann :=
 (.q (.r [.plain 1]) (.j [0, 2] 125 (.q (.r [.plain 2]) (.c (.q (.r [.plain 3]) (.r [.plain 1])) .s))
  (.j [0, 2] 8069 (.q (.r [.plain 2]) (.c (.q (.r [.plain 3]) (.r [.plain 3])) .s))
  (.j [0, 2] 516101 (.q (.r [.plain 2]) (.c (.q (.r [.plain 3]) (.r [.plain 3])) .s))
  (.q (.r [.plain 7]) .s)))))
def s150 (x0 : Value) (K : Value → World → Prop) (w : World) : Prop :=
 JoinS (fun (x0_1 n2 : Value) (w : World) =>
 JoinS (fun (x0_2 n2_1 : Value) (w : World) =>
 JoinS (fun (x0_3 n2_2 : Value) (w : World) =>
 PureS (convIntV .u8 x0_3) fun t21 =>
 PureS (indexStrV (Value.string ⟨#[0, 1, 2, 2, 3, 3, 3, 3, 4, 4, 4, 4, 4, 4, 4, 4, 5, 5, 5, 5, 5, 5, 5, 5, 5, 5, 5, 5, 5, 5, 5, 5, 6, 6, 6, 6, 6, 6, 6, 6, 6, 6, 6, 6, 6, 6, 6, 6, 6, 6, 6, 6, 6, 6, 6, 6, 6, 6, 6, 6, 6, 6, 6, 6, 7, 7, 7, 7, 7, 7, 7, 7, 7, 7, 7, 7, 7, 7, 7, 7, 7, 7, 7, 7, 7, 7, 7, 7, 7, 7, 7, 7, 7, 7, 7, 7, 7, 7, 7, 7, 7, 7, 7, 7, 7, 7, 7, 7, 7, 7, 7, 7, 7, 7, 7, 7, 7, 7, 7, 7, 7, 7, 7, 7, 7, 7, 7, 7, 8, 8, 8, 8, 8, 8, 8, 8, 8, 8, 8, 8, 8, 8, 8, 8, 8, 8, 8, 8, 8, 8, 8, 8, 8, 8, 8, 8, 8, 8, 8, 8, 8, 8, 8, 8, 8, 8, 8, 8, 8, 8, 8, 8, 8, 8, 8, 8, 8, 8, 8, 8, 8, 8, 8, 8, 8, 8, 8, 8, 8, 8, 8, 8, 8, 8, 8, 8, 8, 8, 8, 8, 8, 8, 8, 8, 8, 8, 8, 8, 8, 8, 8, 8, 8, 8, 8, 8, 8, 8, 8, 8, 8, 8, 8, 8, 8, 8, 8, 8, 8, 8, 8, 8, 8, 8, 8, 8, 8, 8, 8, 8, 8, 8, 8, 8, 8, 8, 8, 8, 8, 8, 8, 8, 8, 8, 8, 8]⟩) t21) fun t22 =>
 PureS (convIntV .i64 t22) fun t23 =>
 PureS (binV .add n2_2 t23) fun t24 =>
 K t24 w
 ) fun J2 =>
 PureS (binV .geq x0_2 (Value.int .u64 256)) fun t14 =>
 CondS t14 (
 PureS (binV .shr x0_2 (Value.int .u64 8)) fun t16 =>
 PureS (binV .add n2_1 (Value.int .i64 8)) fun t18 =>
 J2 t16 t18 w
 ) (
 J2 x0_2 n2_1 w
 )
 ) fun J1 =>
 PureS (binV .geq x0_1 (Value.int .u64 65536)) fun t8 =>
 CondS t8 (
 PureS (binV .shr x0_1 (Value.int .u64 16)) fun t10 =>
 PureS (binV .add n2 (Value.int .i64 16)) fun t12 =>
 J1 t10 t12 w
 ) (
 J1 x0_1 n2 w
 )
 ) fun J0 =>
 PureS (binV .geq x0 (Value.int .u64 4294967296)) fun t4 =>
 CondS t4 (
 PureS (binV .shr x0 (Value.int .u64 32)) fun t6 =>
 J0 t6 (Value.int .i64 32) w
 ) (
 J0 x0 (Value.int .i64 0) w
 )
theorem s150_den (x0 : Value) (K : Value → World → Prop) (w : World) : denFn Tryz.prog false (bodyOf Tryz.f150) Tryz.f150.results a150 [x0] K NoP w = s150 x0 K w := by kernel_rfl
theorem s150_dst : dstsOk (1 + 24) (bodyOf Tryz.f150) = true := by kernel_rfl
theorem s150_ann : annOk (bodyOf Tryz.f150) a150 = true := by kernel_rfl
theorem s150_call {x0 : Value} {K : Value → World → Prop} {w : World} (hm : Tryz.prog.follows .mixedOrders = true) (h : s150 x0 K w) : CallS Tryz.prog 150 #[x0] K w :=
  fn_call (args := [x0]) (m := 24) hm Tryz.func150 (by kernel_rfl) (rs := Tryz.f150.results) rfl Tryz.ntmps150 s150_dst s150_ann (by rw [s150_den]; exact h)

def a151 : Ann :=
 (.q (.r [.plain 1]) (.q (.r [.plain 4]) .s))
def s151 (s0 c1 : Value) (K : Value → World → Prop) (w : World) : Prop :=
 CallX Tryz.prog 161 [s0, c1].toArray (fun t7 w =>
 K t7 w
 ) w
theorem s151_den (s0 c1 : Value) (K : Value → World → Prop) (w : World) : denFn Tryz.prog false (bodyOf Tryz.f151) Tryz.f151.results a151 [s0, c1] K NoP w = s151 s0 c1 K w := by kernel_rfl
theorem s151_dst : dstsOk (2 + 6) (bodyOf Tryz.f151) = true := by kernel_rfl
theorem s151_ann : annOk (bodyOf Tryz.f151) a151 = true := by kernel_rfl
theorem s151_call {s0 c1 : Value} {K : Value → World → Prop} {w : World} (hm : Tryz.prog.follows .mixedOrders = true) (h : s151 s0 c1 K w) : CallS Tryz.prog 151 #[s0, c1] K w :=
  fn_call (args := [s0, c1]) (m := 6) hm Tryz.func151 (by kernel_rfl) (rs := Tryz.f151.results) rfl Tryz.ntmps151 s151_dst s151_ann (by rw [s151_den]; exact h)

def a155 : Ann :=
 (.q (.r [.plain 2]) (.b (.l [8] 75557863725914323417856 (.b (.q (.r [.plain 4]) (.q (.q (.r [.plain 3]) (.c .s .s)) (.j [9] 549755683328 (.j [36] 137438822400 (.d [0, 1, 0, 7, 15, 31, 31, 31, 223, 511, 1023, 31, 31, 31, 12319, 28703, 63519, 129055, 262143, 524287] (.pur 0 (.pur 1 (.pur 2 (.pur 3 (.pur 4 (.ite 4 (.pur 5 (.pur 6 (.pur 7 (.pur 8 (.pur 9 (.pur 11 (.pur 12 (.pur 13 (.pur 14 (.pur 15 (.pur 16 (.hld 10 (.hld 17 (.act 18 (.pur 19 .fin))))))))))))))) (.skp 5 (.skp 6 (.skp 7 (.skp 8 (.skp 9 (.skp 10 (.skp 11 (.skp 12 (.skp 13 (.skp 14 (.skp 15 (.skp 16 (.skp 17 (.skp 18 (.pur 19 .fin))))))))))))))))))))))
  (.c (.r [.plain 3]) .s))
  (.q (.q (.d [0, 0, 0, 6, 15, 31, 0, 0, 0, 384, 960, 1984, 4095, 8191] (.pur 0 (.pur 1 (.pur 2 (.pur 3 (.pur 4 (.pur 6 (.pur 7 (.pur 8 (.pur 9 (.pur 10 (.hld 5 (.hld 11 (.act 12 (.pur 13 .fin))))))))))))))) (.c .s .s)) (.q (.d [0, 0, 0, 6, 0, 0, 0, 96, 0, 0, 0, 1536, 3840, 7936, 0, 0, 0, 98304, 245760, 507904, 1048335, 2096911, 4194303, 8388607] (.pur 0 (.pur 1 (.pur 2 (.pur 3 (.pur 4 (.pur 5 (.pur 6 (.pur 7 (.pur 8 (.pur 9 (.pur 10 (.pur 11 (.pur 12 (.pur 14 (.pur 15 (.pur 16 (.pur 17 (.pur 18 (.hld 13 (.hld 19 (.pur 20 (.act 21 (.pur 22 (.act 23 .fin))))))))))))))))))))))))) (.r [.plain 2]))))))))))
def s155 (data0 lo1 hi2 first3 : Value) (K : Value → World → Prop) (w : World) : Prop :=
 LoopS 1 (fun L0 (root8 : Value) (w : World) =>
 PureS (binV .mul (Value.int .i64 2) root8) fun t12 =>
 PureS (binV .add t12 (Value.int .i64 1)) fun t13 =>
 PureS (binV .geq t13 hi2) fun t16 =>
 CondS t16 (
 K (Value.tuple [].toArray) w
 ) (
 JoinS (fun (child9 : Value) (w : World) =>
 DrawS fun S2 => S2 w.drew ∧ (
 PureS (binV .add first3 root8) fun t42 =>
 PureS (indexAddrV 1 data0 t42) fun t43 =>
 PureS (binV .add first3 child9) fun t48 =>
 PureS (indexAddrV 1 data0 t48) fun t49 =>
 HeldC S2 t43 (fun t44 =>
 HeldC S2 t49 (fun t50 =>
 CallS Tryz.prog 146 [t44, t50].toArray (fun t51 w =>
 PureS (notV t51) fun t52 =>
 CondS t52 (
 K (Value.tuple [].toArray) w
 ) (
 DrawS fun S3 => S3 w.drew ∧ (
 PureS (binV .add first3 root8) fun t56 =>
 PureS (binV .add first3 child9) fun t60 =>
 PureS (binV .add first3 child9) fun t64 =>
 PureS (indexAddrV 1 data0 t64) fun t65 =>
 PureS (binV .add first3 root8) fun t70 =>
 PureS (indexAddrV 1 data0 t70) fun t71 =>
 HeldC S3 t65 (fun t66 =>
 HeldC S3 t71 (fun t72 =>
 PureS (indexAddrV 1 data0 t56) fun t73 =>
 StoreC t73 t66 (fun w =>
 PureS (indexAddrV 1 data0 t60) fun t74 =>
 StoreC t74 t72 (fun w =>
 L0 child9 w
 ) w
 ) w.drew
 )
 )
 )
 )
 ) w.drew
 )
 )
 )
 ) fun J1 =>
 JoinS (fun (t36 : Value) (w : World) =>
 CondS t36 (
 PureS (binV .add t13 (Value.int .i64 1)) fun t38 =>
 J1 t38 w
 ) (
 J1 t13 w
 )
 ) fun J4 =>
 DrawS fun S5 => S5 w.drew ∧ (
 PureS (binV .add t13 (Value.int .i64 1)) fun t18 =>
 PureS (binV .lss t18 hi2) fun t20 =>
 CondS t20 (
 PureS (binV .add first3 t13) fun t25 =>
 PureS (indexAddrV 1 data0 t25) fun t26 =>
 PureS (binV .add first3 t13) fun t31 =>
 PureS (binV .add t31 (Value.int .i64 1)) fun t32 =>
 PureS (indexAddrV 1 data0 t32) fun t33 =>
 HeldC S5 t26 (fun t27 =>
 HeldC S5 t33 (fun t34 =>
 CallS Tryz.prog 146 [t27, t34].toArray (fun t35 w =>
 PureS (pickV (Value.bool true) t35 (Value.bool false)) fun t36_1 =>
 J4 t36_1 w
 ) w.drew
 )
 )
 ) (
 PureS (pickV (Value.bool false) undef (Value.bool false)) fun t36_2 =>
 J4 t36_2 w.drew
 )
 )
 )
 ) lo1 w
theorem s155_den (data0 lo1 hi2 first3 : Value) (K : Value → World → Prop) (w : World) : denFn Tryz.prog false (bodyOf Tryz.f155) Tryz.f155.results a155 [data0, lo1, hi2, first3] K NoP w = s155 data0 lo1 hi2 first3 K w := by kernel_rfl
theorem s155_dst : dstsOk (4 + 72) (bodyOf Tryz.f155) = true := by kernel_rfl
theorem s155_ann : annOk (bodyOf Tryz.f155) a155 = true := by kernel_rfl
theorem s155_call {data0 lo1 hi2 first3 : Value} {K : Value → World → Prop} {w : World} (hm : Tryz.prog.follows .mixedOrders = true) (h : s155 data0 lo1 hi2 first3 K w) : CallS Tryz.prog 155 #[data0, lo1, hi2, first3] K w :=
  fn_call (args := [data0, lo1, hi2, first3]) (m := 72) hm Tryz.func155 (by kernel_rfl) (rs := Tryz.f155.results) rfl Tryz.ntmps155 s155_dst s155_ann (by rw [s155_den]; exact h)

def a156 : Ann :=
 (.q (.r [.plain 1]) (.q (.r [.plain 5]) .s))
def s156 (length0 : Value) (K : Value → World → Prop) (w : World) : Prop :=
 PureS (convIntV .u64 length0) fun t4 =>
 CallS Tryz.prog 138 [t4].toArray (fun t5 w =>
 PureS (binV .shl (Value.int .u64 1) t5) fun t6 =>
 K t6 w
 ) w
theorem s156_den (length0 : Value) (K : Value → World → Prop) (w : World) : denFn Tryz.prog false (bodyOf Tryz.f156) Tryz.f156.results a156 [length0] K NoP w = s156 length0 K w := by kernel_rfl
theorem s156_dst : dstsOk (1 + 6) (bodyOf Tryz.f156) = true := by kernel_rfl
theorem s156_ann : annOk (bodyOf Tryz.f156) a156 = true := by kernel_rfl
theorem s156_call {length0 : Value} {K : Value → World → Prop} {w : World} (hm : Tryz.prog.follows .mixedOrders = true) (h : s156 length0 K w) : CallS Tryz.prog 156 #[length0] K w :=
  fn_call (args := [length0]) (m := 6) hm Tryz.func156 (by kernel_rfl) (rs := Tryz.f156.results) rfl Tryz.ntmps156 s156_dst s156_ann (by rw [s156_den]; exact h)

def a157 : Ann :=
 (.q (.r [.plain 1]) (.q (.d [0, 1, 3, 0, 8, 24, 56, 127, 255, 511] (.pur 0 (.pur 1 (.pur 3 (.pur 4 (.hld 2 (.hld 5 (.pur 6 (.pur 7 (.pur 8 (.act 9 .fin))))))))))) (.q (.d [0, 1, 3, 0, 8, 24, 56, 127, 255, 511] (.pur 0 (.pur 1 (.pur 3 (.pur 4 (.hld 2 (.hld 5 (.pur 6 (.pur 7 (.pur 8 (.act 9 .fin))))))))))) (.q (.d [0, 1, 3, 0, 8, 24, 56, 127, 255, 511] (.pur 0 (.pur 1 (.pur 3 (.pur 4 (.hld 2 (.hld 5 (.pur 6 (.pur 7 (.pur 8 (.act 9 .fin))))))))))) (.q (.r [.plain 4]) .s)))))
def s157 (r0 : Value) (K : Value → World → Prop) (w : World) : Prop :=
 DrawS fun S0 => S0 w.drew ∧ (
 PureS (nilV r0) fun t4 =>
 PureS (nilV r0) fun t7 =>
 HeldC S0 t4 (fun t5 =>
 HeldC S0 t7 (fun t8 =>
 PureS (binV .shl t8 (Value.int .u64 13)) fun t9 =>
 PureS (binV .xor t5 t9) fun t10 =>
 PureS (nilV r0) fun t11 =>
 StoreC t11 t10 (fun w =>
 DrawS fun S1 => S1 w.drew ∧ (
 PureS (nilV r0) fun t13 =>
 PureS (nilV r0) fun t16 =>
 HeldC S1 t13 (fun t14 =>
 HeldC S1 t16 (fun t17 =>
 PureS (binV .shr t17 (Value.int .u64 7)) fun t18 =>
 PureS (binV .xor t14 t18) fun t19 =>
 PureS (nilV r0) fun t20 =>
 StoreC t20 t19 (fun w =>
 DrawS fun S2 => S2 w.drew ∧ (
 PureS (nilV r0) fun t22 =>
 PureS (nilV r0) fun t25 =>
 HeldC S2 t22 (fun t23 =>
 HeldC S2 t25 (fun t26 =>
 PureS (binV .shl t26 (Value.int .u64 17)) fun t27 =>
 PureS (binV .xor t23 t27) fun t28 =>
 PureS (nilV r0) fun t29 =>
 StoreC t29 t28 (fun w =>
 PureS (nilV r0) fun t31 =>
 LoadC t31 (fun t32 w =>
 K t32 w
 ) w
 ) w.drew
 )
 )
 )
 ) w.drew
 )
 )
 )
 ) w.drew
 )
 )
 )
theorem s157_den (r0 : Value) (K : Value → World → Prop) (w : World) : denFn Tryz.prog false (bodyOf Tryz.f157) Tryz.f157.results a157 [r0] K NoP w = s157 r0 K w := by kernel_rfl
theorem s157_dst : dstsOk (1 + 32) (bodyOf Tryz.f157) = true := by kernel_rfl
theorem s157_ann : annOk (bodyOf Tryz.f157) a157 = true := by kernel_rfl
theorem s157_call {r0 : Value} {K : Value → World → Prop} {w : World} (hm : Tryz.prog.follows .mixedOrders = true) (h : s157 r0 K w) : CallS Tryz.prog 157 #[r0] K w :=
  fn_call (args := [r0]) (m := 32) hm Tryz.func157 (by kernel_rfl) (rs := Tryz.f157.results) rfl Tryz.ntmps157 s157_dst s157_ann (by rw [s157_den]; exact h)

def a158 : Ann :=
 (.q (.r [.plain 1]) (.q (.r [.plain 9]) .s))
def s158 (data0 a1 swaps2 : Value) (K : Value → World → Prop) (w : World) : Prop :=
 PureS (binV .sub a1 (Value.int .i64 1)) fun t9 =>
 PureS (binV .add a1 (Value.int .i64 1)) fun t12 =>
 CallS Tryz.prog 159 [data0, t9, a1, t12, swaps2].toArray (fun t14 w =>
 K t14 w
 ) w
theorem s158_den (data0 a1 swaps2 : Value) (K : Value → World → Prop) (w : World) : denFn Tryz.prog false (bodyOf Tryz.f158) Tryz.f158.results a158 [data0, a1, swaps2] K NoP w = s158 data0 a1 swaps2 K w := by kernel_rfl
theorem s158_dst : dstsOk (3 + 12) (bodyOf Tryz.f158) = true := by kernel_rfl
theorem s158_ann : annOk (bodyOf Tryz.f158) a158 = true := by kernel_rfl
theorem s158_call {data0 a1 swaps2 : Value} {K : Value → World → Prop} {w : World} (hm : Tryz.prog.follows .mixedOrders = true) (h : s158 data0 a1 swaps2 K w) : CallS Tryz.prog 158 #[data0, a1, swaps2] K w :=
  fn_call (args := [data0, a1, swaps2]) (m := 12) hm Tryz.func158 (by kernel_rfl) (rs := Tryz.f158.results) rfl Tryz.ntmps158 s158_dst s158_ann (by rw [s158_den]; exact h)

def a159 : Ann :=
 (.q (.r [.plain 1]) (.q (.r [.plain 10]) (.q (.r [.plain 10]) (.q (.r [.plain 10]) (.q (.r [.plain 2]) .s)))))
def s159 (data0 a1 b2 c3 swaps4 : Value) (K : Value → World → Prop) (w : World) : Prop :=
 CallS Tryz.prog 163 [data0, a1, b2, swaps4].toArray (fun t16 w =>
 PureS (extractV 0 t16) fun t17 =>
 PureS (extractV 1 t16) fun t18 =>
 CallS Tryz.prog 163 [data0, t18, c3, swaps4].toArray (fun t24 w =>
 PureS (extractV 0 t24) fun t25 =>
 PureS (extractV 1 t24) fun t26 =>
 CallS Tryz.prog 163 [data0, t17, t25, swaps4].toArray (fun t32 w =>
 PureS (extractV 0 t32) fun t33 =>
 PureS (extractV 1 t32) fun t34 =>
 K t34 w
 ) w
 ) w
 ) w
theorem s159_den (data0 a1 b2 c3 swaps4 : Value) (K : Value → World → Prop) (w : World) : denFn Tryz.prog false (bodyOf Tryz.f159) Tryz.f159.results a159 [data0, a1, b2, c3, swaps4] K NoP w = s159 data0 a1 b2 c3 swaps4 K w := by kernel_rfl
theorem s159_dst : dstsOk (5 + 31) (bodyOf Tryz.f159) = true := by kernel_rfl
theorem s159_ann : annOk (bodyOf Tryz.f159) a159 = true := by kernel_rfl
theorem s159_call {data0 a1 b2 c3 swaps4 : Value} {K : Value → World → Prop} {w : World} (hm : Tryz.prog.follows .mixedOrders = true) (h : s159 data0 a1 b2 c3 swaps4 K w) : CallS Tryz.prog 159 #[data0, a1, b2, c3, swaps4] K w :=
  fn_call (args := [data0, a1, b2, c3, swaps4]) (m := 31) hm Tryz.func159 (by kernel_rfl) (rs := Tryz.f159.results) rfl Tryz.ntmps159 s159_dst s159_ann (by rw [s159_den]; exact h)

def a160 : Ann :=
 (.q (.r [.plain 1]) (.q (.r [.plain 4]) .s))
def s160 (x0 : Value) (K : Value → World → Prop) (w : World) : Prop :=
 PureS (binV .neq x0 x0) fun t5 =>
 K t5 w
theorem s160_den (x0 : Value) (K : Value → World → Prop) (w : World) : denFn Tryz.prog false (bodyOf Tryz.f160) Tryz.f160.results a160 [x0] K NoP w = s160 x0 K w := by kernel_rfl
theorem s160_dst : dstsOk (1 + 5) (bodyOf Tryz.f160) = true := by kernel_rfl
theorem s160_ann : annOk (bodyOf Tryz.f160) a160 = true := by kernel_rfl
theorem s160_call {x0 : Value} {K : Value → World → Prop} {w : World} (hm : Tryz.prog.follows .mixedOrders = true) (h : s160 x0 K w) : CallS Tryz.prog 160 #[x0] K w :=
  fn_call (args := [x0]) (m := 5) hm Tryz.func160 (by kernel_rfl) (rs := Tryz.f160.results) rfl Tryz.ntmps160 s160_dst s160_ann (by rw [s160_den]; exact h)

def a163 : Ann :=
 (.q (.r [.plain 2]) (.q (.q (.d [0, 0, 3, 7, 0, 0, 48, 112, 255] (.pur 0 (.pur 1 (.pur 2 (.pur 4 (.pur 5 (.pur 6 (.hld 3 (.hld 7 (.act 8 .fin)))))))))) (.c (.q (.r [.plain 6]) (.q (.r [.plain 4]) .s)) .s)) (.q (.r [.plain 4]) .s)))
def s163 (data0 a1 b2 swaps3 : Value) (K : Value → World → Prop) (w : World) : Prop :=
 DrawS fun S0 => S0 w.drew ∧ (
 PureS (indexAddrV 1 data0 b2) fun t12 =>
 PureS (indexAddrV 1 data0 a1) fun t16 =>
 HeldC S0 t12 (fun t13 =>
 HeldC S0 t16 (fun t17 =>
 CallS Tryz.prog 146 [t13, t17].toArray (fun t18 w =>
 CondS t18 (
 PureS (nilV swaps3) fun t20 =>
 LoadC t20 (fun t21 w =>
 PureS (binV .add t21 (Value.int .i64 1)) fun t22 =>
 PureS (nilV swaps3) fun t23 =>
 StoreC t23 t22 (fun w =>
 K (Value.tuple [b2, a1].toArray) w
 ) w
 ) w
 ) (
 K (Value.tuple [a1, b2].toArray) w
 )
 ) w.drew
 )
 )
 )
theorem s163_den (data0 a1 b2 swaps3 : Value) (K : Value → World → Prop) (w : World) : denFn Tryz.prog false (bodyOf Tryz.f163) Tryz.f163.results a163 [data0, a1, b2, swaps3] K NoP w = s163 data0 a1 b2 swaps3 K w := by kernel_rfl
theorem s163_dst : dstsOk (4 + 24) (bodyOf Tryz.f163) = true := by kernel_rfl
theorem s163_ann : annOk (bodyOf Tryz.f163) a163 = true := by kernel_rfl
theorem s163_call {data0 a1 b2 swaps3 : Value} {K : Value → World → Prop} {w : World} (hm : Tryz.prog.follows .mixedOrders = true) (h : s163 data0 a1 b2 swaps3 K w) : CallS Tryz.prog 163 #[data0, a1, b2, swaps3] K w :=
  fn_call (args := [data0, a1, b2, swaps3]) (m := 24) hm Tryz.func163 (by kernel_rfl) (rs := Tryz.f163.results) rfl Tryz.ntmps163 s163_dst s163_ann (by rw [s163_den]; exact h)
end Go.Proofs.YthohdinjpkehpaaGreat

namespace Go.Proofs.YthohdinjpkehpaaGreat
open Go SG Go.RowKit Go.Lib
set_option linter.unusedVariables false
set_option maxRecDepth 4000

theorem hm : Tryz.prog.follows .mixedOrders = true := Checked.mixed Tryz.checked
end Go.Proofs.YthohdinjpkehpaaGreat

namespace SG
open Go Go.RowKit Go.Lib
set_option linter.unusedSimpArgs false
set_option linter.unusedVariables false

section
variable {β : Type}
def swp (xs : List β) (i j : Nat) : List β := match xs[i]?, xs[j]? with
  | some u, some v => (xs.set i v).set j u
  | _, _ => xs
theorem swp_length (xs : List β) (i j : Nat) : (swp xs i j).length = xs.length := by
  unfold swp
  split <;> simp
theorem swp_get {xs : List β} {i j : Nat} (hi : i < xs.length) (hj : j < xs.length) (k : Nat) : (swp xs i j)[k]? = if k = j then xs[i]? else if k = i then xs[j]? else xs[k]? := by
  have h1 : xs[i]? = some xs[i] := List.getElem?_eq_getElem hi
  have h2 : xs[j]? = some xs[j] := List.getElem?_eq_getElem hj
  unfold swp
  rw [h1, h2]
  simp only
  rw [List.getElem?_set]
  by_cases hkj : k = j
  · subst hkj
    rw [if_pos rfl, if_pos rfl, if_pos (by simpa using hj)]
  · rw [if_neg (Ne.symm hkj), if_neg hkj, List.getElem?_set]
    by_cases hki : k = i
    · subst hki
      rw [if_pos rfl, if_pos rfl, if_pos hi]
    · rw [if_neg (Ne.symm hki), if_neg hki]
theorem swp_perm (xs : List β) (i j : Nat) : (swp xs i j).Perm xs := by
  classical
  unfold swp
  split
  · rename_i u v hu hv
    rw [List.perm_iff_count]
    intro a
    have hi := (List.getElem?_eq_some_iff.1 hu).1
    have hj := (List.getElem?_eq_some_iff.1 hv).1
    have eu := (List.getElem?_eq_some_iff.1 hu).2
    have ev := (List.getElem?_eq_some_iff.1 hv).2
    rw [List.count_set (by simpa using hj), List.count_set hi]
    have hgj : (xs.set i v)[j]'(by simpa using hj) = v := by
      by_cases hij : i = j
      · subst hij; simp
      · rw [List.getElem_set_ne hij]; exact ev
    rw [hgj, eu]
    by_cases h1 : u = a <;> by_cases h2 : v = a <;> simp [h1, h2]
    · subst h1
      have : 0 < List.count u xs := List.count_pos_iff.2 (List.mem_of_getElem? hu)
      omega
    · subst h1
      have : 0 < List.count u xs := List.count_pos_iff.2 (List.mem_of_getElem? hu)
      omega
  · exact List.Perm.refl _
inductive Sw (a b : Nat) (xs : List β) : List β → Prop
  | refl : Sw a b xs xs
  | step {ys : List β} (i j : Nat) : a ≤ i → i < b → a ≤ j → j < b → b ≤ xs.length → Sw a b xs ys → Sw a b xs (swp ys i j)
namespace Sw
variable {a b : Nat} {xs ys zs : List β}
theorem len (h : Sw a b xs ys) : ys.length = xs.length := by
  induction h with
  | refl => rfl
  | step i j _ _ _ _ _ _ ih => rw [swp_length, ih]
theorem trans (h : Sw a b xs ys) (k : Sw a b ys zs) : Sw a b xs zs := by
  induction k with
  | refl => exact h
  | step i j h1 h2 h3 h4 h5 _ ih => exact .step i j h1 h2 h3 h4 (by rw [h.len] at h5; exact h5) ih
theorem mono {a' b' : Nat} (h : Sw a b xs ys) (ha : a' ≤ a) (hb : b ≤ b') (hl : b' ≤ xs.length) : Sw a' b' xs ys := by
  induction h with
  | refl => exact .refl
  | step i j h1 h2 h3 h4 _ _ ih => exact .step i j (by omega) (by omega) (by omega) (by omega) hl ih
theorem out (h : Sw a b xs ys) {k : Nat} (hk : k < a ∨ b ≤ k) : ys[k]? = xs[k]? := by
  induction h with
  | refl => rfl
  | step i j h1 h2 h3 h4 h5 h6 ih =>
    have := h6.len
    rw [swp_get (by omega) (by omega), if_neg (by omega), if_neg (by omega), ih]
theorem perm (h : Sw a b xs ys) : ys.Perm xs := by
  induction h with
  | refl => exact List.Perm.refl _
  | step i j _ _ _ _ _ _ ih => exact (swp_perm _ _ _).trans ih
theorem all {P : β → Prop} (h : Sw a b xs ys) (hP : ∀ k u, a ≤ k → k < b → xs[k]? = some u → P u) : ∀ k u, a ≤ k → k < b → ys[k]? = some u → P u := by
  induction h with
  | refl => exact hP
  | step i j h1 h2 h3 h4 h5 h6 ih =>
    intro k u hk1 hk2 hu
    have := h6.len
    rw [swp_get (by omega) (by omega)] at hu
    split at hu
    · exact ih i u h1 h2 hu
    · split at hu
      · exact ih j u h3 h4 hu
      · exact ih k u hk1 hk2 hu
theorem one {i j : Nat} (h1 : a ≤ i) (h2 : i < b) (h3 : a ≤ j) (h4 : j < b) (h5 : b ≤ xs.length) : Sw a b xs (swp xs i j) := .step i j h1 h2 h3 h4 h5 .refl
end Sw

structure Lin (lt : β → β → Bool) : Prop where
  irr : ∀ x, lt x x = false
  tr : ∀ x y z, lt x y = true → lt y z = true → lt x z = true
  tri : ∀ x y, lt x y = false → lt y x = false → x = y
namespace Lin
variable {lt : β → β → Bool}
theorem asym (h : Lin lt) {x y : β} (hxy : lt x y = true) : lt y x = false := by
  cases hyx : lt y x with
  | false => rfl
  | true => have := h.tr _ _ _ hxy hyx; rw [h.irr] at this; cases this
theorem le_tr (h : Lin lt) {x y z : β} (h1 : lt y x = false) (h2 : lt z y = false) : lt z x = false := by
  cases hzx : lt z x with
  | false => rfl
  | true =>
    cases hxy : lt x y with
    | true => have := h.tr _ _ _ hzx hxy; rw [h2] at this; cases this
    | false =>
      have := h.tri x y hxy h1
      subst this
      rw [h2] at hzx; cases hzx
end Lin
def Srt (lt : β → β → Bool) (a b : Nat) (xs : List β) : Prop := ∀ i j u v, a ≤ i → i < j → j < b → xs[i]? = some u → xs[j]? = some v → lt v u = false
def LeAll (lt : β → β → Bool) (a b c d : Nat) (xs : List β) : Prop := ∀ i j u v, a ≤ i → i < b → c ≤ j → j < d → xs[i]? = some u → xs[j]? = some v → lt v u = false
theorem Srt.nil {lt : β → β → Bool} {a b : Nat} {xs : List β} (h : b ≤ a + 1) : Srt lt a b xs := fun i j u v h1 h2 h3 => by omega
theorem Srt.same {lt : β → β → Bool} {a b : Nat} {xs ys : List β} (h : Srt lt a b xs) (hs : ∀ k, a ≤ k → k < b → ys[k]? = xs[k]?) : Srt lt a b ys := fun i j u v h1 h2 h3 hu hv =>
  h i j u v h1 h2 h3 (by rw [← hs i h1 (by omega)]; exact hu) (by rw [← hs j (by omega) h3]; exact hv)
theorem Srt.join {lt : β → β → Bool} {a m b : Nat} {xs : List β} (h1 : Srt lt a m xs) (h2 : Srt lt m b xs) (h3 : LeAll lt a m m b xs) : Srt lt a b xs := fun i j u v k1 k2 k3 hu hv => by
  by_cases hj : j < m
  · exact h1 i j u v k1 k2 hj hu hv
  · by_cases hi : i < m
    · exact h3 i j u v k1 hi (by omega) k3 hu hv
    · exact h2 i j u v (by omega) k2 k3 hu hv
theorem LeAll.same {lt : β → β → Bool} {a b c d : Nat} {xs ys : List β} (h : LeAll lt a b c d xs) (h1 : ∀ k, a ≤ k → k < b → ys[k]? = xs[k]?) (h2 : ∀ k, c ≤ k → k < d → ys[k]? = xs[k]?) : LeAll lt a b c d ys := fun i j u v k1 k2 k3 k4 hu hv =>
  h i j u v k1 k2 k3 k4 (by rw [← h1 i k1 k2]; exact hu) (by rw [← h2 j k3 k4]; exact hv)
theorem LeAll.right {lt : β → β → Bool} {a b c d : Nat} {xs ys : List β} (h : LeAll lt a b c d xs) (hs : Sw c d xs ys) (hbc : b ≤ c ∨ d ≤ a) : LeAll lt a b c d ys := fun i j u v k1 k2 k3 k4 hu hv => by
  rw [hs.out (by omega)] at hu
  exact hs.all (P := fun v => lt v u = false) (fun k w hk1 hk2 hw => h i k u w k1 k2 hk1 hk2 hu hw) j v k3 k4 hv
theorem LeAll.left {lt : β → β → Bool} {a b c d : Nat} {xs ys : List β} (h : LeAll lt a b c d xs) (hs : Sw a b xs ys) (hbc : b ≤ c ∨ d ≤ a) : LeAll lt a b c d ys := fun i j u v k1 k2 k3 k4 hu hv => by
  rw [hs.out (by omega)] at hv
  exact hs.all (P := fun u => lt v u = false) (fun k w hk1 hk2 hw => h k j w v hk1 hk2 k3 k4 hw hv) i u k1 k2 hu
def Asc (lt : β → β → Bool) (xs : List β) : Prop := xs.Pairwise fun u v => lt v u = false
theorem Srt.asc {lt : β → β → Bool} {xs : List β} (h : Srt lt 0 xs.length xs) : Asc lt xs := by
  unfold Asc
  rw [List.pairwise_iff_getElem]
  intro i j hi hj hij
  exact h i j _ _ (by omega) hij hj (List.getElem?_eq_getElem hi) (List.getElem?_eq_getElem hj)
end
end SG

namespace SG
open Go Go.RowKit Go.Lib
set_option linter.unusedSimpArgs false
set_option linter.unusedVariables false

section
variable {β : Type}
structure Lcn (β : Type) where
  g : Nat
  t : TypeId
  pre : List Value
  post : List Value
  enc : β → Value
  n : Nat
  cap : Nat
  one : ∀ x, (enc x).oneCell' = true
  big : n ≤ 4611686018427387904
def Lcn.v (L : Lcn β) : Value := .slice (some ⟨L.g, L.pre.length, none⟩) L.n L.cap
structure Dt (L : Lcn β) (w : World) (xs : List β) : Prop where
  blk : Blk w L.g L.t (L.pre ++ xs.map L.enc ++ L.post)
  len : xs.length = L.n
namespace Dt
variable {L : Lcn β} {w w' : World} {xs : List β} {S : Nat → Prop}
theorem ext (h : Dt L w xs) (e : Ext S w w') (hn : ¬ S L.g) : Dt L w' xs := ⟨h.blk.ext e hn, h.len⟩
theorem no (h : Dt L w xs) (e : Ext No w w') : Dt L w' xs := h.ext e fun h => h
theorem drew (h : Dt L w xs) : Dt L w.drew xs := h.no (Ext.drew w)
theorem idx (h : Dt L w xs) {i : Nat} (hi : i < L.n) : indexAddrV 1 L.v (.int .i64 (i : Int)) = some (.pointer (some ⟨L.g, L.pre.length + i, none⟩)) := by
  unfold Lcn.v
  rw [index_sl ⟨by omega, by omega⟩, Addr.add_mk]
  simp
theorem cell (h : Dt L w xs) {i : Nat} {x : β} (hx : xs[i]? = some x) : w.cell? ⟨L.g, L.pre.length + i, none⟩ = some (L.enc x) := by
  have hi : i < xs.length := (List.getElem?_eq_some_iff.1 hx).1
  rw [h.blk.cell, List.append_assoc, List.getElem?_append_right (by omega), show L.pre.length + i - L.pre.length = i by omega, List.getElem?_append_left (by simpa using hi)]
  simp [hx]
theorem store (h : Dt L w xs) {i : Nat} {x : β} (hi : i < L.n) {K : World → Prop} (hK : ∀ w', Dt L w' (xs.set i x) → Ext (At1 L.g) w w' → w'.heap.size = w.heap.size → K w') : StoreC (.pointer (some ⟨L.g, L.pre.length + i, none⟩)) (L.enc x) K w := by
  have hl := h.len
  refine storeB h.blk (by simp; omega) (L.one x) fun w' b e z => hK w' ⟨?_, by simpa using hl⟩ e z
  have : (L.pre ++ xs.map L.enc ++ L.post).set (L.pre.length + i) (L.enc x) = L.pre ++ (xs.set i x).map L.enc ++ L.post := by
    rw [List.append_assoc, List.set_append_right _ _ (by omega), show L.pre.length + i - L.pre.length = i by omega, List.set_append_left _ _ (by simpa using (by omega : i < xs.length)), List.map_set, ← List.append_assoc]
  rw [this] at b
  exact b
theorem swap (h : Dt L w xs) {i j : Nat} {u v : β} (hu : xs[i]? = some u) (hv : xs[j]? = some v) {K : World → Prop} (hK : ∀ w', Dt L w' (swp xs i j) → Ext (At1 L.g) w w' → K w') :
    PureS (indexAddrV 1 L.v (.int .i64 (i : Int))) fun t => StoreC t (L.enc v) (fun w => PureS (indexAddrV 1 L.v (.int .i64 (j : Int))) fun t => StoreC t (L.enc u) K w) w := by
  have hi := (List.getElem?_eq_some_iff.1 hu).1
  have hj := (List.getElem?_eq_some_iff.1 hv).1
  have hl := h.len
  refine pur (h.idx (by omega)) (h.store (by omega) fun w1 h1 e1 z1 => pur (h1.idx (by omega)) (h1.store (by omega) fun w2 h2 e2 z2 => hK w2 ?_ (e1.trans e2)))
  have : swp xs i j = (xs.set i v).set j u := by unfold swp; rw [hu, hv]
  rw [this]; exact h2
end Dt
theorem getN {xs : List β} {i : Nat} (h : i < xs.length) : ∃ x, xs[i]? = some x := ⟨_, List.getElem?_eq_getElem h⟩
end
end SG

namespace Go.Proofs.YthohdinjpkehpaaGreat
open Go SG Go.RowKit Go.Lib
set_option linter.unusedVariables false
set_option maxRecDepth 4000

abbrev El := List UInt8
def encE (x : El) : Value := .string ⟨x.toArray⟩
theorem str_toList (x : El) : (⟨x.toArray⟩ : ByteArray).toList = x := by rw [ByteArray.toList_eq]
theorem encE_of (s : ByteArray) : Value.string s = encE s.data.toList := by unfold encE; rw [Lib.mk_data]
def ltE (x y : El) : Bool := Op.bytesLess x y
theorem lt_irr : ∀ (x : El), ltE x x = false
  | [] => rfl
  | a :: x => by
    have := lt_irr x
    unfold ltE at this ⊢
    simp [Op.bytesLess, this]
theorem lt_cons (a b : UInt8) (x y : El) : ltE (a :: x) (b :: y) = true ↔ a < b ∨ a = b ∧ ltE x y = true := by
  unfold ltE; simp [Op.bytesLess]
theorem lt_trans : ∀ {x y z : El}, ltE x y = true → ltE y z = true → ltE x z = true
  | _, [], _, h, _ => by unfold ltE at h; cases ‹El› <;> simp [Op.bytesLess] at h
  | _, _ :: _, [], _, h => by unfold ltE at h; simp [Op.bytesLess] at h
  | [], _ :: _, _ :: _, _, _ => rfl
  | a :: x, b :: y, c :: z, h, k => by
    rw [lt_cons] at h k ⊢
    rcases h with h | ⟨rfl, h⟩
    · rcases k with k | ⟨rfl, k⟩
      · exact .inl (UInt8.lt_trans h k)
      · exact .inl h
    · rcases k with k | ⟨rfl, k⟩
      · exact .inl k
      · exact .inr ⟨rfl, lt_trans h k⟩
theorem lt_tot : ∀ {x y : El}, ltE x y = false → ltE y x = false → x = y
  | [], [], _, _ => rfl
  | [], _ :: _, h, _ => by unfold ltE at h; simp [Op.bytesLess] at h
  | _ :: _, [], _, h => by unfold ltE at h; simp [Op.bytesLess] at h
  | a :: x, b :: y, h, k => by
    have h' : ¬ (a < b ∨ a = b ∧ ltE x y = true) := fun hh => by rw [(lt_cons a b x y).2 hh] at h; cases h
    have k' : ¬ (b < a ∨ b = a ∧ ltE y x = true) := fun hh => by rw [(lt_cons b a y x).2 hh] at k; cases k
    have hab : a = b := by
      rcases Nat.lt_trichotomy a.toNat b.toNat with hh | hh | hh
      · exact absurd (.inl (UInt8.lt_iff_toNat_lt.2 hh)) h'
      · exact UInt8.toNat_inj.1 hh
      · exact absurd (.inl (UInt8.lt_iff_toNat_lt.2 hh)) k'
    subst hab
    have h1 : ltE x y = false := by cases hh : ltE x y with | false => rfl | true => exact absurd (.inr ⟨rfl, hh⟩) h'
    have h2 : ltE y x = false := by cases hh : ltE y x with | false => rfl | true => exact absurd (.inr ⟨rfl, hh⟩) k'
    rw [lt_tot h1 h2]
theorem linE : Lin ltE := ⟨lt_irr, fun x y z => lt_trans, fun x y => lt_tot⟩
theorem eqE (x y : El) : binV .eql (encE x) (encE y) = some (.bool (decide (x = y))) := by
  refine (str_eql _ _).trans ?_
  rw [str_toList, str_toList]
  congr 2
  rw [Bool.eq_iff_iff, decide_eq_true_iff]; exact beq_iff_eq
theorem neE (x y : El) : binV .neq (encE x) (encE y) = some (.bool (!decide (x = y))) := by
  refine (str_neq _ _).trans ?_
  rw [str_toList, str_toList]
  congr 3
  rw [Bool.eq_iff_iff, decide_eq_true_iff]; exact beq_iff_eq
theorem lsE (x y : El) : binV .lss (encE x) (encE y) = some (.bool (ltE x y)) := by
  refine (str_lss _ _).trans ?_
  rw [str_toList, str_toList]; rfl
theorem geE (x y : El) : binV .geq (encE x) (encE y) = some (.bool (!ltE x y)) := by
  have : binV .geq (encE x) (encE y) = some (.bool (!(Op.bytesLess (⟨x.toArray⟩ : ByteArray).toList (⟨y.toArray⟩ : ByteArray).toList))) := rfl
  rw [this, str_toList, str_toList]; rfl
theorem cnan (x : El) {K : Value → World → Prop} {w : World} (hK : K (.bool false) w) : CallS Tryz.prog 160 #[encE x] K w := by
  refine s160_call hm ?_
  unfold s160
  exact pur (v := .bool false) ((neE x x).trans (by simp)) hK
theorem cless {x y : El} {K : Value → World → Prop} {w : World} (hK : K (.bool (ltE x y)) w) : CallS Tryz.prog 146 #[encE x, encE y] K w := by
  refine s146_call hm ?_
  unfold s146
  refine cnan x ?_
  refine join1 (fun a w' => w = w') ?_ fun J0 hJ0 => ?_
  · rintro a w' rfl
    refine pur (pick_b _ _ _) ?_
    rw [if_neg (by simp)]
    refine join1 (fun a w' => w = w' ∧ a = .bool (ltE x y)) ?_ fun J1 hJ1 => ?_
    · rintro a w' ⟨rfl, rfl⟩
      exact pur (pick_b _ _ _) hK
    · rw [ifB_eq, if_pos rfl]
      exact pur (lsE x y) (hJ1 _ _ ⟨rfl, rfl⟩)
  · rw [ifB_eq, if_neg (by simp)]
    exact hJ0 _ _ rfl
theorem TCE : ElemT Tryz.prog 61 9 1 16 (.string ⟨#[]⟩) := ⟨Tryz.underlying61, by kernel_rfl, rfl, by decide, by decide⟩
end Go.Proofs.YthohdinjpkehpaaGreat

