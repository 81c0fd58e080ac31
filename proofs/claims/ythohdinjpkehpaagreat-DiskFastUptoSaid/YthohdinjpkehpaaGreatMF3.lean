/- Several texts of ours, laid one behind the other. -/
import Derived.Test.YthohdinjpkehpaaGreatMF2
import Derived.Test.YthohdinjpkehpaaGreatProg
namespace Go.Proofs.YthohdinjpkehpaaGreat
set_option linter.unusedVariables false
set_option maxRecDepth 100000
open Go SG

def a62 : Ann :=
 (.q (.r [.plain 2]) (.q (.d [0, 1, 3, 7, 0, 16, 63, 127, 255, 255, 511, 2047] (.pur 0 (.pur 1 (.pur 2 (.pur 4 (.hld 3 (.hld 5 (.act 6 (.pur 7 (.pur 8 (.pur 9 (.pur 10 (.pur 11 .fin))))))))))))) (.q (.d [0, 1, 3, 7, 0, 16, 63, 127, 255, 255, 511, 2047] (.pur 0 (.pur 1 (.pur 2 (.pur 4 (.hld 3 (.hld 5 (.act 6 (.pur 7 (.pur 8 (.pur 9 (.pur 10 (.pur 11 .fin))))))))))))) (.q (.d [0, 1, 3, 7, 0, 16, 63, 127, 255, 255, 511, 2047] (.pur 0 (.pur 1 (.pur 2 (.pur 4 (.hld 3 (.hld 5 (.act 6 (.pur 7 (.pur 8 (.pur 9 (.pur 10 (.pur 11 .fin))))))))))))) (.q (.r [.plain 6, .grp 3 [53] 15762598695796736, .plain 2, .grp 4 [59] 1080863910568919040, .plain 2, .grp 3 [64] 32281802128991715328, .plain 2]) (.q (.r [.plain 2]) (.q (.d [0, 1, 3, 7, 0, 16, 0, 64, 0, 256, 1023, 2047, 4095, 4095, 8191, 32767] (.pur 0 (.pur 1 (.pur 2 (.pur 4 (.pur 6 (.pur 8 (.hld 3 (.hld 5 (.hld 7 (.hld 9 (.act 10 (.pur 11 (.pur 12 (.pur 13 (.pur 14 (.pur 15 .fin))))))))))))))))) (.q (.d [0, 1, 3, 7, 0, 16, 0, 64, 0, 256, 1023, 2047, 4095, 4095, 8191, 32767] (.pur 0 (.pur 1 (.pur 2 (.pur 4 (.pur 6 (.pur 8 (.hld 3 (.hld 5 (.hld 7 (.hld 9 (.act 10 (.pur 11 (.pur 12 (.pur 13 (.pur 14 (.pur 15 .fin))))))))))))))))) (.q (.r [.plain 2, .grp 5 [102] 9824292151768777861599449841664, .plain 2, .grp 3 [107] 283953734451123385935261518004224, .plain 2]) (.q (.r [.plain 2]) (.q (.d [0, 1, 3, 7, 0, 16, 63, 127, 255, 255, 511, 2047] (.pur 0 (.pur 1 (.pur 2 (.pur 4 (.hld 3 (.hld 5 (.act 6 (.pur 7 (.pur 8 (.pur 9 (.pur 10 (.pur 11 .fin))))))))))))) (.q (.d [0, 1, 3, 7, 0, 16, 63, 127, 255, 255, 511, 2047] (.pur 0 (.pur 1 (.pur 2 (.pur 4 (.hld 3 (.hld 5 (.act 6 (.pur 7 (.pur 8 (.pur 9 (.pur 10 (.pur 11 .fin))))))))))))) (.q (.r [.plain 2, .grp 3 [135] 76223250190290215815795912064716079366144, .plain 2, .grp 3 [140] 2439144006089286906105469186070914539716608, .plain 2]) (.q (.d [0, 1, 3, 7, 0, 16, 63, 127, 255, 255, 511, 2047] (.pur 0 (.pur 1 (.pur 2 (.pur 4 (.hld 3 (.hld 5 (.act 6 (.pur 7 (.pur 8 (.pur 9 (.pur 10 (.pur 11 .fin))))))))))))) (.q (.d [0, 1, 3, 7, 0, 16, 63, 127, 255, 255, 511, 2047] (.pur 0 (.pur 1 (.pur 2 (.pur 4 (.hld 3 (.hld 5 (.act 6 (.pur 7 (.pur 8 (.pur 9 (.pur 10 (.pur 11 .fin))))))))))))) (.q (.r [.plain 2, .grp 3 [166] 163688183381061126838812701264223698201464444813312, .plain 2, .grp 3 [171] 5238021868193956058842006440455158342446862234025984, .plain 2]) (.q (.d [0, 1, 3, 7, 0, 16, 63, 127, 255, 255, 511, 2047] (.pur 0 (.pur 1 (.pur 2 (.pur 4 (.hld 3 (.hld 5 (.act 6 (.pur 7 (.pur 8 (.pur 9 (.pur 10 (.pur 11 .fin))))))))))))) (.q (.d [0, 1, 3, 7, 0, 16, 63, 127, 255, 255, 511, 2047] (.pur 0 (.pur 1 (.pur 2 (.pur 4 (.hld 3 (.hld 5 (.act 6 (.pur 7 (.pur 8 (.pur 9 (.pur 10 (.pur 11 .fin))))))))))))) (.q (.d [0, 1, 3, 3, 15, 31, 63, 127, 127, 511, 1023, 2047, 4095, 8191, 16383, 32767, 4095, 69631, 4095, 266239, 1048575, 4095, 2101247, 6295551, 14684159, 4095, 33558527, 4095, 134221823, 536870911, 1073741823, 2147483647, 4294967295] (.pur 0 (.pur 1 (.ite 1 (.pur 2 (.pur 3 (.pur 4 (.pur 5 (.pur 6 (.ite 6 (.pur 7 (.pur 8 (.pur 9 (.pur 10 (.pur 11 (.ite 11 (.pur 12 (.pur 13 (.pur 14 (.pur 16 (.pur 18 (.pur 21 (.pur 22 (.pur 23 (.pur 25 (.pur 27 (.hld 15 (.hld 17 (.hld 19 (.hld 24 (.hld 26 (.hld 28 (.act 20 (.act 29 (.pur 30 (.pur 31 (.pur 32 .fin))))))))))))))))))))) (.skp 12 (.skp 13 (.skp 14 (.skp 15 (.skp 16 (.skp 17 (.skp 18 (.skp 19 (.skp 20 (.skp 21 (.skp 22 (.skp 23 (.skp 24 (.skp 25 (.skp 26 (.skp 27 (.skp 28 (.skp 29 (.skp 30 (.pur 31 (.pur 32 .fin))))))))))))))))))))))))))) (.skp 7 (.skp 8 (.skp 9 (.pur 10 (.pur 11 (.ite 11 (.pur 12 (.pur 13 (.pur 14 (.pur 16 (.pur 18 (.pur 21 (.pur 22 (.pur 23 (.pur 25 (.pur 27 (.hld 15 (.hld 17 (.hld 19 (.hld 24 (.hld 26 (.hld 28 (.act 20 (.act 29 (.pur 30 (.pur 31 (.pur 32 .fin))))))))))))))))))))) (.skp 12 (.skp 13 (.skp 14 (.skp 15 (.skp 16 (.skp 17 (.skp 18 (.skp 19 (.skp 20 (.skp 21 (.skp 22 (.skp 23 (.skp 24 (.skp 25 (.skp 26 (.skp 27 (.skp 28 (.skp 29 (.skp 30 (.pur 31 (.pur 32 .fin))))))))))))))))))))))))))))))))) (.skp 2 (.skp 3 (.skp 4 (.pur 5 (.pur 6 (.ite 6 (.pur 7 (.pur 8 (.pur 9 (.pur 10 (.pur 11 (.ite 11 (.pur 12 (.pur 13 (.pur 14 (.pur 16 (.pur 18 (.pur 21 (.pur 22 (.pur 23 (.pur 25 (.pur 27 (.hld 15 (.hld 17 (.hld 19 (.hld 24 (.hld 26 (.hld 28 (.act 20 (.act 29 (.pur 30 (.pur 31 (.pur 32 .fin))))))))))))))))))))) (.skp 12 (.skp 13 (.skp 14 (.skp 15 (.skp 16 (.skp 17 (.skp 18 (.skp 19 (.skp 20 (.skp 21 (.skp 22 (.skp 23 (.skp 24 (.skp 25 (.skp 26 (.skp 27 (.skp 28 (.skp 29 (.skp 30 (.pur 31 (.pur 32 .fin))))))))))))))))))))))))))) (.skp 7 (.skp 8 (.skp 9 (.pur 10 (.pur 11 (.ite 11 (.pur 12 (.pur 13 (.pur 14 (.pur 16 (.pur 18 (.pur 21 (.pur 22 (.pur 23 (.pur 25 (.pur 27 (.hld 15 (.hld 17 (.hld 19 (.hld 24 (.hld 26 (.hld 28 (.act 20 (.act 29 (.pur 30 (.pur 31 (.pur 32 .fin))))))))))))))))))))) (.skp 12 (.skp 13 (.skp 14 (.skp 15 (.skp 16 (.skp 17 (.skp 18 (.skp 19 (.skp 20 (.skp 21 (.skp 22 (.skp 23 (.skp 24 (.skp 25 (.skp 26 (.skp 27 (.skp 28 (.skp 29 (.skp 30 (.pur 31 (.pur 32 .fin))))))))))))))))))))))))))))))))))))) .s)))))))))))))))))))
def s62 (x0 a1 : Value) (K : Value → World → Prop) (w : World) : Prop :=
 BoxS 45 a1 (fun a3 w =>
 DrawS fun S0 => S0 w.drew ∧ (
 PureS (nilV x0) fun t17 =>
 PureS (fieldAddrV 0 t17) fun t18 =>
 PureS (fieldAddrV 1 a3) fun t20 =>
 HeldC S0 t18 (fun t19 =>
 HeldC S0 t20 (fun t21 =>
 CallS Tryz.prog 24 [t19, t21].toArray (fun t22 w =>
 PureS (extractV 0 t22) fun t23 =>
 PureS (extractV 1 t22) fun t24 =>
 DrawS fun S1 => S1 w.drew ∧ (
 PureS (nilV x0) fun t27 =>
 PureS (fieldAddrV 1 t27) fun t28 =>
 PureS (fieldAddrV 1 a3) fun t30 =>
 HeldC S1 t28 (fun t29 =>
 HeldC S1 t30 (fun t31 =>
 CallS Tryz.prog 110 [t29, t31].toArray (fun t32 w =>
 PureS (extractV 0 t32) fun t33 =>
 PureS (extractV 1 t32) fun t34 =>
 DrawS fun S2 => S2 w.drew ∧ (
 PureS (nilV x0) fun t37 =>
 PureS (fieldAddrV 0 t37) fun t38 =>
 PureS (fieldAddrV 1 a3) fun t40 =>
 HeldC S2 t38 (fun t39 =>
 HeldC S2 t40 (fun t41 =>
 CallS Tryz.prog 111 [t39, t41].toArray (fun t42 w =>
 PureS (extractV 0 t42) fun t43 =>
 PureS (extractV 1 t42) fun t44 =>
 RunS Tryz.prog (convert 34 9 t23) (fun t46 w =>
 RunS Tryz.prog (convert 34 9 t33) (fun t48 w =>
 PureS (binV .eql t46 t48) fun t49 =>
 JoinS (fun (t53 : Value) (w : World) =>
 PureS (pickV t49 t53 (Value.bool false)) fun t54 =>
 JoinS (fun (t59 : Value) (w : World) =>
 PureS (pickV t54 t59 (Value.bool false)) fun t60 =>
 JoinS (fun (t64 : Value) (w : World) =>
 PureS (pickV t60 t64 (Value.bool false)) fun t65 =>
 CallS Tryz.prog 70 [t23].toArray (fun t67 w =>
 DrawS fun S6 => S6 w.drew ∧ (
 PureS (nilV x0) fun t70 =>
 PureS (fieldAddrV 0 t70) fun t71 =>
 PureS (fieldAddrV 1 a3) fun t73 =>
 PureS (fieldAddrV 4 a3) fun t75 =>
 PureS (fieldAddrV 5 a3) fun t77 =>
 HeldC S6 t71 (fun t72 =>
 HeldC S6 t73 (fun t74 =>
 HeldC S6 t75 (fun t76 =>
 HeldC S6 t77 (fun t78 =>
 CallS Tryz.prog 112 [t72, t74, t76, t78].toArray (fun t79 w =>
 PureS (extractV 0 t79) fun t80 =>
 PureS (extractV 1 t79) fun t81 =>
 DrawS fun S7 => S7 w.drew ∧ (
 PureS (nilV x0) fun t84 =>
 PureS (fieldAddrV 1 t84) fun t85 =>
 PureS (fieldAddrV 1 a3) fun t87 =>
 PureS (fieldAddrV 4 a3) fun t89 =>
 PureS (fieldAddrV 5 a3) fun t91 =>
 HeldC S7 t85 (fun t86 =>
 HeldC S7 t87 (fun t88 =>
 HeldC S7 t89 (fun t90 =>
 HeldC S7 t91 (fun t92 =>
 CallS Tryz.prog 113 [t86, t88, t90, t92].toArray (fun t93 w =>
 PureS (extractV 0 t93) fun t94 =>
 PureS (extractV 1 t93) fun t95 =>
 JoinS (fun (t102 : Value) (w : World) =>
 PureS (pickV t65 t102 (Value.bool false)) fun t103 =>
 JoinS (fun (t107 : Value) (w : World) =>
 PureS (pickV t103 t107 (Value.bool false)) fun t108 =>
 CallS Tryz.prog 70 [t80].toArray (fun t110 w =>
 DrawS fun S10 => S10 w.drew ∧ (
 PureS (nilV x0) fun t113 =>
 PureS (fieldAddrV 0 t113) fun t114 =>
 PureS (fieldAddrV 1 a3) fun t116 =>
 HeldC S10 t114 (fun t115 =>
 HeldC S10 t116 (fun t117 =>
 CallS Tryz.prog 114 [t115, t117].toArray (fun t118 w =>
 PureS (extractV 0 t118) fun t119 =>
 PureS (extractV 1 t118) fun t120 =>
 DrawS fun S11 => S11 w.drew ∧ (
 PureS (nilV x0) fun t123 =>
 PureS (fieldAddrV 1 t123) fun t124 =>
 PureS (fieldAddrV 1 a3) fun t126 =>
 HeldC S11 t124 (fun t125 =>
 HeldC S11 t126 (fun t127 =>
 CallS Tryz.prog 115 [t125, t127].toArray (fun t128 w =>
 PureS (extractV 0 t128) fun t129 =>
 PureS (extractV 1 t128) fun t130 =>
 JoinS (fun (t135 : Value) (w : World) =>
 PureS (pickV t108 t135 (Value.bool false)) fun t136 =>
 JoinS (fun (t140 : Value) (w : World) =>
 PureS (pickV t136 t140 (Value.bool false)) fun t141 =>
 DrawS fun S14 => S14 w.drew ∧ (
 PureS (nilV x0) fun t144 =>
 PureS (fieldAddrV 0 t144) fun t145 =>
 PureS (fieldAddrV 1 a3) fun t147 =>
 HeldC S14 t145 (fun t146 =>
 HeldC S14 t147 (fun t148 =>
 CallS Tryz.prog 116 [t146, t148].toArray (fun t149 w =>
 PureS (extractV 0 t149) fun t150 =>
 PureS (extractV 1 t149) fun t151 =>
 DrawS fun S15 => S15 w.drew ∧ (
 PureS (nilV x0) fun t154 =>
 PureS (fieldAddrV 1 t154) fun t155 =>
 PureS (fieldAddrV 1 a3) fun t157 =>
 HeldC S15 t155 (fun t156 =>
 HeldC S15 t157 (fun t158 =>
 CallS Tryz.prog 117 [t156, t158].toArray (fun t159 w =>
 PureS (extractV 0 t159) fun t160 =>
 PureS (extractV 1 t159) fun t161 =>
 JoinS (fun (t166 : Value) (w : World) =>
 PureS (pickV t141 t166 (Value.bool false)) fun t167 =>
 JoinS (fun (t171 : Value) (w : World) =>
 PureS (pickV t167 t171 (Value.bool false)) fun t172 =>
 DrawS fun S18 => S18 w.drew ∧ (
 PureS (nilV x0) fun t175 =>
 PureS (fieldAddrV 0 t175) fun t176 =>
 PureS (fieldAddrV 1 a3) fun t178 =>
 HeldC S18 t176 (fun t177 =>
 HeldC S18 t178 (fun t179 =>
 CallS Tryz.prog 67 [t177, t179].toArray (fun t180 w =>
 PureS (extractV 0 t180) fun t181 =>
 PureS (extractV 1 t180) fun t182 =>
 DrawS fun S19 => S19 w.drew ∧ (
 PureS (nilV x0) fun t185 =>
 PureS (fieldAddrV 1 t185) fun t186 =>
 PureS (fieldAddrV 1 a3) fun t188 =>
 HeldC S19 t186 (fun t187 =>
 HeldC S19 t188 (fun t189 =>
 CallS Tryz.prog 68 [t187, t189].toArray (fun t190 w =>
 PureS (extractV 0 t190) fun t191 =>
 PureS (extractV 1 t190) fun t192 =>
 DrawS fun S20 => S20 w.drew ∧ (
 CondS t172 (
 PureS (binV .eql t181 t191) fun t197 =>
 PureS (pickV (Value.bool true) t197 (Value.bool false)) fun t198 =>
 CondS t198 (
 PureS (binV .eql t182 t192) fun t202 =>
 PureS (pickV (Value.bool true) t202 (Value.bool false)) fun t203 =>
 CondS t203 (
 PureS (nilV x0) fun t206 =>
 PureS (fieldAddrV 0 t206) fun t207 =>
 PureS (fieldAddrV 1 a3) fun t209 =>
 PureS (fieldAddrV 2 a3) fun t211 =>
 PureS (nilV x0) fun t215 =>
 PureS (fieldAddrV 1 t215) fun t216 =>
 PureS (fieldAddrV 1 a3) fun t218 =>
 PureS (fieldAddrV 2 a3) fun t220 =>
 HeldC S20 t207 (fun t208 =>
 HeldC S20 t209 (fun t210 =>
 HeldC S20 t211 (fun t212 =>
 HeldC S20 t216 (fun t217 =>
 HeldC S20 t218 (fun t219 =>
 HeldC S20 t220 (fun t221 =>
 CallS Tryz.prog 118 [t208, t210, t212].toArray (fun t213 w =>
 S20 w ∧ (
 CallS Tryz.prog 119 [t217, t219, t221].toArray (fun t222 w =>
 PureS (boolV .eql t213 t222) fun t223 =>
 PureS (pickV (Value.bool true) t223 (Value.bool false)) fun t224 =>
 K t224 w
 ) w
 )
 ) w.drew
 )
 )
 )
 )
 )
 )
 ) (
 PureS (pickV (Value.bool false) undef (Value.bool false)) fun t224_1 =>
 K t224_1 w.drew
 )
 ) (
 PureS (pickV (Value.bool false) undef (Value.bool false)) fun t203_1 =>
 CondS t203_1 (
 PureS (nilV x0) fun t206_1 =>
 PureS (fieldAddrV 0 t206_1) fun t207_1 =>
 PureS (fieldAddrV 1 a3) fun t209_1 =>
 PureS (fieldAddrV 2 a3) fun t211_1 =>
 PureS (nilV x0) fun t215_1 =>
 PureS (fieldAddrV 1 t215_1) fun t216_1 =>
 PureS (fieldAddrV 1 a3) fun t218_1 =>
 PureS (fieldAddrV 2 a3) fun t220_1 =>
 HeldC S20 t207_1 (fun t208_1 =>
 HeldC S20 t209_1 (fun t210_1 =>
 HeldC S20 t211_1 (fun t212_1 =>
 HeldC S20 t216_1 (fun t217_1 =>
 HeldC S20 t218_1 (fun t219_1 =>
 HeldC S20 t220_1 (fun t221_1 =>
 CallS Tryz.prog 118 [t208_1, t210_1, t212_1].toArray (fun t213_1 w =>
 S20 w ∧ (
 CallS Tryz.prog 119 [t217_1, t219_1, t221_1].toArray (fun t222_1 w =>
 PureS (boolV .eql t213_1 t222_1) fun t223_1 =>
 PureS (pickV (Value.bool true) t223_1 (Value.bool false)) fun t224_2 =>
 K t224_2 w
 ) w
 )
 ) w.drew
 )
 )
 )
 )
 )
 )
 ) (
 PureS (pickV (Value.bool false) undef (Value.bool false)) fun t224_3 =>
 K t224_3 w.drew
 )
 )
 ) (
 PureS (pickV (Value.bool false) undef (Value.bool false)) fun t198_1 =>
 CondS t198_1 (
 PureS (binV .eql t182 t192) fun t202_1 =>
 PureS (pickV (Value.bool true) t202_1 (Value.bool false)) fun t203_2 =>
 CondS t203_2 (
 PureS (nilV x0) fun t206_2 =>
 PureS (fieldAddrV 0 t206_2) fun t207_2 =>
 PureS (fieldAddrV 1 a3) fun t209_2 =>
 PureS (fieldAddrV 2 a3) fun t211_2 =>
 PureS (nilV x0) fun t215_2 =>
 PureS (fieldAddrV 1 t215_2) fun t216_2 =>
 PureS (fieldAddrV 1 a3) fun t218_2 =>
 PureS (fieldAddrV 2 a3) fun t220_2 =>
 HeldC S20 t207_2 (fun t208_2 =>
 HeldC S20 t209_2 (fun t210_2 =>
 HeldC S20 t211_2 (fun t212_2 =>
 HeldC S20 t216_2 (fun t217_2 =>
 HeldC S20 t218_2 (fun t219_2 =>
 HeldC S20 t220_2 (fun t221_2 =>
 CallS Tryz.prog 118 [t208_2, t210_2, t212_2].toArray (fun t213_2 w =>
 S20 w ∧ (
 CallS Tryz.prog 119 [t217_2, t219_2, t221_2].toArray (fun t222_2 w =>
 PureS (boolV .eql t213_2 t222_2) fun t223_2 =>
 PureS (pickV (Value.bool true) t223_2 (Value.bool false)) fun t224_4 =>
 K t224_4 w
 ) w
 )
 ) w.drew
 )
 )
 )
 )
 )
 )
 ) (
 PureS (pickV (Value.bool false) undef (Value.bool false)) fun t224_5 =>
 K t224_5 w.drew
 )
 ) (
 PureS (pickV (Value.bool false) undef (Value.bool false)) fun t203_3 =>
 CondS t203_3 (
 PureS (nilV x0) fun t206_3 =>
 PureS (fieldAddrV 0 t206_3) fun t207_3 =>
 PureS (fieldAddrV 1 a3) fun t209_3 =>
 PureS (fieldAddrV 2 a3) fun t211_3 =>
 PureS (nilV x0) fun t215_3 =>
 PureS (fieldAddrV 1 t215_3) fun t216_3 =>
 PureS (fieldAddrV 1 a3) fun t218_3 =>
 PureS (fieldAddrV 2 a3) fun t220_3 =>
 HeldC S20 t207_3 (fun t208_3 =>
 HeldC S20 t209_3 (fun t210_3 =>
 HeldC S20 t211_3 (fun t212_3 =>
 HeldC S20 t216_3 (fun t217_3 =>
 HeldC S20 t218_3 (fun t219_3 =>
 HeldC S20 t220_3 (fun t221_3 =>
 CallS Tryz.prog 118 [t208_3, t210_3, t212_3].toArray (fun t213_3 w =>
 S20 w ∧ (
 CallS Tryz.prog 119 [t217_3, t219_3, t221_3].toArray (fun t222_3 w =>
 PureS (boolV .eql t213_3 t222_3) fun t223_3 =>
 PureS (pickV (Value.bool true) t223_3 (Value.bool false)) fun t224_6 =>
 K t224_6 w
 ) w
 )
 ) w.drew
 )
 )
 )
 )
 )
 )
 ) (
 PureS (pickV (Value.bool false) undef (Value.bool false)) fun t224_7 =>
 K t224_7 w.drew
 )
 )
 )
 )
 ) w.drew
 )
 )
 )
 ) w.drew
 )
 )
 )
 ) fun J17 =>
 IfB t167 true (
 PureS (binV .eql t151 t161) fun t171_1 =>
 J17 t171_1 w
 ) (
 J17 undef w
 )
 ) fun J16 =>
 IfB t141 true (
 CallS Tryz.prog 65 [t150, t160].toArray (fun t166_1 w =>
 J16 t166_1 w
 ) w
 ) (
 J16 undef w
 )
 ) w.drew
 )
 )
 )
 ) w.drew
 )
 )
 )
 ) fun J13 =>
 IfB t136 true (
 PureS (binV .eql t120 t130) fun t140_1 =>
 J13 t140_1 w
 ) (
 J13 undef w
 )
 ) fun J12 =>
 IfB t108 true (
 PureS (binV .eql t119 t129) fun t135_1 =>
 J12 t135_1 w
 ) (
 J12 undef w
 )
 ) w.drew
 )
 )
 )
 ) w.drew
 )
 )
 )
 ) w
 ) fun J9 =>
 IfB t103 true (
 PureS (binV .eql t81 t95) fun t107_1 =>
 J9 t107_1 w
 ) (
 J9 undef w
 )
 ) fun J8 =>
 IfB t65 true (
 RunS Tryz.prog (convert 34 9 t80) (fun t99 w =>
 RunS Tryz.prog (convert 34 9 t94) (fun t101 w =>
 PureS (binV .eql t99 t101) fun t102_1 =>
 J8 t102_1 w
 ) w
 ) w
 ) (
 J8 undef w
 )
 ) w.drew
 )
 )
 )
 )
 )
 ) w.drew
 )
 )
 )
 )
 )
 ) w
 ) fun J5 =>
 IfB t60 true (
 PureS (binV .eql t44 t34) fun t64_1 =>
 J5 t64_1 w
 ) (
 J5 undef w
 )
 ) fun J4 =>
 IfB t54 true (
 PureS (lenSliceV t33) fun t58 =>
 PureS (binV .eql t43 t58) fun t59_1 =>
 J4 t59_1 w
 ) (
 J4 undef w
 )
 ) fun J3 =>
 IfB t49 true (
 PureS (binV .eql t24 t34) fun t53_1 =>
 J3 t53_1 w
 ) (
 J3 undef w
 )
 ) w
 ) w
 ) w.drew
 )
 )
 )
 ) w.drew
 )
 )
 )
 ) w.drew
 )
 )
 )
 ) w
theorem s62_den (x0 a1 : Value) (K : Value → World → Prop) (w : World) : denFn Tryz.prog false (bodyOf Tryz.f62) Tryz.f62.results a62 [x0, a1] K NoP w = s62 x0 a1 K w := by kernel_rfl
theorem s62_dst : dstsOk (2 + 223) (bodyOf Tryz.f62) = true := by kernel_rfl
theorem s62_ann : annOk (bodyOf Tryz.f62) a62 = true := by kernel_rfl
theorem s62_call {x0 a1 : Value} {K : Value → World → Prop} {w : World} (hm : Tryz.prog.follows .mixedOrders = true) (h : s62 x0 a1 K w) : CallS Tryz.prog 62 #[x0, a1] K w :=
  fn_call (args := [x0, a1]) (m := 223) hm Tryz.func62 (by kernel_rfl) (rs := Tryz.f62.results) rfl Tryz.ntmps62 s62_dst s62_ann (by rw [s62_den]; exact h)

def a63 : Ann :=
 (.q (.r [.plain 1]) (.q (.r [.plain 3]) .s))
def s63 (f0 : Value) (K : Value → World → Prop) (w : World) : Prop :=
 CallS Tryz.prog 81 [f0].toArray (fun t4 w =>
 K t4 w
 ) w
theorem s63_den (f0 : Value) (K : Value → World → Prop) (w : World) : denFn Tryz.prog false (bodyOf Tryz.f63) Tryz.f63.results a63 [f0] K NoP w = s63 f0 K w := by kernel_rfl
theorem s63_dst : dstsOk (1 + 4) (bodyOf Tryz.f63) = true := by kernel_rfl
theorem s63_ann : annOk (bodyOf Tryz.f63) a63 = true := by kernel_rfl
theorem s63_call {f0 : Value} {K : Value → World → Prop} {w : World} (hm : Tryz.prog.follows .mixedOrders = true) (h : s63 f0 K w) : CallS Tryz.prog 63 #[f0] K w :=
  fn_call (args := [f0]) (m := 4) hm Tryz.func63 (by kernel_rfl) (rs := Tryz.f63.results) rfl Tryz.ntmps63 s63_dst s63_ann (by rw [s63_den]; exact h)

def a64 : Ann :=
 (.q (.r [.plain 1]) (.q (.r [.plain 1]) (.q (.r [.plain 3]) (.j [3] 268435240 (.q (.r [.plain 1]) (.b (.l [3, 5] 268435240 (.q (.q (.r [.plain 4]) (.c .s .s)) (.q (.b (.d [0, 0, 2, 6, 14, 0, 0, 96, 224, 510, 1022, 2046, 4094, 8191, 16383] (.pur 0 (.pur 1 (.pur 2 (.pur 3 (.pur 5 (.pur 6 (.pur 7 (.hld 4 (.hld 8 (.pur 9 (.hld 10 (.act 11 (.pur 12 (.pur 13 (.pur 14 .fin))))))))))))))))) (.r [.plain 3]))))))
  (.q (.r [.plain 2]) .s)))))
def s64 (f0 : Value) (K : Value → World → Prop) (w : World) : Prop :=
 CallS Tryz.prog 107 [f0].toArray (fun t7 w =>
 JoinS (fun (n3 : Value) (w : World) =>
 K n3 w
 ) fun J0 =>
 LoopS 2 (fun L1 (n3_1 i5 : Value) (w : World) =>
 PureS (lenSliceV t7) fun t10 =>
 PureS (binV .lss i5 t10) fun t11 =>
 CondS t11 (
 DrawS fun S2 => S2 w.drew ∧ (
 PureS (nilV f0) fun t16 =>
 PureS (fieldAddrV 2 t16) fun t17 =>
 PureS (indexAddrV 1 t7 i5) fun t21 =>
 HeldC S2 t17 (fun t18 =>
 HeldC S2 t21 (fun t22 =>
 PureS (indexAddrV 2 t18 t22) fun t23 =>
 HeldA 2 S2 t23 (fun t24 =>
 CallS Tryz.prog 95 [t24].toArray (fun t25 w =>
 PureS (lenSliceV t25) fun t26 =>
 PureS (binV .add n3_1 t26) fun t27 =>
 PureS (binV .add i5 (Value.int .i64 1)) fun t13 =>
 L1 t27 t13 w
 ) w.drew
 )
 )
 )
 )
 ) (
 J0 n3_1 w
 )
 ) (Value.int .i64 0) (Value.int .i64 0) w
 ) w
theorem s64_den (f0 : Value) (K : Value → World → Prop) (w : World) : denFn Tryz.prog false (bodyOf Tryz.f64) Tryz.f64.results a64 [f0] K NoP w = s64 f0 K w := by kernel_rfl
theorem s64_dst : dstsOk (1 + 28) (bodyOf Tryz.f64) = true := by kernel_rfl
theorem s64_ann : annOk (bodyOf Tryz.f64) a64 = true := by kernel_rfl
theorem s64_call {f0 : Value} {K : Value → World → Prop} {w : World} (hm : Tryz.prog.follows .mixedOrders = true) (h : s64 f0 K w) : CallS Tryz.prog 64 #[f0] K w :=
  fn_call (args := [f0]) (m := 28) hm Tryz.func64 (by kernel_rfl) (rs := Tryz.f64.results) rfl Tryz.ntmps64 s64_dst s64_ann (by rw [s64_den]; exact h)

def a65 : Ann :=
 (.q (.r [.plain 1]) (.q (.q (.r [.plain 5]) (.c (.q (.r [.plain 1]) .s) .s)) (.j [] 536868912 (.q (.r [.plain 1]) (.b (.l [5] 536868912 (.q (.q (.r [.plain 4]) (.c .s .s)) (.q (.b (.q (.q (.d [0, 0, 3, 7, 0, 0, 48, 112, 255] (.pur 0 (.pur 1 (.pur 2 (.pur 4 (.pur 5 (.pur 6 (.hld 3 (.hld 7 (.pur 8 .fin)))))))))) (.c (.q (.r [.plain 1]) .s) .s)) (.r [.plain 4]))) (.r [.plain 3]))))))
  (.q (.r [.plain 1]) .s))))
def s65 (a0 b1 : Value) (K : Value → World → Prop) (w : World) : Prop :=
 PureS (lenSliceV a0) fun t7 =>
 PureS (lenSliceV b1) fun t9 =>
 PureS (binV .neq t7 t9) fun t10 =>
 CondS t10 (
 K (Value.bool false) w
 ) (
 JoinS (fun (w : World) =>
 K (Value.bool true) w
 ) fun J0 =>
 LoopS 1 (fun L1 (i5 : Value) (w : World) =>
 PureS (lenSliceV a0) fun t13 =>
 PureS (binV .lss i5 t13) fun t14 =>
 CondS t14 (
 DrawS fun S2 => S2 w.drew ∧ (
 PureS (indexAddrV 1 a0 i5) fun t19 =>
 PureS (indexAddrV 1 b1 i5) fun t23 =>
 HeldC S2 t19 (fun t20 =>
 HeldC S2 t23 (fun t24 =>
 PureS (binV .neq t20 t24) fun t25 =>
 CondS t25 (
 K (Value.bool false) w.drew
 ) (
 PureS (indexAddrV 1 a0 i5) fun t28 =>
 StoreC t28 (Value.string ⟨#[115, 112, 111, 105, 108, 116]⟩) (fun w =>
 PureS (binV .add i5 (Value.int .i64 1)) fun t16 =>
 L1 t16 w
 ) w.drew
 )
 )
 )
 )
 ) (
 J0 w
 )
 ) (Value.int .i64 0) w
 )
theorem s65_den (a0 b1 : Value) (K : Value → World → Prop) (w : World) : denFn Tryz.prog false (bodyOf Tryz.f65) Tryz.f65.results a65 [a0, b1] K NoP w = s65 a0 b1 K w := by kernel_rfl
theorem s65_dst : dstsOk (2 + 27) (bodyOf Tryz.f65) = true := by kernel_rfl
theorem s65_ann : annOk (bodyOf Tryz.f65) a65 = true := by kernel_rfl
theorem s65_call {a0 b1 : Value} {K : Value → World → Prop} {w : World} (hm : Tryz.prog.follows .mixedOrders = true) (h : s65 a0 b1 K w) : CallS Tryz.prog 65 #[a0, b1] K w :=
  fn_call (args := [a0, b1]) (m := 27) hm Tryz.func65 (by kernel_rfl) (rs := Tryz.f65.results) rfl Tryz.ntmps65 s65_dst s65_ann (by rw [s65_den]; exact h)

def a67 : Ann :=
 (.q (.r [.plain 2]) (.q (.r [.plain 8]) (.q (.q (.r [.plain 2]) (.c (.q (.r [.plain 3]) .s) .s)) (.q (.r [.plain 7]) .s))))
def s67 (f0 name1 : Value) (K : Value → World → Prop) (w : World) : Prop :=
 CallS Tryz.prog 75 [f0, name1].toArray (fun t11 w =>
 PureS (extractV 0 t11) fun t12 =>
 PureS (extractV 1 t11) fun t13 =>
 PureS (binV .neq t13 (Value.int .i64 0)) fun t15 =>
 CondS t15 (
 K (Value.tuple [(Value.int .i64 0), t13].toArray) w
 ) (
 PureS (nilV t12) fun t18 =>
 PureS (fieldAddrV 1 t18) fun t19 =>
 LoadC t19 (fun t20 w =>
 PureS (lenSliceV t20) fun t21 =>
 K (Value.tuple [t21, (Value.int .i64 0)].toArray) w
 ) w
 )
 ) w
theorem s67_den (f0 name1 : Value) (K : Value → World → Prop) (w : World) : denFn Tryz.prog false (bodyOf Tryz.f67) Tryz.f67.results a67 [f0, name1] K NoP w = s67 f0 name1 K w := by kernel_rfl
theorem s67_dst : dstsOk (2 + 20) (bodyOf Tryz.f67) = true := by kernel_rfl
theorem s67_ann : annOk (bodyOf Tryz.f67) a67 = true := by kernel_rfl
theorem s67_call {f0 name1 : Value} {K : Value → World → Prop} {w : World} (hm : Tryz.prog.follows .mixedOrders = true) (h : s67 f0 name1 K w) : CallS Tryz.prog 67 #[f0, name1] K w :=
  fn_call (args := [f0, name1]) (m := 20) hm Tryz.func67 (by kernel_rfl) (rs := Tryz.f67.results) rfl Tryz.ntmps67 s67_dst s67_ann (by rw [s67_den]; exact h)

def a68 : Ann :=
 (.q (.r [.plain 2]) (.q (.r [.plain 8]) (.q (.q (.r [.plain 2]) (.c (.q (.r [.plain 3]) .s) .s)) (.q (.r [.plain 12]) .s))))
def s68 (f0 dir1 : Value) (K : Value → World → Prop) (w : World) : Prop :=
 CallS Tryz.prog 104 [f0, dir1].toArray (fun t11 w =>
 PureS (extractV 0 t11) fun t12 =>
 PureS (extractV 1 t11) fun t13 =>
 PureS (binV .neq t13 (Value.int .i64 0)) fun t15 =>
 CondS t15 (
 K (Value.tuple [(Value.int .i64 0), t13].toArray) w
 ) (
 PureS (nilV f0) fun t18 =>
 PureS (fieldAddrV 1 t18) fun t19 =>
 LoadC t19 (fun t20 w =>
 PureS (indexAddrV 2 t20 t12) fun t22 =>
 PureS (fieldAddrV 1 t22) fun t23 =>
 LoadC t23 (fun t24 w =>
 PureS (lenSliceV t24) fun t25 =>
 PureS (binV .sub t25 (Value.int .i64 1)) fun t26 =>
 K (Value.tuple [t26, (Value.int .i64 0)].toArray) w
 ) w
 ) w
 )
 ) w
theorem s68_den (f0 dir1 : Value) (K : Value → World → Prop) (w : World) : denFn Tryz.prog false (bodyOf Tryz.f68) Tryz.f68.results a68 [f0, dir1] K NoP w = s68 f0 dir1 K w := by kernel_rfl
theorem s68_dst : dstsOk (2 + 25) (bodyOf Tryz.f68) = true := by kernel_rfl
theorem s68_ann : annOk (bodyOf Tryz.f68) a68 = true := by kernel_rfl
theorem s68_call {f0 dir1 : Value} {K : Value → World → Prop} {w : World} (hm : Tryz.prog.follows .mixedOrders = true) (h : s68 f0 dir1 K w) : CallS Tryz.prog 68 #[f0, dir1] K w :=
  fn_call (args := [f0, dir1]) (m := 25) hm Tryz.func68 (by kernel_rfl) (rs := Tryz.f68.results) rfl Tryz.ntmps68 s68_dst s68_ann (by rw [s68_den]; exact h)

def a70 : Ann :=
 (.j [] 4092 (.q (.r [.plain 1]) (.b (.l [2] 4092 (.q (.q (.r [.plain 4]) (.c .s .s)) (.q (.b (.r [.plain 4])) (.r [.plain 3]))))))
  (.r [.plain 3]))
def s70 (b0 : Value) (K : Value → World → Prop) (w : World) : Prop :=
 JoinS (fun (w : World) =>
 RunS Tryz.prog (Instr.buildSlice 34 1 [(0, (Value.int .u8 85))].toArray) (fun t13 w =>
 RunS Tryz.prog (Builtin.append_ #[34, 34] 34 [b0, t13].toArray) (fun t14 w =>
 K (Value.tuple [].toArray) w
 ) w
 ) w
 ) fun J0 =>
 LoopS 1 (fun L1 (i2 : Value) (w : World) =>
 PureS (lenSliceV b0) fun t5 =>
 PureS (binV .lss i2 t5) fun t6 =>
 CondS t6 (
 PureS (indexAddrV 1 b0 i2) fun t11 =>
 StoreC t11 (Value.int .u8 85) (fun w =>
 PureS (binV .add i2 (Value.int .i64 1)) fun t8 =>
 L1 t8 w
 ) w
 ) (
 J0 w
 )
 ) (Value.int .i64 0) w
theorem s70_den (b0 : Value) (K : Value → World → Prop) (w : World) : denFn Tryz.prog false (bodyOf Tryz.f70) Tryz.f70.results a70 [b0] K NoP w = s70 b0 K w := by kernel_rfl
theorem s70_dst : dstsOk (1 + 14) (bodyOf Tryz.f70) = true := by kernel_rfl
theorem s70_ann : annOk (bodyOf Tryz.f70) a70 = true := by kernel_rfl
theorem s70_call {b0 : Value} {K : Value → World → Prop} {w : World} (hm : Tryz.prog.follows .mixedOrders = true) (h : s70 b0 K w) : CallS Tryz.prog 70 #[b0] K w :=
  fn_call (args := [b0]) (m := 14) hm Tryz.func70 (by kernel_rfl) (rs := Tryz.f70.results) rfl Tryz.ntmps70 s70_dst s70_ann (by rw [s70_den]; exact h)

def a71 : Ann :=
 (.q (.r [.plain 1]) (.q (.r [.plain 4, .grp 3 [9] 896, .plain 2, .grp 3 [14] 28672, .plain 2]) .s))
def s71 (s0 : Value) (K : Value → World → Prop) (w : World) : Prop :=
 PureS (lenStrV s0) fun t4 =>
 PureS (binV .geq t4 (Value.int .i64 1)) fun t5 =>
 JoinS (fun (t9 : Value) (w : World) =>
 PureS (pickV t5 t9 (Value.bool false)) fun t10 =>
 JoinS (fun (t14 : Value) (w : World) =>
 PureS (pickV t10 t14 (Value.bool false)) fun t15 =>
 K t15 w
 ) fun J1 =>
 IfB t10 true (
 CallS Tryz.prog 120 [s0, (Value.func (Fn.func 121) #[] #[])].toArray (fun t13 w =>
 PureS (binV .lss t13 (Value.int .i64 0)) fun t14_1 =>
 J1 t14_1 w
 ) w
 ) (
 J1 undef w
 )
 ) fun J0 =>
 IfB t5 true (
 PureS (lenStrV s0) fun t8 =>
 PureS (binV .leq t8 (Value.int .i64 32)) fun t9_1 =>
 J0 t9_1 w
 ) (
 J0 undef w
 )
theorem s71_den (s0 : Value) (K : Value → World → Prop) (w : World) : denFn Tryz.prog false (bodyOf Tryz.f71) Tryz.f71.results a71 [s0] K NoP w = s71 s0 K w := by kernel_rfl
theorem s71_dst : dstsOk (1 + 15) (bodyOf Tryz.f71) = true := by kernel_rfl
theorem s71_ann : annOk (bodyOf Tryz.f71) a71 = true := by kernel_rfl
theorem s71_call {s0 : Value} {K : Value → World → Prop} {w : World} (hm : Tryz.prog.follows .mixedOrders = true) (h : s71 s0 K w) : CallS Tryz.prog 71 #[s0] K w :=
  fn_call (args := [s0]) (m := 15) hm Tryz.func71 (by kernel_rfl) (rs := Tryz.f71.results) rfl Tryz.ntmps71 s71_dst s71_ann (by rw [s71_den]; exact h)

def a72 : Ann :=
 (.q (.r [.plain 3]) (.q (.r [.plain 9]) (.q (.q (.r [.plain 3, .grp 3 [23] 14680064, .plain 2, .grp 3 [28] 469762048, .plain 1]) (.c (.q (.r [.plain 3]) .s) .s)) (.q (.r [.plain 11]) (.q (.q (.r [.plain 2]) (.c (.q (.r [.plain 3]) .s) .s)) (.q (.r [.plain 5]) .s))))))
def s72 (f0 path1 : Value) (K : Value → World → Prop) (w : World) : Prop :=
 CallS Tryz.prog 122 [path1, (Value.string ⟨#[47]⟩)].toArray (fun t14 w =>
 PureS (extractV 0 t14) fun t15 =>
 PureS (extractV 1 t14) fun t16 =>
 PureS (extractV 2 t14) fun t17 =>
 PureS (notV t17) fun t19 =>
 JoinS (fun (t23 : Value) (w : World) =>
 PureS (pickV t19 (Value.bool true) t23) fun t24 =>
 JoinS (fun (t28 : Value) (w : World) =>
 PureS (pickV t24 (Value.bool true) t28) fun t29 =>
 CondS t29 (
 K (Value.tuple [(Value.pointer none), (Value.string ⟨#[]⟩), (Value.int .i64 1)].toArray) w
 ) (
 PureS (nilV f0) fun t32 =>
 PureS (fieldAddrV 1 t32) fun t33 =>
 LoadC t33 (fun t34 w =>
 RunS Tryz.prog (Instr.lookup 64 t34 t15 true) (fun t36 w =>
 PureS (extractV 0 t36) fun t37 =>
 PureS (extractV 1 t36) fun t38 =>
 PureS (notV t38) fun t40 =>
 CondS t40 (
 K (Value.tuple [(Value.pointer none), (Value.string ⟨#[]⟩), (Value.int .i64 6)].toArray) w
 ) (
 K (Value.tuple [t37, t16, (Value.int .i64 0)].toArray) w
 )
 ) w
 ) w
 )
 ) fun J1 =>
 IfB t24 false (
 CallS Tryz.prog 71 [t16].toArray (fun t27 w =>
 PureS (notV t27) fun t28_1 =>
 J1 t28_1 w
 ) w
 ) (
 J1 undef w
 )
 ) fun J0 =>
 IfB t19 false (
 CallS Tryz.prog 71 [t15].toArray (fun t22 w =>
 PureS (notV t22) fun t23_1 =>
 J0 t23_1 w
 ) w
 ) (
 J0 undef w
 )
 ) w
theorem s72_den (f0 path1 : Value) (K : Value → World → Prop) (w : World) : denFn Tryz.prog false (bodyOf Tryz.f72) Tryz.f72.results a72 [f0, path1] K NoP w = s72 f0 path1 K w := by kernel_rfl
theorem s72_dst : dstsOk (2 + 41) (bodyOf Tryz.f72) = true := by kernel_rfl
theorem s72_ann : annOk (bodyOf Tryz.f72) a72 = true := by kernel_rfl
theorem s72_call {f0 path1 : Value} {K : Value → World → Prop} {w : World} (hm : Tryz.prog.follows .mixedOrders = true) (h : s72 f0 path1 K w) : CallS Tryz.prog 72 #[f0, path1] K w :=
  fn_call (args := [f0, path1]) (m := 41) hm Tryz.func72 (by kernel_rfl) (rs := Tryz.f72.results) rfl Tryz.ntmps72 s72_dst s72_ann (by rw [s72_den]; exact h)

def a73 : Ann :=
 (.q (.d [0, 0, 2, 6, 14, 0, 32, 96, 224, 480, 1022, 2047, 4095, 8191] (.pur 0 (.pur 1 (.pur 2 (.pur 3 (.pur 5 (.pur 6 (.pur 7 (.hld 4 (.hld 8 (.act 9 (.act 10 (.pur 11 (.pur 12 (.act 13 .fin))))))))))))))) (.q (.r [.plain 9]) (.r [.plain 6])))
def s73 (d0 does1 : Value) (K : Value → World → Prop) (w : World) : Prop :=
 DrawS fun S0 => S0 w.drew ∧ (
 PureS (nilV d0) fun t6 =>
 PureS (fieldAddrV 1 t6) fun t7 =>
 PureS (nilV d0) fun t10 =>
 PureS (fieldAddrV 0 t10) fun t11 =>
 HeldC S0 t7 (fun t8 =>
 HeldC S0 t11 (fun t12 =>
 RunS Tryz.prog (Instr.buildSlice 71 1 [(0, t12)].toArray) (fun t13 w =>
 S0 w ∧ (
 RunS Tryz.prog (Builtin.append_ #[71, 71] 71 [t8, t13].toArray) (fun t14 w =>
 PureS (nilV d0) fun t15 =>
 PureS (fieldAddrV 1 t15) fun t16 =>
 StoreC t16 t14 (fun w =>
 PureS (nilV d0) fun t19 =>
 PureS (fieldAddrV 0 t19) fun t20 =>
 LoadC t20 (fun t21 w =>
 CallS Tryz.prog 123 [t21].toArray (fun t22 w =>
 PureS (nilV d0) fun t23 =>
 PureS (fieldAddrV 0 t23) fun t24 =>
 StoreC t24 t22 (fun w =>
 PureS (nilV d0) fun t27 =>
 PureS (fieldAddrV 0 t27) fun t28 =>
 LoadC t28 (fun t29 w =>
 CallV' Tryz.prog false does1 [t29] NoP (fun t30 w =>
 K (Value.tuple [].toArray) w
 ) w
 ) w
 ) w
 ) w
 ) w
 ) w
 ) w
 )
 ) w.drew
 )
 )
 )
theorem s73_den (d0 does1 : Value) (K : Value → World → Prop) (w : World) : denFn Tryz.prog false (bodyOf Tryz.f73) Tryz.f73.results a73 [d0, does1] K NoP w = s73 d0 does1 K w := by kernel_rfl
theorem s73_dst : dstsOk (2 + 29) (bodyOf Tryz.f73) = true := by kernel_rfl
theorem s73_ann : annOk (bodyOf Tryz.f73) a73 = true := by kernel_rfl
theorem s73_call {d0 does1 : Value} {K : Value → World → Prop} {w : World} (hm : Tryz.prog.follows .mixedOrders = true) (h : s73 d0 does1 K w) : CallS Tryz.prog 73 #[d0, does1] K w :=
  fn_call (args := [d0, does1]) (m := 29) hm Tryz.func73 (by kernel_rfl) (rs := Tryz.f73.results) rfl Tryz.ntmps73 s73_dst s73_ann (by rw [s73_den]; exact h)

def a74 : Ann :=
 (.r [.plain 5])
def s74 (n0 t1 : Value) (K : Value → World → Prop) (w : World) : Prop :=
 LoadC t1 (fun t4 w =>
 RunS Tryz.prog (Instr.build 82 [].toArray) (fun t5 w =>
 BoxS 82 t5 (fun t6 w =>
 RunU Tryz.prog (Instr.mapUpdate 70 n0 t4 t6) (fun w =>
 K (Value.tuple [].toArray) w
 ) w
 ) w
 ) w
 ) w
theorem s74_den (n0 t1 : Value) (K : Value → World → Prop) (w : World) : denFn Tryz.prog false (bodyOf Tryz.f74) Tryz.f74.results a74 [n0, t1] K NoP w = s74 n0 t1 K w := by kernel_rfl
theorem s74_dst : dstsOk (2 + 5) (bodyOf Tryz.f74) = true := by kernel_rfl
theorem s74_ann : annOk (bodyOf Tryz.f74) a74 = true := by kernel_rfl
theorem s74_call {n0 t1 : Value} {K : Value → World → Prop} {w : World} (hm : Tryz.prog.follows .mixedOrders = true) (h : s74 n0 t1 K w) : CallS Tryz.prog 74 #[n0, t1] K w :=
  fn_call (args := [n0, t1]) (m := 5) hm Tryz.func74 (by kernel_rfl) (rs := Tryz.f74.results) rfl Tryz.ntmps74 s74_dst s74_ann (by rw [s74_den]; exact h)

def a75 : Ann :=
 (.q (.r [.plain 2]) (.q (.q (.r [.plain 3]) (.c (.q (.r [.plain 2]) .s) .s)) (.q (.r [.plain 11]) (.q (.q (.r [.plain 2]) (.c (.q (.r [.plain 2]) .s) .s)) (.q (.r [.plain 3]) .s)))))
def s75 (f0 name1 : Value) (K : Value → World → Prop) (w : World) : Prop :=
 CallS Tryz.prog 71 [name1].toArray (fun t9 w =>
 PureS (notV t9) fun t10 =>
 CondS t10 (
 K (Value.tuple [(Value.pointer none), (Value.int .i64 1)].toArray) w
 ) (
 PureS (nilV f0) fun t13 =>
 PureS (fieldAddrV 1 t13) fun t14 =>
 LoadC t14 (fun t15 w =>
 RunS Tryz.prog (Instr.lookup 64 t15 name1 true) (fun t17 w =>
 PureS (extractV 0 t17) fun t18 =>
 PureS (extractV 1 t17) fun t19 =>
 PureS (notV t19) fun t21 =>
 CondS t21 (
 K (Value.tuple [(Value.pointer none), (Value.int .i64 6)].toArray) w
 ) (
 K (Value.tuple [t18, (Value.int .i64 0)].toArray) w
 )
 ) w
 ) w
 )
 ) w
theorem s75_den (f0 name1 : Value) (K : Value → World → Prop) (w : World) : denFn Tryz.prog false (bodyOf Tryz.f75) Tryz.f75.results a75 [f0, name1] K NoP w = s75 f0 name1 K w := by kernel_rfl
theorem s75_dst : dstsOk (2 + 21) (bodyOf Tryz.f75) = true := by kernel_rfl
theorem s75_ann : annOk (bodyOf Tryz.f75) a75 = true := by kernel_rfl
theorem s75_call {f0 name1 : Value} {K : Value → World → Prop} {w : World} (hm : Tryz.prog.follows .mixedOrders = true) (h : s75 f0 name1 K w) : CallS Tryz.prog 75 #[f0, name1] K w :=
  fn_call (args := [f0, name1]) (m := 21) hm Tryz.func75 (by kernel_rfl) (rs := Tryz.f75.results) rfl Tryz.ntmps75 s75_dst s75_ann (by rw [s75_den]; exact h)

def a76 : Ann :=
 (.q (.r [.plain 1]) (.q (.q (.r [.plain 3]) (.c (.q (.r [.plain 1]) .s) .s)) (.q (.r [.plain 3]) (.q (.d [0, 0, 2, 0, 8, 30, 63, 127, 255, 511] (.hld 0 (.hld 1 (.pur 2 (.hld 3 (.pur 4 (.pur 5 (.pur 6 (.hld 7 (.pur 8 (.pur 9 .fin))))))))))) .s))))
def s76 (t0 t1 : Value) (K : Value → World → Prop) (w : World) : Prop :=
 LoadC t0 (fun t3 w =>
 PureS (lenSliceV t3) fun t4 =>
 PureS (binV .eql t4 (Value.int .i64 0)) fun t5 =>
 CondS t5 (
 K (Value.int .i64 0) w
 ) (
 LoadC t1 (fun t6 w =>
 PureS (binV .add t6 (Value.int .i64 1)) fun t7 =>
 StoreC t1 t7 (fun w =>
 DrawS fun S0 => S0 w.drew ∧ (
 HeldC S0 t0 (fun t8 =>
 HeldC S0 t1 (fun t9 =>
 PureS (binV .sub t9 (Value.int .i64 1)) fun t10 =>
 HeldC S0 t0 (fun t11 =>
 PureS (lenSliceV t11) fun t12 =>
 PureS (binV .rem t10 t12) fun t13 =>
 PureS (indexAddrV 1 t8 t13) fun t14 =>
 HeldC S0 t14 (fun t15 =>
 PureS (maxV t15 (Value.int .i64 0)) fun t16 =>
 K t16 w.drew
 )
 )
 )
 )
 )
 ) w
 ) w
 )
 ) w
theorem s76_den (t0 t1 : Value) (K : Value → World → Prop) (w : World) : denFn Tryz.prog false (bodyOf Tryz.f76) Tryz.f76.results a76 [t0, t1] K NoP w = s76 t0 t1 K w := by kernel_rfl
theorem s76_dst : dstsOk (2 + 15) (bodyOf Tryz.f76) = true := by kernel_rfl
theorem s76_ann : annOk (bodyOf Tryz.f76) a76 = true := by kernel_rfl
theorem s76_call {t0 t1 : Value} {K : Value → World → Prop} {w : World} (hm : Tryz.prog.follows .mixedOrders = true) (h : s76 t0 t1 K w) : CallS Tryz.prog 76 #[t0, t1] K w :=
  fn_call (args := [t0, t1]) (m := 15) hm Tryz.func76 (by kernel_rfl) (rs := Tryz.f76.results) rfl Tryz.ntmps76 s76_dst s76_ann (by rw [s76_den]; exact h)

def a77 : Ann :=
 (.q (.r [.plain 1]) (.q (.r [.plain 3]) (.q (.r [.plain 2]) (.q (.r [.plain 2]) .s))))
def s77 (seq0 : Value) (K : Value → World → Prop) (w : World) : Prop :=
 CallS Tryz.prog 124 [seq0].toArray (fun t5 w =>
 CallS Tryz.prog 125 [t5].toArray (fun t7 w =>
 K t5 w
 ) w
 ) w
theorem s77_den (seq0 : Value) (K : Value → World → Prop) (w : World) : denFn Tryz.prog false (bodyOf Tryz.f77) Tryz.f77.results a77 [seq0] K NoP w = s77 seq0 K w := by kernel_rfl
theorem s77_dst : dstsOk (1 + 8) (bodyOf Tryz.f77) = true := by kernel_rfl
theorem s77_ann : annOk (bodyOf Tryz.f77) a77 = true := by kernel_rfl
theorem s77_call {seq0 : Value} {K : Value → World → Prop} {w : World} (hm : Tryz.prog.follows .mixedOrders = true) (h : s77 seq0 K w) : CallS Tryz.prog 77 #[seq0] K w :=
  fn_call (args := [seq0]) (m := 8) hm Tryz.func77 (by kernel_rfl) (rs := Tryz.f77.results) rfl Tryz.ntmps77 s77_dst s77_ann (by rw [s77_den]; exact h)

def a78 : Ann :=
 (.q (.r [.plain 2]) (.q (.r [.plain 2]) .s))
def s78 (m0 : Value) (K : Value → World → Prop) (w : World) : Prop :=
 BoxS 64 m0 (fun m1 w =>
 K (Value.func (Fn.func 126) [].toArray [m1].toArray) w
 ) w
theorem s78_den (m0 : Value) (K : Value → World → Prop) (w : World) : denFn Tryz.prog false (bodyOf Tryz.f78) Tryz.f78.results a78 [m0] K NoP w = s78 m0 K w := by kernel_rfl
theorem s78_dst : dstsOk (1 + 3) (bodyOf Tryz.f78) = true := by kernel_rfl
theorem s78_ann : annOk (bodyOf Tryz.f78) a78 = true := by kernel_rfl
theorem s78_call {m0 : Value} {K : Value → World → Prop} {w : World} (hm : Tryz.prog.follows .mixedOrders = true) (h : s78 m0 K w) : CallS Tryz.prog 78 #[m0] K w :=
  fn_call (args := [m0]) (m := 3) hm Tryz.func78 (by kernel_rfl) (rs := Tryz.f78.results) rfl Tryz.ntmps78 s78_dst s78_ann (by rw [s78_den]; exact h)

def a79 : Ann :=
 (.q (.r [.plain 2]) (.q (.r [.plain 2]) .s))
def s79 (m0 : Value) (K : Value → World → Prop) (w : World) : Prop :=
 BoxS 70 m0 (fun m1 w =>
 K (Value.func (Fn.func 127) [].toArray [m1].toArray) w
 ) w
theorem s79_den (m0 : Value) (K : Value → World → Prop) (w : World) : denFn Tryz.prog false (bodyOf Tryz.f79) Tryz.f79.results a79 [m0] K NoP w = s79 m0 K w := by kernel_rfl
theorem s79_dst : dstsOk (1 + 3) (bodyOf Tryz.f79) = true := by kernel_rfl
theorem s79_ann : annOk (bodyOf Tryz.f79) a79 = true := by kernel_rfl
theorem s79_call {m0 : Value} {K : Value → World → Prop} {w : World} (hm : Tryz.prog.follows .mixedOrders = true) (h : s79 m0 K w) : CallS Tryz.prog 79 #[m0] K w :=
  fn_call (args := [m0]) (m := 3) hm Tryz.func79 (by kernel_rfl) (rs := Tryz.f79.results) rfl Tryz.ntmps79 s79_dst s79_ann (by rw [s79_den]; exact h)

def a80 : Ann :=
 (.q (.r [.plain 2]) (.j [1] 33554402 (.q (.r [.plain 7]) (.q (.r [.plain 4]) (.c (.r [.plain 8]) (.r [.plain 3]))))
  (.q (.d [0, 0, 2, 7, 0, 16, 63] (.pur 0 (.pur 1 (.pur 4 (.hld 2 (.pur 3 (.hld 5 (.act 6 .fin)))))))) (.q (.r [.plain 2]) .s))))
def s80 (w0 b1 : Value) (K : Value → World → Prop) (w : World) : Prop :=
 BoxS 94 w0 (fun w2 w =>
 JoinS (fun (b1_1 : Value) (w : World) =>
 DrawS fun S1 => S1 w.drew ∧ (
 PureS (fieldAddrV 0 w2) fun t26 =>
 PureS (fieldAddrV 1 w2) fun t29 =>
 HeldC S1 t26 (fun t27 =>
 PureS (sliceV 1 b1_1 (some t27) none) fun t28 =>
 HeldC S1 t29 (fun t30 =>
 RunS Tryz.prog (Builtin.copy_ #[34, 34] 3 [t28, t30].toArray) (fun t31 w =>
 K b1_1 w
 ) w.drew
 )
 )
 )
 ) fun J0 =>
 PureS (fieldAddrV 0 w2) fun t6 =>
 LoadC t6 (fun t7 w =>
 PureS (fieldAddrV 1 w2) fun t8 =>
 LoadC t8 (fun t9 w =>
 PureS (lenSliceV t9) fun t10 =>
 PureS (binV .add t7 t10) fun t11 =>
 PureS (lenSliceV b1) fun t14 =>
 PureS (binV .gtr t11 t14) fun t15 =>
 CondS t15 (
 CallS Tryz.prog 32 [b1].toArray (fun t17 w =>
 PureS (lenSliceV b1) fun t20 =>
 PureS (binV .sub t11 t20) fun t21 =>
 RunS Tryz.prog (Builtin.append_ #[34, 3] 34 [t17, t21].toArray) (fun t22 w =>
 J0 t22 w
 ) w
 ) w
 ) (
 CallS Tryz.prog 32 [b1].toArray (fun t24 w =>
 J0 t24 w
 ) w
 )
 ) w
 ) w
 ) w
theorem s80_den (w0 b1 : Value) (K : Value → World → Prop) (w : World) : denFn Tryz.prog false (bodyOf Tryz.f80) Tryz.f80.results a80 [w0, b1] K NoP w = s80 w0 b1 K w := by kernel_rfl
theorem s80_dst : dstsOk (2 + 31) (bodyOf Tryz.f80) = true := by kernel_rfl
theorem s80_ann : annOk (bodyOf Tryz.f80) a80 = true := by kernel_rfl
theorem s80_call {w0 b1 : Value} {K : Value → World → Prop} {w : World} (hm : Tryz.prog.follows .mixedOrders = true) (h : s80 w0 b1 K w) : CallS Tryz.prog 80 #[w0, b1] K w :=
  fn_call (args := [w0, b1]) (m := 31) hm Tryz.func80 (by kernel_rfl) (rs := Tryz.f80.results) rfl Tryz.ntmps80 s80_dst s80_ann (by rw [s80_den]; exact h)

def a81 : Ann :=
 (.q (.r [.plain 1]) (.q (.r [.plain 2]) (.q (.r [.plain 3]) (.q (.r [.plain 2]) .s))))
def s81 (f0 : Value) (K : Value → World → Prop) (w : World) : Prop :=
 BoxS 3 (Value.int .i64 0) (fun n3 w =>
 StoreC n3 (Value.int .i64 0) (fun w =>
 CallS Tryz.prog 27 [f0, (Value.func (Fn.func 128) [].toArray [n3].toArray)].toArray (fun t6 w =>
 LoadC n3 (fun t7 w =>
 K t7 w
 ) w
 ) w
 ) w
 ) w
theorem s81_den (f0 : Value) (K : Value → World → Prop) (w : World) : denFn Tryz.prog false (bodyOf Tryz.f81) Tryz.f81.results a81 [f0] K NoP w = s81 f0 K w := by kernel_rfl
theorem s81_dst : dstsOk (1 + 7) (bodyOf Tryz.f81) = true := by kernel_rfl
theorem s81_ann : annOk (bodyOf Tryz.f81) a81 = true := by kernel_rfl
theorem s81_call {f0 : Value} {K : Value → World → Prop} {w : World} (hm : Tryz.prog.follows .mixedOrders = true) (h : s81 f0 K w) : CallS Tryz.prog 81 #[f0] K w :=
  fn_call (args := [f0]) (m := 7) hm Tryz.func81 (by kernel_rfl) (rs := Tryz.f81.results) rfl Tryz.ntmps81 s81_dst s81_ann (by rw [s81_den]; exact h)

def a82 : Ann :=
 (.q (.r [.plain 2]) (.q (.q (.r [.plain 6, .grp 5 [15] 63488, .plain 1]) (.c (.q (.r [.plain 2]) .s) .s)) (.q (.r [.plain 8]) (.q (.d [0, 1, 3, 7, 0, 16, 48, 112, 255, 511] (.pur 0 (.pur 1 (.pur 2 (.pur 4 (.pur 5 (.pur 6 (.hld 3 (.hld 7 (.pur 8 (.pur 9 .fin))))))))))) (.q (.r [.plain 3, .grp 6 [41] 4329327034368, .grp 6 [47] 277076930199552, .grp 1 [48] 281474976710656, .plain 5]) .s)))))
def s82 (s0 : Value) (K : Value → World → Prop) (w : World) : Prop :=
 PureS (nilV s0) fun t6 =>
 PureS (fieldAddrV 0 t6) fun t7 =>
 LoadC t7 (fun t8 w =>
 PureS (binV .lss t8 (Value.int .i64 1)) fun t9 =>
 JoinS (fun (t15 : Value) (w : World) =>
 PureS (pickV t9 (Value.bool true) t15) fun t16 =>
 CondS t16 (
 K (Value.tuple [(Value.bool false), (Value.bool false)].toArray) w
 ) (
 PureS (nilV s0) fun t18 =>
 PureS (fieldAddrV 2 t18) fun t19 =>
 LoadC t19 (fun t20 w =>
 PureS (binV .add t20 (Value.int .i64 1)) fun t21 =>
 PureS (nilV s0) fun t22 =>
 PureS (fieldAddrV 2 t22) fun t23 =>
 StoreC t23 t21 (fun w =>
 DrawS fun S1 => S1 w.drew ∧ (
 PureS (nilV s0) fun t25 =>
 PureS (fieldAddrV 2 t25) fun t26 =>
 PureS (nilV s0) fun t29 =>
 PureS (fieldAddrV 0 t29) fun t30 =>
 HeldC S1 t26 (fun t27 =>
 HeldC S1 t30 (fun t31 =>
 PureS (binV .sub t27 t31) fun t32 =>
 PureS (binV .geq t32 (Value.int .i64 0)) fun t34 =>
 JoinS (fun (t41 : Value) (w : World) =>
 JoinS (fun (t47 : Value) (w : World) =>
 JoinS (fun (t48 : Value) (w : World) =>
 PureS (pickV t34 t48 (Value.bool false)) fun t49 =>
 PureS (binV .eql t32 (Value.int .i64 0)) fun t51 =>
 K (Value.tuple [t49, t51].toArray) w
 ) fun J4 =>
 IfB t34 true (
 PureS (pickV t41 (Value.bool true) t47) fun t48_1 =>
 J4 t48_1 w
 ) (
 J4 undef w
 )
 ) fun J3 =>
 IfB t41 false (
 PureS (nilV s0) fun t44 =>
 PureS (fieldAddrV 1 t44) fun t45 =>
 LoadC t45 (fun t46 w =>
 PureS (binV .lss t32 t46) fun t47_1 =>
 J3 t47_1 w
 ) w
 ) (
 J3 undef w
 )
 ) fun J2 =>
 IfB t34 true (
 PureS (nilV s0) fun t37 =>
 PureS (fieldAddrV 1 t37) fun t38 =>
 LoadC t38 (fun t39 w =>
 PureS (binV .lss t39 (Value.int .i64 0)) fun t40 =>
 J2 t40 w
 ) w.drew
 ) (
 J2 undef w.drew
 )
 )
 )
 )
 ) w
 ) w
 )
 ) fun J0 =>
 IfB t9 false (
 PureS (nilV s0) fun t12 =>
 PureS (fieldAddrV 1 t12) fun t13 =>
 LoadC t13 (fun t14 w =>
 PureS (binV .eql t14 (Value.int .i64 0)) fun t15_1 =>
 J0 t15_1 w
 ) w
 ) (
 J0 undef w
 )
 ) w
theorem s82_den (s0 : Value) (K : Value → World → Prop) (w : World) : denFn Tryz.prog false (bodyOf Tryz.f82) Tryz.f82.results a82 [s0] K NoP w = s82 s0 K w := by kernel_rfl
theorem s82_dst : dstsOk (1 + 51) (bodyOf Tryz.f82) = true := by kernel_rfl
theorem s82_ann : annOk (bodyOf Tryz.f82) a82 = true := by kernel_rfl
theorem s82_call {s0 : Value} {K : Value → World → Prop} {w : World} (hm : Tryz.prog.follows .mixedOrders = true) (h : s82 s0 K w) : CallS Tryz.prog 82 #[s0] K w :=
  fn_call (args := [s0]) (m := 51) hm Tryz.func82 (by kernel_rfl) (rs := Tryz.f82.results) rfl Tryz.ntmps82 s82_dst s82_ann (by rw [s82_den]; exact h)

def a83 : Ann :=
 (.q (.r [.plain 1]) (.q (.q (.r [.plain 4, .grp 3 [10] 1792, .plain 1]) (.c (.q (.r [.plain 1]) .s) .s)) (.j [] 17179865100 (.q (.r [.plain 1]) (.b (.l [3] 17179865100 (.q (.q (.r [.plain 4]) (.c .s .s)) (.q (.b (.q (.r [.plain 5, .grp 4 [26] 125829120, .plain 2, .grp 4 [32] 8053063680, .plain 1]) (.c (.q (.r [.plain 1]) .s) .s))) (.r [.plain 3]))))))
  (.q (.r [.plain 1]) .s))))
def s83 (s0 : Value) (K : Value → World → Prop) (w : World) : Prop :=
 PureS (lenStrV s0) fun t5 =>
 PureS (binV .lss t5 (Value.int .i64 1)) fun t6 =>
 JoinS (fun (t10 : Value) (w : World) =>
 PureS (pickV t6 (Value.bool true) t10) fun t11 =>
 CondS t11 (
 K (Value.bool false) w
 ) (
 JoinS (fun (w : World) =>
 K (Value.bool true) w
 ) fun J1 =>
 LoopS 1 (fun L2 (i3 : Value) (w : World) =>
 PureS (lenStrV s0) fun t14 =>
 PureS (binV .lss i3 t14) fun t15 =>
 CondS t15 (
 PureS (indexStrV s0 i3) fun t20 =>
 PureS (binV .lss t20 (Value.int .u8 33)) fun t21 =>
 JoinS (fun (t26 : Value) (w : World) =>
 PureS (pickV t21 (Value.bool true) t26) fun t27 =>
 JoinS (fun (t32 : Value) (w : World) =>
 PureS (pickV t27 (Value.bool true) t32) fun t33 =>
 CondS t33 (
 K (Value.bool false) w
 ) (
 PureS (binV .add i3 (Value.int .i64 1)) fun t17 =>
 L2 t17 w
 )
 ) fun J4 =>
 IfB t27 false (
 PureS (indexStrV s0 i3) fun t31 =>
 PureS (binV .eql t31 (Value.int .u8 47)) fun t32_1 =>
 J4 t32_1 w
 ) (
 J4 undef w
 )
 ) fun J3 =>
 IfB t21 false (
 PureS (indexStrV s0 i3) fun t25 =>
 PureS (binV .gtr t25 (Value.int .u8 126)) fun t26_1 =>
 J3 t26_1 w
 ) (
 J3 undef w
 )
 ) (
 J1 w
 )
 ) (Value.int .i64 0) w
 )
 ) fun J0 =>
 IfB t6 false (
 PureS (lenStrV s0) fun t9 =>
 PureS (binV .gtr t9 (Value.int .i64 32)) fun t10_1 =>
 J0 t10_1 w
 ) (
 J0 undef w
 )
theorem s83_den (s0 : Value) (K : Value → World → Prop) (w : World) : denFn Tryz.prog false (bodyOf Tryz.f83) Tryz.f83.results a83 [s0] K NoP w = s83 s0 K w := by kernel_rfl
theorem s83_dst : dstsOk (1 + 33) (bodyOf Tryz.f83) = true := by kernel_rfl
theorem s83_ann : annOk (bodyOf Tryz.f83) a83 = true := by kernel_rfl
theorem s83_call {s0 : Value} {K : Value → World → Prop} {w : World} (hm : Tryz.prog.follows .mixedOrders = true) (h : s83 s0 K w) : CallS Tryz.prog 83 #[s0] K w :=
  fn_call (args := [s0]) (m := 33) hm Tryz.func83 (by kernel_rfl) (rs := Tryz.f83.results) rfl Tryz.ntmps83 s83_dst s83_ann (by rw [s83_den]; exact h)

def a84 : Ann :=
 (.q (.r [.plain 1]) (.j [] 67108848 (.q (.r [.plain 1]) (.b (.l [5] 67108848 (.q (.q (.r [.plain 7]) (.c .s .s)) (.q (.b (.q (.r [.plain 10]) (.c (.q (.r [.plain 2]) .s) .s))) (.r [.plain 3]))))))
  (.q (.r [.plain 1]) .s)))
def s84 (f0 name1 : Value) (K : Value → World → Prop) (w : World) : Prop :=
 JoinS (fun (w : World) =>
 K (Value.int .i64 (-1)) w
 ) fun J0 =>
 LoopS 1 (fun L1 (i5 : Value) (w : World) =>
 PureS (nilV f0) fun t8 =>
 PureS (fieldAddrV 1 t8) fun t9 =>
 LoadC t9 (fun t10 w =>
 PureS (lenSliceV t10) fun t11 =>
 PureS (binV .lss i5 t11) fun t12 =>
 CondS t12 (
 PureS (nilV f0) fun t16 =>
 PureS (fieldAddrV 1 t16) fun t17 =>
 LoadC t17 (fun t18 w =>
 PureS (indexAddrV 2 t18 i5) fun t20 =>
 PureS (fieldAddrV 0 t20) fun t21 =>
 LoadC t21 (fun t22 w =>
 PureS (binV .eql t22 name1) fun t24 =>
 CondS t24 (
 K i5 w
 ) (
 PureS (binV .add i5 (Value.int .i64 1)) fun t14 =>
 L1 t14 w
 )
 ) w
 ) w
 ) (
 J0 w
 )
 ) w
 ) (Value.int .i64 0) w
theorem s84_den (f0 name1 : Value) (K : Value → World → Prop) (w : World) : denFn Tryz.prog false (bodyOf Tryz.f84) Tryz.f84.results a84 [f0, name1] K NoP w = s84 f0 name1 K w := by kernel_rfl
theorem s84_dst : dstsOk (2 + 24) (bodyOf Tryz.f84) = true := by kernel_rfl
theorem s84_ann : annOk (bodyOf Tryz.f84) a84 = true := by kernel_rfl
theorem s84_call {f0 name1 : Value} {K : Value → World → Prop} {w : World} (hm : Tryz.prog.follows .mixedOrders = true) (h : s84 f0 name1 K w) : CallS Tryz.prog 84 #[f0, name1] K w :=
  fn_call (args := [f0, name1]) (m := 24) hm Tryz.func84 (by kernel_rfl) (rs := Tryz.f84.results) rfl Tryz.ntmps84 s84_dst s84_ann (by rw [s84_den]; exact h)

def a85 : Ann :=
 (.q (.r [.plain 1]) (.q (.r [.plain 7]) (.q (.r [.plain 2]) .s)))
def s85 (f0 : Value) (K : Value → World → Prop) (w : World) : Prop :=
 CallS Tryz.prog 129 [f0].toArray (fun t7 w =>
 PureS (extractV 0 t7) fun t8 =>
 PureS (extractV 1 t7) fun t9 =>
 K t8 w
 ) w
theorem s85_den (f0 : Value) (K : Value → World → Prop) (w : World) : denFn Tryz.prog false (bodyOf Tryz.f85) Tryz.f85.results a85 [f0] K NoP w = s85 f0 K w := by kernel_rfl
theorem s85_dst : dstsOk (1 + 10) (bodyOf Tryz.f85) = true := by kernel_rfl
theorem s85_ann : annOk (bodyOf Tryz.f85) a85 = true := by kernel_rfl
theorem s85_call {f0 : Value} {K : Value → World → Prop} {w : World} (hm : Tryz.prog.follows .mixedOrders = true) (h : s85 f0 K w) : CallS Tryz.prog 85 #[f0] K w :=
  fn_call (args := [f0]) (m := 10) hm Tryz.func85 (by kernel_rfl) (rs := Tryz.f85.results) rfl Tryz.ntmps85 s85_dst s85_ann (by rw [s85_den]; exact h)
end Go.Proofs.YthohdinjpkehpaaGreat

namespace Go.Proofs.YthohdinjpkehpaaGreat
set_option linter.unusedVariables false
set_option maxRecDepth 100000
open Go SG

def a86 : Ann :=
 (.q (.r [.plain 1]) (.q (.d [0, 1, 3, 7, 0, 31, 63, 127, 0, 256, 768, 1792, 0, 7936, 16128, 32512, 65280, 130816, 262143, 524287, 1048575] (.pur 0 (.pur 1 (.pur 2 (.pur 4 (.pur 8 (.pur 9 (.pur 10 (.pur 12 (.hld 3 (.pur 5 (.pur 6 (.hld 7 (.hld 11 (.pur 13 (.pur 14 (.hld 15 (.pur 16 (.pur 17 (.pur 18 (.hld 19 (.act 20 .fin)))))))))))))))))))))) .s))
def s86 (f0 d1 : Value) (K : Value → World → Prop) (w : World) : Prop :=
 BoxS 129 (Value.agg #[(Value.slice none 0 0), (Value.slice none 0 0)]) (fun t4 w =>
 DrawS fun S0 => S0 w.drew ∧ (
 PureS (nilV f0) fun t6 =>
 PureS (fieldAddrV 1 t6) fun t7 =>
 PureS (nilV f0) fun t14 =>
 PureS (fieldAddrV 1 t14) fun t15 =>
 HeldC S0 t7 (fun t8 =>
 PureS (indexAddrV 2 t8 d1) fun t10 =>
 PureS (fieldAddrV 1 t10) fun t11 =>
 HeldC S0 t11 (fun t12 =>
 HeldC S0 t15 (fun t16 =>
 PureS (indexAddrV 2 t16 d1) fun t18 =>
 PureS (fieldAddrV 1 t18) fun t19 =>
 HeldC S0 t19 (fun t20 =>
 PureS (lenSliceV t20) fun t21 =>
 PureS (binV .sub t21 (Value.int .i64 1)) fun t22 =>
 PureS (indexAddrV 2 t12 t22) fun t23 =>
 HeldA 2 S0 t23 (fun t24 =>
 StoreA 2 t4 t24 (fun w =>
 LoadA 2 t4 (fun t4_1 _ =>
 K t4_1 w
 ) w
 ) w.drew
 )
 )
 )
 )
 )
 )
 ) w
theorem s86_den (f0 d1 : Value) (K : Value → World → Prop) (w : World) : denFn Tryz.prog false (bodyOf Tryz.f86) Tryz.f86.results a86 [f0, d1] K NoP w = s86 f0 d1 K w := by kernel_rfl
theorem s86_dst : dstsOk (2 + 23) (bodyOf Tryz.f86) = true := by kernel_rfl
theorem s86_ann : annOk (bodyOf Tryz.f86) a86 = true := by kernel_rfl
theorem s86_call {f0 d1 : Value} {K : Value → World → Prop} {w : World} (hm : Tryz.prog.follows .mixedOrders = true) (h : s86 f0 d1 K w) : CallS Tryz.prog 86 #[f0, d1] K w :=
  fn_call (args := [f0, d1]) (m := 23) hm Tryz.func86 (by kernel_rfl) (rs := Tryz.f86.results) rfl Tryz.ntmps86 s86_dst s86_ann (by rw [s86_den]; exact h)

def a87 : Ann :=
 (.q (.r [.plain 3]) (.q (.r [.plain 9]) (.q (.q (.r [.plain 2]) (.c (.q (.r [.plain 3]) .s) .s)) (.q (.r [.plain 4]) (.q (.q (.r [.plain 2]) (.c (.q (.r [.plain 3]) .s) .s)) (.q (.r [.plain 5]) .s))))))
def s87 (f0 path1 : Value) (K : Value → World → Prop) (w : World) : Prop :=
 CallS Tryz.prog 130 [path1].toArray (fun t13 w =>
 PureS (extractV 0 t13) fun t14 =>
 PureS (extractV 1 t13) fun t15 =>
 PureS (extractV 2 t13) fun t16 =>
 PureS (notV t16) fun t18 =>
 CondS t18 (
 K (Value.tuple [(Value.int .i64 0), (Value.string ⟨#[]⟩), (Value.int .i64 1)].toArray) w
 ) (
 CallS Tryz.prog 84 [f0, t14].toArray (fun t21 w =>
 PureS (binV .lss t21 (Value.int .i64 0)) fun t23 =>
 CondS t23 (
 K (Value.tuple [(Value.int .i64 0), (Value.string ⟨#[]⟩), (Value.int .i64 6)].toArray) w
 ) (
 K (Value.tuple [t21, t15, (Value.int .i64 0)].toArray) w
 )
 ) w
 )
 ) w
theorem s87_den (f0 path1 : Value) (K : Value → World → Prop) (w : World) : denFn Tryz.prog false (bodyOf Tryz.f87) Tryz.f87.results a87 [f0, path1] K NoP w = s87 f0 path1 K w := by kernel_rfl
theorem s87_dst : dstsOk (2 + 24) (bodyOf Tryz.f87) = true := by kernel_rfl
theorem s87_ann : annOk (bodyOf Tryz.f87) a87 = true := by kernel_rfl
theorem s87_call {f0 path1 : Value} {K : Value → World → Prop} {w : World} (hm : Tryz.prog.follows .mixedOrders = true) (h : s87 f0 path1 K w) : CallS Tryz.prog 87 #[f0, path1] K w :=
  fn_call (args := [f0, path1]) (m := 24) hm Tryz.func87 (by kernel_rfl) (rs := Tryz.f87.results) rfl Tryz.ntmps87 s87_dst s87_ann (by rw [s87_den]; exact h)

def a88 : Ann :=
 (.q (.r [.plain 2]) (.j [] 33554416 (.q (.r [.plain 1]) (.b (.l [5] 33554416 (.q (.q (.r [.plain 5]) (.c .s .s)) (.q (.b (.q (.r [.plain 7]) (.c (.q (.r [.plain 6]) .s) .s))) (.r [.plain 3]))))))
  (.q (.r [.plain 1]) .s)))
def s88 (n0 name1 : Value) (K : Value → World → Prop) (w : World) : Prop :=
 BoxS 129 n0 (fun n2 w =>
 JoinS (fun (w : World) =>
 K (Value.int .i64 (-1)) w
 ) fun J0 =>
 LoopS 1 (fun L1 (i5 : Value) (w : World) =>
 PureS (fieldAddrV 0 n2) fun t7 =>
 LoadC t7 (fun t8 w =>
 PureS (lenSliceV t8) fun t9 =>
 PureS (binV .lss i5 t9) fun t10 =>
 CondS t10 (
 PureS (fieldAddrV 0 n2) fun t13 =>
 LoadC t13 (fun t14 w =>
 PureS (indexAddrV 1 t14 i5) fun t16 =>
 LoadC t16 (fun t17 w =>
 PureS (binV .eql t17 name1) fun t19 =>
 CondS t19 (
 PureS (fieldAddrV 1 n2) fun t20 =>
 LoadC t20 (fun t21 w =>
 PureS (indexAddrV 1 t21 i5) fun t23 =>
 LoadC t23 (fun t24 w =>
 K t24 w
 ) w
 ) w
 ) (
 PureS (binV .add i5 (Value.int .i64 1)) fun t12 =>
 L1 t12 w
 )
 ) w
 ) w
 ) (
 J0 w
 )
 ) w
 ) (Value.int .i64 0) w
 ) w
theorem s88_den (n0 name1 : Value) (K : Value → World → Prop) (w : World) : denFn Tryz.prog false (bodyOf Tryz.f88) Tryz.f88.results a88 [n0, name1] K NoP w = s88 n0 name1 K w := by kernel_rfl
theorem s88_dst : dstsOk (2 + 23) (bodyOf Tryz.f88) = true := by kernel_rfl
theorem s88_ann : annOk (bodyOf Tryz.f88) a88 = true := by kernel_rfl
theorem s88_call {n0 name1 : Value} {K : Value → World → Prop} {w : World} (hm : Tryz.prog.follows .mixedOrders = true) (h : s88 n0 name1 K w) : CallS Tryz.prog 88 #[n0, name1] K w :=
  fn_call (args := [n0, name1]) (m := 23) hm Tryz.func88 (by kernel_rfl) (rs := Tryz.f88.results) rfl Tryz.ntmps88 s88_dst s88_ann (by rw [s88_den]; exact h)

def a89 : Ann :=
 (.q (.r [.plain 1]) (.q (.r [.plain 7]) (.j [] 134209536 (.d [0, 0, 0, 0, 0, 24, 56, 120, 252, 0, 512, 2044, 4095, 8191, 16383] (.pur 0 (.pur 1 (.pur 3 (.pur 4 (.pur 5 (.pur 6 (.hld 7 (.hld 9 (.alt 2 (.alt 8 (.act 10 (.act 11 (.pur 12 (.pur 13 (.act 14 .fin))))) (.act 10 (.act 8 (.act 11 (.pur 12 (.pur 13 (.act 14 .fin))))))) (.act 10 (.act 2 (.act 8 (.act 11 (.pur 12 (.pur 13 (.act 14 .fin)))))))))))))))))
  (.r [.plain 5]))))
def s89 (f0 d1 n2 : Value) (K : Value → World → Prop) (w : World) : Prop :=
 BoxS 129 n2 (fun n5 w =>
 RunS Tryz.prog (Instr.buildSlice 96 0 [].toArray) (fun t7 w =>
 PureS (nilV f0) fun t9 =>
 PureS (fieldAddrV 1 t9) fun t10 =>
 LoadC t10 (fun t11 w =>
 RunS Tryz.prog (Builtin.append_ #[96, 96] 96 [t7, t11].toArray) (fun t12 w =>
 JoinS (fun (w : World) =>
 PureS (nilV f0) fun t29 =>
 PureS (fieldAddrV 1 t29) fun t30 =>
 StoreC t30 t12 (fun w =>
 K (Value.tuple [].toArray) w
 ) w
 ) fun J0 =>
 DrawS fun S1 => S1 w.drew ∧ (
 PureS (indexAddrV 2 t12 d1) fun t18 =>
 PureS (fieldAddrV 1 t18) fun t19 =>
 HeldC S1 t19 (fun t20 =>
 HeldA 2 S1 n5 (fun t22 =>
 (
 RunS Tryz.prog (Instr.buildSlice 125 0 [].toArray) (fun t15 w =>
 S1 w ∧ (
 (
 RunS Tryz.prog (Builtin.append_ #[125, 125] 125 [t15, t20].toArray) (fun t21 w =>
 S1 w ∧ (
 RunS Tryz.prog (Instr.buildSlice 125 1 [(0, t22)].toArray) (fun t23 w =>
 S1 w ∧ (
 RunS Tryz.prog (Builtin.append_ #[125, 125] 125 [t21, t23].toArray) (fun t24 w =>
 PureS (indexAddrV 2 t12 d1) fun t25 =>
 PureS (fieldAddrV 1 t25) fun t26 =>
 StoreC t26 t24 (fun w =>
 J0 w
 ) w
 ) w
 )
 ) w
 )
 ) w
 ) ∧ (
 RunS Tryz.prog (Instr.buildSlice 125 1 [(0, t22)].toArray) (fun t23_1 w =>
 S1 w ∧ (
 RunS Tryz.prog (Builtin.append_ #[125, 125] 125 [t15, t20].toArray) (fun t21_1 w =>
 S1 w ∧ (
 RunS Tryz.prog (Builtin.append_ #[125, 125] 125 [t21_1, t23_1].toArray) (fun t24_1 w =>
 PureS (indexAddrV 2 t12 d1) fun t25_1 =>
 PureS (fieldAddrV 1 t25_1) fun t26_1 =>
 StoreC t26_1 t24_1 (fun w =>
 J0 w
 ) w
 ) w
 )
 ) w
 )
 ) w
 )
 )
 ) w.drew
 ) ∧ (
 RunS Tryz.prog (Instr.buildSlice 125 1 [(0, t22)].toArray) (fun t23_2 w =>
 S1 w ∧ (
 RunS Tryz.prog (Instr.buildSlice 125 0 [].toArray) (fun t15_1 w =>
 S1 w ∧ (
 RunS Tryz.prog (Builtin.append_ #[125, 125] 125 [t15_1, t20].toArray) (fun t21_2 w =>
 S1 w ∧ (
 RunS Tryz.prog (Builtin.append_ #[125, 125] 125 [t21_2, t23_2].toArray) (fun t24_2 w =>
 PureS (indexAddrV 2 t12 d1) fun t25_2 =>
 PureS (fieldAddrV 1 t25_2) fun t26_2 =>
 StoreC t26_2 t24_2 (fun w =>
 J0 w
 ) w
 ) w
 )
 ) w
 )
 ) w
 )
 ) w.drew
 )
 )
 )
 )
 ) w
 ) w
 ) w
 ) w
theorem s89_den (f0 d1 n2 : Value) (K : Value → World → Prop) (w : World) : denFn Tryz.prog false (bodyOf Tryz.f89) Tryz.f89.results a89 [f0, d1, n2] K NoP w = s89 f0 d1 n2 K w := by kernel_rfl
theorem s89_dst : dstsOk (3 + 28) (bodyOf Tryz.f89) = true := by kernel_rfl
theorem s89_ann : annOk (bodyOf Tryz.f89) a89 = true := by kernel_rfl
theorem s89_call {f0 d1 n2 : Value} {K : Value → World → Prop} {w : World} (hm : Tryz.prog.follows .mixedOrders = true) (h : s89 f0 d1 n2 K w) : CallS Tryz.prog 89 #[f0, d1, n2] K w :=
  fn_call (args := [f0, d1, n2]) (m := 28) hm Tryz.func89 (by kernel_rfl) (rs := Tryz.f89.results) rfl Tryz.ntmps89 s89_dst s89_ann (by rw [s89_den]; exact h)

def a90 : Ann :=
 (.q (.r [.plain 2]) (.q (.r [.plain 1]) (.q (.r [.plain 3]) (.j [8] 590295810358705648384 (.q (.r [.plain 1]) (.b (.l [8, 9] 590295810358705648384 (.q (.q (.r [.plain 5]) (.c .s .s)) (.j [8] 590295810358705127680 (.b (.j [8] 4398045987072 (.q (.r [.plain 3, .grp 7 [28] 532676608, .plain 1]) (.c (.j [] 4396972769280 (.d [0, 1, 0, 4, 15, 0, 32, 0, 128, 511, 127, 2047, 4095, 8191] (.pur 0 (.pur 2 (.pur 5 (.pur 7 (.hld 1 (.hld 6 (.alt 3 (.alt 4 (.pur 10 (.act 8 (.act 9 (.act 11 (.pur 12 (.act 13 .fin)))))) (.act 8 (.act 4 (.pur 10 (.act 9 (.act 11 (.pur 12 (.act 13 .fin)))))))) (.act 8 (.act 3 (.act 4 (.pur 10 (.act 9 (.act 11 (.pur 12 (.act 13 .fin))))))))))))))))
  (.r [.plain 1])) .s))
  (.q (.r [.plain 7]) (.c (.d [0, 1, 0, 4, 0, 28, 60, 124, 255, 0, 512, 0, 2048, 0, 14336, 30720, 63488, 131071, 2047, 524287, 1048575, 2097151] (.pur 0 (.pur 2 (.pur 4 (.pur 9 (.pur 11 (.pur 13 (.hld 1 (.hld 3 (.pur 5 (.hld 6 (.hld 10 (.hld 12 (.pur 14 (.hld 15 (.alt 7 (.alt 8 (.pur 18 (.act 16 (.act 17 (.act 19 (.pur 20 (.act 21 .fin)))))) (.act 16 (.act 8 (.pur 18 (.act 17 (.act 19 (.pur 20 (.act 21 .fin)))))))) (.act 16 (.act 7 (.act 8 (.pur 18 (.act 17 (.act 19 (.pur 20 (.act 21 .fin)))))))))))))))))))))))) .s))))
  (.r [.plain 3]))))))
  (.j [] 9670816261106674691997696 (.q (.r [.plain 2]) (.c (.d [0, 1, 0, 4, 15, 0, 32, 0, 128, 511, 127, 2047, 4095, 8191] (.pur 0 (.pur 2 (.pur 5 (.pur 7 (.hld 1 (.hld 6 (.alt 3 (.alt 4 (.pur 10 (.act 8 (.act 9 (.act 11 (.pur 12 (.act 13 .fin)))))) (.act 8 (.act 4 (.pur 10 (.act 9 (.act 11 (.pur 12 (.act 13 .fin)))))))) (.act 8 (.act 3 (.act 4 (.pur 10 (.act 9 (.act 11 (.pur 12 (.act 13 .fin)))))))))))))))) .s))
  (.q (.r [.plain 2]) .s))))))
def s90 (n0 name1 file2 : Value) (K : Value → World → Prop) (w : World) : Prop :=
 BoxS 129 n0 (fun n3 w =>
 BoxS 129 (Value.agg #[(Value.slice none 0 0), (Value.slice none 0 0)]) (fun t6 w =>
 BoxS 129 (Value.agg #[(Value.slice none 0 0), (Value.slice none 0 0)]) (fun out7 w =>
 PureS (binV .lss file2 (Value.int .i64 0)) fun t11 =>
 JoinS (fun (put8 : Value) (w : World) =>
 JoinS (fun (w : World) =>
 LoadA 2 out7 (fun t83 w =>
 StoreA 2 t6 t83 (fun w =>
 LoadA 2 t6 (fun t6_1 _ =>
 K t6_1 w
 ) w
 ) w
 ) w
 ) fun J1 =>
 PureS (notV put8) fun t70 =>
 CondS t70 (
 DrawS fun S2 => S2 w.drew ∧ (
 PureS (fieldAddrV 0 out7) fun t71 =>
 PureS (fieldAddrV 1 out7) fun t76 =>
 HeldC S2 t71 (fun t72 =>
 HeldC S2 t76 (fun t77 =>
 (
 RunS Tryz.prog (Instr.buildSlice 61 1 [(0, name1)].toArray) (fun t74 w =>
 S2 w ∧ (
 (
 RunS Tryz.prog (Builtin.append_ #[61, 61] 61 [t72, t74].toArray) (fun t75 w =>
 S2 w ∧ (
 PureS (fieldAddrV 0 out7) fun t81 =>
 RunS Tryz.prog (Instr.buildSlice 23 1 [(0, file2)].toArray) (fun t79 w =>
 S2 w ∧ (
 RunS Tryz.prog (Builtin.append_ #[23, 23] 23 [t77, t79].toArray) (fun t80 w =>
 StoreC t81 t75 (fun w =>
 PureS (fieldAddrV 1 out7) fun t82 =>
 StoreC t82 t80 (fun w =>
 J1 w
 ) w
 ) w
 ) w
 )
 ) w
 )
 ) w
 ) ∧ (
 RunS Tryz.prog (Instr.buildSlice 23 1 [(0, file2)].toArray) (fun t79_1 w =>
 S2 w ∧ (
 RunS Tryz.prog (Builtin.append_ #[61, 61] 61 [t72, t74].toArray) (fun t75_1 w =>
 S2 w ∧ (
 PureS (fieldAddrV 0 out7) fun t81_1 =>
 RunS Tryz.prog (Builtin.append_ #[23, 23] 23 [t77, t79_1].toArray) (fun t80_1 w =>
 StoreC t81_1 t75_1 (fun w =>
 PureS (fieldAddrV 1 out7) fun t82_1 =>
 StoreC t82_1 t80_1 (fun w =>
 J1 w
 ) w
 ) w
 ) w
 )
 ) w
 )
 ) w
 )
 )
 ) w.drew
 ) ∧ (
 RunS Tryz.prog (Instr.buildSlice 23 1 [(0, file2)].toArray) (fun t79_2 w =>
 S2 w ∧ (
 RunS Tryz.prog (Instr.buildSlice 61 1 [(0, name1)].toArray) (fun t74_1 w =>
 S2 w ∧ (
 RunS Tryz.prog (Builtin.append_ #[61, 61] 61 [t72, t74_1].toArray) (fun t75_2 w =>
 S2 w ∧ (
 PureS (fieldAddrV 0 out7) fun t81_2 =>
 RunS Tryz.prog (Builtin.append_ #[23, 23] 23 [t77, t79_2].toArray) (fun t80_2 w =>
 StoreC t81_2 t75_2 (fun w =>
 PureS (fieldAddrV 1 out7) fun t82_2 =>
 StoreC t82_2 t80_2 (fun w =>
 J1 w
 ) w
 ) w
 ) w
 )
 ) w
 )
 ) w
 )
 ) w.drew
 )
 )
 )
 )
 ) (
 J1 w
 )
 ) fun J0 =>
 LoopS 2 (fun L3 (put8_1 i9 : Value) (w : World) =>
 PureS (fieldAddrV 0 n3) fun t13 =>
 LoadC t13 (fun t14 w =>
 PureS (lenSliceV t14) fun t15 =>
 PureS (binV .lss i9 t15) fun t16 =>
 CondS t16 (
 JoinS (fun (put8_2 : Value) (w : World) =>
 PureS (binV .add i9 (Value.int .i64 1)) fun t18 =>
 L3 put8_2 t18 w
 ) fun J4 =>
 JoinS (fun (put8_3 : Value) (w : World) =>
 PureS (fieldAddrV 0 n3) fun t42 =>
 LoadC t42 (fun t43 w =>
 PureS (indexAddrV 1 t43 i9) fun t45 =>
 LoadC t45 (fun t46 w =>
 PureS (binV .neq t46 name1) fun t48 =>
 CondS t48 (
 DrawS fun S6 => S6 w.drew ∧ (
 PureS (fieldAddrV 0 out7) fun t49 =>
 PureS (fieldAddrV 0 n3) fun t51 =>
 PureS (fieldAddrV 1 out7) fun t58 =>
 PureS (fieldAddrV 1 n3) fun t60 =>
 HeldC S6 t49 (fun t50 =>
 HeldC S6 t51 (fun t52 =>
 PureS (indexAddrV 1 t52 i9) fun t54 =>
 HeldC S6 t54 (fun t55 =>
 HeldC S6 t58 (fun t59 =>
 HeldC S6 t60 (fun t61 =>
 PureS (indexAddrV 1 t61 i9) fun t63 =>
 HeldC S6 t63 (fun t64 =>
 (
 RunS Tryz.prog (Instr.buildSlice 61 1 [(0, t55)].toArray) (fun t56 w =>
 S6 w ∧ (
 (
 RunS Tryz.prog (Builtin.append_ #[61, 61] 61 [t50, t56].toArray) (fun t57 w =>
 S6 w ∧ (
 PureS (fieldAddrV 0 out7) fun t67 =>
 RunS Tryz.prog (Instr.buildSlice 23 1 [(0, t64)].toArray) (fun t65 w =>
 S6 w ∧ (
 RunS Tryz.prog (Builtin.append_ #[23, 23] 23 [t59, t65].toArray) (fun t66 w =>
 StoreC t67 t57 (fun w =>
 PureS (fieldAddrV 1 out7) fun t68 =>
 StoreC t68 t66 (fun w =>
 J4 put8_3 w
 ) w
 ) w
 ) w
 )
 ) w
 )
 ) w
 ) ∧ (
 RunS Tryz.prog (Instr.buildSlice 23 1 [(0, t64)].toArray) (fun t65_1 w =>
 S6 w ∧ (
 RunS Tryz.prog (Builtin.append_ #[61, 61] 61 [t50, t56].toArray) (fun t57_1 w =>
 S6 w ∧ (
 PureS (fieldAddrV 0 out7) fun t67_1 =>
 RunS Tryz.prog (Builtin.append_ #[23, 23] 23 [t59, t65_1].toArray) (fun t66_1 w =>
 StoreC t67_1 t57_1 (fun w =>
 PureS (fieldAddrV 1 out7) fun t68_1 =>
 StoreC t68_1 t66_1 (fun w =>
 J4 put8_3 w
 ) w
 ) w
 ) w
 )
 ) w
 )
 ) w
 )
 )
 ) w.drew
 ) ∧ (
 RunS Tryz.prog (Instr.buildSlice 23 1 [(0, t64)].toArray) (fun t65_2 w =>
 S6 w ∧ (
 RunS Tryz.prog (Instr.buildSlice 61 1 [(0, t55)].toArray) (fun t56_1 w =>
 S6 w ∧ (
 RunS Tryz.prog (Builtin.append_ #[61, 61] 61 [t50, t56_1].toArray) (fun t57_2 w =>
 S6 w ∧ (
 PureS (fieldAddrV 0 out7) fun t67_2 =>
 RunS Tryz.prog (Builtin.append_ #[23, 23] 23 [t59, t65_2].toArray) (fun t66_2 w =>
 StoreC t67_2 t57_2 (fun w =>
 PureS (fieldAddrV 1 out7) fun t68_2 =>
 StoreC t68_2 t66_2 (fun w =>
 J4 put8_3 w
 ) w
 ) w
 ) w
 )
 ) w
 )
 ) w
 )
 ) w.drew
 )
 )
 )
 )
 )
 )
 )
 )
 ) (
 J4 put8_3 w
 )
 ) w
 ) w
 ) fun J5 =>
 PureS (notV put8_1) fun t20 =>
 JoinS (fun (t28 : Value) (w : World) =>
 PureS (pickV t20 t28 (Value.bool false)) fun t29 =>
 CondS t29 (
 JoinS (fun (w : World) =>
 J5 (Value.bool true) w
 ) fun J8 =>
 DrawS fun S9 => S9 w.drew ∧ (
 PureS (fieldAddrV 0 out7) fun t30 =>
 PureS (fieldAddrV 1 out7) fun t35 =>
 HeldC S9 t30 (fun t31 =>
 HeldC S9 t35 (fun t36 =>
 (
 RunS Tryz.prog (Instr.buildSlice 61 1 [(0, name1)].toArray) (fun t33 w =>
 S9 w ∧ (
 (
 RunS Tryz.prog (Builtin.append_ #[61, 61] 61 [t31, t33].toArray) (fun t34 w =>
 S9 w ∧ (
 PureS (fieldAddrV 0 out7) fun t40 =>
 RunS Tryz.prog (Instr.buildSlice 23 1 [(0, file2)].toArray) (fun t38 w =>
 S9 w ∧ (
 RunS Tryz.prog (Builtin.append_ #[23, 23] 23 [t36, t38].toArray) (fun t39 w =>
 StoreC t40 t34 (fun w =>
 PureS (fieldAddrV 1 out7) fun t41 =>
 StoreC t41 t39 (fun w =>
 J8 w
 ) w
 ) w
 ) w
 )
 ) w
 )
 ) w
 ) ∧ (
 RunS Tryz.prog (Instr.buildSlice 23 1 [(0, file2)].toArray) (fun t38_1 w =>
 S9 w ∧ (
 RunS Tryz.prog (Builtin.append_ #[61, 61] 61 [t31, t33].toArray) (fun t34_1 w =>
 S9 w ∧ (
 PureS (fieldAddrV 0 out7) fun t40_1 =>
 RunS Tryz.prog (Builtin.append_ #[23, 23] 23 [t36, t38_1].toArray) (fun t39_1 w =>
 StoreC t40_1 t34_1 (fun w =>
 PureS (fieldAddrV 1 out7) fun t41_1 =>
 StoreC t41_1 t39_1 (fun w =>
 J8 w
 ) w
 ) w
 ) w
 )
 ) w
 )
 ) w
 )
 )
 ) w.drew
 ) ∧ (
 RunS Tryz.prog (Instr.buildSlice 23 1 [(0, file2)].toArray) (fun t38_2 w =>
 S9 w ∧ (
 RunS Tryz.prog (Instr.buildSlice 61 1 [(0, name1)].toArray) (fun t33_1 w =>
 S9 w ∧ (
 RunS Tryz.prog (Builtin.append_ #[61, 61] 61 [t31, t33_1].toArray) (fun t34_2 w =>
 S9 w ∧ (
 PureS (fieldAddrV 0 out7) fun t40_2 =>
 RunS Tryz.prog (Builtin.append_ #[23, 23] 23 [t36, t38_2].toArray) (fun t39_2 w =>
 StoreC t40_2 t34_2 (fun w =>
 PureS (fieldAddrV 1 out7) fun t41_2 =>
 StoreC t41_2 t39_2 (fun w =>
 J8 w
 ) w
 ) w
 ) w
 )
 ) w
 )
 ) w
 )
 ) w.drew
 )
 )
 )
 )
 ) (
 J5 put8_1 w
 )
 ) fun J7 =>
 IfB t20 true (
 PureS (fieldAddrV 0 n3) fun t22 =>
 LoadC t22 (fun t23 w =>
 PureS (indexAddrV 1 t23 i9) fun t25 =>
 LoadC t25 (fun t26 w =>
 PureS (binV .geq t26 name1) fun t28_1 =>
 J7 t28_1 w
 ) w
 ) w
 ) (
 J7 undef w
 )
 ) (
 J0 put8_1 w
 )
 ) w
 ) t11 (Value.int .i64 0) w
 ) w
 ) w
 ) w
theorem s90_den (n0 name1 file2 : Value) (K : Value → World → Prop) (w : World) : denFn Tryz.prog false (bodyOf Tryz.f90) Tryz.f90.results a90 [n0, name1, file2] K NoP w = s90 n0 name1 file2 K w := by kernel_rfl
theorem s90_dst : dstsOk (3 + 81) (bodyOf Tryz.f90) = true := by kernel_rfl
theorem s90_ann : annOk (bodyOf Tryz.f90) a90 = true := by kernel_rfl
theorem s90_call {n0 name1 file2 : Value} {K : Value → World → Prop} {w : World} (hm : Tryz.prog.follows .mixedOrders = true) (h : s90 n0 name1 file2 K w) : CallS Tryz.prog 90 #[n0, name1, file2] K w :=
  fn_call (args := [n0, name1, file2]) (m := 81) hm Tryz.func90 (by kernel_rfl) (rs := Tryz.f90.results) rfl Tryz.ntmps90 s90_dst s90_ann (by rw [s90_den]; exact h)

def a91 : Ann :=
 (.q (.r [.plain 1]) (.q (.r [.plain 7]) .s))
def s91 (b0 : Value) (K : Value → World → Prop) (w : World) : Prop :=
 PureS (lenSliceV b0) fun t4 =>
 PureS (binV .add t4 (Value.int .i64 2)) fun t5 =>
 RunS Tryz.prog (Instr.makeSlice 34 (Value.int .i64 0) t5) (fun t6 w =>
 RunS Tryz.prog (Builtin.append_ #[34, 34] 34 [t6, b0].toArray) (fun t8 w =>
 K t8 w
 ) w
 ) w
theorem s91_den (b0 : Value) (K : Value → World → Prop) (w : World) : denFn Tryz.prog false (bodyOf Tryz.f91) Tryz.f91.results a91 [b0] K NoP w = s91 b0 K w := by kernel_rfl
theorem s91_dst : dstsOk (1 + 8) (bodyOf Tryz.f91) = true := by kernel_rfl
theorem s91_ann : annOk (bodyOf Tryz.f91) a91 = true := by kernel_rfl
theorem s91_call {b0 : Value} {K : Value → World → Prop} {w : World} (hm : Tryz.prog.follows .mixedOrders = true) (h : s91 b0 K w) : CallS Tryz.prog 91 #[b0] K w :=
  fn_call (args := [b0]) (m := 8) hm Tryz.func91 (by kernel_rfl) (rs := Tryz.f91.results) rfl Tryz.ntmps91 s91_dst s91_ann (by rw [s91_den]; exact h)

def a92 : Ann :=
 (.q (.r [.plain 1]) (.q (.r [.plain 8]) (.q (.q (.r [.plain 2]) (.c (.q (.r [.plain 2]) .s) .s)) (.q (.r [.plain 10]) (.q (.q (.r [.plain 3, .grp 3 [38] 481036337152, .plain 1]) (.c (.q (.r [.plain 1]) .s) .s)) (.q (.r [.plain 7]) (.q (.j [66] 147573882220932235264 (.d [0, 1, 3, 7, 7, 23, 55, 119, 255, 511, 1023, 2047, 1023, 5119, 13311, 29695, 1023, 127999, 262143, 524287, 1048575] (.pur 0 (.pur 1 (.pur 2 (.ite 2 (.pur 3 (.pur 4 (.pur 5 (.pur 6 (.hld 7 (.pur 8 (.pur 9 (.ite 9 (.skp 10 (.skp 11 (.skp 12 (.skp 13 (.skp 14 (.skp 15 (.skp 16 (.skp 17 (.skp 18 (.pur 19 (.pur 20 .fin))))))))))) (.pur 10 (.pur 12 (.pur 13 (.pur 14 (.pur 16 (.hld 15 (.pur 17 (.act 11 (.pur 18 (.pur 19 (.pur 20 .fin))))))))))))))))))) (.skp 3 (.skp 4 (.skp 5 (.skp 6 (.skp 7 (.skp 8 (.skp 9 (.skp 10 (.skp 11 (.skp 12 (.skp 13 (.skp 14 (.skp 15 (.skp 16 (.skp 17 (.skp 18 (.skp 19 (.pur 20 .fin)))))))))))))))))))))))
  (.c (.q (.r [.plain 1]) .s) .s)) (.q (.r [.plain 7]) (.j [3] 297509088420787648462856 (.q (.r [.plain 1]) (.c (.r [.plain 6]) .s))
  (.j [] 2596148428965182359361590870949888 (.q (.r [.plain 3, .grp 1 [81] 2417851639229258349412352, .plain 2, .grp 3 [86] 135399691796838467567091712, .plain 1]) (.c (.q (.r [.plain 9]) (.q (.r [.plain 13]) (.r [.plain 4]))) .s))
  (.q (.r [.plain 2]) .s)))))))))))
def s92 (f0 path1 at2 b3 : Value) (K : Value → World → Prop) (w : World) : Prop :=
 CallS Tryz.prog 94 [f0, path1].toArray (fun t18 w =>
 PureS (extractV 0 t18) fun t19 =>
 PureS (extractV 1 t18) fun t20 =>
 PureS (binV .neq t20 (Value.int .i64 0)) fun t22 =>
 CondS t22 (
 K t20 w
 ) (
 PureS (nilV f0) fun t25 =>
 PureS (fieldAddrV 2 t25) fun t26 =>
 LoadC t26 (fun t27 w =>
 PureS (indexAddrV 2 t27 t19) fun t29 =>
 LoadA 2 t29 (fun t30 w =>
 CallS Tryz.prog 95 [t30].toArray (fun t31 w =>
 PureS (lenSliceV t31) fun t32 =>
 PureS (binV .lss at2 (Value.int .i64 0)) fun t34 =>
 JoinS (fun (t38 : Value) (w : World) =>
 PureS (pickV t34 (Value.bool true) t38) fun t39 =>
 CondS t39 (
 K (Value.int .i64 1) w
 ) (
 PureS (lenSliceV b3) fun t41 =>
 PureS (binV .sub t32 at2) fun t44 =>
 PureS (binV .sub t41 t44) fun t45 =>
 JoinS (fun (t66 : Value) (w : World) =>
 CondS t66 (
 K (Value.int .i64 20) w
 ) (
 CallS Tryz.prog 129 [f0].toArray (fun t69 w =>
 PureS (extractV 0 t69) fun t70 =>
 PureS (extractV 1 t69) fun t71 =>
 JoinS (fun (b3_1 : Value) (w : World) =>
 JoinS (fun (w : World) =>
 K t70 w
 ) fun J3 =>
 PureS (binV .eql t70 (Value.int .i64 0)) fun t79 =>
 JoinS (fun (t81 : Value) (w : World) =>
 PureS (pickV t79 (Value.bool true) t81) fun t82 =>
 JoinS (fun (t86 : Value) (w : World) =>
 PureS (pickV t82 t86 (Value.bool false)) fun t87 =>
 CondS t87 (
 PureS (nilV f0) fun t89 =>
 PureS (fieldAddrV 2 t89) fun t90 =>
 LoadC t90 (fun t91 w =>
 PureS (indexAddrV 2 t91 t19) fun t93 =>
 LoadA 2 t93 (fun t94 w =>
 BoxS 135 (Value.agg #[(Value.slice none 0 0), (Value.slice none 0 0)]) (fun x14 w =>
 StoreA 2 x14 t94 (fun w =>
 RunS Tryz.prog (Instr.buildSlice 133 0 [].toArray) (fun t95 w =>
 PureS (fieldAddrV 1 x14) fun t96 =>
 LoadC t96 (fun t97 w =>
 RunS Tryz.prog (Builtin.append_ #[133, 133] 133 [t95, t97].toArray) (fun t98 w =>
 RunS Tryz.prog (Instr.buildSlice 34 0 [].toArray) (fun t100 w =>
 RunS Tryz.prog (Builtin.append_ #[34, 34] 34 [t100, b3_1].toArray) (fun t102 w =>
 RunS Tryz.prog (Instr.build 160 [(0, at2), (1, t102)].toArray) (fun t103 w =>
 RunS Tryz.prog (Instr.buildSlice 133 1 [(0, t103)].toArray) (fun t104 w =>
 RunS Tryz.prog (Builtin.append_ #[133, 133] 133 [t98, t104].toArray) (fun t105 w =>
 PureS (fieldAddrV 1 x14) fun t106 =>
 StoreC t106 t105 (fun w =>
 LoadA 2 x14 (fun t109 w =>
 CallS Tryz.prog 96 [f0, t19, t109].toArray (fun t110 w =>
 J3 w
 ) w
 ) w
 ) w
 ) w
 ) w
 ) w
 ) w
 ) w
 ) w
 ) w
 ) w
 ) w
 ) w
 ) w
 ) w
 ) (
 J3 w
 )
 ) fun J5 =>
 IfB t82 true (
 PureS (lenSliceV b3_1) fun t85 =>
 PureS (binV .gtr t85 (Value.int .i64 0)) fun t86_1 =>
 J5 t86_1 w
 ) (
 J5 undef w
 )
 ) fun J4 =>
 IfB t79 false (
 J4 t71 w
 ) (
 J4 undef w
 )
 ) fun J2 =>
 CondS t71 (
 PureS (lenSliceV b3) fun t75 =>
 PureS (binV .quo t75 (Value.int .i64 2)) fun t76 =>
 PureS (sliceV 1 b3 none (some t76)) fun t77 =>
 J2 t77 w
 ) (
 J2 b3 w
 )
 ) w
 )
 ) fun J1 =>
 DrawS fun S6 => S6 w.drew ∧ (
 PureS (binV .gtr t45 (Value.int .i64 0)) fun t47 =>
 CondS t47 (
 PureS (nilV f0) fun t51 =>
 PureS (fieldAddrV 0 t51) fun t52 =>
 HeldC S6 t52 (fun t53 =>
 PureS (binV .gtr t45 t53) fun t54 =>
 CondS t54 (
 PureS (pickV (Value.bool true) (Value.bool true) undef) fun t65 =>
 PureS (pickV (Value.bool true) t65 (Value.bool false)) fun t66_1 =>
 J1 t66_1 w.drew
 ) (
 PureS (nilV f0) fun t59 =>
 PureS (fieldAddrV 0 t59) fun t60 =>
 HeldC S6 t60 (fun t61 =>
 PureS (binV .sub t61 t45) fun t63 =>
 CallS Tryz.prog 64 [f0].toArray (fun t57 w =>
 S6 w ∧ (
 PureS (binV .gtr t57 t63) fun t64 =>
 PureS (pickV (Value.bool false) (Value.bool true) t64) fun t65_1 =>
 PureS (pickV (Value.bool true) t65_1 (Value.bool false)) fun t66_2 =>
 J1 t66_2 w
 )
 ) w.drew
 )
 )
 )
 ) (
 PureS (pickV (Value.bool false) undef (Value.bool false)) fun t66_3 =>
 J1 t66_3 w.drew
 )
 )
 )
 ) fun J0 =>
 IfB t34 false (
 PureS (binV .gtr at2 t32) fun t38_1 =>
 J0 t38_1 w
 ) (
 J0 undef w
 )
 ) w
 ) w
 ) w
 )
 ) w
theorem s92_den (f0 path1 at2 b3 : Value) (K : Value → World → Prop) (w : World) : denFn Tryz.prog false (bodyOf Tryz.f92) Tryz.f92.results a92 [f0, path1, at2, b3] K NoP w = s92 f0 path1 at2 b3 K w := by kernel_rfl
theorem s92_dst : dstsOk (4 + 108) (bodyOf Tryz.f92) = true := by kernel_rfl
theorem s92_ann : annOk (bodyOf Tryz.f92) a92 = true := by kernel_rfl
theorem s92_call {f0 path1 at2 b3 : Value} {K : Value → World → Prop} {w : World} (hm : Tryz.prog.follows .mixedOrders = true) (h : s92 f0 path1 at2 b3 K w) : CallS Tryz.prog 92 #[f0, path1, at2, b3] K w :=
  fn_call (args := [f0, path1, at2, b3]) (m := 108) hm Tryz.func92 (by kernel_rfl) (rs := Tryz.f92.results) rfl Tryz.ntmps92 s92_dst s92_ann (by rw [s92_den]; exact h)

def a93 : Ann :=
 (.q (.r [.plain 1]) (.q (.r [.plain 8]) (.q (.q (.r [.plain 2]) (.c (.q (.r [.plain 2]) .s) .s)) (.q (.r [.plain 14]) .s))))
def s93 (f0 path1 b2 : Value) (K : Value → World → Prop) (w : World) : Prop :=
 CallS Tryz.prog 94 [f0, path1].toArray (fun t12 w =>
 PureS (extractV 0 t12) fun t13 =>
 PureS (extractV 1 t12) fun t14 =>
 PureS (binV .neq t14 (Value.int .i64 0)) fun t16 =>
 CondS t16 (
 K t14 w
 ) (
 PureS (nilV f0) fun t21 =>
 PureS (fieldAddrV 2 t21) fun t22 =>
 LoadC t22 (fun t23 w =>
 PureS (indexAddrV 2 t23 t13) fun t25 =>
 LoadA 2 t25 (fun t26 w =>
 CallS Tryz.prog 95 [t26].toArray (fun t27 w =>
 PureS (lenSliceV t27) fun t28 =>
 CallS Tryz.prog 92 [f0, path1, t28, b2].toArray (fun t30 w =>
 K t30 w
 ) w
 ) w
 ) w
 ) w
 )
 ) w
theorem s93_den (f0 path1 b2 : Value) (K : Value → World → Prop) (w : World) : denFn Tryz.prog false (bodyOf Tryz.f93) Tryz.f93.results a93 [f0, path1, b2] K NoP w = s93 f0 path1 b2 K w := by kernel_rfl
theorem s93_dst : dstsOk (3 + 28) (bodyOf Tryz.f93) = true := by kernel_rfl
theorem s93_ann : annOk (bodyOf Tryz.f93) a93 = true := by kernel_rfl
theorem s93_call {f0 path1 b2 : Value} {K : Value → World → Prop} {w : World} (hm : Tryz.prog.follows .mixedOrders = true) (h : s93 f0 path1 b2 K w) : CallS Tryz.prog 93 #[f0, path1, b2] K w :=
  fn_call (args := [f0, path1, b2]) (m := 28) hm Tryz.func93 (by kernel_rfl) (rs := Tryz.f93.results) rfl Tryz.ntmps93 s93_dst s93_ann (by rw [s93_den]; exact h)

def a94 : Ann :=
 (.q (.r [.plain 2]) (.q (.r [.plain 10]) (.q (.q (.r [.plain 2]) (.c (.q (.r [.plain 3]) .s) .s)) (.q (.r [.plain 6]) (.q (.q (.r [.plain 2]) (.c (.q (.r [.plain 2]) .s) .s)) (.q (.r [.plain 3]) .s))))))
def s94 (f0 path1 : Value) (K : Value → World → Prop) (w : World) : Prop :=
 CallS Tryz.prog 87 [f0, path1].toArray (fun t13 w =>
 PureS (extractV 0 t13) fun t14 =>
 PureS (extractV 1 t13) fun t15 =>
 PureS (extractV 2 t13) fun t16 =>
 PureS (binV .neq t16 (Value.int .i64 0)) fun t18 =>
 CondS t18 (
 K (Value.tuple [(Value.int .i64 0), t16].toArray) w
 ) (
 CallS Tryz.prog 86 [f0, t14].toArray (fun t22 w =>
 CallS Tryz.prog 88 [t22, t15].toArray (fun t24 w =>
 PureS (binV .lss t24 (Value.int .i64 0)) fun t26 =>
 CondS t26 (
 K (Value.tuple [(Value.int .i64 0), (Value.int .i64 6)].toArray) w
 ) (
 K (Value.tuple [t24, (Value.int .i64 0)].toArray) w
 )
 ) w
 ) w
 )
 ) w
theorem s94_den (f0 path1 : Value) (K : Value → World → Prop) (w : World) : denFn Tryz.prog false (bodyOf Tryz.f94) Tryz.f94.results a94 [f0, path1] K NoP w = s94 f0 path1 K w := by kernel_rfl
theorem s94_dst : dstsOk (2 + 26) (bodyOf Tryz.f94) = true := by kernel_rfl
theorem s94_ann : annOk (bodyOf Tryz.f94) a94 = true := by kernel_rfl
theorem s94_call {f0 path1 : Value} {K : Value → World → Prop} {w : World} (hm : Tryz.prog.follows .mixedOrders = true) (h : s94 f0 path1 K w) : CallS Tryz.prog 94 #[f0, path1] K w :=
  fn_call (args := [f0, path1]) (m := 26) hm Tryz.func94 (by kernel_rfl) (rs := Tryz.f94.results) rfl Tryz.ntmps94 s94_dst s94_ann (by rw [s94_den]; exact h)

def a95 : Ann :=
 (.q (.r [.plain 2]) (.q (.r [.plain 5]) (.j [3] 8388120 (.q (.r [.plain 1]) (.b (.l [3, 4] 8388120 (.q (.q (.r [.plain 5]) (.c .s .s)) (.q (.b (.r [.plain 8])) (.r [.plain 3]))))))
  (.q (.r [.plain 2]) .s))))
def s95 (x0 : Value) (K : Value → World → Prop) (w : World) : Prop :=
 BoxS 135 x0 (fun x1 w =>
 RunS Tryz.prog (Instr.buildSlice 34 0 [].toArray) (fun t5 w =>
 PureS (fieldAddrV 0 x1) fun t6 =>
 LoadC t6 (fun t7 w =>
 RunS Tryz.prog (Builtin.append_ #[34, 34] 34 [t5, t7].toArray) (fun t8 w =>
 JoinS (fun (b3 : Value) (w : World) =>
 K b3 w
 ) fun J0 =>
 LoopS 2 (fun L1 (b3_1 i4 : Value) (w : World) =>
 PureS (fieldAddrV 1 x1) fun t10 =>
 LoadC t10 (fun t11 w =>
 PureS (lenSliceV t11) fun t12 =>
 PureS (binV .lss i4 t12) fun t13 =>
 CondS t13 (
 PureS (fieldAddrV 1 x1) fun t17 =>
 LoadC t17 (fun t18 w =>
 PureS (indexAddrV 2 t18 i4) fun t20 =>
 LoadA 2 t20 (fun t21 w =>
 CallS Tryz.prog 131 [b3_1, t21].toArray (fun t22 w =>
 PureS (binV .add i4 (Value.int .i64 1)) fun t15 =>
 L1 t22 t15 w
 ) w
 ) w
 ) w
 ) (
 J0 b3_1 w
 )
 ) w
 ) t8 (Value.int .i64 0) w
 ) w
 ) w
 ) w
 ) w
theorem s95_den (x0 : Value) (K : Value → World → Prop) (w : World) : denFn Tryz.prog false (bodyOf Tryz.f95) Tryz.f95.results a95 [x0] K NoP w = s95 x0 K w := by kernel_rfl
theorem s95_dst : dstsOk (1 + 23) (bodyOf Tryz.f95) = true := by kernel_rfl
theorem s95_ann : annOk (bodyOf Tryz.f95) a95 = true := by kernel_rfl
theorem s95_call {x0 : Value} {K : Value → World → Prop} {w : World} (hm : Tryz.prog.follows .mixedOrders = true) (h : s95 x0 K w) : CallS Tryz.prog 95 #[x0] K w :=
  fn_call (args := [x0]) (m := 23) hm Tryz.func95 (by kernel_rfl) (rs := Tryz.f95.results) rfl Tryz.ntmps95 s95_dst s95_ann (by rw [s95_den]; exact h)

def a96 : Ann :=
 (.q (.r [.plain 1]) (.q (.r [.plain 10]) (.d [0, 1, 3, 7, 0, 0, 63, 127] (.pur 0 (.pur 1 (.pur 2 (.pur 4 (.hld 3 (.hld 5 (.pur 6 (.act 7 .fin)))))))))))
def s96 (f0 i1 x2 : Value) (K : Value → World → Prop) (w : World) : Prop :=
 BoxS 135 x2 (fun x5 w =>
 RunS Tryz.prog (Instr.buildSlice 97 0 [].toArray) (fun t7 w =>
 PureS (nilV f0) fun t9 =>
 PureS (fieldAddrV 2 t9) fun t10 =>
 LoadC t10 (fun t11 w =>
 RunS Tryz.prog (Builtin.append_ #[97, 97] 97 [t7, t11].toArray) (fun t12 w =>
 PureS (nilV f0) fun t13 =>
 PureS (fieldAddrV 2 t13) fun t14 =>
 StoreC t14 t12 (fun w =>
 DrawS fun S0 => S0 w.drew ∧ (
 PureS (nilV f0) fun t16 =>
 PureS (fieldAddrV 2 t16) fun t17 =>
 HeldC S0 t17 (fun t18 =>
 HeldA 2 S0 x5 (fun t20 =>
 PureS (indexAddrV 2 t18 i1) fun t21 =>
 StoreA 2 t21 t20 (fun w =>
 K (Value.tuple [].toArray) w
 ) w.drew
 )
 )
 )
 ) w
 ) w
 ) w
 ) w
 ) w
theorem s96_den (f0 i1 x2 : Value) (K : Value → World → Prop) (w : World) : denFn Tryz.prog false (bodyOf Tryz.f96) Tryz.f96.results a96 [f0, i1, x2] K NoP w = s96 f0 i1 x2 K w := by kernel_rfl
theorem s96_dst : dstsOk (3 + 19) (bodyOf Tryz.f96) = true := by kernel_rfl
theorem s96_ann : annOk (bodyOf Tryz.f96) a96 = true := by kernel_rfl
theorem s96_call {f0 i1 x2 : Value} {K : Value → World → Prop} {w : World} (hm : Tryz.prog.follows .mixedOrders = true) (h : s96 f0 i1 x2 K w) : CallS Tryz.prog 96 #[f0, i1, x2] K w :=
  fn_call (args := [f0, i1, x2]) (m := 19) hm Tryz.func96 (by kernel_rfl) (rs := Tryz.f96.results) rfl Tryz.ntmps96 s96_dst s96_ann (by rw [s96_den]; exact h)

def a97 : Ann :=
 (.q (.r [.plain 6]) (.q (.q (.r [.plain 10]) (.q (.r [.plain 2]) (.c .s .s))) (.q (.q (.r [.plain 10]) (.q (.r [.plain 2]) (.c .s .s))) (.q (.r [.plain 7]) (.q (.q (.r [.plain 2]) (.c (.r [.plain 1]) .s)) .s)))))
def s97 (f0 from1 to2 : Value) (K : Value → World → Prop) (w : World) : Prop :=
 CallS Tryz.prog 72 [f0, from1].toArray (fun t15 w =>
 PureS (extractV 0 t15) fun t16 =>
 PureS (extractV 1 t15) fun t17 =>
 PureS (extractV 2 t15) fun t18 =>
 PureS (binV .neq t18 (Value.int .i64 0)) fun t20 =>
 CondS t20 (
 K (Value.tuple [t16, (Value.pointer none), t17, (Value.string ⟨#[]⟩), (Value.pointer none), t18].toArray) w
 ) (
 CallS Tryz.prog 72 [f0, to2].toArray (fun t24 w =>
 PureS (extractV 0 t24) fun t25 =>
 PureS (extractV 1 t24) fun t26 =>
 PureS (extractV 2 t24) fun t27 =>
 PureS (binV .neq t27 (Value.int .i64 0)) fun t29 =>
 CondS t29 (
 K (Value.tuple [t16, t25, t17, t26, (Value.pointer none), t27].toArray) w
 ) (
 PureS (nilV t16) fun t31 =>
 PureS (fieldAddrV 0 t31) fun t32 =>
 LoadC t32 (fun t33 w =>
 RunS Tryz.prog (Instr.lookup 70 t33 t17 false) (fun t35 w =>
 RunS Tryz.prog (do eqGuard .eql 75 (Operand.tmp 36) (Operand.const (Value.pointer none)) t35 (Value.pointer none); binOp .eql 75 t35 (Value.pointer none)) (fun t37 w =>
 CondS t37 (
 K (Value.tuple [t16, t25, t17, t26, t35, (Value.int .i64 6)].toArray) w
 ) (
 K (Value.tuple [t16, t25, t17, t26, t35, t27].toArray) w
 )
 ) w
 ) w
 ) w
 )
 ) w
 )
 ) w
theorem s97_den (f0 from1 to2 : Value) (K : Value → World → Prop) (w : World) : denFn Tryz.prog false (bodyOf Tryz.f97) Tryz.f97.results a97 [f0, from1, to2] K NoP w = s97 f0 from1 to2 K w := by kernel_rfl
theorem s97_dst : dstsOk (3 + 35) (bodyOf Tryz.f97) = true := by kernel_rfl
theorem s97_ann : annOk (bodyOf Tryz.f97) a97 = true := by kernel_rfl
theorem s97_call {f0 from1 to2 : Value} {K : Value → World → Prop} {w : World} (hm : Tryz.prog.follows .mixedOrders = true) (h : s97 f0 from1 to2 K w) : CallS Tryz.prog 97 #[f0, from1, to2] K w :=
  fn_call (args := [f0, from1, to2]) (m := 35) hm Tryz.func97 (by kernel_rfl) (rs := Tryz.f97.results) rfl Tryz.ntmps97 s97_dst s97_ann (by rw [s97_den]; exact h)

def a98 : Ann :=
 (.q (.r [.plain 3]) (.r [.plain 4]))
def s98 (n0 t1 t2 t3 : Value) (K : Value → World → Prop) (w : World) : Prop :=
 LoadC t1 (fun t6 w =>
 RunS Tryz.prog (Builtin.delete_ #[70, 9] 0 [n0, t6].toArray) (fun _ w =>
 LoadC t3 (fun t8 w =>
 LoadC t2 (fun t9 w =>
 RunU Tryz.prog (Instr.mapUpdate 70 n0 t8 t9) (fun w =>
 K (Value.tuple [].toArray) w
 ) w
 ) w
 ) w
 ) w
 ) w
theorem s98_den (n0 t1 t2 t3 : Value) (K : Value → World → Prop) (w : World) : denFn Tryz.prog false (bodyOf Tryz.f98) Tryz.f98.results a98 [n0, t1, t2, t3] K NoP w = s98 n0 t1 t2 t3 K w := by kernel_rfl
theorem s98_dst : dstsOk (4 + 6) (bodyOf Tryz.f98) = true := by kernel_rfl
theorem s98_ann : annOk (bodyOf Tryz.f98) a98 = true := by kernel_rfl
theorem s98_call {n0 t1 t2 t3 : Value} {K : Value → World → Prop} {w : World} (hm : Tryz.prog.follows .mixedOrders = true) (h : s98 n0 t1 t2 t3 K w) : CallS Tryz.prog 98 #[n0, t1, t2, t3] K w :=
  fn_call (args := [n0, t1, t2, t3]) (m := 6) hm Tryz.func98 (by kernel_rfl) (rs := Tryz.f98.results) rfl Tryz.ntmps98 s98_dst s98_ann (by rw [s98_den]; exact h)

def a99 : Ann :=
 (.r [.plain 4])
def s99 (n0 t1 t2 : Value) (K : Value → World → Prop) (w : World) : Prop :=
 LoadC t2 (fun t5 w =>
 LoadC t1 (fun t6 w =>
 RunU Tryz.prog (Instr.mapUpdate 70 n0 t5 t6) (fun w =>
 K (Value.tuple [].toArray) w
 ) w
 ) w
 ) w
theorem s99_den (n0 t1 t2 : Value) (K : Value → World → Prop) (w : World) : denFn Tryz.prog false (bodyOf Tryz.f99) Tryz.f99.results a99 [n0, t1, t2] K NoP w = s99 n0 t1 t2 K w := by kernel_rfl
theorem s99_dst : dstsOk (3 + 4) (bodyOf Tryz.f99) = true := by kernel_rfl
theorem s99_ann : annOk (bodyOf Tryz.f99) a99 = true := by kernel_rfl
theorem s99_call {n0 t1 t2 : Value} {K : Value → World → Prop} {w : World} (hm : Tryz.prog.follows .mixedOrders = true) (h : s99 n0 t1 t2 K w) : CallS Tryz.prog 99 #[n0, t1, t2] K w :=
  fn_call (args := [n0, t1, t2]) (m := 4) hm Tryz.func99 (by kernel_rfl) (rs := Tryz.f99.results) rfl Tryz.ntmps99 s99_dst s99_ann (by rw [s99_den]; exact h)

def a100 : Ann :=
 (.r [.plain 3])
def s100 (n0 t1 : Value) (K : Value → World → Prop) (w : World) : Prop :=
 LoadC t1 (fun t4 w =>
 RunS Tryz.prog (Builtin.delete_ #[70, 9] 0 [n0, t4].toArray) (fun _ w =>
 K (Value.tuple [].toArray) w
 ) w
 ) w
theorem s100_den (n0 t1 : Value) (K : Value → World → Prop) (w : World) : denFn Tryz.prog false (bodyOf Tryz.f100) Tryz.f100.results a100 [n0, t1] K NoP w = s100 n0 t1 K w := by kernel_rfl
theorem s100_dst : dstsOk (2 + 3) (bodyOf Tryz.f100) = true := by kernel_rfl
theorem s100_ann : annOk (bodyOf Tryz.f100) a100 = true := by kernel_rfl
theorem s100_call {n0 t1 : Value} {K : Value → World → Prop} {w : World} (hm : Tryz.prog.follows .mixedOrders = true) (h : s100 n0 t1 K w) : CallS Tryz.prog 100 #[n0, t1] K w :=
  fn_call (args := [n0, t1]) (m := 3) hm Tryz.func100 (by kernel_rfl) (rs := Tryz.f100.results) rfl Tryz.ntmps100 s100_dst s100_ann (by rw [s100_den]; exact h)

def a101 : Ann :=
 (.q (.r [.plain 6]) (.q (.r [.plain 10]) (.q (.q (.r [.plain 2]) (.c (.q (.r [.plain 7]) .s) .s)) (.q (.r [.plain 10]) (.q (.q (.r [.plain 2]) (.c (.q (.r [.plain 7]) .s) .s)) (.q (.r [.plain 6]) (.q (.q (.r [.plain 2]) (.c (.q (.r [.plain 6]) .s) .s)) (.q (.r [.plain 11]) .s))))))))
def s101 (f0 from1 to2 : Value) (K : Value → World → Prop) (w : World) : Prop :=
 CallS Tryz.prog 87 [f0, from1].toArray (fun t21 w =>
 PureS (extractV 0 t21) fun t22 =>
 PureS (extractV 1 t21) fun t23 =>
 PureS (extractV 2 t21) fun t24 =>
 PureS (binV .neq t24 (Value.int .i64 0)) fun t26 =>
 CondS t26 (
 K (Value.tuple [(Value.int .i64 0), (Value.string ⟨#[]⟩), (Value.int .i64 0), (Value.string ⟨#[]⟩), (Value.int .i64 0), t24].toArray) w
 ) (
 CallS Tryz.prog 87 [f0, to2].toArray (fun t31 w =>
 PureS (extractV 0 t31) fun t32 =>
 PureS (extractV 1 t31) fun t33 =>
 PureS (extractV 2 t31) fun t34 =>
 PureS (binV .neq t34 (Value.int .i64 0)) fun t36 =>
 CondS t36 (
 K (Value.tuple [(Value.int .i64 0), (Value.string ⟨#[]⟩), (Value.int .i64 0), (Value.string ⟨#[]⟩), (Value.int .i64 0), t34].toArray) w
 ) (
 CallS Tryz.prog 86 [f0, t22].toArray (fun t40 w =>
 CallS Tryz.prog 88 [t40, t23].toArray (fun t42 w =>
 PureS (binV .lss t42 (Value.int .i64 0)) fun t44 =>
 CondS t44 (
 K (Value.tuple [(Value.int .i64 0), (Value.string ⟨#[]⟩), (Value.int .i64 0), (Value.string ⟨#[]⟩), (Value.int .i64 0), (Value.int .i64 6)].toArray) w
 ) (
 K (Value.tuple [t22, t23, t32, t33, t42, (Value.int .i64 0)].toArray) w
 )
 ) w
 ) w
 )
 ) w
 )
 ) w
theorem s101_den (f0 from1 to2 : Value) (K : Value → World → Prop) (w : World) : denFn Tryz.prog false (bodyOf Tryz.f101) Tryz.f101.results a101 [f0, from1, to2] K NoP w = s101 f0 from1 to2 K w := by kernel_rfl
theorem s101_dst : dstsOk (3 + 47) (bodyOf Tryz.f101) = true := by kernel_rfl
theorem s101_ann : annOk (bodyOf Tryz.f101) a101 = true := by kernel_rfl
theorem s101_call {f0 from1 to2 : Value} {K : Value → World → Prop} {w : World} (hm : Tryz.prog.follows .mixedOrders = true) (h : s101 f0 from1 to2 K w) : CallS Tryz.prog 101 #[f0, from1, to2] K w :=
  fn_call (args := [f0, from1, to2]) (m := 47) hm Tryz.func101 (by kernel_rfl) (rs := Tryz.f101.results) rfl Tryz.ntmps101 s101_dst s101_ann (by rw [s101_den]; exact h)

def a102 : Ann :=
 (.r [.plain 4])
def s102 (n0 t1 t2 : Value) (K : Value → World → Prop) (w : World) : Prop :=
 LoadC t2 (fun t5 w =>
 LoadC t1 (fun t6 w =>
 RunU Tryz.prog (Instr.mapUpdate 70 n0 t5 t6) (fun w =>
 K (Value.tuple [].toArray) w
 ) w
 ) w
 ) w
theorem s102_den (n0 t1 t2 : Value) (K : Value → World → Prop) (w : World) : denFn Tryz.prog false (bodyOf Tryz.f102) Tryz.f102.results a102 [n0, t1, t2] K NoP w = s102 n0 t1 t2 K w := by kernel_rfl
theorem s102_dst : dstsOk (3 + 4) (bodyOf Tryz.f102) = true := by kernel_rfl
theorem s102_ann : annOk (bodyOf Tryz.f102) a102 = true := by kernel_rfl
theorem s102_call {n0 t1 t2 : Value} {K : Value → World → Prop} {w : World} (hm : Tryz.prog.follows .mixedOrders = true) (h : s102 n0 t1 t2 K w) : CallS Tryz.prog 102 #[n0, t1, t2] K w :=
  fn_call (args := [n0, t1, t2]) (m := 4) hm Tryz.func102 (by kernel_rfl) (rs := Tryz.f102.results) rfl Tryz.ntmps102 s102_dst s102_ann (by rw [s102_den]; exact h)

def a103 : Ann :=
 (.r [.plain 3])
def s103 (n0 t1 : Value) (K : Value → World → Prop) (w : World) : Prop :=
 LoadC t1 (fun t4 w =>
 RunS Tryz.prog (Builtin.delete_ #[70, 9] 0 [n0, t4].toArray) (fun _ w =>
 K (Value.tuple [].toArray) w
 ) w
 ) w
theorem s103_den (n0 t1 : Value) (K : Value → World → Prop) (w : World) : denFn Tryz.prog false (bodyOf Tryz.f103) Tryz.f103.results a103 [n0, t1] K NoP w = s103 n0 t1 K w := by kernel_rfl
theorem s103_dst : dstsOk (2 + 3) (bodyOf Tryz.f103) = true := by kernel_rfl
theorem s103_ann : annOk (bodyOf Tryz.f103) a103 = true := by kernel_rfl
theorem s103_call {n0 t1 : Value} {K : Value → World → Prop} {w : World} (hm : Tryz.prog.follows .mixedOrders = true) (h : s103 n0 t1 K w) : CallS Tryz.prog 103 #[n0, t1] K w :=
  fn_call (args := [n0, t1]) (m := 3) hm Tryz.func103 (by kernel_rfl) (rs := Tryz.f103.results) rfl Tryz.ntmps103 s103_dst s103_ann (by rw [s103_den]; exact h)

def a104 : Ann :=
 (.q (.r [.plain 2]) (.q (.q (.r [.plain 3]) (.c (.q (.r [.plain 2]) .s) .s)) (.q (.r [.plain 4]) (.q (.q (.r [.plain 2]) (.c (.q (.r [.plain 2]) .s) .s)) (.q (.r [.plain 3]) .s)))))
def s104 (f0 dir1 : Value) (K : Value → World → Prop) (w : World) : Prop :=
 CallS Tryz.prog 83 [dir1].toArray (fun t8 w =>
 PureS (notV t8) fun t9 =>
 CondS t9 (
 K (Value.tuple [(Value.int .i64 0), (Value.int .i64 1)].toArray) w
 ) (
 CallS Tryz.prog 84 [f0, dir1].toArray (fun t12 w =>
 PureS (binV .lss t12 (Value.int .i64 0)) fun t14 =>
 CondS t14 (
 K (Value.tuple [(Value.int .i64 0), (Value.int .i64 6)].toArray) w
 ) (
 K (Value.tuple [t12, (Value.int .i64 0)].toArray) w
 )
 ) w
 )
 ) w
theorem s104_den (f0 dir1 : Value) (K : Value → World → Prop) (w : World) : denFn Tryz.prog false (bodyOf Tryz.f104) Tryz.f104.results a104 [f0, dir1] K NoP w = s104 f0 dir1 K w := by kernel_rfl
theorem s104_dst : dstsOk (2 + 14) (bodyOf Tryz.f104) = true := by kernel_rfl
theorem s104_ann : annOk (bodyOf Tryz.f104) a104 = true := by kernel_rfl
theorem s104_call {f0 dir1 : Value} {K : Value → World → Prop} {w : World} (hm : Tryz.prog.follows .mixedOrders = true) (h : s104 f0 dir1 K w) : CallS Tryz.prog 104 #[f0, dir1] K w :=
  fn_call (args := [f0, dir1]) (m := 14) hm Tryz.func104 (by kernel_rfl) (rs := Tryz.f104.results) rfl Tryz.ntmps104 s104_dst s104_ann (by rw [s104_den]; exact h)

def a105 : Ann :=
 (.q (.r [.plain 7]) (.q (.r [.plain 14]) (.r [.plain 5])))
def s105 (f0 i1 n2 : Value) (K : Value → World → Prop) (w : World) : Prop :=
 RunS Tryz.prog (Instr.buildSlice 96 0 [].toArray) (fun t7 w =>
 PureS (nilV f0) fun t9 =>
 PureS (fieldAddrV 1 t9) fun t10 =>
 LoadC t10 (fun t11 w =>
 RunS Tryz.prog (Builtin.append_ #[96, 96] 96 [t7, t11].toArray) (fun t12 w =>
 PureS (indexAddrV 2 t12 i1) fun t17 =>
 PureS (fieldAddrV 1 t17) fun t18 =>
 LoadC t18 (fun t19 w =>
 PureS (indexAddrV 2 t19 n2) fun t21 =>
 LoadA 2 t21 (fun t22 w =>
 RunS Tryz.prog (Instr.buildSlice 125 1 [(0, t22)].toArray) (fun t23 w =>
 PureS (indexAddrV 2 t12 i1) fun t24 =>
 PureS (fieldAddrV 1 t24) fun t25 =>
 StoreC t25 t23 (fun w =>
 PureS (nilV f0) fun t28 =>
 PureS (fieldAddrV 1 t28) fun t29 =>
 StoreC t29 t12 (fun w =>
 K (Value.tuple [].toArray) w
 ) w
 ) w
 ) w
 ) w
 ) w
 ) w
 ) w
 ) w
theorem s105_den (f0 i1 n2 : Value) (K : Value → World → Prop) (w : World) : denFn Tryz.prog false (bodyOf Tryz.f105) Tryz.f105.results a105 [f0, i1, n2] K NoP w = s105 f0 i1 n2 K w := by kernel_rfl
theorem s105_dst : dstsOk (3 + 27) (bodyOf Tryz.f105) = true := by kernel_rfl
theorem s105_ann : annOk (bodyOf Tryz.f105) a105 = true := by kernel_rfl
theorem s105_call {f0 i1 n2 : Value} {K : Value → World → Prop} {w : World} (hm : Tryz.prog.follows .mixedOrders = true) (h : s105 f0 i1 n2 K w) : CallS Tryz.prog 105 #[f0, i1, n2] K w :=
  fn_call (args := [f0, i1, n2]) (m := 27) hm Tryz.func105 (by kernel_rfl) (rs := Tryz.f105.results) rfl Tryz.ntmps105 s105_dst s105_ann (by rw [s105_den]; exact h)

def a106 : Ann :=
 (.q (.r [.plain 1]) (.q (.q (.r [.plain 4, .grp 8 [18] 522240, .plain 1]) (.c (.q (.r [.plain 1]) .s) .s)) (.q (.r [.plain 11]) .s)))
def s106 (l0 at1 n2 : Value) (K : Value → World → Prop) (w : World) : Prop :=
 PureS (lenSliceV l0) fun t8 =>
 PureS (binV .eql t8 (Value.int .i64 0)) fun t9 =>
 JoinS (fun (t18 : Value) (w : World) =>
 PureS (pickV t9 (Value.bool true) t18) fun t19 =>
 CondS t19 (
 K (Value.int .i64 0) w
 ) (
 PureS (lenSliceV l0) fun t23 =>
 PureS (binV .rem at1 t23) fun t24 =>
 PureS (indexAddrV 1 l0 t24) fun t25 =>
 LoadC t25 (fun t26 w =>
 PureS (binV .add n2 (Value.int .i64 1)) fun t28 =>
 PureS (binV .rem t26 t28) fun t29 =>
 K t29 w
 ) w
 )
 ) fun J0 =>
 IfB t9 false (
 PureS (lenSliceV l0) fun t14 =>
 PureS (binV .rem at1 t14) fun t15 =>
 PureS (indexAddrV 1 l0 t15) fun t16 =>
 LoadC t16 (fun t17 w =>
 PureS (binV .lss t17 (Value.int .i64 0)) fun t18_1 =>
 J0 t18_1 w
 ) w
 ) (
 J0 undef w
 )
theorem s106_den (l0 at1 n2 : Value) (K : Value → World → Prop) (w : World) : denFn Tryz.prog false (bodyOf Tryz.f106) Tryz.f106.results a106 [l0, at1, n2] K NoP w = s106 l0 at1 n2 K w := by kernel_rfl
theorem s106_dst : dstsOk (3 + 27) (bodyOf Tryz.f106) = true := by kernel_rfl
theorem s106_ann : annOk (bodyOf Tryz.f106) a106 = true := by kernel_rfl
theorem s106_call {l0 at1 n2 : Value} {K : Value → World → Prop} {w : World} (hm : Tryz.prog.follows .mixedOrders = true) (h : s106 l0 at1 n2 K w) : CallS Tryz.prog 106 #[l0, at1, n2] K w :=
  fn_call (args := [l0, at1, n2]) (m := 27) hm Tryz.func106 (by kernel_rfl) (rs := Tryz.f106.results) rfl Tryz.ntmps106 s106_dst s106_ann (by rw [s106_den]; exact h)

def a107 : Ann :=
 (.q (.r [.plain 1]) (.q (.r [.plain 1]) (.j [3] 1099511627768 (.q (.r [.plain 1]) (.b (.l [3, 4] 1099511627768 (.q (.q (.r [.plain 7]) (.c .s .s)) (.j [3] 1099511562344 (.b (.q (.r [.plain 5]) (.q (.r [.plain 1]) (.b (.l [3, 6] 1099510579272 (.q (.q (.r [.plain 4]) (.c .s .s)) (.j [3] 1099444518920 (.b (.q (.r [.plain 7]) (.c (.r [.plain 8]) .s)))
  (.r [.plain 3]))))))))
  (.r [.plain 3]))))))
  (.q (.r [.plain 2]) .s))))
def s107 (f0 : Value) (K : Value → World → Prop) (w : World) : Prop :=
 JoinS (fun (out3 : Value) (w : World) =>
 K out3 w
 ) fun J0 =>
 LoopS 2 (fun L1 (out3_1 i4 : Value) (w : World) =>
 PureS (nilV f0) fun t9 =>
 PureS (fieldAddrV 1 t9) fun t10 =>
 LoadC t10 (fun t11 w =>
 PureS (lenSliceV t11) fun t12 =>
 PureS (binV .lss i4 t12) fun t13 =>
 CondS t13 (
 JoinS (fun (out3_2 : Value) (w : World) =>
 PureS (binV .add i4 (Value.int .i64 1)) fun t15 =>
 L1 out3_2 t15 w
 ) fun J2 =>
 CallS Tryz.prog 86 [f0, i4].toArray (fun t18 w =>
 RunS Tryz.prog (Instr.field 129 t18 1) (fun t19 w =>
 LoopS 2 (fun L3 (out3_3 k6 : Value) (w : World) =>
 PureS (lenSliceV t19) fun t22 =>
 PureS (binV .lss k6 t22) fun t23 =>
 CondS t23 (
 JoinS (fun (out3_4 : Value) (w : World) =>
 PureS (binV .add k6 (Value.int .i64 1)) fun t25 =>
 L3 out3_4 t25 w
 ) fun J4 =>
 PureS (indexAddrV 1 t19 k6) fun t29 =>
 LoadC t29 (fun t30 w =>
 CallS Tryz.prog 132 [out3_3, t30].toArray (fun t31 w =>
 PureS (notV t31) fun t32 =>
 CondS t32 (
 PureS (indexAddrV 1 t19 k6) fun t36 =>
 LoadC t36 (fun t37 w =>
 RunS Tryz.prog (Instr.buildSlice 23 1 [(0, t37)].toArray) (fun t38 w =>
 RunS Tryz.prog (Builtin.append_ #[23, 23] 23 [out3_3, t38].toArray) (fun t39 w =>
 J4 t39 w
 ) w
 ) w
 ) w
 ) (
 J4 out3_3 w
 )
 ) w
 ) w
 ) (
 J2 out3_3 w
 )
 ) out3_1 (Value.int .i64 0) w
 ) w
 ) w
 ) (
 J0 out3_1 w
 )
 ) w
 ) (Value.slice none 0 0) (Value.int .i64 0) w
theorem s107_den (f0 : Value) (K : Value → World → Prop) (w : World) : denFn Tryz.prog false (bodyOf Tryz.f107) Tryz.f107.results a107 [f0] K NoP w = s107 f0 K w := by kernel_rfl
theorem s107_dst : dstsOk (1 + 40) (bodyOf Tryz.f107) = true := by kernel_rfl
theorem s107_ann : annOk (bodyOf Tryz.f107) a107 = true := by kernel_rfl
theorem s107_call {f0 : Value} {K : Value → World → Prop} {w : World} (hm : Tryz.prog.follows .mixedOrders = true) (h : s107 f0 K w) : CallS Tryz.prog 107 #[f0] K w :=
  fn_call (args := [f0]) (m := 40) hm Tryz.func107 (by kernel_rfl) (rs := Tryz.f107.results) rfl Tryz.ntmps107 s107_dst s107_ann (by rw [s107_den]; exact h)

def a108 : Ann :=
 (.q (.r [.plain 2]) (.q (.r [.plain 1]) (.j [3] 2097144 (.q (.r [.plain 1]) (.b (.l [3, 4] 2097144 (.q (.q (.r [.plain 5]) (.c .s .s)) (.q (.b (.r [.plain 10])) (.r [.plain 3]))))))
  (.q (.r [.plain 2]) .s))))
def s108 (x0 : Value) (K : Value → World → Prop) (w : World) : Prop :=
 BoxS 135 x0 (fun x1 w =>
 JoinS (fun (n3 : Value) (w : World) =>
 K n3 w
 ) fun J0 =>
 LoopS 2 (fun L1 (n3_1 i4 : Value) (w : World) =>
 PureS (fieldAddrV 1 x1) fun t6 =>
 LoadC t6 (fun t7 w =>
 PureS (lenSliceV t7) fun t8 =>
 PureS (binV .lss i4 t8) fun t9 =>
 CondS t9 (
 PureS (fieldAddrV 1 x1) fun t13 =>
 LoadC t13 (fun t14 w =>
 PureS (indexAddrV 2 t14 i4) fun t16 =>
 PureS (fieldAddrV 1 t16) fun t17 =>
 LoadC t17 (fun t18 w =>
 PureS (lenSliceV t18) fun t19 =>
 PureS (binV .add n3_1 t19) fun t20 =>
 PureS (binV .add i4 (Value.int .i64 1)) fun t11 =>
 L1 t20 t11 w
 ) w
 ) w
 ) (
 J0 n3_1 w
 )
 ) w
 ) (Value.int .i64 0) (Value.int .i64 0) w
 ) w
theorem s108_den (x0 : Value) (K : Value → World → Prop) (w : World) : denFn Tryz.prog false (bodyOf Tryz.f108) Tryz.f108.results a108 [x0] K NoP w = s108 x0 K w := by kernel_rfl
theorem s108_dst : dstsOk (1 + 21) (bodyOf Tryz.f108) = true := by kernel_rfl
theorem s108_ann : annOk (bodyOf Tryz.f108) a108 = true := by kernel_rfl
theorem s108_call {x0 : Value} {K : Value → World → Prop} {w : World} (hm : Tryz.prog.follows .mixedOrders = true) (h : s108 x0 K w) : CallS Tryz.prog 108 #[x0] K w :=
  fn_call (args := [x0]) (m := 21) hm Tryz.func108 (by kernel_rfl) (rs := Tryz.f108.results) rfl Tryz.ntmps108 s108_dst s108_ann (by rw [s108_den]; exact h)

def a109 : Ann :=
 (.q (.r [.plain 2]) (.q (.r [.plain 5]) (.j [5] 70368744173794 (.q (.r [.plain 1]) (.b (.l [1, 5, 6] 70368744173794 (.q (.q (.r [.plain 6, .grp 2 [19] 786432, .plain 1]) (.c .s .s)) (.q (.b (.q (.r [.plain 7]) (.j [] 274609471488 (.q (.r [.plain 5]) (.c (.r [.plain 6]) .s))
  (.q (.r [.plain 4]) (.r [.plain 6]))))) (.r [.plain 3]))))))
  (.q (.r [.plain 3]) .s))))
def s109 (x0 n1 : Value) (K : Value → World → Prop) (w : World) : Prop :=
 BoxS 135 x0 (fun x2 w =>
 BoxS 135 (Value.agg #[(Value.slice none 0 0), (Value.slice none 0 0)]) (fun t4 w =>
 RunS Tryz.prog (Instr.buildSlice 34 0 [].toArray) (fun t8 w =>
 PureS (fieldAddrV 0 x2) fun t9 =>
 LoadC t9 (fun t10 w =>
 RunS Tryz.prog (Builtin.append_ #[34, 34] 34 [t8, t10].toArray) (fun t11 w =>
 JoinS (fun (b5 : Value) (w : World) =>
 RunS Tryz.prog (Instr.build 135 [(0, b5)].toArray) (fun t47 w =>
 StoreA 2 t4 t47 (fun w =>
 LoadA 2 t4 (fun t4_1 _ =>
 K t4_1 w
 ) w
 ) w
 ) w
 ) fun J0 =>
 LoopS 3 (fun L1 (n1_1 b5_1 i6 : Value) (w : World) =>
 PureS (fieldAddrV 1 x2) fun t13 =>
 LoadC t13 (fun t14 w =>
 PureS (lenSliceV t14) fun t15 =>
 PureS (binV .lss i6 t15) fun t16 =>
 JoinS (fun (t19 : Value) (w : World) =>
 PureS (pickV t16 t19 (Value.bool false)) fun t20 =>
 CondS t20 (
 PureS (fieldAddrV 1 x2) fun t23 =>
 LoadC t23 (fun t24 w =>
 PureS (indexAddrV 2 t24 i6) fun t26 =>
 LoadA 2 t26 (fun t27 w =>
 BoxS 160 (Value.agg #[(Value.int .i64 0), (Value.slice none 0 0)]) (fun w7 w =>
 StoreA 2 w7 t27 (fun w =>
 JoinS (fun (w : World) =>
 LoadA 2 w7 (fun t39 w =>
 CallS Tryz.prog 131 [b5_1, t39].toArray (fun t40 w =>
 PureS (fieldAddrV 1 w7) fun t42 =>
 LoadC t42 (fun t43 w =>
 PureS (lenSliceV t43) fun t44 =>
 PureS (binV .sub n1_1 t44) fun t45 =>
 PureS (binV .add i6 (Value.int .i64 1)) fun t22 =>
 L1 t45 t40 t22 w
 ) w
 ) w
 ) w
 ) fun J3 =>
 PureS (fieldAddrV 1 w7) fun t28 =>
 LoadC t28 (fun t29 w =>
 PureS (lenSliceV t29) fun t30 =>
 PureS (binV .gtr t30 n1_1) fun t32 =>
 CondS t32 (
 PureS (fieldAddrV 1 w7) fun t33 =>
 LoadC t33 (fun t34 w =>
 PureS (sliceV 1 t34 none (some n1_1)) fun t36 =>
 PureS (fieldAddrV 1 w7) fun t37 =>
 StoreC t37 t36 (fun w =>
 J3 w
 ) w
 ) w
 ) (
 J3 w
 )
 ) w
 ) w
 ) w
 ) w
 ) w
 ) (
 J0 b5_1 w
 )
 ) fun J2 =>
 IfB t16 true (
 PureS (binV .gtr n1_1 (Value.int .i64 0)) fun t19_1 =>
 J2 t19_1 w
 ) (
 J2 undef w
 )
 ) w
 ) n1 t11 (Value.int .i64 0) w
 ) w
 ) w
 ) w
 ) w
 ) w
theorem s109_den (x0 n1 : Value) (K : Value → World → Prop) (w : World) : denFn Tryz.prog false (bodyOf Tryz.f109) Tryz.f109.results a109 [x0, n1] K NoP w = s109 x0 n1 K w := by kernel_rfl
theorem s109_dst : dstsOk (2 + 46) (bodyOf Tryz.f109) = true := by kernel_rfl
theorem s109_ann : annOk (bodyOf Tryz.f109) a109 = true := by kernel_rfl
theorem s109_call {x0 n1 : Value} {K : Value → World → Prop} {w : World} (hm : Tryz.prog.follows .mixedOrders = true) (h : s109 x0 n1 K w) : CallS Tryz.prog 109 #[x0, n1] K w :=
  fn_call (args := [x0, n1]) (m := 46) hm Tryz.func109 (by kernel_rfl) (rs := Tryz.f109.results) rfl Tryz.ntmps109 s109_dst s109_ann (by rw [s109_den]; exact h)

def a110 : Ann :=
 (.q (.r [.plain 2]) (.q (.r [.plain 8]) (.q (.q (.r [.plain 2]) (.c (.q (.r [.plain 3]) .s) .s)) (.q (.r [.plain 10]) .s))))
def s110 (f0 path1 : Value) (K : Value → World → Prop) (w : World) : Prop :=
 CallS Tryz.prog 94 [f0, path1].toArray (fun t11 w =>
 PureS (extractV 0 t11) fun t12 =>
 PureS (extractV 1 t11) fun t13 =>
 PureS (binV .neq t13 (Value.int .i64 0)) fun t15 =>
 CondS t15 (
 K (Value.tuple [(Value.slice none 0 0), t13].toArray) w
 ) (
 PureS (nilV f0) fun t18 =>
 PureS (fieldAddrV 2 t18) fun t19 =>
 LoadC t19 (fun t20 w =>
 PureS (indexAddrV 2 t20 t12) fun t22 =>
 LoadA 2 t22 (fun t23 w =>
 CallS Tryz.prog 95 [t23].toArray (fun t24 w =>
 K (Value.tuple [t24, (Value.int .i64 0)].toArray) w
 ) w
 ) w
 ) w
 )
 ) w
theorem s110_den (f0 path1 : Value) (K : Value → World → Prop) (w : World) : denFn Tryz.prog false (bodyOf Tryz.f110) Tryz.f110.results a110 [f0, path1] K NoP w = s110 f0 path1 K w := by kernel_rfl
theorem s110_dst : dstsOk (2 + 23) (bodyOf Tryz.f110) = true := by kernel_rfl
theorem s110_ann : annOk (bodyOf Tryz.f110) a110 = true := by kernel_rfl
theorem s110_call {f0 path1 : Value} {K : Value → World → Prop} {w : World} (hm : Tryz.prog.follows .mixedOrders = true) (h : s110 f0 path1 K w) : CallS Tryz.prog 110 #[f0, path1] K w :=
  fn_call (args := [f0, path1]) (m := 23) hm Tryz.func110 (by kernel_rfl) (rs := Tryz.f110.results) rfl Tryz.ntmps110 s110_dst s110_ann (by rw [s110_den]; exact h)

def a111 : Ann :=
 (.q (.r [.plain 2]) (.q (.r [.plain 8]) (.q (.q (.r [.plain 2]) (.c (.q (.r [.plain 3]) .s) .s)) (.q (.r [.plain 7]) .s))))
def s111 (f0 path1 : Value) (K : Value → World → Prop) (w : World) : Prop :=
 CallS Tryz.prog 33 [f0, path1].toArray (fun t11 w =>
 PureS (extractV 0 t11) fun t12 =>
 PureS (extractV 1 t11) fun t13 =>
 PureS (binV .neq t13 (Value.int .i64 0)) fun t15 =>
 CondS t15 (
 K (Value.tuple [(Value.int .i64 0), t13].toArray) w
 ) (
 PureS (nilV t12) fun t18 =>
 PureS (fieldAddrV 2 t18) fun t19 =>
 LoadC t19 (fun t20 w =>
 PureS (lenSliceV t20) fun t21 =>
 K (Value.tuple [t21, (Value.int .i64 0)].toArray) w
 ) w
 )
 ) w
theorem s111_den (f0 path1 : Value) (K : Value → World → Prop) (w : World) : denFn Tryz.prog false (bodyOf Tryz.f111) Tryz.f111.results a111 [f0, path1] K NoP w = s111 f0 path1 K w := by kernel_rfl
theorem s111_dst : dstsOk (2 + 20) (bodyOf Tryz.f111) = true := by kernel_rfl
theorem s111_ann : annOk (bodyOf Tryz.f111) a111 = true := by kernel_rfl
theorem s111_call {f0 path1 : Value} {K : Value → World → Prop} {w : World} (hm : Tryz.prog.follows .mixedOrders = true) (h : s111 f0 path1 K w) : CallS Tryz.prog 111 #[f0, path1] K w :=
  fn_call (args := [f0, path1]) (m := 20) hm Tryz.func111 (by kernel_rfl) (rs := Tryz.f111.results) rfl Tryz.ntmps111 s111_dst s111_ann (by rw [s111_den]; exact h)

def a112 : Ann :=
 (.q (.r [.plain 2]) (.q (.r [.plain 8]) (.q (.q (.r [.plain 2]) (.c (.q (.r [.plain 3]) .s) .s)) (.q (.q (.r [.plain 3, .grp 2 [26] 100663296, .plain 2, .grp 7 [35] 68182605824, .plain 1]) (.c (.q (.r [.plain 2]) .s) .s)) (.q (.r [.plain 7]) (.q (.r [.plain 9]) .s))))))
def s112 (f0 path1 at2 n3 : Value) (K : Value → World → Prop) (w : World) : Prop :=
 CallS Tryz.prog 33 [f0, path1].toArray (fun t16 w =>
 PureS (extractV 0 t16) fun t17 =>
 PureS (extractV 1 t16) fun t18 =>
 PureS (binV .neq t18 (Value.int .i64 0)) fun t20 =>
 CondS t20 (
 K (Value.tuple [(Value.slice none 0 0), t18].toArray) w
 ) (
 PureS (binV .lss n3 (Value.int .i64 0)) fun t23 =>
 JoinS (fun (t26 : Value) (w : World) =>
 PureS (pickV t23 (Value.bool true) t26) fun t27 =>
 JoinS (fun (t35 : Value) (w : World) =>
 PureS (pickV t27 (Value.bool true) t35) fun t36 =>
 CondS t36 (
 K (Value.tuple [(Value.slice none 0 0), (Value.int .i64 1)].toArray) w
 ) (
 PureS (nilV t17) fun t38 =>
 PureS (fieldAddrV 2 t38) fun t39 =>
 LoadC t39 (fun t40 w =>
 PureS (sliceV 1 t40 (some at2) none) fun t42 =>
 PureS (lenSliceV t42) fun t46 =>
 PureS (minV n3 t46) fun t47 =>
 PureS (sliceV 1 t42 none (some t47)) fun t48 =>
 CallS Tryz.prog 32 [t48].toArray (fun t49 w =>
 K (Value.tuple [t49, (Value.int .i64 0)].toArray) w
 ) w
 ) w
 )
 ) fun J1 =>
 IfB t27 false (
 PureS (nilV t17) fun t31 =>
 PureS (fieldAddrV 2 t31) fun t32 =>
 LoadC t32 (fun t33 w =>
 PureS (lenSliceV t33) fun t34 =>
 PureS (binV .gtr at2 t34) fun t35_1 =>
 J1 t35_1 w
 ) w
 ) (
 J1 undef w
 )
 ) fun J0 =>
 IfB t23 false (
 PureS (binV .lss at2 (Value.int .i64 0)) fun t26_1 =>
 J0 t26_1 w
 ) (
 J0 undef w
 )
 )
 ) w
theorem s112_den (f0 path1 at2 n3 : Value) (K : Value → World → Prop) (w : World) : denFn Tryz.prog false (bodyOf Tryz.f112) Tryz.f112.results a112 [f0, path1, at2, n3] K NoP w = s112 f0 path1 at2 n3 K w := by kernel_rfl
theorem s112_dst : dstsOk (4 + 46) (bodyOf Tryz.f112) = true := by kernel_rfl
theorem s112_ann : annOk (bodyOf Tryz.f112) a112 = true := by kernel_rfl
theorem s112_call {f0 path1 at2 n3 : Value} {K : Value → World → Prop} {w : World} (hm : Tryz.prog.follows .mixedOrders = true) (h : s112 f0 path1 at2 n3 K w) : CallS Tryz.prog 112 #[f0, path1, at2, n3] K w :=
  fn_call (args := [f0, path1, at2, n3]) (m := 46) hm Tryz.func112 (by kernel_rfl) (rs := Tryz.f112.results) rfl Tryz.ntmps112 s112_dst s112_ann (by rw [s112_den]; exact h)
end Go.Proofs.YthohdinjpkehpaaGreat

