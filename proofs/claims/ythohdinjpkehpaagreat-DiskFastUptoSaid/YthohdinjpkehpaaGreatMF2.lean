/- Several texts of ours, laid one behind the other. -/
import Derived.Test.YthohdinjpkehpaaGreatMF1
import Derived.Test.YthohdinjpkehpaaGreatProg
namespace Go.Proofs.YthohdinjpkehpaaGreat
set_option linter.unusedVariables false
set_option maxRecDepth 100000
open Go SG

def a17 : Ann :=
 (.q (.r [.plain 2]) (.j [] 29642774844752946028434172162224104410437116074403984394101141506025761187823600 (.q (.r [.plain 2]) (.b (.q (.r [.plain 2]) (.c (.q (.d [0, 1, 3, 7, 0, 16, 63, 0, 128, 384, 896, 0, 2048, 8191, 16383, 32767] (.pur 0 (.pur 1 (.pur 2 (.pur 4 (.pur 7 (.pur 8 (.pur 9 (.pur 11 (.hld 3 (.hld 5 (.hld 10 (.hld 12 (.act 6 (.act 13 (.pur 14 (.pur 15 .fin))))))))))))))))) .s) (.q (.r [.plain 2]) (.c (.q (.d [0, 1, 3, 7, 0, 16, 63, 0, 128, 384, 896, 0, 2048, 8191, 16383, 32767] (.pur 0 (.pur 1 (.pur 2 (.pur 4 (.pur 7 (.pur 8 (.pur 9 (.pur 11 (.hld 3 (.hld 5 (.hld 10 (.hld 12 (.act 6 (.act 13 (.pur 14 (.pur 15 .fin))))))))))))))))) .s) (.q (.r [.plain 2]) (.c (.q (.d [0, 1, 3, 7, 0, 16, 63, 0, 128, 384, 896, 0, 2048, 8191, 16383, 32767] (.pur 0 (.pur 1 (.pur 2 (.pur 4 (.pur 7 (.pur 8 (.pur 9 (.pur 11 (.hld 3 (.hld 5 (.hld 10 (.hld 12 (.act 6 (.act 13 (.pur 14 (.pur 15 .fin))))))))))))))))) .s) (.j [58] 2017612633061982208 (.q (.r [.plain 2]) (.c .s (.r [.plain 2])))
  (.c (.q (.r [.plain 4]) .s) (.q (.r [.plain 2]) (.c (.q (.d [0, 1, 3, 7, 0, 16, 0, 64, 255, 0, 512, 1536, 3584, 0, 8192, 0, 32768, 131071, 262143, 524287] (.pur 0 (.pur 1 (.pur 2 (.pur 4 (.pur 6 (.pur 9 (.pur 10 (.pur 11 (.pur 13 (.pur 15 (.hld 3 (.hld 5 (.hld 7 (.hld 12 (.hld 14 (.hld 16 (.act 8 (.act 17 (.pur 18 (.pur 19 .fin))))))))))))))))))))) .s) (.q (.r [.plain 2]) (.c (.q (.d [0, 1, 3, 7, 0, 16, 0, 64, 255, 0, 512, 1536, 3584, 0, 8192, 0, 32768, 131071, 262143, 524287] (.pur 0 (.pur 1 (.pur 2 (.pur 4 (.pur 6 (.pur 9 (.pur 10 (.pur 11 (.pur 13 (.pur 15 (.hld 3 (.hld 5 (.hld 7 (.hld 12 (.hld 14 (.hld 16 (.act 8 (.act 17 (.pur 18 (.pur 19 .fin))))))))))))))))))))) .s) (.q (.r [.plain 2]) (.c (.q (.d [0, 1, 3, 7, 0, 16, 0, 64, 255, 0, 512, 1536, 3584, 0, 8192, 0, 32768, 131071, 262143, 524287] (.pur 0 (.pur 1 (.pur 2 (.pur 4 (.pur 6 (.pur 9 (.pur 10 (.pur 11 (.pur 13 (.pur 15 (.hld 3 (.hld 5 (.hld 7 (.hld 12 (.hld 14 (.hld 16 (.act 8 (.act 17 (.pur 18 (.pur 19 .fin))))))))))))))))))))) .s) (.q (.r [.plain 2]) (.c (.q (.d [0, 1, 3, 7, 0, 16, 63, 0, 128, 384, 896, 0, 2048, 8191, 16383, 32767] (.pur 0 (.pur 1 (.pur 2 (.pur 4 (.pur 7 (.pur 8 (.pur 9 (.pur 11 (.hld 3 (.hld 5 (.hld 10 (.hld 12 (.act 6 (.act 13 (.pur 14 (.pur 15 .fin))))))))))))))))) .s) (.q (.r [.plain 2]) (.c (.q (.d [0, 1, 3, 7, 0, 16, 63, 0, 128, 384, 896, 0, 2048, 8191, 16383, 32767] (.pur 0 (.pur 1 (.pur 2 (.pur 4 (.pur 7 (.pur 8 (.pur 9 (.pur 11 (.hld 3 (.hld 5 (.hld 10 (.hld 12 (.act 6 (.act 13 (.pur 14 (.pur 15 .fin))))))))))))))))) .s) (.q (.r [.plain 2]) (.c (.q (.d [0, 1, 3, 7, 0, 16, 63, 0, 128, 384, 896, 0, 2048, 8191, 16383, 32767] (.pur 0 (.pur 1 (.pur 2 (.pur 4 (.pur 7 (.pur 8 (.pur 9 (.pur 11 (.hld 3 (.hld 5 (.hld 10 (.hld 12 (.act 6 (.act 13 (.pur 14 (.pur 15 .fin))))))))))))))))) .s) (.q (.r [.plain 2]) (.c (.q (.d [0, 1, 3, 7, 0, 16, 0, 64, 255] (.pur 0 (.pur 1 (.pur 2 (.pur 4 (.pur 6 (.hld 3 (.hld 5 (.hld 7 (.act 8 .fin)))))))))) (.d [0, 1, 3, 7, 0, 16, 0, 64, 255] (.pur 0 (.pur 1 (.pur 2 (.pur 4 (.pur 6 (.hld 3 (.hld 5 (.hld 7 (.act 8 .fin))))))))))) (.q (.r [.plain 2]) (.c (.q (.d [0, 1, 3, 7, 0, 16, 63] (.pur 0 (.pur 1 (.pur 2 (.pur 4 (.hld 3 (.hld 5 (.act 6 .fin)))))))) (.d [0, 1, 3, 7, 0, 16, 63] (.pur 0 (.pur 1 (.pur 2 (.pur 4 (.hld 3 (.hld 5 (.act 6 .fin))))))))) (.q (.r [.plain 2]) (.c (.q (.d [0, 1, 3, 7, 0, 16, 0, 64, 255, 0, 512, 1536, 3584, 0, 8192, 0, 32768, 131071, 262143, 524287] (.pur 0 (.pur 1 (.pur 2 (.pur 4 (.pur 6 (.pur 9 (.pur 10 (.pur 11 (.pur 13 (.pur 15 (.hld 3 (.hld 5 (.hld 7 (.hld 12 (.hld 14 (.hld 16 (.act 8 (.act 17 (.pur 18 (.pur 19 .fin))))))))))))))))))))) .s) (.q (.r [.plain 2]) (.c (.j [] 1809030538449968255452098728573155695392865074913524360746759549348481073152 (.d [0, 1, 3, 7, 0, 0, 32, 112, 0, 0, 512, 2032, 4095] (.pur 0 (.pur 1 (.pur 2 (.pur 5 (.pur 9 (.hld 3 (.hld 6 (.hld 10 (.alt 4 (.alt 7 (.act 8 (.act 11 (.act 12 .fin))) (.act 8 (.act 7 (.act 11 (.act 12 .fin))))) (.act 8 (.act 4 (.act 7 (.act 11 (.act 12 .fin)))))))))))))))
  (.d [0, 1, 3, 7, 0, 16, 0, 64, 255] (.pur 0 (.pur 1 (.pur 2 (.pur 4 (.pur 6 (.hld 3 (.hld 5 (.hld 7 (.act 8 .fin))))))))))) (.q (.r [.plain 2]) (.c (.q (.r [.plain 4]) .s) .s))))))))))))))))))))))))))))))))
  (.q (.r [.plain 1]) .s)))
def s17 (x0 a1 : Value) (K : Value → World → Prop) (w : World) : Prop :=
 BoxS 45 a1 (fun a3 w =>
 JoinS (fun (w : World) =>
 K (Value.bool true) w
 ) fun J0 =>
 PureS (fieldAddrV 0 a3) fun t5 =>
 LoadC t5 (fun t6 w =>
 PureS (binV .eql t6 (Value.int .i64 0)) fun t8 =>
 CondS t8 (
 DrawS fun S1 => S1 w.drew ∧ (
 PureS (nilV x0) fun t10 =>
 PureS (fieldAddrV 0 t10) fun t11 =>
 PureS (fieldAddrV 1 a3) fun t13 =>
 PureS (nilV x0) fun t17 =>
 PureS (fieldAddrV 1 t17) fun t18 =>
 PureS (fieldAddrV 1 a3) fun t20 =>
 HeldC S1 t11 (fun t12 =>
 HeldC S1 t13 (fun t14 =>
 HeldC S1 t18 (fun t19 =>
 HeldC S1 t20 (fun t21 =>
 CallS Tryz.prog 20 [t12, t14].toArray (fun t15 w =>
 S1 w ∧ (
 CallS Tryz.prog 42 [t19, t21].toArray (fun t22 w =>
 PureS (binV .eql t15 t22) fun t23 =>
 K t23 w
 ) w
 )
 ) w.drew
 )
 )
 )
 )
 )
 ) (
 PureS (binV .eql t6 (Value.int .i64 1)) fun t25 =>
 CondS t25 (
 DrawS fun S2 => S2 w.drew ∧ (
 PureS (nilV x0) fun t27 =>
 PureS (fieldAddrV 0 t27) fun t28 =>
 PureS (fieldAddrV 1 a3) fun t30 =>
 PureS (nilV x0) fun t34 =>
 PureS (fieldAddrV 1 t34) fun t35 =>
 PureS (fieldAddrV 1 a3) fun t37 =>
 HeldC S2 t28 (fun t29 =>
 HeldC S2 t30 (fun t31 =>
 HeldC S2 t35 (fun t36 =>
 HeldC S2 t37 (fun t38 =>
 CallS Tryz.prog 43 [t29, t31].toArray (fun t32 w =>
 S2 w ∧ (
 CallS Tryz.prog 44 [t36, t38].toArray (fun t39 w =>
 PureS (binV .eql t32 t39) fun t40 =>
 K t40 w
 ) w
 )
 ) w.drew
 )
 )
 )
 )
 )
 ) (
 PureS (binV .eql t6 (Value.int .i64 2)) fun t42 =>
 CondS t42 (
 DrawS fun S3 => S3 w.drew ∧ (
 PureS (nilV x0) fun t44 =>
 PureS (fieldAddrV 0 t44) fun t45 =>
 PureS (fieldAddrV 1 a3) fun t47 =>
 PureS (nilV x0) fun t51 =>
 PureS (fieldAddrV 1 t51) fun t52 =>
 PureS (fieldAddrV 1 a3) fun t54 =>
 HeldC S3 t45 (fun t46 =>
 HeldC S3 t47 (fun t48 =>
 HeldC S3 t52 (fun t53 =>
 HeldC S3 t54 (fun t55 =>
 CallS Tryz.prog 21 [t46, t48].toArray (fun t49 w =>
 S3 w ∧ (
 CallS Tryz.prog 45 [t53, t55].toArray (fun t56 w =>
 PureS (binV .eql t49 t56) fun t57 =>
 K t57 w
 ) w
 )
 ) w.drew
 )
 )
 )
 )
 )
 ) (
 JoinS (fun (t58 : Value) (w : World) =>
 CondS t58 (
 LoadA 8 a3 (fun t62 w =>
 CallS Tryz.prog 46 [x0, t62].toArray (fun t63 w =>
 K t63 w
 ) w
 ) w
 ) (
 PureS (binV .eql t6 (Value.int .i64 5)) fun t65 =>
 CondS t65 (
 DrawS fun S5 => S5 w.drew ∧ (
 PureS (nilV x0) fun t67 =>
 PureS (fieldAddrV 0 t67) fun t68 =>
 PureS (fieldAddrV 1 a3) fun t70 =>
 PureS (fieldAddrV 4 a3) fun t72 =>
 PureS (nilV x0) fun t76 =>
 PureS (fieldAddrV 1 t76) fun t77 =>
 PureS (fieldAddrV 1 a3) fun t79 =>
 PureS (fieldAddrV 4 a3) fun t81 =>
 HeldC S5 t68 (fun t69 =>
 HeldC S5 t70 (fun t71 =>
 HeldC S5 t72 (fun t73 =>
 HeldC S5 t77 (fun t78 =>
 HeldC S5 t79 (fun t80 =>
 HeldC S5 t81 (fun t82 =>
 CallS Tryz.prog 47 [t69, t71, t73].toArray (fun t74 w =>
 S5 w ∧ (
 CallS Tryz.prog 48 [t78, t80, t82].toArray (fun t83 w =>
 PureS (binV .eql t74 t83) fun t84 =>
 K t84 w
 ) w
 )
 ) w.drew
 )
 )
 )
 )
 )
 )
 )
 ) (
 PureS (binV .eql t6 (Value.int .i64 6)) fun t86 =>
 CondS t86 (
 DrawS fun S6 => S6 w.drew ∧ (
 PureS (nilV x0) fun t88 =>
 PureS (fieldAddrV 0 t88) fun t89 =>
 PureS (fieldAddrV 1 a3) fun t91 =>
 PureS (fieldAddrV 2 a3) fun t93 =>
 PureS (nilV x0) fun t97 =>
 PureS (fieldAddrV 1 t97) fun t98 =>
 PureS (fieldAddrV 1 a3) fun t100 =>
 PureS (fieldAddrV 2 a3) fun t102 =>
 HeldC S6 t89 (fun t90 =>
 HeldC S6 t91 (fun t92 =>
 HeldC S6 t93 (fun t94 =>
 HeldC S6 t98 (fun t99 =>
 HeldC S6 t100 (fun t101 =>
 HeldC S6 t102 (fun t103 =>
 CallS Tryz.prog 49 [t90, t92, t94].toArray (fun t95 w =>
 S6 w ∧ (
 CallS Tryz.prog 50 [t99, t101, t103].toArray (fun t104 w =>
 PureS (binV .eql t95 t104) fun t105 =>
 K t105 w
 ) w
 )
 ) w.drew
 )
 )
 )
 )
 )
 )
 )
 ) (
 PureS (binV .eql t6 (Value.int .i64 7)) fun t107 =>
 CondS t107 (
 DrawS fun S7 => S7 w.drew ∧ (
 PureS (nilV x0) fun t109 =>
 PureS (fieldAddrV 0 t109) fun t110 =>
 PureS (fieldAddrV 1 a3) fun t112 =>
 PureS (fieldAddrV 2 a3) fun t114 =>
 PureS (nilV x0) fun t118 =>
 PureS (fieldAddrV 1 t118) fun t119 =>
 PureS (fieldAddrV 1 a3) fun t121 =>
 PureS (fieldAddrV 2 a3) fun t123 =>
 HeldC S7 t110 (fun t111 =>
 HeldC S7 t112 (fun t113 =>
 HeldC S7 t114 (fun t115 =>
 HeldC S7 t119 (fun t120 =>
 HeldC S7 t121 (fun t122 =>
 HeldC S7 t123 (fun t124 =>
 CallS Tryz.prog 51 [t111, t113, t115].toArray (fun t116 w =>
 S7 w ∧ (
 CallS Tryz.prog 52 [t120, t122, t124].toArray (fun t125 w =>
 PureS (binV .eql t116 t125) fun t126 =>
 K t126 w
 ) w
 )
 ) w.drew
 )
 )
 )
 )
 )
 )
 )
 ) (
 PureS (binV .eql t6 (Value.int .i64 8)) fun t128 =>
 CondS t128 (
 DrawS fun S8 => S8 w.drew ∧ (
 PureS (nilV x0) fun t130 =>
 PureS (fieldAddrV 0 t130) fun t131 =>
 PureS (fieldAddrV 1 a3) fun t133 =>
 PureS (nilV x0) fun t137 =>
 PureS (fieldAddrV 1 t137) fun t138 =>
 PureS (fieldAddrV 1 a3) fun t140 =>
 HeldC S8 t131 (fun t132 =>
 HeldC S8 t133 (fun t134 =>
 HeldC S8 t138 (fun t139 =>
 HeldC S8 t140 (fun t141 =>
 CallS Tryz.prog 53 [t132, t134].toArray (fun t135 w =>
 S8 w ∧ (
 CallS Tryz.prog 54 [t139, t141].toArray (fun t142 w =>
 PureS (binV .eql t135 t142) fun t143 =>
 K t143 w
 ) w
 )
 ) w.drew
 )
 )
 )
 )
 )
 ) (
 PureS (binV .eql t6 (Value.int .i64 9)) fun t145 =>
 CondS t145 (
 DrawS fun S9 => S9 w.drew ∧ (
 PureS (nilV x0) fun t147 =>
 PureS (fieldAddrV 0 t147) fun t148 =>
 PureS (fieldAddrV 1 a3) fun t150 =>
 PureS (nilV x0) fun t154 =>
 PureS (fieldAddrV 1 t154) fun t155 =>
 PureS (fieldAddrV 1 a3) fun t157 =>
 HeldC S9 t148 (fun t149 =>
 HeldC S9 t150 (fun t151 =>
 HeldC S9 t155 (fun t156 =>
 HeldC S9 t157 (fun t158 =>
 CallS Tryz.prog 12 [t149, t151].toArray (fun t152 w =>
 S9 w ∧ (
 CallS Tryz.prog 55 [t156, t158].toArray (fun t159 w =>
 PureS (binV .eql t152 t159) fun t160 =>
 K t160 w
 ) w
 )
 ) w.drew
 )
 )
 )
 )
 )
 ) (
 PureS (binV .eql t6 (Value.int .i64 10)) fun t162 =>
 CondS t162 (
 DrawS fun S10 => S10 w.drew ∧ (
 PureS (nilV x0) fun t164 =>
 PureS (fieldAddrV 0 t164) fun t165 =>
 PureS (fieldAddrV 1 a3) fun t167 =>
 PureS (nilV x0) fun t171 =>
 PureS (fieldAddrV 1 t171) fun t172 =>
 PureS (fieldAddrV 1 a3) fun t174 =>
 HeldC S10 t165 (fun t166 =>
 HeldC S10 t167 (fun t168 =>
 HeldC S10 t172 (fun t173 =>
 HeldC S10 t174 (fun t175 =>
 CallS Tryz.prog 23 [t166, t168].toArray (fun t169 w =>
 S10 w ∧ (
 CallS Tryz.prog 56 [t173, t175].toArray (fun t176 w =>
 PureS (binV .eql t169 t176) fun t177 =>
 K t177 w
 ) w
 )
 ) w.drew
 )
 )
 )
 )
 )
 ) (
 PureS (binV .eql t6 (Value.int .i64 11)) fun t179 =>
 CondS t179 (
 DrawS fun S11 => S11 w.drew ∧ (
 PureS (nilV x0) fun t181 =>
 PureS (fieldAddrV 0 t181) fun t182 =>
 PureS (fieldAddrV 4 a3) fun t184 =>
 PureS (fieldAddrV 5 a3) fun t186 =>
 HeldC S11 t182 (fun t183 =>
 HeldC S11 t184 (fun t185 =>
 HeldC S11 t186 (fun t187 =>
 CallS Tryz.prog 36 [t183, t185, t187].toArray (fun t188 w =>
 DrawS fun S12 => S12 w.drew ∧ (
 PureS (nilV x0) fun t190 =>
 PureS (fieldAddrV 1 t190) fun t191 =>
 PureS (fieldAddrV 4 a3) fun t193 =>
 PureS (fieldAddrV 5 a3) fun t195 =>
 HeldC S12 t191 (fun t192 =>
 HeldC S12 t193 (fun t194 =>
 HeldC S12 t195 (fun t196 =>
 CallS Tryz.prog 57 [t192, t194, t196].toArray (fun t197 w =>
 J0 w
 ) w.drew
 )
 )
 )
 )
 ) w.drew
 )
 )
 )
 )
 ) (
 PureS (binV .eql t6 (Value.int .i64 12)) fun t199 =>
 CondS t199 (
 DrawS fun S13 => S13 w.drew ∧ (
 PureS (nilV x0) fun t201 =>
 PureS (fieldAddrV 0 t201) fun t202 =>
 PureS (fieldAddrV 4 a3) fun t204 =>
 HeldC S13 t202 (fun t203 =>
 HeldC S13 t204 (fun t205 =>
 CallS Tryz.prog 37 [t203, t205].toArray (fun t206 w =>
 DrawS fun S14 => S14 w.drew ∧ (
 PureS (nilV x0) fun t208 =>
 PureS (fieldAddrV 1 t208) fun t209 =>
 PureS (fieldAddrV 4 a3) fun t211 =>
 HeldC S14 t209 (fun t210 =>
 HeldC S14 t211 (fun t212 =>
 CallS Tryz.prog 58 [t210, t212].toArray (fun t213 w =>
 J0 w
 ) w.drew
 )
 )
 )
 ) w.drew
 )
 )
 )
 ) (
 PureS (binV .eql t6 (Value.int .i64 13)) fun t215 =>
 CondS t215 (
 DrawS fun S15 => S15 w.drew ∧ (
 PureS (nilV x0) fun t217 =>
 PureS (fieldAddrV 0 t217) fun t218 =>
 PureS (fieldAddrV 1 a3) fun t220 =>
 PureS (fieldAddrV 4 a3) fun t222 =>
 PureS (nilV x0) fun t226 =>
 PureS (fieldAddrV 1 t226) fun t227 =>
 PureS (fieldAddrV 1 a3) fun t229 =>
 PureS (fieldAddrV 4 a3) fun t231 =>
 HeldC S15 t218 (fun t219 =>
 HeldC S15 t220 (fun t221 =>
 HeldC S15 t222 (fun t223 =>
 HeldC S15 t227 (fun t228 =>
 HeldC S15 t229 (fun t230 =>
 HeldC S15 t231 (fun t232 =>
 CallS Tryz.prog 59 [t219, t221, t223].toArray (fun t224 w =>
 S15 w ∧ (
 CallS Tryz.prog 60 [t228, t230, t232].toArray (fun t233 w =>
 PureS (binV .eql t224 t233) fun t234 =>
 K t234 w
 ) w
 )
 ) w.drew
 )
 )
 )
 )
 )
 )
 )
 ) (
 PureS (binV .eql t6 (Value.int .i64 14)) fun t236 =>
 CondS t236 (
 JoinS (fun (w : World) =>
 DrawS fun S17 => S17 w.drew ∧ (
 PureS (nilV x0) fun t251 =>
 PureS (fieldAddrV 1 t251) fun t252 =>
 PureS (fieldAddrV 6 a3) fun t254 =>
 PureS (fieldAddrV 7 a3) fun t256 =>
 HeldC S17 t252 (fun t253 =>
 HeldC S17 t254 (fun t255 =>
 HeldC S17 t256 (fun t257 =>
 CallS Tryz.prog 61 [t253, t255, t257].toArray (fun t258 w =>
 J0 w
 ) w.drew
 )
 )
 )
 )
 ) fun J16 =>
 DrawS fun S18 => S18 w.drew ∧ (
 PureS (nilV x0) fun t238 =>
 PureS (fieldAddrV 0 t238) fun t239 =>
 PureS (fieldAddrV 6 a3) fun t242 =>
 PureS (fieldAddrV 7 a3) fun t246 =>
 HeldC S18 t239 (fun t240 =>
 HeldC S18 t242 (fun t243 =>
 HeldC S18 t246 (fun t247 =>
 (
 RunS Tryz.prog (Instr.buildSlice 23 0 [].toArray) (fun t241 w =>
 S18 w ∧ (
 (
 RunS Tryz.prog (Builtin.append_ #[23, 23] 23 [t241, t243].toArray) (fun t244 w =>
 S18 w ∧ (
 RunS Tryz.prog (Instr.buildSlice 23 0 [].toArray) (fun t245 w =>
 S18 w ∧ (
 RunS Tryz.prog (Builtin.append_ #[23, 23] 23 [t245, t247].toArray) (fun t248 w =>
 S18 w ∧ (
 CallS Tryz.prog 8 [t240, t244, t248].toArray (fun t249 w =>
 J16 w
 ) w
 )
 ) w
 )
 ) w
 )
 ) w
 ) ∧ (
 RunS Tryz.prog (Instr.buildSlice 23 0 [].toArray) (fun t245_1 w =>
 S18 w ∧ (
 RunS Tryz.prog (Builtin.append_ #[23, 23] 23 [t241, t243].toArray) (fun t244_1 w =>
 S18 w ∧ (
 RunS Tryz.prog (Builtin.append_ #[23, 23] 23 [t245_1, t247].toArray) (fun t248_1 w =>
 S18 w ∧ (
 CallS Tryz.prog 8 [t240, t244_1, t248_1].toArray (fun t249_1 w =>
 J16 w
 ) w
 )
 ) w
 )
 ) w
 )
 ) w
 )
 )
 ) w.drew
 ) ∧ (
 RunS Tryz.prog (Instr.buildSlice 23 0 [].toArray) (fun t245_2 w =>
 S18 w ∧ (
 RunS Tryz.prog (Instr.buildSlice 23 0 [].toArray) (fun t241_1 w =>
 S18 w ∧ (
 RunS Tryz.prog (Builtin.append_ #[23, 23] 23 [t241_1, t243].toArray) (fun t244_2 w =>
 S18 w ∧ (
 RunS Tryz.prog (Builtin.append_ #[23, 23] 23 [t245_2, t247].toArray) (fun t248_2 w =>
 S18 w ∧ (
 CallS Tryz.prog 8 [t240, t244_2, t248_2].toArray (fun t249_2 w =>
 J16 w
 ) w
 )
 ) w
 )
 ) w
 )
 ) w
 )
 ) w.drew
 )
 )
 )
 )
 )
 ) (
 PureS (binV .eql t6 (Value.int .i64 15)) fun t260 =>
 CondS t260 (
 LoadA 8 a3 (fun t262 w =>
 CallS Tryz.prog 62 [x0, t262].toArray (fun t263 w =>
 K t263 w
 ) w
 ) w
 ) (
 J0 w
 )
 )
 )
 )
 )
 )
 )
 )
 )
 )
 )
 )
 ) fun J4 =>
 PureS (binV .eql t6 (Value.int .i64 3)) fun t59 =>
 CondS t59 (
 J4 t59 w
 ) (
 PureS (binV .eql t6 (Value.int .i64 4)) fun t60 =>
 J4 t60 w
 )
 )
 )
 )
 ) w
 ) w
theorem s17_den (x0 a1 : Value) (K : Value → World → Prop) (w : World) : denFn Tryz.prog false (bodyOf Tryz.f17) Tryz.f17.results a17 [x0, a1] K NoP w = s17 x0 a1 K w := by kernel_rfl
theorem s17_dst : dstsOk (2 + 262) (bodyOf Tryz.f17) = true := by kernel_rfl
theorem s17_ann : annOk (bodyOf Tryz.f17) a17 = true := by kernel_rfl
theorem s17_call {x0 a1 : Value} {K : Value → World → Prop} {w : World} (hm : Tryz.prog.follows .mixedOrders = true) (h : s17 x0 a1 K w) : CallS Tryz.prog 17 #[x0, a1] K w :=
  fn_call (args := [x0, a1]) (m := 262) hm Tryz.func17 (by kernel_rfl) (rs := Tryz.f17.results) rfl Tryz.ntmps17 s17_dst s17_ann (by rw [s17_den]; exact h)

def a19 : Ann :=
 (.q (.r [.plain 2]) (.q (.q (.r [.plain 3, .grp 2 [8] 384, .plain 1]) (.c (.q (.r [.plain 2]) .s) .s)) (.q (.r [.plain 6]) .s)))
def s19 (quota0 : Value) (K : Value → World → Prop) (w : World) : Prop :=
 PureS (binV .lss quota0 (Value.int .i64 0)) fun t5 =>
 JoinS (fun (t8 : Value) (w : World) =>
 PureS (pickV t5 (Value.bool true) t8) fun t9 =>
 CondS t9 (
 K (Value.tuple [(Value.pointer none), (Value.int .i64 1)].toArray) w
 ) (
 RunS Tryz.prog (Instr.makeMap 64 none) (fun t11 w =>
 RunS Tryz.prog (Instr.build 68 [(0, quota0), (1, t11)].toArray) (fun t12 w =>
 BoxS 68 t12 (fun t13 w =>
 K (Value.tuple [t13, (Value.int .i64 0)].toArray) w
 ) w
 ) w
 ) w
 )
 ) fun J0 =>
 IfB t5 false (
 PureS (binV .gtr quota0 (Value.int .i64 268435456)) fun t8_1 =>
 J0 t8_1 w
 ) (
 J0 undef w
 )
theorem s19_den (quota0 : Value) (K : Value → World → Prop) (w : World) : denFn Tryz.prog false (bodyOf Tryz.f19) Tryz.f19.results a19 [quota0] K NoP w = s19 quota0 K w := by kernel_rfl
theorem s19_dst : dstsOk (1 + 13) (bodyOf Tryz.f19) = true := by kernel_rfl
theorem s19_ann : annOk (bodyOf Tryz.f19) a19 = true := by kernel_rfl
theorem s19_call {quota0 : Value} {K : Value → World → Prop} {w : World} (hm : Tryz.prog.follows .mixedOrders = true) (h : s19 quota0 K w) : CallS Tryz.prog 19 #[quota0] K w :=
  fn_call (args := [quota0]) (m := 13) hm Tryz.func19 (by kernel_rfl) (rs := Tryz.f19.results) rfl Tryz.ntmps19 s19_dst s19_ann (by rw [s19_den]; exact h)

def a20 : Ann :=
 (.q (.r [.plain 1]) (.q (.q (.r [.plain 3]) (.c (.q (.r [.plain 1]) .s) .s)) (.q (.q (.r [.plain 11]) (.q (.r [.plain 1]) (.c (.q (.r [.plain 1]) .s) .s))) (.q (.q (.r [.plain 6]) (.c (.q (.r [.plain 1]) .s) .s)) (.q (.q (.r [.plain 7]) (.q (.r [.plain 2]) (.c (.q (.r [.plain 2]) .s) .s))) (.q (.r [.plain 9]) (.q (.r [.plain 1]) .s)))))))
def s20 (f0 name1 : Value) (K : Value → World → Prop) (w : World) : Prop :=
 CallS Tryz.prog 71 [name1].toArray (fun t10 w =>
 PureS (notV t10) fun t11 =>
 CondS t11 (
 K (Value.int .i64 1) w
 ) (
 PureS (nilV f0) fun t14 =>
 PureS (fieldAddrV 1 t14) fun t15 =>
 LoadC t15 (fun t16 w =>
 RunS Tryz.prog (Instr.lookup 64 t16 name1 true) (fun t18 w =>
 PureS (extractV 0 t18) fun t19 =>
 PureS (extractV 1 t18) fun t20 =>
 CondS t20 (
 K (Value.int .i64 7) w
 ) (
 PureS (nilV f0) fun t23 =>
 PureS (fieldAddrV 1 t23) fun t24 =>
 LoadC t24 (fun t25 w =>
 RunS Tryz.prog (Builtin.len_ #[64] 3 [t25].toArray) (fun t26 w =>
 PureS (binV .geq t26 (Value.int .i64 64)) fun t27 =>
 CondS t27 (
 K (Value.int .i64 2) w
 ) (
 CallS Tryz.prog 35 [f0].toArray (fun t30 w =>
 PureS (extractV 0 t30) fun t31 =>
 PureS (extractV 1 t30) fun t32 =>
 PureS (binV .neq t31 (Value.int .i64 0)) fun t34 =>
 CondS t34 (
 K t31 w
 ) (
 PureS (nilV f0) fun t37 =>
 PureS (fieldAddrV 1 t37) fun t38 =>
 LoadC t38 (fun t39 w =>
 RunS Tryz.prog (Instr.makeMap 70 none) (fun t41 w =>
 RunS Tryz.prog (Instr.build 73 [(0, t41)].toArray) (fun t42 w =>
 BoxS 73 t42 (fun t43 w =>
 RunU Tryz.prog (Instr.mapUpdate 64 t39 name1 t43) (fun w =>
 K (Value.int .i64 0) w
 ) w
 ) w
 ) w
 ) w
 ) w
 )
 ) w
 )
 ) w
 ) w
 )
 ) w
 ) w
 )
 ) w
theorem s20_den (f0 name1 : Value) (K : Value → World → Prop) (w : World) : denFn Tryz.prog false (bodyOf Tryz.f20) Tryz.f20.results a20 [f0, name1] K NoP w = s20 f0 name1 K w := by kernel_rfl
theorem s20_dst : dstsOk (2 + 42) (bodyOf Tryz.f20) = true := by kernel_rfl
theorem s20_ann : annOk (bodyOf Tryz.f20) a20 = true := by kernel_rfl
theorem s20_call {f0 name1 : Value} {K : Value → World → Prop} {w : World} (hm : Tryz.prog.follows .mixedOrders = true) (h : s20 f0 name1 K w) : CallS Tryz.prog 20 #[f0, name1] K w :=
  fn_call (args := [f0, name1]) (m := 42) hm Tryz.func20 (by kernel_rfl) (rs := Tryz.f20.results) rfl Tryz.ntmps20 s20_dst s20_ann (by rw [s20_den]; exact h)

def a21 : Ann :=
 (.q (.r [.plain 1]) (.q (.r [.plain 11]) (.q (.q (.r [.plain 2]) (.c (.q (.r [.plain 2]) .s) .s)) (.q (.q (.d [0, 1, 3, 7, 0, 31, 63, 127, 127, 255, 1023] (.pur 0 (.pur 1 (.pur 2 (.hld 3 (.hld 4 (.hld 5 (.pur 6 (.pur 7 (.pur 8 (.pur 9 (.pur 10 .fin)))))))))))) (.q (.r [.plain 1]) (.c (.q (.r [.plain 1]) .s) .s))) (.q (.q (.r [.plain 6]) (.c (.q (.r [.plain 1]) .s) .s)) (.q (.q (.r [.plain 7]) (.q (.r [.plain 2]) (.c (.q (.r [.plain 2]) .s) .s))) (.q (.r [.plain 3]) (.q (.r [.plain 1]) .s))))))))
def s21 (f0 path1 : Value) (K : Value → World → Prop) (w : World) : Prop :=
 CallS Tryz.prog 72 [f0, path1].toArray (fun t15 w =>
 PureS (extractV 0 t15) fun t16 =>
 PureS (extractV 1 t15) fun t17 =>
 PureS (extractV 2 t15) fun t18 =>
 BoxS 9 (Value.string ⟨#[]⟩) (fun name6 w =>
 StoreC name6 t17 (fun w =>
 PureS (binV .neq t18 (Value.int .i64 0)) fun t20 =>
 CondS t20 (
 K t18 w
 ) (
 DrawS fun S0 => S0 w.drew ∧ (
 PureS (nilV t16) fun t24 =>
 PureS (fieldAddrV 0 t24) fun t25 =>
 HeldC S0 t25 (fun t26 =>
 HeldC S0 name6 (fun t27 =>
 HeldR Tryz.prog S0 (Instr.lookup 70 t26 t27 true) (fun t28 =>
 PureS (extractV 0 t28) fun t29 =>
 PureS (extractV 1 t28) fun t30 =>
 CondS t30 (
 K (Value.int .i64 7) w.drew
 ) (
 PureS (nilV t16) fun t33 =>
 PureS (fieldAddrV 0 t33) fun t34 =>
 LoadC t34 (fun t35 w =>
 RunS Tryz.prog (Builtin.len_ #[70] 3 [t35].toArray) (fun t36 w =>
 PureS (binV .geq t36 (Value.int .i64 1024)) fun t37 =>
 CondS t37 (
 K (Value.int .i64 2) w
 ) (
 CallS Tryz.prog 35 [f0].toArray (fun t40 w =>
 PureS (extractV 0 t40) fun t41 =>
 PureS (extractV 1 t40) fun t42 =>
 PureS (binV .neq t41 (Value.int .i64 0)) fun t44 =>
 CondS t44 (
 K t41 w
 ) (
 CallS Tryz.prog 73 [t16, (Value.func (Fn.func 74) [].toArray [name6].toArray)].toArray (fun t48 w =>
 K (Value.int .i64 0) w
 ) w
 )
 ) w
 )
 ) w
 ) w.drew
 )
 )
 )
 )
 )
 )
 ) w
 ) w
 ) w
theorem s21_den (f0 path1 : Value) (K : Value → World → Prop) (w : World) : denFn Tryz.prog false (bodyOf Tryz.f21) Tryz.f21.results a21 [f0, path1] K NoP w = s21 f0 path1 K w := by kernel_rfl
theorem s21_dst : dstsOk (2 + 47) (bodyOf Tryz.f21) = true := by kernel_rfl
theorem s21_ann : annOk (bodyOf Tryz.f21) a21 = true := by kernel_rfl
theorem s21_call {f0 path1 : Value} {K : Value → World → Prop} {w : World} (hm : Tryz.prog.follows .mixedOrders = true) (h : s21 f0 path1 K w) : CallS Tryz.prog 21 #[f0, path1] K w :=
  fn_call (args := [f0, path1]) (m := 47) hm Tryz.func21 (by kernel_rfl) (rs := Tryz.f21.results) rfl Tryz.ntmps21 s21_dst s21_ann (by rw [s21_den]; exact h)

def a22 : Ann :=
 (.q (.r [.plain 1]) (.q (.r [.plain 8]) (.q (.q (.r [.plain 2]) (.c (.q (.r [.plain 2]) .s) .s)) (.q (.r [.plain 6]) .s))))
def s22 (f0 path1 at2 b3 : Value) (K : Value → World → Prop) (w : World) : Prop :=
 CallS Tryz.prog 33 [f0, path1].toArray (fun t14 w =>
 PureS (extractV 0 t14) fun t15 =>
 PureS (extractV 1 t14) fun t16 =>
 PureS (binV .neq t16 (Value.int .i64 0)) fun t18 =>
 CondS t18 (
 K t16 w
 ) (
 CallS Tryz.prog 34 [f0, t15, at2, b3].toArray (fun t24 w =>
 K t24 w
 ) w
 )
 ) w
theorem s22_den (f0 path1 at2 b3 : Value) (K : Value → World → Prop) (w : World) : denFn Tryz.prog false (bodyOf Tryz.f22) Tryz.f22.results a22 [f0, path1, at2, b3] K NoP w = s22 f0 path1 at2 b3 K w := by kernel_rfl
theorem s22_dst : dstsOk (4 + 21) (bodyOf Tryz.f22) = true := by kernel_rfl
theorem s22_ann : annOk (bodyOf Tryz.f22) a22 = true := by kernel_rfl
theorem s22_call {f0 path1 at2 b3 : Value} {K : Value → World → Prop} {w : World} (hm : Tryz.prog.follows .mixedOrders = true) (h : s22 f0 path1 at2 b3 K w) : CallS Tryz.prog 22 #[f0, path1, at2, b3] K w :=
  fn_call (args := [f0, path1, at2, b3]) (m := 21) hm Tryz.func22 (by kernel_rfl) (rs := Tryz.f22.results) rfl Tryz.ntmps22 s22_dst s22_ann (by rw [s22_den]; exact h)

def a23 : Ann :=
 (.q (.r [.plain 1]) (.q (.r [.plain 8]) (.q (.q (.r [.plain 2]) (.c (.q (.r [.plain 2]) .s) .s)) (.q (.q (.r [.plain 7]) (.q (.r [.plain 2]) (.c (.q (.r [.plain 2]) .s) .s))) (.q (.r [.plain 4]) (.q (.r [.plain 1]) .s))))))
def s23 (f0 name1 : Value) (K : Value → World → Prop) (w : World) : Prop :=
 CallS Tryz.prog 75 [f0, name1].toArray (fun t12 w =>
 PureS (extractV 0 t12) fun t13 =>
 PureS (extractV 1 t12) fun t14 =>
 PureS (binV .neq t14 (Value.int .i64 0)) fun t16 =>
 CondS t16 (
 K t14 w
 ) (
 CallS Tryz.prog 35 [f0].toArray (fun t20 w =>
 PureS (extractV 0 t20) fun t21 =>
 PureS (extractV 1 t20) fun t22 =>
 PureS (binV .neq t21 (Value.int .i64 0)) fun t24 =>
 CondS t24 (
 K t21 w
 ) (
 PureS (nilV t13) fun t27 =>
 PureS (fieldAddrV 1 t27) fun t28 =>
 StoreC t28 (Value.slice none 0 0) (fun w =>
 K (Value.int .i64 0) w
 ) w
 )
 ) w
 )
 ) w
theorem s23_den (f0 name1 : Value) (K : Value → World → Prop) (w : World) : denFn Tryz.prog false (bodyOf Tryz.f23) Tryz.f23.results a23 [f0, name1] K NoP w = s23 f0 name1 K w := by kernel_rfl
theorem s23_dst : dstsOk (2 + 27) (bodyOf Tryz.f23) = true := by kernel_rfl
theorem s23_ann : annOk (bodyOf Tryz.f23) a23 = true := by kernel_rfl
theorem s23_call {f0 name1 : Value} {K : Value → World → Prop} {w : World} (hm : Tryz.prog.follows .mixedOrders = true) (h : s23 f0 name1 K w) : CallS Tryz.prog 23 #[f0, name1] K w :=
  fn_call (args := [f0, name1]) (m := 27) hm Tryz.func23 (by kernel_rfl) (rs := Tryz.f23.results) rfl Tryz.ntmps23 s23_dst s23_ann (by rw [s23_den]; exact h)

def a24 : Ann :=
 (.q (.r [.plain 2]) (.q (.r [.plain 8]) (.q (.q (.r [.plain 2]) (.c (.q (.r [.plain 3]) .s) .s)) (.q (.r [.plain 7]) .s))))
def s24 (f0 path1 : Value) (K : Value → World → Prop) (w : World) : Prop :=
 CallS Tryz.prog 33 [f0, path1].toArray (fun t11 w =>
 PureS (extractV 0 t11) fun t12 =>
 PureS (extractV 1 t11) fun t13 =>
 PureS (binV .neq t13 (Value.int .i64 0)) fun t15 =>
 CondS t15 (
 K (Value.tuple [(Value.slice none 0 0), t13].toArray) w
 ) (
 PureS (nilV t12) fun t18 =>
 PureS (fieldAddrV 2 t18) fun t19 =>
 LoadC t19 (fun t20 w =>
 CallS Tryz.prog 32 [t20].toArray (fun t21 w =>
 K (Value.tuple [t21, (Value.int .i64 0)].toArray) w
 ) w
 ) w
 )
 ) w
theorem s24_den (f0 path1 : Value) (K : Value → World → Prop) (w : World) : denFn Tryz.prog false (bodyOf Tryz.f24) Tryz.f24.results a24 [f0, path1] K NoP w = s24 f0 path1 K w := by kernel_rfl
theorem s24_dst : dstsOk (2 + 20) (bodyOf Tryz.f24) = true := by kernel_rfl
theorem s24_ann : annOk (bodyOf Tryz.f24) a24 = true := by kernel_rfl
theorem s24_call {f0 path1 : Value} {K : Value → World → Prop} {w : World} (hm : Tryz.prog.follows .mixedOrders = true) (h : s24 f0 path1 K w) : CallS Tryz.prog 24 #[f0, path1] K w :=
  fn_call (args := [f0, path1]) (m := 20) hm Tryz.func24 (by kernel_rfl) (rs := Tryz.f24.results) rfl Tryz.ntmps24 s24_dst s24_ann (by rw [s24_den]; exact h)

def a25 : Ann :=
 (.q (.r [.plain 2]) (.q (.r [.plain 2]) (.q (.r [.plain 2]) .s)))
def s25 (l0 : Value) (K : Value → World → Prop) (w : World) : Prop :=
 BoxS 23 l0 (fun l1 w =>
 BoxS 3 (Value.int .i64 0) (fun next3 w =>
 StoreC next3 (Value.int .i64 0) (fun w =>
 K (Value.func (Fn.func 76) [].toArray [l1, next3].toArray) w
 ) w
 ) w
 ) w
theorem s25_den (l0 : Value) (K : Value → World → Prop) (w : World) : denFn Tryz.prog false (bodyOf Tryz.f25) Tryz.f25.results a25 [l0] K NoP w = s25 l0 K w := by kernel_rfl
theorem s25_dst : dstsOk (1 + 4) (bodyOf Tryz.f25) = true := by kernel_rfl
theorem s25_ann : annOk (bodyOf Tryz.f25) a25 = true := by kernel_rfl
theorem s25_call {l0 : Value} {K : Value → World → Prop} {w : World} (hm : Tryz.prog.follows .mixedOrders = true) (h : s25 l0 K w) : CallS Tryz.prog 25 #[l0] K w :=
  fn_call (args := [l0]) (m := 4) hm Tryz.func25 (by kernel_rfl) (rs := Tryz.f25.results) rfl Tryz.ntmps25 s25_dst s25_ann (by rw [s25_den]; exact h)

def a26 : Ann :=
 (.q (.r [.plain 1]) (.q (.r [.plain 7]) .s))
def s26 (f0 : Value) (K : Value → World → Prop) (w : World) : Prop :=
 PureS (nilV f0) fun t4 =>
 PureS (fieldAddrV 1 t4) fun t5 =>
 LoadC t5 (fun t6 w =>
 CallS Tryz.prog 78 [t6].toArray (fun t7 w =>
 CallS Tryz.prog 77 [t7].toArray (fun t8 w =>
 K t8 w
 ) w
 ) w
 ) w
theorem s26_den (f0 : Value) (K : Value → World → Prop) (w : World) : denFn Tryz.prog false (bodyOf Tryz.f26) Tryz.f26.results a26 [f0] K NoP w = s26 f0 K w := by kernel_rfl
theorem s26_dst : dstsOk (1 + 8) (bodyOf Tryz.f26) = true := by kernel_rfl
theorem s26_ann : annOk (bodyOf Tryz.f26) a26 = true := by kernel_rfl
theorem s26_call {f0 : Value} {K : Value → World → Prop} {w : World} (hm : Tryz.prog.follows .mixedOrders = true) (h : s26 f0 K w) : CallS Tryz.prog 26 #[f0] K w :=
  fn_call (args := [f0]) (m := 8) hm Tryz.func26 (by kernel_rfl) (rs := Tryz.f26.results) rfl Tryz.ntmps26 s26_dst s26_ann (by rw [s26_den]; exact h)

def a27 : Ann :=
 (.q (.r [.plain 2]) (.q (.r [.plain 4]) (.b (.l [15] 18014398509450944 (.q (.r [.plain 1]) (.q (.c .s .s) (.j [] 9007199254611648 (.b (.q (.r [.plain 3]) (.q (.r [.plain 10]) (.q (.r [.plain 5]) (.b (.l [32] 9007194959775232 (.q (.r [.plain 1]) (.q (.c .s .s) (.q (.b (.q (.r [.plain 3]) (.q (.r [.plain 4]) (.q (.r [.plain 11]) (.r [.plain 3]))))) (.r [.plain 2]))))))))))
  (.r [.plain 2]))))))))
def s27 (f0 does1 : Value) (K : Value → World → Prop) (w : World) : Prop :=
 RunS Tryz.prog (Instr.makeMap 119 none) (fun t11 w =>
 CallS Tryz.prog 26 [f0].toArray (fun t13 w =>
 PureS (lenSliceV t13) fun t14 =>
 LoopS 1 (fun L0 (t15 : Value) (w : World) =>
 PureS (binV .lss t15 t14) fun t16 =>
 CondS t16 (
 JoinS (fun (w : World) =>
 PureS (binV .add t15 (Value.int .i64 1)) fun t53 =>
 L0 t53 w
 ) fun J1 =>
 PureS (indexAddrV 1 t13 t15) fun t17 =>
 LoadC t17 (fun t18 w =>
 PureS (nilV f0) fun t20 =>
 PureS (fieldAddrV 1 t20) fun t21 =>
 LoadC t21 (fun t22 w =>
 RunS Tryz.prog (Instr.lookup 64 t22 t18 false) (fun t24 w =>
 PureS (nilV t24) fun t25 =>
 PureS (fieldAddrV 0 t25) fun t26 =>
 LoadC t26 (fun t27 w =>
 CallS Tryz.prog 79 [t27].toArray (fun t29 w =>
 CallS Tryz.prog 77 [t29].toArray (fun t30 w =>
 PureS (lenSliceV t30) fun t31 =>
 LoopS 1 (fun L2 (t32 : Value) (w : World) =>
 PureS (binV .lss t32 t31) fun t33 =>
 CondS t33 (
 PureS (indexAddrV 1 t30 t32) fun t34 =>
 LoadC t34 (fun t35 w =>
 RunS Tryz.prog (Instr.lookup 70 t27 t35 false) (fun t38 w =>
 PureS (binV .add t18 (Value.string ⟨#[47]⟩)) fun t41 =>
 PureS (binV .add t41 t35) fun t43 =>
 RunS Tryz.prog (Instr.lookup 119 t11 t38 false) (fun t47 w =>
 PureS (notV t47) fun t48 =>
 CallV' Tryz.prog false does1 [t43, t38, t48] NoP (fun t49 w =>
 RunU Tryz.prog (Instr.mapUpdate 119 t11 t38 (Value.bool true)) (fun w =>
 PureS (binV .add t32 (Value.int .i64 1)) fun t52 =>
 L2 t52 w
 ) w
 ) w
 ) w
 ) w
 ) w
 ) (
 J1 w
 )
 ) (Value.int .i64 0) w
 ) w
 ) w
 ) w
 ) w
 ) w
 ) w
 ) (
 K (Value.tuple [].toArray) w
 )
 ) (Value.int .i64 0) w
 ) w
 ) w
theorem s27_den (f0 does1 : Value) (K : Value → World → Prop) (w : World) : denFn Tryz.prog false (bodyOf Tryz.f27) Tryz.f27.results a27 [f0, does1] K NoP w = s27 f0 does1 K w := by kernel_rfl
theorem s27_dst : dstsOk (2 + 52) (bodyOf Tryz.f27) = true := by kernel_rfl
theorem s27_ann : annOk (bodyOf Tryz.f27) a27 = true := by kernel_rfl
theorem s27_call {f0 does1 : Value} {K : Value → World → Prop} {w : World} (hm : Tryz.prog.follows .mixedOrders = true) (h : s27 f0 does1 K w) : CallS Tryz.prog 27 #[f0, does1] K w :=
  fn_call (args := [f0, does1]) (m := 52) hm Tryz.func27 (by kernel_rfl) (rs := Tryz.f27.results) rfl Tryz.ntmps27 s27_dst s27_ann (by rw [s27_den]; exact h)

def a28 : Ann :=
 (.q (.r [.plain 3]) (.q (.r [.plain 2, .grp 2 [13] 12288, .plain 1]) (.c (.r [.plain 7]) .s)))
def s28 (t0 x1 first2 t3 : Value) (K : Value → World → Prop) (w : World) : Prop :=
 CallS Tryz.prog 29 [x1].toArray (fun t9 w =>
 JoinS (fun (t13 : Value) (w : World) =>
 PureS (pickV first2 t13 (Value.bool false)) fun t14 =>
 CondS t14 (
 LoadC t3 (fun t16 w =>
 CallV' Tryz.prog false t16 [] NoP (fun t17 w =>
 PureS (binV .add t9 (Value.int .i64 1)) fun t19 =>
 PureS (binV .rem t17 t19) fun t20 =>
 CallS Tryz.prog 30 [x1, t20].toArray (fun t21 w =>
 K (Value.tuple [].toArray) w
 ) w
 ) w
 ) w
 ) (
 K (Value.tuple [].toArray) w
 )
 ) fun J0 =>
 IfB first2 true (
 PureS (binV .gtr t9 (Value.int .i64 0)) fun t13_1 =>
 J0 t13_1 w
 ) (
 J0 undef w
 )
 ) w
theorem s28_den (t0 x1 first2 t3 : Value) (K : Value → World → Prop) (w : World) : denFn Tryz.prog false (bodyOf Tryz.f28) Tryz.f28.results a28 [t0, x1, first2, t3] K NoP w = s28 t0 x1 first2 t3 K w := by kernel_rfl
theorem s28_dst : dstsOk (4 + 18) (bodyOf Tryz.f28) = true := by kernel_rfl
theorem s28_ann : annOk (bodyOf Tryz.f28) a28 = true := by kernel_rfl
theorem s28_call {t0 x1 first2 t3 : Value} {K : Value → World → Prop} {w : World} (hm : Tryz.prog.follows .mixedOrders = true) (h : s28 t0 x1 first2 t3 K w) : CallS Tryz.prog 28 #[t0, x1, first2, t3] K w :=
  fn_call (args := [t0, x1, first2, t3]) (m := 18) hm Tryz.func28 (by kernel_rfl) (rs := Tryz.f28.results) rfl Tryz.ntmps28 s28_dst s28_ann (by rw [s28_den]; exact h)

def a29 : Ann :=
 (.q (.r [.plain 1]) (.q (.r [.plain 1]) (.j [3] 2097128 (.q (.r [.plain 6]) (.b (.l [3, 11] 2095144 (.q (.r [.plain 1]) (.q (.c .s .s) (.q (.b (.q (.r [.plain 4]) (.r [.plain 6]))) (.r [.plain 2])))))))
  (.q (.r [.plain 2]) .s))))
def s29 (x0 : Value) (K : Value → World → Prop) (w : World) : Prop :=
 JoinS (fun (n3 : Value) (w : World) =>
 K n3 w
 ) fun J0 =>
 PureS (nilV x0) fun t7 =>
 PureS (fieldAddrV 1 t7) fun t8 =>
 LoadC t8 (fun t9 w =>
 PureS (lenSliceV t9) fun t10 =>
 LoopS 2 (fun L1 (n3_1 t11 : Value) (w : World) =>
 PureS (binV .lss t11 t10) fun t12 =>
 CondS t12 (
 PureS (indexAddrV 2 t9 t11) fun t13 =>
 LoadA 2 t13 (fun t14 w =>
 BoxS 94 (Value.agg #[(Value.int .i64 0), (Value.slice none 0 0)]) (fun w5 w =>
 StoreA 2 w5 t14 (fun w =>
 PureS (fieldAddrV 1 w5) fun t16 =>
 LoadC t16 (fun t17 w =>
 PureS (lenSliceV t17) fun t18 =>
 PureS (binV .add n3_1 t18) fun t19 =>
 PureS (binV .add t11 (Value.int .i64 1)) fun t20 =>
 L1 t19 t20 w
 ) w
 ) w
 ) w
 ) w
 ) (
 J0 n3_1 w
 )
 ) (Value.int .i64 0) (Value.int .i64 0) w
 ) w
theorem s29_den (x0 : Value) (K : Value → World → Prop) (w : World) : denFn Tryz.prog false (bodyOf Tryz.f29) Tryz.f29.results a29 [x0] K NoP w = s29 x0 K w := by kernel_rfl
theorem s29_dst : dstsOk (1 + 21) (bodyOf Tryz.f29) = true := by kernel_rfl
theorem s29_ann : annOk (bodyOf Tryz.f29) a29 = true := by kernel_rfl
theorem s29_call {x0 : Value} {K : Value → World → Prop} {w : World} (hm : Tryz.prog.follows .mixedOrders = true) (h : s29 x0 K w) : CallS Tryz.prog 29 #[x0] K w :=
  fn_call (args := [x0]) (m := 21) hm Tryz.func29 (by kernel_rfl) (rs := Tryz.f29.results) rfl Tryz.ntmps29 s29_dst s29_ann (by rw [s29_den]; exact h)

def a30 : Ann :=
 (.q (.r [.plain 5]) (.j [4] 2199023251666 (.q (.r [.plain 6]) (.b (.l [1, 4, 17] 2199023124690 (.q (.r [.plain 1]) (.q (.c .s .s) (.q (.b (.q (.r [.plain 4]) (.q (.r [.plain 6]) (.j [4] 137371844624 (.q (.r [.plain 2]) (.c (.d [0, 1, 0, 4, 0, 28, 63, 0, 255, 511] (.pur 0 (.pur 2 (.pur 4 (.pur 7 (.hld 1 (.hld 3 (.pur 5 (.act 6 (.act 8 (.pur 9 .fin))))))))))) .s))
  (.r [.plain 4]))))) (.r [.plain 2])))))))
  (.r [.plain 14])))
def s30 (x0 k1 : Value) (K : Value → World → Prop) (w : World) : Prop :=
 PureS (nilV x0) fun t9 =>
 PureS (fieldAddrV 0 t9) fun t10 =>
 LoadC t10 (fun t11 w =>
 JoinS (fun (b4 : Value) (w : World) =>
 PureS (nilV x0) fun t46 =>
 PureS (fieldAddrV 0 t46) fun t47 =>
 StoreC t47 b4 (fun w =>
 PureS (nilV x0) fun t48 =>
 PureS (fieldAddrV 1 t48) fun t49 =>
 StoreC t49 (Value.slice none 0 0) (fun w =>
 PureS (nilV x0) fun t50 =>
 PureS (fieldAddrV 2 t50) fun t51 =>
 StoreC t51 b4 (fun w =>
 K (Value.tuple [].toArray) w
 ) w
 ) w
 ) w
 ) fun J0 =>
 PureS (nilV x0) fun t13 =>
 PureS (fieldAddrV 1 t13) fun t14 =>
 LoadC t14 (fun t15 w =>
 PureS (lenSliceV t15) fun t16 =>
 LoopS 3 (fun L1 (k1_1 b4_1 t17 : Value) (w : World) =>
 PureS (binV .lss t17 t16) fun t18 =>
 CondS t18 (
 PureS (indexAddrV 2 t15 t17) fun t19 =>
 LoadA 2 t19 (fun t20 w =>
 BoxS 94 (Value.agg #[(Value.int .i64 0), (Value.slice none 0 0)]) (fun w6 w =>
 StoreA 2 w6 t20 (fun w =>
 PureS (fieldAddrV 1 w6) fun t22 =>
 LoadC t22 (fun t23 w =>
 PureS (lenSliceV t23) fun t24 =>
 PureS (minV k1_1 t24) fun t25 =>
 JoinS (fun (b4_2 : Value) (w : World) =>
 PureS (binV .sub k1_1 t25) fun t39 =>
 PureS (binV .add t17 (Value.int .i64 1)) fun t40 =>
 L1 t39 b4_2 t40 w
 ) fun J2 =>
 PureS (binV .gtr t25 (Value.int .i64 0)) fun t27 =>
 CondS t27 (
 DrawS fun S3 => S3 w.drew ∧ (
 PureS (fieldAddrV 0 w6) fun t28 =>
 PureS (fieldAddrV 1 w6) fun t30 =>
 HeldC S3 t28 (fun t29 =>
 HeldC S3 t30 (fun t31 =>
 PureS (sliceV 1 t31 none (some t25)) fun t33 =>
 RunS Tryz.prog (Instr.build 94 [(0, t29), (1, t33)].toArray) (fun t34 w =>
 CallS Tryz.prog 80 [t34, b4_1].toArray (fun t36 w =>
 J2 t36 w
 ) w
 ) w.drew
 )
 )
 )
 ) (
 J2 b4_1 w
 )
 ) w
 ) w
 ) w
 ) w
 ) (
 J0 b4_1 w
 )
 ) k1 t11 (Value.int .i64 0) w
 ) w
 ) w
theorem s30_den (x0 k1 : Value) (K : Value → World → Prop) (w : World) : denFn Tryz.prog false (bodyOf Tryz.f30) Tryz.f30.results a30 [x0, k1] K NoP w = s30 x0 k1 K w := by kernel_rfl
theorem s30_dst : dstsOk (2 + 50) (bodyOf Tryz.f30) = true := by kernel_rfl
theorem s30_ann : annOk (bodyOf Tryz.f30) a30 = true := by kernel_rfl
theorem s30_call {x0 k1 : Value} {K : Value → World → Prop} {w : World} (hm : Tryz.prog.follows .mixedOrders = true) (h : s30 x0 k1 K w) : CallS Tryz.prog 30 #[x0, k1] K w :=
  fn_call (args := [x0, k1]) (m := 50) hm Tryz.func30 (by kernel_rfl) (rs := Tryz.f30.results) rfl Tryz.ntmps30 s30_dst s30_ann (by rw [s30_den]; exact h)

def a31 : Ann :=
 (.j [] 3840 (.q (.r [.plain 1]) (.c (.r [.plain 4]) .s))
  (.d [0, 0, 0, 4, 12, 28, 60, 0, 252, 0, 0, 1536, 4094, 8190, 16383, 32767] (.pur 1 (.pur 2 (.pur 3 (.pur 4 (.pur 7 (.pur 10 (.hld 0 (.hld 5 (.hld 9 (.hld 11 (.act 6 (.act 8 (.act 12 (.act 13 (.act 14 (.act 15 .fin))))))))))))))))))
def s31 (path0 x1 first2 t3 t4 : Value) (K : Value → World → Prop) (w : World) : Prop :=
 JoinS (fun (w : World) =>
 DrawS fun S1 => S1 w.drew ∧ (
 PureS (nilV x1) fun t15 =>
 PureS (fieldAddrV 2 t15) fun t16 =>
 HeldC S1 t4 (fun t12 =>
 HeldC S1 t16 (fun t17 =>
 HeldC S1 t3 (fun t21 =>
 HeldR Tryz.prog S1 (Instr.lookup 78 t21 x1 false) (fun t23 =>
 CallS Tryz.prog 32 [t17].toArray (fun t18 w =>
 S1 w ∧ (
 CallS Tryz.prog 29 [x1].toArray (fun t20 w =>
 S1 w ∧ (
 RunS Tryz.prog (Instr.build 36 [(0, path0), (1, t18), (2, t20), (3, t23)].toArray) (fun t24 w =>
 S1 w ∧ (
 RunS Tryz.prog (Instr.buildSlice 29 1 [(0, t24)].toArray) (fun t25 w =>
 S1 w ∧ (
 RunS Tryz.prog (Builtin.append_ #[29, 29] 29 [t12, t25].toArray) (fun t26 w =>
 StoreC t4 t26 (fun w =>
 K (Value.tuple [].toArray) w
 ) w
 ) w
 )
 ) w
 )
 ) w
 )
 ) w
 )
 ) w.drew
 )
 )
 )
 )
 )
 ) fun J0 =>
 CondS first2 (
 LoadC t3 (fun t9 w =>
 RunU Tryz.prog (Instr.mapUpdate 78 t9 x1 path0) (fun w =>
 J0 w
 ) w
 ) w
 ) (
 J0 w
 )
theorem s31_den (path0 x1 first2 t3 t4 : Value) (K : Value → World → Prop) (w : World) : denFn Tryz.prog false (bodyOf Tryz.f31) Tryz.f31.results a31 [path0, x1, first2, t3, t4] K NoP w = s31 path0 x1 first2 t3 t4 K w := by kernel_rfl
theorem s31_dst : dstsOk (5 + 22) (bodyOf Tryz.f31) = true := by kernel_rfl
theorem s31_ann : annOk (bodyOf Tryz.f31) a31 = true := by kernel_rfl
theorem s31_call {path0 x1 first2 t3 t4 : Value} {K : Value → World → Prop} {w : World} (hm : Tryz.prog.follows .mixedOrders = true) (h : s31 path0 x1 first2 t3 t4 K w) : CallS Tryz.prog 31 #[path0, x1, first2, t3, t4] K w :=
  fn_call (args := [path0, x1, first2, t3, t4]) (m := 22) hm Tryz.func31 (by kernel_rfl) (rs := Tryz.f31.results) rfl Tryz.ntmps31 s31_dst s31_ann (by rw [s31_den]; exact h)

def a32 : Ann :=
 (.q (.r [.plain 1]) (.q (.q (.r [.plain 2]) (.c (.q (.r [.plain 1]) .s) .s)) (.q (.r [.plain 4]) .s)))
def s32 (s0 : Value) (K : Value → World → Prop) (w : World) : Prop :=
 RunS Tryz.prog (do eqGuard .eql 34 (Operand.tmp 3) (Operand.const (Value.slice none 0 0)) s0 (Value.slice none 0 0); binOp .eql 34 s0 (Value.slice none 0 0)) (fun t4 w =>
 CondS t4 (
 K (Value.slice none 0 0) w
 ) (
 RunS Tryz.prog (Instr.buildSlice 34 0 [].toArray) (fun t5 w =>
 RunS Tryz.prog (Builtin.append_ #[34, 34] 34 [t5, s0].toArray) (fun t7 w =>
 K t7 w
 ) w
 ) w
 )
 ) w
theorem s32_den (s0 : Value) (K : Value → World → Prop) (w : World) : denFn Tryz.prog false (bodyOf Tryz.f32) Tryz.f32.results a32 [s0] K NoP w = s32 s0 K w := by kernel_rfl
theorem s32_dst : dstsOk (1 + 7) (bodyOf Tryz.f32) = true := by kernel_rfl
theorem s32_ann : annOk (bodyOf Tryz.f32) a32 = true := by kernel_rfl
theorem s32_call {s0 : Value} {K : Value → World → Prop} {w : World} (hm : Tryz.prog.follows .mixedOrders = true) (h : s32 s0 K w) : CallS Tryz.prog 32 #[s0] K w :=
  fn_call (args := [s0]) (m := 7) hm Tryz.func32 (by kernel_rfl) (rs := Tryz.f32.results) rfl Tryz.ntmps32 s32_dst s32_ann (by rw [s32_den]; exact h)

def a33 : Ann :=
 (.q (.r [.plain 2]) (.q (.r [.plain 10]) (.q (.q (.r [.plain 2]) (.c (.q (.r [.plain 3]) .s) .s)) (.q (.r [.plain 11]) (.q (.q (.r [.plain 2]) (.c (.q (.r [.plain 2]) .s) .s)) (.q (.r [.plain 3]) .s))))))
def s33 (f0 path1 : Value) (K : Value → World → Prop) (w : World) : Prop :=
 CallS Tryz.prog 72 [f0, path1].toArray (fun t14 w =>
 PureS (extractV 0 t14) fun t15 =>
 PureS (extractV 1 t14) fun t16 =>
 PureS (extractV 2 t14) fun t17 =>
 PureS (binV .neq t17 (Value.int .i64 0)) fun t19 =>
 CondS t19 (
 K (Value.tuple [(Value.pointer none), t17].toArray) w
 ) (
 PureS (nilV t15) fun t23 =>
 PureS (fieldAddrV 0 t23) fun t24 =>
 LoadC t24 (fun t25 w =>
 RunS Tryz.prog (Instr.lookup 70 t25 t16 true) (fun t27 w =>
 PureS (extractV 0 t27) fun t28 =>
 PureS (extractV 1 t27) fun t29 =>
 PureS (notV t29) fun t31 =>
 CondS t31 (
 K (Value.tuple [(Value.pointer none), (Value.int .i64 6)].toArray) w
 ) (
 K (Value.tuple [t28, (Value.int .i64 0)].toArray) w
 )
 ) w
 ) w
 )
 ) w
theorem s33_den (f0 path1 : Value) (K : Value → World → Prop) (w : World) : denFn Tryz.prog false (bodyOf Tryz.f33) Tryz.f33.results a33 [f0, path1] K NoP w = s33 f0 path1 K w := by kernel_rfl
theorem s33_dst : dstsOk (2 + 31) (bodyOf Tryz.f33) = true := by kernel_rfl
theorem s33_ann : annOk (bodyOf Tryz.f33) a33 = true := by kernel_rfl
theorem s33_call {f0 path1 : Value} {K : Value → World → Prop} {w : World} (hm : Tryz.prog.follows .mixedOrders = true) (h : s33 f0 path1 K w) : CallS Tryz.prog 33 #[f0, path1] K w :=
  fn_call (args := [f0, path1]) (m := 31) hm Tryz.func33 (by kernel_rfl) (rs := Tryz.f33.results) rfl Tryz.ntmps33 s33_dst s33_ann (by rw [s33_den]; exact h)

def a34 : Ann :=
 (.q (.r [.plain 1]) (.q (.q (.r [.plain 3, .grp 7 [22] 8323072, .plain 1]) (.c (.q (.r [.plain 1]) .s) .s)) (.q (.q (.r [.plain 11]) (.j [46] 140720308486144 (.d [0, 1, 3, 7, 15, 7, 63, 7, 135, 391, 903, 2047, 4095] (.pur 0 (.pur 1 (.pur 2 (.ite 2 (.pur 3 (.pur 5 (.pur 7 (.pur 8 (.pur 9 (.hld 10 (.act 4 (.pur 6 (.pur 11 (.pur 12 .fin)))))))))) (.skp 3 (.skp 4 (.skp 5 (.skp 6 (.skp 7 (.skp 8 (.skp 9 (.skp 10 (.skp 11 (.pur 12 .fin)))))))))))))))
  (.c (.q (.r [.plain 1]) .s) .s))) (.q (.r [.plain 7]) (.j [3] 283726776524341256 (.q (.r [.plain 1]) (.c (.r [.plain 6]) .s))
  (.j [] 2475880078282530173646540800 (.q (.r [.plain 3, .grp 1 [61] 2305843009213693952, .plain 2, .grp 3 [66] 129127208515966861312, .plain 1]) (.c (.q (.r [.plain 6]) (.q (.d [0, 0, 2, 6, 14, 0, 32, 126, 255, 511, 1023] (.pur 0 (.pur 1 (.pur 2 (.pur 3 (.hld 4 (.hld 5 (.act 6 (.act 7 (.pur 8 (.pur 9 (.act 10 .fin)))))))))))) (.d [0, 0, 0, 4, 12, 28, 62, 127, 255, 511] (.pur 0 (.pur 2 (.pur 3 (.pur 4 (.hld 1 (.hld 5 (.act 6 (.pur 7 (.pur 8 (.act 9 .fin))))))))))))) .s))
  (.q (.r [.plain 2]) .s)))))))
def s34 (f0 x1 at2 b3 : Value) (K : Value → World → Prop) (w : World) : Prop :=
 PureS (binV .lss at2 (Value.int .i64 0)) fun t14 =>
 JoinS (fun (t22 : Value) (w : World) =>
 PureS (pickV t14 (Value.bool true) t22) fun t23 =>
 CondS t23 (
 K (Value.int .i64 1) w
 ) (
 PureS (lenSliceV b3) fun t26 =>
 PureS (binV .add at2 t26) fun t27 =>
 PureS (nilV x1) fun t29 =>
 PureS (fieldAddrV 2 t29) fun t30 =>
 LoadC t30 (fun t31 w =>
 PureS (lenSliceV t31) fun t32 =>
 PureS (binV .sub t27 t32) fun t33 =>
 JoinS (fun (t46 : Value) (w : World) =>
 CondS t46 (
 K (Value.int .i64 20) w
 ) (
 CallS Tryz.prog 35 [f0].toArray (fun t49 w =>
 PureS (extractV 0 t49) fun t50 =>
 PureS (extractV 1 t49) fun t51 =>
 JoinS (fun (b3_1 : Value) (w : World) =>
 JoinS (fun (w : World) =>
 K t50 w
 ) fun J3 =>
 PureS (binV .eql t50 (Value.int .i64 0)) fun t59 =>
 JoinS (fun (t61 : Value) (w : World) =>
 PureS (pickV t59 (Value.bool true) t61) fun t62 =>
 JoinS (fun (t66 : Value) (w : World) =>
 PureS (pickV t62 t66 (Value.bool false)) fun t67 =>
 CondS t67 (
 CallS Tryz.prog 32 [b3_1].toArray (fun t70 w =>
 RunS Tryz.prog (Instr.build 94 [(0, at2), (1, t70)].toArray) (fun t71 w =>
 BoxS 94 (Value.agg #[(Value.int .i64 0), (Value.slice none 0 0)]) (fun w12 w =>
 StoreA 2 w12 t71 (fun w =>
 DrawS fun S6 => S6 w.drew ∧ (
 PureS (nilV x1) fun t74 =>
 PureS (fieldAddrV 1 t74) fun t75 =>
 HeldC S6 t75 (fun t76 =>
 HeldA 2 S6 w12 (fun t77 =>
 RunS Tryz.prog (Instr.buildSlice 80 1 [(0, t77)].toArray) (fun t78 w =>
 S6 w ∧ (
 RunS Tryz.prog (Builtin.append_ #[80, 80] 80 [t76, t78].toArray) (fun t79 w =>
 PureS (nilV x1) fun t80 =>
 PureS (fieldAddrV 1 t80) fun t81 =>
 StoreC t81 t79 (fun w =>
 DrawS fun S7 => S7 w.drew ∧ (
 PureS (nilV x1) fun t85 =>
 PureS (fieldAddrV 2 t85) fun t86 =>
 HeldA 2 S7 w12 (fun t83 =>
 HeldC S7 t86 (fun t87 =>
 CallS Tryz.prog 80 [t83, t87].toArray (fun t88 w =>
 PureS (nilV x1) fun t89 =>
 PureS (fieldAddrV 2 t89) fun t90 =>
 StoreC t90 t88 (fun w =>
 J3 w
 ) w
 ) w.drew
 )
 )
 )
 ) w
 ) w
 )
 ) w.drew
 )
 )
 )
 ) w
 ) w
 ) w
 ) w
 ) (
 J3 w
 )
 ) fun J5 =>
 IfB t62 true (
 PureS (lenSliceV b3_1) fun t65 =>
 PureS (binV .gtr t65 (Value.int .i64 0)) fun t66_1 =>
 J5 t66_1 w
 ) (
 J5 undef w
 )
 ) fun J4 =>
 IfB t59 false (
 J4 t51 w
 ) (
 J4 undef w
 )
 ) fun J2 =>
 CondS t51 (
 PureS (lenSliceV b3) fun t55 =>
 PureS (binV .quo t55 (Value.int .i64 2)) fun t56 =>
 PureS (sliceV 1 b3 none (some t56)) fun t57 =>
 J2 t57 w
 ) (
 J2 b3 w
 )
 ) w
 )
 ) fun J1 =>
 DrawS fun S8 => S8 w.drew ∧ (
 PureS (binV .gtr t33 (Value.int .i64 0)) fun t35 =>
 CondS t35 (
 PureS (nilV f0) fun t42 =>
 PureS (fieldAddrV 0 t42) fun t43 =>
 HeldC S8 t43 (fun t44 =>
 CallS Tryz.prog 81 [f0].toArray (fun t38 w =>
 S8 w ∧ (
 PureS (binV .add t38 t33) fun t40 =>
 PureS (binV .gtr t40 t44) fun t45 =>
 PureS (pickV (Value.bool true) t45 (Value.bool false)) fun t46_1 =>
 J1 t46_1 w
 )
 ) w.drew
 )
 ) (
 PureS (pickV (Value.bool false) undef (Value.bool false)) fun t46_2 =>
 J1 t46_2 w.drew
 )
 )
 ) w
 )
 ) fun J0 =>
 IfB t14 false (
 PureS (nilV x1) fun t18 =>
 PureS (fieldAddrV 2 t18) fun t19 =>
 LoadC t19 (fun t20 w =>
 PureS (lenSliceV t20) fun t21 =>
 PureS (binV .gtr at2 t21) fun t22_1 =>
 J0 t22_1 w
 ) w
 ) (
 J0 undef w
 )
theorem s34_den (f0 x1 at2 b3 : Value) (K : Value → World → Prop) (w : World) : denFn Tryz.prog false (bodyOf Tryz.f34) Tryz.f34.results a34 [f0, x1, at2, b3] K NoP w = s34 f0 x1 at2 b3 K w := by kernel_rfl
theorem s34_dst : dstsOk (4 + 88) (bodyOf Tryz.f34) = true := by kernel_rfl
theorem s34_ann : annOk (bodyOf Tryz.f34) a34 = true := by kernel_rfl
theorem s34_call {f0 x1 at2 b3 : Value} {K : Value → World → Prop} {w : World} (hm : Tryz.prog.follows .mixedOrders = true) (h : s34 f0 x1 at2 b3 K w) : CallS Tryz.prog 34 #[f0, x1, at2, b3] K w :=
  fn_call (args := [f0, x1, at2, b3]) (m := 88) hm Tryz.func34 (by kernel_rfl) (rs := Tryz.f34.results) rfl Tryz.ntmps34 s34_dst s34_ann (by rw [s34_den]; exact h)

def a35 : Ann :=
 (.q (.r [.plain 2]) (.q (.r [.plain 9]) (.q (.r [.plain 9]) (.q (.b (.q (.r [.plain 2]) (.c (.q (.r [.plain 3]) .s) (.q (.r [.plain 2]) (.c (.q (.r [.plain 3]) .s) .s))))) (.q (.r [.plain 2]) .s)))))
def s35 (f0 : Value) (K : Value → World → Prop) (w : World) : Prop :=
 PureS (nilV f0) fun t10 =>
 PureS (fieldAddrV 2 t10) fun t11 =>
 CallS Tryz.prog 82 [t11].toArray (fun t12 w =>
 PureS (extractV 0 t12) fun t13 =>
 PureS (extractV 1 t12) fun t14 =>
 PureS (nilV f0) fun t17 =>
 PureS (fieldAddrV 5 t17) fun t18 =>
 CallS Tryz.prog 82 [t18].toArray (fun t19 w =>
 PureS (extractV 0 t19) fun t20 =>
 PureS (extractV 1 t19) fun t21 =>
 CondS t20 (
 K (Value.tuple [(Value.int .i64 22), t21].toArray) w
 ) (
 CondS t13 (
 K (Value.tuple [(Value.int .i64 21), t14].toArray) w
 ) (
 K (Value.tuple [(Value.int .i64 0), (Value.bool false)].toArray) w
 )
 )
 ) w
 ) w
theorem s35_den (f0 : Value) (K : Value → World → Prop) (w : World) : denFn Tryz.prog false (bodyOf Tryz.f35) Tryz.f35.results a35 [f0] K NoP w = s35 f0 K w := by kernel_rfl
theorem s35_dst : dstsOk (1 + 27) (bodyOf Tryz.f35) = true := by kernel_rfl
theorem s35_ann : annOk (bodyOf Tryz.f35) a35 = true := by kernel_rfl
theorem s35_call {f0 : Value} {K : Value → World → Prop} {w : World} (hm : Tryz.prog.follows .mixedOrders = true) (h : s35 f0 K w) : CallS Tryz.prog 35 #[f0] K w :=
  fn_call (args := [f0]) (m := 27) hm Tryz.func35 (by kernel_rfl) (rs := Tryz.f35.results) rfl Tryz.ntmps35 s35_dst s35_ann (by rw [s35_den]; exact h)

def a36 : Ann :=
 (.r [.plain 8])
def s36 (f0 n1 many2 : Value) (K : Value → World → Prop) (w : World) : Prop :=
 PureS (maxV many2 (Value.int .i64 0)) fun t9 =>
 RunS Tryz.prog (Instr.build 66 [(0, n1), (1, t9)].toArray) (fun t10 w =>
 PureS (nilV f0) fun t11 =>
 PureS (fieldAddrV 2 t11) fun t12 =>
 StoreA 3 t12 t10 (fun w =>
 K (Value.tuple [].toArray) w
 ) w
 ) w
theorem s36_den (f0 n1 many2 : Value) (K : Value → World → Prop) (w : World) : denFn Tryz.prog false (bodyOf Tryz.f36) Tryz.f36.results a36 [f0, n1, many2] K NoP w = s36 f0 n1 many2 K w := by kernel_rfl
theorem s36_dst : dstsOk (3 + 10) (bodyOf Tryz.f36) = true := by kernel_rfl
theorem s36_ann : annOk (bodyOf Tryz.f36) a36 = true := by kernel_rfl
theorem s36_call {f0 n1 many2 : Value} {K : Value → World → Prop} {w : World} (hm : Tryz.prog.follows .mixedOrders = true) (h : s36 f0 n1 many2 K w) : CallS Tryz.prog 36 #[f0, n1, many2] K w :=
  fn_call (args := [f0, n1, many2]) (m := 10) hm Tryz.func36 (by kernel_rfl) (rs := Tryz.f36.results) rfl Tryz.ntmps36 s36_dst s36_ann (by rw [s36_den]; exact h)

def a37 : Ann :=
 (.r [.plain 6])
def s37 (f0 n1 : Value) (K : Value → World → Prop) (w : World) : Prop :=
 RunS Tryz.prog (Instr.build 66 [(0, n1), (1, (Value.int .i64 (-1)))].toArray) (fun t6 w =>
 PureS (nilV f0) fun t7 =>
 PureS (fieldAddrV 5 t7) fun t8 =>
 StoreA 3 t8 t6 (fun w =>
 K (Value.tuple [].toArray) w
 ) w
 ) w
theorem s37_den (f0 n1 : Value) (K : Value → World → Prop) (w : World) : denFn Tryz.prog false (bodyOf Tryz.f37) Tryz.f37.results a37 [f0, n1] K NoP w = s37 f0 n1 K w := by kernel_rfl
theorem s37_dst : dstsOk (2 + 7) (bodyOf Tryz.f37) = true := by kernel_rfl
theorem s37_ann : annOk (bodyOf Tryz.f37) a37 = true := by kernel_rfl
theorem s37_call {f0 n1 : Value} {K : Value → World → Prop} {w : World} (hm : Tryz.prog.follows .mixedOrders = true) (h : s37 f0 n1 K w) : CallS Tryz.prog 37 #[f0, n1] K w :=
  fn_call (args := [f0, n1]) (m := 7) hm Tryz.func37 (by kernel_rfl) (rs := Tryz.f37.results) rfl Tryz.ntmps37 s37_dst s37_ann (by rw [s37_den]; exact h)

def a38 : Ann :=
 (.q (.r [.plain 1]) (.q (.r [.plain 3]) .s))
def s38 (f0 : Value) (K : Value → World → Prop) (w : World) : Prop :=
 CallS Tryz.prog 26 [f0].toArray (fun t4 w =>
 K t4 w
 ) w
theorem s38_den (f0 : Value) (K : Value → World → Prop) (w : World) : denFn Tryz.prog false (bodyOf Tryz.f38) Tryz.f38.results a38 [f0] K NoP w = s38 f0 K w := by kernel_rfl
theorem s38_dst : dstsOk (1 + 4) (bodyOf Tryz.f38) = true := by kernel_rfl
theorem s38_ann : annOk (bodyOf Tryz.f38) a38 = true := by kernel_rfl
theorem s38_call {f0 : Value} {K : Value → World → Prop} {w : World} (hm : Tryz.prog.follows .mixedOrders = true) (h : s38 f0 K w) : CallS Tryz.prog 38 #[f0] K w :=
  fn_call (args := [f0]) (m := 4) hm Tryz.func38 (by kernel_rfl) (rs := Tryz.f38.results) rfl Tryz.ntmps38 s38_dst s38_ann (by rw [s38_den]; exact h)

def a39 : Ann :=
 (.q (.r [.plain 2]) (.q (.q (.r [.plain 3, .grp 2 [8] 384, .plain 1]) (.c (.q (.r [.plain 2]) .s) .s)) (.q (.r [.plain 5]) .s)))
def s39 (quota0 : Value) (K : Value → World → Prop) (w : World) : Prop :=
 PureS (binV .lss quota0 (Value.int .i64 0)) fun t5 =>
 JoinS (fun (t8 : Value) (w : World) =>
 PureS (pickV t5 (Value.bool true) t8) fun t9 =>
 CondS t9 (
 K (Value.tuple [(Value.pointer none), (Value.int .i64 1)].toArray) w
 ) (
 RunS Tryz.prog (Instr.build 99 [(0, quota0)].toArray) (fun t11 w =>
 BoxS 99 t11 (fun t12 w =>
 K (Value.tuple [t12, (Value.int .i64 0)].toArray) w
 ) w
 ) w
 )
 ) fun J0 =>
 IfB t5 false (
 PureS (binV .gtr quota0 (Value.int .i64 268435456)) fun t8_1 =>
 J0 t8_1 w
 ) (
 J0 undef w
 )
theorem s39_den (quota0 : Value) (K : Value → World → Prop) (w : World) : denFn Tryz.prog false (bodyOf Tryz.f39) Tryz.f39.results a39 [quota0] K NoP w = s39 quota0 K w := by kernel_rfl
theorem s39_dst : dstsOk (1 + 12) (bodyOf Tryz.f39) = true := by kernel_rfl
theorem s39_ann : annOk (bodyOf Tryz.f39) a39 = true := by kernel_rfl
theorem s39_call {quota0 : Value} {K : Value → World → Prop} {w : World} (hm : Tryz.prog.follows .mixedOrders = true) (h : s39 quota0 K w) : CallS Tryz.prog 39 #[quota0] K w :=
  fn_call (args := [quota0]) (m := 12) hm Tryz.func39 (by kernel_rfl) (rs := Tryz.f39.results) rfl Tryz.ntmps39 s39_dst s39_ann (by rw [s39_den]; exact h)
end Go.Proofs.YthohdinjpkehpaaGreat

namespace Go.Proofs.YthohdinjpkehpaaGreat
set_option linter.unusedVariables false
set_option maxRecDepth 100000
open Go SG

def a42 : Ann :=
 (.q (.r [.plain 1]) (.q (.b (.q (.r [.plain 4]) (.c (.q (.r [.plain 1]) .s) (.q (.r [.plain 5]) (.c (.q (.r [.plain 1]) .s) (.q (.r [.plain 7]) (.c (.q (.r [.plain 1]) .s) .s))))))) (.q (.r [.plain 3]) (.q (.q (.r [.plain 2]) (.c (.q (.r [.plain 2]) .s) .s)) (.q (.r [.plain 1]) (.j [6] 1125899369971776 (.b (.l [6] 1125899369971776 (.q (.q (.r [.plain 8, .grp 10 [46] 140600049401856, .plain 1]) (.c .s .s)) (.b (.r [.plain 3])))))
  (.q (.r [.plain 9]) (.q (.r [.plain 8]) (.q (.r [.plain 12]) (.q (.r [.plain 1]) .s))))))))))
def s42 (f0 dir1 : Value) (K : Value → World → Prop) (w : World) : Prop :=
 CallS Tryz.prog 83 [dir1].toArray (fun t10 w =>
 PureS (notV t10) fun t11 =>
 CondS t11 (
 K (Value.int .i64 1) w
 ) (
 CallS Tryz.prog 84 [f0, dir1].toArray (fun t15 w =>
 PureS (binV .geq t15 (Value.int .i64 0)) fun t16 =>
 CondS t16 (
 K (Value.int .i64 7) w
 ) (
 PureS (nilV f0) fun t19 =>
 PureS (fieldAddrV 1 t19) fun t20 =>
 LoadC t20 (fun t21 w =>
 PureS (lenSliceV t21) fun t22 =>
 PureS (binV .geq t22 (Value.int .i64 64)) fun t23 =>
 CondS t23 (
 K (Value.int .i64 2) w
 ) (
 CallS Tryz.prog 85 [f0].toArray (fun t25 w =>
 PureS (binV .neq t25 (Value.int .i64 0)) fun t27 =>
 CondS t27 (
 K t25 w
 ) (
 JoinS (fun (i6 : Value) (w : World) =>
 RunS Tryz.prog (Instr.buildSlice 96 0 [].toArray) (fun t50 w =>
 PureS (nilV f0) fun t52 =>
 PureS (fieldAddrV 1 t52) fun t53 =>
 LoadC t53 (fun t54 w =>
 PureS (sliceV 2 t54 none (some i6)) fun t56 =>
 RunS Tryz.prog (Builtin.append_ #[96, 96] 96 [t50, t56].toArray) (fun t57 w =>
 RunS Tryz.prog (Instr.build 129 [].toArray) (fun t60 w =>
 RunS Tryz.prog (Instr.buildSlice 125 1 [(0, t60)].toArray) (fun t61 w =>
 RunS Tryz.prog (Instr.build 127 [(0, dir1), (1, t61)].toArray) (fun t62 w =>
 RunS Tryz.prog (Instr.buildSlice 96 1 [(0, t62)].toArray) (fun t63 w =>
 RunS Tryz.prog (Builtin.append_ #[96, 96] 96 [t57, t63].toArray) (fun t64 w =>
 PureS (nilV f0) fun t68 =>
 PureS (fieldAddrV 1 t68) fun t69 =>
 LoadC t69 (fun t70 w =>
 PureS (sliceV 2 t70 (some i6) none) fun t72 =>
 RunS Tryz.prog (Builtin.append_ #[96, 96] 96 [t64, t72].toArray) (fun t73 w =>
 PureS (nilV f0) fun t74 =>
 PureS (fieldAddrV 1 t74) fun t75 =>
 StoreC t75 t73 (fun w =>
 K (Value.int .i64 0) w
 ) w
 ) w
 ) w
 ) w
 ) w
 ) w
 ) w
 ) w
 ) w
 ) w
 ) w
 ) fun J0 =>
 LoopS 1 (fun L1 (i6_1 : Value) (w : World) =>
 PureS (nilV f0) fun t31 =>
 PureS (fieldAddrV 1 t31) fun t32 =>
 LoadC t32 (fun t33 w =>
 PureS (lenSliceV t33) fun t34 =>
 PureS (binV .lss i6_1 t34) fun t35 =>
 JoinS (fun (t46 : Value) (w : World) =>
 PureS (pickV t35 t46 (Value.bool false)) fun t47 =>
 CondS t47 (
 PureS (binV .add i6_1 (Value.int .i64 1)) fun t49 =>
 L1 t49 w
 ) (
 J0 i6_1 w
 )
 ) fun J2 =>
 IfB t35 true (
 PureS (nilV f0) fun t38 =>
 PureS (fieldAddrV 1 t38) fun t39 =>
 LoadC t39 (fun t40 w =>
 PureS (indexAddrV 2 t40 i6_1) fun t42 =>
 PureS (fieldAddrV 0 t42) fun t43 =>
 LoadC t43 (fun t44 w =>
 PureS (binV .lss t44 dir1) fun t46_1 =>
 J2 t46_1 w
 ) w
 ) w
 ) (
 J2 undef w
 )
 ) w
 ) (Value.int .i64 0) w
 )
 ) w
 )
 ) w
 )
 ) w
 )
 ) w
theorem s42_den (f0 dir1 : Value) (K : Value → World → Prop) (w : World) : denFn Tryz.prog false (bodyOf Tryz.f42) Tryz.f42.results a42 [f0, dir1] K NoP w = s42 f0 dir1 K w := by kernel_rfl
theorem s42_dst : dstsOk (2 + 74) (bodyOf Tryz.f42) = true := by kernel_rfl
theorem s42_ann : annOk (bodyOf Tryz.f42) a42 = true := by kernel_rfl
theorem s42_call {f0 dir1 : Value} {K : Value → World → Prop} {w : World} (hm : Tryz.prog.follows .mixedOrders = true) (h : s42 f0 dir1 K w) : CallS Tryz.prog 42 #[f0, dir1] K w :=
  fn_call (args := [f0, dir1]) (m := 74) hm Tryz.func42 (by kernel_rfl) (rs := Tryz.f42.results) rfl Tryz.ntmps42 s42_dst s42_ann (by rw [s42_den]; exact h)

def a43 : Ann :=
 (.q (.r [.plain 1]) (.q (.r [.plain 8]) (.q (.q (.r [.plain 2]) (.c (.q (.r [.plain 2]) .s) .s)) (.q (.q (.r [.plain 6]) (.c (.q (.r [.plain 1]) .s) .s)) (.q (.q (.r [.plain 7]) (.q (.r [.plain 2]) (.c (.q (.r [.plain 2]) .s) .s))) (.q (.r [.plain 6]) (.q (.r [.plain 1]) .s)))))))
def s43 (f0 name1 : Value) (K : Value → World → Prop) (w : World) : Prop :=
 CallS Tryz.prog 75 [f0, name1].toArray (fun t12 w =>
 PureS (extractV 0 t12) fun t13 =>
 PureS (extractV 1 t12) fun t14 =>
 PureS (binV .neq t14 (Value.int .i64 0)) fun t16 =>
 CondS t16 (
 K t14 w
 ) (
 PureS (nilV t13) fun t19 =>
 PureS (fieldAddrV 0 t19) fun t20 =>
 LoadC t20 (fun t21 w =>
 RunS Tryz.prog (Builtin.len_ #[70] 3 [t21].toArray) (fun t22 w =>
 PureS (binV .gtr t22 (Value.int .i64 0)) fun t23 =>
 CondS t23 (
 K (Value.int .i64 8) w
 ) (
 CallS Tryz.prog 35 [f0].toArray (fun t26 w =>
 PureS (extractV 0 t26) fun t27 =>
 PureS (extractV 1 t26) fun t28 =>
 PureS (binV .neq t27 (Value.int .i64 0)) fun t30 =>
 CondS t30 (
 K t27 w
 ) (
 PureS (nilV f0) fun t33 =>
 PureS (fieldAddrV 1 t33) fun t34 =>
 LoadC t34 (fun t35 w =>
 RunS Tryz.prog (Builtin.delete_ #[64, 9] 0 [t35, name1].toArray) (fun _ w =>
 K (Value.int .i64 0) w
 ) w
 ) w
 )
 ) w
 )
 ) w
 ) w
 )
 ) w
theorem s43_den (f0 name1 : Value) (K : Value → World → Prop) (w : World) : denFn Tryz.prog false (bodyOf Tryz.f43) Tryz.f43.results a43 [f0, name1] K NoP w = s43 f0 name1 K w := by kernel_rfl
theorem s43_dst : dstsOk (2 + 35) (bodyOf Tryz.f43) = true := by kernel_rfl
theorem s43_ann : annOk (bodyOf Tryz.f43) a43 = true := by kernel_rfl
theorem s43_call {f0 name1 : Value} {K : Value → World → Prop} {w : World} (hm : Tryz.prog.follows .mixedOrders = true) (h : s43 f0 name1 K w) : CallS Tryz.prog 43 #[f0, name1] K w :=
  fn_call (args := [f0, name1]) (m := 35) hm Tryz.func43 (by kernel_rfl) (rs := Tryz.f43.results) rfl Tryz.ntmps43 s43_dst s43_ann (by rw [s43_den]; exact h)

def a44 : Ann :=
 (.q (.r [.plain 1]) (.q (.q (.r [.plain 3]) (.c (.q (.r [.plain 1]) .s) .s)) (.q (.r [.plain 4]) (.q (.b (.q (.r [.plain 3]) (.c (.q (.r [.plain 1]) .s) (.q (.r [.plain 7]) (.c (.q (.r [.plain 1]) .s) .s))))) (.q (.r [.plain 3]) (.q (.q (.r [.plain 2]) (.c (.q (.r [.plain 2]) .s) .s)) (.q (.r [.plain 9]) (.q (.r [.plain 13]) (.q (.r [.plain 1]) .s)))))))))
def s44 (f0 dir1 : Value) (K : Value → World → Prop) (w : World) : Prop :=
 CallS Tryz.prog 83 [dir1].toArray (fun t9 w =>
 PureS (notV t9) fun t10 =>
 CondS t10 (
 K (Value.int .i64 1) w
 ) (
 CallS Tryz.prog 84 [f0, dir1].toArray (fun t13 w =>
 PureS (binV .lss t13 (Value.int .i64 0)) fun t16 =>
 CondS t16 (
 K (Value.int .i64 6) w
 ) (
 CallS Tryz.prog 86 [f0, t13].toArray (fun t20 w =>
 RunS Tryz.prog (Instr.field 129 t20 0) (fun t21 w =>
 PureS (lenSliceV t21) fun t22 =>
 PureS (binV .gtr t22 (Value.int .i64 0)) fun t23 =>
 CondS t23 (
 K (Value.int .i64 8) w
 ) (
 CallS Tryz.prog 85 [f0].toArray (fun t25 w =>
 PureS (binV .neq t25 (Value.int .i64 0)) fun t27 =>
 CondS t27 (
 K t25 w
 ) (
 RunS Tryz.prog (Instr.buildSlice 96 0 [].toArray) (fun t29 w =>
 PureS (nilV f0) fun t31 =>
 PureS (fieldAddrV 1 t31) fun t32 =>
 LoadC t32 (fun t33 w =>
 PureS (sliceV 2 t33 none (some t13)) fun t35 =>
 RunS Tryz.prog (Builtin.append_ #[96, 96] 96 [t29, t35].toArray) (fun t36 w =>
 PureS (nilV f0) fun t40 =>
 PureS (fieldAddrV 1 t40) fun t41 =>
 LoadC t41 (fun t42 w =>
 PureS (binV .add t13 (Value.int .i64 1)) fun t44 =>
 PureS (sliceV 2 t42 (some t44) none) fun t45 =>
 RunS Tryz.prog (Builtin.append_ #[96, 96] 96 [t36, t45].toArray) (fun t46 w =>
 PureS (nilV f0) fun t47 =>
 PureS (fieldAddrV 1 t47) fun t48 =>
 StoreC t48 t46 (fun w =>
 K (Value.int .i64 0) w
 ) w
 ) w
 ) w
 ) w
 ) w
 ) w
 )
 ) w
 )
 ) w
 ) w
 )
 ) w
 )
 ) w
theorem s44_den (f0 dir1 : Value) (K : Value → World → Prop) (w : World) : denFn Tryz.prog false (bodyOf Tryz.f44) Tryz.f44.results a44 [f0, dir1] K NoP w = s44 f0 dir1 K w := by kernel_rfl
theorem s44_dst : dstsOk (2 + 47) (bodyOf Tryz.f44) = true := by kernel_rfl
theorem s44_ann : annOk (bodyOf Tryz.f44) a44 = true := by kernel_rfl
theorem s44_call {f0 dir1 : Value} {K : Value → World → Prop} {w : World} (hm : Tryz.prog.follows .mixedOrders = true) (h : s44 f0 dir1 K w) : CallS Tryz.prog 44 #[f0, dir1] K w :=
  fn_call (args := [f0, dir1]) (m := 47) hm Tryz.func44 (by kernel_rfl) (rs := Tryz.f44.results) rfl Tryz.ntmps44 s44_dst s44_ann (by rw [s44_den]; exact h)

def a45 : Ann :=
 (.q (.r [.plain 1]) (.q (.r [.plain 10]) (.q (.b (.q (.r [.plain 3]) (.c (.q (.r [.plain 2]) .s) (.q (.r [.plain 7]) (.c (.q (.r [.plain 1]) .s) (.q (.r [.plain 7]) (.c (.q (.r [.plain 1]) .s) .s))))))) (.q (.r [.plain 3]) (.q (.q (.r [.plain 2]) (.c (.q (.r [.plain 2]) .s) .s)) (.q (.r [.plain 13]) (.q (.d [0, 0, 0, 0, 12, 0, 0, 64, 192, 448, 960, 1984, 4092, 8191] (.pur 0 (.pur 1 (.pur 2 (.pur 3 (.pur 5 (.pur 6 (.pur 7 (.pur 8 (.hld 9 (.pur 10 (.pur 11 (.act 4 (.act 12 (.act 13 .fin))))))))))))))) (.q (.r [.plain 1]) .s))))))))
def s45 (f0 path1 : Value) (K : Value → World → Prop) (w : World) : Prop :=
 CallS Tryz.prog 87 [f0, path1].toArray (fun t11 w =>
 PureS (extractV 0 t11) fun t12 =>
 PureS (extractV 1 t11) fun t13 =>
 PureS (extractV 2 t11) fun t14 =>
 PureS (binV .neq t14 (Value.int .i64 0)) fun t17 =>
 CondS t17 (
 K t14 w
 ) (
 CallS Tryz.prog 86 [f0, t12].toArray (fun t22 w =>
 CallS Tryz.prog 88 [t22, t13].toArray (fun t24 w =>
 PureS (binV .geq t24 (Value.int .i64 0)) fun t25 =>
 CondS t25 (
 K (Value.int .i64 7) w
 ) (
 CallS Tryz.prog 86 [f0, t12].toArray (fun t29 w =>
 RunS Tryz.prog (Instr.field 129 t29 0) (fun t30 w =>
 PureS (lenSliceV t30) fun t31 =>
 PureS (binV .geq t31 (Value.int .i64 1024)) fun t32 =>
 CondS t32 (
 K (Value.int .i64 2) w
 ) (
 CallS Tryz.prog 85 [f0].toArray (fun t34 w =>
 PureS (binV .neq t34 (Value.int .i64 0)) fun t36 =>
 CondS t36 (
 K t34 w
 ) (
 RunS Tryz.prog (Instr.buildSlice 97 0 [].toArray) (fun t39 w =>
 PureS (nilV f0) fun t41 =>
 PureS (fieldAddrV 2 t41) fun t42 =>
 LoadC t42 (fun t43 w =>
 RunS Tryz.prog (Builtin.append_ #[97, 97] 97 [t39, t43].toArray) (fun t44 w =>
 RunS Tryz.prog (Instr.build 135 [].toArray) (fun t45 w =>
 RunS Tryz.prog (Instr.buildSlice 97 1 [(0, t45)].toArray) (fun t46 w =>
 RunS Tryz.prog (Builtin.append_ #[97, 97] 97 [t44, t46].toArray) (fun t47 w =>
 PureS (nilV f0) fun t48 =>
 PureS (fieldAddrV 2 t48) fun t49 =>
 StoreC t49 t47 (fun w =>
 DrawS fun S0 => S0 w.drew ∧ (
 PureS (nilV f0) fun t57 =>
 PureS (fieldAddrV 2 t57) fun t58 =>
 HeldC S0 t58 (fun t59 =>
 PureS (lenSliceV t59) fun t60 =>
 PureS (binV .sub t60 (Value.int .i64 1)) fun t61 =>
 CallS Tryz.prog 86 [f0, t12].toArray (fun t54 w =>
 S0 w ∧ (
 CallS Tryz.prog 90 [t54, t13, t61].toArray (fun t62 w =>
 CallS Tryz.prog 89 [f0, t12, t62].toArray (fun t63 w =>
 K (Value.int .i64 0) w
 ) w
 ) w
 )
 ) w.drew
 )
 )
 ) w
 ) w
 ) w
 ) w
 ) w
 ) w
 ) w
 )
 ) w
 )
 ) w
 ) w
 )
 ) w
 ) w
 )
 ) w
theorem s45_den (f0 path1 : Value) (K : Value → World → Prop) (w : World) : denFn Tryz.prog false (bodyOf Tryz.f45) Tryz.f45.results a45 [f0, path1] K NoP w = s45 f0 path1 K w := by kernel_rfl
theorem s45_dst : dstsOk (2 + 62) (bodyOf Tryz.f45) = true := by kernel_rfl
theorem s45_ann : annOk (bodyOf Tryz.f45) a45 = true := by kernel_rfl
theorem s45_call {f0 path1 : Value} {K : Value → World → Prop} {w : World} (hm : Tryz.prog.follows .mixedOrders = true) (h : s45 f0 path1 K w) : CallS Tryz.prog 45 #[f0, path1] K w :=
  fn_call (args := [f0, path1]) (m := 62) hm Tryz.func45 (by kernel_rfl) (rs := Tryz.f45.results) rfl Tryz.ntmps45 s45_dst s45_ann (by rw [s45_den]; exact h)

def a46 : Ann :=
 (.q (.r [.plain 2]) (.q (.r [.plain 4]) (.q (.q (.r [.plain 3]) (.c (.q (.d [0, 1, 3, 7, 0, 16, 0, 64, 0, 511, 1023] (.pur 0 (.pur 1 (.pur 2 (.pur 4 (.pur 6 (.pur 8 (.hld 3 (.hld 5 (.hld 7 (.act 9 (.pur 10 .fin)))))))))))) (.q (.r [.plain 2]) (.q (.d [0, 0, 2, 6, 14, 0, 32, 0, 128, 0, 512, 2046, 4095, 8191] (.pur 0 (.pur 1 (.pur 2 (.pur 3 (.pur 5 (.pur 7 (.pur 9 (.hld 4 (.hld 6 (.hld 8 (.hld 10 (.act 11 (.pur 12 (.pur 13 .fin))))))))))))))) .s))) .s)) (.q (.d [0, 1, 3, 7, 0, 16, 0, 127, 255] (.pur 0 (.pur 1 (.pur 2 (.pur 4 (.pur 6 (.hld 3 (.hld 5 (.act 7 (.pur 8 .fin)))))))))) (.q (.r [.plain 2]) (.q (.d [0, 0, 2, 6, 14, 0, 32, 0, 128, 510, 1023, 2047] (.pur 0 (.pur 1 (.pur 2 (.pur 3 (.pur 5 (.pur 7 (.hld 4 (.hld 6 (.hld 8 (.act 9 (.pur 10 (.pur 11 .fin))))))))))))) .s))))))
def s46 (x0 a1 : Value) (K : Value → World → Prop) (w : World) : Prop :=
 BoxS 45 a1 (fun a3 w =>
 PureS (fieldAddrV 3 a3) fun t8 =>
 LoadC t8 (fun t9 w =>
 CallS Tryz.prog 91 [t9].toArray (fun t10 w =>
 PureS (fieldAddrV 0 a3) fun t11 =>
 LoadC t11 (fun t12 w =>
 PureS (binV .eql t12 (Value.int .i64 3)) fun t13 =>
 CondS t13 (
 DrawS fun S0 => S0 w.drew ∧ (
 PureS (nilV x0) fun t15 =>
 PureS (fieldAddrV 0 t15) fun t16 =>
 PureS (fieldAddrV 1 a3) fun t18 =>
 PureS (fieldAddrV 4 a3) fun t20 =>
 HeldC S0 t16 (fun t17 =>
 HeldC S0 t18 (fun t19 =>
 HeldC S0 t20 (fun t21 =>
 CallS Tryz.prog 22 [t17, t19, t21, t10].toArray (fun t23 w =>
 CallS Tryz.prog 70 [t10].toArray (fun t25 w =>
 DrawS fun S1 => S1 w.drew ∧ (
 PureS (nilV x0) fun t28 =>
 PureS (fieldAddrV 1 t28) fun t29 =>
 PureS (fieldAddrV 1 a3) fun t31 =>
 PureS (fieldAddrV 4 a3) fun t33 =>
 PureS (fieldAddrV 3 a3) fun t35 =>
 HeldC S1 t29 (fun t30 =>
 HeldC S1 t31 (fun t32 =>
 HeldC S1 t33 (fun t34 =>
 HeldC S1 t35 (fun t36 =>
 CallS Tryz.prog 92 [t30, t32, t34, t36].toArray (fun t37 w =>
 PureS (binV .eql t23 t37) fun t38 =>
 K t38 w
 ) w.drew
 )
 )
 )
 )
 )
 ) w
 ) w.drew
 )
 )
 )
 )
 ) (
 DrawS fun S2 => S2 w.drew ∧ (
 PureS (nilV x0) fun t40 =>
 PureS (fieldAddrV 0 t40) fun t41 =>
 PureS (fieldAddrV 1 a3) fun t43 =>
 HeldC S2 t41 (fun t42 =>
 HeldC S2 t43 (fun t44 =>
 CallS Tryz.prog 11 [t42, t44, t10].toArray (fun t46 w =>
 CallS Tryz.prog 70 [t10].toArray (fun t48 w =>
 DrawS fun S3 => S3 w.drew ∧ (
 PureS (nilV x0) fun t51 =>
 PureS (fieldAddrV 1 t51) fun t52 =>
 PureS (fieldAddrV 1 a3) fun t54 =>
 PureS (fieldAddrV 3 a3) fun t56 =>
 HeldC S3 t52 (fun t53 =>
 HeldC S3 t54 (fun t55 =>
 HeldC S3 t56 (fun t57 =>
 CallS Tryz.prog 93 [t53, t55, t57].toArray (fun t58 w =>
 PureS (binV .eql t46 t58) fun t59 =>
 K t59 w
 ) w.drew
 )
 )
 )
 )
 ) w
 ) w.drew
 )
 )
 )
 )
 ) w
 ) w
 ) w
 ) w
theorem s46_den (x0 a1 : Value) (K : Value → World → Prop) (w : World) : denFn Tryz.prog false (bodyOf Tryz.f46) Tryz.f46.results a46 [x0, a1] K NoP w = s46 x0 a1 K w := by kernel_rfl
theorem s46_dst : dstsOk (2 + 58) (bodyOf Tryz.f46) = true := by kernel_rfl
theorem s46_ann : annOk (bodyOf Tryz.f46) a46 = true := by kernel_rfl
theorem s46_call {x0 a1 : Value} {K : Value → World → Prop} {w : World} (hm : Tryz.prog.follows .mixedOrders = true) (h : s46 x0 a1 K w) : CallS Tryz.prog 46 #[x0, a1] K w :=
  fn_call (args := [x0, a1]) (m := 58) hm Tryz.func46 (by kernel_rfl) (rs := Tryz.f46.results) rfl Tryz.ntmps46 s46_dst s46_ann (by rw [s46_den]; exact h)

def a47 : Ann :=
 (.q (.r [.plain 1]) (.q (.r [.plain 8]) (.q (.q (.r [.plain 2]) (.c (.q (.r [.plain 2]) .s) .s)) (.q (.q (.r [.plain 3, .grp 7 [29] 1065353216, .plain 1]) (.c (.q (.r [.plain 1]) .s) .s)) (.q (.q (.r [.plain 7]) (.q (.r [.plain 2]) (.c (.q (.r [.plain 2]) .s) .s))) (.q (.r [.plain 11]) (.q (.r [.plain 12]) (.q (.r [.plain 1]) .s))))))))
def s47 (f0 path1 n2 : Value) (K : Value → World → Prop) (w : World) : Prop :=
 CallS Tryz.prog 33 [f0, path1].toArray (fun t14 w =>
 PureS (extractV 0 t14) fun t15 =>
 PureS (extractV 1 t14) fun t16 =>
 PureS (binV .neq t16 (Value.int .i64 0)) fun t18 =>
 CondS t18 (
 K t16 w
 ) (
 PureS (binV .lss n2 (Value.int .i64 0)) fun t21 =>
 JoinS (fun (t29 : Value) (w : World) =>
 PureS (pickV t21 (Value.bool true) t29) fun t30 =>
 CondS t30 (
 K (Value.int .i64 1) w
 ) (
 CallS Tryz.prog 35 [f0].toArray (fun t33 w =>
 PureS (extractV 0 t33) fun t34 =>
 PureS (extractV 1 t33) fun t35 =>
 PureS (binV .neq t34 (Value.int .i64 0)) fun t37 =>
 CondS t37 (
 K t34 w
 ) (
 PureS (nilV t15) fun t41 =>
 PureS (fieldAddrV 2 t41) fun t42 =>
 LoadC t42 (fun t43 w =>
 PureS (sliceV 1 t43 none (some n2)) fun t45 =>
 CallS Tryz.prog 32 [t45].toArray (fun t46 w =>
 PureS (nilV t15) fun t47 =>
 PureS (fieldAddrV 2 t47) fun t48 =>
 StoreC t48 t46 (fun w =>
 PureS (nilV t15) fun t52 =>
 PureS (fieldAddrV 2 t52) fun t53 =>
 LoadC t53 (fun t54 w =>
 PureS (nilV t15) fun t55 =>
 PureS (fieldAddrV 0 t55) fun t56 =>
 StoreC t56 t54 (fun w =>
 PureS (nilV t15) fun t57 =>
 PureS (fieldAddrV 1 t57) fun t58 =>
 StoreC t58 (Value.slice none 0 0) (fun w =>
 K (Value.int .i64 0) w
 ) w
 ) w
 ) w
 ) w
 ) w
 ) w
 )
 ) w
 )
 ) fun J0 =>
 IfB t21 false (
 PureS (nilV t15) fun t25 =>
 PureS (fieldAddrV 2 t25) fun t26 =>
 LoadC t26 (fun t27 w =>
 PureS (lenSliceV t27) fun t28 =>
 PureS (binV .gtr n2 t28) fun t29_1 =>
 J0 t29_1 w
 ) w
 ) (
 J0 undef w
 )
 )
 ) w
theorem s47_den (f0 path1 n2 : Value) (K : Value → World → Prop) (w : World) : denFn Tryz.prog false (bodyOf Tryz.f47) Tryz.f47.results a47 [f0, path1, n2] K NoP w = s47 f0 path1 n2 K w := by kernel_rfl
theorem s47_dst : dstsOk (3 + 56) (bodyOf Tryz.f47) = true := by kernel_rfl
theorem s47_ann : annOk (bodyOf Tryz.f47) a47 = true := by kernel_rfl
theorem s47_call {f0 path1 n2 : Value} {K : Value → World → Prop} {w : World} (hm : Tryz.prog.follows .mixedOrders = true) (h : s47 f0 path1 n2 K w) : CallS Tryz.prog 47 #[f0, path1, n2] K w :=
  fn_call (args := [f0, path1, n2]) (m := 56) hm Tryz.func47 (by kernel_rfl) (rs := Tryz.f47.results) rfl Tryz.ntmps47 s47_dst s47_ann (by rw [s47_den]; exact h)

def a48 : Ann :=
 (.q (.r [.plain 1]) (.q (.r [.plain 8]) (.q (.q (.r [.plain 2]) (.c (.q (.r [.plain 2]) .s) .s)) (.q (.r [.plain 9]) (.q (.q (.r [.plain 3, .grp 4 [33] 16106127360, .plain 1]) (.c (.q (.r [.plain 1]) .s) .s)) (.q (.r [.plain 3]) (.j [] 70231305224192 (.q (.r [.plain 2]) (.c (.r [.plain 7]) .s))
  (.q (.r [.plain 2]) .s))))))))
def s48 (f0 path1 n2 : Value) (K : Value → World → Prop) (w : World) : Prop :=
 CallS Tryz.prog 94 [f0, path1].toArray (fun t13 w =>
 PureS (extractV 0 t13) fun t14 =>
 PureS (extractV 1 t13) fun t15 =>
 PureS (binV .neq t15 (Value.int .i64 0)) fun t17 =>
 CondS t17 (
 K t15 w
 ) (
 PureS (nilV f0) fun t20 =>
 PureS (fieldAddrV 2 t20) fun t21 =>
 LoadC t21 (fun t22 w =>
 PureS (indexAddrV 2 t22 t14) fun t24 =>
 LoadA 2 t24 (fun t25 w =>
 CallS Tryz.prog 95 [t25].toArray (fun t26 w =>
 PureS (binV .lss n2 (Value.int .i64 0)) fun t28 =>
 JoinS (fun (t33 : Value) (w : World) =>
 PureS (pickV t28 (Value.bool true) t33) fun t34 =>
 CondS t34 (
 K (Value.int .i64 1) w
 ) (
 CallS Tryz.prog 85 [f0].toArray (fun t36 w =>
 JoinS (fun (w : World) =>
 K t36 w
 ) fun J1 =>
 PureS (binV .eql t36 (Value.int .i64 0)) fun t38 =>
 CondS t38 (
 PureS (sliceV 1 t26 none (some n2)) fun t43 =>
 RunS Tryz.prog (Instr.build 135 [(0, t43)].toArray) (fun t44 w =>
 CallS Tryz.prog 96 [f0, t14, t44].toArray (fun t45 w =>
 J1 w
 ) w
 ) w
 ) (
 J1 w
 )
 ) w
 )
 ) fun J0 =>
 IfB t28 false (
 PureS (lenSliceV t26) fun t32 =>
 PureS (binV .gtr n2 t32) fun t33_1 =>
 J0 t33_1 w
 ) (
 J0 undef w
 )
 ) w
 ) w
 ) w
 )
 ) w
theorem s48_den (f0 path1 n2 : Value) (K : Value → World → Prop) (w : World) : denFn Tryz.prog false (bodyOf Tryz.f48) Tryz.f48.results a48 [f0, path1, n2] K NoP w = s48 f0 path1 n2 K w := by kernel_rfl
theorem s48_dst : dstsOk (3 + 44) (bodyOf Tryz.f48) = true := by kernel_rfl
theorem s48_ann : annOk (bodyOf Tryz.f48) a48 = true := by kernel_rfl
theorem s48_call {f0 path1 n2 : Value} {K : Value → World → Prop} {w : World} (hm : Tryz.prog.follows .mixedOrders = true) (h : s48 f0 path1 n2 K w) : CallS Tryz.prog 48 #[f0, path1, n2] K w :=
  fn_call (args := [f0, path1, n2]) (m := 44) hm Tryz.func48 (by kernel_rfl) (rs := Tryz.f48.results) rfl Tryz.ntmps48 s48_dst s48_ann (by rw [s48_den]; exact h)

def a49 : Ann :=
 (.q (.r [.plain 1]) (.q (.r [.plain 20]) (.q (.q (.r [.plain 2]) (.c (.q (.r [.plain 2]) .s) .s)) (.q (.q (.d [0, 1, 3, 7, 0, 31, 63, 127, 127, 255, 1023] (.pur 0 (.pur 1 (.pur 2 (.hld 3 (.hld 4 (.hld 5 (.pur 6 (.pur 7 (.pur 8 (.pur 9 (.pur 10 .fin)))))))))))) (.q (.r [.plain 3, .grp 3 [45] 61572651155456, .plain 2, .grp 6 [53] 17732923532771328, .plain 1]) (.c (.q (.r [.plain 1]) .s) .s))) (.q (.q (.r [.plain 7]) (.q (.r [.plain 3, .grp 3 [65] 64563604257983430656, .plain 1]) (.c (.q (.r [.plain 2]) .s) .s))) (.q (.q (.r [.plain 3]) (.c (.q (.r [.plain 3]) (.q (.r [.plain 1]) .s)) .s)) (.q (.r [.plain 3]) (.q (.r [.plain 3]) (.q (.r [.plain 1]) .s)))))))))
def s49 (f0 from1 to2 : Value) (K : Value → World → Prop) (w : World) : Prop :=
 CallS Tryz.prog 97 [f0, from1, to2].toArray (fun t21 w =>
 PureS (extractV 0 t21) fun t22 =>
 PureS (extractV 1 t21) fun t23 =>
 PureS (extractV 2 t21) fun t24 =>
 PureS (extractV 3 t21) fun t25 =>
 PureS (extractV 4 t21) fun t26 =>
 PureS (extractV 5 t21) fun t27 =>
 BoxS 9 (Value.string ⟨#[]⟩) (fun x9 w =>
 BoxS 9 (Value.string ⟨#[]⟩) (fun y10 w =>
 BoxS 75 (Value.pointer none) (fun it11 w =>
 StoreC x9 t24 (fun w =>
 StoreC y10 t25 (fun w =>
 StoreC it11 t26 (fun w =>
 PureS (binV .neq t27 (Value.int .i64 0)) fun t29 =>
 CondS t29 (
 K t27 w
 ) (
 DrawS fun S0 => S0 w.drew ∧ (
 PureS (nilV t23) fun t33 =>
 PureS (fieldAddrV 0 t33) fun t34 =>
 HeldC S0 t34 (fun t35 =>
 HeldC S0 y10 (fun t36 =>
 HeldR Tryz.prog S0 (Instr.lookup 70 t35 t36 true) (fun t37 =>
 PureS (extractV 0 t37) fun t38 =>
 PureS (extractV 1 t37) fun t39 =>
 PureS (notV t39) fun t41 =>
 JoinS (fun (t45 : Value) (w : World) =>
 PureS (pickV t41 t45 (Value.bool false)) fun t46 =>
 JoinS (fun (t53 : Value) (w : World) =>
 PureS (pickV t46 t53 (Value.bool false)) fun t54 =>
 CondS t54 (
 K (Value.int .i64 2) w
 ) (
 CallS Tryz.prog 35 [f0].toArray (fun t57 w =>
 PureS (extractV 0 t57) fun t58 =>
 PureS (extractV 1 t57) fun t59 =>
 PureS (binV .neq t58 (Value.int .i64 0)) fun t61 =>
 JoinS (fun (t65 : Value) (w : World) =>
 PureS (pickV t61 (Value.bool true) t65) fun t66 =>
 CondS t66 (
 K t58 w
 ) (
 RunS Tryz.prog (do eqGuard .eql 63 (Operand.tmp 68) (Operand.tmp 69) t22 t23; binOp .eql 63 t22 t23) (fun t70 w =>
 CondS t70 (
 CallS Tryz.prog 73 [t22, (Value.func (Fn.func 98) [].toArray [x9, it11, y10].toArray)].toArray (fun t73 w =>
 K (Value.int .i64 0) w
 ) w
 ) (
 CallS Tryz.prog 73 [t23, (Value.func (Fn.func 99) [].toArray [it11, y10].toArray)].toArray (fun t76 w =>
 CallS Tryz.prog 73 [t22, (Value.func (Fn.func 100) [].toArray [x9].toArray)].toArray (fun t79 w =>
 K (Value.int .i64 0) w
 ) w
 ) w
 )
 ) w
 )
 ) fun J3 =>
 IfB t61 false (
 PureS (binV .eql from1 to2) fun t65_1 =>
 J3 t65_1 w
 ) (
 J3 undef w
 )
 ) w
 )
 ) fun J2 =>
 IfB t46 true (
 PureS (nilV t23) fun t49 =>
 PureS (fieldAddrV 0 t49) fun t50 =>
 LoadC t50 (fun t51 w =>
 RunS Tryz.prog (Builtin.len_ #[70] 3 [t51].toArray) (fun t52 w =>
 PureS (binV .geq t52 (Value.int .i64 1024)) fun t53_1 =>
 J2 t53_1 w
 ) w
 ) w
 ) (
 J2 undef w
 )
 ) fun J1 =>
 IfB t41 true (
 RunS Tryz.prog (do eqGuard .neq 63 (Operand.tmp 43) (Operand.tmp 44) t22 t23; binOp .neq 63 t22 t23) (fun t45_1 w =>
 J1 t45_1 w
 ) w.drew
 ) (
 J1 undef w.drew
 )
 )
 )
 )
 )
 )
 ) w
 ) w
 ) w
 ) w
 ) w
 ) w
 ) w
theorem s49_den (f0 from1 to2 : Value) (K : Value → World → Prop) (w : World) : denFn Tryz.prog false (bodyOf Tryz.f49) Tryz.f49.results a49 [f0, from1, to2] K NoP w = s49 f0 from1 to2 K w := by kernel_rfl
theorem s49_dst : dstsOk (3 + 77) (bodyOf Tryz.f49) = true := by kernel_rfl
theorem s49_ann : annOk (bodyOf Tryz.f49) a49 = true := by kernel_rfl
theorem s49_call {f0 from1 to2 : Value} {K : Value → World → Prop} {w : World} (hm : Tryz.prog.follows .mixedOrders = true) (h : s49 f0 from1 to2 K w) : CallS Tryz.prog 49 #[f0, from1, to2] K w :=
  fn_call (args := [f0, from1, to2]) (m := 77) hm Tryz.func49 (by kernel_rfl) (rs := Tryz.f49.results) rfl Tryz.ntmps49 s49_dst s49_ann (by rw [s49_den]; exact h)

def a50 : Ann :=
 (.q (.r [.plain 1]) (.q (.r [.plain 17]) (.q (.q (.r [.plain 2]) (.c (.q (.r [.plain 2]) .s) .s)) (.q (.q (.r [.plain 4, .grp 6 [36] 135291469824, .plain 2, .grp 6 [44] 34634616274944, .plain 1]) (.c (.q (.r [.plain 1]) .s) .s)) (.q (.r [.plain 3]) (.q (.q (.r [.plain 3, .grp 3 [53] 15762598695796736, .plain 1]) (.c (.q (.r [.plain 2]) .s) .s)) (.q (.q (.r [.plain 3]) (.c (.q (.r [.plain 11]) (.q (.r [.plain 1]) .s)) .s)) (.q (.r [.plain 9]) (.q (.r [.plain 8]) (.q (.r [.plain 1]) .s))))))))))
def s50 (f0 from1 to2 : Value) (K : Value → World → Prop) (w : World) : Prop :=
 CallS Tryz.prog 101 [f0, from1, to2].toArray (fun t17 w =>
 PureS (extractV 0 t17) fun t18 =>
 PureS (extractV 1 t17) fun t19 =>
 PureS (extractV 2 t17) fun t20 =>
 PureS (extractV 3 t17) fun t21 =>
 PureS (extractV 4 t17) fun t22 =>
 PureS (extractV 5 t17) fun t23 =>
 PureS (binV .neq t23 (Value.int .i64 0)) fun t25 =>
 CondS t25 (
 K t23 w
 ) (
 PureS (binV .neq t18 t20) fun t29 =>
 JoinS (fun (t36 : Value) (w : World) =>
 PureS (pickV t29 t36 (Value.bool false)) fun t37 =>
 JoinS (fun (t44 : Value) (w : World) =>
 PureS (pickV t37 t44 (Value.bool false)) fun t45 =>
 CondS t45 (
 K (Value.int .i64 2) w
 ) (
 CallS Tryz.prog 85 [f0].toArray (fun t47 w =>
 PureS (binV .neq t47 (Value.int .i64 0)) fun t49 =>
 JoinS (fun (t53 : Value) (w : World) =>
 PureS (pickV t49 (Value.bool true) t53) fun t54 =>
 CondS t54 (
 K t47 w
 ) (
 PureS (binV .eql t18 t20) fun t58 =>
 CondS t58 (
 CallS Tryz.prog 86 [f0, t18].toArray (fun t63 w =>
 CallS Tryz.prog 90 [t63, t19, (Value.int .i64 (-1))].toArray (fun t65 w =>
 CallS Tryz.prog 90 [t65, t21, t22].toArray (fun t68 w =>
 CallS Tryz.prog 89 [f0, t18, t68].toArray (fun t69 w =>
 K (Value.int .i64 0) w
 ) w
 ) w
 ) w
 ) w
 ) (
 CallS Tryz.prog 86 [f0, t20].toArray (fun t74 w =>
 CallS Tryz.prog 90 [t74, t21, t22].toArray (fun t77 w =>
 CallS Tryz.prog 89 [f0, t20, t77].toArray (fun t78 w =>
 CallS Tryz.prog 86 [f0, t18].toArray (fun t83 w =>
 CallS Tryz.prog 90 [t83, t19, (Value.int .i64 (-1))].toArray (fun t85 w =>
 CallS Tryz.prog 89 [f0, t18, t85].toArray (fun t86 w =>
 K (Value.int .i64 0) w
 ) w
 ) w
 ) w
 ) w
 ) w
 ) w
 )
 )
 ) fun J2 =>
 IfB t49 false (
 PureS (binV .eql from1 to2) fun t53_1 =>
 J2 t53_1 w
 ) (
 J2 undef w
 )
 ) w
 )
 ) fun J1 =>
 IfB t37 true (
 CallS Tryz.prog 86 [f0, t20].toArray (fun t41 w =>
 RunS Tryz.prog (Instr.field 129 t41 0) (fun t42 w =>
 PureS (lenSliceV t42) fun t43 =>
 PureS (binV .geq t43 (Value.int .i64 1024)) fun t44_1 =>
 J1 t44_1 w
 ) w
 ) w
 ) (
 J1 undef w
 )
 ) fun J0 =>
 IfB t29 true (
 CallS Tryz.prog 86 [f0, t20].toArray (fun t33 w =>
 CallS Tryz.prog 88 [t33, t21].toArray (fun t35 w =>
 PureS (binV .lss t35 (Value.int .i64 0)) fun t36_1 =>
 J0 t36_1 w
 ) w
 ) w
 ) (
 J0 undef w
 )
 )
 ) w
theorem s50_den (f0 from1 to2 : Value) (K : Value → World → Prop) (w : World) : denFn Tryz.prog false (bodyOf Tryz.f50) Tryz.f50.results a50 [f0, from1, to2] K NoP w = s50 f0 from1 to2 K w := by kernel_rfl
theorem s50_dst : dstsOk (3 + 84) (bodyOf Tryz.f50) = true := by kernel_rfl
theorem s50_ann : annOk (bodyOf Tryz.f50) a50 = true := by kernel_rfl
theorem s50_call {f0 from1 to2 : Value} {K : Value → World → Prop} {w : World} (hm : Tryz.prog.follows .mixedOrders = true) (h : s50 f0 from1 to2 K w) : CallS Tryz.prog 50 #[f0, from1, to2] K w :=
  fn_call (args := [f0, from1, to2]) (m := 84) hm Tryz.func50 (by kernel_rfl) (rs := Tryz.f50.results) rfl Tryz.ntmps50 s50_dst s50_ann (by rw [s50_den]; exact h)

def a51 : Ann :=
 (.q (.r [.plain 1]) (.q (.r [.plain 19]) (.q (.q (.r [.plain 2]) (.c (.q (.r [.plain 2]) .s) .s)) (.q (.q (.d [0, 1, 3, 7, 0, 31, 63, 127, 127, 255, 1023] (.pur 0 (.pur 1 (.pur 2 (.hld 3 (.hld 4 (.hld 5 (.pur 6 (.pur 7 (.pur 8 (.pur 9 (.pur 10 .fin)))))))))))) (.q (.r [.plain 1]) (.c (.q (.r [.plain 1]) .s) .s))) (.q (.q (.r [.plain 6]) (.c (.q (.r [.plain 1]) .s) .s)) (.q (.q (.r [.plain 7]) (.q (.r [.plain 2]) (.c (.q (.r [.plain 2]) .s) .s))) (.q (.r [.plain 3]) (.q (.r [.plain 1]) .s))))))))
def s51 (f0 from1 to2 : Value) (K : Value → World → Prop) (w : World) : Prop :=
 CallS Tryz.prog 97 [f0, from1, to2].toArray (fun t21 w =>
 PureS (extractV 0 t21) fun t22 =>
 PureS (extractV 1 t21) fun t23 =>
 PureS (extractV 2 t21) fun t24 =>
 PureS (extractV 3 t21) fun t25 =>
 PureS (extractV 4 t21) fun t26 =>
 PureS (extractV 5 t21) fun t27 =>
 BoxS 9 (Value.string ⟨#[]⟩) (fun y10 w =>
 BoxS 75 (Value.pointer none) (fun it11 w =>
 StoreC y10 t25 (fun w =>
 StoreC it11 t26 (fun w =>
 PureS (binV .neq t27 (Value.int .i64 0)) fun t29 =>
 CondS t29 (
 K t27 w
 ) (
 DrawS fun S0 => S0 w.drew ∧ (
 PureS (nilV t23) fun t33 =>
 PureS (fieldAddrV 0 t33) fun t34 =>
 HeldC S0 t34 (fun t35 =>
 HeldC S0 y10 (fun t36 =>
 HeldR Tryz.prog S0 (Instr.lookup 70 t35 t36 true) (fun t37 =>
 PureS (extractV 0 t37) fun t38 =>
 PureS (extractV 1 t37) fun t39 =>
 CondS t39 (
 K (Value.int .i64 7) w.drew
 ) (
 PureS (nilV t23) fun t42 =>
 PureS (fieldAddrV 0 t42) fun t43 =>
 LoadC t43 (fun t44 w =>
 RunS Tryz.prog (Builtin.len_ #[70] 3 [t44].toArray) (fun t45 w =>
 PureS (binV .geq t45 (Value.int .i64 1024)) fun t46 =>
 CondS t46 (
 K (Value.int .i64 2) w
 ) (
 CallS Tryz.prog 35 [f0].toArray (fun t49 w =>
 PureS (extractV 0 t49) fun t50 =>
 PureS (extractV 1 t49) fun t51 =>
 PureS (binV .neq t50 (Value.int .i64 0)) fun t53 =>
 CondS t53 (
 K t50 w
 ) (
 CallS Tryz.prog 73 [t23, (Value.func (Fn.func 102) [].toArray [it11, y10].toArray)].toArray (fun t57 w =>
 K (Value.int .i64 0) w
 ) w
 )
 ) w
 )
 ) w
 ) w.drew
 )
 )
 )
 )
 )
 )
 ) w
 ) w
 ) w
 ) w
 ) w
theorem s51_den (f0 from1 to2 : Value) (K : Value → World → Prop) (w : World) : denFn Tryz.prog false (bodyOf Tryz.f51) Tryz.f51.results a51 [f0, from1, to2] K NoP w = s51 f0 from1 to2 K w := by kernel_rfl
theorem s51_dst : dstsOk (3 + 55) (bodyOf Tryz.f51) = true := by kernel_rfl
theorem s51_ann : annOk (bodyOf Tryz.f51) a51 = true := by kernel_rfl
theorem s51_call {f0 from1 to2 : Value} {K : Value → World → Prop} {w : World} (hm : Tryz.prog.follows .mixedOrders = true) (h : s51 f0 from1 to2 K w) : CallS Tryz.prog 51 #[f0, from1, to2] K w :=
  fn_call (args := [f0, from1, to2]) (m := 55) hm Tryz.func51 (by kernel_rfl) (rs := Tryz.f51.results) rfl Tryz.ntmps51 s51_dst s51_ann (by rw [s51_den]; exact h)

def a52 : Ann :=
 (.q (.r [.plain 1]) (.q (.r [.plain 17]) (.q (.b (.q (.r [.plain 3]) (.c (.q (.r [.plain 2]) .s) (.q (.r [.plain 7]) (.c (.q (.r [.plain 1]) .s) (.q (.r [.plain 7]) (.c (.q (.r [.plain 1]) .s) .s))))))) (.q (.r [.plain 3]) (.j [] 36011204832919552 (.q (.r [.plain 2]) (.c (.r [.plain 9]) .s))
  (.q (.r [.plain 2]) .s))))))
def s52 (f0 from1 to2 : Value) (K : Value → World → Prop) (w : World) : Prop :=
 CallS Tryz.prog 101 [f0, from1, to2].toArray (fun t17 w =>
 PureS (extractV 0 t17) fun t18 =>
 PureS (extractV 1 t17) fun t19 =>
 PureS (extractV 2 t17) fun t20 =>
 PureS (extractV 3 t17) fun t21 =>
 PureS (extractV 4 t17) fun t22 =>
 PureS (extractV 5 t17) fun t23 =>
 PureS (binV .neq t23 (Value.int .i64 0)) fun t26 =>
 CondS t26 (
 K t23 w
 ) (
 CallS Tryz.prog 86 [f0, t20].toArray (fun t31 w =>
 CallS Tryz.prog 88 [t31, t21].toArray (fun t33 w =>
 PureS (binV .geq t33 (Value.int .i64 0)) fun t34 =>
 CondS t34 (
 K (Value.int .i64 7) w
 ) (
 CallS Tryz.prog 86 [f0, t20].toArray (fun t38 w =>
 RunS Tryz.prog (Instr.field 129 t38 0) (fun t39 w =>
 PureS (lenSliceV t39) fun t40 =>
 PureS (binV .geq t40 (Value.int .i64 1024)) fun t41 =>
 CondS t41 (
 K (Value.int .i64 2) w
 ) (
 CallS Tryz.prog 85 [f0].toArray (fun t43 w =>
 JoinS (fun (w : World) =>
 K t43 w
 ) fun J0 =>
 PureS (binV .eql t43 (Value.int .i64 0)) fun t45 =>
 CondS t45 (
 CallS Tryz.prog 86 [f0, t20].toArray (fun t50 w =>
 CallS Tryz.prog 90 [t50, t21, t22].toArray (fun t53 w =>
 CallS Tryz.prog 89 [f0, t20, t53].toArray (fun t54 w =>
 J0 w
 ) w
 ) w
 ) w
 ) (
 J0 w
 )
 ) w
 )
 ) w
 ) w
 )
 ) w
 ) w
 )
 ) w
theorem s52_den (f0 from1 to2 : Value) (K : Value → World → Prop) (w : World) : denFn Tryz.prog false (bodyOf Tryz.f52) Tryz.f52.results a52 [f0, from1, to2] K NoP w = s52 f0 from1 to2 K w := by kernel_rfl
theorem s52_dst : dstsOk (3 + 53) (bodyOf Tryz.f52) = true := by kernel_rfl
theorem s52_ann : annOk (bodyOf Tryz.f52) a52 = true := by kernel_rfl
theorem s52_call {f0 from1 to2 : Value} {K : Value → World → Prop} {w : World} (hm : Tryz.prog.follows .mixedOrders = true) (h : s52 f0 from1 to2 K w) : CallS Tryz.prog 52 #[f0, from1, to2] K w :=
  fn_call (args := [f0, from1, to2]) (m := 53) hm Tryz.func52 (by kernel_rfl) (rs := Tryz.f52.results) rfl Tryz.ntmps52 s52_dst s52_ann (by rw [s52_den]; exact h)

def a53 : Ann :=
 (.q (.r [.plain 1]) (.q (.q (.r [.plain 8]) (.q (.r [.plain 2]) (.c (.q (.r [.plain 2]) .s) .s))) (.q (.r [.plain 11]) (.q (.q (.r [.plain 7]) (.q (.r [.plain 2]) (.c (.q (.r [.plain 2]) .s) .s))) (.q (.r [.plain 3]) (.q (.r [.plain 1]) .s))))))
def s53 (f0 path1 : Value) (K : Value → World → Prop) (w : World) : Prop :=
 CallS Tryz.prog 33 [f0, path1].toArray (fun t15 w =>
 PureS (extractV 0 t15) fun t16 =>
 PureS (extractV 1 t15) fun t17 =>
 PureS (binV .neq t17 (Value.int .i64 0)) fun t19 =>
 CondS t19 (
 K t17 w
 ) (
 CallS Tryz.prog 72 [f0, path1].toArray (fun t24 w =>
 PureS (extractV 0 t24) fun t25 =>
 PureS (extractV 1 t24) fun t26 =>
 PureS (extractV 2 t24) fun t27 =>
 BoxS 9 (Value.string ⟨#[]⟩) (fun name8 w =>
 StoreC name8 t26 (fun w =>
 CallS Tryz.prog 35 [f0].toArray (fun t30 w =>
 PureS (extractV 0 t30) fun t31 =>
 PureS (extractV 1 t30) fun t32 =>
 PureS (binV .neq t31 (Value.int .i64 0)) fun t34 =>
 CondS t34 (
 K t31 w
 ) (
 CallS Tryz.prog 73 [t25, (Value.func (Fn.func 103) [].toArray [name8].toArray)].toArray (fun t38 w =>
 K (Value.int .i64 0) w
 ) w
 )
 ) w
 ) w
 ) w
 ) w
 )
 ) w
theorem s53_den (f0 path1 : Value) (K : Value → World → Prop) (w : World) : denFn Tryz.prog false (bodyOf Tryz.f53) Tryz.f53.results a53 [f0, path1] K NoP w = s53 f0 path1 K w := by kernel_rfl
theorem s53_dst : dstsOk (2 + 37) (bodyOf Tryz.f53) = true := by kernel_rfl
theorem s53_ann : annOk (bodyOf Tryz.f53) a53 = true := by kernel_rfl
theorem s53_call {f0 path1 : Value} {K : Value → World → Prop} {w : World} (hm : Tryz.prog.follows .mixedOrders = true) (h : s53 f0 path1 K w) : CallS Tryz.prog 53 #[f0, path1] K w :=
  fn_call (args := [f0, path1]) (m := 37) hm Tryz.func53 (by kernel_rfl) (rs := Tryz.f53.results) rfl Tryz.ntmps53 s53_dst s53_ann (by rw [s53_den]; exact h)

def a54 : Ann :=
 (.q (.r [.plain 1]) (.q (.r [.plain 8]) (.q (.q (.r [.plain 2]) (.c (.q (.r [.plain 2]) .s) .s)) (.q (.r [.plain 3]) (.j [] 274875810688 (.q (.r [.plain 2]) (.c (.q (.r [.plain 10]) (.r [.plain 8])) .s))
  (.q (.r [.plain 2]) .s))))))
def s54 (f0 path1 : Value) (K : Value → World → Prop) (w : World) : Prop :=
 CallS Tryz.prog 94 [f0, path1].toArray (fun t13 w =>
 PureS (extractV 0 t13) fun t14 =>
 PureS (extractV 1 t13) fun t15 =>
 PureS (binV .neq t15 (Value.int .i64 0)) fun t17 =>
 CondS t17 (
 K t15 w
 ) (
 CallS Tryz.prog 85 [f0].toArray (fun t20 w =>
 JoinS (fun (w : World) =>
 K t20 w
 ) fun J0 =>
 PureS (binV .eql t20 (Value.int .i64 0)) fun t22 =>
 CondS t22 (
 CallS Tryz.prog 87 [f0, path1].toArray (fun t26 w =>
 PureS (extractV 0 t26) fun t27 =>
 PureS (extractV 1 t26) fun t28 =>
 PureS (extractV 2 t26) fun t29 =>
 CallS Tryz.prog 86 [f0, t27].toArray (fun t34 w =>
 CallS Tryz.prog 90 [t34, t28, (Value.int .i64 (-1))].toArray (fun t36 w =>
 CallS Tryz.prog 89 [f0, t27, t36].toArray (fun t37 w =>
 J0 w
 ) w
 ) w
 ) w
 ) w
 ) (
 J0 w
 )
 ) w
 )
 ) w
theorem s54_den (f0 path1 : Value) (K : Value → World → Prop) (w : World) : denFn Tryz.prog false (bodyOf Tryz.f54) Tryz.f54.results a54 [f0, path1] K NoP w = s54 f0 path1 K w := by kernel_rfl
theorem s54_dst : dstsOk (2 + 37) (bodyOf Tryz.f54) = true := by kernel_rfl
theorem s54_ann : annOk (bodyOf Tryz.f54) a54 = true := by kernel_rfl
theorem s54_call {f0 path1 : Value} {K : Value → World → Prop} {w : World} (hm : Tryz.prog.follows .mixedOrders = true) (h : s54 f0 path1 K w) : CallS Tryz.prog 54 #[f0, path1] K w :=
  fn_call (args := [f0, path1]) (m := 37) hm Tryz.func54 (by kernel_rfl) (rs := Tryz.f54.results) rfl Tryz.ntmps54 s54_dst s54_ann (by rw [s54_den]; exact h)

def a55 : Ann :=
 (.q (.r [.plain 1]) (.q (.r [.plain 8]) (.q (.q (.r [.plain 2]) (.c (.q (.r [.plain 2]) .s) .s)) (.q (.r [.plain 3]) (.j [] 4294705152 (.q (.r [.plain 2]) (.c (.r [.plain 12]) .s))
  (.q (.r [.plain 2]) .s))))))
def s55 (f0 path1 : Value) (K : Value → World → Prop) (w : World) : Prop :=
 CallS Tryz.prog 94 [f0, path1].toArray (fun t10 w =>
 PureS (extractV 0 t10) fun t11 =>
 PureS (extractV 1 t10) fun t12 =>
 PureS (binV .neq t12 (Value.int .i64 0)) fun t14 =>
 CondS t14 (
 K t12 w
 ) (
 CallS Tryz.prog 85 [f0].toArray (fun t17 w =>
 JoinS (fun (w : World) =>
 K t17 w
 ) fun J0 =>
 PureS (binV .eql t17 (Value.int .i64 0)) fun t19 =>
 CondS t19 (
 PureS (nilV f0) fun t23 =>
 PureS (fieldAddrV 2 t23) fun t24 =>
 LoadC t24 (fun t25 w =>
 PureS (indexAddrV 2 t25 t11) fun t27 =>
 LoadA 2 t27 (fun t28 w =>
 CallS Tryz.prog 95 [t28].toArray (fun t29 w =>
 RunS Tryz.prog (Instr.build 135 [(0, t29)].toArray) (fun t30 w =>
 CallS Tryz.prog 96 [f0, t11, t30].toArray (fun t31 w =>
 J0 w
 ) w
 ) w
 ) w
 ) w
 ) w
 ) (
 J0 w
 )
 ) w
 )
 ) w
theorem s55_den (f0 path1 : Value) (K : Value → World → Prop) (w : World) : denFn Tryz.prog false (bodyOf Tryz.f55) Tryz.f55.results a55 [f0, path1] K NoP w = s55 f0 path1 K w := by kernel_rfl
theorem s55_dst : dstsOk (2 + 31) (bodyOf Tryz.f55) = true := by kernel_rfl
theorem s55_ann : annOk (bodyOf Tryz.f55) a55 = true := by kernel_rfl
theorem s55_call {f0 path1 : Value} {K : Value → World → Prop} {w : World} (hm : Tryz.prog.follows .mixedOrders = true) (h : s55 f0 path1 K w) : CallS Tryz.prog 55 #[f0, path1] K w :=
  fn_call (args := [f0, path1]) (m := 31) hm Tryz.func55 (by kernel_rfl) (rs := Tryz.f55.results) rfl Tryz.ntmps55 s55_dst s55_ann (by rw [s55_den]; exact h)

def a56 : Ann :=
 (.q (.r [.plain 1]) (.q (.r [.plain 8]) (.q (.q (.r [.plain 2]) (.c (.q (.r [.plain 2]) .s) .s)) (.q (.r [.plain 3]) (.j [] 8589672448 (.q (.r [.plain 2]) (.c (.r [.plain 13]) .s))
  (.q (.r [.plain 2]) .s))))))
def s56 (f0 dir1 : Value) (K : Value → World → Prop) (w : World) : Prop :=
 CallS Tryz.prog 104 [f0, dir1].toArray (fun t10 w =>
 PureS (extractV 0 t10) fun t11 =>
 PureS (extractV 1 t10) fun t12 =>
 PureS (binV .neq t12 (Value.int .i64 0)) fun t14 =>
 CondS t14 (
 K t12 w
 ) (
 CallS Tryz.prog 85 [f0].toArray (fun t17 w =>
 JoinS (fun (w : World) =>
 K t17 w
 ) fun J0 =>
 PureS (binV .eql t17 (Value.int .i64 0)) fun t19 =>
 CondS t19 (
 PureS (nilV f0) fun t23 =>
 PureS (fieldAddrV 1 t23) fun t24 =>
 LoadC t24 (fun t25 w =>
 PureS (indexAddrV 2 t25 t11) fun t27 =>
 PureS (fieldAddrV 1 t27) fun t28 =>
 LoadC t28 (fun t29 w =>
 PureS (lenSliceV t29) fun t30 =>
 PureS (binV .sub t30 (Value.int .i64 1)) fun t31 =>
 CallS Tryz.prog 105 [f0, t11, t31].toArray (fun t32 w =>
 J0 w
 ) w
 ) w
 ) w
 ) (
 J0 w
 )
 ) w
 )
 ) w
theorem s56_den (f0 dir1 : Value) (K : Value → World → Prop) (w : World) : denFn Tryz.prog false (bodyOf Tryz.f56) Tryz.f56.results a56 [f0, dir1] K NoP w = s56 f0 dir1 K w := by kernel_rfl
theorem s56_dst : dstsOk (2 + 32) (bodyOf Tryz.f56) = true := by kernel_rfl
theorem s56_ann : annOk (bodyOf Tryz.f56) a56 = true := by kernel_rfl
theorem s56_call {f0 dir1 : Value} {K : Value → World → Prop} {w : World} (hm : Tryz.prog.follows .mixedOrders = true) (h : s56 f0 dir1 K w) : CallS Tryz.prog 56 #[f0, dir1] K w :=
  fn_call (args := [f0, dir1]) (m := 32) hm Tryz.func56 (by kernel_rfl) (rs := Tryz.f56.results) rfl Tryz.ntmps56 s56_dst s56_ann (by rw [s56_den]; exact h)

def a57 : Ann :=
 (.q (.r [.plain 8]) (.q (.r [.plain 3, .grp 2 [16] 98304, .plain 1]) (.c (.r [.plain 10]) .s)))
def s57 (f0 n1 many2 : Value) (K : Value → World → Prop) (w : World) : Prop :=
 PureS (nilV f0) fun t8 =>
 PureS (fieldAddrV 3 t8) fun t9 =>
 StoreC t9 (Value.int .i64 0) (fun w =>
 PureS (nilV f0) fun t10 =>
 PureS (fieldAddrV 4 t10) fun t11 =>
 StoreC t11 (Value.int .i64 0) (fun w =>
 PureS (binV .geq n1 (Value.int .i64 1)) fun t13 =>
 JoinS (fun (t16 : Value) (w : World) =>
 PureS (pickV t13 t16 (Value.bool false)) fun t17 =>
 CondS t17 (
 PureS (nilV f0) fun t22 =>
 PureS (fieldAddrV 3 t22) fun t23 =>
 StoreC t23 n1 (fun w =>
 PureS (nilV f0) fun t24 =>
 PureS (fieldAddrV 4 t24) fun t25 =>
 StoreC t25 many2 (fun w =>
 K (Value.tuple [].toArray) w
 ) w
 ) w
 ) (
 K (Value.tuple [].toArray) w
 )
 ) fun J0 =>
 IfB t13 true (
 PureS (binV .geq many2 (Value.int .i64 1)) fun t16_1 =>
 J0 t16_1 w
 ) (
 J0 undef w
 )
 ) w
 ) w
theorem s57_den (f0 n1 many2 : Value) (K : Value → World → Prop) (w : World) : denFn Tryz.prog false (bodyOf Tryz.f57) Tryz.f57.results a57 [f0, n1, many2] K NoP w = s57 f0 n1 many2 K w := by kernel_rfl
theorem s57_dst : dstsOk (3 + 23) (bodyOf Tryz.f57) = true := by kernel_rfl
theorem s57_ann : annOk (bodyOf Tryz.f57) a57 = true := by kernel_rfl
theorem s57_call {f0 n1 many2 : Value} {K : Value → World → Prop} {w : World} (hm : Tryz.prog.follows .mixedOrders = true) (h : s57 f0 n1 many2 K w) : CallS Tryz.prog 57 #[f0, n1, many2] K w :=
  fn_call (args := [f0, n1, many2]) (m := 23) hm Tryz.func57 (by kernel_rfl) (rs := Tryz.f57.results) rfl Tryz.ntmps57 s57_dst s57_ann (by rw [s57_den]; exact h)

def a58 : Ann :=
 (.q (.r [.plain 8]) (.q (.r [.plain 2]) (.c (.r [.plain 5]) .s)))
def s58 (f0 n1 : Value) (K : Value → World → Prop) (w : World) : Prop :=
 PureS (nilV f0) fun t6 =>
 PureS (fieldAddrV 5 t6) fun t7 =>
 StoreC t7 (Value.int .i64 0) (fun w =>
 PureS (nilV f0) fun t8 =>
 PureS (fieldAddrV 6 t8) fun t9 =>
 StoreC t9 (Value.bool false) (fun w =>
 PureS (binV .geq n1 (Value.int .i64 1)) fun t11 =>
 CondS t11 (
 PureS (nilV f0) fun t14 =>
 PureS (fieldAddrV 5 t14) fun t15 =>
 StoreC t15 n1 (fun w =>
 K (Value.tuple [].toArray) w
 ) w
 ) (
 K (Value.tuple [].toArray) w
 )
 ) w
 ) w
theorem s58_den (f0 n1 : Value) (K : Value → World → Prop) (w : World) : denFn Tryz.prog false (bodyOf Tryz.f58) Tryz.f58.results a58 [f0, n1] K NoP w = s58 f0 n1 K w := by kernel_rfl
theorem s58_dst : dstsOk (2 + 14) (bodyOf Tryz.f58) = true := by kernel_rfl
theorem s58_ann : annOk (bodyOf Tryz.f58) a58 = true := by kernel_rfl
theorem s58_call {f0 n1 : Value} {K : Value → World → Prop} {w : World} (hm : Tryz.prog.follows .mixedOrders = true) (h : s58 f0 n1 K w) : CallS Tryz.prog 58 #[f0, n1] K w :=
  fn_call (args := [f0, n1]) (m := 14) hm Tryz.func58 (by kernel_rfl) (rs := Tryz.f58.results) rfl Tryz.ntmps58 s58_dst s58_ann (by rw [s58_den]; exact h)

def a59 : Ann :=
 (.q (.r [.plain 1]) (.q (.r [.plain 8]) (.q (.q (.r [.plain 2]) (.c (.q (.r [.plain 2]) .s) .s)) (.q (.q (.r [.plain 6]) (.c (.q (.r [.plain 1]) .s) .s)) (.q (.q (.r [.plain 3, .grp 8 [34] 34225520640, .plain 1]) (.c (.q (.r [.plain 1]) .s) .s)) (.q (.r [.plain 9]) (.q (.d [0, 1, 3, 7, 0, 16, 63, 127, 0, 256, 768, 2047, 4095, 8191] (.pur 0 (.pur 1 (.pur 2 (.pur 4 (.pur 5 (.pur 8 (.pur 9 (.pur 10 (.hld 3 (.pur 6 (.hld 7 (.pur 11 (.pur 12 (.act 13 .fin))))))))))))))) (.q (.r [.plain 8]) (.q (.r [.plain 1]) .s)))))))))
def s59 (f0 path1 bit2 : Value) (K : Value → World → Prop) (w : World) : Prop :=
 CallS Tryz.prog 33 [f0, path1].toArray (fun t12 w =>
 PureS (extractV 0 t12) fun t13 =>
 PureS (extractV 1 t12) fun t14 =>
 PureS (binV .neq t14 (Value.int .i64 0)) fun t16 =>
 CondS t16 (
 K t14 w
 ) (
 PureS (nilV t13) fun t19 =>
 PureS (fieldAddrV 1 t19) fun t20 =>
 LoadC t20 (fun t21 w =>
 PureS (lenSliceV t21) fun t22 =>
 PureS (binV .gtr t22 (Value.int .i64 0)) fun t23 =>
 CondS t23 (
 K (Value.int .i64 8) w
 ) (
 PureS (binV .lss bit2 (Value.int .i64 0)) fun t25 =>
 JoinS (fun (t34 : Value) (w : World) =>
 PureS (pickV t25 (Value.bool true) t34) fun t35 =>
 CondS t35 (
 K (Value.int .i64 1) w
 ) (
 PureS (nilV t13) fun t38 =>
 PureS (fieldAddrV 2 t38) fun t39 =>
 LoadC t39 (fun t40 w =>
 CallS Tryz.prog 32 [t40].toArray (fun t41 w =>
 PureS (nilV t13) fun t42 =>
 PureS (fieldAddrV 2 t42) fun t43 =>
 StoreC t43 t41 (fun w =>
 DrawS fun S1 => S1 w.drew ∧ (
 PureS (nilV t13) fun t45 =>
 PureS (fieldAddrV 2 t45) fun t46 =>
 PureS (binV .quo bit2 (Value.int .i64 8)) fun t49 =>
 PureS (binV .rem bit2 (Value.int .i64 8)) fun t53 =>
 PureS (binV .shl (Value.int .u8 1) t53) fun t54 =>
 HeldC S1 t46 (fun t47 =>
 PureS (indexAddrV 1 t47 t49) fun t50 =>
 HeldC S1 t50 (fun t51 =>
 PureS (binV .xor t51 t54) fun t55 =>
 PureS (indexAddrV 1 t47 t49) fun t56 =>
 StoreC t56 t55 (fun w =>
 PureS (nilV t13) fun t59 =>
 PureS (fieldAddrV 2 t59) fun t60 =>
 LoadC t60 (fun t61 w =>
 PureS (nilV t13) fun t62 =>
 PureS (fieldAddrV 0 t62) fun t63 =>
 StoreC t63 t61 (fun w =>
 K (Value.int .i64 0) w
 ) w
 ) w
 ) w.drew
 )
 )
 )
 ) w
 ) w
 ) w
 )
 ) fun J0 =>
 IfB t25 false (
 PureS (nilV t13) fun t29 =>
 PureS (fieldAddrV 2 t29) fun t30 =>
 LoadC t30 (fun t31 w =>
 PureS (lenSliceV t31) fun t32 =>
 PureS (binV .mul (Value.int .i64 8) t32) fun t33 =>
 PureS (binV .geq bit2 t33) fun t34_1 =>
 J0 t34_1 w
 ) w
 ) (
 J0 undef w
 )
 )
 ) w
 )
 ) w
theorem s59_den (f0 path1 bit2 : Value) (K : Value → World → Prop) (w : World) : denFn Tryz.prog false (bodyOf Tryz.f59) Tryz.f59.results a59 [f0, path1, bit2] K NoP w = s59 f0 path1 bit2 K w := by kernel_rfl
theorem s59_dst : dstsOk (3 + 61) (bodyOf Tryz.f59) = true := by kernel_rfl
theorem s59_ann : annOk (bodyOf Tryz.f59) a59 = true := by kernel_rfl
theorem s59_call {f0 path1 bit2 : Value} {K : Value → World → Prop} {w : World} (hm : Tryz.prog.follows .mixedOrders = true) (h : s59 f0 path1 bit2 K w) : CallS Tryz.prog 59 #[f0, path1, bit2] K w :=
  fn_call (args := [f0, path1, bit2]) (m := 61) hm Tryz.func59 (by kernel_rfl) (rs := Tryz.f59.results) rfl Tryz.ntmps59 s59_dst s59_ann (by rw [s59_den]; exact h)

def a60 : Ann :=
 (.q (.r [.plain 1]) (.q (.r [.plain 8]) (.q (.q (.r [.plain 2]) (.c (.q (.r [.plain 2]) .s) .s)) (.q (.r [.plain 9]) (.q (.b (.q (.r [.plain 5]) (.c (.q (.r [.plain 1]) .s) (.q (.r [.plain 3, .grp 6 [41] 4329327034368, .plain 2]) (.c (.q (.r [.plain 1]) .s) .s))))) (.q (.r [.plain 5]) (.q (.r [.plain 15]) (.q (.r [.plain 5]) (.q (.r [.plain 1]) .s)))))))))
def s60 (f0 path1 bit2 : Value) (K : Value → World → Prop) (w : World) : Prop :=
 CallS Tryz.prog 94 [f0, path1].toArray (fun t14 w =>
 PureS (extractV 0 t14) fun t15 =>
 PureS (extractV 1 t14) fun t16 =>
 PureS (binV .neq t16 (Value.int .i64 0)) fun t18 =>
 CondS t18 (
 K t16 w
 ) (
 PureS (nilV f0) fun t21 =>
 PureS (fieldAddrV 2 t21) fun t22 =>
 LoadC t22 (fun t23 w =>
 PureS (indexAddrV 2 t23 t15) fun t25 =>
 LoadA 2 t25 (fun t26 w =>
 BoxS 135 (Value.agg #[(Value.slice none 0 0), (Value.slice none 0 0)]) (fun x9 w =>
 StoreA 2 x9 t26 (fun w =>
 PureS (fieldAddrV 1 x9) fun t28 =>
 LoadC t28 (fun t29 w =>
 PureS (lenSliceV t29) fun t30 =>
 PureS (binV .gtr t30 (Value.int .i64 0)) fun t31 =>
 CondS t31 (
 K (Value.int .i64 8) w
 ) (
 PureS (binV .lss bit2 (Value.int .i64 0)) fun t34 =>
 JoinS (fun (t41 : Value) (w : World) =>
 PureS (pickV t34 (Value.bool true) t41) fun t42 =>
 CondS t42 (
 K (Value.int .i64 1) w
 ) (
 RunS Tryz.prog (Instr.buildSlice 34 0 [].toArray) (fun t43 w =>
 PureS (fieldAddrV 0 x9) fun t44 =>
 LoadC t44 (fun t45 w =>
 RunS Tryz.prog (Builtin.append_ #[34, 34] 34 [t43, t45].toArray) (fun t46 w =>
 PureS (binV .quo bit2 (Value.int .i64 8)) fun t49 =>
 PureS (binV .quo bit2 (Value.int .i64 8)) fun t52 =>
 PureS (indexAddrV 1 t46 t52) fun t53 =>
 LoadC t53 (fun t54 w =>
 PureS (binV .rem bit2 (Value.int .i64 8)) fun t56 =>
 PureS (convIntV .u64 t56) fun t57 =>
 PureS (binV .shl (Value.int .u8 1) t57) fun t58 =>
 PureS (binV .xor t54 t58) fun t59 =>
 PureS (indexAddrV 1 t46 t49) fun t60 =>
 StoreC t60 t59 (fun w =>
 RunS Tryz.prog (Instr.build 135 [(0, t46)].toArray) (fun t64 w =>
 CallS Tryz.prog 96 [f0, t15, t64].toArray (fun t65 w =>
 K (Value.int .i64 0) w
 ) w
 ) w
 ) w
 ) w
 ) w
 ) w
 ) w
 )
 ) fun J0 =>
 IfB t34 false (
 PureS (binV .quo bit2 (Value.int .i64 8)) fun t37 =>
 PureS (fieldAddrV 0 x9) fun t38 =>
 LoadC t38 (fun t39 w =>
 PureS (lenSliceV t39) fun t40 =>
 PureS (binV .geq t37 t40) fun t41_1 =>
 J0 t41_1 w
 ) w
 ) (
 J0 undef w
 )
 )
 ) w
 ) w
 ) w
 ) w
 ) w
 )
 ) w
theorem s60_den (f0 path1 bit2 : Value) (K : Value → World → Prop) (w : World) : denFn Tryz.prog false (bodyOf Tryz.f60) Tryz.f60.results a60 [f0, path1, bit2] K NoP w = s60 f0 path1 bit2 K w := by kernel_rfl
theorem s60_dst : dstsOk (3 + 63) (bodyOf Tryz.f60) = true := by kernel_rfl
theorem s60_ann : annOk (bodyOf Tryz.f60) a60 = true := by kernel_rfl
theorem s60_call {f0 path1 bit2 : Value} {K : Value → World → Prop} {w : World} (hm : Tryz.prog.follows .mixedOrders = true) (h : s60 f0 path1 bit2 K w) : CallS Tryz.prog 60 #[f0, path1, bit2] K w :=
  fn_call (args := [f0, path1, bit2]) (m := 63) hm Tryz.func60 (by kernel_rfl) (rs := Tryz.f60.results) rfl Tryz.ntmps60 s60_dst s60_ann (by rw [s60_den]; exact h)

def a61 : Ann :=
 (.q (.r [.plain 2]) (.q (.r [.plain 2]) (.q (.r [.plain 1]) (.j [] 140737488224704 (.q (.r [.plain 1]) (.b (.l [6, 7] 140737488224704 (.q (.q (.r [.plain 7]) (.c .s .s)) (.j [6] 140737421246784 (.b (.q (.r [.plain 11]) (.q (.r [.plain 2]) (.c (.q (.r [.plain 7]) (.r [.plain 3])) .s))))
  (.r [.plain 3]))))))
  (.q (.r [.plain 1]) (.q (.r [.plain 3]) (.q (.r [.plain 1]) (.b (.l [6, 10] 9671406556354083444235328 (.q (.q (.r [.plain 4]) (.c .s .s)) (.j [6] 9671406520888236378691648 (.b (.q (.d [0, 1, 3, 7, 0, 0, 48, 112, 255, 511, 0, 2047] (.pur 0 (.pur 1 (.pur 2 (.pur 4 (.pur 5 (.pur 6 (.hld 3 (.hld 7 (.pur 8 (.hld 9 (.act 10 (.act 11 .fin))))))))))))) (.q (.r [.plain 3]) (.q (.r [.plain 2]) (.c (.q (.d [0, 0, 0, 6, 14, 0, 0, 0, 0, 448, 992, 2047] (.pur 0 (.pur 1 (.pur 2 (.pur 3 (.pur 6 (.pur 7 (.pur 8 (.hld 4 (.hld 5 (.act 9 (.act 10 (.act 11 .fin))))))))))))) (.r [.plain 3])) .s)))))
  (.r [.plain 3]))))))))))))
def s61 (f0 keeps1 names2 : Value) (K : Value → World → Prop) (w : World) : Prop :=
 CallS Tryz.prog 57 [f0, (Value.int .i64 0), (Value.int .i64 0)].toArray (fun t14 w =>
 CallS Tryz.prog 58 [f0, (Value.int .i64 0)].toArray (fun t16 w =>
 JoinS (fun (w : World) =>
 CallS Tryz.prog 107 [f0].toArray (fun t48 w =>
 LoopS 2 (fun L1 (at6 i10 : Value) (w : World) =>
 PureS (lenSliceV t48) fun t51 =>
 PureS (binV .lss i10 t51) fun t52 =>
 CondS t52 (
 JoinS (fun (at6_1 : Value) (w : World) =>
 PureS (binV .add i10 (Value.int .i64 1)) fun t54 =>
 L1 at6_1 t54 w
 ) fun J2 =>
 DrawS fun S3 => S3 w.drew ∧ (
 PureS (nilV f0) fun t56 =>
 PureS (fieldAddrV 2 t56) fun t57 =>
 PureS (indexAddrV 1 t48 i10) fun t61 =>
 HeldC S3 t57 (fun t58 =>
 HeldC S3 t61 (fun t62 =>
 PureS (indexAddrV 2 t58 t62) fun t63 =>
 HeldA 2 S3 t63 (fun t64 =>
 BoxS 135 (Value.agg #[(Value.slice none 0 0), (Value.slice none 0 0)]) (fun x11 w =>
 S3 w ∧ (
 StoreA 2 x11 t64 (fun w =>
 LoadA 2 x11 (fun t65 w =>
 CallS Tryz.prog 108 [t65].toArray (fun t66 w =>
 PureS (binV .gtr t66 (Value.int .i64 0)) fun t68 =>
 CondS t68 (
 DrawS fun S4 => S4 w.drew ∧ (
 PureS (indexAddrV 1 t48 i10) fun t72 =>
 HeldC S4 t72 (fun t73 =>
 HeldA 2 S4 x11 (fun t74 =>
 CallS Tryz.prog 106 [keeps1, at6, t66].toArray (fun t78 w =>
 S4 w ∧ (
 CallS Tryz.prog 109 [t74, t78].toArray (fun t79 w =>
 S4 w ∧ (
 CallS Tryz.prog 96 [f0, t73, t79].toArray (fun t80 w =>
 PureS (binV .add at6 (Value.int .i64 1)) fun t82 =>
 J2 t82 w
 ) w
 )
 ) w
 )
 ) w.drew
 )
 )
 )
 ) (
 J2 at6 w
 )
 ) w
 ) w
 ) w
 )
 ) w.drew
 )
 )
 )
 )
 ) (
 K (Value.tuple [].toArray) w
 )
 ) (Value.int .i64 0) (Value.int .i64 0) w
 ) w
 ) fun J0 =>
 LoopS 2 (fun L5 (at6_2 i7 : Value) (w : World) =>
 PureS (nilV f0) fun t19 =>
 PureS (fieldAddrV 1 t19) fun t20 =>
 LoadC t20 (fun t21 w =>
 PureS (lenSliceV t21) fun t22 =>
 PureS (binV .lss i7 t22) fun t23 =>
 CondS t23 (
 JoinS (fun (at6_3 : Value) (w : World) =>
 PureS (binV .add i7 (Value.int .i64 1)) fun t25 =>
 L5 at6_3 t25 w
 ) fun J6 =>
 PureS (nilV f0) fun t27 =>
 PureS (fieldAddrV 1 t27) fun t28 =>
 LoadC t28 (fun t29 w =>
 PureS (indexAddrV 2 t29 i7) fun t31 =>
 PureS (fieldAddrV 1 t31) fun t32 =>
 LoadC t32 (fun t33 w =>
 PureS (lenSliceV t33) fun t34 =>
 PureS (binV .sub t34 (Value.int .i64 1)) fun t35 =>
 PureS (binV .gtr t35 (Value.int .i64 0)) fun t37 =>
 CondS t37 (
 CallS Tryz.prog 106 [names2, at6_2, t35].toArray (fun t43 w =>
 CallS Tryz.prog 105 [f0, i7, t43].toArray (fun t44 w =>
 PureS (binV .add at6_2 (Value.int .i64 1)) fun t46 =>
 J6 t46 w
 ) w
 ) w
 ) (
 J6 at6_2 w
 )
 ) w
 ) w
 ) (
 J0 w
 )
 ) w
 ) (Value.int .i64 0) (Value.int .i64 0) w
 ) w
 ) w
theorem s61_den (f0 keeps1 names2 : Value) (K : Value → World → Prop) (w : World) : denFn Tryz.prog false (bodyOf Tryz.f61) Tryz.f61.results a61 [f0, keeps1, names2] K NoP w = s61 f0 keeps1 names2 K w := by kernel_rfl
theorem s61_dst : dstsOk (3 + 80) (bodyOf Tryz.f61) = true := by kernel_rfl
theorem s61_ann : annOk (bodyOf Tryz.f61) a61 = true := by kernel_rfl
theorem s61_call {f0 keeps1 names2 : Value} {K : Value → World → Prop} {w : World} (hm : Tryz.prog.follows .mixedOrders = true) (h : s61 f0 keeps1 names2 K w) : CallS Tryz.prog 61 #[f0, keeps1, names2] K w :=
  fn_call (args := [f0, keeps1, names2]) (m := 80) hm Tryz.func61 (by kernel_rfl) (rs := Tryz.f61.results) rfl Tryz.ntmps61 s61_dst s61_ann (by rw [s61_den]; exact h)
end Go.Proofs.YthohdinjpkehpaaGreat

