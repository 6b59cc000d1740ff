/- Texts of this repository put together: Ce, ShE1, ShE2, ShE4, ShE5, Cc, ShF1, ShU2, ShH6, Bm, ShJ0, ShU4, ShU5, ShU6, ShY1, ShX1, ShX2, ShY2, ShZ1, ShD1, ShE3, ShD2. -/
import Derived.Test.YtegcjkhebecgbaaProg
import Derived.Test.YtegcjkhebecgbaaKUsefula
import Derived.Test.YtegcjkhebecgbaaKUsefulc
import Derived.Test.YtegcjkhebecgbaaKUsefulb

/- Ce: bodies of functions as terms of the frame calculus, printed by shgen.py of this repository. -/
set_option linter.unusedVariables false
set_option maxRecDepth 100000
namespace Go.Proofs.Ytegcjkhebecgbaa
open Go Go.Sh

/-! loop.example/g00758/laws.FnFinite -/
def S7 (v0 v1 : Value) (k : Value → World → Prop) (w : World) : Prop :=
 CallK Try.prog 15 [v0, v1] (fun t1 w2 =>
 CondK t1
  (k (.bool true) w2)
  (CallK Try.prog 55 [v0] (fun t3 w4 =>
  Do Try.prog (sAlloc 26) (fun t5 w6 =>
  Do Try.prog (sStore 26 t5 t3) (fun _ w7 =>
  Rd Try.prog (WS.at w7) (sLoad 26 t5) fun t8 =>
  CallK Try.prog 56 [t8] (fun t9 w10 =>
  Rd Try.prog (WS.at w10) (sExtract t9 0) fun t11 =>
  Rd Try.prog (WS.at w10) (sExtract t9 1) fun t12 =>
  Rd Try.prog (WS.at w10) (sLoad 26 t5) fun t13 =>
  CallK Try.prog 57 [t13] (fun t14 w15 =>
  Rd Try.prog (WS.at w15) (sExtract t14 0) fun t16 =>
  Rd Try.prog (WS.at w15) (sExtract t14 1) fun t17 =>
  Rd Try.prog (WS.at w15) (sLoad 26 t5) fun t18 =>
  CallK Try.prog 58 [t18] (fun t19 w20 =>
  Rd Try.prog (WS.at w20) (sExtract t19 0) fun t21 =>
  Rd Try.prog (WS.at w20) (sExtract t19 1) fun t22 =>
  Rd Try.prog (WS.at w20) (sLoad 26 t5) fun t23 =>
  CallK Try.prog 59 [t23] (fun t24 w25 =>
  Rd Try.prog (WS.at w25) (sExtract t24 0) fun t26 =>
  Rd Try.prog (WS.at w25) (sExtract t24 1) fun t27 =>
  Rd Try.prog (WS.at w25) (sBin .neq 4 false t12 t17) fun t28 =>
  GuardK t28 false (fun k w' => k t11 w') (fun t29 w30 =>
  GuardK t28 false (fun k w' => k t16 w') (fun t31 w32 =>
  GuardK t28 false (fun k w' => Rd Try.prog (WS.at w32) (sBin .neq 4 false t29 t31) fun v => k v w') (fun t33 w34 =>
  Rd Try.prog (WS.at w34) (sPick t28 (.bool true) t33) fun t35 =>
  GuardK t35 false (fun k w' => k t22 w') (fun t36 w37 =>
  GuardK t35 false (fun k w' => k t27 w') (fun t38 w39 =>
  GuardK t35 false (fun k w' => Rd Try.prog (WS.at w39) (sBin .neq 4 false t36 t38) fun v => k v w') (fun t40 w41 =>
  Rd Try.prog (WS.at w41) (sPick t35 (.bool true) t40) fun t42 =>
  GuardK t42 false (fun k w' => k t21 w') (fun t43 w44 =>
  GuardK t42 false (fun k w' => k t26 w') (fun t45 w46 =>
  GuardK t42 false (fun k w' => Rd Try.prog (WS.at w46) (sBin .neq 3 false t43 t45) fun v => k v w') (fun t47 w48 =>
  Rd Try.prog (WS.at w48) (sPick t42 (.bool true) t47) fun t49 =>
  CondK t49
   (k (.bool false) w48)
   (Join (fun K50 =>
   CondK t12
    (Rd Try.prog (WS.at w48) (sLoad 26 t5) fun t53 =>
    CallK Try.prog 60 [t53] (fun t54 w55 =>
    Rd Try.prog (WS.at w55) (sExtract t54 0) fun t56 =>
    Rd Try.prog (WS.at w55) (sExtract t54 1) fun t57 =>
    Rd Try.prog (WS.at w55) (sLoad 26 t5) fun t58 =>
    CallK Try.prog 23 [t58, (.int .i64 3)] (fun t59 w60 =>
    Rd Try.prog (WS.at w60) (sExtract t59 0) fun t61 =>
    Rd Try.prog (WS.at w60) (sExtract t59 1) fun t62 =>
    Rd Try.prog (WS.at w60) (sUn .not t57) fun t63 =>
    GuardK t63 false (fun k w' => k t22 w') (fun t64 w65 =>
    GuardK t63 false (fun k w' => k t56 w') (fun t66 w67 =>
    GuardK t63 false (fun k w' => CallK Try.prog 35 [t66, (.int .i64 0)] k w') (fun t68 w69 =>
    GuardK t63 false (fun k w' => Rd Try.prog (WS.at w69) (sBin .neq 4 false t64 t68) fun v => k v w') (fun t70 w71 =>
    Rd Try.prog (WS.at w71) (sPick t63 (.bool true) t70) fun t72 =>
    GuardK t72 false (fun k w' => k t62 w') (fun t73 w74 =>
    GuardK t72 false (fun k w' => Rd Try.prog (WS.at w74) (sUn .not t73) fun v => k v w') (fun t75 w76 =>
    Rd Try.prog (WS.at w76) (sPick t72 (.bool true) t75) fun t77 =>
    GuardK t77 false (fun k w' => k t22 w') (fun t78 w79 =>
    GuardK t77 false (fun k w' => Rd Try.prog (WS.at w79) (sUn .not t78) fun v => k v w') (fun t80 w81 =>
    GuardK t77 false (fun k w' => k t80 w') (fun t82 w83 =>
    GuardK t82 true (fun k w' => k t61 w') (fun t84 w85 =>
    GuardK t82 true (fun k w' => Rd Try.prog (WS.at w85) (sBuiltin .len #[35] 3 [false] [t84]) fun v => k v w') (fun t86 w87 =>
    GuardK t82 true (fun k w' => Rd Try.prog (WS.at w87) (sBin .gtr 3 true t86 (.int .i64 0)) fun v => k v w') (fun t88 w89 =>
    GuardK t77 false (fun k w' => Rd Try.prog (WS.at w89) (sPick t82 t88 (.bool false)) fun v => k v w') (fun t90 w91 =>
    Rd Try.prog (WS.at w91) (sPick t77 (.bool true) t90) fun t92 =>
    GuardK t92 false (fun k w' => k t22 w') (fun t93 w94 =>
    GuardK t92 false (fun k w' => k t93 w') (fun t95 w96 =>
    GuardK t95 true (fun k w' => k t21 w') (fun t97 w98 =>
    GuardK t95 true (fun k w' => Rd Try.prog (WS.at w98) (sBin .leq 3 true t97 (.int .i64 3)) fun v => k v w') (fun t99 w100 =>
    GuardK t92 false (fun k w' => Rd Try.prog (WS.at w100) (sPick t95 t99 (.bool false)) fun v => k v w') (fun t101 w102 =>
    GuardK t92 false (fun k w' => k t101 w') (fun t103 w104 =>
    GuardK t103 true (fun k w' => k t61 w') (fun t105 w106 =>
    GuardK t103 true (fun k w' => Rd Try.prog (WS.at w106) (sBuiltin .len #[35] 3 [false] [t105]) fun v => k v w') (fun t107 w108 =>
    GuardK t103 true (fun k w' => Rd Try.prog (WS.at w108) (sBin .eql 3 true t107 (.int .i64 0)) fun v => k v w') (fun t109 w110 =>
    GuardK t103 true (fun k w' => k t109 w') (fun t111 w112 =>
    GuardK t111 false (fun k w' => k t61 w') (fun t113 w114 =>
    GuardK t111 false (fun k w' => Rd Try.prog (WS.at w114) (sIndexAddr 35 t113 (.int .i64 0)) fun v => k v w') (fun t115 w116 =>
    GuardK t111 false (fun k w' => Rd Try.prog (WS.at w116) (sLoad 27 t115) fun v => k v w') (fun t117 w118 =>
    GuardK t111 false (fun k w' => Rd Try.prog (WS.at w118) (sBuiltin .len #[27] 3 [false] [t117]) fun v => k v w') (fun t119 w120 =>
    GuardK t111 false (fun k w' => k t21 w') (fun t121 w122 =>
    GuardK t111 false (fun k w' => Rd Try.prog (WS.at w122) (sBin .neq 3 false t119 t121) fun v => k v w') (fun t123 w124 =>
    GuardK t103 true (fun k w' => Rd Try.prog (WS.at w124) (sPick t111 (.bool true) t123) fun v => k v w') (fun t125 w126 =>
    GuardK t92 false (fun k w' => Rd Try.prog (WS.at w126) (sPick t103 t125 (.bool false)) fun v => k v w') (fun t127 w128 =>
    Rd Try.prog (WS.at w128) (sPick t92 (.bool true) t127) fun t129 =>
    GuardK t129 false (fun k w' => k t22 w') (fun t130 w131 =>
    GuardK t129 false (fun k w' => k t130 w') (fun t132 w133 =>
    GuardK t132 true (fun k w' => k t21 w') (fun t134 w135 =>
    GuardK t132 true (fun k w' => Rd Try.prog (WS.at w135) (sBin .gtr 3 true t134 (.int .i64 3)) fun v => k v w') (fun t136 w137 =>
    GuardK t129 false (fun k w' => Rd Try.prog (WS.at w137) (sPick t132 t136 (.bool false)) fun v => k v w') (fun t138 w139 =>
    GuardK t129 false (fun k w' => k t138 w') (fun t140 w141 =>
    GuardK t140 true (fun k w' => k t61 w') (fun t142 w143 =>
    GuardK t140 true (fun k w' => Rd Try.prog (WS.at w143) (sBuiltin .len #[35] 3 [false] [t142]) fun v => k v w') (fun t144 w145 =>
    GuardK t140 true (fun k w' => Rd Try.prog (WS.at w145) (sBin .gtr 3 true t144 (.int .i64 0)) fun v => k v w') (fun t146 w147 =>
    GuardK t129 false (fun k w' => Rd Try.prog (WS.at w147) (sPick t140 t146 (.bool false)) fun v => k v w') (fun t148 w149 =>
    Rd Try.prog (WS.at w149) (sPick t129 (.bool true) t148) fun t150 =>
    GuardK t150 false (fun k w' => k t22 w') (fun t151 w152 =>
    GuardK t150 false (fun k w' => Rd Try.prog (WS.at w152) (sUn .not t151) fun v => k v w') (fun t153 w154 =>
    GuardK t150 false (fun k w' => k t153 w') (fun t155 w156 =>
    GuardK t155 true (fun k w' => k t11 w') (fun t157 w158 =>
    GuardK t155 true (fun k w' => Rd Try.prog (WS.at w158) (sUn .not t157) fun v => k v w') (fun t159 w160 =>
    GuardK t150 false (fun k w' => Rd Try.prog (WS.at w160) (sPick t155 t159 (.bool false)) fun v => k v w') (fun t161 w162 =>
    Rd Try.prog (WS.at w162) (sPick t150 (.bool true) t161) fun t163 =>
    CondK t163
     (k (.bool false) w162)
     (Rd Try.prog (WS.at w162) (sLoad 26 t5) fun t164 =>
     CallK Try.prog 61 [t164] (fun t165 w166 =>
     Rd Try.prog (WS.at w166) (sExtract t165 0) fun t167 =>
     Rd Try.prog (WS.at w166) (sExtract t165 1) fun t168 =>
     Rd Try.prog (WS.at w166) (sUn .not t168) fun t169 =>
     GuardK t169 false (fun k w' => k t167 w') (fun t170 w171 =>
     GuardK t169 false (fun k w' => CallK Try.prog 35 [t170, (.int .i64 0)] k w') (fun t172 w173 =>
     GuardK t169 false (fun k w' => k t22 w') (fun t174 w175 =>
     GuardK t169 false (fun k w' => k t174 w') (fun t176 w177 =>
     GuardK t176 true (fun k w' => k t21 w') (fun t178 w179 =>
     GuardK t176 true (fun k w' => Rd Try.prog (WS.at w179) (sBin .eql 3 true t178 (.int .i64 0)) fun v => k v w') (fun t180 w181 =>
     GuardK t169 false (fun k w' => Rd Try.prog (WS.at w181) (sPick t176 t180 (.bool false)) fun v => k v w') (fun t182 w183 =>
     GuardK t169 false (fun k w' => Rd Try.prog (WS.at w183) (sBin .neq 4 false t172 t182) fun v => k v w') (fun t184 w185 =>
     Rd Try.prog (WS.at w185) (sPick t169 (.bool true) t184) fun t186 =>
     CondK t186
      (k (.bool false) w185)
      (K50 (F.upd (F.upd (F.upd (F.upd (F.upd (F.upd (F.upd (F.upd (F.upd (F.upd (F.upd (F.upd (F.upd (F.upd (F.upd (F.upd (F.upd (F.upd (F.upd (F.upd (F.upd (F.upd (F.upd (F.upd (F.upd (F.upd (F.upd (F.upd (F.upd (F.upd (F.upd (F.upd (F.upd (F.upd (F.upd (F.upd (F.upd (F.upd (F.upd (F.upd (F.upd (F.upd (F.upd (F.upd (F.upd (F.upd (F.upd (F.upd (F.upd (F.upd (F.upd (F.upd (F.upd (F.upd (F.upd (F.upd (F.upd (F.upd (F.upd (F.upd (F.upd (F.upd (F.upd (F.upd (F.upd (F.upd (F.upd (F.upd (F.upd (F.upd (F.upd (F.upd (F.upd (F.upd (F.upd (F.upd (F.upd (F.upd (F.upd (F.upd (F.upd (F.upd (F.upd (F.upd (F.upd (F.upd (F.upd (F.upd (F.upd (F.upd (F.upd (F.upd (F.upd (F.upd (F.upd (F.upd (F.upd (F.upd (F.upd (F.upd (F.upd (F.upd (F.upd (F.upd (F.upd (F.upd (F.upd (F.upd (F.upd (F.upd (F.upd (F.upd (F.upd (F.upd (F.upd (F.upd (F.upd (F.upd (F.upd (F.upd (F.upd (F.upd (F.upd (F.upd (F.upd (F.upd (F.upd (F.upd (F.upd (F.upd (F.upd (F.upd (F.upd (F.upd (F.upd (F.upd (F.upd (F.upd (F.upd (F.upd (F.upd (F.upd (F.upd (F.upd (F.upd (F.upd (F.upd (F.upd (initF [v0, v1]) 4 (.bool false)) 25 v0) 26 v1) 27 t1) 28 v0) 29 t3) 5 t5) 31 t8) 32 t9) 30 t9) 33 t11) 34 t12) 6 t11) 7 t12) 36 t13) 37 t14) 35 t14) 38 t16) 39 t17) 8 t16) 9 t17) 41 t18) 42 t19) 40 t19) 43 t21) 44 t22) 10 t21) 11 t22) 46 t23) 47 t24) 45 t24) 48 t26) 49 t27) 12 t26) 13 t27) 50 t12) 51 t17) 52 t28) 53 t28) 54 t29) 55 t31) 56 t33) 57 t35) 58 t35) 59 t36) 60 t38) 61 t40) 62 t42) 63 t42) 64 t43) 65 t45) 66 t47) 67 t49) 68 t12) 70 t53) 71 t54) 69 t54) 72 t56) 73 t57) 14 t56) 15 t57) 75 t58) 76 t59) 74 t59) 77 t61) 78 t62) 16 t61) 17 t62) 79 t57) 80 t63) 81 t63) 82 t64) 83 t66) 84 t68) 85 t70) 86 t72) 87 t72) 88 t73) 89 t75) 90 t77) 91 t77) 92 t78) 93 t80) 94 t82) 95 t84) 96 t86) 97 t88) 98 t90) 99 t92) 100 t92) 101 t93) 102 t95) 103 t97) 104 t99) 105 t101) 106 t103) 107 t105) 108 t107) 109 t109) 110 t111) 111 t113) 112 t115) 113 t117) 114 t119) 115 t121) 116 t123) 117 t125) 118 t127) 119 t129) 120 t129) 121 t130) 122 t132) 123 t134) 124 t136) 125 t138) 126 t140) 127 t142) 128 t144) 129 t146) 130 t148) 131 t150) 132 t150) 133 t151) 134 t153) 135 t155) 136 t157) 137 t159) 138 t161) 139 t163) 141 t164) 142 t165) 140 t165) 143 t167) 144 t168) 18 t167) 19 t168) 145 t168) 146 t169) 147 t169) 148 t170) 149 t172) 150 t174) 151 t176) 152 t178) 153 t180) 154 t182) 155 t184) 156 t186) w185)) w183) w181) w179) w177) w175) w173) w171) w166) w162)) w160) w158) w156) w154) w152) w149) w147) w145) w143) w141) w139) w137) w135) w133) w131) w128) w126) w124) w122) w120) w118) w116) w114) w112) w110) w108) w106) w104) w102) w100) w98) w96) w94) w91) w89) w87) w85) w83) w81) w79) w76) w74) w71) w69) w67) w65) w60) w55) w48)
    (K50 (F.upd (F.upd (F.upd (F.upd (F.upd (F.upd (F.upd (F.upd (F.upd (F.upd (F.upd (F.upd (F.upd (F.upd (F.upd (F.upd (F.upd (F.upd (F.upd (F.upd (F.upd (F.upd (F.upd (F.upd (F.upd (F.upd (F.upd (F.upd (F.upd (F.upd (F.upd (F.upd (F.upd (F.upd (F.upd (F.upd (F.upd (F.upd (F.upd (F.upd (F.upd (F.upd (F.upd (F.upd (F.upd (F.upd (F.upd (F.upd (F.upd (F.upd (F.upd (F.upd (F.upd (F.upd (initF [v0, v1]) 4 (.bool false)) 25 v0) 26 v1) 27 t1) 28 v0) 29 t3) 5 t5) 31 t8) 32 t9) 30 t9) 33 t11) 34 t12) 6 t11) 7 t12) 36 t13) 37 t14) 35 t14) 38 t16) 39 t17) 8 t16) 9 t17) 41 t18) 42 t19) 40 t19) 43 t21) 44 t22) 10 t21) 11 t22) 46 t23) 47 t24) 45 t24) 48 t26) 49 t27) 12 t26) 13 t27) 50 t12) 51 t17) 52 t28) 53 t28) 54 t29) 55 t31) 56 t33) 57 t35) 58 t35) 59 t36) 60 t38) 61 t40) 62 t42) 63 t42) 64 t43) 65 t45) 66 t47) 67 t49) 68 t12) w48)) (fun f51 w52 =>
   CallK Try.prog 62 [(f51 1)] (fun t187 w188 =>
   Do Try.prog (sAlloc 26) (fun t189 w190 =>
   Do Try.prog (sStore 26 t189 t187) (fun _ w191 =>
   Rd Try.prog (WS.at w191) (sLoad 26 t189) fun t192 =>
   CallK Try.prog 58 [t192] (fun t193 w194 =>
   Rd Try.prog (WS.at w194) (sExtract t193 0) fun t195 =>
   Rd Try.prog (WS.at w194) (sExtract t193 1) fun t196 =>
   Rd Try.prog (WS.at w194) (sLoad 26 t189) fun t197 =>
   CallK Try.prog 59 [t197] (fun t198 w199 =>
   Rd Try.prog (WS.at w199) (sExtract t198 0) fun t200 =>
   Rd Try.prog (WS.at w199) (sExtract t198 1) fun t201 =>
   Rd Try.prog (WS.at w199) (sBin .eql 4 false t196 t201) fun t202 =>
   GuardK t202 true (fun k w' => k t195 w') (fun t203 w204 =>
   GuardK t202 true (fun k w' => k t200 w') (fun t205 w206 =>
   GuardK t202 true (fun k w' => Rd Try.prog (WS.at w206) (sBin .eql 3 false t203 t205) fun v => k v w') (fun t207 w208 =>
   Rd Try.prog (WS.at w208) (sPick t202 t207 (.bool false)) fun t209 =>
   k t209 w208) w206) w204) w199) w194) w191) w190) w188) w52))) w46) w44) w41) w39) w37) w34) w32) w30) w25) w20) w15) w10) w7) w6) w4) w2)) w
/-! loop.example/g00758/laws.FnUseful -/
def pl8 : Plans := fun _ => ⟨false, [], .nil⟩
def S8 (v0 v1 : Value) (k : Value → World → Prop) (w : World) : Prop :=
 CallK Try.prog 15 [v0, v1] (fun t1 w2 =>
 CondK t1
  (k (.bool true) w2)
  (CallK Try.prog 43 [v0] (fun t3 w4 =>
  Rd Try.prog (WS.at w4) (sExtract t3 0) fun t5 =>
  Rd Try.prog (WS.at w4) (sExtract t3 1) fun t6 =>
  Do Try.prog (sAlloc 26) (fun t7 w8 =>
  Do Try.prog (sStore 26 t7 t5) (fun _ w9 =>
  Rd Try.prog (WS.at w9) (sLoad 26 t7) fun t10 =>
  CallK Try.prog 63 [t10] (fun t11 w12 =>
  Rd Try.prog (WS.at w12) (sExtract t11 0) fun t13 =>
  Rd Try.prog (WS.at w12) (sExtract t11 1) fun t14 =>
  Do Try.prog (sAlloc 26) (fun t15 w16 =>
  Do Try.prog (sStore 26 t15 t13) (fun _ w17 =>
  Rd Try.prog (WS.at w17) (sLoad 26 t7) fun t18 =>
  CallK Try.prog 64 [t18] (fun t19 w20 =>
  Rd Try.prog (WS.at w20) (sExtract t19 0) fun t21 =>
  Rd Try.prog (WS.at w20) (sExtract t19 1) fun t22 =>
  Do Try.prog (sAlloc 26) (fun t23 w24 =>
  Do Try.prog (sStore 26 t23 t21) (fun _ w25 =>
  Rd Try.prog (WS.at w25) (sBin .neq 4 false t14 t22) fun t26 =>
  GuardK t26 false (fun k w' => Rd Try.prog (WS.at w25) (sLoad 26 t15) fun v => k v w') (fun t27 w28 =>
  GuardK t26 false (fun k w' => Rd Try.prog (WS.at w28) (sLoad 26 t23) fun v => k v w') (fun t29 w30 =>
  GuardK t26 false (fun k w' => CallK Try.prog 41 [t27, t29] k w') (fun t31 w32 =>
  GuardK t26 false (fun k w' => Rd Try.prog (WS.at w32) (sUn .not t31) fun v => k v w') (fun t33 w34 =>
  Rd Try.prog (WS.at w34) (sPick t26 (.bool true) t33) fun t35 =>
  CondK t35
   (k (.bool false) w34)
   (Join (fun K36 =>
   CondK t14
    (Rd Try.prog (WS.at w34) (sLoad 26 t15) fun t39 =>
    CallK Try.prog 63 [t39] (fun t40 w41 =>
    Rd Try.prog (WS.at w41) (sExtract t40 0) fun t42 =>
    Rd Try.prog (WS.at w41) (sExtract t40 1) fun t43 =>
    Do Try.prog (sAlloc 26) (fun t44 w45 =>
    Do Try.prog (sStore 26 t44 t42) (fun _ w46 =>
    Rd Try.prog (WS.at w46) (sLoad 26 t15) fun t47 =>
    CallK Try.prog 65 [t47] (fun t48 w49 =>
    Rd Try.prog (WS.at w49) (sExtract t48 0) fun t50 =>
    Rd Try.prog (WS.at w49) (sExtract t48 1) fun t51 =>
    Rd Try.prog (WS.at w49) (sLoad 26 t15) fun t52 =>
    CallK Try.prog 60 [t52] (fun t53 w54 =>
    Rd Try.prog (WS.at w54) (sExtract t53 0) fun t55 =>
    Rd Try.prog (WS.at w54) (sExtract t53 1) fun t56 =>
    Rd Try.prog (WS.at w54) (sLoad 26 t15) fun t57 =>
    CallK Try.prog 66 [t57] (fun t58 w59 =>
    Rd Try.prog (WS.at w59) (sExtract t58 0) fun t60 =>
    Rd Try.prog (WS.at w59) (sExtract t58 1) fun t61 =>
    Rd Try.prog (WS.at w59) (sLoad 26 t7) fun t62 =>
    CallK Try.prog 26 [t62, t6] (fun t63 w64 =>
    Rd Try.prog (WS.at w64) (sExtract t63 0) fun t65 =>
    Rd Try.prog (WS.at w64) (sExtract t63 1) fun t66 =>
    Rd Try.prog (WS.at w64) (sLoad 26 t15) fun t67 =>
    CallK Try.prog 26 [t67, t6] (fun t68 w69 =>
    Rd Try.prog (WS.at w69) (sExtract t68 0) fun t70 =>
    Rd Try.prog (WS.at w69) (sExtract t68 1) fun t71 =>
    Rd Try.prog (WS.at w69) (sUn .not t43) fun t72 =>
    GuardK t72 false (fun k w' => Rd Try.prog (WS.at w69) (sLoad 26 t44) fun v => k v w') (fun t73 w74 =>
    GuardK t72 false (fun k w' => Rd Try.prog (WS.at w74) (sLoad 26 t15) fun v => k v w') (fun t75 w76 =>
    GuardK t72 false (fun k w' => CallK Try.prog 41 [t73, t75] k w') (fun t77 w78 =>
    GuardK t72 false (fun k w' => Rd Try.prog (WS.at w78) (sUn .not t77) fun v => k v w') (fun t79 w80 =>
    Rd Try.prog (WS.at w80) (sPick t72 (.bool true) t79) fun t81 =>
    GuardK t81 false (fun k w' => k t51 w') (fun t82 w83 =>
    GuardK t81 false (fun k w' => Rd Try.prog (WS.at w83) (sUn .not t82) fun v => k v w') (fun t84 w85 =>
    Rd Try.prog (WS.at w85) (sPick t81 (.bool true) t84) fun t86 =>
    GuardK t86 false (fun k w' => k t50 w') (fun t87 w88 =>
    GuardK t86 false (fun k w' => Rd Try.prog (WS.at w88) (sUn .not t87) fun v => k v w') (fun t89 w90 =>
    Rd Try.prog (WS.at w90) (sPick t86 (.bool true) t89) fun t91 =>
    GuardK t91 false (fun k w' => k t56 w') (fun t92 w93 =>
    GuardK t91 false (fun k w' => Rd Try.prog (WS.at w93) (sUn .not t92) fun v => k v w') (fun t94 w95 =>
    Rd Try.prog (WS.at w95) (sPick t91 (.bool true) t94) fun t96 =>
    GuardK t96 false (fun k w' => k t61 w') (fun t97 w98 =>
    GuardK t96 false (fun k w' => Rd Try.prog (WS.at w98) (sUn .not t97) fun v => k v w') (fun t99 w100 =>
    Rd Try.prog (WS.at w100) (sPick t96 (.bool true) t99) fun t101 =>
    GuardK t101 false (fun k w' => k t66 w') (fun t102 w103 =>
    GuardK t101 false (fun k w' => k t71 w') (fun t104 w105 =>
    GuardK t101 false (fun k w' => Rd Try.prog (WS.at w105) (sBin .neq 4 false t102 t104) fun v => k v w') (fun t106 w107 =>
    Rd Try.prog (WS.at w107) (sPick t101 (.bool true) t106) fun t108 =>
    GuardK t108 false (fun k w' => k t65 w') (fun t109 w110 =>
    GuardK t108 false (fun k w' => k t70 w') (fun t111 w112 =>
    GuardK t108 false (fun k w' => Rd Try.prog (WS.at w112) (sBin .neq 4 false t109 t111) fun v => k v w') (fun t113 w114 =>
    Rd Try.prog (WS.at w114) (sPick t108 (.bool true) t113) fun t115 =>
    GuardK t115 false (fun k w' => Rd Try.prog (WS.at w114) (sFieldAddr 26 t15 2) fun v => k v w') (fun t116 w117 =>
    GuardK t115 false (fun k w' => Rd Try.prog (WS.at w117) (sLoad 24 t116) fun v => k v w') (fun t118 w119 =>
    GuardK t115 false (fun k w' => Rd Try.prog (WS.at w119) (sBuiltin .len #[24] 3 [false] [t118]) fun v => k v w') (fun t120 w121 =>
    GuardK t115 false (fun k w' => Rd Try.prog (WS.at w121) (sFieldAddr 26 t7 2) fun v => k v w') (fun t122 w123 =>
    GuardK t115 false (fun k w' => Rd Try.prog (WS.at w123) (sLoad 24 t122) fun v => k v w') (fun t124 w125 =>
    GuardK t115 false (fun k w' => Rd Try.prog (WS.at w125) (sBuiltin .len #[24] 3 [false] [t124]) fun v => k v w') (fun t126 w127 =>
    GuardK t115 false (fun k w' => Rd Try.prog (WS.at w127) (sBin .gtr 3 false t120 t126) fun v => k v w') (fun t128 w129 =>
    Rd Try.prog (WS.at w129) (sPick t115 (.bool true) t128) fun t130 =>
    CondK t130
     (k (.bool false) w129)
     (Rd Try.prog (WS.at w129) (sFieldAddr 26 t15 2) fun t131 =>
     Rd Try.prog (WS.at w129) (sLoad 24 t131) fun t132 =>
     Rd Try.prog (WS.at w129) (sBuiltin .len #[24] 3 [false] [t132]) fun t133 =>
     LoopF [153, 154, 155, 24, 156, 157, 158, 159, 160, 161, 162, 163, 164, 165, 166, 167, 4, 168, 152] (fun Q134 f135 w136 =>
      Rd Try.prog (WS.at w136) (sBin .lss 3 false (f135 152) (f135 151)) fun t137 =>
      CondK t137
       (Rd Try.prog (WS.at w136) (sIndexAddr 24 (f135 150) (f135 152)) fun t138 =>
       Rd Try.prog (WS.at w136) (sLoad 33 t138) fun t139 =>
       Do Try.prog (sAlloc 33) (fun t140 w141 =>
       Do Try.prog (sStore 33 t140 t139) (fun _ w142 =>
       Rd Try.prog (WS.at w142) (sFieldAddr 33 t140 0) fun t143 =>
       Rd Try.prog (WS.at w142) (sLoad 3 t143) fun t144 =>
       CallK Try.prog 35 [(f135 15), t144] (fun t145 w146 =>
       Rd Try.prog (WS.at w146) (sUn .not t145) fun t147 =>
       GuardK t147 false (fun k w' => k (f135 17) w') (fun t148 w149 =>
       GuardK t147 false (fun k w' => Rd Try.prog (WS.at w149) (sFieldAddr 33 t140 0) fun v => k v w') (fun t150 w151 =>
       GuardK t147 false (fun k w' => Rd Try.prog (WS.at w151) (sLoad 3 t150) fun v => k v w') (fun t152 w153 =>
       GuardK t147 false (fun k w' => CallK Try.prog 35 [t148, t152] k w') (fun t154 w155 =>
       GuardK t147 false (fun k w' => Rd Try.prog (WS.at w155) (sUn .not t154) fun v => k v w') (fun t156 w157 =>
       Rd Try.prog (WS.at w157) (sPick t147 (.bool true) t156) fun t158 =>
       CondK t158
        (Q134 .ret (F.upd (F.upd (F.upd (F.upd (F.upd (F.upd (F.upd (F.upd (F.upd (F.upd (F.upd (F.upd (F.upd (F.upd (F.upd (F.upd (F.upd f135 153 t137) 154 t138) 155 t139) 24 t140) 156 (f135 15)) 157 t143) 158 t144) 159 t145) 160 t147) 161 t147) 162 t148) 163 t150) 164 t152) 165 t154) 166 t156) 167 t158) 4 (.bool false)) w157)
        (Rd Try.prog (WS.at w157) (sBin .add 3 true (f135 152) (.int .i64 1)) fun t159 =>
        Q134 .normal (F.upd (F.upd (F.upd (F.upd (F.upd (F.upd (F.upd (F.upd (F.upd (F.upd (F.upd (F.upd (F.upd (F.upd (F.upd (F.upd (F.upd (F.upd f135 153 t137) 154 t138) 155 t139) 24 t140) 156 (f135 15)) 157 t143) 158 t144) 159 t145) 160 t147) 161 t147) 162 t148) 163 t150) 164 t152) 165 t154) 166 t156) 167 t158) 168 t159) 152 t159) w157)) w155) w153) w151) w149) w146) w142) w141) w136)
       (Q134 (.exit 0) (F.upd f135 153 t137) w136))
      (blockQ 0 (seqQ K36 (bodyQ Try.prog [.tmp 4] k)))
      (F.upd (F.upd (F.upd (F.upd (F.upd (F.upd (F.upd (F.upd (F.upd (F.upd (F.upd (F.upd (F.upd (F.upd (F.upd (F.upd (F.upd (F.upd (F.upd (F.upd (F.upd (F.upd (F.upd (F.upd (F.upd (F.upd (F.upd (F.upd (F.upd (F.upd (F.upd (F.upd (F.upd (F.upd (F.upd (F.upd (F.upd (F.upd (F.upd (F.upd (F.upd (F.upd (F.upd (F.upd (F.upd (F.upd (F.upd (F.upd (F.upd (F.upd (F.upd (F.upd (F.upd (F.upd (F.upd (F.upd (F.upd (F.upd (F.upd (F.upd (F.upd (F.upd (F.upd (F.upd (F.upd (F.upd (F.upd (F.upd (F.upd (F.upd (F.upd (F.upd (F.upd (F.upd (F.upd (F.upd (F.upd (F.upd (F.upd (F.upd (F.upd (F.upd (F.upd (F.upd (F.upd (F.upd (F.upd (F.upd (F.upd (F.upd (F.upd (F.upd (F.upd (F.upd (F.upd (F.upd (F.upd (F.upd (F.upd (F.upd (F.upd (F.upd (F.upd (F.upd (F.upd (F.upd (F.upd (F.upd (F.upd (F.upd (F.upd (F.upd (F.upd (F.upd (F.upd (F.upd (F.upd (F.upd (F.upd (F.upd (F.upd (F.upd (F.upd (F.upd (F.upd (F.upd (initF [v0, v1]) 4 (.bool false)) 46 v0) 47 v1) 48 t1) 50 v0) 51 t3) 49 t3) 52 t5) 53 t6) 5 t7) 6 t6) 55 t10) 56 t11) 54 t11) 57 t13) 58 t14) 7 t15) 8 t14) 60 t18) 61 t19) 59 t19) 62 t21) 63 t22) 9 t23) 10 t22) 64 t14) 65 t22) 66 t26) 67 t26) 68 t27) 69 t29) 70 t31) 71 t33) 72 t35) 73 t14) 75 t39) 76 t40) 74 t40) 77 t42) 78 t43) 11 t44) 12 t43) 80 t47) 81 t48) 79 t48) 82 t50) 83 t51) 13 t50) 14 t51) 85 t52) 86 t53) 84 t53) 87 t55) 88 t56) 15 t55) 16 t56) 90 t57) 91 t58) 89 t58) 92 t60) 93 t61) 17 t60) 18 t61) 95 t62) 96 t6) 97 t63) 94 t63) 98 t65) 99 t66) 19 t65) 20 t66) 101 t67) 102 t6) 103 t68) 100 t68) 104 t70) 105 t71) 21 t70) 22 t71) 106 t43) 107 t72) 108 t72) 109 t73) 110 t75) 111 t77) 112 t79) 113 t81) 114 t81) 115 t82) 116 t84) 117 t86) 118 t86) 119 t87) 120 t89) 121 t91) 122 t91) 123 t92) 124 t94) 125 t96) 126 t96) 127 t97) 128 t99) 129 t101) 130 t101) 131 t102) 132 t104) 133 t106) 134 t108) 135 t108) 136 t109) 137 t111) 138 t113) 139 t115) 140 t115) 141 t116) 142 t118) 143 t120) 144 t122) 145 t124) 146 t126) 147 t128) 148 t130) 149 t131) 150 t132) 151 t133) 152 (.int .i64 0)) w129)) w127) w125) w123) w121) w119) w117) w114) w112) w110) w107) w105) w103) w100) w98) w95) w93) w90) w88) w85) w83) w80) w78) w76) w74) w69) w64) w59) w54) w49) w46) w45) w41) w34)
    (K36 (F.upd (F.upd (F.upd (F.upd (F.upd (F.upd (F.upd (F.upd (F.upd (F.upd (F.upd (F.upd (F.upd (F.upd (F.upd (F.upd (F.upd (F.upd (F.upd (F.upd (F.upd (F.upd (F.upd (F.upd (F.upd (F.upd (F.upd (F.upd (F.upd (F.upd (F.upd (F.upd (F.upd (F.upd (F.upd (initF [v0, v1]) 4 (.bool false)) 46 v0) 47 v1) 48 t1) 50 v0) 51 t3) 49 t3) 52 t5) 53 t6) 5 t7) 6 t6) 55 t10) 56 t11) 54 t11) 57 t13) 58 t14) 7 t15) 8 t14) 60 t18) 61 t19) 59 t19) 62 t21) 63 t22) 9 t23) 10 t22) 64 t14) 65 t22) 66 t26) 67 t26) 68 t27) 69 t29) 70 t31) 71 t33) 72 t35) 73 t14) w34)) (fun f37 w38 =>
   CallK Try.prog 67 [(f37 1)] (fun t162 w163 =>
   Do Try.prog (sAlloc 26) (fun t164 w165 =>
   Do Try.prog (sStore 26 t164 t162) (fun _ w166 =>
   Rd Try.prog (WS.at w166) (sLoad 26 t164) fun t167 =>
   CallK Try.prog 65 [t167] (fun t168 w169 =>
   Rd Try.prog (WS.at w169) (sExtract t168 0) fun t170 =>
   Rd Try.prog (WS.at w169) (sExtract t168 1) fun t171 =>
   Rd Try.prog (WS.at w169) (sLoad 26 t164) fun t172 =>
   CallK Try.prog 68 [t172] (fun t173 w174 =>
   Rd Try.prog (WS.at w174) (sExtract t173 0) fun t175 =>
   Rd Try.prog (WS.at w174) (sExtract t173 1) fun t176 =>
   Rd Try.prog (WS.at w174) (sLoad 26 t164) fun t177 =>
   CallK Try.prog 61 [t177] (fun t178 w179 =>
   Rd Try.prog (WS.at w179) (sExtract t178 0) fun t180 =>
   Rd Try.prog (WS.at w179) (sExtract t178 1) fun t181 =>
   Rd Try.prog (WS.at w179) (sLoad 26 t164) fun t182 =>
   CallK Try.prog 69 [t182] (fun t183 w184 =>
   Rd Try.prog (WS.at w184) (sExtract t183 0) fun t185 =>
   Rd Try.prog (WS.at w184) (sExtract t183 1) fun t186 =>
   Rd Try.prog (WS.at w184) (sLoad 26 t164) fun t187 =>
   CallK Try.prog 60 [t187] (fun t188 w189 =>
   Rd Try.prog (WS.at w189) (sExtract t188 0) fun t190 =>
   Rd Try.prog (WS.at w189) (sExtract t188 1) fun t191 =>
   Rd Try.prog (WS.at w189) (sLoad 26 t164) fun t192 =>
   CallK Try.prog 70 [t192] (fun t193 w194 =>
   Rd Try.prog (WS.at w194) (sExtract t193 0) fun t195 =>
   Rd Try.prog (WS.at w194) (sExtract t193 1) fun t196 =>
   Rd Try.prog (WS.at w194) (sLoad 26 t164) fun t197 =>
   CallK Try.prog 66 [t197] (fun t198 w199 =>
   Rd Try.prog (WS.at w199) (sExtract t198 0) fun t200 =>
   Rd Try.prog (WS.at w199) (sExtract t198 1) fun t201 =>
   Rd Try.prog (WS.at w199) (sLoad 26 t164) fun t202 =>
   CallK Try.prog 71 [t202] (fun t203 w204 =>
   Rd Try.prog (WS.at w204) (sExtract t203 0) fun t205 =>
   Rd Try.prog (WS.at w204) (sExtract t203 1) fun t206 =>
   Rd Try.prog (WS.at w204) (sLoad 26 t164) fun t207 =>
   CallK Try.prog 72 [t207] (fun t208 w209 =>
   Rd Try.prog (WS.at w209) (sExtract t208 0) fun t210 =>
   Rd Try.prog (WS.at w209) (sExtract t208 1) fun t211 =>
   Rd Try.prog (WS.at w209) (sLoad 26 t164) fun t212 =>
   CallK Try.prog 73 [t212] (fun t213 w214 =>
   Rd Try.prog (WS.at w214) (sExtract t213 0) fun t215 =>
   Rd Try.prog (WS.at w214) (sExtract t213 1) fun t216 =>
   Rd Try.prog (WS.at w214) (sBin .eql 4 false t171 t176) fun t217 =>
   GuardK t217 true (fun k w' => k t170 w') (fun t218 w219 =>
   GuardK t217 true (fun k w' => k t175 w') (fun t220 w221 =>
   GuardK t217 true (fun k w' => Rd Try.prog (WS.at w221) (sBin .eql 4 false t218 t220) fun v => k v w') (fun t222 w223 =>
   Rd Try.prog (WS.at w223) (sPick t217 t222 (.bool false)) fun t224 =>
   GuardK t224 true (fun k w' => k t181 w') (fun t225 w226 =>
   GuardK t224 true (fun k w' => k t186 w') (fun t227 w228 =>
   GuardK t224 true (fun k w' => Rd Try.prog (WS.at w228) (sBin .eql 4 false t225 t227) fun v => k v w') (fun t229 w230 =>
   Rd Try.prog (WS.at w230) (sPick t224 t229 (.bool false)) fun t231 =>
   GuardK t231 true (fun k w' => k t180 w') (fun t232 w233 =>
   GuardK t231 true (fun k w' => k t185 w') (fun t234 w235 =>
   GuardK t231 true (fun k w' => CallK Try.prog 34 [t232, t234] k w') (fun t236 w237 =>
   Rd Try.prog (WS.at w237) (sPick t231 t236 (.bool false)) fun t238 =>
   GuardK t238 true (fun k w' => k t191 w') (fun t239 w240 =>
   GuardK t238 true (fun k w' => k t196 w') (fun t241 w242 =>
   GuardK t238 true (fun k w' => Rd Try.prog (WS.at w242) (sBin .eql 4 false t239 t241) fun v => k v w') (fun t243 w244 =>
   Rd Try.prog (WS.at w244) (sPick t238 t243 (.bool false)) fun t245 =>
   GuardK t245 true (fun k w' => k t190 w') (fun t246 w247 =>
   GuardK t245 true (fun k w' => k t195 w') (fun t248 w249 =>
   GuardK t245 true (fun k w' => CallK Try.prog 34 [t246, t248] k w') (fun t250 w251 =>
   Rd Try.prog (WS.at w251) (sPick t245 t250 (.bool false)) fun t252 =>
   GuardK t252 true (fun k w' => k t201 w') (fun t253 w254 =>
   GuardK t252 true (fun k w' => k t206 w') (fun t255 w256 =>
   GuardK t252 true (fun k w' => Rd Try.prog (WS.at w256) (sBin .eql 4 false t253 t255) fun v => k v w') (fun t257 w258 =>
   Rd Try.prog (WS.at w258) (sPick t252 t257 (.bool false)) fun t259 =>
   GuardK t259 true (fun k w' => k t200 w') (fun t260 w261 =>
   GuardK t259 true (fun k w' => k t205 w') (fun t262 w263 =>
   GuardK t259 true (fun k w' => CallK Try.prog 34 [t260, t262] k w') (fun t264 w265 =>
   Rd Try.prog (WS.at w265) (sPick t259 t264 (.bool false)) fun t266 =>
   GuardK t266 true (fun k w' => k t211 w') (fun t267 w268 =>
   GuardK t266 true (fun k w' => k t216 w') (fun t269 w270 =>
   GuardK t266 true (fun k w' => Rd Try.prog (WS.at w270) (sBin .eql 4 false t267 t269) fun v => k v w') (fun t271 w272 =>
   Rd Try.prog (WS.at w272) (sPick t266 t271 (.bool false)) fun t273 =>
   GuardK t273 true (fun k w' => k t210 w') (fun t274 w275 =>
   GuardK t273 true (fun k w' => k t215 w') (fun t276 w277 =>
   GuardK t273 true (fun k w' => CallK Try.prog 34 [t274, t276] k w') (fun t278 w279 =>
   Rd Try.prog (WS.at w279) (sPick t273 t278 (.bool false)) fun t280 =>
   k t280 w279) w277) w275) w272) w270) w268) w265) w263) w261) w258) w256) w254) w251) w249) w247) w244) w242) w240) w237) w235) w233) w230) w228) w226) w223) w221) w219) w214) w209) w204) w199) w194) w189) w184) w179) w174) w169) w166) w165) w163) w38))) w32) w30) w28) w25) w24) w20) w17) w16) w12) w9) w8) w4) w2)) w
theorem body8 : Try.f8.body = some (bodyOf Try.f8) := by kernel_rfl
theorem same8 (v0 v1 : Value) (k : Value → World → Prop) (w : World) : wpF Try.prog pl8 (bodyOf Try.f8) (bodyQ Try.prog Try.f8.results.toList k) (initF [v0, v1]) w = S8 v0 v1 k w := by kernel_rfl
theorem enter8 {v0 v1 : Value} {k : Value → World → Prop} {w : World} (h : S8 v0 v1 k w) : CallK Try.prog 8 [v0, v1] k w :=
  call_of_wpF (pl := pl8) mixed Try.func8 body8 (by kernel_rfl) (of_decide_eq_true (by kernel_rfl)) (by kernel_rfl) (by kernel_rfl) (same8 v0 v1 k w ▸ h)

/-! loop.example/g00758/laws.FnUnlike -/
/-! loop.example/g00758/laws.has -/
def pl35 : Plans := fun _ => ⟨false, [], .nil⟩
def S35 (v0 v1 : Value) (k : Value → World → Prop) (w : World) : Prop :=
 Rd Try.prog (WS.at w) (sBuiltin .len #[27] 3 [false] [v0]) fun t1 =>
 LoopF [10, 11, 12, 6, 13, 14, 15, 4, 16, 9] (fun Q2 f3 w4 =>
  Rd Try.prog (WS.at w4) (sBin .lss 3 false (f3 9) (f3 8)) fun t5 =>
  CondK t5
   (Rd Try.prog (WS.at w4) (sIndexAddr 27 (f3 7) (f3 9)) fun t6 =>
   Rd Try.prog (WS.at w4) (sLoad 3 t6) fun t7 =>
   Rd Try.prog (WS.at w4) (sBin .eql 3 false t7 (f3 1)) fun t8 =>
   CondK t8
    (Q2 .ret (F.upd (F.upd (F.upd (F.upd (F.upd (F.upd (F.upd (F.upd f3 10 t5) 11 t6) 12 t7) 6 t7) 13 t7) 14 (f3 1)) 15 t8) 4 (.bool true)) w4)
    (Rd Try.prog (WS.at w4) (sBin .add 3 true (f3 9) (.int .i64 1)) fun t9 =>
    Q2 .normal (F.upd (F.upd (F.upd (F.upd (F.upd (F.upd (F.upd (F.upd (F.upd f3 10 t5) 11 t6) 12 t7) 6 t7) 13 t7) 14 (f3 1)) 15 t8) 16 t9) 9 t9) w4))
   (Q2 (.exit 0) (F.upd f3 10 t5) w4))
  (blockQ 0 (seqQ (fun f10 w11 =>
 k (.bool false) w11) (bodyQ Try.prog [.tmp 4] k)))
  (F.upd (F.upd (F.upd (F.upd (initF [v0, v1]) 4 (.bool false)) 7 v0) 8 t1) 9 (.int .i64 0)) w
theorem body35 : Try.f35.body = some (bodyOf Try.f35) := by kernel_rfl
theorem same35 (v0 v1 : Value) (k : Value → World → Prop) (w : World) : wpF Try.prog pl35 (bodyOf Try.f35) (bodyQ Try.prog Try.f35.results.toList k) (initF [v0, v1]) w = S35 v0 v1 k w := by kernel_rfl
theorem enter35 {v0 v1 : Value} {k : Value → World → Prop} {w : World} (h : S35 v0 v1 k w) : CallK Try.prog 35 [v0, v1] k w :=
  call_of_wpF (pl := pl35) mixed Try.func35 body35 (by kernel_rfl) (of_decide_eq_true (by kernel_rfl)) (by kernel_rfl) (by kernel_rfl) (same35 v0 v1 k w ▸ h)

/-! loop.example/g00758/laws.sameGrammar -/
def pl41 : Plans := fun _ => ⟨false, [], .nil⟩
def S41 (v0 v1 : Value) (k : Value → World → Prop) (w : World) : Prop :=
 Do Try.prog (sBox 26 v0) (fun t1 w2 =>
 Do Try.prog (sBox 26 v1) (fun t3 w4 =>
 Rd Try.prog (WS.at w4) (sFieldAddr 26 t1 0) fun t5 =>
 Rd Try.prog (WS.at w4) (sLoad 3 t5) fun t6 =>
 Rd Try.prog (WS.at w4) (sFieldAddr 26 t3 0) fun t7 =>
 Rd Try.prog (WS.at w4) (sLoad 3 t7) fun t8 =>
 Rd Try.prog (WS.at w4) (sBin .eql 3 false t6 t8) fun t9 =>
 GuardK t9 true (fun k w' => Rd Try.prog (WS.at w4) (sFieldAddr 26 t1 1) fun v => k v w') (fun t10 w11 =>
 GuardK t9 true (fun k w' => Rd Try.prog (WS.at w11) (sLoad 3 t10) fun v => k v w') (fun t12 w13 =>
 GuardK t9 true (fun k w' => Rd Try.prog (WS.at w13) (sFieldAddr 26 t3 1) fun v => k v w') (fun t14 w15 =>
 GuardK t9 true (fun k w' => Rd Try.prog (WS.at w15) (sLoad 3 t14) fun v => k v w') (fun t16 w17 =>
 GuardK t9 true (fun k w' => Rd Try.prog (WS.at w17) (sBin .eql 3 false t12 t16) fun v => k v w') (fun t18 w19 =>
 Rd Try.prog (WS.at w19) (sPick t9 t18 (.bool false)) fun t20 =>
 GuardK t20 true (fun k w' => Rd Try.prog (WS.at w19) (sFieldAddr 26 t1 2) fun v => k v w') (fun t21 w22 =>
 GuardK t20 true (fun k w' => Rd Try.prog (WS.at w22) (sLoad 24 t21) fun v => k v w') (fun t23 w24 =>
 GuardK t20 true (fun k w' => Rd Try.prog (WS.at w24) (sFieldAddr 26 t3 2) fun v => k v w') (fun t25 w26 =>
 GuardK t20 true (fun k w' => Rd Try.prog (WS.at w26) (sLoad 24 t25) fun v => k v w') (fun t27 w28 =>
 GuardK t20 true (fun k w' => CallK Try.prog 172 [t23, t27] k w') (fun t29 w30 =>
 Rd Try.prog (WS.at w30) (sPick t20 t29 (.bool false)) fun t31 =>
 k t31 w30) w28) w26) w24) w22) w19) w17) w15) w13) w11) w4) w2) w
theorem body41 : Try.f41.body = some (bodyOf Try.f41) := by kernel_rfl
theorem same41 (v0 v1 : Value) (k : Value → World → Prop) (w : World) : wpF Try.prog pl41 (bodyOf Try.f41) (bodyQ Try.prog Try.f41.results.toList k) (initF [v0, v1]) w = S41 v0 v1 k w := by kernel_rfl
theorem enter41 {v0 v1 : Value} {k : Value → World → Prop} {w : World} (h : S41 v0 v1 k w) : CallK Try.prog 41 [v0, v1] k w :=
  call_of_wpF (pl := pl41) mixed Try.func41 body41 (by kernel_rfl) (of_decide_eq_true (by kernel_rfl)) (by kernel_rfl) (by kernel_rfl) (same41 v0 v1 k w ▸ h)

/-! loop.example/g00758/laws.sameRules -/
def pl172 : Plans := fun i => match i with
  | 6 => ⟨false, [22], .step 0 .any (.step 1 .any (.step 2 .any (.step 3 .any (.step 4 .held (.step 5 .any (.step 6 .any (.step 7 .any (.step 8 .any (.step 9 .held (.step 10 .any (.step 11 .any (.step 12 .any (.step 13 .any (.step 14 .any (.step 15 .any (.step 16 .held (.step 17 .any (.step 18 .any (.step 19 .any (.step 20 .any (.step 21 .held (.step 22 .last (.step 23 .any (.step 24 .any (.nil)))))))))))))))))))))))))⟩
  | _ => ⟨false, [], .nil⟩
def S172 (v0 v1 : Value) (k : Value → World → Prop) (w : World) : Prop :=
 Rd Try.prog (WS.at w) (sBuiltin .len #[24] 3 [false] [v0]) fun t1 =>
 Rd Try.prog (WS.at w) (sBuiltin .len #[24] 3 [false] [v1]) fun t2 =>
 Rd Try.prog (WS.at w) (sBin .neq 3 false t1 t2) fun t3 =>
 CondK t3
  (k (.bool false) w)
  (Rd Try.prog (WS.at w) (sBuiltin .len #[24] 3 [false] [v0]) fun t4 =>
  LoopF [14, 15, 5, 16, 17, 18, 19, 20, 21, 22, 23, 24, 25, 26, 27, 28, 29, 30, 31, 32, 33, 34, 35, 36, 37, 38, 39, 40, 4, 41, 13] (fun Q5 f6 w7 =>
   Rd Try.prog (WS.at w7) (sBin .lss 3 false (f6 13) (f6 12)) fun t8 =>
   CondK t8
    (Rd Try.prog WS.any (sIndexAddr 24 (f6 0) (f6 13)) fun t9 =>
    Rd Try.prog WS.any (sFieldAddr 33 t9 0) fun t10 =>
    Rd Try.prog (WS.at w7.drew) (sLoad 3 t10) fun t11 =>
    Rd Try.prog WS.any (sIndexAddr 24 (f6 1) (f6 13)) fun t12 =>
    Rd Try.prog WS.any (sFieldAddr 33 t12 0) fun t13 =>
    Rd Try.prog (WS.at w7.drew) (sLoad 3 t13) fun t14 =>
    Rd Try.prog WS.any (sBin .neq 3 false t11 t14) fun t15 =>
    GuardK t15 false (fun k w' => k (f6 0) w') (fun t16 w17 =>
    GuardK t15 false (fun k w' => k (f6 13) w') (fun t18 w19 =>
    GuardK t15 false (fun k w' => Rd Try.prog WS.any (sIndexAddr 24 t16 t18) fun v => k v w') (fun t20 w21 =>
    GuardK t15 false (fun k w' => Rd Try.prog WS.any (sFieldAddr 33 t20 1) fun v => k v w') (fun t22 w23 =>
    GuardK t15 false (fun k w' => Rd Try.prog (WS.at w7.drew) (sLoad 27 t22) fun v => k v w') (fun t24 w25 =>
    GuardK t15 false (fun k w' => k (f6 1) w') (fun t26 w27 =>
    GuardK t15 false (fun k w' => k (f6 13) w') (fun t28 w29 =>
    GuardK t15 false (fun k w' => Rd Try.prog WS.any (sIndexAddr 24 t26 t28) fun v => k v w') (fun t30 w31 =>
    GuardK t15 false (fun k w' => Rd Try.prog WS.any (sFieldAddr 33 t30 1) fun v => k v w') (fun t32 w33 =>
    GuardK t15 false (fun k w' => Rd Try.prog (WS.at w7.drew) (sLoad 27 t32) fun v => k v w') (fun t34 w35 =>
    GuardK t15 false (fun k w' => CallK Try.prog 34 [t24, t34] k w') (fun t36 w37 =>
    GuardK t15 false (fun k w' => Rd Try.prog WS.any (sUn .not t36) fun v => k v w') (fun t38 w39 =>
    Rd Try.prog WS.any (sPick t15 (.bool true) t38) fun t40 =>
    CondK t40
     (Q5 .ret (F.upd (F.upd (F.upd (F.upd (F.upd (F.upd (F.upd (F.upd (F.upd (F.upd (F.upd (F.upd (F.upd (F.upd (F.upd (F.upd (F.upd (F.upd (F.upd (F.upd (F.upd (F.upd (F.upd (F.upd (F.upd (F.upd (F.upd (F.upd (F.upd f6 14 t8) 15 (f6 13)) 5 (f6 13)) 16 (f6 0)) 17 (f6 13)) 18 t9) 19 t10) 20 t11) 21 (f6 1)) 22 (f6 13)) 23 t12) 24 t13) 25 t14) 26 t15) 27 t15) 28 t16) 29 t18) 30 t20) 31 t22) 32 t24) 33 t26) 34 t28) 35 t30) 36 t32) 37 t34) 38 t36) 39 t38) 40 t40) 4 (.bool false)) w39)
     (Rd Try.prog (WS.at w39) (sBin .add 3 true (f6 13) (.int .i64 1)) fun t41 =>
     Q5 .normal (F.upd (F.upd (F.upd (F.upd (F.upd (F.upd (F.upd (F.upd (F.upd (F.upd (F.upd (F.upd (F.upd (F.upd (F.upd (F.upd (F.upd (F.upd (F.upd (F.upd (F.upd (F.upd (F.upd (F.upd (F.upd (F.upd (F.upd (F.upd (F.upd (F.upd f6 14 t8) 15 (f6 13)) 5 (f6 13)) 16 (f6 0)) 17 (f6 13)) 18 t9) 19 t10) 20 t11) 21 (f6 1)) 22 (f6 13)) 23 t12) 24 t13) 25 t14) 26 t15) 27 t15) 28 t16) 29 t18) 30 t20) 31 t22) 32 t24) 33 t26) 34 t28) 35 t30) 36 t32) 37 t34) 38 t36) 39 t38) 40 t40) 41 t41) 13 t41) w39)) w37) w35) w33) w31) w29) w27) w25) w23) w21) w19) w17) w7.drew)
    (Q5 (.exit 0) (F.upd f6 14 t8) w7))
   (blockQ 0 (seqQ (fun f42 w43 =>
  k (.bool true) w43) (bodyQ Try.prog [.tmp 4] k)))
   (F.upd (F.upd (F.upd (F.upd (F.upd (F.upd (F.upd (F.upd (F.upd (initF [v0, v1]) 4 (.bool false)) 6 v0) 7 t1) 8 v1) 9 t2) 10 t3) 11 v0) 12 t4) 13 (.int .i64 0)) w)
theorem body172 : Try.f172.body = some (bodyOf Try.f172) := by kernel_rfl
theorem same172 (v0 v1 : Value) (k : Value → World → Prop) (w : World) : wpF Try.prog pl172 (bodyOf Try.f172) (bodyQ Try.prog Try.f172.results.toList k) (initF [v0, v1]) w = S172 v0 v1 k w := by kernel_rfl
theorem enter172 {v0 v1 : Value} {k : Value → World → Prop} {w : World} (h : S172 v0 v1 k w) : CallK Try.prog 172 [v0, v1] k w :=
  call_of_wpF (pl := pl172) mixed Try.func172 body172 (by kernel_rfl) (of_decide_eq_true (by kernel_rfl)) (by kernel_rfl) (by kernel_rfl) (same172 v0 v1 k w ▸ h)

/-! loop.example/g00758/spec.DrawSameUpTo -/
/-! loop.example/g00758/spec.DrawCountByLong -/
/-! loop.example/g00758/spec.DrawUnionOf -/
/-! loop.example/g00758/laws.FnBeside -/
def S5 (v0 v1 : Value) (k : Value → World → Prop) (w : World) : Prop :=
 CallK Try.prog 15 [v0, v1] (fun t1 w2 =>
 CondK t1
  (k (.bool true) w2)
  (CallK Try.prog 36 [v0] (fun t3 w4 =>
  Rd Try.prog (WS.at w4) (sExtract t3 0) fun t5 =>
  Rd Try.prog (WS.at w4) (sExtract t3 1) fun t6 =>
  Do Try.prog (sAlloc 26) (fun t7 w8 =>
  Do Try.prog (sAlloc 26) (fun t9 w10 =>
  Do Try.prog (sStore 26 t7 t5) (fun _ w11 =>
  Do Try.prog (sStore 26 t9 t6) (fun _ w12 =>
  Rd Try.prog (WS.at w12) (sLoad 26 t7) fun t13 =>
  Rd Try.prog (WS.at w12) (sLoad 26 t9) fun t14 =>
  CallK Try.prog 37 [t13, t14] (fun t15 w16 =>
  Rd Try.prog (WS.at w16) (sExtract t15 0) fun t17 =>
  Rd Try.prog (WS.at w16) (sExtract t15 1) fun t18 =>
  Do Try.prog (sAlloc 26) (fun t19 w20 =>
  Do Try.prog (sStore 26 t19 t17) (fun _ w21 =>
  Rd Try.prog (WS.at w21) (sLoad 26 t7) fun t22 =>
  Rd Try.prog (WS.at w21) (sLoad 26 t9) fun t23 =>
  CallK Try.prog 38 [t22, t23] (fun t24 w25 =>
  Rd Try.prog (WS.at w25) (sExtract t24 0) fun t26 =>
  Rd Try.prog (WS.at w25) (sExtract t24 1) fun t27 =>
  Do Try.prog (sAlloc 26) (fun t28 w29 =>
  Do Try.prog (sStore 26 t28 t26) (fun _ w30 =>
  Rd Try.prog (WS.at w30) (sLoad 26 t7) fun t31 =>
  Rd Try.prog (WS.at w30) (sLoad 26 t9) fun t32 =>
  CallK Try.prog 39 [t31, t32] (fun t33 w34 =>
  Rd Try.prog (WS.at w34) (sExtract t33 0) fun t35 =>
  Rd Try.prog (WS.at w34) (sExtract t33 1) fun t36 =>
  Do Try.prog (sAlloc 26) (fun t37 w38 =>
  Do Try.prog (sStore 26 t37 t35) (fun _ w39 =>
  Rd Try.prog (WS.at w39) (sLoad 26 t7) fun t40 =>
  Rd Try.prog (WS.at w39) (sLoad 26 t9) fun t41 =>
  CallK Try.prog 40 [t40, t41] (fun t42 w43 =>
  Rd Try.prog (WS.at w43) (sExtract t42 0) fun t44 =>
  Rd Try.prog (WS.at w43) (sExtract t42 1) fun t45 =>
  Do Try.prog (sAlloc 26) (fun t46 w47 =>
  Do Try.prog (sStore 26 t46 t44) (fun _ w48 =>
  Rd Try.prog (WS.at w48) (sBin .neq 4 false t18 t27) fun t49 =>
  GuardK t49 false (fun k w' => Rd Try.prog (WS.at w48) (sLoad 26 t19) fun v => k v w') (fun t50 w51 =>
  GuardK t49 false (fun k w' => Rd Try.prog (WS.at w51) (sLoad 26 t28) fun v => k v w') (fun t52 w53 =>
  GuardK t49 false (fun k w' => CallK Try.prog 41 [t50, t52] k w') (fun t54 w55 =>
  GuardK t49 false (fun k w' => Rd Try.prog (WS.at w55) (sUn .not t54) fun v => k v w') (fun t56 w57 =>
  Rd Try.prog (WS.at w57) (sPick t49 (.bool true) t56) fun t58 =>
  GuardK t58 false (fun k w' => k t36 w') (fun t59 w60 =>
  GuardK t58 false (fun k w' => k t45 w') (fun t61 w62 =>
  GuardK t58 false (fun k w' => Rd Try.prog (WS.at w62) (sBin .neq 4 false t59 t61) fun v => k v w') (fun t63 w64 =>
  Rd Try.prog (WS.at w64) (sPick t58 (.bool true) t63) fun t65 =>
  GuardK t65 false (fun k w' => Rd Try.prog (WS.at w64) (sLoad 26 t37) fun v => k v w') (fun t66 w67 =>
  GuardK t65 false (fun k w' => Rd Try.prog (WS.at w67) (sLoad 26 t46) fun v => k v w') (fun t68 w69 =>
  GuardK t65 false (fun k w' => CallK Try.prog 41 [t66, t68] k w') (fun t70 w71 =>
  GuardK t65 false (fun k w' => Rd Try.prog (WS.at w71) (sUn .not t70) fun v => k v w') (fun t72 w73 =>
  Rd Try.prog (WS.at w73) (sPick t65 (.bool true) t72) fun t74 =>
  CondK t74
   (k (.bool false) w73)
   (Join (fun K75 =>
   Rd Try.prog (WS.at w73) (sLoad 26 t7) fun t78 =>
   CallK Try.prog 42 [t78] (fun t79 w80 =>
   GuardK t79 true (fun k w' => Rd Try.prog (WS.at w80) (sLoad 26 t9) fun v => k v w') (fun t81 w82 =>
   GuardK t79 true (fun k w' => CallK Try.prog 42 [t81] k w') (fun t83 w84 =>
   Rd Try.prog (WS.at w84) (sPick t79 t83 (.bool false)) fun t85 =>
   GuardK t85 true (fun k w' => Rd Try.prog (WS.at w84) (sFieldAddr 26 t7 1) fun v => k v w') (fun t86 w87 =>
   GuardK t85 true (fun k w' => Rd Try.prog (WS.at w87) (sLoad 3 t86) fun v => k v w') (fun t88 w89 =>
   GuardK t85 true (fun k w' => Rd Try.prog (WS.at w89) (sFieldAddr 26 t9 1) fun v => k v w') (fun t90 w91 =>
   GuardK t85 true (fun k w' => Rd Try.prog (WS.at w91) (sLoad 3 t90) fun v => k v w') (fun t92 w93 =>
   GuardK t85 true (fun k w' => Rd Try.prog (WS.at w93) (sBin .eql 3 false t88 t92) fun v => k v w') (fun t94 w95 =>
   Rd Try.prog (WS.at w95) (sPick t85 t94 (.bool false)) fun t96 =>
   CondK t96
    (CallK Try.prog 43 [v1] (fun t97 w98 =>
    Rd Try.prog (WS.at w98) (sExtract t97 0) fun t99 =>
    Rd Try.prog (WS.at w98) (sExtract t97 1) fun t100 =>
    Do Try.prog (sAlloc 26) (fun t101 w102 =>
    Do Try.prog (sStore 26 t101 t99) (fun _ w103 =>
    Rd Try.prog (WS.at w103) (sLoad 26 t7) fun t104 =>
    CallK Try.prog 44 [t104, t100] (fun t105 w106 =>
    CondK t105
     (Rd Try.prog (WS.at w106) (sLoad 26 t7) fun t107 =>
     CallK Try.prog 26 [t107, t100] (fun t108 w109 =>
     Rd Try.prog (WS.at w109) (sExtract t108 0) fun t110 =>
     Rd Try.prog (WS.at w109) (sExtract t108 1) fun t111 =>
     Rd Try.prog (WS.at w109) (sLoad 26 t9) fun t112 =>
     CallK Try.prog 26 [t112, t100] (fun t113 w114 =>
     Rd Try.prog (WS.at w114) (sExtract t113 0) fun t115 =>
     Rd Try.prog (WS.at w114) (sExtract t113 1) fun t116 =>
     Rd Try.prog (WS.at w114) (sUn .not t111) fun t117 =>
     GuardK t117 false (fun k w' => k t116 w') (fun t118 w119 =>
     GuardK t117 false (fun k w' => Rd Try.prog (WS.at w119) (sUn .not t118) fun v => k v w') (fun t120 w121 =>
     Rd Try.prog (WS.at w121) (sPick t117 (.bool true) t120) fun t122 =>
     CondK t122
      (k (.bool false) w121)
      (Join (fun K123 =>
      CondK t18
       (Rd Try.prog (WS.at w121) (sLoad 26 t19) fun t126 =>
       CallK Try.prog 26 [t126, t100] (fun t127 w128 =>
       Rd Try.prog (WS.at w128) (sExtract t127 0) fun t129 =>
       Rd Try.prog (WS.at w128) (sExtract t127 1) fun t130 =>
       Rd Try.prog (WS.at w128) (sUn .not t130) fun t131 =>
       GuardK t131 false (fun k w' => k t129 w') (fun t132 w133 =>
       GuardK t131 false (fun k w' => k t110 w') (fun t134 w135 =>
       GuardK t131 false (fun k w' => k t134 w') (fun t136 w137 =>
       GuardK t136 false (fun k w' => k t115 w') (fun t138 w139 =>
       GuardK t131 false (fun k w' => Rd Try.prog (WS.at w139) (sPick t136 (.bool true) t138) fun v => k v w') (fun t140 w141 =>
       GuardK t131 false (fun k w' => Rd Try.prog (WS.at w141) (sBin .neq 4 false t132 t140) fun v => k v w') (fun t142 w143 =>
       Rd Try.prog (WS.at w143) (sPick t131 (.bool true) t142) fun t144 =>
       CondK t144
        (k (.bool false) w143)
        (K123 (F.upd (F.upd (F.upd (F.upd (F.upd (F.upd (F.upd (F.upd (F.upd (F.upd (F.upd (F.upd (F.upd (F.upd (F.upd (F.upd (F.upd (F.upd (F.upd (F.upd (F.upd (F.upd (F.upd (F.upd (F.upd (F.upd (F.upd (F.upd (F.upd (F.upd (F.upd (F.upd (F.upd (F.upd (F.upd (F.upd (F.upd (F.upd (F.upd (F.upd (F.upd (F.upd (F.upd (F.upd (F.upd (F.upd (F.upd (F.upd (F.upd (F.upd (F.upd (F.upd (F.upd (F.upd (F.upd (F.upd (F.upd (F.upd (F.upd (F.upd (F.upd (F.upd (F.upd (F.upd (F.upd (F.upd (F.upd (F.upd (F.upd (F.upd (F.upd (F.upd (F.upd (F.upd (F.upd (F.upd (F.upd (F.upd (F.upd (F.upd (F.upd (F.upd (F.upd (F.upd (F.upd (F.upd (F.upd (F.upd (F.upd (F.upd (F.upd (F.upd (F.upd (F.upd (F.upd (F.upd (F.upd (F.upd (F.upd (F.upd (F.upd (F.upd (F.upd (F.upd (F.upd (F.upd (F.upd (F.upd (F.upd (F.upd (F.upd (F.upd (F.upd (F.upd (F.upd (F.upd (F.upd (F.upd (F.upd (F.upd (F.upd (F.upd (F.upd (F.upd (F.upd (F.upd (F.upd (initF [v0, v1]) 4 (.bool false)) 46 v0) 47 v1) 48 t1) 50 v0) 51 t3) 49 t3) 52 t5) 53 t6) 5 t7) 6 t9) 55 t13) 56 t14) 57 t15) 54 t15) 58 t17) 59 t18) 7 t19) 8 t18) 61 t22) 62 t23) 63 t24) 60 t24) 64 t26) 65 t27) 9 t28) 10 t27) 67 t31) 68 t32) 69 t33) 66 t33) 70 t35) 71 t36) 11 t37) 12 t36) 73 t40) 74 t41) 75 t42) 72 t42) 76 t44) 77 t45) 13 t46) 14 t45) 78 t18) 79 t27) 80 t49) 81 t49) 82 t50) 83 t52) 84 t54) 85 t56) 86 t58) 87 t58) 88 t59) 89 t61) 90 t63) 91 t65) 92 t65) 93 t66) 94 t68) 95 t70) 96 t72) 97 t74) 98 t78) 99 t79) 100 t79) 101 t81) 102 t83) 103 t85) 104 t85) 105 t86) 106 t88) 107 t90) 108 t92) 109 t94) 110 t96) 112 v1) 113 t97) 111 t97) 114 t99) 115 t100) 15 t101) 16 t100) 116 t104) 117 t100) 118 t105) 120 t107) 121 t100) 122 t108) 119 t108) 123 t110) 124 t111) 17 t110) 18 t111) 126 t112) 127 t100) 128 t113) 125 t113) 129 t115) 130 t116) 19 t115) 20 t116) 131 t111) 132 t117) 133 t117) 134 t118) 135 t120) 136 t122) 137 t18) 139 t126) 140 t100) 141 t127) 138 t127) 142 t129) 143 t130) 21 t129) 22 t130) 144 t130) 145 t131) 146 t131) 147 t132) 148 t134) 149 t136) 150 t138) 151 t140) 152 t142) 153 t144) w143)) w141) w139) w137) w135) w133) w128) w121)
       (K123 (F.upd (F.upd (F.upd (F.upd (F.upd (F.upd (F.upd (F.upd (F.upd (F.upd (F.upd (F.upd (F.upd (F.upd (F.upd (F.upd (F.upd (F.upd (F.upd (F.upd (F.upd (F.upd (F.upd (F.upd (F.upd (F.upd (F.upd (F.upd (F.upd (F.upd (F.upd (F.upd (F.upd (F.upd (F.upd (F.upd (F.upd (F.upd (F.upd (F.upd (F.upd (F.upd (F.upd (F.upd (F.upd (F.upd (F.upd (F.upd (F.upd (F.upd (F.upd (F.upd (F.upd (F.upd (F.upd (F.upd (F.upd (F.upd (F.upd (F.upd (F.upd (F.upd (F.upd (F.upd (F.upd (F.upd (F.upd (F.upd (F.upd (F.upd (F.upd (F.upd (F.upd (F.upd (F.upd (F.upd (F.upd (F.upd (F.upd (F.upd (F.upd (F.upd (F.upd (F.upd (F.upd (F.upd (F.upd (F.upd (F.upd (F.upd (F.upd (F.upd (F.upd (F.upd (F.upd (F.upd (F.upd (F.upd (F.upd (F.upd (F.upd (F.upd (F.upd (F.upd (F.upd (F.upd (F.upd (F.upd (F.upd (initF [v0, v1]) 4 (.bool false)) 46 v0) 47 v1) 48 t1) 50 v0) 51 t3) 49 t3) 52 t5) 53 t6) 5 t7) 6 t9) 55 t13) 56 t14) 57 t15) 54 t15) 58 t17) 59 t18) 7 t19) 8 t18) 61 t22) 62 t23) 63 t24) 60 t24) 64 t26) 65 t27) 9 t28) 10 t27) 67 t31) 68 t32) 69 t33) 66 t33) 70 t35) 71 t36) 11 t37) 12 t36) 73 t40) 74 t41) 75 t42) 72 t42) 76 t44) 77 t45) 13 t46) 14 t45) 78 t18) 79 t27) 80 t49) 81 t49) 82 t50) 83 t52) 84 t54) 85 t56) 86 t58) 87 t58) 88 t59) 89 t61) 90 t63) 91 t65) 92 t65) 93 t66) 94 t68) 95 t70) 96 t72) 97 t74) 98 t78) 99 t79) 100 t79) 101 t81) 102 t83) 103 t85) 104 t85) 105 t86) 106 t88) 107 t90) 108 t92) 109 t94) 110 t96) 112 v1) 113 t97) 111 t97) 114 t99) 115 t100) 15 t101) 16 t100) 116 t104) 117 t100) 118 t105) 120 t107) 121 t100) 122 t108) 119 t108) 123 t110) 124 t111) 17 t110) 18 t111) 126 t112) 127 t100) 128 t113) 125 t113) 129 t115) 130 t116) 19 t115) 20 t116) 131 t111) 132 t117) 133 t117) 134 t118) 135 t120) 136 t122) 137 t18) w121)) (fun f124 w125 =>
      CondK (f124 12)
       (LoopF [155, 156, 157, 158, 162, 163, 164, 165, 166, 161, 167, 168, 25, 26, 170, 171, 172, 173, 174, 169, 175, 176, 27, 28, 177, 178, 179, 180, 181, 182, 183, 184, 185, 186, 187, 188, 189, 23, 159, 160, 24] (fun Q145 f146 w147 =>
        Rd Try.prog (WS.at w147) (sBuiltin .len #[27] 3 [false] [(f146 16)]) fun t148 =>
        Rd Try.prog (WS.at w147) (sBin .leq 3 false (f146 24) t148) fun t149 =>
        CondK t149
         (Rd Try.prog (WS.at w147.drew) (sLoad 26 (f146 5)) fun t150 =>
         Rd Try.prog WS.any (sSlice 27 (f146 16) none (some (f146 24)) none) fun t151 =>
         CallK Try.prog 26 [t150, t151] (fun t152 w153 =>
         Rd Try.prog WS.any (sExtract t152 0) fun t154 =>
         Rd Try.prog WS.any (sExtract t152 1) fun t155 =>
         Rd Try.prog (WS.at w153.drew) (sLoad 26 (f146 6)) fun t156 =>
         Rd Try.prog WS.any (sSlice 27 (f146 16) (some (f146 24)) none none) fun t157 =>
         CallK Try.prog 26 [t156, t157] (fun t158 w159 =>
         Rd Try.prog WS.any (sExtract t158 0) fun t160 =>
         Rd Try.prog WS.any (sExtract t158 1) fun t161 =>
         GuardK (f146 23) false (fun k w' => k t155 w') (fun t162 w163 =>
         GuardK (f146 23) false (fun k w' => k t162 w') (fun t164 w165 =>
         GuardK t164 true (fun k w' => k t161 w') (fun t166 w167 =>
         GuardK (f146 23) false (fun k w' => Rd Try.prog (WS.at w167) (sPick t164 t166 (.bool false)) fun v => k v w') (fun t168 w169 =>
         GuardK (f146 23) false (fun k w' => k t168 w') (fun t170 w171 =>
         GuardK t170 true (fun k w' => k t154 w') (fun t172 w173 =>
         GuardK (f146 23) false (fun k w' => Rd Try.prog (WS.at w173) (sPick t170 t172 (.bool false)) fun v => k v w') (fun t174 w175 =>
         GuardK (f146 23) false (fun k w' => k t174 w') (fun t176 w177 =>
         GuardK t176 true (fun k w' => k t160 w') (fun t178 w179 =>
         GuardK (f146 23) false (fun k w' => Rd Try.prog (WS.at w179) (sPick t176 t178 (.bool false)) fun v => k v w') (fun t180 w181 =>
         Rd Try.prog (WS.at w181) (sPick (f146 23) (.bool true) t180) fun t182 =>
         Rd Try.prog (WS.at w181) (sBin .add 3 true (f146 24) (.int .i64 1)) fun t183 =>
         Q145 .normal (F.upd (F.upd (F.upd (F.upd (F.upd (F.upd (F.upd (F.upd (F.upd (F.upd (F.upd (F.upd (F.upd (F.upd (F.upd (F.upd (F.upd (F.upd (F.upd (F.upd (F.upd (F.upd (F.upd (F.upd (F.upd (F.upd (F.upd (F.upd (F.upd (F.upd (F.upd (F.upd (F.upd (F.upd (F.upd (F.upd (F.upd (F.upd (F.upd (F.upd (F.upd f146 155 (f146 24)) 156 (f146 16)) 157 t148) 158 t149) 162 t150) 163 (f146 16)) 164 (f146 24)) 165 t151) 166 t152) 161 t152) 167 t154) 168 t155) 25 t154) 26 t155) 170 t156) 171 (f146 16)) 172 (f146 24)) 173 t157) 174 t158) 169 t158) 175 t160) 176 t161) 27 t160) 28 t161) 177 (f146 23)) 178 (f146 23)) 179 t162) 180 t164) 181 t166) 182 t168) 183 t170) 184 t172) 185 t174) 186 t176) 187 t178) 188 t180) 189 t182) 23 t182) 159 (f146 24)) 160 t183) 24 t183) w181) w179) w177) w175) w173) w171) w169) w167) w165) w163) w159) w153.drew) w147.drew)
         (Q145 (.exit 0) (F.upd (F.upd (F.upd (F.upd f146 155 (f146 24)) 156 (f146 16)) 157 t148) 158 t149) w147))
        (blockQ 0 (seqQ (fun f184 w185 =>
       Rd Try.prog (WS.at w185) (sLoad 26 (f184 11)) fun t186 =>
       CallK Try.prog 26 [t186, (f184 16)] (fun t187 w188 =>
       Rd Try.prog (WS.at w188) (sExtract t187 0) fun t189 =>
       Rd Try.prog (WS.at w188) (sExtract t187 1) fun t190 =>
       Rd Try.prog (WS.at w188) (sUn .not t190) fun t191 =>
       GuardK t191 false (fun k w' => k t189 w') (fun t192 w193 =>
       GuardK t191 false (fun k w' => k (f184 23) w') (fun t194 w195 =>
       GuardK t191 false (fun k w' => Rd Try.prog (WS.at w195) (sBin .neq 4 false t192 t194) fun v => k v w') (fun t196 w197 =>
       Rd Try.prog (WS.at w197) (sPick t191 (.bool true) t196) fun t198 =>
       CondK t198
        (k (.bool false) w197)
        (K75 (F.upd (F.upd (F.upd (F.upd (F.upd (F.upd (F.upd (F.upd (F.upd (F.upd (F.upd (F.upd (F.upd (F.upd (F.upd f184 191 t186) 192 (f184 16)) 193 t187) 190 t187) 194 t189) 195 t190) 29 t189) 30 t190) 196 t190) 197 t191) 198 t191) 199 t192) 200 t194) 201 t196) 202 t198) w197)) w195) w193) w188) w185) (seqQ K75 (bodyQ Try.prog [.tmp 4] k))))
        (F.upd (F.upd (F.upd f124 154 (f124 12)) 23 (.bool false)) 24 (.int .i64 0)) w125)
       (K75 (F.upd f124 154 (f124 12)) w125)))) w119) w114) w109) w106)
     (K75 (F.upd (F.upd (F.upd (F.upd (F.upd (F.upd (F.upd (F.upd (F.upd (F.upd (F.upd (F.upd (F.upd (F.upd (F.upd (F.upd (F.upd (F.upd (F.upd (F.upd (F.upd (F.upd (F.upd (F.upd (F.upd (F.upd (F.upd (F.upd (F.upd (F.upd (F.upd (F.upd (F.upd (F.upd (F.upd (F.upd (F.upd (F.upd (F.upd (F.upd (F.upd (F.upd (F.upd (F.upd (F.upd (F.upd (F.upd (F.upd (F.upd (F.upd (F.upd (F.upd (F.upd (F.upd (F.upd (F.upd (F.upd (F.upd (F.upd (F.upd (F.upd (F.upd (F.upd (F.upd (F.upd (F.upd (F.upd (F.upd (F.upd (F.upd (F.upd (F.upd (F.upd (F.upd (F.upd (F.upd (F.upd (F.upd (F.upd (F.upd (F.upd (F.upd (F.upd (F.upd (F.upd (F.upd (initF [v0, v1]) 4 (.bool false)) 46 v0) 47 v1) 48 t1) 50 v0) 51 t3) 49 t3) 52 t5) 53 t6) 5 t7) 6 t9) 55 t13) 56 t14) 57 t15) 54 t15) 58 t17) 59 t18) 7 t19) 8 t18) 61 t22) 62 t23) 63 t24) 60 t24) 64 t26) 65 t27) 9 t28) 10 t27) 67 t31) 68 t32) 69 t33) 66 t33) 70 t35) 71 t36) 11 t37) 12 t36) 73 t40) 74 t41) 75 t42) 72 t42) 76 t44) 77 t45) 13 t46) 14 t45) 78 t18) 79 t27) 80 t49) 81 t49) 82 t50) 83 t52) 84 t54) 85 t56) 86 t58) 87 t58) 88 t59) 89 t61) 90 t63) 91 t65) 92 t65) 93 t66) 94 t68) 95 t70) 96 t72) 97 t74) 98 t78) 99 t79) 100 t79) 101 t81) 102 t83) 103 t85) 104 t85) 105 t86) 106 t88) 107 t90) 108 t92) 109 t94) 110 t96) 112 v1) 113 t97) 111 t97) 114 t99) 115 t100) 15 t101) 16 t100) 116 t104) 117 t100) 118 t105) w106)) w103) w102) w98) w95)
    (K75 (F.upd (F.upd (F.upd (F.upd (F.upd (F.upd (F.upd (F.upd (F.upd (F.upd (F.upd (F.upd (F.upd (F.upd (F.upd (F.upd (F.upd (F.upd (F.upd (F.upd (F.upd (F.upd (F.upd (F.upd (F.upd (F.upd (F.upd (F.upd (F.upd (F.upd (F.upd (F.upd (F.upd (F.upd (F.upd (F.upd (F.upd (F.upd (F.upd (F.upd (F.upd (F.upd (F.upd (F.upd (F.upd (F.upd (F.upd (F.upd (F.upd (F.upd (F.upd (F.upd (F.upd (F.upd (F.upd (F.upd (F.upd (F.upd (F.upd (F.upd (F.upd (F.upd (F.upd (F.upd (F.upd (F.upd (F.upd (F.upd (F.upd (F.upd (F.upd (F.upd (F.upd (F.upd (F.upd (F.upd (initF [v0, v1]) 4 (.bool false)) 46 v0) 47 v1) 48 t1) 50 v0) 51 t3) 49 t3) 52 t5) 53 t6) 5 t7) 6 t9) 55 t13) 56 t14) 57 t15) 54 t15) 58 t17) 59 t18) 7 t19) 8 t18) 61 t22) 62 t23) 63 t24) 60 t24) 64 t26) 65 t27) 9 t28) 10 t27) 67 t31) 68 t32) 69 t33) 66 t33) 70 t35) 71 t36) 11 t37) 12 t36) 73 t40) 74 t41) 75 t42) 72 t42) 76 t44) 77 t45) 13 t46) 14 t45) 78 t18) 79 t27) 80 t49) 81 t49) 82 t50) 83 t52) 84 t54) 85 t56) 86 t58) 87 t58) 88 t59) 89 t61) 90 t63) 91 t65) 92 t65) 93 t66) 94 t68) 95 t70) 96 t72) 97 t74) 98 t78) 99 t79) 100 t79) 101 t81) 102 t83) 103 t85) 104 t85) 105 t86) 106 t88) 107 t90) 108 t92) 109 t94) 110 t96) w95)) w93) w91) w89) w87) w84) w82) w80) w73) (fun f76 w77 =>
   CallK Try.prog 45 [(f76 1)] (fun t201 w202 =>
   Do Try.prog (sAlloc 26) (fun t203 w204 =>
   Do Try.prog (sStore 26 t203 t201) (fun _ w205 =>
   Rd Try.prog (WS.at w205) (sLoad 26 t203) fun t206 =>
   CallK Try.prog 46 [t206] (fun t207 w208 =>
   Rd Try.prog (WS.at w208) (sExtract t207 0) fun t209 =>
   Rd Try.prog (WS.at w208) (sExtract t207 1) fun t210 =>
   Do Try.prog (sAlloc 26) (fun t211 w212 =>
   Do Try.prog (sStore 26 t211 t209) (fun _ w213 =>
   Rd Try.prog (WS.at w213) (sLoad 26 t203) fun t214 =>
   CallK Try.prog 47 [t214] (fun t215 w216 =>
   Rd Try.prog (WS.at w216) (sExtract t215 0) fun t217 =>
   Rd Try.prog (WS.at w216) (sExtract t215 1) fun t218 =>
   Do Try.prog (sAlloc 26) (fun t219 w220 =>
   Do Try.prog (sStore 26 t219 t217) (fun _ w221 =>
   Rd Try.prog (WS.at w221) (sBin .neq 4 false t210 t218) fun t222 =>
   GuardK t222 false (fun k w' => Rd Try.prog (WS.at w221) (sLoad 26 t211) fun v => k v w') (fun t223 w224 =>
   GuardK t222 false (fun k w' => Rd Try.prog (WS.at w224) (sLoad 26 t219) fun v => k v w') (fun t225 w226 =>
   GuardK t222 false (fun k w' => CallK Try.prog 41 [t223, t225] k w') (fun t227 w228 =>
   GuardK t222 false (fun k w' => Rd Try.prog (WS.at w228) (sUn .not t227) fun v => k v w') (fun t229 w230 =>
   Rd Try.prog (WS.at w230) (sPick t222 (.bool true) t229) fun t231 =>
   CondK t231
    (k (.bool false) w230)
    (Join (fun K232 =>
    CondK t210
     (Rd Try.prog (WS.at w230) (sLoad 26 t211) fun t235 =>
     CallK Try.prog 26 [t235, (.slice none 0 0)] (fun t236 w237 =>
     Rd Try.prog (WS.at w237) (sExtract t236 0) fun t238 =>
     Rd Try.prog (WS.at w237) (sExtract t236 1) fun t239 =>
     Rd Try.prog (WS.at w237) (sUn .not t239) fun t240 =>
     GuardK t240 false (fun k w' => k t238 w') (fun t241 w242 =>
     GuardK t240 false (fun k w' => Rd Try.prog (WS.at w242) (sUn .not t241) fun v => k v w') (fun t243 w244 =>
     Rd Try.prog (WS.at w244) (sPick t240 (.bool true) t243) fun t245 =>
     CondK t245
      (k (.bool false) w244)
      (Rd Try.prog (WS.at w244) (sLoad 26 t203) fun t246 =>
      CallK Try.prog 23 [t246, (.int .i64 2)] (fun t247 w248 =>
      Rd Try.prog (WS.at w248) (sExtract t247 0) fun t249 =>
      Rd Try.prog (WS.at w248) (sExtract t247 1) fun t250 =>
      Rd Try.prog (WS.at w248) (sBuiltin .len #[35] 3 [false] [t249]) fun t251 =>
      LoopF [244, 245, 246, 41, 247, 248, 249, 250, 251, 252, 43, 254, 255, 256, 257, 258, 259, 260, 253, 261, 262, 44, 45, 263, 264, 265, 266, 267, 268, 269, 270, 271, 272, 4, 273, 249, 274, 243] (fun Q252 f253 w254 =>
       Rd Try.prog (WS.at w254) (sBin .lss 3 false (f253 243) (f253 242)) fun t255 =>
       CondK t255
        (Rd Try.prog (WS.at w254) (sIndexAddr 35 (f253 241) (f253 243)) fun t256 =>
        Rd Try.prog (WS.at w254) (sLoad 27 t256) fun t257 =>
        Rd Try.prog (WS.at w254) (sBuiltin .len #[35] 3 [false] [(f253 38)]) fun t258 =>
        LoopF [250, 251, 252, 43, 254, 255, 256, 257, 258, 259, 260, 253, 261, 262, 44, 45, 263, 264, 265, 266, 267, 268, 269, 270, 271, 272, 4, 273, 249] (fun Q259 f260 w261 =>
         Rd Try.prog (WS.at w261) (sBin .lss 3 false (f260 249) (f260 248)) fun t262 =>
         CondK t262
          (Rd Try.prog (WS.at w261) (sIndexAddr 35 (f260 247) (f260 249)) fun t263 =>
          Rd Try.prog (WS.at w261) (sLoad 27 t263) fun t264 =>
          ∃ S265 : World → Prop, ∃ h266 : S265 w261.drew,
          Rd Try.prog ⟨S265, w261.drew, h266⟩ (sLoad 26 (f260 32)) fun t267 =>
          Do Try.prog (sBuildSlice 27 0 []) (fun t268 w269 =>
          S265 w269 ∧ Do Try.prog (sBuiltin .append #[27, 27] 27 [false, false] [t268, (f260 41)]) (fun t270 w271 =>
          S265 w271 ∧ Do Try.prog (sBuiltin .append #[27, 27] 27 [false, false] [t270, t264]) (fun t272 w273 =>
          S265 w273 ∧ CallK Try.prog 26 [t267, t272] (fun t274 w275 =>
          Rd Try.prog WS.any (sExtract t274 0) fun t276 =>
          Rd Try.prog WS.any (sExtract t274 1) fun t277 =>
          Rd Try.prog (WS.at w275) (sUn .not (f260 39)) fun t278 =>
          GuardK t278 false (fun k w' => k t277 w') (fun t279 w280 =>
          GuardK t278 false (fun k w' => Rd Try.prog (WS.at w280) (sUn .not t279) fun v => k v w') (fun t281 w282 =>
          Rd Try.prog (WS.at w282) (sPick t278 (.bool true) t281) fun t283 =>
          GuardK t283 false (fun k w' => k t276 w') (fun t284 w285 =>
          GuardK t283 false (fun k w' => Rd Try.prog (WS.at w285) (sUn .not t284) fun v => k v w') (fun t286 w287 =>
          Rd Try.prog (WS.at w287) (sPick t283 (.bool true) t286) fun t288 =>
          CondK t288
           (Q259 .ret (F.upd (F.upd (F.upd (F.upd (F.upd (F.upd (F.upd (F.upd (F.upd (F.upd (F.upd (F.upd (F.upd (F.upd (F.upd (F.upd (F.upd (F.upd (F.upd (F.upd (F.upd (F.upd (F.upd (F.upd (F.upd (F.upd (F.upd f260 250 t262) 251 t263) 252 t264) 43 t264) 254 t267) 256 (f260 41)) 258 t264) 255 t268) 257 t270) 259 t272) 260 t274) 253 t274) 261 t276) 262 t277) 44 t276) 45 t277) 263 (f260 39)) 264 t278) 265 t278) 266 t279) 267 t281) 268 t283) 269 t283) 270 t284) 271 t286) 272 t288) 4 (.bool false)) w287)
           (Rd Try.prog (WS.at w287) (sBin .add 3 true (f260 249) (.int .i64 1)) fun t289 =>
           Q259 .normal (F.upd (F.upd (F.upd (F.upd (F.upd (F.upd (F.upd (F.upd (F.upd (F.upd (F.upd (F.upd (F.upd (F.upd (F.upd (F.upd (F.upd (F.upd (F.upd (F.upd (F.upd (F.upd (F.upd (F.upd (F.upd (F.upd (F.upd (F.upd f260 250 t262) 251 t263) 252 t264) 43 t264) 254 t267) 256 (f260 41)) 258 t264) 255 t268) 257 t270) 259 t272) 260 t274) 253 t274) 261 t276) 262 t277) 44 t276) 45 t277) 263 (f260 39)) 264 t278) 265 t278) 266 t279) 267 t281) 268 t283) 269 t283) 270 t284) 271 t286) 272 t288) 273 t289) 249 t289) w287)) w285) w282) w280) w275) w273) w271) w269) w261.drew)
          (Q259 (.exit 4) (F.upd f260 250 t262) w261))
         (blockQ 4 (blockQ 3 (seqQ (fun f290 w291 =>
        Rd Try.prog (WS.at w291) (sBin .add 3 true (f290 243) (.int .i64 1)) fun t292 =>
        Q252 .normal (F.upd (F.upd f290 274 t292) 243 t292) w291) Q252)))
         (F.upd (F.upd (F.upd (F.upd (F.upd (F.upd (F.upd f253 244 t255) 245 t256) 246 t257) 41 t257) 247 (f253 38)) 248 t258) 249 (.int .i64 0)) w254)
        (Q252 (.exit 2) (F.upd f253 244 t255) w254))
       (blockQ 2 (seqQ K232 (bodyQ Try.prog [.tmp 4] k)))
       (F.upd (F.upd (F.upd (F.upd (F.upd (F.upd (F.upd (F.upd (F.upd (F.upd (F.upd (F.upd (F.upd (F.upd (F.upd (F.upd (F.upd (F.upd (F.upd (F.upd (F.upd (F.upd (F.upd (F.upd (F.upd (F.upd (F.upd (F.upd (F.upd (F.upd (F.upd (F.upd (F.upd (F.upd (F.upd (F.upd (F.upd (F.upd (F.upd (F.upd (F.upd (F.upd (F.upd (F.upd (F.upd (F.upd (F.upd (F.upd (F.upd (F.upd f76 203 (f76 1)) 204 t201) 31 t203) 206 t206) 207 t207) 205 t207) 208 t209) 209 t210) 32 t211) 33 t210) 211 t214) 212 t215) 210 t215) 213 t217) 214 t218) 34 t219) 35 t218) 215 t210) 216 t218) 217 t222) 218 t222) 219 t223) 220 t225) 221 t227) 222 t229) 223 t231) 224 t210) 226 t235) 227 t236) 225 t236) 228 t238) 229 t239) 36 t238) 37 t239) 230 t239) 231 t240) 232 t240) 233 t241) 234 t243) 235 t245) 237 t246) 238 t247) 236 t247) 239 t249) 240 t250) 38 t249) 39 t250) 241 t249) 242 t251) 243 (.int .i64 0)) w248) w244)) w242) w237) w230)
     (K232 (F.upd (F.upd (F.upd (F.upd (F.upd (F.upd (F.upd (F.upd (F.upd (F.upd (F.upd (F.upd (F.upd (F.upd (F.upd (F.upd (F.upd (F.upd (F.upd (F.upd (F.upd (F.upd (F.upd (F.upd (F.upd (F.upd (F.upd f76 203 (f76 1)) 204 t201) 31 t203) 206 t206) 207 t207) 205 t207) 208 t209) 209 t210) 32 t211) 33 t210) 211 t214) 212 t215) 210 t215) 213 t217) 214 t218) 34 t219) 35 t218) 215 t210) 216 t218) 217 t222) 218 t222) 219 t223) 220 t225) 221 t227) 222 t229) 223 t231) 224 t210) w230)) (fun f233 w234 =>
    k (.bool true) w234))) w228) w226) w224) w221) w220) w216) w213) w212) w208) w205) w204) w202) w77))) w71) w69) w67) w64) w62) w60) w57) w55) w53) w51) w48) w47) w43) w39) w38) w34) w30) w29) w25) w21) w20) w16) w12) w11) w10) w8) w4) w2)) w
/-! loop.example/g00758/impl.GoodGrammar -/
/-! loop.example/g00758/impl.GoodWord -/
end Go.Proofs.Ytegcjkhebecgbaa

/- What is known and stays so; the laws' own small functions: big, sameInts, sameLists, containsList, sameRules, sameGrammar, has. -/
set_option linter.unusedVariables false
set_option linter.unusedSimpArgs false
set_option maxRecDepth 100000
namespace Go.Sh
open Go
/-- Facts that hold in each world to come. -/
def Kn (w : World) (L : List (World → Prop)) : Prop := ∀ (i : Nat) (P : World → Prop), L[i]? = some P → ∀ w', Gr w w' → P w'
section
variable {w w' : World} {L : List (World → Prop)} {P : World → Prop}
theorem Kn.step (H : Kn w L) (g : Gr w w') : Kn w' L := fun i P hi w'' g' => H i P hi w'' (gr_trans g g')
theorem Kn.drew (H : Kn w L) : Kn w.drew L := H.step (gr_drew w)
theorem Kn.get (H : Kn w L) (i : Nat) (hi : L[i]? = some P) : P w := H i P hi w (Gr.refl w)
theorem Kn.nil (w : World) : Kn w [fun w' => Gr w w'] := fun i P hi w' g => by
  match i, hi with
  | 0, hi => obtain rfl := Option.some.inj hi; exact g
  | i + 1, hi => simp at hi
theorem Kn.add (H : Kn w L) (h : ∀ w', Gr w w' → P w') : Kn w (L ++ [P]) := fun i Q hi w' g => by
  rw [List.getElem?_append] at hi
  split at hi
  · exact H i Q hi w' g
  · rename_i hn
    match hk : i - L.length, hi with
    | 0, hi => simp at hi; subst hi; exact h w' g
    | k + 1, hi => simp at hi
end
abbrev kI (X : Option Addr) (xs : List Int) (c : Nat) : World → Prop := fun w => Ints w X xs ∧ xs.length ≤ c
abbrev kG (Y : Option Addr) (cy : Nat) (rs : List RuleL) : World → Prop := fun w => rs.length ≤ cy ∧ RulesF (fun _ => True) w Y rs
abbrev kB (b : Nat) (cs : List Value) (t : TypeId) : World → Prop := fun w => Box w b cs t
section
variable {w w' : World} {L : List (World → Prop)}
theorem Kn.addI (H : Kn w L) {X : Option Addr} {xs : List Int} {c : Nat} (h : Ints w X xs) (hc : xs.length ≤ c) : Kn w (L ++ [kI X xs c]) := H.add fun w' g => ⟨h.gr g, hc⟩
theorem Kn.addG (H : Kn w L) {Y : Option Addr} {cy : Nat} {rs : List RuleL} (hc : rs.length ≤ cy) (h : RulesF (fun _ => True) w Y rs) : Kn w (L ++ [kG Y cy rs]) := H.add fun w' g => ⟨hc, h.gr g⟩
theorem Kn.addB (H : Kn w L) {b : Nat} {cs : List Value} {t : TypeId} (h : Box w b cs t) : Kn w (L ++ [kB b cs t]) := H.add fun w' g => h.gr g
theorem gvK {Y : Option Addr} {cy : Nat} {gm : Gram} (h : kG Y cy gm.rules w) : GramV (fun _ => True) w (.agg #[.int .i64 gm.nons, .int .i64 gm.toks, .slice Y gm.rules.length cy]) gm := ⟨Y, cy, rfl, h.1, h.2⟩
end
/-- A box filled at once. -/
theorem do_new {P : Program} {k : Value → World → Prop} {w : World} {L : List (World → Prop)} {t sz by' : Nat} {z : Value} {cs : List Value} (H : Kn w L) (I : Inf P t z sz by') (hs : szOf P t sz) (hz : z.cells.size = sz) (hl : cs.length = sz) (h1 : cs.all Value.oneCell' = true) (hv : (Value.agg cs.toArray).cells = cs.toArray)
    (h : ∀ b w', Kn w' (L ++ [kB b cs t]) → k (.pointer (some ⟨b, 0, none⟩)) w') : Do P (sAlloc t) (fun p w1 => Do P (sStore t p (.agg cs.toArray)) (fun _ w2 => k p w2) w1) w := by
  refine do_alloc_of I fun b w1 g1 hb B1 => ?_
  refine do_store (n := sz) hs (by rw [hv]; simpa using hl) (fun u hu => ?_) B1 (by simp [hz]) fun w2 g2 _ B2 => ?_
  · rw [hv] at hu
    exact List.all_eq_true.1 h1 u (by simpa using hu)
  · have g : Gr w w2 := gr_mod g1 g2 fun q hq => by
      obtain rfl := Option.some.inj hq
      exact hb
    refine h b w2 ((H.step g).addB ?_)
    have e : List.take 0 z.cells.toList ++ (Value.agg cs.toArray).cells.toList ++ List.drop (0 + sz) z.cells.toList = cs := by
      rw [hv, List.drop_eq_nil_of_le (by simp [hz])]
      simp
    rw [← e]
    exact B2
end Go.Sh
namespace Go.Proofs.Ytegcjkhebecgbaa
open Go Go.Sh Go.RowKit
theorem big_c {w : World} {X Y : Option Addr} {n m c d : Nat} (hn : n ≤ 9223372036854775807) (hm : m ≤ 9223372036854775807) {k : Value → World → Prop} (hk : ∀ b, k (.bool b) w) :
    CallK Try.prog 15 [.slice X n c, .slice Y m d] k w := by
  refine enter15 ?_
  unfold S15
  simp only [bin_add, bin_sub, bin_mul, bin_eql, bin_neq, bin_lss, bin_leq, bin_gtr, bin_geq, un_not, un_neg, zq4, zq3, zq1, zq2, zq0, cond_true', cond_false', zq14, zq15, zq16, zq17, zq13, zq10, zq12, zq11, zq7, zq5, zq6, zq9, zq8, resK_nil, resK_tmp, ite_T, ite_F, upd_at, add_plain, add_zero', Nat.reduceEqDiff, len22, len24, len27, len35, fa26_0, fa26_1, fa26_2, fa33_0, fa33_1, fa114_0, fa114_1, fa114_2]
  by_cases h : (1048576 : Int) < n
  · simp only [h, decide_true, bin_add, bin_sub, bin_mul, bin_eql, bin_neq, bin_lss, bin_leq, bin_gtr, bin_geq, un_not, un_neg, zq4, zq3, zq1, zq2, zq0, cond_true', cond_false', zq14, zq15, zq16, zq17, zq13, zq10, zq12, zq11, zq7, zq5, zq6, zq9, zq8, resK_nil, resK_tmp, ite_T, ite_F, upd_at, add_plain, add_zero', Nat.reduceEqDiff, len22, len24, len27, len35, fa26_0, fa26_1, fa26_2, fa33_0, fa33_1, fa114_0, fa114_1, fa114_2]
    exact hk _
  · simp only [h, decide_false, bin_add, bin_sub, bin_mul, bin_eql, bin_neq, bin_lss, bin_leq, bin_gtr, bin_geq, un_not, un_neg, zq4, zq3, zq1, zq2, zq0, cond_true', cond_false', zq14, zq15, zq16, zq17, zq13, zq10, zq12, zq11, zq7, zq5, zq6, zq9, zq8, resK_nil, resK_tmp, ite_T, ite_F, upd_at, add_plain, add_zero', Nat.reduceEqDiff, len22, len24, len27, len35, fa26_0, fa26_1, fa26_2, fa33_0, fa33_1, fa114_0, fa114_1, fa114_2]
    exact hk _
theorem sameInts_c {w : World} {X Y : Option Addr} {c d : Nat} {xs ys : List Int} (hx : Ints w X xs) (hy : Ints w Y ys) {k : Value → World → Prop} (hk : ∀ w', Gr w w' → k (.bool (decide (xs = ys))) w') :
    CallK Try.prog 34 [.slice X xs.length c, .slice Y ys.length d] k w := by
  refine enter34 ?_
  unfold S34
  simp only [bin_add, bin_sub, bin_mul, bin_eql, bin_neq, bin_lss, bin_leq, bin_gtr, bin_geq, un_not, un_neg, zq4, zq3, zq1, zq2, zq0, cond_true', cond_false', zq14, zq15, zq16, zq17, zq13, zq10, zq12, zq11, zq7, zq5, zq6, zq9, zq8, resK_nil, resK_tmp, ite_T, ite_F, upd_at, add_plain, add_zero', Nat.reduceEqDiff, len22, len24, len27, len35, fa26_0, fa26_1, fa26_2, fa33_0, fa33_1, fa114_0, fa114_1, fa114_2]
  by_cases hl : xs.length = ys.length
  · simp only [Int.ofNat_inj, hl, decide_true, Bool.not_true, bin_add, bin_sub, bin_mul, bin_eql, bin_neq, bin_lss, bin_leq, bin_gtr, bin_geq, un_not, un_neg, zq4, zq3, zq1, zq2, zq0, cond_true', cond_false', zq14, zq15, zq16, zq17, zq13, zq10, zq12, zq11, zq7, zq5, zq6, zq9, zq8, resK_nil, resK_tmp, ite_T, ite_F, upd_at, add_plain, add_zero', Nat.reduceEqDiff, len22, len24, len27, len35, fa26_0, fa26_1, fa26_2, fa33_0, fa33_1, fa114_0, fa114_1, fa114_2]
    rw [← hl]
    refine loop_to xs.length 0 (fun i f w' => i ≤ xs.length ∧ f 13 = .int .i64 i ∧ Gr w w' ∧ xs.take i = ys.take i) ⟨Nat.zero_le _, rfl, Gr.refl w, rfl⟩ ?_
    rintro i f w1 N hag ⟨hi, h13, hg, hpre⟩ hN
    have h0 : f 0 = .slice X xs.length c := hag 0 (by decide)
    have h1 : f 1 = .slice Y xs.length d := hag 1 (by decide)
    have h12 : f 12 = .int .i64 xs.length := hag 12 (by decide)
    simp only [h0, h1, h12, h13, bin_add, bin_sub, bin_mul, bin_eql, bin_neq, bin_lss, bin_leq, bin_gtr, bin_geq, un_not, un_neg, zq4, zq3, zq1, zq2, zq0, cond_true', cond_false', zq14, zq15, zq16, zq17, zq13, zq10, zq12, zq11, zq7, zq5, zq6, zq9, zq8, resK_nil, resK_tmp, ite_T, ite_F, upd_at, add_plain, add_zero', Nat.reduceEqDiff, len22, len24, len27, len35, fa26_0, fa26_1, fa26_2, fa33_0, fa33_1, fa114_0, fa114_1, fa114_2]
    by_cases hlt : i < xs.length
    · have hlt' : (i : Int) < xs.length := by omega
      have := hx.le
      simp only [hlt', decide_true, bin_add, bin_sub, bin_mul, bin_eql, bin_neq, bin_lss, bin_leq, bin_gtr, bin_geq, un_not, un_neg, zq4, zq3, zq1, zq2, zq0, cond_true', cond_false', zq14, zq15, zq16, zq17, zq13, zq10, zq12, zq11, zq7, zq5, zq6, zq9, zq8, resK_nil, resK_tmp, ite_T, ite_F, upd_at, add_plain, add_zero', Nat.reduceEqDiff, len22, len24, len27, len35, fa26_0, fa26_1, fa26_2, fa33_0, fa33_1, fa114_0, fa114_1, fa114_2]
      rw [ixn27 hx.ptr hlt, ld3 ((hx.gr (gr_trans hg (gr_drew w1))).cell i hlt), ixn27 (hl ▸ hy.ptr) hlt, ld3 ((hy.gr (gr_trans hg (gr_drew w1))).cell i (by omega))]
      simp only [bin_add, bin_sub, bin_mul, bin_eql, bin_neq, bin_lss, bin_leq, bin_gtr, bin_geq, un_not, un_neg, zq4, zq3, zq1, zq2, zq0, cond_true', cond_false', zq14, zq15, zq16, zq17, zq13, zq10, zq12, zq11, zq7, zq5, zq6, zq9, zq8, resK_nil, resK_tmp, ite_T, ite_F, upd_at, add_plain, add_zero', Nat.reduceEqDiff, len22, len24, len27, len35, fa26_0, fa26_1, fa26_2, fa33_0, fa33_1, fa114_0, fa114_1, fa114_2]
      by_cases he : xs.getD i 0 = ys.getD i 0
      · simp only [he, decide_true, Bool.not_true, bin_add, bin_sub, bin_mul, bin_eql, bin_neq, bin_lss, bin_leq, bin_gtr, bin_geq, un_not, un_neg, zq4, zq3, zq1, zq2, zq0, cond_true', cond_false', zq14, zq15, zq16, zq17, zq13, zq10, zq12, zq11, zq7, zq5, zq6, zq9, zq8, resK_nil, resK_tmp, ite_T, ite_F, upd_at, add_plain, add_zero', Nat.reduceEqDiff, len22, len24, len27, len35, fa26_0, fa26_1, fa26_2, fa33_0, fa33_1, fa114_0, fa114_1, fa114_2]
        rw [i64_of (by omega) (by omega)]
        refine hN _ _ hlt ⟨by omega, rfl, gr_trans hg (gr_drew w1), ?_⟩
        rw [take_snoc hlt, take_snoc (by omega), hpre, he]
      · simp only [he, decide_false, Bool.not_false, bin_add, bin_sub, bin_mul, bin_eql, bin_neq, bin_lss, bin_leq, bin_gtr, bin_geq, un_not, un_neg, zq4, zq3, zq1, zq2, zq0, cond_true', cond_false', zq14, zq15, zq16, zq17, zq13, zq10, zq12, zq11, zq7, zq5, zq6, zq9, zq8, resK_nil, resK_tmp, ite_T, ite_F, upd_at, add_plain, add_zero', Nat.reduceEqDiff, len22, len24, len27, len35, fa26_0, fa26_1, fa26_2, fa33_0, fa33_1, fa114_0, fa114_1, fa114_2]
        have := hk _ (gr_trans hg (gr_drew w1))
        rwa [decide_eq_false (fun e => he (by rw [e]))] at this
    · simp only [show ¬ (i : Int) < xs.length from by omega, decide_false, bin_add, bin_sub, bin_mul, bin_eql, bin_neq, bin_lss, bin_leq, bin_gtr, bin_geq, un_not, un_neg, zq4, zq3, zq1, zq2, zq0, cond_true', cond_false', zq14, zq15, zq16, zq17, zq13, zq10, zq12, zq11, zq7, zq5, zq6, zq9, zq8, resK_nil, resK_tmp, ite_T, ite_F, upd_at, add_plain, add_zero', Nat.reduceEqDiff, len22, len24, len27, len35, fa26_0, fa26_1, fa26_2, fa33_0, fa33_1, fa114_0, fa114_1, fa114_2]
      have := hk _ hg
      rwa [decide_eq_true] at this
      rwa [List.take_of_length_le (by omega), List.take_of_length_le (by omega)] at hpre
  · simp only [Int.ofNat_inj, hl, decide_false, Bool.not_false, bin_add, bin_sub, bin_mul, bin_eql, bin_neq, bin_lss, bin_leq, bin_gtr, bin_geq, un_not, un_neg, zq4, zq3, zq1, zq2, zq0, cond_true', cond_false', zq14, zq15, zq16, zq17, zq13, zq10, zq12, zq11, zq7, zq5, zq6, zq9, zq8, resK_nil, resK_tmp, ite_T, ite_F, upd_at, add_plain, add_zero', Nat.reduceEqDiff, len22, len24, len27, len35, fa26_0, fa26_1, fa26_2, fa33_0, fa33_1, fa114_0, fa114_1, fa114_2]
    have := hk _ (Gr.refl w)
    rwa [decide_eq_false (fun e => hl (by rw [e]))] at this
theorem has_c {w : World} {X : Option Addr} {c : Nat} {xs : List Int} {n : Int} (hx : Ints w X xs) {k : Value → World → Prop} (hk : ∀ w', Gr w w' → k (.bool (decide (n ∈ xs))) w') :
    CallK Try.prog 35 [.slice X xs.length c, .int .i64 n] k w := by
  refine enter35 ?_
  unfold S35
  simp only [bin_add, bin_sub, bin_mul, bin_eql, bin_neq, bin_lss, bin_leq, bin_gtr, bin_geq, un_not, un_neg, zq4, zq3, zq1, zq2, zq0, cond_true', cond_false', zq14, zq15, zq16, zq17, zq13, zq10, zq12, zq11, zq7, zq5, zq6, zq9, zq8, resK_nil, resK_tmp, ite_T, ite_F, upd_at, add_plain, add_zero', Nat.reduceEqDiff, len22, len24, len27, len35, fa26_0, fa26_1, fa26_2, fa33_0, fa33_1, fa114_0, fa114_1, fa114_2]
  refine loop_to xs.length 0 (fun i f w' => i ≤ xs.length ∧ f 9 = .int .i64 i ∧ Gr w w' ∧ n ∉ xs.take i) ⟨Nat.zero_le _, rfl, Gr.refl w, by simp⟩ ?_
  rintro i f w1 N hag ⟨hi, h9, hg, hpre⟩ hN
  have h1 : f 1 = .int .i64 n := hag 1 (by decide)
  have h7 : f 7 = .slice X xs.length c := hag 7 (by decide)
  have h8 : f 8 = .int .i64 xs.length := hag 8 (by decide)
  simp only [h1, h7, h8, h9, bin_add, bin_sub, bin_mul, bin_eql, bin_neq, bin_lss, bin_leq, bin_gtr, bin_geq, un_not, un_neg, zq4, zq3, zq1, zq2, zq0, cond_true', cond_false', zq14, zq15, zq16, zq17, zq13, zq10, zq12, zq11, zq7, zq5, zq6, zq9, zq8, resK_nil, resK_tmp, ite_T, ite_F, upd_at, add_plain, add_zero', Nat.reduceEqDiff, len22, len24, len27, len35, fa26_0, fa26_1, fa26_2, fa33_0, fa33_1, fa114_0, fa114_1, fa114_2]
  by_cases hlt : i < xs.length
  · have hlt' : (i : Int) < xs.length := by omega
    have := hx.le
    simp only [hlt', decide_true, bin_add, bin_sub, bin_mul, bin_eql, bin_neq, bin_lss, bin_leq, bin_gtr, bin_geq, un_not, un_neg, zq4, zq3, zq1, zq2, zq0, cond_true', cond_false', zq14, zq15, zq16, zq17, zq13, zq10, zq12, zq11, zq7, zq5, zq6, zq9, zq8, resK_nil, resK_tmp, ite_T, ite_F, upd_at, add_plain, add_zero', Nat.reduceEqDiff, len22, len24, len27, len35, fa26_0, fa26_1, fa26_2, fa33_0, fa33_1, fa114_0, fa114_1, fa114_2]
    rw [ixn27 hx.ptr hlt, ld3 ((hx.gr hg).cell i hlt)]
    simp only [bin_add, bin_sub, bin_mul, bin_eql, bin_neq, bin_lss, bin_leq, bin_gtr, bin_geq, un_not, un_neg, zq4, zq3, zq1, zq2, zq0, cond_true', cond_false', zq14, zq15, zq16, zq17, zq13, zq10, zq12, zq11, zq7, zq5, zq6, zq9, zq8, resK_nil, resK_tmp, ite_T, ite_F, upd_at, add_plain, add_zero', Nat.reduceEqDiff, len22, len24, len27, len35, fa26_0, fa26_1, fa26_2, fa33_0, fa33_1, fa114_0, fa114_1, fa114_2]
    by_cases he : xs.getD i 0 = n
    · simp only [he, decide_true, bin_add, bin_sub, bin_mul, bin_eql, bin_neq, bin_lss, bin_leq, bin_gtr, bin_geq, un_not, un_neg, zq4, zq3, zq1, zq2, zq0, cond_true', cond_false', zq14, zq15, zq16, zq17, zq13, zq10, zq12, zq11, zq7, zq5, zq6, zq9, zq8, resK_nil, resK_tmp, ite_T, ite_F, upd_at, add_plain, add_zero', Nat.reduceEqDiff, len22, len24, len27, len35, fa26_0, fa26_1, fa26_2, fa33_0, fa33_1, fa114_0, fa114_1, fa114_2]
      have := hk _ hg
      rwa [decide_eq_true (by rw [← he]; exact getD_mem hlt)] at this
    · simp only [he, decide_false, bin_add, bin_sub, bin_mul, bin_eql, bin_neq, bin_lss, bin_leq, bin_gtr, bin_geq, un_not, un_neg, zq4, zq3, zq1, zq2, zq0, cond_true', cond_false', zq14, zq15, zq16, zq17, zq13, zq10, zq12, zq11, zq7, zq5, zq6, zq9, zq8, resK_nil, resK_tmp, ite_T, ite_F, upd_at, add_plain, add_zero', Nat.reduceEqDiff, len22, len24, len27, len35, fa26_0, fa26_1, fa26_2, fa33_0, fa33_1, fa114_0, fa114_1, fa114_2]
      rw [i64_of (by omega) (by omega)]
      refine hN _ _ hlt ⟨by omega, rfl, hg, ?_⟩
      rw [take_snoc hlt, List.mem_append, List.mem_singleton]
      exact fun h => h.elim hpre fun e => he e.symm
  · simp only [show ¬ (i : Int) < xs.length from by omega, decide_false, bin_add, bin_sub, bin_mul, bin_eql, bin_neq, bin_lss, bin_leq, bin_gtr, bin_geq, un_not, un_neg, zq4, zq3, zq1, zq2, zq0, cond_true', cond_false', zq14, zq15, zq16, zq17, zq13, zq10, zq12, zq11, zq7, zq5, zq6, zq9, zq8, resK_nil, resK_tmp, ite_T, ite_F, upd_at, add_plain, add_zero', Nat.reduceEqDiff, len22, len24, len27, len35, fa26_0, fa26_1, fa26_2, fa33_0, fa33_1, fa114_0, fa114_1, fa114_2]
    have := hk _ hg
    rw [List.take_of_length_le (by omega)] at hpre
    rwa [decide_eq_false hpre] at this
end Go.Proofs.Ytegcjkhebecgbaa

/- Contracts: Derives, InLanguage, SequenceDerives. -/
set_option linter.unusedVariables false
set_option linter.unusedSimpArgs false
set_option maxRecDepth 100000
namespace Go.Sh
open Go
def wordG (gm : Gram) (ws : List Int) : Bool := goodG gm && wordB gm.toks ws
noncomputable def inLV (gm : Gram) (ws : List Int) : Bool × Bool := if wordG gm ws = true then (inL gm.rules ws, true) else (false, false)
theorem wordB_of {toks : Int} {ws : List Int} (h : wordB toks ws = true) : ws.length ≤ 10 ∧ ∀ t ∈ ws, 0 ≤ t ∧ t ≤ toks - 1 := by
  simp only [wordB, allB, inB, Bool.and_eq_true, decide_eq_true_eq, List.all_eq_true] at h
  exact h
end Go.Sh
namespace Go.Proofs.Ytegcjkhebecgbaa
open Go Go.Sh Go.RowKit
section
variable {w : World} {X Z Y : Option Addr} {cx cz cy : Nat} {gm : Gram} {ws xs : List Int} {k : Value → World → Prop}
abbrev grv (gm : Gram) (Y : Option Addr) (cy : Nat) : Value := .agg #[.int .i64 gm.nons, .int .i64 gm.toks, .slice Y gm.rules.length cy]
set_option maxHeartbeats 1600000 in
theorem implInLanguage_c (hG : kG Y cy gm.rules w) (hX : kI X ws cx w) (hk : ∀ w', Gr w w' → k (.tuple #[.bool (inLV gm ws).1, .bool (inLV gm ws).2]) w') :
    CallK Try.prog 26 [grv gm Y cy, .slice X ws.length cx] k w := by
  refine enter26 ?_
  unfold S26
  have H := ((Kn.nil w).addG hG.1 hG.2).addI hX.1 hX.2
  refine do_box fun b1 w1 g1 hb B1 => ?_
  have H := (H.step g1).addB B1
  rw [ldB_agg agg26 sz26 rfl (H.get 3 rfl)]
  refine isGrammar_c (gvK (H.get 1 rfl)) fun w2 g => ?_
  have H := H.step g
  unfold inLV wordG at hk
  cases hg : goodG gm
  · simp only [Bool.not_false, bin_add, bin_sub, bin_mul, bin_eql, bin_neq, bin_lss, bin_leq, bin_gtr, bin_geq, un_not, un_neg, zq4, zq3, zq1, zq2, zq0, cond_true', cond_false', zq14, zq15, zq16, zq17, zq13, zq10, zq12, zq11, zq7, zq5, zq6, zq9, zq8, resK_nil, resK_tmp, ite_T, ite_F, upd_at, add_plain, add_zero', Nat.reduceEqDiff, fa8_0, fa8_1, fa8_2, fa8_3, fa14_0, fa14_1, fa19_0, len22, len24, fa26_0, fa26_1, fa26_2, len27, fa33_0, fa33_1, len35, fa77_0, fa77_1, fa88_0, fa88_1, fa88_2, fa88_3, fa88_4, fa88_5, fa114_0, fa114_1, fa114_2, fa124_0, fa124_1, len134, len136, len154, fa156_0, fa156_1, fa156_2, fa156_3, fa156_4, fa156_5, fa156_6, fa184_0, fa184_1, fa200_0, fa200_1, fa200_2, fa200_3, fa215_0, fa215_1, fa215_2, fa215_3, fa215_4, len218, len271, fa274_0, fa274_1, fa274_2, fa303_0, fa303_1, fa303_2, fa303_3, fa314_0, fa314_1, fa314_2, fa314_3, fa314_4, fa314_5, fa314_6, fa314_7, fa314_8, fa314_9, fa314_10]
    rw [hg, Bool.false_and, if_neg Bool.false_ne_true] at hk
    exact hk _ (H.get 0 rfl)
  rw [hg, Bool.true_and] at hk
  have hn := good_nons hg
  have ht := good_toks hg
  simp only [Bool.not_true, bin_add, bin_sub, bin_mul, bin_eql, bin_neq, bin_lss, bin_leq, bin_gtr, bin_geq, un_not, un_neg, zq4, zq3, zq1, zq2, zq0, cond_true', cond_false', zq14, zq15, zq16, zq17, zq13, zq10, zq12, zq11, zq7, zq5, zq6, zq9, zq8, resK_nil, resK_tmp, ite_T, ite_F, upd_at, add_plain, add_zero', Nat.reduceEqDiff, fa8_0, fa8_1, fa8_2, fa8_3, fa14_0, fa14_1, fa19_0, len22, len24, fa26_0, fa26_1, fa26_2, len27, fa33_0, fa33_1, len35, fa77_0, fa77_1, fa88_0, fa88_1, fa88_2, fa88_3, fa88_4, fa88_5, fa114_0, fa114_1, fa114_2, fa124_0, fa124_1, len134, len136, len154, fa156_0, fa156_1, fa156_2, fa156_3, fa156_4, fa156_5, fa156_6, fa184_0, fa184_1, fa200_0, fa200_1, fa200_2, fa200_3, fa215_0, fa215_1, fa215_2, fa215_3, fa215_4, len218, len271, fa274_0, fa274_1, fa274_2, fa303_0, fa303_1, fa303_2, fa303_3, fa314_0, fa314_1, fa314_2, fa314_3, fa314_4, fa314_5, fa314_6, fa314_7, fa314_8, fa314_9, fa314_10]
  rw [ldB3 (H.get 3 rfl) rfl]
  refine isWord_c (H.get 2 rfl).1 rfl (by omega) (by omega) fun w3 g => ?_
  have H := H.step g
  cases hw : wordB gm.toks ws
  · simp only [Bool.not_false, bin_add, bin_sub, bin_mul, bin_eql, bin_neq, bin_lss, bin_leq, bin_gtr, bin_geq, un_not, un_neg, zq4, zq3, zq1, zq2, zq0, cond_true', cond_false', zq14, zq15, zq16, zq17, zq13, zq10, zq12, zq11, zq7, zq5, zq6, zq9, zq8, resK_nil, resK_tmp, ite_T, ite_F, upd_at, add_plain, add_zero', Nat.reduceEqDiff, fa8_0, fa8_1, fa8_2, fa8_3, fa14_0, fa14_1, fa19_0, len22, len24, fa26_0, fa26_1, fa26_2, len27, fa33_0, fa33_1, len35, fa77_0, fa77_1, fa88_0, fa88_1, fa88_2, fa88_3, fa88_4, fa88_5, fa114_0, fa114_1, fa114_2, fa124_0, fa124_1, len134, len136, len154, fa156_0, fa156_1, fa156_2, fa156_3, fa156_4, fa156_5, fa156_6, fa184_0, fa184_1, fa200_0, fa200_1, fa200_2, fa200_3, fa215_0, fa215_1, fa215_2, fa215_3, fa215_4, len218, len271, fa274_0, fa274_1, fa274_2, fa303_0, fa303_1, fa303_2, fa303_3, fa314_0, fa314_1, fa314_2, fa314_3, fa314_4, fa314_5, fa314_6, fa314_7, fa314_8, fa314_9, fa314_10]
    rw [hw, if_neg Bool.false_ne_true] at hk
    exact hk _ (H.get 0 rfl)
  rw [hw, if_pos rfl] at hk
  simp only [Bool.not_true, bin_add, bin_sub, bin_mul, bin_eql, bin_neq, bin_lss, bin_leq, bin_gtr, bin_geq, un_not, un_neg, zq4, zq3, zq1, zq2, zq0, cond_true', cond_false', zq14, zq15, zq16, zq17, zq13, zq10, zq12, zq11, zq7, zq5, zq6, zq9, zq8, resK_nil, resK_tmp, ite_T, ite_F, upd_at, add_plain, add_zero', Nat.reduceEqDiff, fa8_0, fa8_1, fa8_2, fa8_3, fa14_0, fa14_1, fa19_0, len22, len24, fa26_0, fa26_1, fa26_2, len27, fa33_0, fa33_1, len35, fa77_0, fa77_1, fa88_0, fa88_1, fa88_2, fa88_3, fa88_4, fa88_5, fa114_0, fa114_1, fa114_2, fa124_0, fa124_1, len134, len136, len154, fa156_0, fa156_1, fa156_2, fa156_3, fa156_4, fa156_5, fa156_6, fa184_0, fa184_1, fa200_0, fa200_1, fa200_2, fa200_3, fa215_0, fa215_1, fa215_2, fa215_3, fa215_4, len218, len271, fa274_0, fa274_1, fa274_2, fa303_0, fa303_1, fa303_2, fa303_3, fa314_0, fa314_1, fa314_2, fa314_3, fa314_4, fa314_5, fa314_6, fa314_7, fa314_8, fa314_9, fa314_10]
  have hW := wordB_of hw
  rw [ldB_agg agg26 sz26 rfl (H.get 3 rfl)]
  refine spans_c (gvK (H.get 1 rfl)) hg (H.get 2 rfl).1 rfl hW.1 (fun t ht' => by have := hW.2 t ht'; omega) fun w4 bT HT => ?_
  have H := H.step HT.gr
  simp only [bin_add, bin_sub, bin_mul, bin_eql, bin_neq, bin_lss, bin_leq, bin_gtr, bin_geq, un_not, un_neg, zq4, zq3, zq1, zq2, zq0, cond_true', cond_false', zq14, zq15, zq16, zq17, zq13, zq10, zq12, zq11, zq7, zq5, zq6, zq9, zq8, resK_nil, resK_tmp, ite_T, ite_F, upd_at, add_plain, add_zero', Nat.reduceEqDiff, fa8_0, fa8_1, fa8_2, fa8_3, fa14_0, fa14_1, fa19_0, len22, len24, fa26_0, fa26_1, fa26_2, len27, fa33_0, fa33_1, len35, fa77_0, fa77_1, fa88_0, fa88_1, fa88_2, fa88_3, fa88_4, fa88_5, fa114_0, fa114_1, fa114_2, fa124_0, fa124_1, len134, len136, len154, fa156_0, fa156_1, fa156_2, fa156_3, fa156_4, fa156_5, fa156_6, fa184_0, fa184_1, fa200_0, fa200_1, fa200_2, fa200_3, fa215_0, fa215_1, fa215_2, fa215_3, fa215_4, len218, len271, fa274_0, fa274_1, fa274_2, fa303_0, fa303_1, fa303_2, fa303_3, fa314_0, fa314_1, fa314_2, fa314_3, fa314_4, fa314_5, fa314_6, fa314_7, fa314_8, fa314_9, fa314_10]
  refine rdi (ixa122 (by decide) (by decide)) ?_
  refine rdi (ixa121 (by decide) (by decide)) ?_
  refine rdi (ixa120 (by omega) (by omega)) ?_
  simp only [Int.toNat_natCast, bin_add, bin_sub, bin_mul, bin_eql, bin_neq, bin_lss, bin_leq, bin_gtr, bin_geq, un_not, un_neg, zq4, zq3, zq1, zq2, zq0, cond_true', cond_false', zq14, zq15, zq16, zq17, zq13, zq10, zq12, zq11, zq7, zq5, zq6, zq9, zq8, resK_nil, resK_tmp, ite_T, ite_F, upd_at, add_plain, add_zero', Nat.reduceEqDiff, fa8_0, fa8_1, fa8_2, fa8_3, fa14_0, fa14_1, fa19_0, len22, len24, fa26_0, fa26_1, fa26_2, len27, fa33_0, fa33_1, len35, fa77_0, fa77_1, fa88_0, fa88_1, fa88_2, fa88_3, fa88_4, fa88_5, fa114_0, fa114_1, fa114_2, fa124_0, fa124_1, len134, len136, len154, fa156_0, fa156_1, fa156_2, fa156_3, fa156_4, fa156_5, fa156_6, fa184_0, fa184_1, fa200_0, fa200_1, fa200_2, fa200_3, fa215_0, fa215_1, fa215_2, fa215_3, fa215_4, len218, len271, fa274_0, fa274_1, fa274_2, fa303_0, fa303_1, fa303_2, fa303_3, fa314_0, fa314_1, fa314_2, fa314_3, fa314_4, fa314_5, fa314_6, fa314_7, fa314_8, fa314_9, fa314_10]
  have hoff : 0 + (0 + 1) + Int.toNat 0 * 121 + Int.toNat 0 * 11 + ws.length = 0 * 121 + 0 * 11 + ws.length + 1 := by
    rw [show Int.toNat 0 = 0 from rfl]
    omega
  rw [hoff]
  refine rdi (ldB4 (HT.box 0 rfl) (cellsT_at (by decide) (by decide) (by omega))) ?_
  exact hk _ (H.get 0 rfl)
end
end Go.Proofs.Ytegcjkhebecgbaa

/- Contracts: DrawDerives, DrawShortWords, DrawInLanguage, DrawSpansOf, DrawSequenceDerives. -/
set_option linter.unusedVariables false
set_option linter.unusedSimpArgs false
set_option maxRecDepth 100000
namespace Go.Proofs.Ytegcjkhebecgbaa
open Go Go.Sh Go.RowKit
theorem inf114' : Inf Try.prog 114 (.agg #[.slice none 0 0, .int .i64 0, .int .u64 0]) 3 40 := inf_of (by kernel_rfl)
theorem bd114 {S : WS} {k : Value → Prop} {ps : List (Nat × Value)} {cells : Array Value} (hf : Instr.fill (#[(0, 1), (1, 1), (2, 1)][·]?) #[.slice none 0 0, .int .i64 0, .int .u64 0] ps = some cells) : Rd Try.prog S (sBuild 114 ps) k = k (.agg cells) :=
  rd_build3 Try.underlying114 inf114' sz22 sz3 sz112 hf
abbrev zg : List Value := [.int .i64 0, .int .i64 0, .slice none 0 0]
section
variable {w0 w : World} {E : List Thing} {C : Option Addr} {cap : Nat} {bs : List Int} {k : Value → World → Prop}
/-- A draw begins: a place for the grammar, a cursor. -/
theorem draw0 {K : Value → Value → Value → World → Prop} (h : ∀ b1 b4 w', Apt w w' [cur b4 (.slice C bs.length cap) 0, bx b1 zg 26] → K (ptrv b1) (.agg #[.slice C bs.length cap, .int .i64 0, .int .u64 0]) (ptrv b4) w') :
    Do Try.prog (sAlloc 26) (fun t1 w2 => Rd Try.prog (WS.at w2) (sBuild 114 [(0, .slice C bs.length cap)]) fun t3 => Do Try.prog (sBox 114 t3) (fun t4 w5 => K t1 t3 t4 w5) w2) w := by
  have H := Apt.nil w
  refine allocH H inf26 fun b1 w1 H => ?_
  refine rdi (bd114 (cells := #[.slice C bs.length cap, .int .i64 0, .int .u64 0]) rfl) ?_
  refine boxH H fun b4 w2 H => ?_
  simp only [List.nil_append, List.cons_append] at H
  have H := H.shutCur (N := 0) (tc := TC) (bc := b4) (cv := .slice C bs.length cap) (a := 0) (s := 0) 1 rfl (by omega) (by omega)
  simp only [List.set_cons_succ, List.set_cons_zero] at H
  exact h b1 b4 w2 (H.perm (List.Perm.swap _ _ _))
theorem rdS26 {S : WS} {k : Value → Prop} {b e : Nat} {cs : List Value} (hl : cs.length = 3) (h : ∀ w', S.S w' → Box w' b cs e) : Rd Try.prog S (sLoad 26 (ptrv b)) k = k (.agg cs.toArray) := by
  refine rd_loadAgg agg26 sz26 (cs := cs) hl fun w' hw j hj => ?_
  rw [show (⟨b, 0, none⟩ : Addr).add j = ⟨b, 0 + j, none⟩ from add_plain b 0 j, Nat.zero_add, (h w' hw).cell j]
  exact List.getElem?_eq_getElem hj
theorem gowK {ft : Nat → Prop} {Y : Option Addr} {cy : Nat} {rs : List RuleL} (h : OwnG 33 ft w 0 Y cy rs) : kG Y cy rs w := by
  have h1 := h.read
  obtain ⟨cells, hr, _⟩ := h
  exact ⟨hr.cap.1, h1⟩
set_option maxHeartbeats 1600000 in
theorem drawInLanguage_c (hC : Byts w C bs) (hk : ∀ w' gm ft Y cy X cx ws, Drawn 101 gm → Apt w w' [ows X cx ws, gth ft Y cy gm.rules] → k (.tuple #[grv gm Y cy, .slice X (List.length ws) cx]) w') :
    CallK Try.prog 43 [.slice C bs.length cap] k w := by
  refine enter43 ?_
  unfold S43
  refine draw0 fun b1 b4 w1 H => ?_
  refine any_c H hC (by omega) fun w2 gm ft Y cy hd H => ?_
  refine allocH H inf26 fun b8 w3 H => ?_
  refine storeH H 3 rfl sz26 rfl rfl rfl fun w4 H => ?_
  simp only [List.cons_append, List.nil_append, List.set_cons_zero, List.set_cons_succ] at H
  have H := H.drew
  refine ⟨fun w' => Box w' b8 [.int .i64 gm.nons, .int .i64 gm.toks, .slice Y gm.rules.length cy] 26, H.box 3 rfl, ?_⟩
  refine rdi (rdS26 rfl fun w' h => h) (rdi (rdS26 rfl fun w' h => h) ?_)
  have hG := gowK (H.gow 1 rfl)
  refine wordIn_c H hC (by omega) hG.1 hG.2 hd.toks fun w7 Z d ws _ H => ?_
  refine ⟨H.box 4 rfl, ?_⟩
  refine storeH H 3 rfl sz26 rfl rfl rfl fun w8 H => ?_
  simp only [List.cons_append, List.nil_append, List.set_cons_zero, List.set_cons_succ] at H
  rw [rd_loadVar, ldB_agg agg26 sz26 rfl (H.box 3 rfl)]
  have H := ((H.erase 0).erase 3).erase 2
  simp only [List.eraseIdx_cons_zero, List.eraseIdx_cons_succ] at H
  exact hk w8 gm ft Y cy Z d ws hd H
end
end Go.Proofs.Ytegcjkhebecgbaa

/- What the drawn laws do: comparisons of yes and no, boxes of rules, bytes that are known. -/
set_option linter.unusedVariables false
set_option linter.unusedSimpArgs false
set_option maxRecDepth 100000
namespace Go.Proofs.Ytegcjkhebecgbaa
open Go Go.Sh Go.RowKit
abbrev kC (C : Option Addr) (bs : List Int) : World → Prop := fun w => Byts w C bs
section
variable {S : WS} {k : Value → Prop}
theorem bneq {c x y : Bool} : Rd Try.prog S (sBin .neq 4 c (.bool x) (.bool y)) k = k (.bool (!(x == y))) := bin_neq_bool Try.underlying4
theorem beql {c x y : Bool} : Rd Try.prog S (sBin .eql 4 c (.bool x) (.bool y)) k = k (.bool (x == y)) := bin_eql_bool Try.underlying4
end
section
variable {w w' : World} {L : List (World → Prop)}
theorem knC (H : Kn w L) {C : Option Addr} {bs : List Int} (h : Byts w C bs) : Kn w (L ++ [kC C bs]) := H.add fun w' g => h.gr g
/-- A drawn grammar is known from now on. -/
theorem knG (H : Kn w L) {ft : Nat → Prop} {Y : Option Addr} {cy : Nat} {rs : List RuleL} {w0 : World} {M : List Thing} (A : Apt w0 w M) (i : Nat) (hi : M[i]? = some (gth ft Y cy rs)) : Kn w (L ++ [kG Y cy rs]) :=
  H.addG (gowK (A.gow i hi)).1 (gowK (A.gow i hi)).2
theorem knI (H : Kn w L) {X : Option Addr} {cx : Nat} {xs : List Int} {w0 : World} {M : List Thing} (A : Apt w0 w M) (i : Nat) (hi : M[i]? = some (ows X cx xs)) : Kn w (L ++ [kI X xs cx]) :=
  H.addI (A.ints i hi) (A.row i hi).cap.1
/-- A grammar is put into a place of its own. -/
theorem newG {k : Value → World → Prop} (H : Kn w L) {gm : Gram} {Y : Option Addr} {cy : Nat} (h : ∀ b w', Kn w' (L ++ [kB b [.int .i64 gm.nons, .int .i64 gm.toks, .slice Y gm.rules.length cy] 26]) → k (ptrv b) w') :
    Do Try.prog (sAlloc 26) (fun p w1 => Do Try.prog (sStore 26 p (grv gm Y cy)) (fun _ w2 => k p w2) w1) w :=
  do_new (cs := [.int .i64 gm.nons, .int .i64 gm.toks, .slice Y gm.rules.length cy]) H inf26 sz26 rfl rfl rfl rfl h
/-- A rule is put into a place of its own. -/
theorem newR {k : Value → World → Prop} (H : Kn w L) {l : Int} {Y : Option Addr} {n c : Nat} (h : ∀ b w', Kn w' (L ++ [kB b [.int .i64 l, .slice Y n c] 33]) → k (ptrv b) w') :
    Do Try.prog (sAlloc 33) (fun p w1 => Do Try.prog (sStore 33 p (.agg #[.int .i64 l, .slice Y n c])) (fun _ w2 => k p w2) w1) w :=
  do_new (cs := [.int .i64 l, .slice Y n c]) H inf33 sz33 rfl rfl rfl rfl h
end
end Go.Proofs.Ytegcjkhebecgbaa

/- Cc: bodies of functions as terms of the frame calculus, printed by shgen.py of this repository. -/
set_option linter.unusedVariables false
set_option maxRecDepth 100000
namespace Go.Proofs.Ytegcjkhebecgbaa
open Go Go.Sh

/-! loop.example/g00758/spec.l1Has -/
def pl244 : Plans := fun _ => ⟨false, [], .nil⟩
def S244 (v0 v1 : Value) (k : Value → World → Prop) (w : World) : Prop :=
 Rd Try.prog (WS.at w) (sBuiltin .len #[27] 3 [false] [v0]) fun t1 =>
 LoopF [10, 11, 12, 6, 13, 14, 15, 4, 16, 9] (fun Q2 f3 w4 =>
  Rd Try.prog (WS.at w4) (sBin .lss 3 false (f3 9) (f3 8)) fun t5 =>
  CondK t5
   (Rd Try.prog (WS.at w4) (sIndexAddr 27 (f3 7) (f3 9)) fun t6 =>
   Rd Try.prog (WS.at w4) (sLoad 3 t6) fun t7 =>
   Rd Try.prog (WS.at w4) (sBin .eql 3 false t7 (f3 1)) fun t8 =>
   CondK t8
    (Q2 .ret (F.upd (F.upd (F.upd (F.upd (F.upd (F.upd (F.upd (F.upd f3 10 t5) 11 t6) 12 t7) 6 t7) 13 t7) 14 (f3 1)) 15 t8) 4 (.bool true)) w4)
    (Rd Try.prog (WS.at w4) (sBin .add 3 true (f3 9) (.int .i64 1)) fun t9 =>
    Q2 .normal (F.upd (F.upd (F.upd (F.upd (F.upd (F.upd (F.upd (F.upd (F.upd f3 10 t5) 11 t6) 12 t7) 6 t7) 13 t7) 14 (f3 1)) 15 t8) 16 t9) 9 t9) w4))
   (Q2 (.exit 0) (F.upd f3 10 t5) w4))
  (blockQ 0 (seqQ (fun f10 w11 =>
 k (.bool false) w11) (bodyQ Try.prog [.tmp 4] k)))
  (F.upd (F.upd (F.upd (F.upd (initF [v0, v1]) 4 (.bool false)) 7 v0) 8 t1) 9 (.int .i64 0)) w
theorem body244 : Try.f244.body = some (bodyOf Try.f244) := by kernel_rfl
theorem same244 (v0 v1 : Value) (k : Value → World → Prop) (w : World) : wpF Try.prog pl244 (bodyOf Try.f244) (bodyQ Try.prog Try.f244.results.toList k) (initF [v0, v1]) w = S244 v0 v1 k w := by kernel_rfl
theorem enter244 {v0 v1 : Value} {k : Value → World → Prop} {w : World} (h : S244 v0 v1 k w) : CallK Try.prog 244 [v0, v1] k w :=
  call_of_wpF (pl := pl244) mixed Try.func244 body244 (by kernel_rfl) (of_decide_eq_true (by kernel_rfl)) (by kernel_rfl) (by kernel_rfl) (same244 v0 v1 k w ▸ h)

/-! loop.example/g00758/spec.l1Put -/
def pl274 : Plans := fun _ => ⟨false, [], .nil⟩
def S274 (v0 v1 : Value) (k : Value → World → Prop) (w : World) : Prop :=
 LoopF [7, 8, 9, 10, 11, 12, 13, 14, 15, 16, 17, 18, 19, 20, 5] (fun Q1 f2 w3 =>
  Rd Try.prog (WS.at w3) (sBuiltin .len #[27] 3 [false] [(f2 0)]) fun t4 =>
  Rd Try.prog (WS.at w3) (sBin .lss 3 false (f2 5) t4) fun t5 =>
  GuardK t5 true (fun k w' => k (f2 0) w') (fun t6 w7 =>
  GuardK t5 true (fun k w' => k (f2 5) w') (fun t8 w9 =>
  GuardK t5 true (fun k w' => Rd Try.prog (WS.at w9) (sIndexAddr 27 t6 t8) fun v => k v w') (fun t10 w11 =>
  GuardK t5 true (fun k w' => Rd Try.prog (WS.at w11) (sLoad 3 t10) fun v => k v w') (fun t12 w13 =>
  GuardK t5 true (fun k w' => k (f2 1) w') (fun t14 w15 =>
  GuardK t5 true (fun k w' => Rd Try.prog (WS.at w15) (sBin .lss 3 false t12 t14) fun v => k v w') (fun t16 w17 =>
  Rd Try.prog (WS.at w17) (sPick t5 t16 (.bool false)) fun t18 =>
  CondK t18
   (Rd Try.prog (WS.at w17) (sBin .add 3 true (f2 5) (.int .i64 1)) fun t19 =>
   Q1 .normal (F.upd (F.upd (F.upd (F.upd (F.upd (F.upd (F.upd (F.upd (F.upd (F.upd (F.upd (F.upd (F.upd (F.upd (F.upd f2 7 (f2 5)) 8 (f2 0)) 9 t4) 10 t5) 11 t5) 12 t6) 13 t8) 14 t10) 15 t12) 16 t14) 17 t16) 18 t18) 19 (f2 5)) 20 t19) 5 t19) w17)
   (Q1 (.exit 0) (F.upd (F.upd (F.upd (F.upd (F.upd (F.upd (F.upd (F.upd (F.upd (F.upd (F.upd (F.upd f2 7 (f2 5)) 8 (f2 0)) 9 t4) 10 t5) 11 t5) 12 t6) 13 t8) 14 t10) 15 t12) 16 t14) 17 t16) 18 t18) w17)) w15) w13) w11) w9) w7) w3)
  (blockQ 0 (seqQ (fun f20 w21 =>
 Rd Try.prog (WS.at w21) (sBuiltin .len #[27] 3 [false] [(f20 0)]) fun t22 =>
 Rd Try.prog (WS.at w21) (sBin .lss 3 false (f20 5) t22) fun t23 =>
 GuardK t23 true (fun k w' => k (f20 0) w') (fun t24 w25 =>
 GuardK t23 true (fun k w' => k (f20 5) w') (fun t26 w27 =>
 GuardK t23 true (fun k w' => Rd Try.prog (WS.at w27) (sIndexAddr 27 t24 t26) fun v => k v w') (fun t28 w29 =>
 GuardK t23 true (fun k w' => Rd Try.prog (WS.at w29) (sLoad 3 t28) fun v => k v w') (fun t30 w31 =>
 GuardK t23 true (fun k w' => k (f20 1) w') (fun t32 w33 =>
 GuardK t23 true (fun k w' => Rd Try.prog (WS.at w33) (sBin .eql 3 false t30 t32) fun v => k v w') (fun t34 w35 =>
 Rd Try.prog (WS.at w35) (sPick t23 t34 (.bool false)) fun t36 =>
 CondK t36
  (k (f20 0) w35)
  (Do Try.prog (sBuildSlice 27 0 []) (fun t37 w38 =>
  Rd Try.prog (WS.at w38) (sSlice 27 (f20 0) none (some (f20 5)) none) fun t39 =>
  Do Try.prog (sBuiltin .append #[27, 27] 27 [false, false] [t37, t39]) (fun t40 w41 =>
  Do Try.prog (sBuildSlice 27 1 [(0, (f20 1))]) (fun t42 w43 =>
  Do Try.prog (sBuiltin .append #[27, 27] 27 [false, false] [t40, t42]) (fun t44 w45 =>
  Rd Try.prog (WS.at w45) (sSlice 27 (f20 0) (some (f20 5)) none none) fun t46 =>
  Do Try.prog (sBuiltin .append #[27, 27] 27 [false, false] [t44, t46]) (fun t47 w48 =>
  k t47 w48) w45) w43) w41) w38) w35)) w33) w31) w29) w27) w25) w21) (bodyQ Try.prog [.tmp 4] k)))
  (F.upd (F.upd (initF [v0, v1]) 4 (.slice none 0 0)) 5 (.int .i64 0)) w
theorem body274 : Try.f274.body = some (bodyOf Try.f274) := by kernel_rfl
theorem same274 (v0 v1 : Value) (k : Value → World → Prop) (w : World) : wpF Try.prog pl274 (bodyOf Try.f274) (bodyQ Try.prog Try.f274.results.toList k) (initF [v0, v1]) w = S274 v0 v1 k w := by kernel_rfl
theorem enter274 {v0 v1 : Value} {k : Value → World → Prop} {w : World} (h : S274 v0 v1 k w) : CallK Try.prog 274 [v0, v1] k w :=
  call_of_wpF (pl := pl274) mixed Try.func274 body274 (by kernel_rfl) (of_decide_eq_true (by kernel_rfl)) (by kernel_rfl) (by kernel_rfl) (same274 v0 v1 k w ▸ h)

/-! loop.example/g00758/spec.l3Close -/
def pl192 : Plans := fun _ => ⟨false, [], .nil⟩
def S192 (v0 v1 : Value) (k : Value → World → Prop) (w : World) : Prop :=
 Do Try.prog (sBox 26 v0) (fun t1 w2 =>
 LoopF [12, 6, 13, 14, 15, 16, 17, 18, 19, 8, 20, 21, 22, 23, 24, 9, 25, 26, 27, 28, 29, 30, 31, 11, 32, 33, 34, 35, 36, 37, 38, 39, 40, 41, 42, 43, 44, 45, 46, 47, 48, 9, 49, 28, 50, 51, 52, 53, 54, 5, 6, 55, 16] (fun Q3 f4 w5 =>
  CondK (f4 6)
   (Rd Try.prog (WS.at w5) (sFieldAddr 26 (f4 2) 2) fun t6 =>
   Rd Try.prog (WS.at w5) (sLoad 24 t6) fun t7 =>
   Rd Try.prog (WS.at w5) (sBuiltin .len #[24] 3 [false] [t7]) fun t8 =>
   LoopF [17, 18, 19, 8, 20, 21, 22, 23, 24, 9, 25, 26, 27, 28, 29, 30, 31, 11, 32, 33, 34, 35, 36, 37, 38, 39, 40, 41, 42, 43, 44, 45, 46, 47, 48, 9, 49, 28, 50, 51, 52, 53, 54, 5, 6, 55, 16] (fun Q9 f10 w11 =>
    Rd Try.prog (WS.at w11) (sBin .lss 3 false (f10 16) (f10 15)) fun t12 =>
    CondK t12
     (Join (fun K13 =>
     Rd Try.prog (WS.at w11) (sIndexAddr 24 (f10 14) (f10 16)) fun t16 =>
     Rd Try.prog (WS.at w11) (sLoad 33 t16) fun t17 =>
     Do Try.prog (sAlloc 33) (fun t18 w19 =>
     Do Try.prog (sStore 33 t18 t17) (fun _ w20 =>
     Rd Try.prog (WS.at w20) (sFieldAddr 33 t18 0) fun t21 =>
     Rd Try.prog (WS.at w20) (sLoad 3 t21) fun t22 =>
     CallK Try.prog 244 [(f10 5), t22] (fun t23 w24 =>
     Rd Try.prog (WS.at w24) (sUn .not t23) fun t25 =>
     Rd Try.prog (WS.at w24) (sFieldAddr 33 t18 1) fun t26 =>
     Rd Try.prog (WS.at w24) (sLoad 27 t26) fun t27 =>
     Rd Try.prog (WS.at w24) (sBuiltin .len #[27] 3 [false] [t27]) fun t28 =>
     LoopF [29, 30, 31, 11, 32, 33, 34, 35, 36, 37, 38, 39, 40, 41, 42, 43, 44, 45, 46, 47, 48, 9, 49, 28] (fun Q29 f30 w31 =>
      Rd Try.prog (WS.at w31) (sBin .lss 3 false (f30 28) (f30 27)) fun t32 =>
      CondK t32
       (Rd Try.prog (WS.at w31) (sIndexAddr 27 (f30 26) (f30 28)) fun t33 =>
       Rd Try.prog (WS.at w31) (sLoad 3 t33) fun t34 =>
       GuardK (f30 9) true (fun k w' => k t34 w') (fun t35 w36 =>
       GuardK (f30 9) true (fun k w' => Rd Try.prog (WS.at w36) (sBin .lss 3 true t35 (.int .i64 0)) fun v => k v w') (fun t37 w38 =>
       GuardK (f30 9) true (fun k w' => k t37 w') (fun t39 w40 =>
       GuardK t39 true (fun k w' => k (f30 1) w') (fun t41 w42 =>
       GuardK (f30 9) true (fun k w' => Rd Try.prog (WS.at w42) (sPick t39 t41 (.bool false)) fun v => k v w') (fun t43 w44 =>
       GuardK (f30 9) true (fun k w' => k t43 w') (fun t45 w46 =>
       GuardK t45 false (fun k w' => k t34 w') (fun t47 w48 =>
       GuardK t45 false (fun k w' => Rd Try.prog (WS.at w48) (sBin .geq 3 true t47 (.int .i64 0)) fun v => k v w') (fun t49 w50 =>
       GuardK t45 false (fun k w' => k t49 w') (fun t51 w52 =>
       GuardK t51 true (fun k w' => k (f30 5) w') (fun t53 w54 =>
       GuardK t51 true (fun k w' => k t34 w') (fun t55 w56 =>
       GuardK t51 true (fun k w' => CallK Try.prog 244 [t53, t55] k w') (fun t57 w58 =>
       GuardK t45 false (fun k w' => Rd Try.prog (WS.at w58) (sPick t51 t57 (.bool false)) fun v => k v w') (fun t59 w60 =>
       GuardK (f30 9) true (fun k w' => Rd Try.prog (WS.at w60) (sPick t45 (.bool true) t59) fun v => k v w') (fun t61 w62 =>
       Rd Try.prog (WS.at w62) (sPick (f30 9) t61 (.bool false)) fun t63 =>
       Rd Try.prog (WS.at w62) (sBin .add 3 true (f30 28) (.int .i64 1)) fun t64 =>
       Q29 .normal (F.upd (F.upd (F.upd (F.upd (F.upd (F.upd (F.upd (F.upd (F.upd (F.upd (F.upd (F.upd (F.upd (F.upd (F.upd (F.upd (F.upd (F.upd (F.upd (F.upd (F.upd (F.upd (F.upd (F.upd f30 29 t32) 30 t33) 31 t34) 11 t34) 32 (f30 9)) 33 (f30 9)) 34 t35) 35 t37) 36 t39) 37 t41) 38 t43) 39 t45) 40 t47) 41 t49) 42 t51) 43 t53) 44 t55) 45 t57) 46 t59) 47 t61) 48 t63) 9 t63) 49 t64) 28 t64) w62) w60) w58) w56) w54) w52) w50) w48) w46) w44) w42) w40) w38) w36) w31)
       (Q29 (.exit 4) (F.upd f30 29 t32) w31))
      (blockQ 4 (seqQ (fun f65 w66 =>
     CondK (f65 9)
      (Rd Try.prog (WS.at w66) (sFieldAddr 33 (f65 8) 0) fun t67 =>
      Rd Try.prog (WS.at w66) (sLoad 3 t67) fun t68 =>
      CallK Try.prog 274 [(f65 5), t68] (fun t69 w70 =>
      K13 (F.upd (F.upd (F.upd (F.upd (F.upd (F.upd (F.upd f65 50 (f65 9)) 51 (f65 5)) 52 t67) 53 t68) 54 t69) 5 t69) 6 (.bool true)) w70) w66)
      (K13 (F.upd f65 50 (f65 9)) w66)) (blockQ 3 (seqQ K13 Q9))))
      (F.upd (F.upd (F.upd (F.upd (F.upd (F.upd (F.upd (F.upd (F.upd (F.upd (F.upd (F.upd (F.upd (F.upd f10 17 t12) 18 t16) 19 t17) 8 t18) 20 (f10 5)) 21 t21) 22 t22) 23 t23) 24 t25) 9 t25) 25 t26) 26 t27) 27 t28) 28 (.int .i64 0)) w24) w20) w19) w11) (fun f14 w15 =>
     Rd Try.prog (WS.at w15) (sBin .add 3 true (f14 16) (.int .i64 1)) fun t73 =>
     Q9 .normal (F.upd (F.upd f14 55 t73) 16 t73) w15))
     (Q9 (.exit 2) (F.upd f10 17 t12) w11))
    (blockQ 2 (blockQ 1 Q3))
    (F.upd (F.upd (F.upd (F.upd (F.upd (F.upd f4 12 (f4 6)) 6 (.bool false)) 13 t6) 14 t7) 15 t8) 16 (.int .i64 0)) w5)
   (Q3 (.exit 0) (F.upd f4 12 (f4 6)) w5))
  (blockQ 0 (seqQ (fun f74 w75 =>
 k (f74 5) w75) (bodyQ Try.prog [.tmp 4] k)))
  (F.upd (F.upd (F.upd (F.upd (initF [v0, v1]) 2 t1) 4 (.slice none 0 0)) 5 (.slice none 0 0)) 6 (.bool true)) w2) w
theorem body192 : Try.f192.body = some (bodyOf Try.f192) := by kernel_rfl
theorem same192 (v0 v1 : Value) (k : Value → World → Prop) (w : World) : wpF Try.prog pl192 (bodyOf Try.f192) (bodyQ Try.prog Try.f192.results.toList k) (initF [v0, v1]) w = S192 v0 v1 k w := by kernel_rfl
theorem enter192 {v0 v1 : Value} {k : Value → World → Prop} {w : World} (h : S192 v0 v1 k w) : CallK Try.prog 192 [v0, v1] k w :=
  call_of_wpF (pl := pl192) mixed Try.func192 body192 (by kernel_rfl) (of_decide_eq_true (by kernel_rfl)) (by kernel_rfl) (by kernel_rfl) (same192 v0 v1 k w ▸ h)

/-! loop.example/g00758/spec.l3Reached -/
def pl193 : Plans := fun _ => ⟨false, [], .nil⟩
def S193 (v0 : Value) (k : Value → World → Prop) (w : World) : Prop :=
 Do Try.prog (sBox 26 v0) (fun t1 w2 =>
 Do Try.prog (sBuildSlice 27 1 [(0, (.int .i64 0))]) (fun t3 w4 =>
 LoopF [10, 4, 11, 12, 13, 14, 15, 16, 17, 6, 18, 19, 20, 21, 22, 23, 24, 8, 25, 26, 27, 28, 29, 30, 31, 32, 33, 34, 35, 36, 37, 38, 39, 40, 41, 3, 4, 42, 21, 43, 14] (fun Q5 f6 w7 =>
  CondK (f6 4)
   (Rd Try.prog (WS.at w7) (sFieldAddr 26 (f6 1) 2) fun t8 =>
   Rd Try.prog (WS.at w7) (sLoad 24 t8) fun t9 =>
   Rd Try.prog (WS.at w7) (sBuiltin .len #[24] 3 [false] [t9]) fun t10 =>
   LoopF [15, 16, 17, 6, 18, 19, 20, 21, 22, 23, 24, 8, 25, 26, 27, 28, 29, 30, 31, 32, 33, 34, 35, 36, 37, 38, 39, 40, 41, 3, 4, 42, 21, 43, 14] (fun Q11 f12 w13 =>
    Rd Try.prog (WS.at w13) (sBin .lss 3 false (f12 14) (f12 13)) fun t14 =>
    CondK t14
     (Rd Try.prog (WS.at w13) (sIndexAddr 24 (f12 12) (f12 14)) fun t15 =>
     Rd Try.prog (WS.at w13) (sLoad 33 t15) fun t16 =>
     Do Try.prog (sAlloc 33) (fun t17 w18 =>
     Do Try.prog (sStore 33 t17 t16) (fun _ w19 =>
     Rd Try.prog (WS.at w19) (sFieldAddr 33 t17 1) fun t20 =>
     Rd Try.prog (WS.at w19) (sLoad 27 t20) fun t21 =>
     Rd Try.prog (WS.at w19) (sBuiltin .len #[27] 3 [false] [t21]) fun t22 =>
     LoopF [22, 23, 24, 8, 25, 26, 27, 28, 29, 30, 31, 32, 33, 34, 35, 36, 37, 38, 39, 40, 41, 3, 4, 42, 21] (fun Q23 f24 w25 =>
      Rd Try.prog (WS.at w25) (sBin .lss 3 false (f24 21) (f24 20)) fun t26 =>
      CondK t26
       (Join (fun K27 =>
       Rd Try.prog (WS.at w25) (sIndexAddr 27 (f24 19) (f24 21)) fun t30 =>
       Rd Try.prog (WS.at w25) (sLoad 3 t30) fun t31 =>
       Rd Try.prog (WS.at w25) (sBin .geq 3 true t31 (.int .i64 0)) fun t32 =>
       GuardK t32 true (fun k w' => k (f24 3) w') (fun t33 w34 =>
       GuardK t32 true (fun k w' => Rd Try.prog (WS.at w34) (sFieldAddr 33 (f24 6) 0) fun v => k v w') (fun t35 w36 =>
       GuardK t32 true (fun k w' => Rd Try.prog (WS.at w36) (sLoad 3 t35) fun v => k v w') (fun t37 w38 =>
       GuardK t32 true (fun k w' => CallK Try.prog 244 [t33, t37] k w') (fun t39 w40 =>
       Rd Try.prog (WS.at w40) (sPick t32 t39 (.bool false)) fun t41 =>
       GuardK t41 true (fun k w' => k (f24 3) w') (fun t42 w43 =>
       GuardK t41 true (fun k w' => k t31 w') (fun t44 w45 =>
       GuardK t41 true (fun k w' => CallK Try.prog 244 [t42, t44] k w') (fun t46 w47 =>
       GuardK t41 true (fun k w' => Rd Try.prog (WS.at w47) (sUn .not t46) fun v => k v w') (fun t48 w49 =>
       Rd Try.prog (WS.at w49) (sPick t41 t48 (.bool false)) fun t50 =>
       CondK t50
        (CallK Try.prog 274 [(f24 3), t31] (fun t51 w52 =>
        K27 (F.upd (F.upd (F.upd (F.upd (F.upd (F.upd (F.upd (F.upd (F.upd (F.upd (F.upd (F.upd (F.upd (F.upd (F.upd (F.upd (F.upd (F.upd (F.upd (F.upd (F.upd (F.upd (F.upd f24 22 t26) 23 t30) 24 t31) 8 t31) 25 t31) 26 t32) 27 t32) 28 t33) 29 t35) 30 t37) 31 t39) 32 t41) 33 t41) 34 t42) 35 t44) 36 t46) 37 t48) 38 t50) 39 (f24 3)) 40 t31) 41 t51) 3 t51) 4 (.bool true)) w52) w49)
        (K27 (F.upd (F.upd (F.upd (F.upd (F.upd (F.upd (F.upd (F.upd (F.upd (F.upd (F.upd (F.upd (F.upd (F.upd (F.upd (F.upd (F.upd (F.upd f24 22 t26) 23 t30) 24 t31) 8 t31) 25 t31) 26 t32) 27 t32) 28 t33) 29 t35) 30 t37) 31 t39) 32 t41) 33 t41) 34 t42) 35 t44) 36 t46) 37 t48) 38 t50) w49)) w47) w45) w43) w40) w38) w36) w34) w25) (fun f28 w29 =>
       Rd Try.prog (WS.at w29) (sBin .add 3 true (f28 21) (.int .i64 1)) fun t53 =>
       Q23 .normal (F.upd (F.upd f28 42 t53) 21 t53) w29))
       (Q23 (.exit 4) (F.upd f24 22 t26) w25))
      (blockQ 4 (blockQ 3 (seqQ (fun f54 w55 =>
     Rd Try.prog (WS.at w55) (sBin .add 3 true (f54 14) (.int .i64 1)) fun t56 =>
     Q11 .normal (F.upd (F.upd f54 43 t56) 14 t56) w55) Q11)))
      (F.upd (F.upd (F.upd (F.upd (F.upd (F.upd (F.upd (F.upd f12 15 t14) 16 t15) 17 t16) 6 t17) 18 t20) 19 t21) 20 t22) 21 (.int .i64 0)) w19) w18) w13)
     (Q11 (.exit 2) (F.upd f12 15 t14) w13))
    (blockQ 2 (blockQ 1 Q5))
    (F.upd (F.upd (F.upd (F.upd (F.upd (F.upd f6 10 (f6 4)) 4 (.bool false)) 11 t8) 12 t9) 13 t10) 14 (.int .i64 0)) w7)
   (Q5 (.exit 0) (F.upd f6 10 (f6 4)) w7))
  (blockQ 0 (seqQ (fun f57 w58 =>
 k (f57 3) w58) (bodyQ Try.prog [.tmp 2] k)))
  (F.upd (F.upd (F.upd (F.upd (F.upd (initF [v0]) 1 t1) 2 (.slice none 0 0)) 9 t3) 3 t3) 4 (.bool true)) w4) w2) w
theorem body193 : Try.f193.body = some (bodyOf Try.f193) := by kernel_rfl
theorem same193 (v0 : Value) (k : Value → World → Prop) (w : World) : wpF Try.prog pl193 (bodyOf Try.f193) (bodyQ Try.prog Try.f193.results.toList k) (initF [v0]) w = S193 v0 k w := by kernel_rfl
theorem enter193 {v0 : Value} {k : Value → World → Prop} {w : World} (h : S193 v0 k w) : CallK Try.prog 193 [v0] k w :=
  call_of_wpF (pl := pl193) mixed Try.func193 body193 (by kernel_rfl) (of_decide_eq_true (by kernel_rfl)) (by kernel_rfl) (by kernel_rfl) (same193 v0 k w ▸ h)

/-! loop.example/g00758/spec.l3Useful -/
def pl190 : Plans := fun i => match i with
  | 13 => ⟨true, [9, 11], .step 0 .any (.step 1 .held (.step 2 .any (.step 3 .held (.step 4 .any (.step 5 .held (.step 6 .one (.step 7 .any (.step 8 .one (.step 9 .last (.step 10 .any (.step 11 .last (.nil))))))))))))⟩
  | _ => ⟨false, [], .nil⟩
def S190 (v0 : Value) (k : Value → World → Prop) (w : World) : Prop :=
 Do Try.prog (sBox 26 v0) (fun t1 w2 =>
 Do Try.prog (sAlloc 26) (fun t3 w4 =>
 Rd Try.prog (WS.at w4) (sLoad 26 t1) fun t5 =>
 CallK Try.prog 192 [t5, (.bool true)] (fun t6 w7 =>
 Rd Try.prog (WS.at w7) (sFieldAddr 26 t1 0) fun t8 =>
 Rd Try.prog (WS.at w7) (sLoad 3 t8) fun t9 =>
 Rd Try.prog (WS.at w7) (sFieldAddr 26 t1 1) fun t10 =>
 Rd Try.prog (WS.at w7) (sLoad 3 t10) fun t11 =>
 Rd Try.prog (WS.at w7) (sBuild 26 [(0, t9), (1, t11)]) fun t12 =>
 Do Try.prog (sAlloc 26) (fun t13 w14 =>
 Do Try.prog (sStore 26 t13 t12) (fun _ w15 =>
 Rd Try.prog (WS.at w15) (sFieldAddr 26 t1 2) fun t16 =>
 Rd Try.prog (WS.at w15) (sLoad 24 t16) fun t17 =>
 Rd Try.prog (WS.at w15) (sBuiltin .len #[24] 3 [false] [t17]) fun t18 =>
 LoopF [25, 26, 27, 6, 28, 29, 30, 31, 7, 32, 33, 34, 35, 36, 37, 38, 9, 39, 40, 41, 42, 43, 44, 45, 46, 47, 48, 7, 49, 35, 50, 51, 52, 53, 54, 55, 56, 57, 58, 59, 60, 61, 62, 24] (fun Q19 f20 w21 =>
  Rd Try.prog (WS.at w21) (sBin .lss 3 false (f20 24) (f20 23)) fun t22 =>
  CondK t22
   (Join (fun K23 =>
   Rd Try.prog (WS.at w21) (sIndexAddr 24 (f20 22) (f20 24)) fun t26 =>
   Rd Try.prog (WS.at w21) (sLoad 33 t26) fun t27 =>
   Do Try.prog (sAlloc 33) (fun t28 w29 =>
   Do Try.prog (sStore 33 t28 t27) (fun _ w30 =>
   Rd Try.prog (WS.at w30) (sFieldAddr 33 t28 0) fun t31 =>
   Rd Try.prog (WS.at w30) (sLoad 3 t31) fun t32 =>
   CallK Try.prog 244 [(f20 3), t32] (fun t33 w34 =>
   Rd Try.prog (WS.at w34) (sFieldAddr 33 t28 1) fun t35 =>
   Rd Try.prog (WS.at w34) (sLoad 27 t35) fun t36 =>
   Rd Try.prog (WS.at w34) (sBuiltin .len #[27] 3 [false] [t36]) fun t37 =>
   LoopF [36, 37, 38, 9, 39, 40, 41, 42, 43, 44, 45, 46, 47, 48, 7, 49, 35] (fun Q38 f39 w40 =>
    Rd Try.prog (WS.at w40) (sBin .lss 3 false (f39 35) (f39 34)) fun t41 =>
    CondK t41
     (Rd Try.prog (WS.at w40) (sIndexAddr 27 (f39 33) (f39 35)) fun t42 =>
     Rd Try.prog (WS.at w40) (sLoad 3 t42) fun t43 =>
     GuardK (f39 7) true (fun k w' => k t43 w') (fun t44 w45 =>
     GuardK (f39 7) true (fun k w' => Rd Try.prog (WS.at w45) (sBin .lss 3 true t44 (.int .i64 0)) fun v => k v w') (fun t46 w47 =>
     GuardK (f39 7) true (fun k w' => k t46 w') (fun t48 w49 =>
     GuardK t48 false (fun k w' => k (f39 3) w') (fun t50 w51 =>
     GuardK t48 false (fun k w' => k t43 w') (fun t52 w53 =>
     GuardK t48 false (fun k w' => CallK Try.prog 244 [t50, t52] k w') (fun t54 w55 =>
     GuardK (f39 7) true (fun k w' => Rd Try.prog (WS.at w55) (sPick t48 (.bool true) t54) fun v => k v w') (fun t56 w57 =>
     Rd Try.prog (WS.at w57) (sPick (f39 7) t56 (.bool false)) fun t58 =>
     Rd Try.prog (WS.at w57) (sBin .add 3 true (f39 35) (.int .i64 1)) fun t59 =>
     Q38 .normal (F.upd (F.upd (F.upd (F.upd (F.upd (F.upd (F.upd (F.upd (F.upd (F.upd (F.upd (F.upd (F.upd (F.upd (F.upd (F.upd (F.upd f39 36 t41) 37 t42) 38 t43) 9 t43) 39 (f39 7)) 40 (f39 7)) 41 t44) 42 t46) 43 t48) 44 t50) 45 t52) 46 t54) 47 t56) 48 t58) 7 t58) 49 t59) 35 t59) w57) w55) w53) w51) w49) w47) w45) w40)
     (Q38 (.exit 2) (F.upd f39 36 t41) w40))
    (blockQ 2 (seqQ (fun f60 w61 =>
   CondK (f60 7)
    (∃ S62 : World → Prop, ∃ h63 : S62 w61.drew,
    Rd Try.prog WS.any (sFieldAddr 26 (f60 4) 2) fun t64 =>
    Rd Try.prog ⟨S62, w61.drew, h63⟩ (sLoad 24 t64) fun t65 =>
    Rd Try.prog WS.any (sFieldAddr 33 (f60 6) 0) fun t66 =>
    Rd Try.prog ⟨S62, w61.drew, h63⟩ (sLoad 3 t66) fun t67 =>
    Rd Try.prog WS.any (sFieldAddr 33 (f60 6) 1) fun t68 =>
    Rd Try.prog ⟨S62, w61.drew, h63⟩ (sLoad 27 t68) fun t69 =>
    CallK Try.prog 158 [t69] (fun t70 w71 =>
    S62 w71 ∧ Rd Try.prog WS.any (sBuild 33 [(0, t67), (1, t70)]) fun t72 =>
    Do Try.prog (sBuildSlice 24 1 [(0, t72)]) (fun t73 w74 =>
    S62 w74 ∧ Do Try.prog (sBuiltin .append #[24, 24] 24 [false, false] [t65, t73]) (fun t75 w76 =>
    Rd Try.prog WS.any (sFieldAddr 26 (f60 4) 2) fun t77 =>
    Do Try.prog (sStore 24 t77 t75) (fun _ w78 =>
    K23 (F.upd (F.upd (F.upd (F.upd (F.upd (F.upd (F.upd (F.upd (F.upd (F.upd (F.upd (F.upd f60 50 (f60 7)) 51 t64) 52 t65) 53 t66) 54 t67) 55 t68) 56 t69) 57 t70) 58 t72) 59 t73) 60 t75) 61 t77) w78) w76) w74) w71) w61.drew)
    (K23 (F.upd f60 50 (f60 7)) w61)) (blockQ 1 (seqQ K23 Q19))))
    (F.upd (F.upd (F.upd (F.upd (F.upd (F.upd (F.upd (F.upd (F.upd (F.upd (F.upd (F.upd (F.upd f20 25 t22) 26 t26) 27 t27) 6 t28) 28 (f20 3)) 29 t31) 30 t32) 31 t33) 7 t33) 32 t35) 33 t36) 34 t37) 35 (.int .i64 0)) w34) w30) w29) w21) (fun f24 w25 =>
   Rd Try.prog (WS.at w25) (sBin .add 3 true (f24 24) (.int .i64 1)) fun t81 =>
   Q19 .normal (F.upd (F.upd f24 62 t81) 24 t81) w25))
   (Q19 (.exit 0) (F.upd f20 25 t22) w21))
  (blockQ 0 (seqQ (fun f82 w83 =>
 Rd Try.prog (WS.at w83) (sLoad 26 (f82 4)) fun t84 =>
 CallK Try.prog 193 [t84] (fun t85 w86 =>
 Rd Try.prog (WS.at w86) (sFieldAddr 26 (f82 1) 0) fun t87 =>
 Rd Try.prog (WS.at w86) (sLoad 3 t87) fun t88 =>
 Rd Try.prog (WS.at w86) (sFieldAddr 26 (f82 1) 1) fun t89 =>
 Rd Try.prog (WS.at w86) (sLoad 3 t89) fun t90 =>
 Rd Try.prog (WS.at w86) (sBuild 26 [(0, t88), (1, t90)]) fun t91 =>
 Do Try.prog (sAlloc 26) (fun t92 w93 =>
 Do Try.prog (sStore 26 t92 t91) (fun _ w94 =>
 Rd Try.prog (WS.at w94) (sFieldAddr 26 (f82 4) 2) fun t95 =>
 Rd Try.prog (WS.at w94) (sLoad 24 t95) fun t96 =>
 Rd Try.prog (WS.at w94) (sBuiltin .len #[24] 3 [false] [t96]) fun t97 =>
 LoopF [74, 75, 76, 13, 77, 78, 79, 80, 81, 82, 83, 84, 85, 86, 87, 73] (fun Q98 f99 w100 =>
  Rd Try.prog (WS.at w100) (sBin .lss 3 false (f99 73) (f99 72)) fun t101 =>
  CondK t101
   (Join (fun K102 =>
   Rd Try.prog (WS.at w100) (sIndexAddr 24 (f99 71) (f99 73)) fun t105 =>
   Rd Try.prog (WS.at w100) (sLoad 33 t105) fun t106 =>
   Do Try.prog (sAlloc 33) (fun t107 w108 =>
   Do Try.prog (sStore 33 t107 t106) (fun _ w109 =>
   Rd Try.prog (WS.at w109) (sFieldAddr 33 t107 0) fun t110 =>
   Rd Try.prog (WS.at w109) (sLoad 3 t110) fun t111 =>
   CallK Try.prog 244 [(f99 10), t111] (fun t112 w113 =>
   CondK t112
    (Rd Try.prog (WS.at w113) (sFieldAddr 26 (f99 11) 2) fun t114 =>
    Rd Try.prog (WS.at w113) (sLoad 24 t114) fun t115 =>
    Rd Try.prog (WS.at w113) (sLoad 33 t107) fun t116 =>
    Do Try.prog (sBuildSlice 24 1 [(0, t116)]) (fun t117 w118 =>
    Do Try.prog (sBuiltin .append #[24, 24] 24 [false, false] [t115, t117]) (fun t119 w120 =>
    Rd Try.prog (WS.at w120) (sFieldAddr 26 (f99 11) 2) fun t121 =>
    Do Try.prog (sStore 24 t121 t119) (fun _ w122 =>
    K102 (F.upd (F.upd (F.upd (F.upd (F.upd (F.upd (F.upd (F.upd (F.upd (F.upd (F.upd (F.upd (F.upd (F.upd f99 74 t101) 75 t105) 76 t106) 13 t107) 77 (f99 10)) 78 t110) 79 t111) 80 t112) 81 t114) 82 t115) 83 t116) 84 t117) 85 t119) 86 t121) w122) w120) w118) w113)
    (K102 (F.upd (F.upd (F.upd (F.upd (F.upd (F.upd (F.upd (F.upd f99 74 t101) 75 t105) 76 t106) 13 t107) 77 (f99 10)) 78 t110) 79 t111) 80 t112) w113)) w109) w108) w100) (fun f103 w104 =>
   Rd Try.prog (WS.at w104) (sBin .add 3 true (f103 73) (.int .i64 1)) fun t123 =>
   Q98 .normal (F.upd (F.upd f103 87 t123) 73 t123) w104))
   (Q98 (.exit 4) (F.upd f99 74 t101) w100))
  (blockQ 4 (seqQ (fun f124 w125 =>
 Rd Try.prog (WS.at w125) (sLoad 26 (f124 11)) fun t126 =>
 Do Try.prog (sStore 26 (f124 2) t126) (fun _ w127 =>
 Rd Try.prog (WS.at w127) (sLoadVar 26 (f124 2)) fun t128 => k t128 w127) w125) (bodyQ Try.prog [.cell 2 26] k)))
  (F.upd (F.upd (F.upd (F.upd (F.upd (F.upd (F.upd (F.upd (F.upd (F.upd (F.upd (F.upd (F.upd f82 63 t84) 64 t85) 10 t85) 65 t87) 66 t88) 67 t89) 68 t90) 69 t91) 11 t92) 70 t95) 71 t96) 72 t97) 73 (.int .i64 0)) w94) w93) w86) w83) (bodyQ Try.prog [.cell 2 26] k)))
  (F.upd (F.upd (F.upd (F.upd (F.upd (F.upd (F.upd (F.upd (F.upd (F.upd (F.upd (F.upd (F.upd (F.upd (F.upd (initF [v0]) 1 t1) 2 t3) 14 t5) 15 t6) 3 t6) 16 t8) 17 t9) 18 t10) 19 t11) 20 t12) 4 t13) 21 t16) 22 t17) 23 t18) 24 (.int .i64 0)) w15) w14) w7) w4) w2) w
theorem body190 : Try.f190.body = some (bodyOf Try.f190) := by kernel_rfl
theorem same190 (v0 : Value) (k : Value → World → Prop) (w : World) : wpF Try.prog pl190 (bodyOf Try.f190) (bodyQ Try.prog Try.f190.results.toList k) (initF [v0]) w = S190 v0 k w := by kernel_rfl
theorem enter190 {v0 : Value} {k : Value → World → Prop} {w : World} (h : S190 v0 k w) : CallK Try.prog 190 [v0] k w :=
  call_of_wpF (pl := pl190) mixed Try.func190 body190 (by kernel_rfl) (of_decide_eq_true (by kernel_rfl)) (by kernel_rfl) (by kernel_rfl) (same190 v0 k w ▸ h)

/-! loop.example/g00758/spec.l3Growing -/
def pl195 : Plans := fun _ => ⟨false, [], .nil⟩
def S195 (v0 : Value) (k : Value → World → Prop) (w : World) : Prop :=
 Do Try.prog (sBox 26 v0) (fun t1 w2 =>
 Rd Try.prog (WS.at w2) (sLoad 26 t1) fun t3 =>
 CallK Try.prog 192 [t3, (.bool true)] (fun t4 w5 =>
 LoopF [14, 5, 15, 16, 17, 18, 19, 20, 21, 7, 8, 9, 22, 23, 24, 25, 26, 27, 28, 11, 29, 30, 31, 32, 33, 34, 35, 36, 37, 38, 8, 39, 40, 41, 42, 43, 44, 45, 46, 47, 48, 9, 49, 25, 50, 51, 52, 53, 54, 55, 56, 57, 58, 59, 60, 61, 62, 63, 64, 4, 5, 65, 18] (fun Q6 f7 w8 =>
  CondK (f7 5)
   (Rd Try.prog (WS.at w8) (sFieldAddr 26 (f7 1) 2) fun t9 =>
   Rd Try.prog (WS.at w8) (sLoad 24 t9) fun t10 =>
   Rd Try.prog (WS.at w8) (sBuiltin .len #[24] 3 [false] [t10]) fun t11 =>
   LoopF [19, 20, 21, 7, 8, 9, 22, 23, 24, 25, 26, 27, 28, 11, 29, 30, 31, 32, 33, 34, 35, 36, 37, 38, 8, 39, 40, 41, 42, 43, 44, 45, 46, 47, 48, 9, 49, 25, 50, 51, 52, 53, 54, 55, 56, 57, 58, 59, 60, 61, 62, 63, 64, 4, 5, 65, 18] (fun Q12 f13 w14 =>
    Rd Try.prog (WS.at w14) (sBin .lss 3 false (f13 18) (f13 17)) fun t15 =>
    CondK t15
     (Join (fun K16 =>
     Rd Try.prog (WS.at w14) (sIndexAddr 24 (f13 16) (f13 18)) fun t19 =>
     Rd Try.prog (WS.at w14) (sLoad 33 t19) fun t20 =>
     Do Try.prog (sAlloc 33) (fun t21 w22 =>
     Do Try.prog (sStore 33 t21 t20) (fun _ w23 =>
     Rd Try.prog (WS.at w23) (sFieldAddr 33 t21 1) fun t24 =>
     Rd Try.prog (WS.at w23) (sLoad 27 t24) fun t25 =>
     Rd Try.prog (WS.at w23) (sBuiltin .len #[27] 3 [false] [t25]) fun t26 =>
     LoopF [26, 27, 28, 11, 29, 30, 31, 32, 33, 34, 35, 36, 37, 38, 8, 39, 40, 41, 42, 43, 44, 45, 46, 47, 48, 9, 49, 25] (fun Q27 f28 w29 =>
      Rd Try.prog (WS.at w29) (sBin .lss 3 false (f28 25) (f28 24)) fun t30 =>
      CondK t30
       (Rd Try.prog (WS.at w29) (sIndexAddr 27 (f28 23) (f28 25)) fun t31 =>
       Rd Try.prog (WS.at w29) (sLoad 3 t31) fun t32 =>
       GuardK (f28 8) true (fun k w' => k t32 w') (fun t33 w34 =>
       GuardK (f28 8) true (fun k w' => Rd Try.prog (WS.at w34) (sBin .lss 3 true t33 (.int .i64 0)) fun v => k v w') (fun t35 w36 =>
       GuardK (f28 8) true (fun k w' => k t35 w') (fun t37 w38 =>
       GuardK t37 false (fun k w' => k (f28 3) w') (fun t39 w40 =>
       GuardK t37 false (fun k w' => k t32 w') (fun t41 w42 =>
       GuardK t37 false (fun k w' => CallK Try.prog 244 [t39, t41] k w') (fun t43 w44 =>
       GuardK (f28 8) true (fun k w' => Rd Try.prog (WS.at w44) (sPick t37 (.bool true) t43) fun v => k v w') (fun t45 w46 =>
       Rd Try.prog (WS.at w46) (sPick (f28 8) t45 (.bool false)) fun t47 =>
       GuardK (f28 9) false (fun k w' => k t32 w') (fun t48 w49 =>
       GuardK (f28 9) false (fun k w' => Rd Try.prog (WS.at w49) (sBin .lss 3 true t48 (.int .i64 0)) fun v => k v w') (fun t50 w51 =>
       Rd Try.prog (WS.at w51) (sPick (f28 9) (.bool true) t50) fun t52 =>
       GuardK t52 false (fun k w' => k (f28 4) w') (fun t53 w54 =>
       GuardK t52 false (fun k w' => k t32 w') (fun t55 w56 =>
       GuardK t52 false (fun k w' => CallK Try.prog 244 [t53, t55] k w') (fun t57 w58 =>
       Rd Try.prog (WS.at w58) (sPick t52 (.bool true) t57) fun t59 =>
       Rd Try.prog (WS.at w58) (sBin .add 3 true (f28 25) (.int .i64 1)) fun t60 =>
       Q27 .normal (F.upd (F.upd (F.upd (F.upd (F.upd (F.upd (F.upd (F.upd (F.upd (F.upd (F.upd (F.upd (F.upd (F.upd (F.upd (F.upd (F.upd (F.upd (F.upd (F.upd (F.upd (F.upd (F.upd (F.upd (F.upd (F.upd (F.upd (F.upd f28 26 t30) 27 t31) 28 t32) 11 t32) 29 (f28 8)) 30 (f28 8)) 31 t33) 32 t35) 33 t37) 34 t39) 35 t41) 36 t43) 37 t45) 38 t47) 8 t47) 39 (f28 9)) 40 (f28 9)) 41 t48) 42 t50) 43 t52) 44 t52) 45 t53) 46 t55) 47 t57) 48 t59) 9 t59) 49 t60) 25 t60) w58) w56) w54) w51) w49) w46) w44) w42) w40) w38) w36) w34) w29)
       (Q27 (.exit 4) (F.upd f28 26 t30) w29))
      (blockQ 4 (seqQ (fun f61 w62 =>
     GuardK (f61 8) true (fun k w' => k (f61 9) w') (fun t63 w64 =>
     Rd Try.prog (WS.at w64) (sPick (f61 8) t63 (.bool false)) fun t65 =>
     GuardK t65 true (fun k w' => k (f61 4) w') (fun t66 w67 =>
     GuardK t65 true (fun k w' => Rd Try.prog (WS.at w67) (sFieldAddr 33 (f61 7) 0) fun v => k v w') (fun t68 w69 =>
     GuardK t65 true (fun k w' => Rd Try.prog (WS.at w69) (sLoad 3 t68) fun v => k v w') (fun t70 w71 =>
     GuardK t65 true (fun k w' => CallK Try.prog 244 [t66, t70] k w') (fun t72 w73 =>
     GuardK t65 true (fun k w' => Rd Try.prog (WS.at w73) (sUn .not t72) fun v => k v w') (fun t74 w75 =>
     Rd Try.prog (WS.at w75) (sPick t65 t74 (.bool false)) fun t76 =>
     CondK t76
      (Rd Try.prog (WS.at w75) (sFieldAddr 33 (f61 7) 0) fun t77 =>
      Rd Try.prog (WS.at w75) (sLoad 3 t77) fun t78 =>
      CallK Try.prog 274 [(f61 4), t78] (fun t79 w80 =>
      K16 (F.upd (F.upd (F.upd (F.upd (F.upd (F.upd (F.upd (F.upd (F.upd (F.upd (F.upd (F.upd (F.upd (F.upd (F.upd (F.upd (F.upd f61 50 (f61 8)) 51 (f61 8)) 52 t63) 53 t65) 54 t65) 55 t66) 56 t68) 57 t70) 58 t72) 59 t74) 60 t76) 61 (f61 4)) 62 t77) 63 t78) 64 t79) 4 t79) 5 (.bool true)) w80) w75)
      (K16 (F.upd (F.upd (F.upd (F.upd (F.upd (F.upd (F.upd (F.upd (F.upd (F.upd (F.upd f61 50 (f61 8)) 51 (f61 8)) 52 t63) 53 t65) 54 t65) 55 t66) 56 t68) 57 t70) 58 t72) 59 t74) 60 t76) w75)) w73) w71) w69) w67) w64) w62) (blockQ 3 (seqQ K16 Q12))))
      (F.upd (F.upd (F.upd (F.upd (F.upd (F.upd (F.upd (F.upd (F.upd (F.upd f13 19 t15) 20 t19) 21 t20) 7 t21) 8 (.bool true)) 9 (.bool false)) 22 t24) 23 t25) 24 t26) 25 (.int .i64 0)) w23) w22) w14) (fun f17 w18 =>
     Rd Try.prog (WS.at w18) (sBin .add 3 true (f17 18) (.int .i64 1)) fun t83 =>
     Q12 .normal (F.upd (F.upd f17 65 t83) 18 t83) w18))
     (Q12 (.exit 2) (F.upd f13 19 t15) w14))
    (blockQ 2 (blockQ 1 Q6))
    (F.upd (F.upd (F.upd (F.upd (F.upd (F.upd f7 14 (f7 5)) 5 (.bool false)) 15 t9) 16 t10) 17 t11) 18 (.int .i64 0)) w8)
   (Q6 (.exit 0) (F.upd f7 14 (f7 5)) w8))
  (blockQ 0 (seqQ (fun f84 w85 =>
 k (f84 4) w85) (bodyQ Try.prog [.tmp 2] k)))
  (F.upd (F.upd (F.upd (F.upd (F.upd (F.upd (F.upd (initF [v0]) 1 t1) 2 (.slice none 0 0)) 12 t3) 13 t4) 3 t4) 4 (.slice none 0 0)) 5 (.bool true)) w5) w2) w
theorem body195 : Try.f195.body = some (bodyOf Try.f195) := by kernel_rfl
theorem same195 (v0 : Value) (k : Value → World → Prop) (w : World) : wpF Try.prog pl195 (bodyOf Try.f195) (bodyQ Try.prog Try.f195.results.toList k) (initF [v0]) w = S195 v0 k w := by kernel_rfl
theorem enter195 {v0 : Value} {k : Value → World → Prop} {w : World} (h : S195 v0 k w) : CallK Try.prog 195 [v0] k w :=
  call_of_wpF (pl := pl195) mixed Try.func195 body195 (by kernel_rfl) (of_decide_eq_true (by kernel_rfl)) (by kernel_rfl) (by kernel_rfl) (same195 v0 k w ▸ h)

/-! loop.example/g00758/spec.UsefulOf -/
def pl64 : Plans := fun _ => ⟨false, [], .nil⟩
def S64 (v0 : Value) (k : Value → World → Prop) (w : World) : Prop :=
 Do Try.prog (sBox 26 v0) (fun t1 w2 =>
 Do Try.prog (sAlloc 26) (fun t3 w4 =>
 Rd Try.prog (WS.at w4) (sLoad 26 t1) fun t5 =>
 CallK Try.prog 127 [t5] (fun t6 w7 =>
 Rd Try.prog (WS.at w7) (sUn .not t6) fun t8 =>
 CondK t8
  (Rd Try.prog (WS.at w7) (sBuild 26 []) fun t9 =>
  Do Try.prog (sStore 26 t3 t9) (fun _ w10 =>
  Rd Try.prog (WS.at w10) (sLoadVar 26 t3) fun t11 => k (.tuple #[t11, (.bool false)]) w10) w7)
  (Rd Try.prog (WS.at w7) (sLoad 26 t1) fun t12 =>
  CallK Try.prog 190 [t12] (fun t13 w14 =>
  Do Try.prog (sStore 26 t3 t13) (fun _ w15 =>
  Rd Try.prog (WS.at w15) (sLoadVar 26 t3) fun t16 => k (.tuple #[t16, (.bool true)]) w15) w14) w7)) w4) w2) w
theorem body64 : Try.f64.body = some (bodyOf Try.f64) := by kernel_rfl
theorem same64 (v0 : Value) (k : Value → World → Prop) (w : World) : wpF Try.prog pl64 (bodyOf Try.f64) (bodyQ Try.prog Try.f64.results.toList k) (initF [v0]) w = S64 v0 k w := by kernel_rfl
theorem enter64 {v0 : Value} {k : Value → World → Prop} {w : World} (h : S64 v0 k w) : CallK Try.prog 64 [v0] k w :=
  call_of_wpF (pl := pl64) mixed Try.func64 body64 (by kernel_rfl) (of_decide_eq_true (by kernel_rfl)) (by kernel_rfl) (by kernel_rfl) (same64 v0 k w ▸ h)

/-! loop.example/g00758/spec.DrawIsUseful -/
def pl67 : Plans := fun _ => ⟨false, [], .nil⟩
def S67 (v0 : Value) (k : Value → World → Prop) (w : World) : Prop :=
 Do Try.prog (sAlloc 26) (fun t1 w2 =>
 CallK Try.prog 173 [v0] (fun t3 w4 =>
 Do Try.prog (sAlloc 26) (fun t5 w6 =>
 Do Try.prog (sStore 26 t5 t3) (fun _ w7 =>
 Rd Try.prog (WS.at w7) (sBuild 114 [(0, v0)]) fun t8 =>
 Do Try.prog (sBox 114 t8) (fun t9 w10 =>
 Rd Try.prog (WS.at w10) (sLoad 26 t5) fun t11 =>
 CallK Try.prog 64 [t11] (fun t12 w13 =>
 Rd Try.prog (WS.at w13) (sExtract t12 0) fun t14 =>
 Rd Try.prog (WS.at w13) (sExtract t12 1) fun t15 =>
 Do Try.prog (sAlloc 26) (fun t16 w17 =>
 Do Try.prog (sStore 26 t16 t14) (fun _ w18 =>
 GuardK t15 true (fun k w' => k t9 w') (fun t19 w20 =>
 GuardK t15 true (fun k w' => CallK Try.prog 176 [t19, (.int .i64 2)] k w') (fun t21 w22 =>
 Rd Try.prog (WS.at w22) (sPick t15 t21 (.bool false)) fun t23 =>
 CondK t23
  (Rd Try.prog (WS.at w22) (sLoad 26 t16) fun t24 =>
  Do Try.prog (sStore 26 t1 t24) (fun _ w25 =>
  Rd Try.prog (WS.at w25) (sLoadVar 26 t1) fun t26 => k t26 w25) w22)
  (Rd Try.prog (WS.at w22) (sLoad 26 t5) fun t27 =>
  Do Try.prog (sStore 26 t1 t27) (fun _ w28 =>
  Rd Try.prog (WS.at w28) (sLoadVar 26 t1) fun t29 => k t29 w28) w22)) w20) w18) w17) w13) w10) w7) w6) w4) w2) w
theorem body67 : Try.f67.body = some (bodyOf Try.f67) := by kernel_rfl
theorem same67 (v0 : Value) (k : Value → World → Prop) (w : World) : wpF Try.prog pl67 (bodyOf Try.f67) (bodyQ Try.prog Try.f67.results.toList k) (initF [v0]) w = S67 v0 k w := by kernel_rfl
theorem enter67 {v0 : Value} {k : Value → World → Prop} {w : World} (h : S67 v0 k w) : CallK Try.prog 67 [v0] k w :=
  call_of_wpF (pl := pl67) mixed Try.func67 body67 (by kernel_rfl) (of_decide_eq_true (by kernel_rfl)) (by kernel_rfl) (by kernel_rfl) (same67 v0 k w ▸ h)

/-! loop.example/g00758/spec.IsUseful -/
def pl68 : Plans := fun i => match i with
  | 3 => ⟨true, [], .step 0 .held (.step 4 .any (.step 5 .held (.step 6 .any (.step 1 .one (.step 2 .any (.step 3 .any (.step 7 .any (.step 8 .any (.step 9 .any (.nil))))))))))⟩
  | _ => ⟨false, [], .nil⟩
def S68 (v0 : Value) (k : Value → World → Prop) (w : World) : Prop :=
 Do Try.prog (sBox 26 v0) (fun t1 w2 =>
 Rd Try.prog (WS.at w2) (sLoad 26 t1) fun t3 =>
 CallK Try.prog 127 [t3] (fun t4 w5 =>
 Rd Try.prog (WS.at w5) (sUn .not t4) fun t6 =>
 CondK t6
  (k (.tuple #[(.bool false), (.bool false)]) w5)
  (∃ S7 : World → Prop, ∃ h8 : S7 w5.drew,
  Rd Try.prog ⟨S7, w5.drew, h8⟩ (sLoad 26 t1) fun t9 =>
  Rd Try.prog WS.any (sFieldAddr 26 t1 2) fun t10 =>
  Rd Try.prog ⟨S7, w5.drew, h8⟩ (sLoad 24 t10) fun t11 =>
  Rd Try.prog WS.any (sBuiltin .len #[24] 3 [false] [t11]) fun t12 =>
  CallK Try.prog 190 [t9] (fun t13 w14 =>
  S7 w14 ∧ Rd Try.prog WS.any (sField 26 t13 2) fun t15 =>
  Rd Try.prog WS.any (sBuiltin .len #[24] 3 [false] [t15]) fun t16 =>
  Rd Try.prog WS.any (sBin .eql 3 false t16 t12) fun t17 =>
  k (.tuple #[t17, (.bool true)]) w14) w5.drew)) w2) w
theorem body68 : Try.f68.body = some (bodyOf Try.f68) := by kernel_rfl
theorem same68 (v0 : Value) (k : Value → World → Prop) (w : World) : wpF Try.prog pl68 (bodyOf Try.f68) (bodyQ Try.prog Try.f68.results.toList k) (initF [v0]) w = S68 v0 k w := by kernel_rfl
theorem enter68 {v0 : Value} {k : Value → World → Prop} {w : World} (h : S68 v0 k w) : CallK Try.prog 68 [v0] k w :=
  call_of_wpF (pl := pl68) mixed Try.func68 body68 (by kernel_rfl) (of_decide_eq_true (by kernel_rfl)) (by kernel_rfl) (by kernel_rfl) (same68 v0 k w ▸ h)

/-! loop.example/g00758/spec.NullableOf -/
def pl69 : Plans := fun _ => ⟨false, [], .nil⟩
def S69 (v0 : Value) (k : Value → World → Prop) (w : World) : Prop :=
 Do Try.prog (sBox 26 v0) (fun t1 w2 =>
 Rd Try.prog (WS.at w2) (sLoad 26 t1) fun t3 =>
 CallK Try.prog 127 [t3] (fun t4 w5 =>
 Rd Try.prog (WS.at w5) (sUn .not t4) fun t6 =>
 CondK t6
  (k (.tuple #[(.slice none 0 0), (.bool false)]) w5)
  (Rd Try.prog (WS.at w5) (sLoad 26 t1) fun t7 =>
  CallK Try.prog 192 [t7, (.bool false)] (fun t8 w9 =>
  k (.tuple #[t8, (.bool true)]) w9) w5)) w2) w
theorem body69 : Try.f69.body = some (bodyOf Try.f69) := by kernel_rfl
theorem same69 (v0 : Value) (k : Value → World → Prop) (w : World) : wpF Try.prog pl69 (bodyOf Try.f69) (bodyQ Try.prog Try.f69.results.toList k) (initF [v0]) w = S69 v0 k w := by kernel_rfl
theorem enter69 {v0 : Value} {k : Value → World → Prop} {w : World} (h : S69 v0 k w) : CallK Try.prog 69 [v0] k w :=
  call_of_wpF (pl := pl69) mixed Try.func69 body69 (by kernel_rfl) (of_decide_eq_true (by kernel_rfl)) (by kernel_rfl) (by kernel_rfl) (same69 v0 k w ▸ h)

/-! loop.example/g00758/spec.ProductiveOf -/
def pl70 : Plans := fun _ => ⟨false, [], .nil⟩
def S70 (v0 : Value) (k : Value → World → Prop) (w : World) : Prop :=
 Do Try.prog (sBox 26 v0) (fun t1 w2 =>
 Rd Try.prog (WS.at w2) (sLoad 26 t1) fun t3 =>
 CallK Try.prog 127 [t3] (fun t4 w5 =>
 Rd Try.prog (WS.at w5) (sUn .not t4) fun t6 =>
 CondK t6
  (k (.tuple #[(.slice none 0 0), (.bool false)]) w5)
  (Rd Try.prog (WS.at w5) (sLoad 26 t1) fun t7 =>
  CallK Try.prog 192 [t7, (.bool true)] (fun t8 w9 =>
  k (.tuple #[t8, (.bool true)]) w9) w5)) w2) w
theorem body70 : Try.f70.body = some (bodyOf Try.f70) := by kernel_rfl
theorem same70 (v0 : Value) (k : Value → World → Prop) (w : World) : wpF Try.prog pl70 (bodyOf Try.f70) (bodyQ Try.prog Try.f70.results.toList k) (initF [v0]) w = S70 v0 k w := by kernel_rfl
theorem enter70 {v0 : Value} {k : Value → World → Prop} {w : World} (h : S70 v0 k w) : CallK Try.prog 70 [v0] k w :=
  call_of_wpF (pl := pl70) mixed Try.func70 body70 (by kernel_rfl) (of_decide_eq_true (by kernel_rfl)) (by kernel_rfl) (by kernel_rfl) (same70 v0 k w ▸ h)

/-! loop.example/g00758/spec.ReachedOf -/
def pl71 : Plans := fun _ => ⟨false, [], .nil⟩
def S71 (v0 : Value) (k : Value → World → Prop) (w : World) : Prop :=
 Do Try.prog (sBox 26 v0) (fun t1 w2 =>
 Rd Try.prog (WS.at w2) (sLoad 26 t1) fun t3 =>
 CallK Try.prog 127 [t3] (fun t4 w5 =>
 Rd Try.prog (WS.at w5) (sUn .not t4) fun t6 =>
 CondK t6
  (k (.tuple #[(.slice none 0 0), (.bool false)]) w5)
  (Rd Try.prog (WS.at w5) (sLoad 26 t1) fun t7 =>
  CallK Try.prog 193 [t7] (fun t8 w9 =>
  k (.tuple #[t8, (.bool true)]) w9) w5)) w2) w
theorem body71 : Try.f71.body = some (bodyOf Try.f71) := by kernel_rfl
theorem same71 (v0 : Value) (k : Value → World → Prop) (w : World) : wpF Try.prog pl71 (bodyOf Try.f71) (bodyQ Try.prog Try.f71.results.toList k) (initF [v0]) w = S71 v0 k w := by kernel_rfl
theorem enter71 {v0 : Value} {k : Value → World → Prop} {w : World} (h : S71 v0 k w) : CallK Try.prog 71 [v0] k w :=
  call_of_wpF (pl := pl71) mixed Try.func71 body71 (by kernel_rfl) (of_decide_eq_true (by kernel_rfl)) (by kernel_rfl) (by kernel_rfl) (same71 v0 k w ▸ h)

/-! loop.example/g00758/spec.GrowingOf -/
def pl73 : Plans := fun _ => ⟨false, [], .nil⟩
def S73 (v0 : Value) (k : Value → World → Prop) (w : World) : Prop :=
 Do Try.prog (sBox 26 v0) (fun t1 w2 =>
 Rd Try.prog (WS.at w2) (sLoad 26 t1) fun t3 =>
 CallK Try.prog 127 [t3] (fun t4 w5 =>
 Rd Try.prog (WS.at w5) (sUn .not t4) fun t6 =>
 CondK t6
  (k (.tuple #[(.slice none 0 0), (.bool false)]) w5)
  (Rd Try.prog (WS.at w5) (sLoad 26 t1) fun t7 =>
  CallK Try.prog 195 [t7] (fun t8 w9 =>
  k (.tuple #[t8, (.bool true)]) w9) w5)) w2) w
theorem body73 : Try.f73.body = some (bodyOf Try.f73) := by kernel_rfl
theorem same73 (v0 : Value) (k : Value → World → Prop) (w : World) : wpF Try.prog pl73 (bodyOf Try.f73) (bodyQ Try.prog Try.f73.results.toList k) (initF [v0]) w = S73 v0 k w := by kernel_rfl
theorem enter73 {v0 : Value} {k : Value → World → Prop} {w : World} (h : S73 v0 k w) : CallK Try.prog 73 [v0] k w :=
  call_of_wpF (pl := pl73) mixed Try.func73 body73 (by kernel_rfl) (of_decide_eq_true (by kernel_rfl)) (by kernel_rfl) (by kernel_rfl) (same73 v0 k w ▸ h)

/-! loop.example/g00758/spec.LeastLong -/
/-! loop.example/g00758/spec.DrawGoodGrammar -/
def pl173 : Plans := fun _ => ⟨false, [], .nil⟩
def S173 (v0 : Value) (k : Value → World → Prop) (w : World) : Prop :=
 Do Try.prog (sAlloc 26) (fun t1 w2 =>
 Rd Try.prog (WS.at w2) (sBuild 114 [(0, v0)]) fun t3 =>
 Do Try.prog (sBox 114 t3) (fun t4 w5 =>
 CallK Try.prog 145 [t4] (fun t6 w7 =>
 Do Try.prog (sStore 26 t1 t6) (fun _ w8 =>
 Rd Try.prog (WS.at w8) (sLoadVar 26 t1) fun t9 => k t9 w8) w7) w5) w2) w
theorem body173 : Try.f173.body = some (bodyOf Try.f173) := by kernel_rfl
theorem same173 (v0 : Value) (k : Value → World → Prop) (w : World) : wpF Try.prog pl173 (bodyOf Try.f173) (bodyQ Try.prog Try.f173.results.toList k) (initF [v0]) w = S173 v0 k w := by kernel_rfl
theorem enter173 {v0 : Value} {k : Value → World → Prop} {w : World} (h : S173 v0 k w) : CallK Try.prog 173 [v0] k w :=
  call_of_wpF (pl := pl173) mixed Try.func173 body173 (by kernel_rfl) (of_decide_eq_true (by kernel_rfl)) (by kernel_rfl) (by kernel_rfl) (same173 v0 k w ▸ h)

/-! loop.example/g00758/spec.DrawIsFinite -/
/-! loop.example/g00758/spec.DrawLeastLong -/
def S62 (v0 : Value) (k : Value → World → Prop) (w : World) : Prop :=
 Do Try.prog (sAlloc 26) (fun t1 w2 =>
 CallK Try.prog 173 [v0] (fun t3 w4 =>
 Do Try.prog (sStore 26 t1 t3) (fun _ w5 =>
 Rd Try.prog (WS.at w5) (sLoadVar 26 t1) fun t6 => k t6 w5) w4) w2) w
/-! loop.example/g00758/spec.DrawLongEnough -/
/-! loop.example/g00758/spec.DrawStarOf -/
/-! loop.example/g00758/spec.DrawSizeOf -/
end Go.Proofs.Ytegcjkhebecgbaa

/- Contracts: l1Has, l1Put; rising lists as sets. -/
set_option linter.unusedVariables false
set_option linter.unusedSimpArgs false
set_option maxRecDepth 100000
namespace Go.Sh
open Go
/-- A number comes to its place, once. -/
def putL (n : Int) : List Int → List Int
  | [] => [n]
  | x :: xs => if x < n then x :: putL n xs else if x = n then x :: xs else n :: x :: xs
abbrev RiseI (xs : List Int) : Prop := xs.Pairwise fun a b => a < b
theorem rise_cons {x : Int} {xs : List Int} : RiseI (x :: xs) ↔ (∀ b ∈ xs, x < b) ∧ RiseI xs := List.pairwise_cons
theorem putL_mem {n m : Int} : ∀ {xs : List Int}, m ∈ putL n xs ↔ m = n ∨ m ∈ xs := by
  intro xs
  induction xs with
  | nil => simp [putL]
  | cons x xs ih =>
    unfold putL
    split
    · rw [List.mem_cons, ih, List.mem_cons]
      constructor
      · rintro (h | h | h)
        · exact .inr (.inl h)
        · exact .inl h
        · exact .inr (.inr h)
      · rintro (h | h | h)
        · exact .inr (.inl h)
        · exact .inl h
        · exact .inr (.inr h)
    · split
      · rename_i h
        subst h
        rw [List.mem_cons]
        constructor
        · exact fun h => .inr h
        · rintro (h | h)
          · exact .inl h
          · exact h
      · rw [List.mem_cons]
theorem putL_rise {n : Int} : ∀ {xs : List Int}, RiseI xs → RiseI (putL n xs) := by
  intro xs
  induction xs with
  | nil => intro _; simp [putL]
  | cons x xs ih =>
    intro h
    rw [rise_cons] at h
    unfold putL
    split
    · rename_i hx
      rw [rise_cons]
      refine ⟨fun b hb => ?_, ih h.2⟩
      rcases putL_mem.1 hb with rfl | hb
      · exact hx
      · exact h.1 b hb
    · split
      · rw [rise_cons]
        exact h
      · rw [rise_cons, rise_cons]
        refine ⟨fun b hb => ?_, h⟩
        rcases List.mem_cons.1 hb with rfl | hb
        · omega
        · have := h.1 b hb
          omega
theorem putL_more {n : Int} : ∀ {xs : List Int}, RiseI xs → n ∉ xs → (putL n xs).length = xs.length + 1 := by
  intro xs
  induction xs with
  | nil => intro _ _; simp [putL]
  | cons x xs ih =>
    intro h hn
    rw [rise_cons] at h
    rw [List.mem_cons] at hn
    unfold putL
    split
    · rw [List.length_cons, ih h.2 (fun e => hn (.inr e)), List.length_cons]
    · split
      · rename_i e
        exact absurd (.inl e.symm) hn
      · simp
theorem putL_split {n : Int} : ∀ {xs : List Int} {k : Nat}, k ≤ xs.length → (∀ j, j < k → xs.getD j 0 < n) → (k < xs.length → ¬ xs.getD k 0 < n) → putL n xs = if k < xs.length ∧ xs.getD k 0 = n then xs else xs.take k ++ n :: xs.drop k := by
  intro xs
  induction xs with
  | nil =>
    intro k hk _ _
    obtain rfl : k = 0 := by simpa using hk
    simp [putL]
  | cons x xs ih =>
    intro k hk h1 h2
    cases k with
    | zero =>
      have h3 := h2 (by simp)
      simp only [List.getD_cons_zero] at h3 ⊢
      unfold putL
      rw [if_neg h3]
      by_cases e : x = n
      · rw [if_pos e, if_pos ⟨by simp, e⟩]
      · rw [if_neg e, if_neg (fun h => e h.2)]
        rfl
    | succ k =>
      have h3 := h1 0 (by omega)
      simp only [List.getD_cons_zero] at h3
      unfold putL
      rw [if_pos h3, ih (k := k) (by simpa using hk) (fun j hj => by have := h1 (j + 1) (by omega); simpa using this) (fun hl => by have := h2 (by simpa using hl); simpa using this)]
      simp only [List.length_cons, List.getD_cons_succ, Nat.add_lt_add_iff_right]
      split <;> rfl
/-- Rising lists with the same members are the same. -/
theorem rise_ext : ∀ {xs ys : List Int}, RiseI xs → RiseI ys → (∀ m, m ∈ xs ↔ m ∈ ys) → xs = ys := by
  intro xs
  induction xs with
  | nil =>
    intro ys _ _ h
    cases ys with
    | nil => rfl
    | cons y ys => exact absurd ((h y).2 (List.mem_cons_self ..)) (by simp)
  | cons x xs ih =>
    intro ys hx hy h
    rw [rise_cons] at hx
    cases ys with
    | nil => exact absurd ((h x).1 (List.mem_cons_self ..)) (by simp)
    | cons y ys =>
      rw [rise_cons] at hy
      have e : x = y := by
        have h1 := (h x).1 (List.mem_cons_self ..)
        have h2 := (h y).2 (List.mem_cons_self ..)
        rcases List.mem_cons.1 h1 with e | h1
        · exact e
        · rcases List.mem_cons.1 h2 with e | h2
          · exact e.symm
          · have := hy.1 x h1
            have := hx.1 y h2
            omega
      subst e
      congr 1
      refine ih hx.2 hy.2 fun m => ?_
      have hm := h m
      rw [List.mem_cons, List.mem_cons] at hm
      constructor
      · intro h1
        rcases hm.1 (.inr h1) with rfl | h2
        · exact absurd (hx.1 m h1) (by omega)
        · exact h2
      · intro h1
        rcases hm.2 (.inr h1) with rfl | h2
        · exact absurd (hy.1 m h1) (by omega)
        · exact h2
open Classical in
/-- The numbers below n for which something holds. -/
noncomputable def setL (n : Nat) (P : Nat → Prop) : List Int := ((List.range n).filter fun a => decide (P a)).map fun (a : Nat) => (a : Int)
open Classical in
theorem setL_mem {n : Nat} {P : Nat → Prop} {m : Int} : m ∈ setL n P ↔ ∃ a : Nat, m = a ∧ a < n ∧ P a := by
  unfold setL
  rw [List.mem_map]
  constructor
  · rintro ⟨a, ha, rfl⟩
    rw [List.mem_filter, List.mem_range, decide_eq_true_eq] at ha
    exact ⟨a, rfl, ha⟩
  · rintro ⟨a, rfl, ha⟩
    exact ⟨a, by rw [List.mem_filter, List.mem_range, decide_eq_true_eq]; exact ha, rfl⟩
theorem setL_rise (n : Nat) (P : Nat → Prop) : RiseI (setL n P) := by
  unfold RiseI setL
  rw [List.pairwise_map]
  refine (List.Pairwise.sublist List.filter_sublist ?_)
  have := List.pairwise_lt_range (n := n)
  exact this.imp fun h => by omega
theorem setL_len (n : Nat) (P : Nat → Prop) : (setL n P).length ≤ n := by
  unfold setL
  rw [List.length_map]
  have := List.length_filter_le (fun a => @decide (P a) (Classical.propDecidable _)) (List.range n)
  simpa using this
theorem rise_len : ∀ {xs : List Int} {a n : Int}, RiseI xs → (∀ x ∈ xs, a ≤ x ∧ x < n) → a ≤ n → (xs.length : Int) ≤ n - a := by
  intro xs
  induction xs with
  | nil => intro a n _ _ h; simp; omega
  | cons x xs ih =>
    intro a n h hb ha
    rw [rise_cons] at h
    have h1 := hb x (List.mem_cons_self ..)
    have := ih (a := x + 1) (n := n) h.2 (fun y hy => by have := h.1 y hy; have := hb y (List.mem_cons_of_mem _ hy); omega) (by omega)
    rw [List.length_cons]
    omega
end Go.Sh
namespace Go.Proofs.Ytegcjkhebecgbaa
open Go Go.Sh Go.RowKit
theorem l1Has_c {w : World} {X : Option Addr} {c : Nat} {xs : List Int} {n : Int} (hx : Ints w X xs) {k : Value → World → Prop} (hk : ∀ w', Gr w w' → k (.bool (decide (n ∈ xs))) w') :
    CallK Try.prog 244 [.slice X xs.length c, .int .i64 n] k w := by
  refine enter244 ?_
  unfold S244
  simp only [bin_add, bin_sub, bin_mul, bin_eql, bin_neq, bin_lss, bin_leq, bin_gtr, bin_geq, un_not, un_neg, zq4, zq3, zq1, zq2, zq0, cond_true', cond_false', zq14, zq15, zq16, zq17, zq13, zq10, zq12, zq11, zq7, zq5, zq6, zq9, zq8, resK_nil, resK_tmp, ite_T, ite_F, upd_at, add_plain, add_zero', Nat.reduceEqDiff, fa8_0, fa8_1, fa8_2, fa8_3, fa14_0, fa14_1, fa19_0, len22, len24, fa26_0, fa26_1, fa26_2, len27, fa33_0, fa33_1, len35, fa77_0, fa77_1, fa88_0, fa88_1, fa88_2, fa88_3, fa88_4, fa88_5, fa114_0, fa114_1, fa114_2, fa124_0, fa124_1, len134, len136, len154, fa156_0, fa156_1, fa156_2, fa156_3, fa156_4, fa156_5, fa156_6, fa184_0, fa184_1, fa200_0, fa200_1, fa200_2, fa200_3, fa215_0, fa215_1, fa215_2, fa215_3, fa215_4, len218, len271, fa274_0, fa274_1, fa274_2, fa303_0, fa303_1, fa303_2, fa303_3, fa314_0, fa314_1, fa314_2, fa314_3, fa314_4, fa314_5, fa314_6, fa314_7, fa314_8, fa314_9, fa314_10]
  refine loop_to xs.length 0 (fun i f w' => i ≤ xs.length ∧ f 9 = .int .i64 i ∧ Gr w w' ∧ n ∉ xs.take i) ⟨Nat.zero_le _, rfl, Gr.refl w, by simp⟩ ?_
  rintro i f w1 N hag ⟨hi, h9, hg, hpre⟩ hN
  have h1 : f 1 = .int .i64 n := hag 1 (by decide)
  have h7 : f 7 = .slice X xs.length c := hag 7 (by decide)
  have h8 : f 8 = .int .i64 xs.length := hag 8 (by decide)
  simp only [h1, h7, h8, h9, bin_add, bin_sub, bin_mul, bin_eql, bin_neq, bin_lss, bin_leq, bin_gtr, bin_geq, un_not, un_neg, zq4, zq3, zq1, zq2, zq0, cond_true', cond_false', zq14, zq15, zq16, zq17, zq13, zq10, zq12, zq11, zq7, zq5, zq6, zq9, zq8, resK_nil, resK_tmp, ite_T, ite_F, upd_at, add_plain, add_zero', Nat.reduceEqDiff, fa8_0, fa8_1, fa8_2, fa8_3, fa14_0, fa14_1, fa19_0, len22, len24, fa26_0, fa26_1, fa26_2, len27, fa33_0, fa33_1, len35, fa77_0, fa77_1, fa88_0, fa88_1, fa88_2, fa88_3, fa88_4, fa88_5, fa114_0, fa114_1, fa114_2, fa124_0, fa124_1, len134, len136, len154, fa156_0, fa156_1, fa156_2, fa156_3, fa156_4, fa156_5, fa156_6, fa184_0, fa184_1, fa200_0, fa200_1, fa200_2, fa200_3, fa215_0, fa215_1, fa215_2, fa215_3, fa215_4, len218, len271, fa274_0, fa274_1, fa274_2, fa303_0, fa303_1, fa303_2, fa303_3, fa314_0, fa314_1, fa314_2, fa314_3, fa314_4, fa314_5, fa314_6, fa314_7, fa314_8, fa314_9, fa314_10]
  by_cases hlt : i < xs.length
  · have hlt' : (i : Int) < xs.length := by omega
    have := hx.le
    simp only [hlt', decide_true, bin_add, bin_sub, bin_mul, bin_eql, bin_neq, bin_lss, bin_leq, bin_gtr, bin_geq, un_not, un_neg, zq4, zq3, zq1, zq2, zq0, cond_true', cond_false', zq14, zq15, zq16, zq17, zq13, zq10, zq12, zq11, zq7, zq5, zq6, zq9, zq8, resK_nil, resK_tmp, ite_T, ite_F, upd_at, add_plain, add_zero', Nat.reduceEqDiff, fa8_0, fa8_1, fa8_2, fa8_3, fa14_0, fa14_1, fa19_0, len22, len24, fa26_0, fa26_1, fa26_2, len27, fa33_0, fa33_1, len35, fa77_0, fa77_1, fa88_0, fa88_1, fa88_2, fa88_3, fa88_4, fa88_5, fa114_0, fa114_1, fa114_2, fa124_0, fa124_1, len134, len136, len154, fa156_0, fa156_1, fa156_2, fa156_3, fa156_4, fa156_5, fa156_6, fa184_0, fa184_1, fa200_0, fa200_1, fa200_2, fa200_3, fa215_0, fa215_1, fa215_2, fa215_3, fa215_4, len218, len271, fa274_0, fa274_1, fa274_2, fa303_0, fa303_1, fa303_2, fa303_3, fa314_0, fa314_1, fa314_2, fa314_3, fa314_4, fa314_5, fa314_6, fa314_7, fa314_8, fa314_9, fa314_10]
    rw [ixn27 hx.ptr hlt, ld3 ((hx.gr hg).cell i hlt)]
    simp only [bin_add, bin_sub, bin_mul, bin_eql, bin_neq, bin_lss, bin_leq, bin_gtr, bin_geq, un_not, un_neg, zq4, zq3, zq1, zq2, zq0, cond_true', cond_false', zq14, zq15, zq16, zq17, zq13, zq10, zq12, zq11, zq7, zq5, zq6, zq9, zq8, resK_nil, resK_tmp, ite_T, ite_F, upd_at, add_plain, add_zero', Nat.reduceEqDiff, fa8_0, fa8_1, fa8_2, fa8_3, fa14_0, fa14_1, fa19_0, len22, len24, fa26_0, fa26_1, fa26_2, len27, fa33_0, fa33_1, len35, fa77_0, fa77_1, fa88_0, fa88_1, fa88_2, fa88_3, fa88_4, fa88_5, fa114_0, fa114_1, fa114_2, fa124_0, fa124_1, len134, len136, len154, fa156_0, fa156_1, fa156_2, fa156_3, fa156_4, fa156_5, fa156_6, fa184_0, fa184_1, fa200_0, fa200_1, fa200_2, fa200_3, fa215_0, fa215_1, fa215_2, fa215_3, fa215_4, len218, len271, fa274_0, fa274_1, fa274_2, fa303_0, fa303_1, fa303_2, fa303_3, fa314_0, fa314_1, fa314_2, fa314_3, fa314_4, fa314_5, fa314_6, fa314_7, fa314_8, fa314_9, fa314_10]
    by_cases he : xs.getD i 0 = n
    · simp only [he, decide_true, bin_add, bin_sub, bin_mul, bin_eql, bin_neq, bin_lss, bin_leq, bin_gtr, bin_geq, un_not, un_neg, zq4, zq3, zq1, zq2, zq0, cond_true', cond_false', zq14, zq15, zq16, zq17, zq13, zq10, zq12, zq11, zq7, zq5, zq6, zq9, zq8, resK_nil, resK_tmp, ite_T, ite_F, upd_at, add_plain, add_zero', Nat.reduceEqDiff, fa8_0, fa8_1, fa8_2, fa8_3, fa14_0, fa14_1, fa19_0, len22, len24, fa26_0, fa26_1, fa26_2, len27, fa33_0, fa33_1, len35, fa77_0, fa77_1, fa88_0, fa88_1, fa88_2, fa88_3, fa88_4, fa88_5, fa114_0, fa114_1, fa114_2, fa124_0, fa124_1, len134, len136, len154, fa156_0, fa156_1, fa156_2, fa156_3, fa156_4, fa156_5, fa156_6, fa184_0, fa184_1, fa200_0, fa200_1, fa200_2, fa200_3, fa215_0, fa215_1, fa215_2, fa215_3, fa215_4, len218, len271, fa274_0, fa274_1, fa274_2, fa303_0, fa303_1, fa303_2, fa303_3, fa314_0, fa314_1, fa314_2, fa314_3, fa314_4, fa314_5, fa314_6, fa314_7, fa314_8, fa314_9, fa314_10]
      have := hk _ hg
      rwa [decide_eq_true (by rw [← he]; exact getD_mem hlt)] at this
    · simp only [he, decide_false, bin_add, bin_sub, bin_mul, bin_eql, bin_neq, bin_lss, bin_leq, bin_gtr, bin_geq, un_not, un_neg, zq4, zq3, zq1, zq2, zq0, cond_true', cond_false', zq14, zq15, zq16, zq17, zq13, zq10, zq12, zq11, zq7, zq5, zq6, zq9, zq8, resK_nil, resK_tmp, ite_T, ite_F, upd_at, add_plain, add_zero', Nat.reduceEqDiff, fa8_0, fa8_1, fa8_2, fa8_3, fa14_0, fa14_1, fa19_0, len22, len24, fa26_0, fa26_1, fa26_2, len27, fa33_0, fa33_1, len35, fa77_0, fa77_1, fa88_0, fa88_1, fa88_2, fa88_3, fa88_4, fa88_5, fa114_0, fa114_1, fa114_2, fa124_0, fa124_1, len134, len136, len154, fa156_0, fa156_1, fa156_2, fa156_3, fa156_4, fa156_5, fa156_6, fa184_0, fa184_1, fa200_0, fa200_1, fa200_2, fa200_3, fa215_0, fa215_1, fa215_2, fa215_3, fa215_4, len218, len271, fa274_0, fa274_1, fa274_2, fa303_0, fa303_1, fa303_2, fa303_3, fa314_0, fa314_1, fa314_2, fa314_3, fa314_4, fa314_5, fa314_6, fa314_7, fa314_8, fa314_9, fa314_10]
      rw [i64_of (by omega) (by omega)]
      refine hN _ _ hlt ⟨by omega, rfl, hg, ?_⟩
      rw [take_snoc hlt, List.mem_append, List.mem_singleton]
      exact fun h => h.elim hpre fun e => he e.symm
  · simp only [show ¬ (i : Int) < xs.length from by omega, decide_false, bin_add, bin_sub, bin_mul, bin_eql, bin_neq, bin_lss, bin_leq, bin_gtr, bin_geq, un_not, un_neg, zq4, zq3, zq1, zq2, zq0, cond_true', cond_false', zq14, zq15, zq16, zq17, zq13, zq10, zq12, zq11, zq7, zq5, zq6, zq9, zq8, resK_nil, resK_tmp, ite_T, ite_F, upd_at, add_plain, add_zero', Nat.reduceEqDiff, fa8_0, fa8_1, fa8_2, fa8_3, fa14_0, fa14_1, fa19_0, len22, len24, fa26_0, fa26_1, fa26_2, len27, fa33_0, fa33_1, len35, fa77_0, fa77_1, fa88_0, fa88_1, fa88_2, fa88_3, fa88_4, fa88_5, fa114_0, fa114_1, fa114_2, fa124_0, fa124_1, len134, len136, len154, fa156_0, fa156_1, fa156_2, fa156_3, fa156_4, fa156_5, fa156_6, fa184_0, fa184_1, fa200_0, fa200_1, fa200_2, fa200_3, fa215_0, fa215_1, fa215_2, fa215_3, fa215_4, len218, len271, fa274_0, fa274_1, fa274_2, fa303_0, fa303_1, fa303_2, fa303_3, fa314_0, fa314_1, fa314_2, fa314_3, fa314_4, fa314_5, fa314_6, fa314_7, fa314_8, fa314_9, fa314_10]
    have := hk _ hg
    rw [List.take_of_length_le (by omega)] at hpre
    rwa [decide_eq_false hpre] at this
set_option maxHeartbeats 1600000 in
theorem l1Put_c {w : World} {X : Option Addr} {c : Nat} {xs : List Int} {n : Int} (hx : kI X xs c w) (hl : xs.length ≤ 100000) {k : Value → World → Prop} (hk : ∀ w' X' c', Gr w w' → kI X' (putL n xs) c' w' → k (.slice X' (putL n xs).length c') w') :
    CallK Try.prog 274 [.slice X xs.length c, .int .i64 n] k w := by
  refine enter274 ?_
  unfold S274
  obtain ⟨hi0, hc⟩ := hx
  refine loop_to xs.length 0 (fun i f w' => i ≤ xs.length ∧ f 5 = .int .i64 i ∧ w' = w ∧ ∀ j, j < i → xs.getD j 0 < n) ⟨Nat.zero_le _, rfl, rfl, fun j hj => by omega⟩ ?_
  rintro i f w1 N hag ⟨hi, h5, rfl, hpre⟩ hN
  have h0 : f 0 = .slice X xs.length c := hag 0 (by decide)
  have h1 : f 1 = .int .i64 n := hag 1 (by decide)
  simp only [h0, h1, h5, bin_add, bin_sub, bin_mul, bin_eql, bin_neq, bin_lss, bin_leq, bin_gtr, bin_geq, un_not, un_neg, zq4, zq3, zq1, zq2, zq0, cond_true', cond_false', zq14, zq15, zq16, zq17, zq13, zq10, zq12, zq11, zq7, zq5, zq6, zq9, zq8, resK_nil, resK_tmp, ite_T, ite_F, upd_at, add_plain, add_zero', Nat.reduceEqDiff, fa8_0, fa8_1, fa8_2, fa8_3, fa14_0, fa14_1, fa19_0, len22, len24, fa26_0, fa26_1, fa26_2, len27, fa33_0, fa33_1, len35, fa77_0, fa77_1, fa88_0, fa88_1, fa88_2, fa88_3, fa88_4, fa88_5, fa114_0, fa114_1, fa114_2, fa124_0, fa124_1, len134, len136, len154, fa156_0, fa156_1, fa156_2, fa156_3, fa156_4, fa156_5, fa156_6, fa184_0, fa184_1, fa200_0, fa200_1, fa200_2, fa200_3, fa215_0, fa215_1, fa215_2, fa215_3, fa215_4, len218, len271, fa274_0, fa274_1, fa274_2, fa303_0, fa303_1, fa303_2, fa303_3, fa314_0, fa314_1, fa314_2, fa314_3, fa314_4, fa314_5, fa314_6, fa314_7, fa314_8, fa314_9, fa314_10]
  have fin : (i < xs.length → ¬ xs.getD i 0 < n) → ∀ (K : Value → World → Prop), (∀ w' X' c', Gr w1 w' → kI X' (putL n xs) c' w' → K (.slice X' (putL n xs).length c') w') → ¬ (i < xs.length ∧ xs.getD i 0 = n) →
      Do Try.prog (sBuildSlice 27 0 []) (fun t37 w38 =>
        Rd Try.prog (WS.at w38) (sSlice 27 (.slice X xs.length c) none (some (.int .i64 i)) none) fun t39 =>
        Do Try.prog (sBuiltin .append #[27, 27] 27 [false, false] [t37, t39]) (fun t40 w41 =>
        Do Try.prog (sBuildSlice 27 1 [(0, .int .i64 n)]) (fun t42 w43 =>
        Do Try.prog (sBuiltin .append #[27, 27] 27 [false, false] [t40, t42]) (fun t44 w45 =>
        Rd Try.prog (WS.at w45) (sSlice 27 (.slice X xs.length c) (some (.int .i64 i)) none none) fun t46 =>
        Do Try.prog (sBuiltin .append #[27, 27] 27 [false, false] [t44, t46]) (fun t47 w48 => K t47 w48) w45) w43) w41) w38) w1 := fun hnot K hK hne => by
    have H := Apt.nil w1
    refine buildH H u27 inf3 [] (by decide) (by decide) (by simp [Instr.fill, madeCells]) rfl fun b0 w2 H => ?_
    simp only [List.nil_append] at H
    refine rdi (slh27 (by omega) (by omega)) ?_
    have hs1 : Ints w2 (sub X 0 c 1) (xs.take i) := by
      have := (hi0.gr H.gr).sub (l := 0) (c := c) (Nat.zero_le _) hc i
      simpa using this
    have hlt : (xs.take i).length = i := by simp; omega
    refine apH H 0 (xs := []) rfl hs1 rfl (by rw [hlt]; simp) (by simp; omega) fun X1 d1 w3 H => ?_
    simp only [List.set_cons_zero, List.nil_append] at H ⊢
    refine pushH H 0 rfl rfl (by omega) fun t1 X2 d2 w4 H => ?_
    simp only [List.set_cons_zero] at H
    refine rdi (sll27 (by omega) (by omega)) ?_
    have hs2 : Ints w4 (sub X i c 1) (xs.drop i) := by
      have := (hi0.gr H.gr).sub (l := i) (c := c) hi hc xs.length
      rwa [List.take_of_length_le (by simp)] at this
    rw [Int.toNat_natCast]
    refine apH H 0 rfl hs2 rfl (by simp) (by simp; omega) fun X3 d3 w5 H => ?_
    simp only [List.set_cons_zero] at H
    have e : xs.take i ++ [n] ++ xs.drop i = putL n xs := by
      rw [putL_split hi hpre hnot, if_neg hne, List.append_assoc]
      rfl
    rw [e] at H ⊢
    exact hK w5 X3 d3 H.gr ⟨H.ints 0 rfl, (H.row 0 rfl).cap.1⟩
  by_cases hlt : i < xs.length
  · have hlt' : (i : Int) < xs.length := by omega
    have := hi0.le
    simp only [hlt', decide_true, bin_add, bin_sub, bin_mul, bin_eql, bin_neq, bin_lss, bin_leq, bin_gtr, bin_geq, un_not, un_neg, zq4, zq3, zq1, zq2, zq0, cond_true', cond_false', zq14, zq15, zq16, zq17, zq13, zq10, zq12, zq11, zq7, zq5, zq6, zq9, zq8, resK_nil, resK_tmp, ite_T, ite_F, upd_at, add_plain, add_zero', Nat.reduceEqDiff, fa8_0, fa8_1, fa8_2, fa8_3, fa14_0, fa14_1, fa19_0, len22, len24, fa26_0, fa26_1, fa26_2, len27, fa33_0, fa33_1, len35, fa77_0, fa77_1, fa88_0, fa88_1, fa88_2, fa88_3, fa88_4, fa88_5, fa114_0, fa114_1, fa114_2, fa124_0, fa124_1, len134, len136, len154, fa156_0, fa156_1, fa156_2, fa156_3, fa156_4, fa156_5, fa156_6, fa184_0, fa184_1, fa200_0, fa200_1, fa200_2, fa200_3, fa215_0, fa215_1, fa215_2, fa215_3, fa215_4, len218, len271, fa274_0, fa274_1, fa274_2, fa303_0, fa303_1, fa303_2, fa303_3, fa314_0, fa314_1, fa314_2, fa314_3, fa314_4, fa314_5, fa314_6, fa314_7, fa314_8, fa314_9, fa314_10]
    rw [ixn27 hi0.ptr hlt, ld3 (hi0.cell i hlt)]
    simp only [bin_add, bin_sub, bin_mul, bin_eql, bin_neq, bin_lss, bin_leq, bin_gtr, bin_geq, un_not, un_neg, zq4, zq3, zq1, zq2, zq0, cond_true', cond_false', zq14, zq15, zq16, zq17, zq13, zq10, zq12, zq11, zq7, zq5, zq6, zq9, zq8, resK_nil, resK_tmp, ite_T, ite_F, upd_at, add_plain, add_zero', Nat.reduceEqDiff, fa8_0, fa8_1, fa8_2, fa8_3, fa14_0, fa14_1, fa19_0, len22, len24, fa26_0, fa26_1, fa26_2, len27, fa33_0, fa33_1, len35, fa77_0, fa77_1, fa88_0, fa88_1, fa88_2, fa88_3, fa88_4, fa88_5, fa114_0, fa114_1, fa114_2, fa124_0, fa124_1, len134, len136, len154, fa156_0, fa156_1, fa156_2, fa156_3, fa156_4, fa156_5, fa156_6, fa184_0, fa184_1, fa200_0, fa200_1, fa200_2, fa200_3, fa215_0, fa215_1, fa215_2, fa215_3, fa215_4, len218, len271, fa274_0, fa274_1, fa274_2, fa303_0, fa303_1, fa303_2, fa303_3, fa314_0, fa314_1, fa314_2, fa314_3, fa314_4, fa314_5, fa314_6, fa314_7, fa314_8, fa314_9, fa314_10]
    by_cases hlt2 : xs.getD i 0 < n
    · simp only [hlt2, decide_true, bin_add, bin_sub, bin_mul, bin_eql, bin_neq, bin_lss, bin_leq, bin_gtr, bin_geq, un_not, un_neg, zq4, zq3, zq1, zq2, zq0, cond_true', cond_false', zq14, zq15, zq16, zq17, zq13, zq10, zq12, zq11, zq7, zq5, zq6, zq9, zq8, resK_nil, resK_tmp, ite_T, ite_F, upd_at, add_plain, add_zero', Nat.reduceEqDiff, fa8_0, fa8_1, fa8_2, fa8_3, fa14_0, fa14_1, fa19_0, len22, len24, fa26_0, fa26_1, fa26_2, len27, fa33_0, fa33_1, len35, fa77_0, fa77_1, fa88_0, fa88_1, fa88_2, fa88_3, fa88_4, fa88_5, fa114_0, fa114_1, fa114_2, fa124_0, fa124_1, len134, len136, len154, fa156_0, fa156_1, fa156_2, fa156_3, fa156_4, fa156_5, fa156_6, fa184_0, fa184_1, fa200_0, fa200_1, fa200_2, fa200_3, fa215_0, fa215_1, fa215_2, fa215_3, fa215_4, len218, len271, fa274_0, fa274_1, fa274_2, fa303_0, fa303_1, fa303_2, fa303_3, fa314_0, fa314_1, fa314_2, fa314_3, fa314_4, fa314_5, fa314_6, fa314_7, fa314_8, fa314_9, fa314_10]
      rw [i64_of (by omega) (by omega)]
      refine hN _ _ hlt ⟨by omega, rfl, rfl, fun j hj => ?_⟩
      rcases Nat.lt_succ_iff_lt_or_eq.1 hj with h | rfl
      · exact hpre j h
      · exact hlt2
    · simp only [hlt2, decide_false, h0, h1, h5, bin_add, bin_sub, bin_mul, bin_eql, bin_neq, bin_lss, bin_leq, bin_gtr, bin_geq, un_not, un_neg, zq4, zq3, zq1, zq2, zq0, cond_true', cond_false', zq14, zq15, zq16, zq17, zq13, zq10, zq12, zq11, zq7, zq5, zq6, zq9, zq8, resK_nil, resK_tmp, ite_T, ite_F, upd_at, add_plain, add_zero', Nat.reduceEqDiff, fa8_0, fa8_1, fa8_2, fa8_3, fa14_0, fa14_1, fa19_0, len22, len24, fa26_0, fa26_1, fa26_2, len27, fa33_0, fa33_1, len35, fa77_0, fa77_1, fa88_0, fa88_1, fa88_2, fa88_3, fa88_4, fa88_5, fa114_0, fa114_1, fa114_2, fa124_0, fa124_1, len134, len136, len154, fa156_0, fa156_1, fa156_2, fa156_3, fa156_4, fa156_5, fa156_6, fa184_0, fa184_1, fa200_0, fa200_1, fa200_2, fa200_3, fa215_0, fa215_1, fa215_2, fa215_3, fa215_4, len218, len271, fa274_0, fa274_1, fa274_2, fa303_0, fa303_1, fa303_2, fa303_3, fa314_0, fa314_1, fa314_2, fa314_3, fa314_4, fa314_5, fa314_6, fa314_7, fa314_8, fa314_9, fa314_10]
      rw [ixn27 hi0.ptr hlt, ld3 (hi0.cell i hlt)]
      simp only [bin_add, bin_sub, bin_mul, bin_eql, bin_neq, bin_lss, bin_leq, bin_gtr, bin_geq, un_not, un_neg, zq4, zq3, zq1, zq2, zq0, cond_true', cond_false', zq14, zq15, zq16, zq17, zq13, zq10, zq12, zq11, zq7, zq5, zq6, zq9, zq8, resK_nil, resK_tmp, ite_T, ite_F, upd_at, add_plain, add_zero', Nat.reduceEqDiff, fa8_0, fa8_1, fa8_2, fa8_3, fa14_0, fa14_1, fa19_0, len22, len24, fa26_0, fa26_1, fa26_2, len27, fa33_0, fa33_1, len35, fa77_0, fa77_1, fa88_0, fa88_1, fa88_2, fa88_3, fa88_4, fa88_5, fa114_0, fa114_1, fa114_2, fa124_0, fa124_1, len134, len136, len154, fa156_0, fa156_1, fa156_2, fa156_3, fa156_4, fa156_5, fa156_6, fa184_0, fa184_1, fa200_0, fa200_1, fa200_2, fa200_3, fa215_0, fa215_1, fa215_2, fa215_3, fa215_4, len218, len271, fa274_0, fa274_1, fa274_2, fa303_0, fa303_1, fa303_2, fa303_3, fa314_0, fa314_1, fa314_2, fa314_3, fa314_4, fa314_5, fa314_6, fa314_7, fa314_8, fa314_9, fa314_10]
      by_cases he : xs.getD i 0 = n
      · simp only [he, decide_true, bin_add, bin_sub, bin_mul, bin_eql, bin_neq, bin_lss, bin_leq, bin_gtr, bin_geq, un_not, un_neg, zq4, zq3, zq1, zq2, zq0, cond_true', cond_false', zq14, zq15, zq16, zq17, zq13, zq10, zq12, zq11, zq7, zq5, zq6, zq9, zq8, resK_nil, resK_tmp, ite_T, ite_F, upd_at, add_plain, add_zero', Nat.reduceEqDiff, fa8_0, fa8_1, fa8_2, fa8_3, fa14_0, fa14_1, fa19_0, len22, len24, fa26_0, fa26_1, fa26_2, len27, fa33_0, fa33_1, len35, fa77_0, fa77_1, fa88_0, fa88_1, fa88_2, fa88_3, fa88_4, fa88_5, fa114_0, fa114_1, fa114_2, fa124_0, fa124_1, len134, len136, len154, fa156_0, fa156_1, fa156_2, fa156_3, fa156_4, fa156_5, fa156_6, fa184_0, fa184_1, fa200_0, fa200_1, fa200_2, fa200_3, fa215_0, fa215_1, fa215_2, fa215_3, fa215_4, len218, len271, fa274_0, fa274_1, fa274_2, fa303_0, fa303_1, fa303_2, fa303_3, fa314_0, fa314_1, fa314_2, fa314_3, fa314_4, fa314_5, fa314_6, fa314_7, fa314_8, fa314_9, fa314_10]
        have e : putL n xs = xs := by rw [putL_split hi hpre (fun _ => hlt2), if_pos ⟨hlt, he⟩]
        have := hk w1 X c (Gr.refl _)
        rw [e] at this
        exact this ⟨hi0, hc⟩
      · simp only [he, decide_false, bin_add, bin_sub, bin_mul, bin_eql, bin_neq, bin_lss, bin_leq, bin_gtr, bin_geq, un_not, un_neg, zq4, zq3, zq1, zq2, zq0, cond_true', cond_false', zq14, zq15, zq16, zq17, zq13, zq10, zq12, zq11, zq7, zq5, zq6, zq9, zq8, resK_nil, resK_tmp, ite_T, ite_F, upd_at, add_plain, add_zero', Nat.reduceEqDiff, fa8_0, fa8_1, fa8_2, fa8_3, fa14_0, fa14_1, fa19_0, len22, len24, fa26_0, fa26_1, fa26_2, len27, fa33_0, fa33_1, len35, fa77_0, fa77_1, fa88_0, fa88_1, fa88_2, fa88_3, fa88_4, fa88_5, fa114_0, fa114_1, fa114_2, fa124_0, fa124_1, len134, len136, len154, fa156_0, fa156_1, fa156_2, fa156_3, fa156_4, fa156_5, fa156_6, fa184_0, fa184_1, fa200_0, fa200_1, fa200_2, fa200_3, fa215_0, fa215_1, fa215_2, fa215_3, fa215_4, len218, len271, fa274_0, fa274_1, fa274_2, fa303_0, fa303_1, fa303_2, fa303_3, fa314_0, fa314_1, fa314_2, fa314_3, fa314_4, fa314_5, fa314_6, fa314_7, fa314_8, fa314_9, fa314_10]
        exact fin (fun _ => hlt2) k hk (fun h => he h.2)
  · simp only [show ¬ (i : Int) < xs.length from by omega, decide_false, h0, h1, h5, bin_add, bin_sub, bin_mul, bin_eql, bin_neq, bin_lss, bin_leq, bin_gtr, bin_geq, un_not, un_neg, zq4, zq3, zq1, zq2, zq0, cond_true', cond_false', zq14, zq15, zq16, zq17, zq13, zq10, zq12, zq11, zq7, zq5, zq6, zq9, zq8, resK_nil, resK_tmp, ite_T, ite_F, upd_at, add_plain, add_zero', Nat.reduceEqDiff, fa8_0, fa8_1, fa8_2, fa8_3, fa14_0, fa14_1, fa19_0, len22, len24, fa26_0, fa26_1, fa26_2, len27, fa33_0, fa33_1, len35, fa77_0, fa77_1, fa88_0, fa88_1, fa88_2, fa88_3, fa88_4, fa88_5, fa114_0, fa114_1, fa114_2, fa124_0, fa124_1, len134, len136, len154, fa156_0, fa156_1, fa156_2, fa156_3, fa156_4, fa156_5, fa156_6, fa184_0, fa184_1, fa200_0, fa200_1, fa200_2, fa200_3, fa215_0, fa215_1, fa215_2, fa215_3, fa215_4, len218, len271, fa274_0, fa274_1, fa274_2, fa303_0, fa303_1, fa303_2, fa303_3, fa314_0, fa314_1, fa314_2, fa314_3, fa314_4, fa314_5, fa314_6, fa314_7, fa314_8, fa314_9, fa314_10]
    exact fin (fun h => absurd h hlt) k hk (fun h => hlt h.1)
end Go.Proofs.Ytegcjkhebecgbaa

/- Contracts: words of so many tokens, and all short words of a language, by the program. -/
set_option linter.unusedVariables false
set_option linter.unusedSimpArgs false
set_option maxRecDepth 100000
namespace Go.Sh
open Go
/-- Slices of numbers of which those from place n on are the call's own still. -/
structure OwnSF (e1 e2 : Nat) (w : World) (B : Nat) (X : Option Addr) (c : Nat) (ls : List (List Int)) (ps : Nat → Option Addr × Nat) (n : Nat) : Prop where
  row : ∃ cells, Row w B e1 1 X ls.length c cells ∧ ∀ j, j < ls.length → cells[j]? = some (.slice (ps j).1 (rgt ls j).length (ps j).2)
  own : ∀ j, n ≤ j → j < ls.length → Own e2 w B (ps j).1 (ps j).2 (rgt ls j)
  two : ∀ i j, n ≤ i → n ≤ j → i < ls.length → j < ls.length → i ≠ j → blk (ps i).1 = none ∨ blk (ps i).1 ≠ blk (ps j).1
def FootF (X : Option Addr) (ps : Nat → Option Addr × Nat) (n m : Nat) (q : Nat) : Prop := blk X = some q ∨ ∃ l, n ≤ l ∧ l < m ∧ blk (ps l).1 = some q
section
variable {e1 e2 c n B : Nat} {w w' w0 : World} {X : Option Addr} {ls : List (List Int)} {ps : Nat → Option Addr × Nat} {L : List Thing}
theorem OwnSF.same (h : OwnSF e1 e2 w B X c ls ps n) (hs : ∀ q, FootF X ps n ls.length q → w'.heap[q]? = w.heap[q]?) : OwnSF e1 e2 w' B X c ls ps n := by
  obtain ⟨⟨cells, hr, hc⟩, ho, ht⟩ := h
  exact ⟨⟨cells, hr.same fun q hq => hs q (.inl hq), hc⟩, fun j hn hj => Row.same (ho j hn hj) fun q hq => hs q (.inr ⟨j, hn, hj, hq⟩), ht⟩
theorem OwnSF.up {B' : Nat} (h : OwnSF e1 e2 w B X c ls ps n) (hs : ∀ q, FootF X ps n ls.length q → B' ≤ q) : OwnSF e1 e2 w B' X c ls ps n := by
  obtain ⟨⟨cells, hr, hc⟩, ho, ht⟩ := h
  exact ⟨⟨cells, hr.up fun q hq => hs q (.inl hq), hc⟩, fun j hn hj => Row.up (ho j hn hj) fun q hq => hs q (.inr ⟨j, hn, hj, hq⟩), ht⟩
theorem OwnSF.mono {B' : Nat} (h : OwnSF e1 e2 w B X c ls ps n) (hb : B' ≤ B) : OwnSF e1 e2 w B' X c ls ps n := by
  obtain ⟨⟨cells, hr, hc⟩, ho, ht⟩ := h
  exact ⟨⟨cells, Row.mono hr hb, hc⟩, fun j hn hj => Row.mono (ho j hn hj) hb, ht⟩
theorem OwnSF.foot (h : OwnSF e1 e2 w B X c ls ps n) {q : Nat} (hq : FootF X ps n ls.length q) : B ≤ q ∧ q < w.heap.size := by
  obtain ⟨⟨cells, hr, hc⟩, ho, ht⟩ := h
  rcases hq with hq | ⟨l, hn, hl, hq⟩
  · exact hr.ge hq
  · exact Row.ge (ho l hn hl) hq
theorem OwnSF.ptr (h : OwnSF e1 e2 w B X c ls ps n) (hl : 0 < ls.length) : X = some (ad X) := by
  obtain ⟨⟨cells, hr, hc⟩, _⟩ := h
  exact hr.ptr hl
theorem OwnSF.cell (h : OwnSF e1 e2 w B X c ls ps n) {j : Nat} (hj : j < ls.length) : w.cell? ((ad X).add j) = some (.slice (ps j).1 (rgt ls j).length (ps j).2) := by
  obtain ⟨⟨cells, hr, hc⟩, _⟩ := h
  exact hr.src.cell _ _ (hc j hj)
end
end Go.Sh
namespace Go.Proofs.Ytegcjkhebecgbaa
open Go Go.Sh Go.RowKit
end Go.Proofs.Ytegcjkhebecgbaa

/- Contract: what comes again and again, by the program. -/
set_option linter.unusedVariables false
set_option linter.unusedSimpArgs false
set_option maxRecDepth 100000
namespace Go.Proofs.Ytegcjkhebecgbaa
open Go Go.Sh Go.RowKit

end Go.Proofs.Ytegcjkhebecgbaa

/- Bm: bodies of functions as terms of the frame calculus, printed by shgen.py of this repository. -/
set_option linter.unusedVariables false
set_option maxRecDepth 100000
namespace Go.Proofs.Ytegcjkhebecgbaa
open Go Go.Sh

/-! loop.example/g00758/spec.l20Two -/
end Go.Proofs.Ytegcjkhebecgbaa

/- Contract: whether two grammars may be set beside each other (the reference's l20Two). -/
set_option linter.unusedVariables false
set_option linter.unusedSimpArgs false
set_option maxRecDepth 100000
namespace Go.Sh
open Go
end Go.Sh
namespace Go.Proofs.Ytegcjkhebecgbaa
open Go Go.Sh Go.RowKit

end Go.Proofs.Ytegcjkhebecgbaa

/- Contracts: words in order, the first unlike word of two lists (the reference), equal lists (the program's library). -/
set_option linter.unusedVariables false
set_option linter.unusedSimpArgs false
set_option maxRecDepth 100000
namespace Go.Sh
open Go
end Go.Sh
namespace Go.Proofs.Ytegcjkhebecgbaa
open Go Go.Sh Go.RowKit
end Go.Proofs.Ytegcjkhebecgbaa

/- Contracts: equal lists (the program's library), SameUpTo of the reference and of the program. -/
set_option linter.unusedVariables false
set_option linter.unusedSimpArgs false
set_option maxRecDepth 100000
namespace Go.Sh
open Go
end Go.Sh
namespace Go.Proofs.Ytegcjkhebecgbaa
open Go Go.Sh Go.RowKit
end Go.Proofs.Ytegcjkhebecgbaa

/- Contracts: words compared (the program's library), FirstUnlike of the reference and of the program. -/
set_option linter.unusedVariables false
set_option linter.unusedSimpArgs false
set_option maxRecDepth 100000
namespace Go.Sh
open Go
def cmpI (x y : Int) : Int := if x < y then -1 else if y < x then 1 else 0
def cmpL : List Int → List Int → Int
  | x :: xs, y :: ys => if cmpI x y ≠ 0 then cmpI x y else cmpL xs ys
  | [], [] => 0
  | [], _ :: _ => -1
  | _ :: _, [] => 1
theorem cmpI_lt {x y : Int} : cmpI x y < 0 ↔ x < y := by
  unfold cmpI
  split
  · omega
  · split <;> omega
theorem cmpI_eq {x y : Int} : cmpI x y = 0 ↔ x = y := by
  unfold cmpI
  split
  · omega
  · split <;> omega
/-- The rest of a list of slices, from place i on. -/
structure AtS (w : World) (X : Option Addr) (n c : Nat) (ls : List (List Int)) (ps : Nat → Option Addr × Nat) (i : Nat) : Prop where
  len : n = ls.length - i
  le : n ≤ c
  ptr : 0 < n → X = some (ad X)
  cell : ∀ j, j < n → w.cell? ((ad X).add j) = some (.slice (ps (i + j)).1 (rgt ls (i + j)).length (ps (i + j)).2)
theorem AtS.gr {w w' : World} {X : Option Addr} {n c i : Nat} {ls : List (List Int)} {ps : Nat → Option Addr × Nat} (h : AtS w X n c ls ps i) (g : Gr w w') : AtS w' X n c ls ps i := ⟨h.len, h.le, h.ptr, fun j hj => g.cell (h.cell j hj)⟩
theorem AtS.first {w : World} {X : Option Addr} {n c i : Nat} {ls : List (List Int)} {ps : Nat → Option Addr × Nat} (h : AtS w X n c ls ps i) (h0 : 0 < n) : w.cell? ((ad X).add 0) = some (.slice (ps i).1 (rgt ls i).length (ps i).2) := h.cell 0 h0
theorem AtS.next {w : World} {X : Option Addr} {n c i : Nat} {ls : List (List Int)} {ps : Nat → Option Addr × Nat} (h : AtS w X n c ls ps i) (h0 : 0 < n) : AtS w (sub X 1 c 1) (n - 1) (c - 1) ls ps (i + 1) := by
  have hl := h.len
  have hle := h.le
  have hX := h.ptr h0
  refine ⟨by omega, by omega, fun h1 => ?_, fun j hj => ?_⟩
  · unfold Sh.sub
    rw [if_neg (by omega), hX]
    rfl
  · have := h.cell (j + 1) (by omega)
    unfold Sh.sub
    rw [if_neg (by omega), hX]
    show w.cell? (((ad X).add (1 * 1)).add j) = _
    rw [add_add, show 1 * 1 + j = j + 1 from by omega, this, show i + (j + 1) = i + 1 + j from by omega]
theorem AtS.of {w : World} {e1 e2 B c : Nat} {X : Option Addr} {ls : List (List Int)} {ps : Nat → Option Addr × Nat} (o : OwnSS e1 e2 w B X c ls ps) : AtS w X ls.length c ls ps 0 := by
  refine ⟨by omega, ?_, fun h => o.ptr h, fun j hj => ?_⟩
  · obtain ⟨⟨cells, hr, hc⟩, _⟩ := o
    exact hr.cap.1
  · rw [Nat.zero_add]
    exact o.cell hj
end Go.Sh
namespace Go.Proofs.Ytegcjkhebecgbaa
open Go Go.Sh Go.RowKit
end Go.Proofs.Ytegcjkhebecgbaa

/- The first of rising lists: the plain law. -/
set_option linter.unusedVariables false
set_option linter.unusedSimpArgs false
set_option maxRecDepth 100000
namespace Go.Sh
open Go
def ltL (a b : List Int) : Prop := cmpL a b < 0
theorem cmpI_anti (x y : Int) : cmpI y x = - cmpI x y := by
  unfold cmpI
  by_cases h1 : x < y
  · rw [if_pos h1, if_neg (by omega), if_pos h1]
    rfl
  · by_cases h2 : y < x
    · rw [if_pos h2, if_neg h1, if_pos h2]
    · rw [if_neg h2, if_neg h1, if_neg h1, if_neg h2]
      rfl
theorem cmpL_anti : ∀ a b : List Int, cmpL b a = - cmpL a b := by
  intro a
  induction a with
  | nil => intro b; cases b <;> rfl
  | cons x a ih =>
    intro b
    cases b with
    | nil => rfl
    | cons y b =>
      rw [cmpL, cmpL, cmpI_anti x y]
      by_cases h : cmpI x y = 0
      · rw [if_neg (fun e => e (by omega)), if_neg (fun e => e h)]
        exact ih b
      · rw [if_pos h, if_pos (by omega)]
theorem cmpL_zero : ∀ {a b : List Int}, cmpL a b = 0 → a = b := by
  intro a
  induction a with
  | nil => intro b h; cases b with
    | nil => rfl
    | cons y b => cases h
  | cons x a ih =>
    intro b h
    cases b with
    | nil => cases h
    | cons y b =>
      rw [cmpL] at h
      by_cases e : cmpI x y = 0
      · rw [if_neg (fun h => h e)] at h
        rw [cmpI_eq.1 e, ih h]
      · rw [if_pos e] at h
        exact absurd h e
theorem ltL_irrefl (a : List Int) : ¬ ltL a a := by
  intro h
  have := cmpL_anti a a
  unfold ltL at h
  omega
theorem ltL_tri (a b : List Int) : ltL a b ∨ a = b ∨ ltL b a := by
  unfold ltL
  have := cmpL_anti a b
  by_cases h : cmpL a b = 0
  · exact .inr (.inl (cmpL_zero h))
  · omega
theorem ltL_cons {x y : Int} {a b : List Int} : ltL (x :: a) (y :: b) ↔ x < y ∨ (x = y ∧ ltL a b) := by
  unfold ltL
  rw [cmpL]
  by_cases e : cmpI x y = 0
  · rw [if_neg (fun h => h e)]
    have := cmpI_eq.1 e
    omega
  · rw [if_pos e, cmpI_lt]
    have : ¬ x = y := fun h => e (cmpI_eq.2 h)
    omega
theorem ltL_trans : ∀ {a b c : List Int}, ltL a b → ltL b c → ltL a c := by
  intro a
  induction a with
  | nil =>
    intro b c h1 h2
    cases c with
    | nil =>
      cases b with
      | nil => exact h2
      | cons y b => exact absurd h2 (by unfold ltL; show ¬ ((1 : Int) < 0); omega)
    | cons z c => show (-1 : Int) < 0; omega
  | cons x a ih =>
    intro b c h1 h2
    cases b with
    | nil => exact absurd h1 (by unfold ltL; show ¬ ((1 : Int) < 0); omega)
    | cons y b =>
      cases c with
      | nil => exact absurd h2 (by unfold ltL; show ¬ ((1 : Int) < 0); omega)
      | cons z c =>
        rw [ltL_cons] at h1 h2 ⊢
        rcases h1 with h1 | ⟨h1, h1'⟩
        · rcases h2 with h2 | ⟨h2, h2'⟩
          · exact .inl (by omega)
          · exact .inl (by omega)
        · rcases h2 with h2 | ⟨h2, h2'⟩
          · exact .inl (by omega)
          · exact .inr ⟨by omega, ih h1' h2'⟩
/-- Rising. -/
abbrev Rise (l : List (List Int)) : Prop := l.Pairwise ltL
theorem rise_sub : ∀ {l' l : List (List Int)}, Rise l → Rise l' → (∀ x ∈ l, x ∈ l') → l.Sublist l' := by
  intro l'
  induction l' with
  | nil =>
    intro l _ _ h
    cases l with
    | nil => exact List.Sublist.slnil
    | cons a l => exact absurd (h a (List.mem_cons_self ..)) (by simp)
  | cons b s ih =>
    intro l hl hl' h
    cases l with
    | nil => exact List.nil_sublist _
    | cons a t =>
      have hl1 := List.pairwise_cons.1 hl
      have hl2 := List.pairwise_cons.1 hl'
      rcases List.mem_cons.1 (h a (List.mem_cons_self ..)) with e | e
      · subst e
        refine List.Sublist.cons_cons _ (ih hl1.2 hl2.2 fun x hx => ?_)
        rcases List.mem_cons.1 (h x (List.mem_cons_of_mem _ hx)) with e | e
        · subst e
          exact absurd (hl1.1 _ hx) (ltL_irrefl _)
        · exact e
      · refine List.Sublist.cons _ (ih hl hl2.2 fun x hx => ?_)
        rcases List.mem_cons.1 (h x hx) with e' | e'
        · subst e'
          rcases List.mem_cons.1 hx with e2 | e2
          · subst e2
            exact e
          · exact absurd (ltL_trans (hl1.1 _ e2) (hl2.1 _ e)) (ltL_irrefl _)
        · exact e'
/-- The first M lists of a set, rising. -/
structure Firsts (M : Nat) (S : List Int → Prop) (l : List (List Int)) : Prop where
  rise : Rise l
  mem : ∀ x ∈ l, S x
  len : l.length ≤ M
  all : ∀ x, S x → x ∈ l ∨ (l.length = M ∧ ∀ y ∈ l, ltL y x)
theorem Firsts.sub {M : Nat} {S : List Int → Prop} {l l' : List (List Int)} (h : Firsts M S l) (h' : Firsts M S l') : ∀ x ∈ l, x ∈ l' := by
  intro x hx
  rcases h'.all x (h.mem x hx) with e | ⟨e1, e2⟩
  · exact e
  · exfalso
    have hs : l'.Sublist l := rise_sub h'.rise h.rise fun y hy => by
      rcases h.all y (h'.mem y hy) with e | ⟨_, e3⟩
      · exact e
      · exact absurd (ltL_trans (e2 y hy) (e3 x hx)) (ltL_irrefl _)
    have := hs.eq_of_length_le (by rw [e1]; exact h.len)
    subst this
    exact ltL_irrefl _ (e2 x hx)
theorem Firsts.nil (M : Nat) {S : List Int → Prop} (h : ∀ x, ¬ S x) : Firsts M S [] := ⟨List.Pairwise.nil, fun x hx => by simp at hx, Nat.zero_le _, fun x hx => absurd hx (h x)⟩
theorem Firsts.zero (S : List Int → Prop) : Firsts 0 S [] := ⟨List.Pairwise.nil, fun x hx => by simp at hx, Nat.zero_le _, fun x hx => .inr ⟨rfl, fun y hy => by simp at hy⟩⟩
theorem Firsts.congr {M : Nat} {S S' : List Int → Prop} {l : List (List Int)} (h : Firsts M S l) (e : ∀ x, S' x ↔ S x) : Firsts M S' l := ⟨h.rise, fun x hx => (e x).2 (h.mem x hx), h.len, fun x hx => h.all x ((e x).1 hx)⟩
/-- M of S that are less than x. -/
def Under (M : Nat) (S : List Int → Prop) (x : List Int) : Prop := ∃ ys, Rise ys ∧ ys.length = M ∧ ∀ y ∈ ys, S y ∧ ltL y x
theorem Firsts.more {M : Nat} {S S' : List Int → Prop} {l : List (List Int)} (h : Firsts M S l) (h1 : ∀ x, S x → S' x) (h2 : ∀ x, S' x → S x ∨ Under M S x) : Firsts M S' l := by
  refine ⟨h.rise, fun x hx => h1 x (h.mem x hx), h.len, fun x hx => ?_⟩
  rcases h2 x hx with e | ⟨ys, hy1, hy2, hy3⟩
  · exact h.all x e
  by_cases hxl : x ∈ l
  · exact .inl hxl
  have key : ∀ z ∈ l, ltL z x := fun z hz => by
    rcases ltL_tri z x with e | e | e
    · exact e
    · subst e
      exact absurd hz hxl
    · exfalso
      have hs : ys.Sublist l := rise_sub hy1 h.rise fun y hy => by
        rcases h.all y (hy3 y hy).1 with e1 | ⟨_, e1⟩
        · exact e1
        · exact absurd (ltL_trans (e1 z hz) (ltL_trans (hy3 y hy).2 e)) (ltL_irrefl _)
      have := hs.eq_of_length_le (by rw [hy2]; exact h.len)
      subst this
      exact absurd (ltL_trans (hy3 z hz).2 e) (ltL_irrefl _)
  refine .inr ⟨?_, key⟩
  by_cases hlt : l.length = M
  · exact hlt
  · exfalso
    have hs : ys.Sublist l := rise_sub hy1 h.rise fun y hy => by
      rcases h.all y (hy3 y hy).1 with e1 | ⟨e1, _⟩
      · exact e1
      · exact absurd e1 hlt
    have := hs.length_le
    have := h.len
    omega
theorem Firsts.of_rise (M : Nat) {l : List (List Int)} (h : Rise l) : Firsts M (fun x => x ∈ l) (l.take M) := by
  refine ⟨h.sublist (List.take_sublist _ _), fun x hx => (List.take_sublist _ _).subset hx, by rw [List.length_take]; omega, fun x hx => ?_⟩
  rw [← List.take_append_drop M l] at hx
  rcases List.mem_append.1 hx with e | e
  · exact .inl e
  · refine .inr ⟨?_, fun y hy => ?_⟩
    · rw [List.length_take]
      have : 0 < (l.drop M).length := List.length_pos_of_mem e
      rw [List.length_drop] at this
      omega
    · have h' := h
      rw [← List.take_append_drop M l] at h'
      exact (List.pairwise_append.1 h').2.2 y hy x e
theorem Firsts.take {M m : Nat} {S : List Int → Prop} {l : List (List Int)} (h : Firsts M S l) (hm : m ≤ M) : Firsts m S (l.take m) := by
  refine (Firsts.of_rise m h.rise).more h.mem fun x hx => ?_
  rcases h.all x hx with e | ⟨e1, e2⟩
  · exact .inl e
  · refine .inr ⟨l.take m, h.rise.sublist (List.take_sublist _ _), by rw [List.length_take]; omega, fun y hy => ?_⟩
    have := (List.take_sublist _ _).subset hy
    exact ⟨this, e2 y this⟩
/-- One more comes. -/
theorem Firsts.add {M : Nat} {S : List Int → Prop} {pre post : List (List Int)} {x : List Int} (h : Firsts M S (pre ++ post)) (h1 : ∀ y ∈ pre, ltL y x) (h2 : ∀ y ∈ post, ltL x y) : Firsts M (fun z => S z ∨ z = x) (if M ≤ pre.length then pre ++ post else (pre ++ x :: post).take M) := by
  have hr : Rise (pre ++ x :: post) := by
    have := List.pairwise_append.1 h.rise
    refine List.pairwise_append.2 ⟨this.1, List.pairwise_cons.2 ⟨h2, this.2.1⟩, fun a ha b hb => ?_⟩
    rcases List.mem_cons.1 hb with e | e
    · subst e
      exact h1 a ha
    · exact this.2.2 a ha b e
  have hlen := h.len
  rw [List.length_append] at hlen
  have hf := Firsts.of_rise M hr
  have he : (pre ++ x :: post).take M = if M ≤ pre.length then pre ++ post else (pre ++ x :: post).take M := by
    split
    · rw [List.take_append_of_le_length (by omega), List.take_of_length_le (by omega)]
      have : post = [] := List.eq_nil_of_length_eq_zero (by omega)
      rw [this, List.append_nil]
    · rfl
  rw [← he]
  refine hf.more (fun z hz => ?_) fun z hz => ?_
  · rcases List.mem_append.1 hz with e | e
    · exact .inl (h.mem z (List.mem_append_left _ e))
    · rcases List.mem_cons.1 e with e | e
      · exact .inr e
      · exact .inl (h.mem z (List.mem_append_right _ e))
  · have hsub : ∀ y ∈ pre ++ post, y ∈ pre ++ x :: post := fun y hy => by
      rcases List.mem_append.1 hy with e | e
      · exact List.mem_append_left _ e
      · exact List.mem_append_right _ (List.mem_cons_of_mem _ e)
    rcases hz with hz | hz
    · rcases h.all z hz with e | ⟨e1, e2⟩
      · exact .inl (hsub z e)
      · exact .inr ⟨pre ++ post, h.rise, e1, fun y hy => ⟨hsub y hy, e2 y hy⟩⟩
    · subst hz
      exact .inl (List.mem_append_right _ (List.mem_cons_self ..))
/-- Others come behind. -/
theorem Firsts.append {M : Nat} {S S' : List Int → Prop} {l l' : List (List Int)} (h : Firsts M S l) (h' : Firsts (M - l.length) S' l') (hl : ∀ x y, S x → S' y → ltL x y) : Firsts M (fun z => S z ∨ S' z) (l ++ l') := by
  have h1 := h.len
  have h2 := h'.len
  refine ⟨List.pairwise_append.2 ⟨h.rise, h'.rise, fun a ha b hb => hl a b (h.mem a ha) (h'.mem b hb)⟩, fun x hx => ?_, by rw [List.length_append]; omega, fun x hx => ?_⟩
  · rcases List.mem_append.1 hx with e | e
    · exact .inl (h.mem x e)
    · exact .inr (h'.mem x e)
  · rcases hx with hx | hx
    · rcases h.all x hx with e | ⟨e1, e2⟩
      · exact .inl (List.mem_append_left _ e)
      · have : l' = [] := List.eq_nil_of_length_eq_zero (by omega)
        subst this
        rw [List.append_nil]
        exact .inr ⟨e1, e2⟩
    · rcases h'.all x hx with e | ⟨e1, e2⟩
      · exact .inl (List.mem_append_right _ e)
      · refine .inr ⟨by rw [List.length_append]; omega, fun y hy => ?_⟩
        rcases List.mem_append.1 hy with e | e
        · exact hl y x (h.mem y e) hx
        · exact e2 y e
theorem Firsts.map {M : Nat} {S : List Int → Prop} {l : List (List Int)} (h : Firsts M S l) (q : Int) : Firsts M (fun t => ∃ r, S r ∧ t = q :: r) (l.map (q :: ·)) := by
  refine ⟨List.pairwise_map.2 (h.rise.imp fun e => ltL_cons.2 (.inr ⟨rfl, e⟩)), fun x hx => ?_, by rw [List.length_map]; exact h.len, fun x hx => ?_⟩
  · obtain ⟨r, hr, rfl⟩ := List.mem_map.1 hx
    exact ⟨r, h.mem r hr, rfl⟩
  · obtain ⟨r, hr, rfl⟩ := hx
    rcases h.all r hr with e | ⟨e1, e2⟩
    · exact .inl (List.mem_map.2 ⟨r, e, rfl⟩)
    · refine .inr ⟨by rw [List.length_map]; exact e1, fun y hy => ?_⟩
      obtain ⟨y', hy', rfl⟩ := List.mem_map.1 hy
      exact ltL_cons.2 (.inr ⟨rfl, e2 y' hy'⟩)
/-! What two sets have together. -/
end Go.Sh

/- Numbers of trees by size: the plain law. -/
set_option linter.unusedVariables false
set_option linter.unusedSimpArgs false
set_option maxRecDepth 100000
namespace Go.Sh
open Go
def sumN (f : Nat → Nat) : Nat → Nat
  | 0 => 0
  | n + 1 => sumN f n + f n
/-- In how many ways symbols have trees of size s in all between i and j; c tells the nonterminals' numbers. -/
def cntR (c : Nat → Nat → Nat → Nat → Nat) (ws : List Int) : List Int → Nat → Nat → Nat → Nat
  | [], i, j, s => if i = j ∧ s = 0 then 1 else 0
  | x :: xs, i, j, s => if x < 0 then (if i < j ∧ ws.getD i 0 = -1 - x then cntR c ws xs (i + 1) j s else 0)
      else sumN (fun m => sumN (fun k => c x.toNat i (i + m) (k + 1) * cntR c ws xs (i + m) j (s - (k + 1))) s) (j + 1 - i)
def sumR (rs : List RuleL) (p : RuleL → Nat) : Nat := rs.foldl (fun a r => a + p r) 0
def cntT (rs : List RuleL) (ws : List Int) : Nat → Nat → Nat → Nat → Nat → Nat
  | 0, _, _, _, _ => 0
  | f + 1, A, i, j, s => if s = 0 then 0 else sumR rs fun r => if r.1 = (A : Int) then cntR (cntT rs ws f) ws r.2 i j (s - 1) else 0
/-- How many trees of size s. -/
def cntC (rs : List RuleL) (ws : List Int) (A i j s : Nat) : Nat := cntT rs ws s A i j s
theorem sumN_congr {f g : Nat → Nat} : ∀ {n : Nat}, (∀ k, k < n → f k = g k) → sumN f n = sumN g n := by
  intro n
  induction n with
  | zero => intro _; rfl
  | succ n ih =>
    intro h
    rw [sumN, sumN, ih fun k hk => h k (by omega), h n (by omega)]
theorem cntR_congr {c c' : Nat → Nat → Nat → Nat → Nat} {ws : List Int} : ∀ {xs : List Int} {i j s : Nat}, (∀ A i j k, k ≤ s → c A i j k = c' A i j k) → cntR c ws xs i j s = cntR c' ws xs i j s := by
  intro xs
  induction xs with
  | nil => intro i j s _; rfl
  | cons x xs ih =>
    intro i j s h
    rw [cntR, cntR]
    split
    · split
      · exact ih h
      · rfl
    · refine sumN_congr fun m _ => sumN_congr fun k hk => ?_
      rw [h _ _ _ _ (by omega), ih fun A i j k' hk' => h A i j k' (by omega)]
theorem sumR_congr {rs : List RuleL} {p q : RuleL → Nat} (h : ∀ r, p r = q r) : sumR rs p = sumR rs q := by
  rw [show p = q from funext h]
theorem cntT_more {rs : List RuleL} {ws : List Int} : ∀ {f g A i j s : Nat}, s ≤ f → s ≤ g → cntT rs ws f A i j s = cntT rs ws g A i j s := by
  intro f
  induction f with
  | zero =>
    intro g A i j s h1 h2
    obtain rfl : s = 0 := by omega
    cases g with
    | zero => rfl
    | succ g => rw [cntT, cntT, if_pos rfl]
  | succ f ih =>
    intro g A i j s h1 h2
    cases g with
    | zero =>
      obtain rfl : s = 0 := by omega
      rw [cntT, cntT, if_pos rfl]
    | succ g =>
      rw [cntT, cntT]
      split
      · rfl
      · refine sumR_congr fun r => ?_
        split
        · exact cntR_congr fun A i j k hk => ih (by omega) (by omega)
        · rfl
theorem cntC_zero (rs : List RuleL) (ws : List Int) (A i j : Nat) : cntC rs ws A i j 0 = 0 := rfl
theorem cntC_succ (rs : List RuleL) (ws : List Int) (A i j s : Nat) : cntC rs ws A i j (s + 1) = sumR rs fun r => if r.1 = (A : Int) then cntR (cntC rs ws) ws r.2 i j s else 0 := by
  unfold cntC
  rw [cntT, if_neg (by omega)]
  refine sumR_congr fun r => ?_
  split
  · exact cntR_congr fun A i j k hk => cntT_more (by omega) (Nat.le_refl _)
  · rfl
end Go.Sh

/- Where there are trees there is a span; what the reference and the program reckon with, kept at most M. -/
set_option linter.unusedVariables false
set_option linter.unusedSimpArgs false
set_option maxRecDepth 100000
namespace Go.Sh
open Go
theorem Inc.still {α : Type} {f : TS → α → TS} : ∀ {l : List α} {s : TS}, (∀ a ∈ l, ∀ s, Inc s (f s a)) → s.2 = false → (l.foldl f s).2 = false → ∀ a ∈ l, f s a = s := by
  intro l
  induction l with
  | nil => intro s _ _ _ a ha; simp at ha
  | cons b l ih =>
    intro s h hs he a ha
    rw [List.foldl_cons] at he
    have hb : f s b = s := by
      rcases h b (List.mem_cons_self ..) s with e | ⟨e, _⟩
      · exact e
      · exfalso
        rcases Inc.fold (fun c hc => h c (List.mem_cons_of_mem _ hc)) (f s b) with e' | ⟨e', _⟩
        · rw [e', e] at he
          cases he
        · rw [e'] at he
          cases he
    rcases List.mem_cons.1 ha with rfl | ha
    · exact hb
    · rw [hb] at he
      exact ih (fun c hc => h c (List.mem_cons_of_mem _ hc)) hs he a ha
theorem pass_closed {rs : List (Int × List Int)} {w : List Int} {T : Tab} (hr : ∀ r ∈ rs, r.1.toNat < 6) (hw : w.length ≤ 10) (h : (passT rs w (T, false)).2 = false) {r : Int × List Int} (hm : r ∈ rs) {i j : Nat} (hij : i ≤ j) (hj : j ≤ w.length) (hf : fitsT T w r.2 i j = true) : T r.1.toNat i j = true := by
  have h1 := Inc.still (f := ruleT w) (fun r h s => ruleT_inc (hr r h) hw s) rfl h r hm
  have h2 := Inc.still (f := rowT w r) (l := List.range (w.length + 1)) (s := (T, false)) (fun i hi s => rowT_inc (hr r hm) hw (by have := List.mem_range.1 hi; omega) s) rfl (by
    show (ruleT w (T, false) r).2 = false
    rw [h1]) i (List.mem_range.2 (by omega))
  have h3 := Inc.still (f := stepT w r i) (l := List.range' i (w.length + 1 - i)) (s := (T, false)) (fun j hj s => by
    rw [List.mem_range'_1] at hj
    exact stepT_inc (hr r hm) (by omega) (by omega)) rfl (by
    show (rowT w r (T, false) i).2 = false
    rw [h2]) j (List.mem_range'_1.2 ⟨hij, by omega⟩)
  unfold stepT at h3
  cases hT : T r.1.toNat i j
  · rw [if_pos (by simp [hT, hf])] at h3
    have := congrArg Prod.snd h3
    cases this
  · rfl
theorem pass_same {rs : List (Int × List Int)} {w : List Int} {T : Tab} (hr : ∀ r ∈ rs, r.1.toNat < 6) (hw : w.length ≤ 10) (h : (passT rs w (T, false)).2 = false) : (passT rs w (T, false)).1 = T := by
  rcases passT_inc hr hw (T, false) with e | ⟨e, _⟩
  · rw [e]
  · rw [e] at h
    cases h
theorem span_closed {rs : List (Int × List Int)} {w : List Int} (hr : ∀ r ∈ rs, r.1.toNat < 6) (hw : w.length ≤ 10) {r : Int × List Int} (hm : r ∈ rs) {i j : Nat} (hij : i ≤ j) (hj : j ≤ w.length) (hf : fitsT (spanT rs w) w r.2 i j = true) : spanT rs w r.1.toNat i j = true := by
  obtain ⟨U, hU⟩ := Span.ex hr hw 726 noTab (by unfold openT; exact Nat.le_trans List.countP_le_length (by simp))
  rw [← hU.eq] at hf ⊢
  have key : ∀ {T U : Tab}, Span rs w T U → fitsT U w r.2 i j = true → U r.1.toNat i j = true := by
    intro T U h
    induction h with
    | done h1 =>
      intro hf
      rw [pass_same hr hw h1] at hf ⊢
      exact pass_closed hr hw h1 hm hij hj hf
    | more _ _ ih => exact ih
  exact key hU hf
theorem sumN_pos {f : Nat → Nat} : ∀ {n : Nat}, 0 < sumN f n → ∃ k, k < n ∧ 0 < f k := by
  intro n
  induction n with
  | zero => intro h; simp [sumN] at h
  | succ n ih =>
    intro h
    rw [sumN] at h
    by_cases h0 : 0 < f n
    · exact ⟨n, by omega, h0⟩
    · obtain ⟨k, hk, h1⟩ := ih (by omega)
      exact ⟨k, by omega, h1⟩
theorem sumR_pos {p : RuleL → Nat} : ∀ {rs : List RuleL} , 0 < sumR rs p → ∃ r ∈ rs, 0 < p r := by
  have key : ∀ (rs : List RuleL) (a : Nat), 0 < rs.foldl (fun a r => a + p r) a → 0 < a ∨ ∃ r ∈ rs, 0 < p r := by
    intro rs
    induction rs with
    | nil => intro a h; exact .inl h
    | cons r rs ih =>
      intro a h
      rw [List.foldl_cons] at h
      rcases ih _ h with h1 | ⟨q, hq, h1⟩
      · by_cases h0 : 0 < p r
        · exact .inr ⟨r, List.mem_cons_self .., h0⟩
        · exact .inl (by omega)
      · exact .inr ⟨q, List.mem_cons_of_mem _ hq, h1⟩
  intro rs h
  rcases key rs 0 h with h | h
  · omega
  · exact h
/-- Symbols that have trees fit. -/
theorem cntR_fits {c : Nat → Nat → Nat → Nat → Nat} {T : Tab} {ws : List Int} : ∀ {xs : List Int} {i j s : Nat}, j ≤ ws.length → (∀ A i j k, i ≤ j → j ≤ ws.length → k ≤ s → 0 < c A i j k → T A i j = true) → 0 < cntR c ws xs i j s → fitsT T ws xs i j = true := by
  intro xs
  induction xs with
  | nil =>
    intro i j s hj hc h
    rw [cntR] at h
    split at h
    · rename_i h1
      exact decide_eq_true h1.1
    · omega
  | cons x xs ih =>
    intro i j s hj hc h
    rw [cntR] at h
    by_cases hx : x < 0
    · rw [if_pos hx] at h
      split at h
      · rename_i h1
        rw [fits_tok hx, decide_eq_true h1.1, decide_eq_true h1.2, ih hj hc h]
        rfl
      · omega
    · rw [if_neg hx] at h
      obtain ⟨m, hm, h1⟩ := sumN_pos h
      obtain ⟨k, hk, h2⟩ := sumN_pos h1
      have h3 : 0 < c x.toNat i (i + m) (k + 1) := Nat.pos_of_ne_zero fun e => by rw [e, Nat.zero_mul] at h2; omega
      have h4 : 0 < cntR c ws xs (i + m) j (s - (k + 1)) := Nat.pos_of_ne_zero fun e => by rw [e, Nat.mul_zero] at h2; omega
      rw [fits_non hx]
      refine any_at (m := i + m) (by omega) (by omega) ?_
      rw [hc _ _ _ _ (by omega) (by omega) (by omega) h3, ih hj (fun A i j k' a b d e => hc A i j k' a b (by omega) e) h4]
      rfl
theorem cntC_span {rs : List RuleL} {ws : List Int} (hr : ∀ r ∈ rs, r.1.toNat < 6) (hw : ws.length ≤ 10) : ∀ {s A i j : Nat}, i ≤ j → j ≤ ws.length → 0 < cntC rs ws A i j s → spanT rs ws A i j = true := by
  intro s
  induction s using Nat.strongRecOn with
  | _ s ih =>
    intro A i j hij hj h
    cases s with
    | zero => rw [cntC_zero] at h; omega
    | succ s =>
      rw [cntC_succ] at h
      obtain ⟨r, hm, h1⟩ := sumR_pos h
      split at h1
      · rename_i h2
        have hf := cntR_fits (T := spanT rs ws) hj (fun A i j k a b d e => ih k (by omega) a b e) h1
        have := span_closed hr hw hm hij hj hf
        rwa [h2, Int.toNat_natCast] at this
      · omega
end Go.Sh

/- Trees of a size as lists of rules: each is read in one way alone, and they are counted. -/
set_option linter.unusedVariables false
set_option linter.unusedSimpArgs false
set_option maxRecDepth 100000
namespace Go.Sh
open Go
/-- Lists of rules: of a nonterminal (inl), of symbols (inr); between two places, of a size in all. -/
inductive Der (rs : List RuleL) (ws : List Int) : Nat ⊕ List Int → Nat → Nat → Nat → List Int → Prop
  | tree {A q i j s : Nat} {r : List Int} : q < rs.length → (rul rs q).1 = (A : Int) → Der rs ws (.inr (rul rs q).2) i j s r → Der rs ws (.inl A) i j (s + 1) ((q : Int) :: r)
  | nil {i : Nat} : Der rs ws (.inr []) i i 0 []
  | tok {x : Int} {xs : List Int} {i j s : Nat} {r : List Int} : x < 0 → i < j → ws.getD i 0 = -1 - x → Der rs ws (.inr xs) (i + 1) j s r → Der rs ws (.inr (x :: xs)) i j s r
  | non {x : Int} {xs : List Int} {i m j k s : Nat} {a b : List Int} : ¬ x < 0 → i ≤ m → m ≤ j → Der rs ws (.inl x.toNat) i m k a → Der rs ws (.inr xs) m j s b → Der rs ws (.inr (x :: xs)) i j (k + s) (a ++ b)
section
variable {rs : List RuleL} {ws : List Int}
theorem der_tree {A i j s : Nat} {t : List Int} : Der rs ws (.inl A) i j s t ↔ ∃ (q : Nat) (r : List Int) (s' : Nat), s = s' + 1 ∧ t = (q : Int) :: r ∧ q < rs.length ∧ (rul rs q).1 = (A : Int) ∧ Der rs ws (.inr (rul rs q).2) i j s' r := by
  constructor
  · intro h
    cases h with
    | tree h1 h2 h3 => exact ⟨_, _, _, rfl, rfl, h1, h2, h3⟩
  · rintro ⟨q, r, s', rfl, rfl, h1, h2, h3⟩
    exact .tree h1 h2 h3
theorem der_le {c : Nat ⊕ List Int} {i j s : Nat} {t : List Int} (h : Der rs ws c i j s t) : i ≤ j := by
  induction h with
  | tree _ _ _ ih => exact ih
  | nil => exact Nat.le_refl _
  | tok _ h2 _ _ ih => omega
  | non _ h2 h3 _ _ _ _ => omega
theorem sumN_at {f : Nat → Nat} : ∀ {n k : Nat}, k < n → 0 < f k → 0 < sumN f n := by
  intro n
  induction n with
  | zero => intro k h; omega
  | succ n ih =>
    intro k h h1
    rw [sumN]
    by_cases e : k = n
    · subst e
      omega
    · have := ih (k := k) (by omega) h1
      omega
theorem sumR_at {p : RuleL → Nat} {rs : List RuleL} {r : RuleL} (hr : r ∈ rs) (h : 0 < p r) : 0 < sumR rs p := by
  have mono : ∀ (l : List RuleL) (a : Nat), a ≤ l.foldl (fun a r => a + p r) a := by
    intro l
    induction l with
    | nil => intro a; exact Nat.le_refl _
    | cons b l ih => intro a; exact Nat.le_trans (Nat.le_add_right a (p b)) (ih (a + p b))
  have key : ∀ (l : List RuleL) (a : Nat), r ∈ l → 0 < l.foldl (fun a r => a + p r) a := by
    intro l
    induction l with
    | nil => intro a h; simp at h
    | cons b l ih =>
      intro a hm
      rcases List.mem_cons.1 hm with e | e
      · subst e
        exact Nat.lt_of_lt_of_le (by omega) (mono l (a + p r))
      · exact ih (a + p b) e
  exact key rs 0 hr
def posD (rs : List RuleL) (ws : List Int) : Nat ⊕ List Int → Nat → Nat → Nat → Prop
  | .inl A, i, j, s => 0 < cntC rs ws A i j s
  | .inr xs, i, j, s => 0 < cntR (cntC rs ws) ws xs i j s
theorem der_posD {c : Nat ⊕ List Int} {i j s : Nat} {t : List Int} (h : Der rs ws c i j s t) : posD rs ws c i j s := by
  induction h with
  | tree h1 h2 h3 ih =>
    show 0 < cntC rs ws _ _ _ _
    rw [cntC_succ]
    refine sumR_at (r := rul rs _) (by rw [rul_eq h1]; exact List.getElem_mem h1) ?_
    rw [if_pos h2]
    exact ih
  | nil =>
    show 0 < cntR _ _ [] _ _ _
    rw [cntR, if_pos ⟨rfl, rfl⟩]
    omega
  | tok h1 h2 h3 h4 ih =>
    show 0 < cntR _ _ (_ :: _) _ _ _
    rw [cntR, if_pos h1, if_pos ⟨h2, h3⟩]
    exact ih
  | non h1 h2 h3 h4 h5 ih1 ih2 =>
    rename_i x xs i m j k s a b
    show 0 < cntR _ _ (x :: xs) _ _ _
    rw [cntR, if_neg h1]
    have hk : 0 < k := by
      obtain ⟨_, _, s', rfl, _⟩ := der_tree.1 h4
      omega
    refine sumN_at (k := m - i) (by omega) (sumN_at (k := k - 1) (by omega) ?_)
    rw [show i + (m - i) = m from by omega, show k - 1 + 1 = k from by omega, show k + s - k = s from by omega]
    exact Nat.mul_pos ih1 ih2
theorem der_posC {A i j s : Nat} {t : List Int} (h : Der rs ws (.inl A) i j s t) : 0 < cntC rs ws A i j s := der_posD h
theorem der_span (hr : ∀ r ∈ rs, r.1.toNat < 6) (hw : ws.length ≤ 10) {A i j s : Nat} {t : List Int} (hj : j ≤ ws.length) (h : Der rs ws (.inl A) i j s t) : spanT rs ws A i j = true := cntC_span hr hw (der_le h) hj (der_posC h)
/-! The parts of a row: at m and k. -/
end
end Go.Sh

/- What is derived and what the tables say: the same. -/
set_option linter.unusedVariables false
set_option linter.unusedSimpArgs false
set_option maxRecDepth 100000
namespace Go.Sh
open Go
section
variable {rs : List RuleL} {ws : List Int}
/-- Every entry of a table has a derivation. -/
def SoundT (rs : List RuleL) (ws : List Int) (T : Tab) : Prop := ∀ A i j, T A i j = true → i ≤ j ∧ ∃ s t, Der rs ws (.inl A) i j s t
theorem fits_sound {T : Tab} (h : SoundT rs ws T) : ∀ {xs : List Int} {i j : Nat}, fitsT T ws xs i j = true → i ≤ j ∧ ∃ s t, Der rs ws (.inr xs) i j s t := by
  intro xs
  induction xs with
  | nil =>
    intro i j hf
    obtain rfl : i = j := of_decide_eq_true hf
    exact ⟨Nat.le_refl _, 0, [], .nil⟩
  | cons x xs ih =>
    intro i j hf
    by_cases hx : x < 0
    · rw [fits_tok hx] at hf
      simp only [Bool.and_eq_true, decide_eq_true_eq] at hf
      obtain ⟨h1, h2, h3⟩ := hf
      obtain ⟨h4, s, t, h5⟩ := ih h3
      exact ⟨by omega, s, t, .tok hx h1 h2 h5⟩
    · rw [fits_non hx, List.any_eq_true] at hf
      obtain ⟨m, hm, hf⟩ := hf
      rw [List.mem_range'_1] at hm
      simp only [Bool.and_eq_true] at hf
      obtain ⟨h1, k, a, h2⟩ := h _ _ _ hf.1
      obtain ⟨h3, s, t, h4⟩ := ih hf.2
      exact ⟨by omega, k + s, a ++ t, .non hx h1 h3 h2 h4⟩
theorem rule_at {r : RuleL} (h : r ∈ rs) : ∃ q, q < rs.length ∧ rul rs q = r := by
  obtain ⟨q, hq, e⟩ := List.getElem_of_mem h
  exact ⟨q, hq, by rw [rul_eq hq, e]⟩
theorem fold_inv {α σ : Type} {I : σ → Prop} {f : σ → α → σ} : ∀ {l : List α} {s : σ}, I s → (∀ a ∈ l, ∀ s, I s → I (f s a)) → I (l.foldl f s) := by
  intro l
  induction l with
  | nil => intro s h _; exact h
  | cons a l ih =>
    intro s h h1
    exact ih (h1 a (List.mem_cons_self ..) s h) fun b hb => h1 b (List.mem_cons_of_mem _ hb)
theorem pass_sound (h0 : ∀ r ∈ rs, 0 ≤ r.1) {s : TS} (h : SoundT rs ws s.1) : SoundT rs ws (passT rs ws s).1 := by
  refine fold_inv (I := fun s : TS => SoundT rs ws s.1) h fun r hr s hs => ?_
  refine fold_inv (I := fun s : TS => SoundT rs ws s.1) hs fun i hi s hs => ?_
  refine fold_inv (I := fun s : TS => SoundT rs ws s.1) hs fun j hj s hs => ?_
  unfold stepT
  split
  · rename_i hc
    simp only [Bool.and_eq_true] at hc
    intro A a b hab
    simp only [Tab.put] at hab
    split at hab
    · rename_i e
      obtain ⟨rfl, rfl, rfl⟩ := e
      obtain ⟨h1, s', t, h2⟩ := fits_sound hs hc.2
      obtain ⟨q, hq, e⟩ := rule_at hr
      refine ⟨h1, s' + 1, (q : Int) :: t, .tree hq ?_ (by rw [e]; exact h2)⟩
      rw [e]
      have := h0 r hr
      omega
    · exact hs A a b hab
  · exact hs
theorem span_sound (h0 : ∀ r ∈ rs, 0 ≤ r.1) : SoundT rs ws (spanT rs ws) := by
  intro A i j h
  unfold spanT at h
  split at h
  · rename_i hx
    have key : ∀ {T U : Tab}, Span rs ws T U → SoundT rs ws T → SoundT rs ws U := by
      intro T U h
      induction h with
      | done _ => exact fun h => pass_sound h0 h
      | more _ _ ih => exact fun h => ih (pass_sound h0 h)
    exact key (Classical.choose_spec hx) (fun A i j h => by cases h) A i j h
  · cases h
theorem span_iff (h0 : ∀ r ∈ rs, 0 ≤ r.1) (hr : ∀ r ∈ rs, r.1.toNat < 6) (hw : ws.length ≤ 10) {A i j : Nat} (hj : j ≤ ws.length) : spanT rs ws A i j = true ↔ ∃ s t, Der rs ws (.inl A) i j s t :=
  ⟨fun h => (span_sound h0 A i j h).2, fun ⟨_, _, h⟩ => der_span hr hw hj h⟩
end
end Go.Sh

/- Plain: what derives a word; other names, turned round; what derives something, what is reached, useful rules. -/
set_option linter.unusedVariables false
set_option linter.unusedSimpArgs false
set_option maxRecDepth 100000
namespace Go.Sh
open Go
/-- What derives a word. -/
inductive Yi (rs : List RuleL) : Nat ⊕ List Int → List Int → Prop
  | rule {A : Nat} {r : RuleL} {u : List Int} : r ∈ rs → r.1 = (A : Int) → Yi rs (.inr r.2) u → Yi rs (.inl A) u
  | nil : Yi rs (.inr []) []
  | tok {x : Int} {xs u : List Int} : x < 0 → Yi rs (.inr xs) u → Yi rs (.inr (x :: xs)) ((-1 - x) :: u)
  | non {x : Int} {xs u v : List Int} : ¬ x < 0 → Yi rs (.inl x.toNat) u → Yi rs (.inr xs) v → Yi rs (.inr (x :: xs)) (u ++ v)
def cut (ws : List Int) (i j : Nat) : List Int := (ws.drop i).take (j - i)
theorem cut_nil (ws : List Int) (i : Nat) : cut ws i i = [] := by simp [cut]
theorem cut_cons {ws : List Int} {i j : Nat} (h : i < j) (hj : j ≤ ws.length) : cut ws i j = ws.getD i 0 :: cut ws (i + 1) j := by
  unfold cut
  rw [List.drop_eq_getElem_cons (by omega), show j - i = (j - (i + 1)) + 1 from by omega, List.take_succ_cons]
  simp [List.getD_eq_getElem?_getD, show i < ws.length from by omega]
theorem cut_append {ws : List Int} {i m j : Nat} (h1 : i ≤ m) (h2 : m ≤ j) (hj : j ≤ ws.length) : cut ws i j = cut ws i m ++ cut ws m j := by
  unfold cut
  rw [show j - i = (m - i) + (j - m) from by omega, List.take_add, List.drop_drop, show i + (m - i) = m from by omega]
theorem cut_all (ws : List Int) : cut ws 0 ws.length = ws := by simp [cut]
theorem cut_length {ws : List Int} {i j : Nat} (h : i ≤ j) (hj : j ≤ ws.length) : (cut ws i j).length = j - i := by
  simp [cut]; omega
section
variable {rs : List RuleL}
theorem yi_of_der {ws : List Int} {c : Nat ⊕ List Int} {i j s : Nat} {t : List Int} (h : Der rs ws c i j s t) : j ≤ ws.length → Yi rs c (cut ws i j) := by
  induction h with
  | tree h1 h2 _ ih =>
    intro hj
    refine .rule (r := rul rs _) ?_ h2 (ih hj)
    rw [rul_eq h1]
    exact List.getElem_mem h1
  | nil =>
    intro _
    rw [cut_nil]
    exact .nil
  | tok h1 h2 h3 _ ih =>
    intro hj
    rw [cut_cons h2 hj, h3]
    exact .tok h1 (ih hj)
  | non h1 h2 h3 _ _ ih1 ih2 =>
    intro hj
    rw [cut_append h2 h3 hj]
    exact .non h1 (ih1 (by omega)) (ih2 hj)
theorem der_of_yi' {c : Nat ⊕ List Int} {u : List Int} (h : Yi rs c u) : ∀ (a b : List Int), ∃ s t, Der rs (a ++ u ++ b) c a.length (a.length + u.length) s t := by
  induction h with
  | rule h1 h2 _ ih =>
    intro a b
    obtain ⟨s, t, hd⟩ := ih a b
    obtain ⟨q, hq, e⟩ := List.getElem_of_mem h1
    have e' : rul rs q = _ := (rul_eq hq).trans e
    exact ⟨_, _, .tree hq (by rw [e']; exact h2) (by rw [e']; exact hd)⟩
  | nil =>
    intro a b
    exact ⟨_, _, .nil⟩
  | @tok x xs u hx _ ih =>
    intro a b
    obtain ⟨s, t, hd⟩ := ih (a ++ [-1 - x]) b
    refine ⟨s, t, .tok hx (by simp) ?_ ?_⟩
    · simp [List.getD_eq_getElem?_getD]
    · have e : a ++ (-1 - x) :: u ++ b = a ++ [-1 - x] ++ u ++ b := by simp
      rw [e]
      have e2 : a.length + ((-1 - x) :: u).length = (a ++ [-1 - x]).length + u.length := by simp; omega
      rw [e2]
      have e3 : a.length + 1 = (a ++ [-1 - x]).length := by simp
      rw [e3]
      exact hd
  | @non x xs u v hx _ _ ih1 ih2 =>
    intro a b
    obtain ⟨s1, t1, h1⟩ := ih1 a (v ++ b)
    obtain ⟨s2, t2, h2⟩ := ih2 (a ++ u) b
    have e1 : a ++ u ++ (v ++ b) = a ++ (u ++ v) ++ b := by simp
    have e2 : a ++ u ++ v ++ b = a ++ (u ++ v) ++ b := by simp
    rw [e1] at h1
    rw [e2] at h2
    have e3 : (a ++ u).length = a.length + u.length := by simp
    have e4 : (a ++ u).length + v.length = a.length + (u ++ v).length := by simp; omega
    rw [e4, e3] at h2
    exact ⟨_, _, .non hx (by omega) (by simp) h1 h2⟩
theorem cut_parts {ws : List Int} {i j : Nat} (h : i ≤ j) (hj : j ≤ ws.length) : ws = ws.take i ++ cut ws i j ++ ws.drop j := by
  unfold cut
  conv => lhs; rw [← List.take_append_drop i ws, ← List.take_append_drop (j - i) (ws.drop i)]
  rw [List.drop_drop, show i + (j - i) = j from by omega, List.append_assoc]
theorem der_of_yi {ws : List Int} {c : Nat ⊕ List Int} {i j : Nat} (hi : i ≤ j) (hj : j ≤ ws.length) (h : Yi rs c (cut ws i j)) : ∃ s t, Der rs ws c i j s t := by
  obtain ⟨s, t, hd⟩ := der_of_yi' h (ws.take i) (ws.drop j)
  rw [← cut_parts hi hj] at hd
  have e1 : (ws.take i).length = i := by simp; omega
  have e2 : i + (cut ws i j).length = j := by rw [cut_length hi hj]; omega
  rw [e1, e2] at hd
  exact ⟨s, t, hd⟩
theorem der_yi {ws : List Int} {c : Nat ⊕ List Int} {i j : Nat} (hi : i ≤ j) (hj : j ≤ ws.length) : (∃ s t, Der rs ws c i j s t) ↔ Yi rs c (cut ws i j) :=
  ⟨fun ⟨_, _, h⟩ => yi_of_der h hj, der_of_yi hi hj⟩
/-! Parts. -/
theorem yi_mono {rs qs : List RuleL} (hs : ∀ r ∈ rs, r ∈ qs) {c : Nat ⊕ List Int} {u : List Int} (h : Yi rs c u) : Yi qs c u := by
  induction h with
  | rule h1 h2 _ ih => exact .rule (hs _ h1) h2 ih
  | nil => exact .nil
  | tok h1 _ ih => exact .tok h1 ih
  | non h1 _ _ ih1 ih2 => exact .non h1 ih1 ih2
end
/-! Other names of nonterminals; turned round. -/
/-! What derives something, what is reached. -/
inductive Clo (rs : List RuleL) (tok : Bool) : Nat → Prop
  | mk {A : Nat} {r : RuleL} : r ∈ rs → r.1 = (A : Int) → (∀ x ∈ r.2, x < 0 → tok = true) → (∀ x ∈ r.2, ¬ x < 0 → Clo rs tok x.toNat) → Clo rs tok A
theorem clo_yi {rs : List RuleL} {A : Nat} (h : Clo rs true A) : ∃ u, Yi rs (.inl A) u := by
  induction h with
  | @mk A r h1 h2 _ _ ih =>
    have key : ∀ xs : List Int, (∀ x ∈ xs, ¬ x < 0 → ∃ u, Yi rs (.inl x.toNat) u) → ∃ u, Yi rs (.inr xs) u := by
      intro xs
      induction xs with
      | nil => exact fun _ => ⟨_, .nil⟩
      | cons x xs ihx =>
        intro hx
        obtain ⟨v, hv⟩ := ihx fun y hy => hx y (List.mem_cons_of_mem _ hy)
        by_cases h0 : x < 0
        · exact ⟨_, .tok h0 hv⟩
        · obtain ⟨u, hu⟩ := hx x (List.mem_cons_self ..) h0
          exact ⟨_, .non h0 hu hv⟩
    obtain ⟨u, hu⟩ := key r.2 ih
    exact ⟨u, .rule h1 h2 hu⟩
theorem yi_clo {rs : List RuleL} {tok : Bool} {c : Nat ⊕ List Int} {u : List Int} (h : Yi rs c u) : (tok = true ∨ u = []) → match c with | .inl A => Clo rs tok A | .inr xs => (∀ x ∈ xs, x < 0 → tok = true) ∧ ∀ x ∈ xs, ¬ x < 0 → Clo rs tok x.toNat := by
  induction h with
  | rule h1 h2 _ ih =>
    intro ht
    exact .mk h1 h2 (ih ht).1 (ih ht).2
  | nil => exact fun _ => ⟨fun x hx => by simp at hx, fun x hx => by simp at hx⟩
  | tok hx _ ih =>
    intro ht
    have ht : tok = true := ht.resolve_right (by simp)
    have := ih (.inl ht)
    refine ⟨fun _ _ _ => ht, fun y hy h0 => ?_⟩
    rcases List.mem_cons.1 hy with rfl | hy
    · exact absurd hx h0
    · exact this.2 y hy h0
  | non hx _ _ ih1 ih2 =>
    intro ht
    have h1 := ih1 (ht.imp_right fun e => (List.append_eq_nil_iff.1 e).1)
    have h2 := ih2 (ht.imp_right fun e => (List.append_eq_nil_iff.1 e).2)
    refine ⟨fun y hy h0 => ?_, fun y hy h0 => ?_⟩
    · rcases List.mem_cons.1 hy with rfl | hy
      · exact absurd h0 hx
      · exact h2.1 y hy h0
    · rcases List.mem_cons.1 hy with rfl | hy
      · exact h1
      · exact h2.2 y hy h0
/-- Reached from the first nonterminal. -/
inductive Rch (rs : List RuleL) : Nat → Prop
  | zero : Rch rs 0
  | step {A : Nat} {r : RuleL} {x : Int} : r ∈ rs → r.1 = (A : Int) → Rch rs A → x ∈ r.2 → ¬ x < 0 → Rch rs x.toNat
theorem rch_mono {rs qs : List RuleL} (hs : ∀ r ∈ rs, r ∈ qs) {A : Nat} (h : Rch rs A) : Rch qs A := by
  induction h with
  | zero => exact .zero
  | step h1 h2 _ h4 h5 ih => exact .step (hs _ h1) h2 ih h4 h5
open Classical in
noncomputable def madeR (rs : List RuleL) : List RuleL := rs.filter fun r => decide (∀ x ∈ r.2, ¬ x < 0 → Clo rs true x.toNat)
open Classical in
noncomputable def rchR (rs : List RuleL) : List RuleL := rs.filter fun r => decide (Rch rs r.1.toNat)
noncomputable def usefulR (rs : List RuleL) : List RuleL := rchR (madeR rs)
open Classical in
theorem madeR_mem {rs : List RuleL} {r : RuleL} : r ∈ madeR rs ↔ r ∈ rs ∧ ∀ x ∈ r.2, ¬ x < 0 → Clo rs true x.toNat := by
  unfold madeR
  rw [List.mem_filter, decide_eq_true_eq]
open Classical in
theorem rchR_mem {rs : List RuleL} {r : RuleL} : r ∈ rchR rs ↔ r ∈ rs ∧ Rch rs r.1.toNat := by
  unfold rchR
  rw [List.mem_filter, decide_eq_true_eq]
theorem made_yi {rs : List RuleL} {c : Nat ⊕ List Int} {u : List Int} (h : Yi rs c u) : Yi (madeR rs) c u := by
  induction h with
  | rule h1 h2 h3 ih => exact .rule (madeR_mem.2 ⟨h1, (yi_clo (tok := true) h3 (.inl rfl)).2⟩) h2 ih
  | nil => exact .nil
  | tok hx _ ih => exact .tok hx ih
  | non hx _ _ ih1 ih2 => exact .non hx ih1 ih2
theorem rch_yi {rs : List RuleL} {c : Nat ⊕ List Int} {u : List Int} (h : Yi rs c u) : match c with | .inl A => Rch rs A → Yi (rchR rs) (.inl A) u | .inr xs => (∀ x ∈ xs, ¬ x < 0 → Rch rs x.toNat) → Yi (rchR rs) (.inr xs) u := by
  induction h with
  | @rule A r u h1 h2 _ ih =>
    intro hA
    exact .rule (rchR_mem.2 ⟨h1, by rw [h2, Int.toNat_natCast]; exact hA⟩) h2 (ih fun x hx h0 => .step h1 h2 hA hx h0)
  | nil => exact fun _ => .nil
  | tok hx _ ih => exact fun h => .tok hx (ih fun y hy => h y (List.mem_cons_of_mem _ hy))
  | non hx _ _ ih1 ih2 => exact fun h => .non hx (ih1 (h _ (List.mem_cons_self ..) hx)) (ih2 fun y hy => h y (List.mem_cons_of_mem _ hy))
theorem usefulR_sub {rs : List RuleL} {r : RuleL} (h : r ∈ usefulR rs) : r ∈ rs := (madeR_mem.1 (rchR_mem.1 h).1).1
/-- The language is the same. -/
theorem useful_yi {rs : List RuleL} {u : List Int} : Yi (usefulR rs) (.inl 0) u ↔ Yi rs (.inl 0) u :=
  ⟨fun h => yi_mono (fun _ hr => usefulR_sub hr) h, fun h => rch_yi (made_yi h) .zero⟩
theorem rch_keeps {rs : List RuleL} {A : Nat} (h : Rch rs A) : Rch (rchR rs) A := by
  induction h with
  | zero => exact .zero
  | @step A r x h1 h2 h3 h4 h5 ih => exact .step (rchR_mem.2 ⟨h1, by rw [h2, Int.toNat_natCast]; exact h3⟩) h2 ih h4 h5
/-- All that is left is reached and derives something. -/
theorem useful_rch {rs : List RuleL} {r : RuleL} (h : r ∈ usefulR rs) : Rch (usefulR rs) r.1.toNat := rch_keeps (rchR_mem.1 h).2
theorem useful_syms {rs : List RuleL} (h0 : ∀ r ∈ rs, 0 ≤ r.1) {r : RuleL} (h : r ∈ usefulR rs) {x : Int} (hx : x ∈ r.2) (hn : ¬ x < 0) : Clo (usefulR rs) true x.toNat := by
  have h1 := rchR_mem.1 h
  have h2 := madeR_mem.1 h1.1
  obtain ⟨u, hu⟩ := clo_yi (h2.2 x hx hn)
  have e : r.1 = (r.1.toNat : Int) := by have := h0 r h2.1; omega
  have := rch_yi (made_yi hu) (.step h1.1 e h1.2 hx hn)
  exact yi_clo this (.inl rfl)
theorem useful_left {rs : List RuleL} (h0 : ∀ r ∈ rs, 0 ≤ r.1) {r : RuleL} (h : r ∈ usefulR rs) : Clo (usefulR rs) true r.1.toNat :=
  .mk h (by have := h0 r (usefulR_sub h); omega) (fun _ _ _ => rfl) fun x hx hn => useful_syms h0 h hx hn
open Classical in
theorem useful_again {rs : List RuleL} (h0 : ∀ r ∈ rs, 0 ≤ r.1) : usefulR (usefulR rs) = usefulR rs := by
  have e1 : madeR (usefulR rs) = usefulR rs := by
    unfold madeR
    rw [List.filter_eq_self]
    intro r hr
    exact decide_eq_true fun x hx hn => useful_syms h0 hr hx hn
  show rchR (madeR (usefulR rs)) = usefulR rs
  rw [e1]
  unfold rchR
  rw [List.filter_eq_self]
  intro r hr
  exact decide_eq_true (useful_rch hr)
theorem usefulR_sublist (rs : List RuleL) : (usefulR rs).Sublist rs := (List.filter_sublist).trans List.filter_sublist
end Go.Sh

/- Contracts: SpansOf. -/
set_option linter.unusedVariables false
set_option linter.unusedSimpArgs false
set_option maxRecDepth 100000
namespace Go.Sh
open Go
end Go.Sh
namespace Go.Proofs.Ytegcjkhebecgbaa
open Go Go.Sh Go.RowKit
section
variable {w : World} {X Z Y : Option Addr} {cx cz cy : Nat} {gm : Gram} {ws xs : List Int} {k : Value → World → Prop}
end
end Go.Proofs.Ytegcjkhebecgbaa

/- Plain: short words are words of the language, in order; rules and spans. -/
set_option linter.unusedVariables false
set_option linter.unusedSimpArgs false
set_option maxRecDepth 100000
namespace Go.Sh
open Go
theorem good_lefts {gm : Gram} (hg : goodG gm = true) : ∀ r ∈ gm.rules, 0 ≤ r.1 := fun r hr => by
  obtain ⟨i, hi, rfl⟩ := List.getElem_of_mem hr
  have := (good_left hg hi).1
  rwa [rul_eq hi] at this
theorem good_rights {gm : Gram} (hg : goodG gm = true) {q : Nat} (hq : q < gm.rules.length) : (rul gm.rules q).2.length ≤ 4 ∧ ∀ x ∈ (rul gm.rules q).2, -gm.toks ≤ x ∧ x ≤ gm.nons - 1 := by
  simp only [goodG, Bool.and_eq_true] at hg
  have h := List.all_eq_true.1 hg.2 q (List.mem_range.2 hq)
  simp only [goodR, Bool.and_eq_true, decide_eq_true_eq] at h
  refine ⟨by have := h.1.1.2; omega, fun x hx => ?_⟩
  have := List.all_eq_true.1 h.1.2 x hx
  simpa [symB, inB] using this
where
  any_congr' {l : List RuleL} {p q : RuleL → Bool} (h : ∀ r ∈ l, p r = q r) : l.any p = l.any q := by
    rw [Bool.eq_iff_iff, List.any_eq_true, List.any_eq_true]
    constructor
    · rintro ⟨r, hr, h1⟩
      exact ⟨r, hr, by rw [← h r hr]; exact h1⟩
    · rintro ⟨r, hr, h1⟩
      exact ⟨r, hr, by rw [h r hr]; exact h1⟩
end Go.Sh
