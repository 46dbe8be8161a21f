/- Printed functions. -/
import Derived.Test.YtodeenahpoobkaaE7
import Derived.Test.YtodeenahpoobkaaDetT
import Derived.Test.YtodeenahpoobkaaDetX
import Derived.Test.YtodeenahpoobkaaProg
set_option autoImplicit false
set_option linter.unusedVariables false
set_option linter.unusedSimpArgs false
namespace Go.Det.E
open Go.Proofs Go.Det

/-- tombolo/tombololaw10.TourBack -/
noncomputable def J11_1 (rc : Rec) (md : Md) (h0 : Heap) (s2 : Value) (s3 : Value) (s5 : Value) (h : Heap) : Option (Value × Heap) :=
  fA 0 s2 fun v1 =>
  ldN 3 v1 h fun v2 =>
  let h3 : Heap := h ++ [.own [(.int .i64 0), (.int .i64 0), (.int .i64 0)]]
  st md 3 (.pointer (some ⟨h.length, 0, none⟩)) v2 h3 fun h4 =>
  fA 1 s3 fun v5 =>
  ld1 v5 h4 fun v6 =>
  cIn .i64 v6 fun n7 =>
  (bif wantV (.bool (decide (n7 < 0))) false then
  fA 1 s3 fun v8 =>
  some (v8, h4)
  else some (undef, h4)).bind fun p9 =>
  (bif wantV (.bool (decide (n7 < 0))) false then
  ld1 p9.1 p9.2 fun v10 =>
  cIn .i64 v10 fun n11 =>
  some ((.int .i64 n11), p9.2)
  else some (undef, p9.2)).bind fun p12 =>
  (bif wantV (.bool (decide (n7 < 0))) false then
  ldN 3 (.pointer (some ⟨h.length, 0, none⟩)) p12.2 fun v13 =>
  some (v13, p12.2)
  else some (undef, p12.2)).bind fun p14 =>
  (bif wantV (.bool (decide (n7 < 0))) false then
  cl (rc md 43 [p14.1] p14.2) fun v15 h16 =>
  cIn .i64 v15 fun n17 =>
  some ((.int .i64 n17), h16)
  else some (undef, p14.2)).bind fun p18 =>
  (bif wantV (.bool (decide (n7 < 0))) false then
  aBin Try.prog .geq 3 p12.1 p18.1 fun v19 =>
  some (v19, p18.2)
  else some (undef, p18.2)).bind fun p20 =>
  cBn (bif (decide (n7 < 0)) then (.bool true) else p20.1) fun b21 =>
  (bif wantV (.bool b21) false then
  fA 2 s3 fun v22 =>
  some (v22, p20.2)
  else some (undef, p20.2)).bind fun p23 =>
  (bif wantV (.bool b21) false then
  ld1 p23.1 p23.2 fun v24 =>
  cIn .i64 v24 fun n25 =>
  some ((.int .i64 n25), p23.2)
  else some (undef, p23.2)).bind fun p26 =>
  (bif wantV (.bool b21) false then
  aBin Try.prog .lss 3 p26.1 (.int .i64 0) fun v27 =>
  some (v27, p26.2)
  else some (undef, p26.2)).bind fun p28 =>
  cBn (bif b21 then (.bool true) else p28.1) fun b29 =>
  (bif wantV (.bool b29) false then
  fA 2 s3 fun v30 =>
  some (v30, p28.2)
  else some (undef, p28.2)).bind fun p31 =>
  (bif wantV (.bool b29) false then
  ld1 p31.1 p31.2 fun v32 =>
  cIn .i64 v32 fun n33 =>
  some ((.int .i64 n33), p31.2)
  else some (undef, p31.2)).bind fun p34 =>
  (bif wantV (.bool b29) false then
  some ((.pointer (some ⟨h.length, 1, none⟩)), p34.2)
  else some (undef, p34.2)).bind fun p35 =>
  (bif wantV (.bool b29) false then
  ld1 p35.1 p35.2 fun v36 =>
  cIn .i64 v36 fun n37 =>
  some ((.int .i64 n37), p35.2)
  else some (undef, p35.2)).bind fun p38 =>
  (bif wantV (.bool b29) false then
  aBin Try.prog .geq 3 p34.1 p38.1 fun v39 =>
  some (v39, p38.2)
  else some (undef, p38.2)).bind fun p40 =>
  cBn (bif b29 then (.bool true) else p40.1) fun b41 =>
  (bif wantV (.bool b41) false then
  fA 3 s3 fun v42 =>
  some (v42, p40.2)
  else some (undef, p40.2)).bind fun p43 =>
  (bif wantV (.bool b41) false then
  ld1 p43.1 p43.2 fun v44 =>
  cIn .i64 v44 fun n45 =>
  some ((.int .i64 n45), p43.2)
  else some (undef, p43.2)).bind fun p46 =>
  (bif wantV (.bool b41) false then
  aBin Try.prog .lss 3 p46.1 (.int .i64 0) fun v47 =>
  some (v47, p46.2)
  else some (undef, p46.2)).bind fun p48 =>
  cBn (bif b41 then (.bool true) else p48.1) fun b49 =>
  (bif wantV (.bool b49) false then
  fA 3 s3 fun v50 =>
  some (v50, p48.2)
  else some (undef, p48.2)).bind fun p51 =>
  (bif wantV (.bool b49) false then
  ld1 p51.1 p51.2 fun v52 =>
  cIn .i64 v52 fun n53 =>
  some ((.int .i64 n53), p51.2)
  else some (undef, p51.2)).bind fun p54 =>
  (bif wantV (.bool b49) false then
  some ((.pointer (some ⟨h.length, 0, none⟩)), p54.2)
  else some (undef, p54.2)).bind fun p55 =>
  (bif wantV (.bool b49) false then
  ld1 p55.1 p55.2 fun v56 =>
  cIn .i64 v56 fun n57 =>
  some ((.int .i64 n57), p55.2)
  else some (undef, p55.2)).bind fun p58 =>
  (bif wantV (.bool b49) false then
  aBin Try.prog .geq 3 p54.1 p58.1 fun v59 =>
  some (v59, p58.2)
  else some (undef, p58.2)).bind fun p60 =>
  cBn (bif b49 then (.bool true) else p60.1) fun b61 =>
  (bif wantV (.bool b61) false then
  fA 4 s3 fun v62 =>
  some (v62, p60.2)
  else some (undef, p60.2)).bind fun p63 =>
  (bif wantV (.bool b61) false then
  ld1 p63.1 p63.2 fun v64 =>
  cIn .i64 v64 fun n65 =>
  some ((.int .i64 n65), p63.2)
  else some (undef, p63.2)).bind fun p66 =>
  (bif wantV (.bool b61) false then
  aBin Try.prog .lss 3 p66.1 (.int .i64 0) fun v67 =>
  some (v67, p66.2)
  else some (undef, p66.2)).bind fun p68 =>
  cBn (bif b61 then (.bool true) else p68.1) fun b69 =>
  (bif wantV (.bool b69) false then
  fA 4 s3 fun v70 =>
  some (v70, p68.2)
  else some (undef, p68.2)).bind fun p71 =>
  (bif wantV (.bool b69) false then
  ld1 p71.1 p71.2 fun v72 =>
  cIn .i64 v72 fun n73 =>
  some ((.int .i64 n73), p71.2)
  else some (undef, p71.2)).bind fun p74 =>
  (bif wantV (.bool b69) false then
  some ((.pointer (some ⟨h.length, 0, none⟩)), p74.2)
  else some (undef, p74.2)).bind fun p75 =>
  (bif wantV (.bool b69) false then
  ld1 p75.1 p75.2 fun v76 =>
  cIn .i64 v76 fun n77 =>
  some ((.int .i64 n77), p75.2)
  else some (undef, p75.2)).bind fun p78 =>
  (bif wantV (.bool b69) false then
  aBin Try.prog .geq 3 p74.1 p78.1 fun v79 =>
  some (v79, p78.2)
  else some (undef, p78.2)).bind fun p80 =>
  cBn (bif b69 then (.bool true) else p80.1) fun b81 =>
  (bif wantV (.bool b81) false then
  some (s5, p80.2)
  else some (undef, p80.2)).bind fun p82 =>
  (bif wantV (.bool b81) false then
  bif okNil Try.prog p82.1 then
  some (p82.1, p82.2)
  else none
  else some (undef, p82.2)).bind fun p83 =>
  (bif wantV (.bool b81) false then
  fA 10 p83.1 fun v84 =>
  some (v84, p83.2)
  else some (undef, p83.2)).bind fun p85 =>
  (bif wantV (.bool b81) false then
  ld1 p85.1 p85.2 fun v86 =>
  some (v86, p85.2)
  else some (undef, p85.2)).bind fun p87 =>
  (bif wantV (.bool b81) false then
  fA 1 s3 fun v88 =>
  some (v88, p87.2)
  else some (undef, p87.2)).bind fun p89 =>
  (bif wantV (.bool b81) false then
  ld1 p89.1 p89.2 fun v90 =>
  cIn .i64 v90 fun n91 =>
  some ((.int .i64 n91), p89.2)
  else some (undef, p89.2)).bind fun p92 =>
  (bif wantV (.bool b81) false then
  ixSV 1 p87.1 p92.1 fun v93 =>
  some (v93, p92.2)
  else some (undef, p92.2)).bind fun p94 =>
  (bif wantV (.bool b81) false then
  ld1 p94.1 p94.2 fun v95 =>
  some (v95, p94.2)
  else some (undef, p94.2)).bind fun p96 =>
  (bif wantV (.bool b81) false then
  fA 2 s3 fun v97 =>
  some (v97, p96.2)
  else some (undef, p96.2)).bind fun p98 =>
  (bif wantV (.bool b81) false then
  ld1 p98.1 p98.2 fun v99 =>
  cIn .i64 v99 fun n100 =>
  some ((.int .i64 n100), p98.2)
  else some (undef, p98.2)).bind fun p101 =>
  (bif wantV (.bool b81) false then
  ixSV 2 p96.1 p101.1 fun v102 =>
  some (v102, p101.2)
  else some (undef, p101.2)).bind fun p103 =>
  (bif wantV (.bool b81) false then
  ixA 2 1 p103.1 0 fun v104 =>
  some (v104, p103.2)
  else some (undef, p103.2)).bind fun p105 =>
  (bif wantV (.bool b81) false then
  ld1 p105.1 p105.2 fun v106 =>
  cIn .i64 v106 fun n107 =>
  some ((.int .i64 n107), p105.2)
  else some (undef, p105.2)).bind fun p108 =>
  (bif wantV (.bool b81) false then
  aBin Try.prog .geq 3 p108.1 (.int .i64 0) fun v109 =>
  some (v109, p108.2)
  else some (undef, p108.2)).bind fun p110 =>
  cBn (bif b81 then (.bool true) else p110.1) fun b111 =>
  (bif wantV (.bool b111) false then
  some (s5, p110.2)
  else some (undef, p110.2)).bind fun p112 =>
  (bif wantV (.bool b111) false then
  bif okNil Try.prog p112.1 then
  some (p112.1, p112.2)
  else none
  else some (undef, p112.2)).bind fun p113 =>
  (bif wantV (.bool b111) false then
  fA 3 p113.1 fun v114 =>
  some (v114, p113.2)
  else some (undef, p113.2)).bind fun p115 =>
  (bif wantV (.bool b111) false then
  ldN 6 p115.1 p115.2 fun v116 =>
  some (v116, p115.2)
  else some (undef, p115.2)).bind fun p117 =>
  (bif wantV (.bool b111) false then
  fA 1 s3 fun v118 =>
  some (v118, p117.2)
  else some (undef, p117.2)).bind fun p119 =>
  (bif wantV (.bool b111) false then
  ld1 p119.1 p119.2 fun v120 =>
  cIn .i64 v120 fun n121 =>
  some ((.int .i64 n121), p119.2)
  else some (undef, p119.2)).bind fun p122 =>
  (bif wantV (.bool b111) false then
  fA 3 s3 fun v123 =>
  some (v123, p122.2)
  else some (undef, p122.2)).bind fun p124 =>
  (bif wantV (.bool b111) false then
  ld1 p124.1 p124.2 fun v125 =>
  cIn .i64 v125 fun n126 =>
  some ((.int .i64 n126), p124.2)
  else some (undef, p124.2)).bind fun p127 =>
  (bif wantV (.bool b111) false then
  fA 4 s3 fun v128 =>
  some (v128, p127.2)
  else some (undef, p127.2)).bind fun p129 =>
  (bif wantV (.bool b111) false then
  ld1 p129.1 p129.2 fun v130 =>
  cIn .i64 v130 fun n131 =>
  some ((.int .i64 n131), p129.2)
  else some (undef, p129.2)).bind fun p132 =>
  (bif wantV (.bool b111) false then
  cl (rc md 38 [p117.1, p122.1, p127.1, p132.1] p132.2) fun v133 h134 =>
  cBn v133 fun b135 =>
  some ((.bool b135), h134)
  else some (undef, p132.2)).bind fun p136 =>
  cBn (bif b111 then (.bool true) else p136.1) fun b137 =>
  bif b137 then
    cl (rc md 32 [] p136.2) fun v138 h139 =>
    cBn v138 fun b140 =>
    some ((.bool b140), List.take h0.length h139)
  else
    ldN 3 (.pointer (some ⟨h.length, 0, none⟩)) p136.2 fun v141 =>
    fA 1 s3 fun v142 =>
    ld1 v142 p136.2 fun v143 =>
    cIn .i64 v143 fun n144 =>
    fA 3 s3 fun v145 =>
    ld1 v145 p136.2 fun v146 =>
    cIn .i64 v146 fun n147 =>
    cl (rc md 44 [v141, (.int .i64 n144), (.int .i64 n147)] p136.2) fun v148 h149 =>
    cIn .i64 v148 fun n150 =>
    ldN 3 (.pointer (some ⟨h.length, 0, none⟩)) h149 fun v151 =>
    fA 1 s3 fun v152 =>
    ld1 v152 h149 fun v153 =>
    cIn .i64 v153 fun n154 =>
    fA 4 s3 fun v155 =>
    ld1 v155 h149 fun v156 =>
    cIn .i64 v156 fun n157 =>
    cl (rc md 44 [v151, (.int .i64 n154), (.int .i64 n157)] h149) fun v158 h159 =>
    cIn .i64 v158 fun n160 =>
    bif okNil Try.prog s5 then
    fA 3 s5 fun v161 =>
    fA 0 v161 fun v162 =>
    ldN 6 v162 h159 fun v163 =>
    bif okNil Try.prog s5 then
    fA 3 s5 fun v164 =>
    ldN 6 v164 h159 fun v165 =>
    fA 1 s3 fun v166 =>
    ld1 v166 h159 fun v167 =>
    cIn .i64 v167 fun n168 =>
    fA 3 s3 fun v169 =>
    ld1 v169 h159 fun v170 =>
    cIn .i64 v170 fun n171 =>
    cl (rc md 45 [v165, (.int .i64 n168), (.int .i64 n171)] h159) fun v172 h173 =>
    cIn .i64 v172 fun n174 =>
    cLE true (fun hq => ldN 6 v162 hq some) v163 h159 h173 <|
    cl (rc md 20 [v163, (.int .i64 n174)] h173) fun v175 h176 =>
    bif okNil Try.prog s5 then
    fA 3 s5 fun v177 =>
    fA 0 v177 fun v178 =>
    ldN 6 v178 h176 fun v179 =>
    cLE true (fun hq => ldN 6 v178 hq some) v179 h173 h176 <|
    cLE true (fun hq => ldN 6 v178 hq some) v179 h159 h173 <|
    bif okNil Try.prog s5 then
    fA 3 s5 fun v180 =>
    ldN 6 v180 h176 fun v181 =>
    cLE true (fun hq => ldN 6 v180 hq some) v181 h173 h176 <|
    cLE true (fun hq => ldN 6 v180 hq some) v181 h159 h173 <|
    fA 1 s3 fun v182 =>
    ld1 v182 h176 fun v183 =>
    cIn .i64 v183 fun n184 =>
    cLE true (fun hq => ld1 v182 hq some) (.int .i64 n184) h173 h176 <|
    cLE true (fun hq => ld1 v182 hq some) (.int .i64 n184) h159 h173 <|
    fA 4 s3 fun v185 =>
    ld1 v185 h176 fun v186 =>
    cIn .i64 v186 fun n187 =>
    cLE true (fun hq => ld1 v185 hq some) (.int .i64 n187) h173 h176 <|
    cLE true (fun hq => ld1 v185 hq some) (.int .i64 n187) h159 h173 <|
    cl (rc md 45 [v181, (.int .i64 n184), (.int .i64 n187)] h176) fun v188 h189 =>
    cIn .i64 v188 fun n190 =>
    cLE true (fun hq => ldN 6 v178 hq some) v179 h176 h189 <|
    cl (rc md 20 [v179, (.int .i64 n190)] h189) fun v191 h192 =>
    bif okNil Try.prog s5 then
    fA 3 s5 fun v193 =>
    ldN 6 v193 h192 fun v194 =>
    fA 1 s3 fun v195 =>
    ld1 v195 h192 fun v196 =>
    cIn .i64 v196 fun n197 =>
    fA 2 s3 fun v198 =>
    ld1 v198 h192 fun v199 =>
    cIn .i64 v199 fun n200 =>
    fA 3 s3 fun v201 =>
    ld1 v201 h192 fun v202 =>
    cIn .i64 v202 fun n203 =>
    fA 4 s3 fun v204 =>
    ld1 v204 h192 fun v205 =>
    cIn .i64 v205 fun n206 =>
    cl (rc md 46 [v194, (.int .i64 n197), (.int .i64 n200), (.int .i64 n203), (.int .i64 n206)] h192) fun v207 h208 =>
    cIn .i64 v207 fun n209 =>
    bif okNil Try.prog s5 then
    fA 3 s5 fun v210 =>
    ldN 6 v210 h208 fun v211 =>
    fA 1 s3 fun v212 =>
    ld1 v212 h208 fun v213 =>
    cIn .i64 v213 fun n214 =>
    fA 2 s3 fun v215 =>
    ld1 v215 h208 fun v216 =>
    cIn .i64 v216 fun n217 =>
    cl (rc md 47 [v211, (.int .i64 n214), (.int .i64 n217)] h208) fun v218 h219 =>
    exT v218 0 fun v220 =>
    cIn .i64 v220 fun n221 =>
    exT v218 1 fun v222 =>
    cIn .i64 v222 fun n223 =>
    bif okNil Try.prog s5 then
    fA 3 s5 fun v224 =>
    fA 0 v224 fun v225 =>
    ldN 6 v225 h219 fun v226 =>
    cl (rc md 20 [v226, (.int .i64 n221)] h219) fun v227 h228 =>
    cl (rc md 35 [v227, v191] h228) fun v229 h230 =>
    cBn v229 fun b231 =>
    (bif wantV (.bool b231) true then
    some (s5, h230)
    else some (undef, h230)).bind fun p232 =>
    (bif wantV (.bool b231) true then
    bif okNil Try.prog p232.1 then
    some (p232.1, p232.2)
    else none
    else some (undef, p232.2)).bind fun p233 =>
    (bif wantV (.bool b231) true then
    fA 3 p233.1 fun v234 =>
    some (v234, p233.2)
    else some (undef, p233.2)).bind fun p235 =>
    (bif wantV (.bool b231) true then
    fA 0 p235.1 fun v236 =>
    some (v236, p235.2)
    else some (undef, p235.2)).bind fun p237 =>
    (bif wantV (.bool b231) true then
    ldN 6 p237.1 p237.2 fun v238 =>
    some (v238, p237.2)
    else some (undef, p237.2)).bind fun p239 =>
    (bif wantV (.bool b231) true then
    some ((.int .i64 n223), p239.2)
    else some (undef, p239.2)).bind fun p240 =>
    (bif wantV (.bool b231) true then
    cl (rc md 20 [p239.1, p240.1] p240.2) fun v241 h242 =>
    some (v241, h242)
    else some (undef, p240.2)).bind fun p243 =>
    (bif wantV (.bool b231) true then
    some (v175, p243.2)
    else some (undef, p243.2)).bind fun p244 =>
    (bif wantV (.bool b231) true then
    cl (rc md 35 [p243.1, p244.1] p244.2) fun v245 h246 =>
    cBn v245 fun b247 =>
    some ((.bool b247), h246)
    else some (undef, p244.2)).bind fun p248 =>
    cBn (bif b231 then p248.1 else (.bool false)) fun b249 =>
    (bif wantV (.bool b249) true then
    some (s5, p248.2)
    else some (undef, p248.2)).bind fun p250 =>
    (bif wantV (.bool b249) true then
    bif okNil Try.prog p250.1 then
    some (p250.1, p250.2)
    else none
    else some (undef, p250.2)).bind fun p251 =>
    (bif wantV (.bool b249) true then
    fA 3 p251.1 fun v252 =>
    some (v252, p251.2)
    else some (undef, p251.2)).bind fun p253 =>
    (bif wantV (.bool b249) true then
    fA 0 p253.1 fun v254 =>
    some (v254, p253.2)
    else some (undef, p253.2)).bind fun p255 =>
    (bif wantV (.bool b249) true then
    ldN 6 p255.1 p255.2 fun v256 =>
    some (v256, p255.2)
    else some (undef, p255.2)).bind fun p257 =>
    (bif wantV (.bool b249) true then
    some ((.int .i64 n150), p257.2)
    else some (undef, p257.2)).bind fun p258 =>
    (bif wantV (.bool b249) true then
    cl (rc md 21 [p257.1, p258.1] p258.2) fun v259 h260 =>
    cIn .i64 v259 fun n261 =>
    some ((.int .i64 n261), h260)
    else some (undef, p258.2)).bind fun p262 =>
    (bif wantV (.bool b249) true then
    some ((.int .i64 n223), p262.2)
    else some (undef, p262.2)).bind fun p263 =>
    (bif wantV (.bool b249) true then
    aBin Try.prog .eql 3 p262.1 p263.1 fun v264 =>
    some (v264, p263.2)
    else some (undef, p263.2)).bind fun p265 =>
    cBn (bif b249 then p265.1 else (.bool false)) fun b266 =>
    (bif wantV (.bool b266) true then
    some (s5, p265.2)
    else some (undef, p265.2)).bind fun p267 =>
    (bif wantV (.bool b266) true then
    bif okNil Try.prog p267.1 then
    some (p267.1, p267.2)
    else none
    else some (undef, p267.2)).bind fun p268 =>
    (bif wantV (.bool b266) true then
    fA 3 p268.1 fun v269 =>
    some (v269, p268.2)
    else some (undef, p268.2)).bind fun p270 =>
    (bif wantV (.bool b266) true then
    fA 0 p270.1 fun v271 =>
    some (v271, p270.2)
    else some (undef, p270.2)).bind fun p272 =>
    (bif wantV (.bool b266) true then
    ldN 6 p272.1 p272.2 fun v273 =>
    some (v273, p272.2)
    else some (undef, p272.2)).bind fun p274 =>
    (bif wantV (.bool b266) true then
    some ((.int .i64 n160), p274.2)
    else some (undef, p274.2)).bind fun p275 =>
    (bif wantV (.bool b266) true then
    cl (rc md 21 [p274.1, p275.1] p275.2) fun v276 h277 =>
    cIn .i64 v276 fun n278 =>
    some ((.int .i64 n278), h277)
    else some (undef, p275.2)).bind fun p279 =>
    (bif wantV (.bool b266) true then
    some ((.int .i64 n221), p279.2)
    else some (undef, p279.2)).bind fun p280 =>
    (bif wantV (.bool b266) true then
    aBin Try.prog .eql 3 p279.1 p280.1 fun v281 =>
    some (v281, p280.2)
    else some (undef, p280.2)).bind fun p282 =>
    cBn (bif b266 then p282.1 else (.bool false)) fun b283 =>
    (bif wantV (.bool b283) true then
    cl (rc md 32 [] p282.2) fun v284 h285 =>
    cBn v284 fun b286 =>
    some ((.bool b286), h285)
    else some (undef, p282.2)).bind fun p287 =>
    cBn (bif b283 then p287.1 else (.bool false)) fun b288 =>
    some ((.bool b288), List.take h0.length p287.2)
    else none
    else none
    else none
    else none
    else none
    else none
    else none
theorem J11_1_at (rc : Rec) (md : Md) (h0 : Heap) (t : T) (h : Heap) : cut Try.prog cfg rc md 225 (bodyOf Try.prog 11) [1, 1, 1, 1, 1] (retK Try.prog cfg 11 (rsOf Try.prog 11) h0) t h = J11_1 rc md h0 (t 2) (t 3) (t 5) h := by kernel_rfl
theorem J11_1_cut (rc : Rec) (md : Md) (h0 : Heap) : cut Try.prog cfg rc md 225 (bodyOf Try.prog 11) [1, 1, 1, 1, 1] (retK Try.prog cfg 11 (rsOf Try.prog 11) h0) = fun t h => J11_1 rc md h0 (t 2) (t 3) (t 5) h := funext fun t => funext fun h => J11_1_at rc md h0 t h
noncomputable def Jk11_0 (rc : Rec) (md : Md) (h0 : Heap) (e : Exit) (s2 : Value) (s3 : Value) (s4 : Value) (s5 : Value) (s24 : Value) (s25 : Value) (s26 : Value) (h : Heap) : Option (Value × Heap) :=
  match e with
  | .normal =>
    J11_1 rc md h0 s2 s3 s5 h
  | .exit j =>
    bif Nat.beq j 0 then
      J11_1 rc md h0 s2 s3 s5 h
    else
      none
  | .ret =>
    fin1 h0 s4 h
  | .goto l => none
  | .panic ps => none
  | .outgrown => none
noncomputable def Jk11_0H (rc : Rec) (md : Md) (h0 : Heap) (X1 : T → Heap → Option (Value × Heap)) (e : Exit) (t : T) (h : Heap) : Option (Value × Heap) :=
  match e with
  | .normal =>
    X1 t h
  | .exit j =>
    bif Nat.beq j 0 then
      X1 t h
    else
      none
  | .ret =>
    fin1 h0 (t 4) h
  | .goto l => none
  | .panic ps => none
  | .outgrown => none
theorem Jk11_0_h1 (rc : Rec) (md : Md) (h0 : Heap) (X : Nat → T → Heap → Option (Value × Heap)) (e : Exit) (t : T) (h : Heap) : kAtG Try.prog cfg X rc md 225 (replS (bodyOf Try.prog 11) [([1, 1, 1, 1, 1], 1)]) [1, 1, 1, 1, 0, 1, 0] (retK Try.prog cfg 11 (rsOf Try.prog 11) h0) e t h = Jk11_0H rc md h0 (X 1) e t h := by cases e <;> kernel_rfl
theorem Jk11_0_h2 (rc : Rec) (md : Md) (h0 : Heap) (e : Exit) (t : T) (h : Heap) : Jk11_0H rc md h0 (fun t h => J11_1 rc md h0 (t 2) (t 3) (t 5) h) e t h = Jk11_0 rc md h0 e (t 2) (t 3) (t 4) (t 5) (t 24) (t 25) (t 26) h := by cases e <;> (unfold Jk11_0H Jk11_0; kernel_rfl)
theorem Jk11_0_at (rc : Rec) (md : Md) (h0 : Heap) (e : Exit) (t : T) (h : Heap) : kAt Try.prog cfg rc md 225 (bodyOf Try.prog 11) [1, 1, 1, 1, 0, 1, 0] (retK Try.prog cfg 11 (rsOf Try.prog 11) h0) e t h = Jk11_0 rc md h0 e (t 2) (t 3) (t 4) (t 5) (t 24) (t 25) (t 26) h := by
  rw [kAt_holes [([1, 1, 1, 1, 1], 1)] [1, 1, 1, 1, 0, 1, 0] (by kernel_rfl), Jk11_0_h1, show (goX Try.prog cfg rc md 225 (bodyOf Try.prog 11) [([1, 1, 1, 1, 1], 1)] (retK Try.prog cfg 11 (rsOf Try.prog 11) h0)) 1 = _ from J11_1_cut rc md h0]
  exact Jk11_0_h2 rc md h0 e t h
/-- a round -/
noncomputable def Jr11_0 (rc : Rec) (md : Md) (s2 : Value) (s3 : Value) (s4 : Value) (s5 : Value) (s24 : Value) (s25 : Value) (s26 : Value) (h : Heap) : Option (((Value × Value × Value × Value × Value × Value × Value) × Heap) ⊕ (Exit × (Value × Value × Value × Value × Value × Value × Value) × Heap)) :=
  aBin Try.prog .lss 3 s26 s25 fun v1 =>
  cBn v1 fun b2 =>
  bif b2 then
    ixSV 5 s24 s26 fun v3 =>
    ldN 5 v3 h fun v4 =>
    let h5 : Heap := h ++ [.own [(.int .i64 0), (.int .i64 0), (.int .i64 0), (.int .i64 0), (.int .i64 0)]]
    st md 5 (.pointer (some ⟨h.length, 0, none⟩)) v4 h5 fun h6 =>
    ldN 5 (.pointer (some ⟨h.length, 0, none⟩)) h6 fun v7 =>
    cl (rc md 34 [s5, v7] h6) fun v8 h9 =>
    cBn v8 fun b10 =>
    bif !b10 then
      some (.inr (.ret, (s2, s3, (.bool false), s5, s24, s25, s26), h9))
    else
      aBin Try.prog .add 3 s26 (.int .i64 1) fun v11 =>
      some (.inl ((s2, s3, s4, s5, s24, s25, v11), h9))
  else
    some (.inr ((.exit 0), (s2, s3, s4, s5, s24, s25, s26), h))
theorem Jr11_0_at (rc : Rec) (md : Md) (t : T) (h : Heap) : exec Try.prog cfg rc md 225 (sub (bodyOf Try.prog 11) [1, 1, 1, 1, 0, 1, 0, 0]) (rndK (fun t => (t 2, t 3, t 4, t 5, t 24, t 25, t 26))) t h = Jr11_0 rc md (t 2) (t 3) (t 4) (t 5) (t 24) (t 25) (t 26) h := by kernel_rfl
noncomputable def J11_0 (rc : Rec) (md : Md) (h0 : Heap) (s2 : Value) (s3 : Value) (s4 : Value) (s5 : Value) (s24 : Value) (s25 : Value) (s26 : Value) (h : Heap) : Option (Value × Heap) :=
  runL (fun x : (Value × Value × Value × Value × Value × Value × Value) × Heap => Jr11_0 rc md x.1.1 x.1.2.1 x.1.2.2.1 x.1.2.2.2.1 x.1.2.2.2.2.1 x.1.2.2.2.2.2.1 x.1.2.2.2.2.2.2 x.2) (fun e (s : Value × Value × Value × Value × Value × Value × Value) h => Jk11_0 rc md h0 e s.1 s.2.1 s.2.2.1 s.2.2.2.1 s.2.2.2.2.1 s.2.2.2.2.2.1 s.2.2.2.2.2.2 h) (s2, s3, s4, s5, s24, s25, s26) h
theorem J11_0_step (rc : Rec) (md : Md) (h0 : Heap) (s2 : Value) (s3 : Value) (s4 : Value) (s5 : Value) (s24 : Value) (s25 : Value) (s26 : Value) (h : Heap) : J11_0 rc md h0 s2 s3 s4 s5 s24 s25 s26 h = (Jr11_0 rc md s2 s3 s4 s5 s24 s25 s26 h).bind fun x => match x with
    | .inl (s, h) => J11_0 rc md h0 s.1 s.2.1 s.2.2.1 s.2.2.2.1 s.2.2.2.2.1 s.2.2.2.2.2.1 s.2.2.2.2.2.2 h
    | .inr (e, s, h) => Jk11_0 rc md h0 e s.1 s.2.1 s.2.2.1 s.2.2.2.1 s.2.2.2.2.1 s.2.2.2.2.2.1 s.2.2.2.2.2.2 h := by
  unfold J11_0
  rw [runL_eq]
  refine congrArg (Option.bind _) (funext fun x => ?_)
  rcases x with ⟨s, h⟩ | ⟨e, s, h⟩ <;> rfl
theorem J11_0_cut (rc : Rec) (md : Md) (h0 : Heap) : cut Try.prog cfg rc md 225 (bodyOf Try.prog 11) [1, 1, 1, 1, 0, 1, 0] (retK Try.prog cfg 11 (rsOf Try.prog 11) h0) = fun t h => J11_0 rc md h0 (t 2) (t 3) (t 4) (t 5) (t 24) (t 25) (t 26) h := by
  funext t h
  have e : sub (bodyOf Try.prog 11) [1, 1, 1, 1, 0, 1, 0] = .loop (sub (bodyOf Try.prog 11) [1, 1, 1, 1, 0, 1, 0, 0]) := by kernel_rfl
  unfold cut
  rw [e]
  exact loop_eq (by kernel_rfl) (fun t => (t 2, t 3, t 4, t 5, t 24, t 25, t 26)) (fun x : (Value × Value × Value × Value × Value × Value × Value) × Heap => Jr11_0 rc md x.1.1 x.1.2.1 x.1.2.2.1 x.1.2.2.2.1 x.1.2.2.2.2.1 x.1.2.2.2.2.2.1 x.1.2.2.2.2.2.2 x.2) (fun t h => Jr11_0_at rc md t h) (fun e (s : Value × Value × Value × Value × Value × Value × Value) h => Jk11_0 rc md h0 e s.1 s.2.1 s.2.2.1 s.2.2.2.1 s.2.2.2.2.1 s.2.2.2.2.2.1 s.2.2.2.2.2.2 h) (fun e t h => Jk11_0_at rc md h0 e t h) t h
noncomputable def F11 (rc : Rec) (md : Md) (a0_0 : Int) (a0_1 : Int) (a0_2 : Int) (a0_3 : Value) (a0_4 : Value) (a1_0 : Int) (a1_1 : Int) (a1_2 : Int) (a1_3 : Int) (a1_4 : Int) (h0 : Heap) : Option (Value × Heap) :=
  let h1 : Heap := h0 ++ [.own [(.int .i64 a0_0), (.int .i64 a0_1), (.int .i64 a0_2), a0_3, a0_4]]
  let h2 : Heap := h1 ++ [.own [(.int .i64 a1_0), (.int .i64 a1_1), (.int .i64 a1_2), (.int .i64 a1_3), (.int .i64 a1_4)]]
  ldN 5 (.pointer (some ⟨h0.length, 0, none⟩)) h2 fun v3 =>
  cl (rc md 31 [v3] h2) fun v4 h5 =>
  cBn v4 fun b6 =>
  bif !b6 then
    cl (rc md 32 [] h5) fun v7 h8 =>
    cBn v7 fun b9 =>
    some ((.bool b9), List.take h0.length h8)
  else
    ldN 5 (.pointer (some ⟨h0.length, 0, none⟩)) h5 fun v10 =>
    cl (rc md 33 [v10] h5) fun v11 h12 =>
    aBin Try.prog .eql 68 v11 (.pointer none) fun v13 =>
    cBn v13 fun b14 =>
    bif b14 then
      some ((.bool false), List.take h0.length h12)
    else
      ld1 (.pointer (some ⟨h0.length, 4, none⟩)) h12 fun v15 =>
      lenS v15 fun v16 =>
      cIn .i64 v16 fun n17 =>
      J11_0 rc md h0 (.pointer (some ⟨h0.length, 0, none⟩)) (.pointer (some ⟨h1.length, 0, none⟩)) (.bool false) v11 v15 (.int .i64 n17) (.int .i64 0) h12
noncomputable def F11H (rc : Rec) (md : Md) (X0 : T → Heap → Option (Value × Heap)) (a0_0 : Int) (a0_1 : Int) (a0_2 : Int) (a0_3 : Value) (a0_4 : Value) (a1_0 : Int) (a1_1 : Int) (a1_2 : Int) (a1_3 : Int) (a1_4 : Int) (h0 : Heap) : Option (Value × Heap) :=
  let h1 : Heap := h0 ++ [.own [(.int .i64 a0_0), (.int .i64 a0_1), (.int .i64 a0_2), a0_3, a0_4]]
  let h2 : Heap := h1 ++ [.own [(.int .i64 a1_0), (.int .i64 a1_1), (.int .i64 a1_2), (.int .i64 a1_3), (.int .i64 a1_4)]]
  ldN 5 (.pointer (some ⟨h0.length, 0, none⟩)) h2 fun v3 =>
  cl (rc md 31 [v3] h2) fun v4 h5 =>
  cBn v4 fun b6 =>
  bif !b6 then
    cl (rc md 32 [] h5) fun v7 h8 =>
    cBn v7 fun b9 =>
    some ((.bool b9), List.take h0.length h8)
  else
    ldN 5 (.pointer (some ⟨h0.length, 0, none⟩)) h5 fun v10 =>
    cl (rc md 33 [v10] h5) fun v11 h12 =>
    aBin Try.prog .eql 68 v11 (.pointer none) fun v13 =>
    cBn v13 fun b14 =>
    bif b14 then
      some ((.bool false), List.take h0.length h12)
    else
      ld1 (.pointer (some ⟨h0.length, 4, none⟩)) h12 fun v15 =>
      lenS v15 fun v16 =>
      cIn .i64 v16 fun n17 =>
      X0 (upd (upd (upd (upd (upd (upd (upd (upd (upd (upd (upd (upd (upd (upd (upd (args0 [(.agg #[(.int .i64 a0_0), (.int .i64 a0_1), (.int .i64 a0_2), a0_3, a0_4]), (.agg #[(.int .i64 a1_0), (.int .i64 a1_1), (.int .i64 a1_2), (.int .i64 a1_3), (.int .i64 a1_4)])]) 2 (.pointer (some ⟨h0.length, 0, none⟩))) 3 (.pointer (some ⟨h1.length, 0, none⟩))) 4 (.bool false)) 15 v3) 16 (.bool b6)) 17 (.bool (!b6))) 19 v10) 20 v11) 5 v11) 21 v11) 22 v13) 23 (.pointer (some ⟨h0.length, 4, none⟩))) 24 v15) 25 (.int .i64 n17)) 26 (.int .i64 0)) h12
theorem F11_h0 (rc : Rec) (md : Md) (a0_0 : Int) (a0_1 : Int) (a0_2 : Int) (a0_3 : Value) (a0_4 : Value) (a1_0 : Int) (a1_1 : Int) (a1_2 : Int) (a1_3 : Int) (a1_4 : Int) (h0 : Heap) : callStep0 Try.prog cfg rc md 11 [(.agg #[(.int .i64 a0_0), (.int .i64 a0_1), (.int .i64 a0_2), a0_3, a0_4]), (.agg #[(.int .i64 a1_0), (.int .i64 a1_1), (.int .i64 a1_2), (.int .i64 a1_3), (.int .i64 a1_4)])] h0 = exec Try.prog cfg rc ⟨md.ro, h0.length⟩ 225 (bodyOf Try.prog 11) (retK Try.prog cfg 11 (rsOf Try.prog 11) h0) (args0 [(.agg #[(.int .i64 a0_0), (.int .i64 a0_1), (.int .i64 a0_2), a0_3, a0_4]), (.agg #[(.int .i64 a1_0), (.int .i64 a1_1), (.int .i64 a1_2), (.int .i64 a1_3), (.int .i64 a1_4)])]) h0 := callStep0_run (by kernel_rfl) (by kernel_rfl) (by kernel_rfl)
theorem F11_h1 (rc : Rec) (md : Md) (X : Nat → T → Heap → Option (Value × Heap)) (a0_0 : Int) (a0_1 : Int) (a0_2 : Int) (a0_3 : Value) (a0_4 : Value) (a1_0 : Int) (a1_1 : Int) (a1_2 : Int) (a1_3 : Int) (a1_4 : Int) (h0 : Heap) : execG Try.prog cfg X rc md 225 (replS (bodyOf Try.prog 11) [([1, 1, 1, 1, 0, 1, 0], 0), ([1, 1, 1, 1, 1], 1)]) (retK Try.prog cfg 11 (rsOf Try.prog 11) h0) (args0 [(.agg #[(.int .i64 a0_0), (.int .i64 a0_1), (.int .i64 a0_2), a0_3, a0_4]), (.agg #[(.int .i64 a1_0), (.int .i64 a1_1), (.int .i64 a1_2), (.int .i64 a1_3), (.int .i64 a1_4)])]) h0 = F11H rc md (X 0) a0_0 a0_1 a0_2 a0_3 a0_4 a1_0 a1_1 a1_2 a1_3 a1_4 h0 := by kernel_rfl
theorem F11_h2 (rc : Rec) (md : Md) (a0_0 : Int) (a0_1 : Int) (a0_2 : Int) (a0_3 : Value) (a0_4 : Value) (a1_0 : Int) (a1_1 : Int) (a1_2 : Int) (a1_3 : Int) (a1_4 : Int) (h0 : Heap) : F11H rc md (fun t h => J11_0 rc md h0 (t 2) (t 3) (t 4) (t 5) (t 24) (t 25) (t 26) h) a0_0 a0_1 a0_2 a0_3 a0_4 a1_0 a1_1 a1_2 a1_3 a1_4 h0 = F11 rc md a0_0 a0_1 a0_2 a0_3 a0_4 a1_0 a1_1 a1_2 a1_3 a1_4 h0 := by unfold F11H F11; kernel_rfl
theorem F11_eq0 (rc : Rec) (md : Md) (a0_0 : Int) (a0_1 : Int) (a0_2 : Int) (a0_3 : Value) (a0_4 : Value) (a1_0 : Int) (a1_1 : Int) (a1_2 : Int) (a1_3 : Int) (a1_4 : Int) (h0 : Heap) : callStep0 Try.prog cfg rc md 11 [(.agg #[(.int .i64 a0_0), (.int .i64 a0_1), (.int .i64 a0_2), a0_3, a0_4]), (.agg #[(.int .i64 a1_0), (.int .i64 a1_1), (.int .i64 a1_2), (.int .i64 a1_3), (.int .i64 a1_4)])] h0 = F11 rc ⟨md.ro, h0.length⟩ a0_0 a0_1 a0_2 a0_3 a0_4 a1_0 a1_1 a1_2 a1_3 a1_4 h0 := by
  rw [F11_h0, exec_holes [([1, 1, 1, 1, 0, 1, 0], 0), ([1, 1, 1, 1, 1], 1)] (by kernel_rfl), F11_h1, show (goX Try.prog cfg rc ⟨md.ro, h0.length⟩ 225 (bodyOf Try.prog 11) [([1, 1, 1, 1, 0, 1, 0], 0), ([1, 1, 1, 1, 1], 1)] (retK Try.prog cfg 11 (rsOf Try.prog 11) h0)) 0 = _ from J11_0_cut rc ⟨md.ro, h0.length⟩ h0]
  exact F11_h2 rc _ a0_0 a0_1 a0_2 a0_3 a0_4 a1_0 a1_1 a1_2 a1_3 a1_4 h0
theorem F11_eq (rc : Rec) (md : Md) (a0_0 : Int) (a0_1 : Int) (a0_2 : Int) (a0_3 : Value) (a0_4 : Value) (a1_0 : Int) (a1_1 : Int) (a1_2 : Int) (a1_3 : Int) (a1_4 : Int) (h0 : Heap) : callStep Try.prog cfg rc md 11 [(.agg #[(.int .i64 a0_0), (.int .i64 a0_1), (.int .i64 a0_2), a0_3, a0_4]), (.agg #[(.int .i64 a1_0), (.int .i64 a1_1), (.int .i64 a1_2), (.int .i64 a1_3), (.int .i64 a1_4)])] h0 = F11 rc ⟨md.ro, h0.length⟩ a0_0 a0_1 a0_2 a0_3 a0_4 a1_0 a1_1 a1_2 a1_3 a1_4 h0 := (callStep_ne (by kernel_rfl)).trans (F11_eq0 rc md a0_0 a0_1 a0_2 a0_3 a0_4 a1_0 a1_1 a1_2 a1_3 a1_4 h0)

end Go.Det.E
