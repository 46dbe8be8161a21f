/- Printed functions. -/
import Derived.Test.YtbliaopehpcpbaaDoorE1
import Derived.Test.YtbliaopehpcpbaaDoorE0
import Derived.Test.YtbliaopehpcpbaaDoorDetT
import Derived.Test.YtbliaopehpcpbaaDoorDetX
import Derived.Test.YtbliaopehpcpbaaDoorProg
set_option autoImplicit false
set_option linter.unusedVariables false
set_option linter.unusedSimpArgs false
namespace Go.Det.E
open Go.Proofs Go.Det

/-- tombolo/tombololaw03.ValKinds -/
noncomputable def F3 (rc : Rec) (md : Md) (a0_0 : Int) (a0_1 : Int) (a0_2 : ByteArray) (a0_3 : Int) (a1 : Value) (h0 : Heap) : Option (Value × Heap) :=
  let h1 : Heap := h0 ++ [.own [(.int .i64 a0_0), (.int .i64 a0_1), (.string a0_2), (.int .i32 a0_3)]]
  lenS a1 fun v2 =>
  cIn .i64 v2 fun n3 =>
  bif (decide (n3 > 60)) then
    cl (rc md 8 [] h1) fun v4 h5 =>
    cBn v4 fun b6 =>
    some ((.bool b6), List.take h0.length h5)
  else
    ldN 4 (.pointer (some ⟨h0.length, 0, none⟩)) h1 fun v7 =>
    cl (rc md 9 [v7] h1) fun v8 h9 =>
    cl (rc md 10 [v8] h9) fun v10 h11 =>
    exT v10 0 fun v12 =>
    cIn .i64 v12 fun n13 =>
    exT v10 1 fun v14 =>
    cBn v14 fun b15 =>
    cl (rc md 11 [v8] h11) fun v16 h17 =>
    exT v16 0 fun v18 =>
    exT v16 1 fun v19 =>
    cBn v19 fun b20 =>
    cl (rc md 12 [v8] h17) fun v21 h22 =>
    exT v21 0 fun v23 =>
    cIn .i32 v23 fun n24 =>
    exT v21 1 fun v25 =>
    cBn v25 fun b26 =>
    cl (rc md 13 [v8] h22) fun v27 h28 =>
    exT v27 0 fun v29 =>
    exT v27 1 fun v30 =>
    cBn v30 fun b31 =>
    ldN 4 (.pointer (some ⟨h0.length, 0, none⟩)) h28 fun v32 =>
    cl (rc md 14 [v32] h28) fun v33 h34 =>
    cIn .i64 v33 fun n35 =>
    cl (rc md 15 [v8] h34) fun v36 h37 =>
    cIn .i64 v36 fun n38 =>
    (bif wantV (.bool (n38 != n35)) false then
    some ((.bool b15), h37)
    else some (undef, h37)).bind fun p39 =>
    (bif wantV (.bool (n38 != n35)) false then
    some ((.int .i64 n35), p39.2)
    else some (undef, p39.2)).bind fun p40 =>
    (bif wantV (.bool (n38 != n35)) false then
    aBin Tryd.prog .eql 3 p40.1 (.int .i64 1) fun v41 =>
    some (v41, p40.2)
    else some (undef, p40.2)).bind fun p42 =>
    (bif wantV (.bool (n38 != n35)) false then
    aBin Tryd.prog .neq 4 p39.1 p42.1 fun v43 =>
    some (v43, p42.2)
    else some (undef, p42.2)).bind fun p44 =>
    cBn (bif (n38 != n35) then (.bool true) else p44.1) fun b45 =>
    (bif wantV (.bool b45) false then
    some ((.bool b20), p44.2)
    else some (undef, p44.2)).bind fun p46 =>
    (bif wantV (.bool b45) false then
    some ((.int .i64 n35), p46.2)
    else some (undef, p46.2)).bind fun p47 =>
    (bif wantV (.bool b45) false then
    aBin Tryd.prog .eql 3 p47.1 (.int .i64 2) fun v48 =>
    some (v48, p47.2)
    else some (undef, p47.2)).bind fun p49 =>
    (bif wantV (.bool b45) false then
    aBin Tryd.prog .neq 4 p46.1 p49.1 fun v50 =>
    some (v50, p49.2)
    else some (undef, p49.2)).bind fun p51 =>
    cBn (bif b45 then (.bool true) else p51.1) fun b52 =>
    (bif wantV (.bool b52) false then
    some ((.bool b26), p51.2)
    else some (undef, p51.2)).bind fun p53 =>
    (bif wantV (.bool b52) false then
    some ((.int .i64 n35), p53.2)
    else some (undef, p53.2)).bind fun p54 =>
    (bif wantV (.bool b52) false then
    aBin Tryd.prog .eql 3 p54.1 (.int .i64 3) fun v55 =>
    some (v55, p54.2)
    else some (undef, p54.2)).bind fun p56 =>
    (bif wantV (.bool b52) false then
    aBin Tryd.prog .neq 4 p53.1 p56.1 fun v57 =>
    some (v57, p56.2)
    else some (undef, p56.2)).bind fun p58 =>
    cBn (bif b52 then (.bool true) else p58.1) fun b59 =>
    (bif wantV (.bool b59) false then
    some ((.bool b31), p58.2)
    else some (undef, p58.2)).bind fun p60 =>
    cBn (bif b59 then (.bool true) else p60.1) fun b61 =>
    (bif wantV (.bool b61) false then
    some ((.bool b15), p60.2)
    else some (undef, p60.2)).bind fun p62 =>
    (bif wantV (.bool b61) false then
    some (p62.1, p62.2)
    else some (undef, p62.2)).bind fun p63 =>
    (bif wantV p63.1 true then
    some ((.int .i64 n13), p63.2)
    else some (undef, p63.2)).bind fun p64 =>
    (bif wantV p63.1 true then
    some ((.pointer (some ⟨h0.length, 1, none⟩)), p64.2)
    else some (undef, p64.2)).bind fun p65 =>
    (bif wantV p63.1 true then
    ld1 p65.1 p65.2 fun v66 =>
    cIn .i64 v66 fun n67 =>
    some ((.int .i64 n67), p65.2)
    else some (undef, p65.2)).bind fun p68 =>
    (bif wantV p63.1 true then
    aBin Tryd.prog .neq 3 p64.1 p68.1 fun v69 =>
    some (v69, p68.2)
    else some (undef, p68.2)).bind fun p70 =>
    (bif wantV (.bool b61) false then
    cBn p63.1 fun q71 =>
    cBn (bif q71 then p70.1 else (.bool false)) fun b72 =>
    some ((.bool b72), p70.2)
    else some (undef, p70.2)).bind fun p73 =>
    cBn (bif b61 then (.bool true) else p73.1) fun b74 =>
    (bif wantV (.bool b74) false then
    some ((.bool b15), p73.2)
    else some (undef, p73.2)).bind fun p75 =>
    (bif wantV (.bool b74) false then
    aUn .not p75.1 fun v76 =>
    some (v76, p75.2)
    else some (undef, p75.2)).bind fun p77 =>
    (bif wantV (.bool b74) false then
    some (p77.1, p77.2)
    else some (undef, p77.2)).bind fun p78 =>
    (bif wantV p78.1 true then
    some ((.int .i64 n13), p78.2)
    else some (undef, p78.2)).bind fun p79 =>
    (bif wantV p78.1 true then
    aBin Tryd.prog .neq 3 p79.1 (.int .i64 0) fun v80 =>
    some (v80, p79.2)
    else some (undef, p79.2)).bind fun p81 =>
    (bif wantV (.bool b74) false then
    cBn p78.1 fun q82 =>
    cBn (bif q82 then p81.1 else (.bool false)) fun b83 =>
    some ((.bool b83), p81.2)
    else some (undef, p81.2)).bind fun p84 =>
    cBn (bif b74 then (.bool true) else p84.1) fun b85 =>
    (bif wantV (.bool b85) false then
    some ((.bool b20), p84.2)
    else some (undef, p84.2)).bind fun p86 =>
    (bif wantV (.bool b85) false then
    some (p86.1, p86.2)
    else some (undef, p86.2)).bind fun p87 =>
    (bif wantV p87.1 true then
    some (v18, p87.2)
    else some (undef, p87.2)).bind fun p88 =>
    (bif wantV p87.1 true then
    some ((.pointer (some ⟨h0.length, 2, none⟩)), p88.2)
    else some (undef, p88.2)).bind fun p89 =>
    (bif wantV p87.1 true then
    ld1 p89.1 p89.2 fun v90 =>
    some (v90, p89.2)
    else some (undef, p89.2)).bind fun p91 =>
    (bif wantV p87.1 true then
    aBin Tryd.prog .neq 9 p88.1 p91.1 fun v92 =>
    some (v92, p91.2)
    else some (undef, p91.2)).bind fun p93 =>
    (bif wantV (.bool b85) false then
    cBn p87.1 fun q94 =>
    cBn (bif q94 then p93.1 else (.bool false)) fun b95 =>
    some ((.bool b95), p93.2)
    else some (undef, p93.2)).bind fun p96 =>
    cBn (bif b85 then (.bool true) else p96.1) fun b97 =>
    (bif wantV (.bool b97) false then
    some ((.bool b20), p96.2)
    else some (undef, p96.2)).bind fun p98 =>
    (bif wantV (.bool b97) false then
    aUn .not p98.1 fun v99 =>
    some (v99, p98.2)
    else some (undef, p98.2)).bind fun p100 =>
    (bif wantV (.bool b97) false then
    some (p100.1, p100.2)
    else some (undef, p100.2)).bind fun p101 =>
    (bif wantV p101.1 true then
    some (v18, p101.2)
    else some (undef, p101.2)).bind fun p102 =>
    (bif wantV p101.1 true then
    aBin Tryd.prog .neq 9 p102.1 (.string ⟨#[]⟩) fun v103 =>
    some (v103, p102.2)
    else some (undef, p102.2)).bind fun p104 =>
    (bif wantV (.bool b97) false then
    cBn p101.1 fun q105 =>
    cBn (bif q105 then p104.1 else (.bool false)) fun b106 =>
    some ((.bool b106), p104.2)
    else some (undef, p104.2)).bind fun p107 =>
    cBn (bif b97 then (.bool true) else p107.1) fun b108 =>
    (bif wantV (.bool b108) false then
    some ((.bool b26), p107.2)
    else some (undef, p107.2)).bind fun p109 =>
    (bif wantV (.bool b108) false then
    some (p109.1, p109.2)
    else some (undef, p109.2)).bind fun p110 =>
    (bif wantV p110.1 true then
    some ((.int .i32 n24), p110.2)
    else some (undef, p110.2)).bind fun p111 =>
    (bif wantV p110.1 true then
    some ((.pointer (some ⟨h0.length, 3, none⟩)), p111.2)
    else some (undef, p111.2)).bind fun p112 =>
    (bif wantV p110.1 true then
    ld1 p112.1 p112.2 fun v113 =>
    cIn .i32 v113 fun n114 =>
    some ((.int .i32 n114), p112.2)
    else some (undef, p112.2)).bind fun p115 =>
    (bif wantV p110.1 true then
    aBin Tryd.prog .neq 21 p111.1 p115.1 fun v116 =>
    some (v116, p115.2)
    else some (undef, p115.2)).bind fun p117 =>
    (bif wantV (.bool b108) false then
    cBn p110.1 fun q118 =>
    cBn (bif q118 then p117.1 else (.bool false)) fun b119 =>
    some ((.bool b119), p117.2)
    else some (undef, p117.2)).bind fun p120 =>
    cBn (bif b108 then (.bool true) else p120.1) fun b121 =>
    (bif wantV (.bool b121) false then
    some ((.bool b26), p120.2)
    else some (undef, p120.2)).bind fun p122 =>
    (bif wantV (.bool b121) false then
    aUn .not p122.1 fun v123 =>
    some (v123, p122.2)
    else some (undef, p122.2)).bind fun p124 =>
    (bif wantV (.bool b121) false then
    some (p124.1, p124.2)
    else some (undef, p124.2)).bind fun p125 =>
    (bif wantV p125.1 true then
    some ((.int .i32 n24), p125.2)
    else some (undef, p125.2)).bind fun p126 =>
    (bif wantV p125.1 true then
    aBin Tryd.prog .neq 21 p126.1 (.int .i32 0) fun v127 =>
    some (v127, p126.2)
    else some (undef, p126.2)).bind fun p128 =>
    (bif wantV (.bool b121) false then
    cBn p125.1 fun q129 =>
    cBn (bif q129 then p128.1 else (.bool false)) fun b130 =>
    some ((.bool b130), p128.2)
    else some (undef, p128.2)).bind fun p131 =>
    cBn (bif b121 then (.bool true) else p131.1) fun b132 =>
    bif b132 then
      some ((.bool false), List.take h0.length p131.2)
    else
      cl (rc md 16 [a1] p131.2) fun v133 h134 =>
      cl (rc md 13 [(.iface 33 v133)] h134) fun v135 h136 =>
      exT v135 0 fun v137 =>
      exT v135 1 fun v138 =>
      cBn v138 fun b139 =>
      cl (rc md 16 [a1] h136) fun v140 h141 =>
      cl (rc md 15 [(.iface 33 v140)] h141) fun v142 h143 =>
      cIn .i64 v142 fun n144 =>
      (bif wantV (.bool (n144 == 4)) true then
      some ((.bool b139), h143)
      else some (undef, h143)).bind fun p145 =>
      cBn (bif (n144 == 4) then p145.1 else (.bool false)) fun b146 =>
      (bif wantV (.bool b146) true then
      some (v137, p145.2)
      else some (undef, p145.2)).bind fun p147 =>
      (bif wantV (.bool b146) true then
      lenS p147.1 fun v148 =>
      cIn .i64 v148 fun n149 =>
      some ((.int .i64 n149), p147.2)
      else some (undef, p147.2)).bind fun p150 =>
      (bif wantV (.bool b146) true then
      some (a1, p150.2)
      else some (undef, p150.2)).bind fun p151 =>
      (bif wantV (.bool b146) true then
      lenS p151.1 fun v152 =>
      cIn .i64 v152 fun n153 =>
      some ((.int .i64 n153), p151.2)
      else some (undef, p151.2)).bind fun p154 =>
      (bif wantV (.bool b146) true then
      aBin Tryd.prog .eql 3 p150.1 p154.1 fun v155 =>
      some (v155, p154.2)
      else some (undef, p154.2)).bind fun p156 =>
      cBn (bif b146 then p156.1 else (.bool false)) fun b157 =>
      (bif wantV (.bool b157) true then
      cl (rc md 8 [] p156.2) fun v158 h159 =>
      cBn v158 fun b160 =>
      some ((.bool b160), h159)
      else some (undef, p156.2)).bind fun p161 =>
      cBn (bif b157 then p161.1 else (.bool false)) fun b162 =>
      some ((.bool b162), List.take h0.length p161.2)
theorem F3_eq0 (rc : Rec) (md : Md) (a0_0 : Int) (a0_1 : Int) (a0_2 : ByteArray) (a0_3 : Int) (a1 : Value) (h0 : Heap) : callStep0 Tryd.prog cfg rc md 3 [(.agg #[(.int .i64 a0_0), (.int .i64 a0_1), (.string a0_2), (.int .i32 a0_3)]), a1] h0 = F3 rc ⟨md.ro, h0.length⟩ a0_0 a0_1 a0_2 a0_3 a1 h0 := by kernel_rfl
theorem F3_eq (rc : Rec) (md : Md) (a0_0 : Int) (a0_1 : Int) (a0_2 : ByteArray) (a0_3 : Int) (a1 : Value) (h0 : Heap) : callStep Tryd.prog cfg rc md 3 [(.agg #[(.int .i64 a0_0), (.int .i64 a0_1), (.string a0_2), (.int .i32 a0_3)]), a1] h0 = F3 rc ⟨md.ro, h0.length⟩ a0_0 a0_1 a0_2 a0_3 a1 h0 := (callStep_ne (by kernel_rfl)).trans (F3_eq0 rc md a0_0 a0_1 a0_2 a0_3 a1 h0)

/-- tombolo/tombololaw03.ValMust -/
noncomputable def F4 (rc : Rec) (md : Md) (a0_0 : Int) (a0_1 : Int) (a0_2 : ByteArray) (a0_3 : Int) (h0 : Heap) : Option (Value × Heap) :=
  let h1 : Heap := h0 ++ [.own [(.int .i64 a0_0), (.int .i64 a0_1), (.string a0_2), (.int .i32 a0_3)]]
  ldN 4 (.pointer (some ⟨h0.length, 0, none⟩)) h1 fun v2 =>
  cl (rc md 9 [v2] h1) fun v3 h4 =>
  cl (rc md 17 [v3] h4) fun v5 h6 =>
  exT v5 0 fun v7 =>
  cIn .i64 v7 fun n8 =>
  exT v5 1 fun v9 =>
  cBn v9 fun b10 =>
  cl (rc md 18 [v3] h6) fun v11 h12 =>
  exT v11 0 fun v13 =>
  exT v11 1 fun v14 =>
  cBn v14 fun b15 =>
  aBuildSlice Tryd.prog 33 1 [(0, v3)] h12 fun v16 h17 =>
  cl (rc md 17 [(.iface 33 v16)] h17) fun v18 h19 =>
  exT v18 0 fun v20 =>
  cIn .i64 v20 fun n21 =>
  exT v18 1 fun v22 =>
  cBn v22 fun b23 =>
  ld1 (.pointer (some ⟨h0.length, 0, none⟩)) h19 fun v24 =>
  cIn .i64 v24 fun n25 =>
  aBin Tryd.prog .eql 4 (.bool b10) (.bool (n25 == 1)) fun v26 =>
  (bif wantV v26 true then
  some ((.bool b10), h19)
  else some (undef, h19)).bind fun p27 =>
  (bif wantV v26 true then
  aUn .not p27.1 fun v28 =>
  some (v28, p27.2)
  else some (undef, p27.2)).bind fun p29 =>
  (bif wantV v26 true then
  some (p29.1, p29.2)
  else some (undef, p29.2)).bind fun p30 =>
  (bif wantV p30.1 false then
  some ((.int .i64 n8), p30.2)
  else some (undef, p30.2)).bind fun p31 =>
  (bif wantV p30.1 false then
  some ((.pointer (some ⟨h0.length, 1, none⟩)), p31.2)
  else some (undef, p31.2)).bind fun p32 =>
  (bif wantV p30.1 false then
  ld1 p32.1 p32.2 fun v33 =>
  cIn .i64 v33 fun n34 =>
  some ((.int .i64 n34), p32.2)
  else some (undef, p32.2)).bind fun p35 =>
  (bif wantV p30.1 false then
  aBin Tryd.prog .eql 3 p31.1 p35.1 fun v36 =>
  some (v36, p35.2)
  else some (undef, p35.2)).bind fun p37 =>
  (bif wantV v26 true then
  cBn p30.1 fun q38 =>
  cBn (bif q38 then (.bool true) else p37.1) fun b39 =>
  some ((.bool b39), p37.2)
  else some (undef, p37.2)).bind fun p40 =>
  cBn v26 fun q41 =>
  cBn (bif q41 then p40.1 else (.bool false)) fun b42 =>
  (bif wantV (.bool b42) true then
  some ((.bool b15), p40.2)
  else some (undef, p40.2)).bind fun p43 =>
  (bif wantV (.bool b42) true then
  some ((.pointer (some ⟨h0.length, 0, none⟩)), p43.2)
  else some (undef, p43.2)).bind fun p44 =>
  (bif wantV (.bool b42) true then
  ld1 p44.1 p44.2 fun v45 =>
  cIn .i64 v45 fun n46 =>
  some ((.int .i64 n46), p44.2)
  else some (undef, p44.2)).bind fun p47 =>
  (bif wantV (.bool b42) true then
  aBin Tryd.prog .eql 3 p47.1 (.int .i64 2) fun v48 =>
  some (v48, p47.2)
  else some (undef, p47.2)).bind fun p49 =>
  (bif wantV (.bool b42) true then
  aBin Tryd.prog .eql 4 p43.1 p49.1 fun v50 =>
  some (v50, p49.2)
  else some (undef, p49.2)).bind fun p51 =>
  cBn (bif b42 then p51.1 else (.bool false)) fun b52 =>
  (bif wantV (.bool b52) true then
  some ((.bool b15), p51.2)
  else some (undef, p51.2)).bind fun p53 =>
  (bif wantV (.bool b52) true then
  aUn .not p53.1 fun v54 =>
  some (v54, p53.2)
  else some (undef, p53.2)).bind fun p55 =>
  (bif wantV (.bool b52) true then
  some (p55.1, p55.2)
  else some (undef, p55.2)).bind fun p56 =>
  (bif wantV p56.1 false then
  some (v13, p56.2)
  else some (undef, p56.2)).bind fun p57 =>
  (bif wantV p56.1 false then
  some ((.pointer (some ⟨h0.length, 2, none⟩)), p57.2)
  else some (undef, p57.2)).bind fun p58 =>
  (bif wantV p56.1 false then
  ld1 p58.1 p58.2 fun v59 =>
  some (v59, p58.2)
  else some (undef, p58.2)).bind fun p60 =>
  (bif wantV p56.1 false then
  aBin Tryd.prog .eql 9 p57.1 p60.1 fun v61 =>
  some (v61, p60.2)
  else some (undef, p60.2)).bind fun p62 =>
  (bif wantV (.bool b52) true then
  cBn p56.1 fun q63 =>
  cBn (bif q63 then (.bool true) else p62.1) fun b64 =>
  some ((.bool b64), p62.2)
  else some (undef, p62.2)).bind fun p65 =>
  cBn (bif b52 then p65.1 else (.bool false)) fun b66 =>
  (bif wantV (.bool b66) true then
  some ((.bool b23), p65.2)
  else some (undef, p65.2)).bind fun p67 =>
  (bif wantV (.bool b66) true then
  aUn .not p67.1 fun v68 =>
  some (v68, p67.2)
  else some (undef, p67.2)).bind fun p69 =>
  cBn (bif b66 then p69.1 else (.bool false)) fun b70 =>
  (bif wantV (.bool b70) true then
  cl (rc md 8 [] p69.2) fun v71 h72 =>
  cBn v71 fun b73 =>
  some ((.bool b73), h72)
  else some (undef, p69.2)).bind fun p74 =>
  cBn (bif b70 then p74.1 else (.bool false)) fun b75 =>
  some ((.bool b75), List.take h0.length p74.2)
theorem F4_eq0 (rc : Rec) (md : Md) (a0_0 : Int) (a0_1 : Int) (a0_2 : ByteArray) (a0_3 : Int) (h0 : Heap) : callStep0 Tryd.prog cfg rc md 4 [(.agg #[(.int .i64 a0_0), (.int .i64 a0_1), (.string a0_2), (.int .i32 a0_3)])] h0 = F4 rc ⟨md.ro, h0.length⟩ a0_0 a0_1 a0_2 a0_3 h0 := by kernel_rfl
theorem F4_eq (rc : Rec) (md : Md) (a0_0 : Int) (a0_1 : Int) (a0_2 : ByteArray) (a0_3 : Int) (h0 : Heap) : callStep Tryd.prog cfg rc md 4 [(.agg #[(.int .i64 a0_0), (.int .i64 a0_1), (.string a0_2), (.int .i32 a0_3)])] h0 = F4 rc ⟨md.ro, h0.length⟩ a0_0 a0_1 a0_2 a0_3 h0 := (callStep_ne (by kernel_rfl)).trans (F4_eq0 rc md a0_0 a0_1 a0_2 a0_3 h0)

/-- tombolo/tombololaw03.ValEquals -/
noncomputable def J5_1 (rc : Rec) (md : Md) (h0 : Heap) (s3 : Value) (s4 : Value) (s7 : Value) (s8 : Value) (s9 : Value) (h : Heap) : Option (Value × Heap) :=
  cl (rc md 19 [(.iface 33 s7), (.iface 33 s8)] h) fun v1 h2 =>
  cBn v1 fun b3 =>
  aBin Tryd.prog .neq 4 (.bool b3) s9 fun v4 =>
  (bif wantV v4 false then
  some (s7, h2)
  else some (undef, h2)).bind fun p5 =>
  (bif wantV v4 false then
  some ((.iface 33 p5.1), p5.2)
  else some (undef, p5.2)).bind fun p6 =>
  (bif wantV v4 false then
  some (s8, p6.2)
  else some (undef, p6.2)).bind fun p7 =>
  (bif wantV v4 false then
  some ((.iface 3 (.int .i64 1)), p7.2)
  else some (undef, p7.2)).bind fun p8 =>
  (bif wantV v4 false then
  aBuildSlice Tryd.prog 33 1 [(0, p8.1)] p8.2 fun v9 h10 =>
  some (v9, h10)
  else some (undef, p8.2)).bind fun p11 =>
  (bif wantV v4 false then
  aBuiltin Tryd.prog md .append #[33, 33] [p7.1, p11.1] p11.2 fun v12 h13 =>
  some (v12, h13)
  else some (undef, p11.2)).bind fun p14 =>
  (bif wantV v4 false then
  some ((.iface 33 p14.1), p14.2)
  else some (undef, p14.2)).bind fun p15 =>
  (bif wantV v4 false then
  cl (rc md 19 [p6.1, p15.1] p15.2) fun v16 h17 =>
  cBn v16 fun b18 =>
  some ((.bool b18), h17)
  else some (undef, p15.2)).bind fun p19 =>
  cBn v4 fun q20 =>
  cBn (bif q20 then (.bool true) else p19.1) fun b21 =>
  bif b21 then
    some ((.bool false), List.take h0.length p19.2)
  else
    ldN 4 s3 p19.2 fun v22 =>
    cl (rc md 9 [v22] p19.2) fun v23 h24 =>
    aBuildSlice Tryd.prog 33 2 [(0, (.iface 33 s7)), (1, v23)] h24 fun v25 h26 =>
    ldN 4 s4 h26 fun v27 =>
    cLE true (fun hq => ldN 4 s4 hq some) v27 h24 h26 <|
    cl (rc md 9 [v27] h26) fun v28 h29 =>
    cLE true (fun hq => cl (rc md 9 [v27] hq) fun vq _ => some vq) v28 h24 h26 <|
    aBuildSlice Tryd.prog 33 2 [(0, (.iface 33 s8)), (1, v28)] h29 fun v30 h31 =>
    cl (rc md 19 [(.iface 33 v25), (.iface 33 v30)] h31) fun v32 h33 =>
    cBn v32 fun b34 =>
    (bif wantV s9 true then
    ldN 4 s3 h33 fun v35 =>
    some (v35, h33)
    else some (undef, h33)).bind fun p36 =>
    (bif wantV s9 true then
    ldN 4 s4 p36.2 fun v37 =>
    some (v37, p36.2)
    else some (undef, p36.2)).bind fun p38 =>
    (bif wantV s9 true then
    cl (rc md 20 [p36.1, p38.1] p38.2) fun v39 h40 =>
    cBn v39 fun b41 =>
    some ((.bool b41), h40)
    else some (undef, p38.2)).bind fun p42 =>
    cBn s9 fun q43 =>
    cBn (bif q43 then p42.1 else (.bool false)) fun b44 =>
    aBin Tryd.prog .eql 4 (.bool b34) (.bool b44) fun v45 =>
    (bif wantV v45 true then
    cl (rc md 8 [] p42.2) fun v46 h47 =>
    cBn v46 fun b48 =>
    some ((.bool b48), h47)
    else some (undef, p42.2)).bind fun p49 =>
    cBn v45 fun q50 =>
    cBn (bif q50 then p49.1 else (.bool false)) fun b51 =>
    some ((.bool b51), List.take h0.length p49.2)
theorem J5_1_at (rc : Rec) (md : Md) (h0 : Heap) (t : T) (h : Heap) : cut Tryd.prog cfg rc md 100 (bodyOf Tryd.prog 5) [1, 1, 1, 1, 1, 1] (retK Tryd.prog cfg 5 (rsOf Tryd.prog 5) h0) t h = J5_1 rc md h0 (t 3) (t 4) (t 7) (t 8) (t 9) h := by kernel_rfl
theorem J5_1_cut (rc : Rec) (md : Md) (h0 : Heap) : cut Tryd.prog cfg rc md 100 (bodyOf Tryd.prog 5) [1, 1, 1, 1, 1, 1] (retK Tryd.prog cfg 5 (rsOf Tryd.prog 5) h0) = fun t h => J5_1 rc md h0 (t 3) (t 4) (t 7) (t 8) (t 9) h := funext fun t => funext fun h => J5_1_at rc md h0 t h
noncomputable def Jk5_0 (rc : Rec) (md : Md) (h0 : Heap) (e : Exit) (s3 : Value) (s4 : Value) (s6 : Value) (s7 : Value) (s8 : Value) (s9 : Value) (s47 : Value) (s48 : Value) (s49 : Value) (h : Heap) : Option (Value × Heap) :=
  match e with
  | .normal =>
    J5_1 rc md h0 s3 s4 s7 s8 s9 h
  | .exit j =>
    bif Nat.beq j 0 then
      J5_1 rc md h0 s3 s4 s7 s8 s9 h
    else
      none
  | .ret =>
    fin1 h0 s6 h
  | .goto l => none
  | .panic ps => none
  | .outgrown => none
noncomputable def Jk5_0H (rc : Rec) (md : Md) (h0 : Heap) (X1 : T → Heap → Option (Value × Heap)) (e : Exit) (t : T) (h : Heap) : Option (Value × Heap) :=
  match e with
  | .normal =>
    X1 t h
  | .exit j =>
    bif Nat.beq j 0 then
      X1 t h
    else
      none
  | .ret =>
    fin1 h0 (t 6) h
  | .goto l => none
  | .panic ps => none
  | .outgrown => none
theorem Jk5_0_h1 (rc : Rec) (md : Md) (h0 : Heap) (X : Nat → T → Heap → Option (Value × Heap)) (e : Exit) (t : T) (h : Heap) : kAtG Tryd.prog cfg X rc md 100 (replS (bodyOf Tryd.prog 5) [([1, 1, 1, 1, 1, 1], 1)]) [1, 1, 1, 1, 1, 0, 1, 0] (retK Tryd.prog cfg 5 (rsOf Tryd.prog 5) h0) e t h = Jk5_0H rc md h0 (X 1) e t h := by cases e <;> kernel_rfl
theorem Jk5_0_h2 (rc : Rec) (md : Md) (h0 : Heap) (e : Exit) (t : T) (h : Heap) : Jk5_0H rc md h0 (fun t h => J5_1 rc md h0 (t 3) (t 4) (t 7) (t 8) (t 9) h) e t h = Jk5_0 rc md h0 e (t 3) (t 4) (t 6) (t 7) (t 8) (t 9) (t 47) (t 48) (t 49) h := by cases e <;> (unfold Jk5_0H Jk5_0; kernel_rfl)
theorem Jk5_0_at (rc : Rec) (md : Md) (h0 : Heap) (e : Exit) (t : T) (h : Heap) : kAt Tryd.prog cfg rc md 100 (bodyOf Tryd.prog 5) [1, 1, 1, 1, 1, 0, 1, 0] (retK Tryd.prog cfg 5 (rsOf Tryd.prog 5) h0) e t h = Jk5_0 rc md h0 e (t 3) (t 4) (t 6) (t 7) (t 8) (t 9) (t 47) (t 48) (t 49) h := by
  rw [kAt_holes [([1, 1, 1, 1, 1, 1], 1)] [1, 1, 1, 1, 1, 0, 1, 0] (by kernel_rfl), Jk5_0_h1, show (goX Tryd.prog cfg rc md 100 (bodyOf Tryd.prog 5) [([1, 1, 1, 1, 1, 1], 1)] (retK Tryd.prog cfg 5 (rsOf Tryd.prog 5) h0)) 1 = _ from J5_1_cut rc md h0]
  exact Jk5_0_h2 rc md h0 e t h
/-- a round -/
noncomputable def Jr5_0 (rc : Rec) (md : Md) (s3 : Value) (s4 : Value) (s6 : Value) (s7 : Value) (s8 : Value) (s9 : Value) (s47 : Value) (s48 : Value) (s49 : Value) (h : Heap) : Option (((Value × Value × Value × Value × Value × Value × Value × Value × Value) × Heap) ⊕ (Exit × (Value × Value × Value × Value × Value × Value × Value × Value × Value) × Heap)) :=
  aBin Tryd.prog .lss 3 s49 s48 fun v1 =>
  cBn v1 fun b2 =>
  bif b2 then
    ixSV 4 s47 s49 fun v3 =>
    ldN 4 v3 h fun v4 =>
    let h5 : Heap := h ++ [.own [(.int .i64 0), (.int .i64 0), (.string ⟨#[]⟩), (.int .i32 0)]]
    st md 4 (.pointer (some ⟨h.length, 0, none⟩)) v4 h5 fun h6 =>
    (bif wantV s9 true then
    ldN 4 (.pointer (some ⟨h.length, 0, none⟩)) h6 fun v7 =>
    some (v7, h6)
    else some (undef, h6)).bind fun p8 =>
    (bif wantV s9 true then
    cl (rc md 14 [p8.1] p8.2) fun v9 h10 =>
    cIn .i64 v9 fun n11 =>
    some ((.int .i64 n11), h10)
    else some (undef, p8.2)).bind fun p12 =>
    (bif wantV s9 true then
    aBin Tryd.prog .neq 3 p12.1 (.int .i64 0) fun v13 =>
    some (v13, p12.2)
    else some (undef, p12.2)).bind fun p14 =>
    cBn s9 fun q15 =>
    cBn (bif q15 then p14.1 else (.bool false)) fun b16 =>
    aBin Tryd.prog .add 3 s49 (.int .i64 1) fun v17 =>
    some (.inl ((s3, s4, s6, s7, s8, (.bool b16), s47, s48, v17), p14.2))
  else
    some (.inr ((.exit 0), (s3, s4, s6, s7, s8, s9, s47, s48, s49), h))
theorem Jr5_0_at (rc : Rec) (md : Md) (t : T) (h : Heap) : exec Tryd.prog cfg rc md 100 (sub (bodyOf Tryd.prog 5) [1, 1, 1, 1, 1, 0, 1, 0, 0]) (rndK (fun t => (t 3, t 4, t 6, t 7, t 8, t 9, t 47, t 48, t 49))) t h = Jr5_0 rc md (t 3) (t 4) (t 6) (t 7) (t 8) (t 9) (t 47) (t 48) (t 49) h := by kernel_rfl
noncomputable def J5_0 (rc : Rec) (md : Md) (h0 : Heap) (s3 : Value) (s4 : Value) (s6 : Value) (s7 : Value) (s8 : Value) (s9 : Value) (s47 : Value) (s48 : Value) (s49 : Value) (h : Heap) : Option (Value × Heap) :=
  runL (fun x : (Value × Value × Value × Value × Value × Value × Value × Value × Value) × Heap => Jr5_0 rc md x.1.1 x.1.2.1 x.1.2.2.1 x.1.2.2.2.1 x.1.2.2.2.2.1 x.1.2.2.2.2.2.1 x.1.2.2.2.2.2.2.1 x.1.2.2.2.2.2.2.2.1 x.1.2.2.2.2.2.2.2.2 x.2) (fun e (s : Value × Value × Value × Value × Value × Value × Value × Value × Value) h => Jk5_0 rc md h0 e s.1 s.2.1 s.2.2.1 s.2.2.2.1 s.2.2.2.2.1 s.2.2.2.2.2.1 s.2.2.2.2.2.2.1 s.2.2.2.2.2.2.2.1 s.2.2.2.2.2.2.2.2 h) (s3, s4, s6, s7, s8, s9, s47, s48, s49) h
theorem J5_0_step (rc : Rec) (md : Md) (h0 : Heap) (s3 : Value) (s4 : Value) (s6 : Value) (s7 : Value) (s8 : Value) (s9 : Value) (s47 : Value) (s48 : Value) (s49 : Value) (h : Heap) : J5_0 rc md h0 s3 s4 s6 s7 s8 s9 s47 s48 s49 h = (Jr5_0 rc md s3 s4 s6 s7 s8 s9 s47 s48 s49 h).bind fun x => match x with
    | .inl (s, h) => J5_0 rc md h0 s.1 s.2.1 s.2.2.1 s.2.2.2.1 s.2.2.2.2.1 s.2.2.2.2.2.1 s.2.2.2.2.2.2.1 s.2.2.2.2.2.2.2.1 s.2.2.2.2.2.2.2.2 h
    | .inr (e, s, h) => Jk5_0 rc md h0 e s.1 s.2.1 s.2.2.1 s.2.2.2.1 s.2.2.2.2.1 s.2.2.2.2.2.1 s.2.2.2.2.2.2.1 s.2.2.2.2.2.2.2.1 s.2.2.2.2.2.2.2.2 h := by
  unfold J5_0
  rw [runL_eq]
  refine congrArg (Option.bind _) (funext fun x => ?_)
  rcases x with ⟨s, h⟩ | ⟨e, s, h⟩ <;> rfl
theorem J5_0_cut (rc : Rec) (md : Md) (h0 : Heap) : cut Tryd.prog cfg rc md 100 (bodyOf Tryd.prog 5) [1, 1, 1, 1, 1, 0, 1, 0] (retK Tryd.prog cfg 5 (rsOf Tryd.prog 5) h0) = fun t h => J5_0 rc md h0 (t 3) (t 4) (t 6) (t 7) (t 8) (t 9) (t 47) (t 48) (t 49) h := by
  funext t h
  have e : sub (bodyOf Tryd.prog 5) [1, 1, 1, 1, 1, 0, 1, 0] = .loop (sub (bodyOf Tryd.prog 5) [1, 1, 1, 1, 1, 0, 1, 0, 0]) := by kernel_rfl
  unfold cut
  rw [e]
  exact loop_eq (by kernel_rfl) (fun t => (t 3, t 4, t 6, t 7, t 8, t 9, t 47, t 48, t 49)) (fun x : (Value × Value × Value × Value × Value × Value × Value × Value × Value) × Heap => Jr5_0 rc md x.1.1 x.1.2.1 x.1.2.2.1 x.1.2.2.2.1 x.1.2.2.2.2.1 x.1.2.2.2.2.2.1 x.1.2.2.2.2.2.2.1 x.1.2.2.2.2.2.2.2.1 x.1.2.2.2.2.2.2.2.2 x.2) (fun t h => Jr5_0_at rc md t h) (fun e (s : Value × Value × Value × Value × Value × Value × Value × Value × Value) h => Jk5_0 rc md h0 e s.1 s.2.1 s.2.2.1 s.2.2.2.1 s.2.2.2.2.1 s.2.2.2.2.2.1 s.2.2.2.2.2.2.1 s.2.2.2.2.2.2.2.1 s.2.2.2.2.2.2.2.2 h) (fun e t h => Jk5_0_at rc md h0 e t h) t h
noncomputable def F5 (rc : Rec) (md : Md) (a0_0 : Int) (a0_1 : Int) (a0_2 : ByteArray) (a0_3 : Int) (a1_0 : Int) (a1_1 : Int) (a1_2 : ByteArray) (a1_3 : Int) (a2 : Value) (h0 : Heap) : Option (Value × Heap) :=
  let h1 : Heap := h0 ++ [.own [(.int .i64 a0_0), (.int .i64 a0_1), (.string a0_2), (.int .i32 a0_3)]]
  let h2 : Heap := h1 ++ [.own [(.int .i64 a1_0), (.int .i64 a1_1), (.string a1_2), (.int .i32 a1_3)]]
  lenS a2 fun v3 =>
  cIn .i64 v3 fun n4 =>
  bif (decide (n4 > 40)) then
    cl (rc md 8 [] h2) fun v5 h6 =>
    cBn v5 fun b7 =>
    some ((.bool b7), List.take h0.length h6)
  else
    ldN 4 (.pointer (some ⟨h0.length, 0, none⟩)) h2 fun v8 =>
    cl (rc md 9 [v8] h2) fun v9 h10 =>
    ldN 4 (.pointer (some ⟨h1.length, 0, none⟩)) h10 fun v11 =>
    cl (rc md 9 [v11] h10) fun v12 h13 =>
    cl (rc md 19 [v9, v12] h13) fun v14 h15 =>
    cBn v14 fun b16 =>
    ldN 4 (.pointer (some ⟨h0.length, 0, none⟩)) h15 fun v17 =>
    ldN 4 (.pointer (some ⟨h1.length, 0, none⟩)) h15 fun v18 =>
    cl (rc md 20 [v17, v18] h15) fun v19 h20 =>
    cBn v19 fun b21 =>
    aBin Tryd.prog .neq 4 (.bool b16) (.bool b21) fun v22 =>
    (bif wantV v22 false then
    ldN 4 (.pointer (some ⟨h0.length, 0, none⟩)) h20 fun v23 =>
    some (v23, h20)
    else some (undef, h20)).bind fun p24 =>
    (bif wantV v22 false then
    cl (rc md 9 [p24.1] p24.2) fun v25 h26 =>
    some (v25, h26)
    else some (undef, p24.2)).bind fun p27 =>
    (bif wantV v22 false then
    ldN 4 (.pointer (some ⟨h0.length, 0, none⟩)) p27.2 fun v28 =>
    some (v28, p27.2)
    else some (undef, p27.2)).bind fun p29 =>
    (bif wantV v22 false then
    cl (rc md 9 [p29.1] p29.2) fun v30 h31 =>
    some (v30, h31)
    else some (undef, p29.2)).bind fun p32 =>
    (bif wantV v22 false then
    aBuildSlice Tryd.prog 33 1 [(0, p32.1)] p32.2 fun v33 h34 =>
    some (v33, h34)
    else some (undef, p32.2)).bind fun p35 =>
    (bif wantV v22 false then
    some ((.iface 33 p35.1), p35.2)
    else some (undef, p35.2)).bind fun p36 =>
    (bif wantV v22 false then
    cl (rc md 19 [p27.1, p36.1] p36.2) fun v37 h38 =>
    cBn v37 fun b39 =>
    some ((.bool b39), h38)
    else some (undef, p36.2)).bind fun p40 =>
    cBn v22 fun q41 =>
    cBn (bif q41 then (.bool true) else p40.1) fun b42 =>
    (bif wantV (.bool b42) false then
    ldN 4 (.pointer (some ⟨h0.length, 0, none⟩)) p40.2 fun v43 =>
    some (v43, p40.2)
    else some (undef, p40.2)).bind fun p44 =>
    (bif wantV (.bool b42) false then
    cl (rc md 9 [p44.1] p44.2) fun v45 h46 =>
    some (v45, h46)
    else some (undef, p44.2)).bind fun p47 =>
    (bif wantV (.bool b42) false then
    aBuildSlice Tryd.prog 33 1 [(0, p47.1)] p47.2 fun v48 h49 =>
    some (v48, h49)
    else some (undef, p47.2)).bind fun p50 =>
    (bif wantV (.bool b42) false then
    some ((.iface 33 p50.1), p50.2)
    else some (undef, p50.2)).bind fun p51 =>
    (bif wantV (.bool b42) false then
    ldN 4 (.pointer (some ⟨h0.length, 0, none⟩)) p51.2 fun v52 =>
    some (v52, p51.2)
    else some (undef, p51.2)).bind fun p53 =>
    cLE (wantV (.bool b42) false) (fun hq => ldN 4 (.pointer (some ⟨h0.length, 0, none⟩)) hq some) p53.1 p47.2 p50.2 <|
    (bif wantV (.bool b42) false then
    cl (rc md 9 [p53.1] p53.2) fun v54 h55 =>
    some (v54, h55)
    else some (undef, p53.2)).bind fun p56 =>
    cLE (wantV (.bool b42) false) (fun hq => cl (rc md 9 [p53.1] hq) fun vq _ => some vq) p56.1 p47.2 p50.2 <|
    (bif wantV (.bool b42) false then
    cl (rc md 19 [p51.1, p56.1] p56.2) fun v57 h58 =>
    cBn v57 fun b59 =>
    some ((.bool b59), h58)
    else some (undef, p56.2)).bind fun p60 =>
    cBn (bif b42 then (.bool true) else p60.1) fun b61 =>
    bif b61 then
      some ((.bool false), List.take h0.length p60.2)
    else
      cl (rc md 16 [a2] p60.2) fun v62 h63 =>
      cl (rc md 16 [a2] h63) fun v64 h65 =>
      lenS a2 fun v66 =>
      cIn .i64 v66 fun n67 =>
      J5_0 rc md h0 (.pointer (some ⟨h0.length, 0, none⟩)) (.pointer (some ⟨h1.length, 0, none⟩)) (.bool false) v62 v64 (.bool true) a2 (.int .i64 n67) (.int .i64 0) h65
noncomputable def F5H (rc : Rec) (md : Md) (X0 : T → Heap → Option (Value × Heap)) (a0_0 : Int) (a0_1 : Int) (a0_2 : ByteArray) (a0_3 : Int) (a1_0 : Int) (a1_1 : Int) (a1_2 : ByteArray) (a1_3 : Int) (a2 : Value) (h0 : Heap) : Option (Value × Heap) :=
  let h1 : Heap := h0 ++ [.own [(.int .i64 a0_0), (.int .i64 a0_1), (.string a0_2), (.int .i32 a0_3)]]
  let h2 : Heap := h1 ++ [.own [(.int .i64 a1_0), (.int .i64 a1_1), (.string a1_2), (.int .i32 a1_3)]]
  lenS a2 fun v3 =>
  cIn .i64 v3 fun n4 =>
  bif (decide (n4 > 40)) then
    cl (rc md 8 [] h2) fun v5 h6 =>
    cBn v5 fun b7 =>
    some ((.bool b7), List.take h0.length h6)
  else
    ldN 4 (.pointer (some ⟨h0.length, 0, none⟩)) h2 fun v8 =>
    cl (rc md 9 [v8] h2) fun v9 h10 =>
    ldN 4 (.pointer (some ⟨h1.length, 0, none⟩)) h10 fun v11 =>
    cl (rc md 9 [v11] h10) fun v12 h13 =>
    cl (rc md 19 [v9, v12] h13) fun v14 h15 =>
    cBn v14 fun b16 =>
    ldN 4 (.pointer (some ⟨h0.length, 0, none⟩)) h15 fun v17 =>
    ldN 4 (.pointer (some ⟨h1.length, 0, none⟩)) h15 fun v18 =>
    cl (rc md 20 [v17, v18] h15) fun v19 h20 =>
    cBn v19 fun b21 =>
    aBin Tryd.prog .neq 4 (.bool b16) (.bool b21) fun v22 =>
    (bif wantV v22 false then
    ldN 4 (.pointer (some ⟨h0.length, 0, none⟩)) h20 fun v23 =>
    some (v23, h20)
    else some (undef, h20)).bind fun p24 =>
    (bif wantV v22 false then
    cl (rc md 9 [p24.1] p24.2) fun v25 h26 =>
    some (v25, h26)
    else some (undef, p24.2)).bind fun p27 =>
    (bif wantV v22 false then
    ldN 4 (.pointer (some ⟨h0.length, 0, none⟩)) p27.2 fun v28 =>
    some (v28, p27.2)
    else some (undef, p27.2)).bind fun p29 =>
    (bif wantV v22 false then
    cl (rc md 9 [p29.1] p29.2) fun v30 h31 =>
    some (v30, h31)
    else some (undef, p29.2)).bind fun p32 =>
    (bif wantV v22 false then
    aBuildSlice Tryd.prog 33 1 [(0, p32.1)] p32.2 fun v33 h34 =>
    some (v33, h34)
    else some (undef, p32.2)).bind fun p35 =>
    (bif wantV v22 false then
    some ((.iface 33 p35.1), p35.2)
    else some (undef, p35.2)).bind fun p36 =>
    (bif wantV v22 false then
    cl (rc md 19 [p27.1, p36.1] p36.2) fun v37 h38 =>
    cBn v37 fun b39 =>
    some ((.bool b39), h38)
    else some (undef, p36.2)).bind fun p40 =>
    cBn v22 fun q41 =>
    cBn (bif q41 then (.bool true) else p40.1) fun b42 =>
    (bif wantV (.bool b42) false then
    ldN 4 (.pointer (some ⟨h0.length, 0, none⟩)) p40.2 fun v43 =>
    some (v43, p40.2)
    else some (undef, p40.2)).bind fun p44 =>
    (bif wantV (.bool b42) false then
    cl (rc md 9 [p44.1] p44.2) fun v45 h46 =>
    some (v45, h46)
    else some (undef, p44.2)).bind fun p47 =>
    (bif wantV (.bool b42) false then
    aBuildSlice Tryd.prog 33 1 [(0, p47.1)] p47.2 fun v48 h49 =>
    some (v48, h49)
    else some (undef, p47.2)).bind fun p50 =>
    (bif wantV (.bool b42) false then
    some ((.iface 33 p50.1), p50.2)
    else some (undef, p50.2)).bind fun p51 =>
    (bif wantV (.bool b42) false then
    ldN 4 (.pointer (some ⟨h0.length, 0, none⟩)) p51.2 fun v52 =>
    some (v52, p51.2)
    else some (undef, p51.2)).bind fun p53 =>
    cLE (wantV (.bool b42) false) (fun hq => ldN 4 (.pointer (some ⟨h0.length, 0, none⟩)) hq some) p53.1 p47.2 p50.2 <|
    (bif wantV (.bool b42) false then
    cl (rc md 9 [p53.1] p53.2) fun v54 h55 =>
    some (v54, h55)
    else some (undef, p53.2)).bind fun p56 =>
    cLE (wantV (.bool b42) false) (fun hq => cl (rc md 9 [p53.1] hq) fun vq _ => some vq) p56.1 p47.2 p50.2 <|
    (bif wantV (.bool b42) false then
    cl (rc md 19 [p51.1, p56.1] p56.2) fun v57 h58 =>
    cBn v57 fun b59 =>
    some ((.bool b59), h58)
    else some (undef, p56.2)).bind fun p60 =>
    cBn (bif b42 then (.bool true) else p60.1) fun b61 =>
    bif b61 then
      some ((.bool false), List.take h0.length p60.2)
    else
      cl (rc md 16 [a2] p60.2) fun v62 h63 =>
      cl (rc md 16 [a2] h63) fun v64 h65 =>
      lenS a2 fun v66 =>
      cIn .i64 v66 fun n67 =>
      X0 (upd (upd (upd (upd (upd (upd (upd (upd (upd (upd (upd (upd (upd (upd (upd (upd (upd (upd (upd (upd (upd (upd (upd (upd (upd (upd (upd (upd (upd (upd (upd (upd (upd (upd (upd (upd (upd (upd (upd (upd (upd (upd (upd (args0 [(.agg #[(.int .i64 a0_0), (.int .i64 a0_1), (.string a0_2), (.int .i32 a0_3)]), (.agg #[(.int .i64 a1_0), (.int .i64 a1_1), (.string a1_2), (.int .i32 a1_3)]), a2]) 3 (.pointer (some ⟨h0.length, 0, none⟩))) 4 (.pointer (some ⟨h1.length, 0, none⟩))) 6 (.bool false)) 12 a2) 13 (.int .i64 n4)) 14 (.bool (decide (n4 > 40)))) 16 v8) 17 v9) 18 v11) 19 v12) 20 (.bool b16)) 21 v17) 22 v18) 23 (.bool b21)) 24 v22) 25 v22) 26 p24.1) 27 p27.1) 28 p29.1) 29 p32.1) 30 p35.1) 31 p36.1) 32 p40.1) 33 (.bool b42)) 34 (.bool b42)) 35 p44.1) 36 p47.1) 37 p50.1) 38 p51.1) 39 p53.1) 40 p56.1) 41 p60.1) 42 (.bool b61)) 43 a2) 44 v62) 45 a2) 46 v64) 7 v62) 8 v64) 9 (.bool true)) 47 a2) 48 (.int .i64 n67)) 49 (.int .i64 0)) h65
theorem F5_h0 (rc : Rec) (md : Md) (a0_0 : Int) (a0_1 : Int) (a0_2 : ByteArray) (a0_3 : Int) (a1_0 : Int) (a1_1 : Int) (a1_2 : ByteArray) (a1_3 : Int) (a2 : Value) (h0 : Heap) : callStep0 Tryd.prog cfg rc md 5 [(.agg #[(.int .i64 a0_0), (.int .i64 a0_1), (.string a0_2), (.int .i32 a0_3)]), (.agg #[(.int .i64 a1_0), (.int .i64 a1_1), (.string a1_2), (.int .i32 a1_3)]), a2] h0 = exec Tryd.prog cfg rc ⟨md.ro, h0.length⟩ 100 (bodyOf Tryd.prog 5) (retK Tryd.prog cfg 5 (rsOf Tryd.prog 5) h0) (args0 [(.agg #[(.int .i64 a0_0), (.int .i64 a0_1), (.string a0_2), (.int .i32 a0_3)]), (.agg #[(.int .i64 a1_0), (.int .i64 a1_1), (.string a1_2), (.int .i32 a1_3)]), a2]) h0 := callStep0_run (by kernel_rfl) (by kernel_rfl) (by kernel_rfl)
theorem F5_h1 (rc : Rec) (md : Md) (X : Nat → T → Heap → Option (Value × Heap)) (a0_0 : Int) (a0_1 : Int) (a0_2 : ByteArray) (a0_3 : Int) (a1_0 : Int) (a1_1 : Int) (a1_2 : ByteArray) (a1_3 : Int) (a2 : Value) (h0 : Heap) : execG Tryd.prog cfg X rc md 100 (replS (bodyOf Tryd.prog 5) [([1, 1, 1, 1, 1, 0, 1, 0], 0), ([1, 1, 1, 1, 1, 1], 1)]) (retK Tryd.prog cfg 5 (rsOf Tryd.prog 5) h0) (args0 [(.agg #[(.int .i64 a0_0), (.int .i64 a0_1), (.string a0_2), (.int .i32 a0_3)]), (.agg #[(.int .i64 a1_0), (.int .i64 a1_1), (.string a1_2), (.int .i32 a1_3)]), a2]) h0 = F5H rc md (X 0) a0_0 a0_1 a0_2 a0_3 a1_0 a1_1 a1_2 a1_3 a2 h0 := by kernel_rfl
theorem F5_h2 (rc : Rec) (md : Md) (a0_0 : Int) (a0_1 : Int) (a0_2 : ByteArray) (a0_3 : Int) (a1_0 : Int) (a1_1 : Int) (a1_2 : ByteArray) (a1_3 : Int) (a2 : Value) (h0 : Heap) : F5H rc md (fun t h => J5_0 rc md h0 (t 3) (t 4) (t 6) (t 7) (t 8) (t 9) (t 47) (t 48) (t 49) h) a0_0 a0_1 a0_2 a0_3 a1_0 a1_1 a1_2 a1_3 a2 h0 = F5 rc md a0_0 a0_1 a0_2 a0_3 a1_0 a1_1 a1_2 a1_3 a2 h0 := by unfold F5H F5; kernel_rfl
theorem F5_eq0 (rc : Rec) (md : Md) (a0_0 : Int) (a0_1 : Int) (a0_2 : ByteArray) (a0_3 : Int) (a1_0 : Int) (a1_1 : Int) (a1_2 : ByteArray) (a1_3 : Int) (a2 : Value) (h0 : Heap) : callStep0 Tryd.prog cfg rc md 5 [(.agg #[(.int .i64 a0_0), (.int .i64 a0_1), (.string a0_2), (.int .i32 a0_3)]), (.agg #[(.int .i64 a1_0), (.int .i64 a1_1), (.string a1_2), (.int .i32 a1_3)]), a2] h0 = F5 rc ⟨md.ro, h0.length⟩ a0_0 a0_1 a0_2 a0_3 a1_0 a1_1 a1_2 a1_3 a2 h0 := by
  rw [F5_h0, exec_holes [([1, 1, 1, 1, 1, 0, 1, 0], 0), ([1, 1, 1, 1, 1, 1], 1)] (by kernel_rfl), F5_h1, show (goX Tryd.prog cfg rc ⟨md.ro, h0.length⟩ 100 (bodyOf Tryd.prog 5) [([1, 1, 1, 1, 1, 0, 1, 0], 0), ([1, 1, 1, 1, 1, 1], 1)] (retK Tryd.prog cfg 5 (rsOf Tryd.prog 5) h0)) 0 = _ from J5_0_cut rc ⟨md.ro, h0.length⟩ h0]
  exact F5_h2 rc _ a0_0 a0_1 a0_2 a0_3 a1_0 a1_1 a1_2 a1_3 a2 h0
theorem F5_eq (rc : Rec) (md : Md) (a0_0 : Int) (a0_1 : Int) (a0_2 : ByteArray) (a0_3 : Int) (a1_0 : Int) (a1_1 : Int) (a1_2 : ByteArray) (a1_3 : Int) (a2 : Value) (h0 : Heap) : callStep Tryd.prog cfg rc md 5 [(.agg #[(.int .i64 a0_0), (.int .i64 a0_1), (.string a0_2), (.int .i32 a0_3)]), (.agg #[(.int .i64 a1_0), (.int .i64 a1_1), (.string a1_2), (.int .i32 a1_3)]), a2] h0 = F5 rc ⟨md.ro, h0.length⟩ a0_0 a0_1 a0_2 a0_3 a1_0 a1_1 a1_2 a1_3 a2 h0 := (callStep_ne (by kernel_rfl)).trans (F5_eq0 rc md a0_0 a0_1 a0_2 a0_3 a1_0 a1_1 a1_2 a1_3 a2 h0)

/-- tombolo/tombololaw03.ValSays -/
noncomputable def J6_1 (rc : Rec) (md : Md) (h0 : Heap) (s1 : Value) (s2 : Value) (s5 : Value) (h : Heap) : Option (Value × Heap) :=
  aBin Tryd.prog .add 9 s5 (.string ⟨#[41]⟩) fun v1 =>
  ldN 4 s2 h fun v2 =>
  cl (rc md 9 [v2] h) fun v3 h4 =>
  cl (rc md 22 [v3] h4) fun v5 h6 =>
  ldN 4 s2 h6 fun v7 =>
  cl (rc md 21 [v7] h6) fun v8 h9 =>
  aBin Tryd.prog .eql 9 v5 v8 fun v10 =>
  (bif wantV v10 true then
  some (s1, h9)
  else some (undef, h9)).bind fun p11 =>
  (bif wantV v10 true then
  cl (rc md 16 [p11.1] p11.2) fun v12 h13 =>
  some (v12, h13)
  else some (undef, p11.2)).bind fun p14 =>
  (bif wantV v10 true then
  some ((.iface 33 p14.1), p14.2)
  else some (undef, p14.2)).bind fun p15 =>
  (bif wantV v10 true then
  cl (rc md 22 [p15.1] p15.2) fun v16 h17 =>
  some (v16, h17)
  else some (undef, p15.2)).bind fun p18 =>
  (bif wantV v10 true then
  some (v1, p18.2)
  else some (undef, p18.2)).bind fun p19 =>
  (bif wantV v10 true then
  aBin Tryd.prog .eql 9 p18.1 p19.1 fun v20 =>
  some (v20, p19.2)
  else some (undef, p19.2)).bind fun p21 =>
  cBn v10 fun q22 =>
  cBn (bif q22 then p21.1 else (.bool false)) fun b23 =>
  (bif wantV (.bool b23) true then
  some (s1, p21.2)
  else some (undef, p21.2)).bind fun p24 =>
  (bif wantV (.bool b23) true then
  cl (rc md 16 [p24.1] p24.2) fun v25 h26 =>
  some (v25, h26)
  else some (undef, p24.2)).bind fun p27 =>
  (bif wantV (.bool b23) true then
  some ((.iface 33 p27.1), p27.2)
  else some (undef, p27.2)).bind fun p28 =>
  (bif wantV (.bool b23) true then
  ldN 4 s2 p28.2 fun v29 =>
  some (v29, p28.2)
  else some (undef, p28.2)).bind fun p30 =>
  cLE (wantV (.bool b23) true) (fun hq => ldN 4 s2 hq some) p30.1 p24.2 p27.2 <|
  (bif wantV (.bool b23) true then
  cl (rc md 9 [p30.1] p30.2) fun v31 h32 =>
  some (v31, h32)
  else some (undef, p30.2)).bind fun p33 =>
  (bif wantV (.bool b23) true then
  aBuildSlice Tryd.prog 33 2 [(0, p28.1), (1, p33.1)] p33.2 fun v34 h35 =>
  some (v34, h35)
  else some (undef, p33.2)).bind fun p36 =>
  (bif wantV (.bool b23) true then
  some ((.iface 33 p36.1), p36.2)
  else some (undef, p36.2)).bind fun p37 =>
  (bif wantV (.bool b23) true then
  cl (rc md 22 [p37.1] p37.2) fun v38 h39 =>
  some (v38, h39)
  else some (undef, p37.2)).bind fun p40 =>
  (bif wantV (.bool b23) true then
  some (v1, p40.2)
  else some (undef, p40.2)).bind fun p41 =>
  (bif wantV (.bool b23) true then
  aBin Tryd.prog .add 9 (.string ⟨#[40]⟩) p41.1 fun v42 =>
  some (v42, p41.2)
  else some (undef, p41.2)).bind fun p43 =>
  (bif wantV (.bool b23) true then
  aBin Tryd.prog .add 9 p43.1 (.string ⟨#[32]⟩) fun v44 =>
  some (v44, p43.2)
  else some (undef, p43.2)).bind fun p45 =>
  (bif wantV (.bool b23) true then
  ldN 4 s2 p45.2 fun v46 =>
  some (v46, p45.2)
  else some (undef, p45.2)).bind fun p47 =>
  cLE (wantV (.bool b23) true) (fun hq => ldN 4 s2 hq some) p47.1 p33.2 p36.2 <|
  cLE (wantV (.bool b23) true) (fun hq => ldN 4 s2 hq some) p47.1 p24.2 p27.2 <|
  (bif wantV (.bool b23) true then
  cl (rc md 21 [p47.1] p47.2) fun v48 h49 =>
  some (v48, h49)
  else some (undef, p47.2)).bind fun p50 =>
  (bif wantV (.bool b23) true then
  aBin Tryd.prog .add 9 p45.1 p50.1 fun v51 =>
  some (v51, p50.2)
  else some (undef, p50.2)).bind fun p52 =>
  (bif wantV (.bool b23) true then
  aBin Tryd.prog .add 9 p52.1 (.string ⟨#[41]⟩) fun v53 =>
  some (v53, p52.2)
  else some (undef, p52.2)).bind fun p54 =>
  (bif wantV (.bool b23) true then
  aBin Tryd.prog .eql 9 p40.1 p54.1 fun v55 =>
  some (v55, p54.2)
  else some (undef, p54.2)).bind fun p56 =>
  cBn (bif b23 then p56.1 else (.bool false)) fun b57 =>
  (bif wantV (.bool b57) true then
  cl (rc md 8 [] p56.2) fun v58 h59 =>
  cBn v58 fun b60 =>
  some ((.bool b60), h59)
  else some (undef, p56.2)).bind fun p61 =>
  cBn (bif b57 then p61.1 else (.bool false)) fun b62 =>
  some ((.bool b62), List.take h0.length p61.2)
theorem J6_1_at (rc : Rec) (md : Md) (h0 : Heap) (t : T) (h : Heap) : cut Tryd.prog cfg rc md 65 (bodyOf Tryd.prog 6) [1, 1, 1, 1] (retK Tryd.prog cfg 6 (rsOf Tryd.prog 6) h0) t h = J6_1 rc md h0 (t 1) (t 2) (t 5) h := by kernel_rfl
theorem J6_1_cut (rc : Rec) (md : Md) (h0 : Heap) : cut Tryd.prog cfg rc md 65 (bodyOf Tryd.prog 6) [1, 1, 1, 1] (retK Tryd.prog cfg 6 (rsOf Tryd.prog 6) h0) = fun t h => J6_1 rc md h0 (t 1) (t 2) (t 5) h := funext fun t => funext fun h => J6_1_at rc md h0 t h
noncomputable def Jk6_0 (rc : Rec) (md : Md) (h0 : Heap) (e : Exit) (s1 : Value) (s2 : Value) (s4 : Value) (s5 : Value) (s12 : Value) (s13 : Value) (s14 : Value) (h : Heap) : Option (Value × Heap) :=
  match e with
  | .normal =>
    J6_1 rc md h0 s1 s2 s5 h
  | .exit j =>
    bif Nat.beq j 0 then
      J6_1 rc md h0 s1 s2 s5 h
    else
      none
  | .ret =>
    fin1 h0 s4 h
  | .goto l => none
  | .panic ps => none
  | .outgrown => none
noncomputable def Jk6_0H (rc : Rec) (md : Md) (h0 : Heap) (X1 : T → Heap → Option (Value × Heap)) (e : Exit) (t : T) (h : Heap) : Option (Value × Heap) :=
  match e with
  | .normal =>
    X1 t h
  | .exit j =>
    bif Nat.beq j 0 then
      X1 t h
    else
      none
  | .ret =>
    fin1 h0 (t 4) h
  | .goto l => none
  | .panic ps => none
  | .outgrown => none
theorem Jk6_0_h1 (rc : Rec) (md : Md) (h0 : Heap) (X : Nat → T → Heap → Option (Value × Heap)) (e : Exit) (t : T) (h : Heap) : kAtG Tryd.prog cfg X rc md 65 (replS (bodyOf Tryd.prog 6) [([1, 1, 1, 1], 1)]) [1, 1, 1, 0, 1, 0] (retK Tryd.prog cfg 6 (rsOf Tryd.prog 6) h0) e t h = Jk6_0H rc md h0 (X 1) e t h := by cases e <;> kernel_rfl
theorem Jk6_0_h2 (rc : Rec) (md : Md) (h0 : Heap) (e : Exit) (t : T) (h : Heap) : Jk6_0H rc md h0 (fun t h => J6_1 rc md h0 (t 1) (t 2) (t 5) h) e t h = Jk6_0 rc md h0 e (t 1) (t 2) (t 4) (t 5) (t 12) (t 13) (t 14) h := by cases e <;> (unfold Jk6_0H Jk6_0; kernel_rfl)
theorem Jk6_0_at (rc : Rec) (md : Md) (h0 : Heap) (e : Exit) (t : T) (h : Heap) : kAt Tryd.prog cfg rc md 65 (bodyOf Tryd.prog 6) [1, 1, 1, 0, 1, 0] (retK Tryd.prog cfg 6 (rsOf Tryd.prog 6) h0) e t h = Jk6_0 rc md h0 e (t 1) (t 2) (t 4) (t 5) (t 12) (t 13) (t 14) h := by
  rw [kAt_holes [([1, 1, 1, 1], 1)] [1, 1, 1, 0, 1, 0] (by kernel_rfl), Jk6_0_h1, show (goX Tryd.prog cfg rc md 65 (bodyOf Tryd.prog 6) [([1, 1, 1, 1], 1)] (retK Tryd.prog cfg 6 (rsOf Tryd.prog 6) h0)) 1 = _ from J6_1_cut rc md h0]
  exact Jk6_0_h2 rc md h0 e t h
noncomputable def J6_0b0 (rc : Rec) (md : Md) (s1 : Value) (s2 : Value) (s4 : Value) (s5 : Value) (s7 : Value) (s12 : Value) (s13 : Value) (s14 : Value) (h : Heap) : Option (((Value × Value × Value × Value × Value × Value × Value) × Heap) ⊕ (Exit × (Value × Value × Value × Value × Value × Value × Value) × Heap)) :=
  ldN 4 s7 h fun v1 =>
  cl (rc md 21 [v1] h) fun v2 h3 =>
  aBin Tryd.prog .add 9 s5 v2 fun v4 =>
  aBin Tryd.prog .add 3 s14 (.int .i64 1) fun v5 =>
  some (.inl ((s1, s2, s4, v4, s12, s13, v5), h3))
theorem J6_0b0_at (rc : Rec) (md : Md) (t : T) (h : Heap) : cut Tryd.prog cfg rc md 65 (sub (bodyOf Tryd.prog 6) [1, 1, 1, 0, 1, 0, 0]) [1, 1, 0, 0, 1, 1] (rndK (fun t => (t 1, t 2, t 4, t 5, t 12, t 13, t 14))) t h = J6_0b0 rc md (t 1) (t 2) (t 4) (t 5) (t 7) (t 12) (t 13) (t 14) h := by kernel_rfl
theorem J6_0b0_cut (rc : Rec) (md : Md) : cut Tryd.prog cfg rc md 65 (sub (bodyOf Tryd.prog 6) [1, 1, 1, 0, 1, 0, 0]) [1, 1, 0, 0, 1, 1] (rndK (fun t => (t 1, t 2, t 4, t 5, t 12, t 13, t 14))) = fun t h => J6_0b0 rc md (t 1) (t 2) (t 4) (t 5) (t 7) (t 12) (t 13) (t 14) h := funext fun t => funext fun h => J6_0b0_at rc md t h
/-- a round -/
noncomputable def Jr6_0 (rc : Rec) (md : Md) (s1 : Value) (s2 : Value) (s4 : Value) (s5 : Value) (s12 : Value) (s13 : Value) (s14 : Value) (h : Heap) : Option (((Value × Value × Value × Value × Value × Value × Value) × Heap) ⊕ (Exit × (Value × Value × Value × Value × Value × Value × Value) × Heap)) :=
  aBin Tryd.prog .lss 3 s14 s13 fun v1 =>
  cBn v1 fun b2 =>
  bif b2 then
    ixSV 4 s12 s14 fun v3 =>
    ldN 4 v3 h fun v4 =>
    let h5 : Heap := h ++ [.own [(.int .i64 0), (.int .i64 0), (.string ⟨#[]⟩), (.int .i32 0)]]
    st md 4 (.pointer (some ⟨h.length, 0, none⟩)) v4 h5 fun h6 =>
    aBin Tryd.prog .gtr 3 s14 (.int .i64 0) fun v7 =>
    cBn v7 fun b8 =>
    bif b8 then
      aBin Tryd.prog .add 9 s5 (.string ⟨#[32]⟩) fun v9 =>
      J6_0b0 rc md s1 s2 s4 v9 (.pointer (some ⟨h.length, 0, none⟩)) s12 s13 s14 h6
    else
      J6_0b0 rc md s1 s2 s4 s5 (.pointer (some ⟨h.length, 0, none⟩)) s12 s13 s14 h6
  else
    some (.inr ((.exit 0), (s1, s2, s4, s5, s12, s13, s14), h))
noncomputable def Jr6_0H (rc : Rec) (md : Md) (X0 : T → Heap → Option (((Value × Value × Value × Value × Value × Value × Value) × Heap) ⊕ (Exit × (Value × Value × Value × Value × Value × Value × Value) × Heap))) (t : T) (h : Heap) : Option (((Value × Value × Value × Value × Value × Value × Value) × Heap) ⊕ (Exit × (Value × Value × Value × Value × Value × Value × Value) × Heap)) :=
  aBin Tryd.prog .lss 3 (t 14) (t 13) fun v1 =>
  cBn v1 fun b2 =>
  bif b2 then
    ixSV 4 (t 12) (t 14) fun v3 =>
    ldN 4 v3 h fun v4 =>
    let h5 : Heap := h ++ [.own [(.int .i64 0), (.int .i64 0), (.string ⟨#[]⟩), (.int .i32 0)]]
    st md 4 (.pointer (some ⟨h.length, 0, none⟩)) v4 h5 fun h6 =>
    aBin Tryd.prog .gtr 3 (t 14) (.int .i64 0) fun v7 =>
    cBn v7 fun b8 =>
    bif b8 then
      aBin Tryd.prog .add 9 (t 5) (.string ⟨#[32]⟩) fun v9 =>
      X0 (upd (upd (upd (upd (upd (upd (upd (upd (upd (upd (upd t 15 v1) 16 (t 14)) 17 v3) 18 v4) 7 (.pointer (some ⟨h.length, 0, none⟩))) 6 (t 14)) 19 (t 14)) 20 v7) 21 (t 5)) 22 v9) 5 v9) h6
    else
      X0 (upd (upd (upd (upd (upd (upd (upd (upd t 15 v1) 16 (t 14)) 17 v3) 18 v4) 7 (.pointer (some ⟨h.length, 0, none⟩))) 6 (t 14)) 19 (t 14)) 20 v7) h6
  else
    some (.inr ((.exit 0), ((t 1), (t 2), (t 4), (t 5), (t 12), (t 13), (t 14)), h))
theorem Jr6_0_h1 (rc : Rec) (md : Md) (X : Nat → T → Heap → Option (((Value × Value × Value × Value × Value × Value × Value) × Heap) ⊕ (Exit × (Value × Value × Value × Value × Value × Value × Value) × Heap))) (t : T) (h : Heap) : execG Tryd.prog cfg X rc md 65 (replS (sub (bodyOf Tryd.prog 6) [1, 1, 1, 0, 1, 0, 0]) [([1, 1, 0, 0, 1, 1], 0)]) (rndK (fun t => (t 1, t 2, t 4, t 5, t 12, t 13, t 14))) t h = Jr6_0H rc md (X 0) t h := by kernel_rfl
theorem Jr6_0_h2 (rc : Rec) (md : Md) (t : T) (h : Heap) : Jr6_0H rc md (fun t h => J6_0b0 rc md (t 1) (t 2) (t 4) (t 5) (t 7) (t 12) (t 13) (t 14) h) t h = Jr6_0 rc md (t 1) (t 2) (t 4) (t 5) (t 12) (t 13) (t 14) h := by unfold Jr6_0H Jr6_0; kernel_rfl
theorem Jr6_0_at (rc : Rec) (md : Md) (t : T) (h : Heap) : exec Tryd.prog cfg rc md 65 (sub (bodyOf Tryd.prog 6) [1, 1, 1, 0, 1, 0, 0]) (rndK (fun t => (t 1, t 2, t 4, t 5, t 12, t 13, t 14))) t h = Jr6_0 rc md (t 1) (t 2) (t 4) (t 5) (t 12) (t 13) (t 14) h := by
  rw [exec_holes [([1, 1, 0, 0, 1, 1], 0)] (by kernel_rfl), Jr6_0_h1, show (goX Tryd.prog cfg rc md 65 (sub (bodyOf Tryd.prog 6) [1, 1, 1, 0, 1, 0, 0]) [([1, 1, 0, 0, 1, 1], 0)] (rndK (fun t => (t 1, t 2, t 4, t 5, t 12, t 13, t 14)))) 0 = _ from J6_0b0_cut rc md]
  exact Jr6_0_h2 rc md t h
noncomputable def J6_0 (rc : Rec) (md : Md) (h0 : Heap) (s1 : Value) (s2 : Value) (s4 : Value) (s5 : Value) (s12 : Value) (s13 : Value) (s14 : Value) (h : Heap) : Option (Value × Heap) :=
  runL (fun x : (Value × Value × Value × Value × Value × Value × Value) × Heap => Jr6_0 rc md x.1.1 x.1.2.1 x.1.2.2.1 x.1.2.2.2.1 x.1.2.2.2.2.1 x.1.2.2.2.2.2.1 x.1.2.2.2.2.2.2 x.2) (fun e (s : Value × Value × Value × Value × Value × Value × Value) h => Jk6_0 rc md h0 e s.1 s.2.1 s.2.2.1 s.2.2.2.1 s.2.2.2.2.1 s.2.2.2.2.2.1 s.2.2.2.2.2.2 h) (s1, s2, s4, s5, s12, s13, s14) h
theorem J6_0_step (rc : Rec) (md : Md) (h0 : Heap) (s1 : Value) (s2 : Value) (s4 : Value) (s5 : Value) (s12 : Value) (s13 : Value) (s14 : Value) (h : Heap) : J6_0 rc md h0 s1 s2 s4 s5 s12 s13 s14 h = (Jr6_0 rc md s1 s2 s4 s5 s12 s13 s14 h).bind fun x => match x with
    | .inl (s, h) => J6_0 rc md h0 s.1 s.2.1 s.2.2.1 s.2.2.2.1 s.2.2.2.2.1 s.2.2.2.2.2.1 s.2.2.2.2.2.2 h
    | .inr (e, s, h) => Jk6_0 rc md h0 e s.1 s.2.1 s.2.2.1 s.2.2.2.1 s.2.2.2.2.1 s.2.2.2.2.2.1 s.2.2.2.2.2.2 h := by
  unfold J6_0
  rw [runL_eq]
  refine congrArg (Option.bind _) (funext fun x => ?_)
  rcases x with ⟨s, h⟩ | ⟨e, s, h⟩ <;> rfl
theorem J6_0_cut (rc : Rec) (md : Md) (h0 : Heap) : cut Tryd.prog cfg rc md 65 (bodyOf Tryd.prog 6) [1, 1, 1, 0, 1, 0] (retK Tryd.prog cfg 6 (rsOf Tryd.prog 6) h0) = fun t h => J6_0 rc md h0 (t 1) (t 2) (t 4) (t 5) (t 12) (t 13) (t 14) h := by
  funext t h
  have e : sub (bodyOf Tryd.prog 6) [1, 1, 1, 0, 1, 0] = .loop (sub (bodyOf Tryd.prog 6) [1, 1, 1, 0, 1, 0, 0]) := by kernel_rfl
  unfold cut
  rw [e]
  exact loop_eq (by kernel_rfl) (fun t => (t 1, t 2, t 4, t 5, t 12, t 13, t 14)) (fun x : (Value × Value × Value × Value × Value × Value × Value) × Heap => Jr6_0 rc md x.1.1 x.1.2.1 x.1.2.2.1 x.1.2.2.2.1 x.1.2.2.2.2.1 x.1.2.2.2.2.2.1 x.1.2.2.2.2.2.2 x.2) (fun t h => Jr6_0_at rc md t h) (fun e (s : Value × Value × Value × Value × Value × Value × Value) h => Jk6_0 rc md h0 e s.1 s.2.1 s.2.2.1 s.2.2.2.1 s.2.2.2.2.1 s.2.2.2.2.2.1 s.2.2.2.2.2.2 h) (fun e t h => Jk6_0_at rc md h0 e t h) t h
noncomputable def F6 (rc : Rec) (md : Md) (a0_0 : Int) (a0_1 : Int) (a0_2 : ByteArray) (a0_3 : Int) (a1 : Value) (h0 : Heap) : Option (Value × Heap) :=
  let h1 : Heap := h0 ++ [.own [(.int .i64 a0_0), (.int .i64 a0_1), (.string a0_2), (.int .i32 a0_3)]]
  lenS a1 fun v2 =>
  cIn .i64 v2 fun n3 =>
  bif (decide (n3 > 60)) then
    cl (rc md 8 [] h1) fun v4 h5 =>
    cBn v4 fun b6 =>
    some ((.bool b6), List.take h0.length h5)
  else
    lenS a1 fun v7 =>
    cIn .i64 v7 fun n8 =>
    J6_0 rc md h0 a1 (.pointer (some ⟨h0.length, 0, none⟩)) (.bool false) (.string ⟨#[40]⟩) a1 (.int .i64 n8) (.int .i64 0) h1
noncomputable def F6H (rc : Rec) (md : Md) (X0 : T → Heap → Option (Value × Heap)) (a0_0 : Int) (a0_1 : Int) (a0_2 : ByteArray) (a0_3 : Int) (a1 : Value) (h0 : Heap) : Option (Value × Heap) :=
  let h1 : Heap := h0 ++ [.own [(.int .i64 a0_0), (.int .i64 a0_1), (.string a0_2), (.int .i32 a0_3)]]
  lenS a1 fun v2 =>
  cIn .i64 v2 fun n3 =>
  bif (decide (n3 > 60)) then
    cl (rc md 8 [] h1) fun v4 h5 =>
    cBn v4 fun b6 =>
    some ((.bool b6), List.take h0.length h5)
  else
    lenS a1 fun v7 =>
    cIn .i64 v7 fun n8 =>
    X0 (upd (upd (upd (upd (upd (upd (upd (upd (upd (args0 [(.agg #[(.int .i64 a0_0), (.int .i64 a0_1), (.string a0_2), (.int .i32 a0_3)]), a1]) 2 (.pointer (some ⟨h0.length, 0, none⟩))) 4 (.bool false)) 8 a1) 9 (.int .i64 n3)) 10 (.bool (decide (n3 > 60)))) 5 (.string ⟨#[40]⟩)) 12 a1) 13 (.int .i64 n8)) 14 (.int .i64 0)) h1
theorem F6_h0 (rc : Rec) (md : Md) (a0_0 : Int) (a0_1 : Int) (a0_2 : ByteArray) (a0_3 : Int) (a1 : Value) (h0 : Heap) : callStep0 Tryd.prog cfg rc md 6 [(.agg #[(.int .i64 a0_0), (.int .i64 a0_1), (.string a0_2), (.int .i32 a0_3)]), a1] h0 = exec Tryd.prog cfg rc ⟨md.ro, h0.length⟩ 65 (bodyOf Tryd.prog 6) (retK Tryd.prog cfg 6 (rsOf Tryd.prog 6) h0) (args0 [(.agg #[(.int .i64 a0_0), (.int .i64 a0_1), (.string a0_2), (.int .i32 a0_3)]), a1]) h0 := callStep0_run (by kernel_rfl) (by kernel_rfl) (by kernel_rfl)
theorem F6_h1 (rc : Rec) (md : Md) (X : Nat → T → Heap → Option (Value × Heap)) (a0_0 : Int) (a0_1 : Int) (a0_2 : ByteArray) (a0_3 : Int) (a1 : Value) (h0 : Heap) : execG Tryd.prog cfg X rc md 65 (replS (bodyOf Tryd.prog 6) [([1, 1, 1, 0, 1, 0], 0), ([1, 1, 1, 1], 1)]) (retK Tryd.prog cfg 6 (rsOf Tryd.prog 6) h0) (args0 [(.agg #[(.int .i64 a0_0), (.int .i64 a0_1), (.string a0_2), (.int .i32 a0_3)]), a1]) h0 = F6H rc md (X 0) a0_0 a0_1 a0_2 a0_3 a1 h0 := by kernel_rfl
theorem F6_h2 (rc : Rec) (md : Md) (a0_0 : Int) (a0_1 : Int) (a0_2 : ByteArray) (a0_3 : Int) (a1 : Value) (h0 : Heap) : F6H rc md (fun t h => J6_0 rc md h0 (t 1) (t 2) (t 4) (t 5) (t 12) (t 13) (t 14) h) a0_0 a0_1 a0_2 a0_3 a1 h0 = F6 rc md a0_0 a0_1 a0_2 a0_3 a1 h0 := by unfold F6H F6; kernel_rfl
theorem F6_eq0 (rc : Rec) (md : Md) (a0_0 : Int) (a0_1 : Int) (a0_2 : ByteArray) (a0_3 : Int) (a1 : Value) (h0 : Heap) : callStep0 Tryd.prog cfg rc md 6 [(.agg #[(.int .i64 a0_0), (.int .i64 a0_1), (.string a0_2), (.int .i32 a0_3)]), a1] h0 = F6 rc ⟨md.ro, h0.length⟩ a0_0 a0_1 a0_2 a0_3 a1 h0 := by
  rw [F6_h0, exec_holes [([1, 1, 1, 0, 1, 0], 0), ([1, 1, 1, 1], 1)] (by kernel_rfl), F6_h1, show (goX Tryd.prog cfg rc ⟨md.ro, h0.length⟩ 65 (bodyOf Tryd.prog 6) [([1, 1, 1, 0, 1, 0], 0), ([1, 1, 1, 1], 1)] (retK Tryd.prog cfg 6 (rsOf Tryd.prog 6) h0)) 0 = _ from J6_0_cut rc ⟨md.ro, h0.length⟩ h0]
  exact F6_h2 rc _ a0_0 a0_1 a0_2 a0_3 a1 h0
theorem F6_eq (rc : Rec) (md : Md) (a0_0 : Int) (a0_1 : Int) (a0_2 : ByteArray) (a0_3 : Int) (a1 : Value) (h0 : Heap) : callStep Tryd.prog cfg rc md 6 [(.agg #[(.int .i64 a0_0), (.int .i64 a0_1), (.string a0_2), (.int .i32 a0_3)]), a1] h0 = F6 rc ⟨md.ro, h0.length⟩ a0_0 a0_1 a0_2 a0_3 a1 h0 := (callStep_ne (by kernel_rfl)).trans (F6_eq0 rc md a0_0 a0_1 a0_2 a0_3 a1 h0)

/-- tombolo/tombololaw03.ValTurns -/
noncomputable def Jk7_0 (rc : Rec) (md : Md) (h0 : Heap) (e : Exit) (s0 : Value) (s1 : Value) (s4 : Value) (s5 : Value) (s6 : Value) (s35 : Value) (s36 : Value) (s37 : Value) (h : Heap) : Option (Value × Heap) :=
  match e with
  | .normal =>
    cl (rc md 8 [] h) fun v1 h2 =>
    cBn v1 fun b3 =>
    some ((.bool b3), List.take h0.length h2)
  | .exit j =>
    bif Nat.beq j 0 then
      cl (rc md 8 [] h) fun v4 h5 =>
      cBn v4 fun b6 =>
      some ((.bool b6), List.take h0.length h5)
    else
      none
  | .ret =>
    fin1 h0 s4 h
  | .goto l => none
  | .panic ps => none
  | .outgrown => none
theorem Jk7_0_at (rc : Rec) (md : Md) (h0 : Heap) (e : Exit) (t : T) (h : Heap) : kAt Tryd.prog cfg rc md 90 (bodyOf Tryd.prog 7) [1, 1, 1, 1, 0, 1, 0] (retK Tryd.prog cfg 7 (rsOf Tryd.prog 7) h0) e t h = Jk7_0 rc md h0 e (t 0) (t 1) (t 4) (t 5) (t 6) (t 35) (t 36) (t 37) h := by cases e <;> kernel_rfl
noncomputable def Jk7_0b0 (rc : Rec) (md : Md) (e : Exit) (s0 : Value) (s1 : Value) (s4 : Value) (s5 : Value) (s6 : Value) (s7 : Value) (s8 : Value) (s35 : Value) (s36 : Value) (s37 : Value) (s58 : Value) (s59 : Value) (s60 : Value) (h : Heap) : Option (((Value × Value × Value × Value × Value × Value × Value × Value) × Heap) ⊕ (Exit × (Value × Value × Value × Value × Value × Value × Value × Value) × Heap)) :=
  match e with
  | .normal =>
    aBin Tryd.prog .add 3 s37 (.int .i64 1) fun v1 =>
    some (.inl ((s0, s1, s4, s5, s6, s35, s36, v1), h))
  | .exit j =>
    bif Nat.beq j 2 then
      aBin Tryd.prog .add 3 s37 (.int .i64 1) fun v2 =>
      some (.inl ((s0, s1, s4, s5, s6, s35, s36, v2), h))
    else
      bif Nat.beq j 1 then
        aBin Tryd.prog .add 3 s37 (.int .i64 1) fun v3 =>
        some (.inl ((s0, s1, s4, s5, s6, s35, s36, v3), h))
      else
        some (.inr ((.exit j), (s0, s1, s4, s5, s6, s35, s36, s37), h))
  | .ret =>
    some (.inr (.ret, (s0, s1, s4, s5, s6, s35, s36, s37), h))
  | .goto l => some (.inr ((.goto l), (s0, s1, s4, s5, s6, s35, s36, s37), h))
  | .panic ps => some (.inr ((.panic ps), (s0, s1, s4, s5, s6, s35, s36, s37), h))
  | .outgrown => some (.inr (.outgrown, (s0, s1, s4, s5, s6, s35, s36, s37), h))
theorem Jk7_0b0_at (rc : Rec) (md : Md) (e : Exit) (t : T) (h : Heap) : kAt Tryd.prog cfg rc md 90 (sub (bodyOf Tryd.prog 7) [1, 1, 1, 1, 0, 1, 0, 0]) [1, 1, 0, 0, 1, 1, 1, 0] (rndK (fun t => (t 0, t 1, t 4, t 5, t 6, t 35, t 36, t 37))) e t h = Jk7_0b0 rc md e (t 0) (t 1) (t 4) (t 5) (t 6) (t 7) (t 8) (t 35) (t 36) (t 37) (t 58) (t 59) (t 60) h := by cases e <;> kernel_rfl
/-- a round -/
noncomputable def Jr7_0b0 (rc : Rec) (md : Md) (s0 : Value) (s1 : Value) (s4 : Value) (s5 : Value) (s6 : Value) (s7 : Value) (s8 : Value) (s35 : Value) (s36 : Value) (s37 : Value) (s58 : Value) (s59 : Value) (s60 : Value) (h : Heap) : Option (((Value × Value × Value × Value × Value × Value × Value × Value × Value × Value × Value × Value × Value) × Heap) ⊕ (Exit × (Value × Value × Value × Value × Value × Value × Value × Value × Value × Value × Value × Value × Value) × Heap)) :=
  aBin Tryd.prog .lss 3 s60 s59 fun v1 =>
  cBn v1 fun b2 =>
  bif b2 then
    ixSV 1 s58 s60 fun v3 =>
    ld1 v3 h fun v4 =>
    cl (rc md 19 [s8, v4] h) fun v5 h6 =>
    cBn v5 fun b7 =>
    cl (rc md 19 [v4, s8] h6) fun v8 h9 =>
    cBn v8 fun b10 =>
    aBin Tryd.prog .neq 4 (.bool b7) (.bool b10) fun v11 =>
    (bif wantV v11 false then
    some (s8, h9)
    else some (undef, h9)).bind fun p12 =>
    (bif wantV v11 false then
    some (v4, p12.2)
    else some (undef, p12.2)).bind fun p13 =>
    (bif wantV v11 false then
    cl (rc md 19 [p12.1, p13.1] p13.2) fun v14 h15 =>
    cBn v14 fun b16 =>
    some ((.bool b16), h15)
    else some (undef, p13.2)).bind fun p17 =>
    (bif wantV v11 false then
    some (s0, p17.2)
    else some (undef, p17.2)).bind fun p18 =>
    (bif wantV v11 false then
    some (s7, p18.2)
    else some (undef, p18.2)).bind fun p19 =>
    (bif wantV v11 false then
    ixSV 4 p18.1 p19.1 fun v20 =>
    some (v20, p19.2)
    else some (undef, p19.2)).bind fun p21 =>
    (bif wantV v11 false then
    ldN 4 p21.1 p21.2 fun v22 =>
    some (v22, p21.2)
    else some (undef, p21.2)).bind fun p23 =>
    (bif wantV v11 false then
    some (s1, p23.2)
    else some (undef, p23.2)).bind fun p24 =>
    (bif wantV v11 false then
    some (s60, p24.2)
    else some (undef, p24.2)).bind fun p25 =>
    (bif wantV v11 false then
    ixSV 4 p24.1 p25.1 fun v26 =>
    some (v26, p25.2)
    else some (undef, p25.2)).bind fun p27 =>
    (bif wantV v11 false then
    ldN 4 p27.1 p27.2 fun v28 =>
    some (v28, p27.2)
    else some (undef, p27.2)).bind fun p29 =>
    (bif wantV v11 false then
    cl (rc md 20 [p23.1, p29.1] p29.2) fun v30 h31 =>
    cBn v30 fun b32 =>
    some ((.bool b32), h31)
    else some (undef, p29.2)).bind fun p33 =>
    (bif wantV v11 false then
    aBin Tryd.prog .neq 4 p17.1 p33.1 fun v34 =>
    some (v34, p33.2)
    else some (undef, p33.2)).bind fun p35 =>
    cBn v11 fun q36 =>
    cBn (bif q36 then (.bool true) else p35.1) fun b37 =>
    bif b37 then
      some (.inr (.ret, (s0, s1, (.bool false), s5, s6, s7, s8, s35, s36, s37, s58, s59, s60), p35.2))
    else
      aBin Tryd.prog .add 3 s60 (.int .i64 1) fun v38 =>
      some (.inl ((s0, s1, s4, s5, s6, s7, s8, s35, s36, s37, s58, s59, v38), p35.2))
  else
    some (.inr ((.exit 2), (s0, s1, s4, s5, s6, s7, s8, s35, s36, s37, s58, s59, s60), h))
theorem Jr7_0b0_at (rc : Rec) (md : Md) (t : T) (h : Heap) : exec Tryd.prog cfg rc md 90 (sub (bodyOf Tryd.prog 7) [1, 1, 1, 1, 0, 1, 0, 0, 1, 1, 0, 0, 1, 1, 1, 0, 0]) (rndK (fun t => (t 0, t 1, t 4, t 5, t 6, t 7, t 8, t 35, t 36, t 37, t 58, t 59, t 60))) t h = Jr7_0b0 rc md (t 0) (t 1) (t 4) (t 5) (t 6) (t 7) (t 8) (t 35) (t 36) (t 37) (t 58) (t 59) (t 60) h := by kernel_rfl
noncomputable def J7_0b0 (rc : Rec) (md : Md) (s0 : Value) (s1 : Value) (s4 : Value) (s5 : Value) (s6 : Value) (s7 : Value) (s8 : Value) (s35 : Value) (s36 : Value) (s37 : Value) (s58 : Value) (s59 : Value) (s60 : Value) (h : Heap) : Option (((Value × Value × Value × Value × Value × Value × Value × Value) × Heap) ⊕ (Exit × (Value × Value × Value × Value × Value × Value × Value × Value) × Heap)) :=
  runL (fun x : (Value × Value × Value × Value × Value × Value × Value × Value × Value × Value × Value × Value × Value) × Heap => Jr7_0b0 rc md x.1.1 x.1.2.1 x.1.2.2.1 x.1.2.2.2.1 x.1.2.2.2.2.1 x.1.2.2.2.2.2.1 x.1.2.2.2.2.2.2.1 x.1.2.2.2.2.2.2.2.1 x.1.2.2.2.2.2.2.2.2.1 x.1.2.2.2.2.2.2.2.2.2.1 x.1.2.2.2.2.2.2.2.2.2.2.1 x.1.2.2.2.2.2.2.2.2.2.2.2.1 x.1.2.2.2.2.2.2.2.2.2.2.2.2 x.2) (fun e (s : Value × Value × Value × Value × Value × Value × Value × Value × Value × Value × Value × Value × Value) h => Jk7_0b0 rc md e s.1 s.2.1 s.2.2.1 s.2.2.2.1 s.2.2.2.2.1 s.2.2.2.2.2.1 s.2.2.2.2.2.2.1 s.2.2.2.2.2.2.2.1 s.2.2.2.2.2.2.2.2.1 s.2.2.2.2.2.2.2.2.2.1 s.2.2.2.2.2.2.2.2.2.2.1 s.2.2.2.2.2.2.2.2.2.2.2.1 s.2.2.2.2.2.2.2.2.2.2.2.2 h) (s0, s1, s4, s5, s6, s7, s8, s35, s36, s37, s58, s59, s60) h
theorem J7_0b0_step (rc : Rec) (md : Md) (s0 : Value) (s1 : Value) (s4 : Value) (s5 : Value) (s6 : Value) (s7 : Value) (s8 : Value) (s35 : Value) (s36 : Value) (s37 : Value) (s58 : Value) (s59 : Value) (s60 : Value) (h : Heap) : J7_0b0 rc md s0 s1 s4 s5 s6 s7 s8 s35 s36 s37 s58 s59 s60 h = (Jr7_0b0 rc md s0 s1 s4 s5 s6 s7 s8 s35 s36 s37 s58 s59 s60 h).bind fun x => match x with
    | .inl (s, h) => J7_0b0 rc md s.1 s.2.1 s.2.2.1 s.2.2.2.1 s.2.2.2.2.1 s.2.2.2.2.2.1 s.2.2.2.2.2.2.1 s.2.2.2.2.2.2.2.1 s.2.2.2.2.2.2.2.2.1 s.2.2.2.2.2.2.2.2.2.1 s.2.2.2.2.2.2.2.2.2.2.1 s.2.2.2.2.2.2.2.2.2.2.2.1 s.2.2.2.2.2.2.2.2.2.2.2.2 h
    | .inr (e, s, h) => Jk7_0b0 rc md e s.1 s.2.1 s.2.2.1 s.2.2.2.1 s.2.2.2.2.1 s.2.2.2.2.2.1 s.2.2.2.2.2.2.1 s.2.2.2.2.2.2.2.1 s.2.2.2.2.2.2.2.2.1 s.2.2.2.2.2.2.2.2.2.1 s.2.2.2.2.2.2.2.2.2.2.1 s.2.2.2.2.2.2.2.2.2.2.2.1 s.2.2.2.2.2.2.2.2.2.2.2.2 h := by
  unfold J7_0b0
  rw [runL_eq]
  refine congrArg (Option.bind _) (funext fun x => ?_)
  rcases x with ⟨s, h⟩ | ⟨e, s, h⟩ <;> rfl
theorem J7_0b0_cut (rc : Rec) (md : Md) : cut Tryd.prog cfg rc md 90 (sub (bodyOf Tryd.prog 7) [1, 1, 1, 1, 0, 1, 0, 0]) [1, 1, 0, 0, 1, 1, 1, 0] (rndK (fun t => (t 0, t 1, t 4, t 5, t 6, t 35, t 36, t 37))) = fun t h => J7_0b0 rc md (t 0) (t 1) (t 4) (t 5) (t 6) (t 7) (t 8) (t 35) (t 36) (t 37) (t 58) (t 59) (t 60) h := by
  funext t h
  have e : sub (sub (bodyOf Tryd.prog 7) [1, 1, 1, 1, 0, 1, 0, 0]) [1, 1, 0, 0, 1, 1, 1, 0] = .loop (sub (bodyOf Tryd.prog 7) [1, 1, 1, 1, 0, 1, 0, 0, 1, 1, 0, 0, 1, 1, 1, 0, 0]) := by kernel_rfl
  unfold cut
  rw [e]
  exact loop_eq (by kernel_rfl) (fun t => (t 0, t 1, t 4, t 5, t 6, t 7, t 8, t 35, t 36, t 37, t 58, t 59, t 60)) (fun x : (Value × Value × Value × Value × Value × Value × Value × Value × Value × Value × Value × Value × Value) × Heap => Jr7_0b0 rc md x.1.1 x.1.2.1 x.1.2.2.1 x.1.2.2.2.1 x.1.2.2.2.2.1 x.1.2.2.2.2.2.1 x.1.2.2.2.2.2.2.1 x.1.2.2.2.2.2.2.2.1 x.1.2.2.2.2.2.2.2.2.1 x.1.2.2.2.2.2.2.2.2.2.1 x.1.2.2.2.2.2.2.2.2.2.2.1 x.1.2.2.2.2.2.2.2.2.2.2.2.1 x.1.2.2.2.2.2.2.2.2.2.2.2.2 x.2) (fun t h => Jr7_0b0_at rc md t h) (fun e (s : Value × Value × Value × Value × Value × Value × Value × Value × Value × Value × Value × Value × Value) h => Jk7_0b0 rc md e s.1 s.2.1 s.2.2.1 s.2.2.2.1 s.2.2.2.2.1 s.2.2.2.2.2.1 s.2.2.2.2.2.2.1 s.2.2.2.2.2.2.2.1 s.2.2.2.2.2.2.2.2.1 s.2.2.2.2.2.2.2.2.2.1 s.2.2.2.2.2.2.2.2.2.2.1 s.2.2.2.2.2.2.2.2.2.2.2.1 s.2.2.2.2.2.2.2.2.2.2.2.2 h) (fun e t h => Jk7_0b0_at rc md e t h) t h
/-- a round -/
noncomputable def Jr7_0 (rc : Rec) (md : Md) (s0 : Value) (s1 : Value) (s4 : Value) (s5 : Value) (s6 : Value) (s35 : Value) (s36 : Value) (s37 : Value) (h : Heap) : Option (((Value × Value × Value × Value × Value × Value × Value × Value) × Heap) ⊕ (Exit × (Value × Value × Value × Value × Value × Value × Value × Value) × Heap)) :=
  aBin Tryd.prog .lss 3 s37 s36 fun v1 =>
  cBn v1 fun b2 =>
  bif b2 then
    ixSV 1 s35 s37 fun v3 =>
    ld1 v3 h fun v4 =>
    cl (rc md 19 [v4, v4] h) fun v5 h6 =>
    cBn v5 fun b7 =>
    ixSV 4 s0 s37 fun v8 =>
    ldN 4 v8 h6 fun v9 =>
    cl (rc md 14 [v9] h6) fun v10 h11 =>
    cIn .i64 v10 fun n12 =>
    aBin Tryd.prog .neq 4 (.bool b7) (.bool (n12 != 0)) fun v13 =>
    (bif wantV v13 false then
    some (v4, h11)
    else some (undef, h11)).bind fun p14 =>
    (bif wantV v13 false then
    some (s5, p14.2)
    else some (undef, p14.2)).bind fun p15 =>
    (bif wantV v13 false then
    some ((.iface 33 p15.1), p15.2)
    else some (undef, p15.2)).bind fun p16 =>
    (bif wantV v13 false then
    cl (rc md 19 [p14.1, p16.1] p16.2) fun v17 h18 =>
    cBn v17 fun b19 =>
    some ((.bool b19), h18)
    else some (undef, p16.2)).bind fun p20 =>
    cBn v13 fun q21 =>
    cBn (bif q21 then (.bool true) else p20.1) fun b22 =>
    bif b22 then
      some (.inr (.ret, (s0, s1, (.bool false), s5, s6, s35, s36, s37), p20.2))
    else
      lenS s6 fun v23 =>
      cIn .i64 v23 fun n24 =>
      J7_0b0 rc md s0 s1 s4 s5 s6 s37 v4 s35 s36 s37 s6 (.int .i64 n24) (.int .i64 0) p20.2
  else
    some (.inr ((.exit 0), (s0, s1, s4, s5, s6, s35, s36, s37), h))
noncomputable def Jr7_0H (rc : Rec) (md : Md) (X0 : T → Heap → Option (((Value × Value × Value × Value × Value × Value × Value × Value) × Heap) ⊕ (Exit × (Value × Value × Value × Value × Value × Value × Value × Value) × Heap))) (t : T) (h : Heap) : Option (((Value × Value × Value × Value × Value × Value × Value × Value) × Heap) ⊕ (Exit × (Value × Value × Value × Value × Value × Value × Value × Value) × Heap)) :=
  aBin Tryd.prog .lss 3 (t 37) (t 36) fun v1 =>
  cBn v1 fun b2 =>
  bif b2 then
    ixSV 1 (t 35) (t 37) fun v3 =>
    ld1 v3 h fun v4 =>
    cl (rc md 19 [v4, v4] h) fun v5 h6 =>
    cBn v5 fun b7 =>
    ixSV 4 (t 0) (t 37) fun v8 =>
    ldN 4 v8 h6 fun v9 =>
    cl (rc md 14 [v9] h6) fun v10 h11 =>
    cIn .i64 v10 fun n12 =>
    aBin Tryd.prog .neq 4 (.bool b7) (.bool (n12 != 0)) fun v13 =>
    (bif wantV v13 false then
    some (v4, h11)
    else some (undef, h11)).bind fun p14 =>
    (bif wantV v13 false then
    some ((t 5), p14.2)
    else some (undef, p14.2)).bind fun p15 =>
    (bif wantV v13 false then
    some ((.iface 33 p15.1), p15.2)
    else some (undef, p15.2)).bind fun p16 =>
    (bif wantV v13 false then
    cl (rc md 19 [p14.1, p16.1] p16.2) fun v17 h18 =>
    cBn v17 fun b19 =>
    some ((.bool b19), h18)
    else some (undef, p16.2)).bind fun p20 =>
    cBn v13 fun q21 =>
    cBn (bif q21 then (.bool true) else p20.1) fun b22 =>
    bif b22 then
      some (.inr (.ret, ((t 0), (t 1), (.bool false), (t 5), (t 6), (t 35), (t 36), (t 37)), p20.2))
    else
      lenS (t 6) fun v23 =>
      cIn .i64 v23 fun n24 =>
      X0 (upd (upd (upd (upd (upd (upd (upd (upd (upd (upd (upd (upd (upd (upd (upd (upd (upd (upd (upd (upd (upd (upd (upd (upd (upd t 38 v1) 39 (t 37)) 40 v3) 41 v4) 7 (t 37)) 8 v4) 42 v4) 43 v4) 44 (.bool b7)) 45 (t 0)) 46 (t 37)) 47 v8) 48 v9) 49 (.int .i64 n12)) 50 (.bool (n12 != 0))) 51 v13) 52 v13) 53 p14.1) 54 p15.1) 55 p16.1) 56 p20.1) 57 (.bool b22)) 58 (t 6)) 59 (.int .i64 n24)) 60 (.int .i64 0)) p20.2
  else
    some (.inr ((.exit 0), ((t 0), (t 1), (t 4), (t 5), (t 6), (t 35), (t 36), (t 37)), h))
theorem Jr7_0_h1 (rc : Rec) (md : Md) (X : Nat → T → Heap → Option (((Value × Value × Value × Value × Value × Value × Value × Value) × Heap) ⊕ (Exit × (Value × Value × Value × Value × Value × Value × Value × Value) × Heap))) (t : T) (h : Heap) : execG Tryd.prog cfg X rc md 90 (replS (sub (bodyOf Tryd.prog 7) [1, 1, 1, 1, 0, 1, 0, 0]) [([1, 1, 0, 0, 1, 1, 1, 0], 0)]) (rndK (fun t => (t 0, t 1, t 4, t 5, t 6, t 35, t 36, t 37))) t h = Jr7_0H rc md (X 0) t h := by kernel_rfl
theorem Jr7_0_h2 (rc : Rec) (md : Md) (t : T) (h : Heap) : Jr7_0H rc md (fun t h => J7_0b0 rc md (t 0) (t 1) (t 4) (t 5) (t 6) (t 7) (t 8) (t 35) (t 36) (t 37) (t 58) (t 59) (t 60) h) t h = Jr7_0 rc md (t 0) (t 1) (t 4) (t 5) (t 6) (t 35) (t 36) (t 37) h := by unfold Jr7_0H Jr7_0; kernel_rfl
theorem Jr7_0_at (rc : Rec) (md : Md) (t : T) (h : Heap) : exec Tryd.prog cfg rc md 90 (sub (bodyOf Tryd.prog 7) [1, 1, 1, 1, 0, 1, 0, 0]) (rndK (fun t => (t 0, t 1, t 4, t 5, t 6, t 35, t 36, t 37))) t h = Jr7_0 rc md (t 0) (t 1) (t 4) (t 5) (t 6) (t 35) (t 36) (t 37) h := by
  rw [exec_holes [([1, 1, 0, 0, 1, 1, 1, 0], 0)] (by kernel_rfl), Jr7_0_h1, show (goX Tryd.prog cfg rc md 90 (sub (bodyOf Tryd.prog 7) [1, 1, 1, 1, 0, 1, 0, 0]) [([1, 1, 0, 0, 1, 1, 1, 0], 0)] (rndK (fun t => (t 0, t 1, t 4, t 5, t 6, t 35, t 36, t 37)))) 0 = _ from J7_0b0_cut rc md]
  exact Jr7_0_h2 rc md t h
noncomputable def J7_0 (rc : Rec) (md : Md) (h0 : Heap) (s0 : Value) (s1 : Value) (s4 : Value) (s5 : Value) (s6 : Value) (s35 : Value) (s36 : Value) (s37 : Value) (h : Heap) : Option (Value × Heap) :=
  runL (fun x : (Value × Value × Value × Value × Value × Value × Value × Value) × Heap => Jr7_0 rc md x.1.1 x.1.2.1 x.1.2.2.1 x.1.2.2.2.1 x.1.2.2.2.2.1 x.1.2.2.2.2.2.1 x.1.2.2.2.2.2.2.1 x.1.2.2.2.2.2.2.2 x.2) (fun e (s : Value × Value × Value × Value × Value × Value × Value × Value) h => Jk7_0 rc md h0 e s.1 s.2.1 s.2.2.1 s.2.2.2.1 s.2.2.2.2.1 s.2.2.2.2.2.1 s.2.2.2.2.2.2.1 s.2.2.2.2.2.2.2 h) (s0, s1, s4, s5, s6, s35, s36, s37) h
theorem J7_0_step (rc : Rec) (md : Md) (h0 : Heap) (s0 : Value) (s1 : Value) (s4 : Value) (s5 : Value) (s6 : Value) (s35 : Value) (s36 : Value) (s37 : Value) (h : Heap) : J7_0 rc md h0 s0 s1 s4 s5 s6 s35 s36 s37 h = (Jr7_0 rc md s0 s1 s4 s5 s6 s35 s36 s37 h).bind fun x => match x with
    | .inl (s, h) => J7_0 rc md h0 s.1 s.2.1 s.2.2.1 s.2.2.2.1 s.2.2.2.2.1 s.2.2.2.2.2.1 s.2.2.2.2.2.2.1 s.2.2.2.2.2.2.2 h
    | .inr (e, s, h) => Jk7_0 rc md h0 e s.1 s.2.1 s.2.2.1 s.2.2.2.1 s.2.2.2.2.1 s.2.2.2.2.2.1 s.2.2.2.2.2.2.1 s.2.2.2.2.2.2.2 h := by
  unfold J7_0
  rw [runL_eq]
  refine congrArg (Option.bind _) (funext fun x => ?_)
  rcases x with ⟨s, h⟩ | ⟨e, s, h⟩ <;> rfl
theorem J7_0_cut (rc : Rec) (md : Md) (h0 : Heap) : cut Tryd.prog cfg rc md 90 (bodyOf Tryd.prog 7) [1, 1, 1, 1, 0, 1, 0] (retK Tryd.prog cfg 7 (rsOf Tryd.prog 7) h0) = fun t h => J7_0 rc md h0 (t 0) (t 1) (t 4) (t 5) (t 6) (t 35) (t 36) (t 37) h := by
  funext t h
  have e : sub (bodyOf Tryd.prog 7) [1, 1, 1, 1, 0, 1, 0] = .loop (sub (bodyOf Tryd.prog 7) [1, 1, 1, 1, 0, 1, 0, 0]) := by kernel_rfl
  unfold cut
  rw [e]
  exact loop_eq (by kernel_rfl) (fun t => (t 0, t 1, t 4, t 5, t 6, t 35, t 36, t 37)) (fun x : (Value × Value × Value × Value × Value × Value × Value × Value) × Heap => Jr7_0 rc md x.1.1 x.1.2.1 x.1.2.2.1 x.1.2.2.2.1 x.1.2.2.2.2.1 x.1.2.2.2.2.2.1 x.1.2.2.2.2.2.2.1 x.1.2.2.2.2.2.2.2 x.2) (fun t h => Jr7_0_at rc md t h) (fun e (s : Value × Value × Value × Value × Value × Value × Value × Value) h => Jk7_0 rc md h0 e s.1 s.2.1 s.2.2.1 s.2.2.2.1 s.2.2.2.2.1 s.2.2.2.2.2.1 s.2.2.2.2.2.2.1 s.2.2.2.2.2.2.2 h) (fun e t h => Jk7_0_at rc md h0 e t h) t h
noncomputable def F7 (rc : Rec) (md : Md) (a0 : Value) (a1 : Value) (h0 : Heap) : Option (Value × Heap) :=
  lenS a0 fun v1 =>
  cIn .i64 v1 fun n2 =>
  (bif wantV (.bool (decide (n2 > 40))) false then
  some (a1, h0)
  else some (undef, h0)).bind fun p3 =>
  (bif wantV (.bool (decide (n2 > 40))) false then
  lenS p3.1 fun v4 =>
  cIn .i64 v4 fun n5 =>
  some ((.int .i64 n5), p3.2)
  else some (undef, p3.2)).bind fun p6 =>
  (bif wantV (.bool (decide (n2 > 40))) false then
  aBin Tryd.prog .gtr 3 p6.1 (.int .i64 40) fun v7 =>
  some (v7, p6.2)
  else some (undef, p6.2)).bind fun p8 =>
  cBn (bif (decide (n2 > 40)) then (.bool true) else p8.1) fun b9 =>
  bif b9 then
    cl (rc md 8 [] p8.2) fun v10 h11 =>
    cBn v10 fun b12 =>
    some ((.bool b12), List.take h0.length h11)
  else
    cl (rc md 16 [a0] p8.2) fun v13 h14 =>
    cl (rc md 16 [a1] h14) fun v15 h16 =>
    cl (rc md 19 [(.iface 33 v13), (.iface 33 v15)] h16) fun v17 h18 =>
    cBn v17 fun b19 =>
    cl (rc md 19 [(.iface 33 v15), (.iface 33 v13)] h18) fun v20 h21 =>
    cBn v20 fun b22 =>
    aBin Tryd.prog .neq 4 (.bool b19) (.bool b22) fun v23 =>
    cBn v23 fun b24 =>
    bif b24 then
      some ((.bool false), List.take h0.length h21)
    else
      lenS v13 fun v25 =>
      cIn .i64 v25 fun n26 =>
      J7_0 rc md h0 a0 a1 (.bool false) v13 v15 v13 (.int .i64 n26) (.int .i64 0) h21
noncomputable def F7H (rc : Rec) (md : Md) (X0 : T → Heap → Option (Value × Heap)) (a0 : Value) (a1 : Value) (h0 : Heap) : Option (Value × Heap) :=
  lenS a0 fun v1 =>
  cIn .i64 v1 fun n2 =>
  (bif wantV (.bool (decide (n2 > 40))) false then
  some (a1, h0)
  else some (undef, h0)).bind fun p3 =>
  (bif wantV (.bool (decide (n2 > 40))) false then
  lenS p3.1 fun v4 =>
  cIn .i64 v4 fun n5 =>
  some ((.int .i64 n5), p3.2)
  else some (undef, p3.2)).bind fun p6 =>
  (bif wantV (.bool (decide (n2 > 40))) false then
  aBin Tryd.prog .gtr 3 p6.1 (.int .i64 40) fun v7 =>
  some (v7, p6.2)
  else some (undef, p6.2)).bind fun p8 =>
  cBn (bif (decide (n2 > 40)) then (.bool true) else p8.1) fun b9 =>
  bif b9 then
    cl (rc md 8 [] p8.2) fun v10 h11 =>
    cBn v10 fun b12 =>
    some ((.bool b12), List.take h0.length h11)
  else
    cl (rc md 16 [a0] p8.2) fun v13 h14 =>
    cl (rc md 16 [a1] h14) fun v15 h16 =>
    cl (rc md 19 [(.iface 33 v13), (.iface 33 v15)] h16) fun v17 h18 =>
    cBn v17 fun b19 =>
    cl (rc md 19 [(.iface 33 v15), (.iface 33 v13)] h18) fun v20 h21 =>
    cBn v20 fun b22 =>
    aBin Tryd.prog .neq 4 (.bool b19) (.bool b22) fun v23 =>
    cBn v23 fun b24 =>
    bif b24 then
      some ((.bool false), List.take h0.length h21)
    else
      lenS v13 fun v25 =>
      cIn .i64 v25 fun n26 =>
      X0 (upd (upd (upd (upd (upd (upd (upd (upd (upd (upd (upd (upd (upd (upd (upd (upd (upd (upd (upd (upd (upd (upd (upd (upd (upd (upd (upd (upd (upd (args0 [a0, a1]) 4 (.bool false)) 11 a0) 12 (.int .i64 n2)) 13 (.bool (decide (n2 > 40)))) 14 (.bool (decide (n2 > 40)))) 15 p3.1) 16 p6.1) 17 p8.1) 18 (.bool b9)) 20 a0) 21 v13) 22 a1) 23 v15) 5 v13) 6 v15) 24 v13) 25 (.iface 33 v13)) 26 v15) 27 (.iface 33 v15)) 28 (.bool b19)) 29 v15) 30 (.iface 33 v15)) 31 v13) 32 (.iface 33 v13)) 33 (.bool b22)) 34 v23) 35 v13) 36 (.int .i64 n26)) 37 (.int .i64 0)) h21
theorem F7_h0 (rc : Rec) (md : Md) (a0 : Value) (a1 : Value) (h0 : Heap) : callStep0 Tryd.prog cfg rc md 7 [a0, a1] h0 = exec Tryd.prog cfg rc ⟨md.ro, h0.length⟩ 90 (bodyOf Tryd.prog 7) (retK Tryd.prog cfg 7 (rsOf Tryd.prog 7) h0) (args0 [a0, a1]) h0 := callStep0_run (by kernel_rfl) (by kernel_rfl) (by kernel_rfl)
theorem F7_h1 (rc : Rec) (md : Md) (X : Nat → T → Heap → Option (Value × Heap)) (a0 : Value) (a1 : Value) (h0 : Heap) : execG Tryd.prog cfg X rc md 90 (replS (bodyOf Tryd.prog 7) [([1, 1, 1, 1, 0, 1, 0], 0)]) (retK Tryd.prog cfg 7 (rsOf Tryd.prog 7) h0) (args0 [a0, a1]) h0 = F7H rc md (X 0) a0 a1 h0 := by kernel_rfl
theorem F7_h2 (rc : Rec) (md : Md) (a0 : Value) (a1 : Value) (h0 : Heap) : F7H rc md (fun t h => J7_0 rc md h0 (t 0) (t 1) (t 4) (t 5) (t 6) (t 35) (t 36) (t 37) h) a0 a1 h0 = F7 rc md a0 a1 h0 := by unfold F7H F7; kernel_rfl
theorem F7_eq0 (rc : Rec) (md : Md) (a0 : Value) (a1 : Value) (h0 : Heap) : callStep0 Tryd.prog cfg rc md 7 [a0, a1] h0 = F7 rc ⟨md.ro, h0.length⟩ a0 a1 h0 := by
  rw [F7_h0, exec_holes [([1, 1, 1, 1, 0, 1, 0], 0)] (by kernel_rfl), F7_h1, show (goX Tryd.prog cfg rc ⟨md.ro, h0.length⟩ 90 (bodyOf Tryd.prog 7) [([1, 1, 1, 1, 0, 1, 0], 0)] (retK Tryd.prog cfg 7 (rsOf Tryd.prog 7) h0)) 0 = _ from J7_0_cut rc ⟨md.ro, h0.length⟩ h0]
  exact F7_h2 rc _ a0 a1 h0
theorem F7_eq (rc : Rec) (md : Md) (a0 : Value) (a1 : Value) (h0 : Heap) : callStep Tryd.prog cfg rc md 7 [a0, a1] h0 = F7 rc ⟨md.ro, h0.length⟩ a0 a1 h0 := (callStep_ne (by kernel_rfl)).trans (F7_eq0 rc md a0 a1 h0)

end Go.Det.E
