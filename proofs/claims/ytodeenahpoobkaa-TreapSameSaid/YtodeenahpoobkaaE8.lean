/- Printed functions. -/
import Derived.Test.YtodeenahpoobkaaE5
import Derived.Test.YtodeenahpoobkaaDetT
import Derived.Test.YtodeenahpoobkaaDetX
import Derived.Test.YtodeenahpoobkaaProg
set_option autoImplicit false
set_option linter.unusedVariables false
set_option linter.unusedSimpArgs false
namespace Go.Det.E
open Go.Proofs Go.Det

/-- tombolo/tombololaw09.awake -/
noncomputable def F14 (rc : Rec) (md : Md)  (h0 : Heap) : Option (Value × Heap) :=
  cl (rc md 15 [(.agg #[(.int .i64 3), (.int .i64 0), (.int .i64 1), (.slice none 0 0), (.slice none 0 0)])] h0) fun v1 h2 =>
  aBin Try.prog .eql 30 v1 (.pointer none) fun v3 =>
  cBn v3 fun b4 =>
  bif b4 then
    some ((.bool false), List.take h0.length h2)
  else
    bif okNil Try.prog v1 then
    fA 4 v1 fun v5 =>
    ldN 6 v5 h2 fun v6 =>
    bif okNil Try.prog v1 then
    fA 4 v1 fun v7 =>
    ldN 6 v7 h2 fun v8 =>
    cl (rc md 29 [v8, (.int .i64 1), (.int .i64 2)] h2) fun v9 h10 =>
    cIn .i64 v9 fun n11 =>
    cLE true (fun hq => ldN 6 v5 hq some) v6 h2 h10 <|
    cl (rc md 29 [v6, (.int .i64 n11), (.int .i64 3)] h10) fun v12 h13 =>
    cIn .i64 v12 fun n14 =>
    bif okNil Try.prog v1 then
    fA 4 v1 fun v15 =>
    ldN 6 v15 h13 fun v16 =>
    cl (rc md 30 [v16, (.int .i64 3), (.int .i64 1), (.bool true)] h13) fun v17 h18 =>
    bif okNil Try.prog v1 then
    fA 4 v1 fun v19 =>
    ldN 6 v19 h18 fun v20 =>
    cl (rc md 28 [v20, (.int .i64 n14), (.int .i64 2)] h18) fun v21 h22 =>
    exT v21 0 fun v23 =>
    cIn .i64 v23 fun n24 =>
    exT v21 1 fun v25 =>
    cIn .i64 v25 fun n26 =>
    (bif wantV (.bool (n14 == 1)) true then
    some ((.int .i64 n24), h22)
    else some (undef, h22)).bind fun p27 =>
    (bif wantV (.bool (n14 == 1)) true then
    aBin Try.prog .eql 3 p27.1 (.int .i64 1) fun v28 =>
    some (v28, p27.2)
    else some (undef, p27.2)).bind fun p29 =>
    cBn (bif (n14 == 1) then p29.1 else (.bool false)) fun b30 =>
    (bif wantV (.bool b30) true then
    some ((.int .i64 n26), p29.2)
    else some (undef, p29.2)).bind fun p31 =>
    (bif wantV (.bool b30) true then
    aBin Try.prog .eql 3 p31.1 (.int .i64 3) fun v32 =>
    some (v32, p31.2)
    else some (undef, p31.2)).bind fun p33 =>
    cBn (bif b30 then p33.1 else (.bool false)) fun b34 =>
    (bif wantV (.bool b34) true then
    some (v1, p33.2)
    else some (undef, p33.2)).bind fun p35 =>
    (bif wantV (.bool b34) true then
    bif okNil Try.prog p35.1 then
    some (p35.1, p35.2)
    else none
    else some (undef, p35.2)).bind fun p36 =>
    (bif wantV (.bool b34) true then
    fA 4 p36.1 fun v37 =>
    some (v37, p36.2)
    else some (undef, p36.2)).bind fun p38 =>
    (bif wantV (.bool b34) true then
    ldN 6 p38.1 p38.2 fun v39 =>
    some (v39, p38.2)
    else some (undef, p38.2)).bind fun p40 =>
    (bif wantV (.bool b34) true then
    some ((.int .i64 n24), p40.2)
    else some (undef, p40.2)).bind fun p41 =>
    (bif wantV (.bool b34) true then
    cl (rc md 23 [p40.1, p41.1] p41.2) fun v42 h43 =>
    cIn .i64 v42 fun n44 =>
    some ((.int .i64 n44), h43)
    else some (undef, p41.2)).bind fun p45 =>
    (bif wantV (.bool b34) true then
    aBin Try.prog .eql 3 p45.1 (.int .i64 2) fun v46 =>
    some (v46, p45.2)
    else some (undef, p45.2)).bind fun p47 =>
    cBn (bif b34 then p47.1 else (.bool false)) fun b48 =>
    (bif wantV (.bool b48) true then
    some (v1, p47.2)
    else some (undef, p47.2)).bind fun p49 =>
    (bif wantV (.bool b48) true then
    bif okNil Try.prog p49.1 then
    some (p49.1, p49.2)
    else none
    else some (undef, p49.2)).bind fun p50 =>
    (bif wantV (.bool b48) true then
    fA 4 p50.1 fun v51 =>
    some (v51, p50.2)
    else some (undef, p50.2)).bind fun p52 =>
    (bif wantV (.bool b48) true then
    ldN 6 p52.1 p52.2 fun v53 =>
    some (v53, p52.2)
    else some (undef, p52.2)).bind fun p54 =>
    (bif wantV (.bool b48) true then
    some ((.int .i64 n26), p54.2)
    else some (undef, p54.2)).bind fun p55 =>
    (bif wantV (.bool b48) true then
    cl (rc md 24 [p54.1, p55.1] p55.2) fun v56 h57 =>
    cIn .i64 v56 fun n58 =>
    some ((.int .i64 n58), h57)
    else some (undef, p55.2)).bind fun p59 =>
    (bif wantV (.bool b48) true then
    aBin Try.prog .eql 3 p59.1 (.int .i64 1) fun v60 =>
    some (v60, p59.2)
    else some (undef, p59.2)).bind fun p61 =>
    cBn (bif b48 then p61.1 else (.bool false)) fun b62 =>
    (bif wantV (.bool b62) true then
    some (v1, p61.2)
    else some (undef, p61.2)).bind fun p63 =>
    (bif wantV (.bool b62) true then
    bif okNil Try.prog p63.1 then
    some (p63.1, p63.2)
    else none
    else some (undef, p63.2)).bind fun p64 =>
    (bif wantV (.bool b62) true then
    fA 4 p64.1 fun v65 =>
    some (v65, p64.2)
    else some (undef, p64.2)).bind fun p66 =>
    (bif wantV (.bool b62) true then
    ldN 6 p66.1 p66.2 fun v67 =>
    some (v67, p66.2)
    else some (undef, p66.2)).bind fun p68 =>
    (bif wantV (.bool b62) true then
    cl (rc md 22 [p68.1, (.int .i64 2)] p68.2) fun v69 h70 =>
    cIn .i64 v69 fun n71 =>
    some ((.int .i64 n71), h70)
    else some (undef, p68.2)).bind fun p72 =>
    (bif wantV (.bool b62) true then
    aBin Try.prog .eql 3 p72.1 (.int .i64 1) fun v73 =>
    some (v73, p72.2)
    else some (undef, p72.2)).bind fun p74 =>
    cBn (bif b62 then p74.1 else (.bool false)) fun b75 =>
    (bif wantV (.bool b75) true then
    some (v1, p74.2)
    else some (undef, p74.2)).bind fun p76 =>
    (bif wantV (.bool b75) true then
    bif okNil Try.prog p76.1 then
    some (p76.1, p76.2)
    else none
    else some (undef, p76.2)).bind fun p77 =>
    (bif wantV (.bool b75) true then
    fA 4 p77.1 fun v78 =>
    some (v78, p77.2)
    else some (undef, p77.2)).bind fun p79 =>
    (bif wantV (.bool b75) true then
    ldN 6 p79.1 p79.2 fun v80 =>
    some (v80, p79.2)
    else some (undef, p79.2)).bind fun p81 =>
    (bif wantV (.bool b75) true then
    cl (rc md 21 [p81.1, (.int .i64 2)] p81.2) fun v82 h83 =>
    cIn .i64 v82 fun n84 =>
    some ((.int .i64 n84), h83)
    else some (undef, p81.2)).bind fun p85 =>
    (bif wantV (.bool b75) true then
    aBin Try.prog .eql 3 p85.1 (.int .i64 1) fun v86 =>
    some (v86, p85.2)
    else some (undef, p85.2)).bind fun p87 =>
    cBn (bif b75 then p87.1 else (.bool false)) fun b88 =>
    (bif wantV (.bool b88) true then
    some (v1, p87.2)
    else some (undef, p87.2)).bind fun p89 =>
    (bif wantV (.bool b88) true then
    bif okNil Try.prog p89.1 then
    some (p89.1, p89.2)
    else none
    else some (undef, p89.2)).bind fun p90 =>
    (bif wantV (.bool b88) true then
    fA 4 p90.1 fun v91 =>
    some (v91, p90.2)
    else some (undef, p90.2)).bind fun p92 =>
    (bif wantV (.bool b88) true then
    ldN 6 p92.1 p92.2 fun v93 =>
    some (v93, p92.2)
    else some (undef, p92.2)).bind fun p94 =>
    (bif wantV (.bool b88) true then
    some ((.int .i64 n26), p94.2)
    else some (undef, p94.2)).bind fun p95 =>
    (bif wantV (.bool b88) true then
    cl (rc md 26 [p94.1, p95.1, (.int .i64 1)] p95.2) fun v96 h97 =>
    cIn .i64 v96 fun n98 =>
    some ((.int .i64 n98), h97)
    else some (undef, p95.2)).bind fun p99 =>
    (bif wantV (.bool b88) true then
    aBin Try.prog .eql 3 p99.1 (.int .i64 3) fun v100 =>
    some (v100, p99.2)
    else some (undef, p99.2)).bind fun p101 =>
    cBn (bif b88 then p101.1 else (.bool false)) fun b102 =>
    (bif wantV (.bool b102) true then
    some (v1, p101.2)
    else some (undef, p101.2)).bind fun p103 =>
    (bif wantV (.bool b102) true then
    bif okNil Try.prog p103.1 then
    some (p103.1, p103.2)
    else none
    else some (undef, p103.2)).bind fun p104 =>
    (bif wantV (.bool b102) true then
    fA 4 p104.1 fun v105 =>
    some (v105, p104.2)
    else some (undef, p104.2)).bind fun p106 =>
    (bif wantV (.bool b102) true then
    ldN 6 p106.1 p106.2 fun v107 =>
    some (v107, p106.2)
    else some (undef, p106.2)).bind fun p108 =>
    (bif wantV (.bool b102) true then
    some ((.int .i64 n24), p108.2)
    else some (undef, p108.2)).bind fun p109 =>
    (bif wantV (.bool b102) true then
    cl (rc md 26 [p108.1, p109.1, (.int .i64 1)] p109.2) fun v110 h111 =>
    cIn .i64 v110 fun n112 =>
    some ((.int .i64 n112), h111)
    else some (undef, p109.2)).bind fun p113 =>
    (bif wantV (.bool b102) true then
    aBin Try.prog .eql 3 p113.1 (.int .i64 0) fun v114 =>
    some (v114, p113.2)
    else some (undef, p113.2)).bind fun p115 =>
    cBn (bif b102 then p115.1 else (.bool false)) fun b116 =>
    (bif wantV (.bool b116) true then
    some (v1, p115.2)
    else some (undef, p115.2)).bind fun p117 =>
    (bif wantV (.bool b116) true then
    bif okNil Try.prog p117.1 then
    some (p117.1, p117.2)
    else none
    else some (undef, p117.2)).bind fun p118 =>
    (bif wantV (.bool b116) true then
    fA 4 p118.1 fun v119 =>
    some (v119, p118.2)
    else some (undef, p118.2)).bind fun p120 =>
    (bif wantV (.bool b116) true then
    ldN 6 p120.1 p120.2 fun v121 =>
    some (v121, p120.2)
    else some (undef, p120.2)).bind fun p122 =>
    (bif wantV (.bool b116) true then
    cl (rc md 25 [p122.1, (.int .i64 3), (.int .i64 1)] p122.2) fun v123 h124 =>
    cBn v123 fun b125 =>
    some ((.bool b125), h124)
    else some (undef, p122.2)).bind fun p126 =>
    cBn (bif b116 then p126.1 else (.bool false)) fun b127 =>
    (bif wantV (.bool b127) true then
    some (v1, p126.2)
    else some (undef, p126.2)).bind fun p128 =>
    (bif wantV (.bool b127) true then
    bif okNil Try.prog p128.1 then
    some (p128.1, p128.2)
    else none
    else some (undef, p128.2)).bind fun p129 =>
    (bif wantV (.bool b127) true then
    fA 4 p129.1 fun v130 =>
    some (v130, p129.2)
    else some (undef, p129.2)).bind fun p131 =>
    (bif wantV (.bool b127) true then
    ldN 6 p131.1 p131.2 fun v132 =>
    some (v132, p131.2)
    else some (undef, p131.2)).bind fun p133 =>
    (bif wantV (.bool b127) true then
    some ((.int .i64 n24), p133.2)
    else some (undef, p133.2)).bind fun p134 =>
    (bif wantV (.bool b127) true then
    cl (rc md 20 [p133.1, p134.1] p134.2) fun v135 h136 =>
    some (v135, h136)
    else some (undef, p134.2)).bind fun p137 =>
    (bif wantV (.bool b127) true then
    lenS p137.1 fun v138 =>
    cIn .i64 v138 fun n139 =>
    some ((.int .i64 n139), p137.2)
    else some (undef, p137.2)).bind fun p140 =>
    (bif wantV (.bool b127) true then
    aBin Try.prog .eql 3 p140.1 (.int .i64 2) fun v141 =>
    some (v141, p140.2)
    else some (undef, p140.2)).bind fun p142 =>
    cBn (bif b127 then p142.1 else (.bool false)) fun b143 =>
    some ((.bool b143), List.take h0.length p142.2)
    else none
    else none
    else none
    else none
theorem F14_eq0 (rc : Rec) (md : Md)  (h0 : Heap) : callStep0 Try.prog cfg rc md 14 [] h0 = F14 rc ⟨md.ro, h0.length⟩  h0 := by kernel_rfl
theorem F14_eq (rc : Rec) (md : Md)  (h0 : Heap) : callStep Try.prog cfg rc md 14 [] h0 = F14 rc ⟨md.ro, h0.length⟩  h0 := (callStep_ne (by kernel_rfl)).trans (F14_eq0 rc md  h0)

end Go.Det.E
