/- Printed functions. -/
import Derived.Test.YthhlflpeibdfmaaDoorQE
import Derived.Test.YthhlflpeibdfmaaDoorQ0
import Derived.Test.YthhlflpeibdfmaaDoorDetT
import Derived.Test.YthhlflpeibdfmaaDoorDetX
import Derived.Test.YthhlflpeibdfmaaDoorProg
set_option autoImplicit false
set_option linter.unusedVariables false
set_option linter.unusedSimpArgs false
namespace Go.Det.E
open Go.Proofs Go.Det

/-- tombolo/tombololaw04.ScanTells -/
noncomputable def F3 (rc : Rec) (md : Md) (a0 : ByteArray) (h0 : Heap) : Option (Value × Heap) :=
  lenT (.string a0) fun v1 =>
  cIn .i64 v1 fun n2 =>
  bif (decide (n2 > 300)) then
    cl (rc md 10 [] h0) fun v3 h4 =>
    cBn v3 fun b5 =>
    some ((.bool b5), List.take h0.length h4)
  else
    cl (rc md 11 [(.string a0)] h0) fun v6 h7 =>
    exT v6 0 fun v8 =>
    exT v6 1 fun v9 =>
    cIn .i64 v9 fun n10 =>
    exT v6 2 fun v11 =>
    cIn .i64 v11 fun n12 =>
    cl (rc md 12 [(.string a0)] h7) fun v13 h14 =>
    exT v13 0 fun v15 =>
    exT v13 1 fun v16 =>
    cIn .i64 v16 fun n17 =>
    exT v13 2 fun v18 =>
    cIn .i64 v18 fun n19 =>
    (bif wantV (.bool (n12 == n19)) true then
    some ((.int .i64 n10), h14)
    else some (undef, h14)).bind fun p20 =>
    (bif wantV (.bool (n12 == n19)) true then
    some ((.int .i64 n17), p20.2)
    else some (undef, p20.2)).bind fun p21 =>
    (bif wantV (.bool (n12 == n19)) true then
    aBin Tryd.prog .eql 3 p20.1 p21.1 fun v22 =>
    some (v22, p21.2)
    else some (undef, p21.2)).bind fun p23 =>
    cBn (bif (n12 == n19) then p23.1 else (.bool false)) fun b24 =>
    (bif wantV (.bool b24) true then
    some (v8, p23.2)
    else some (undef, p23.2)).bind fun p25 =>
    (bif wantV (.bool b24) true then
    some (v15, p25.2)
    else some (undef, p25.2)).bind fun p26 =>
    (bif wantV (.bool b24) true then
    cl (rc md 13 [p25.1, p26.1] p26.2) fun v27 h28 =>
    cBn v27 fun b29 =>
    some ((.bool b29), h28)
    else some (undef, p26.2)).bind fun p30 =>
    cBn (bif b24 then p30.1 else (.bool false)) fun b31 =>
    (bif wantV (.bool b31) true then
    cl (rc md 10 [] p30.2) fun v32 h33 =>
    cBn v32 fun b34 =>
    some ((.bool b34), h33)
    else some (undef, p30.2)).bind fun p35 =>
    cBn (bif b31 then p35.1 else (.bool false)) fun b36 =>
    some ((.bool b36), List.take h0.length p35.2)
theorem F3_eq0 (rc : Rec) (md : Md) (a0 : ByteArray) (h0 : Heap) : callStep0 Tryd.prog cfg rc md 3 [(.string a0)] h0 = F3 rc ⟨md.ro, h0.length⟩ a0 h0 := by kernel_rfl
theorem F3_eq (rc : Rec) (md : Md) (a0 : ByteArray) (h0 : Heap) : callStep Tryd.prog cfg rc md 3 [(.string a0)] h0 = F3 rc ⟨md.ro, h0.length⟩ a0 h0 := (callStep_ne (by kernel_rfl)).trans (F3_eq0 rc md a0 h0)

/-- tombolo/tombololaw04.ScanClasses -/
noncomputable def F4 (rc : Rec) (md : Md) (a0 : Int) (h0 : Heap) : Option (Value × Heap) :=
  (bif wantV (.bool (decide (a0 < 0))) false then
  some ((.int .i32 a0), h0)
  else some (undef, h0)).bind fun p1 =>
  (bif wantV (.bool (decide (a0 < 0))) false then
  aBin Tryd.prog .gtr 21 p1.1 (.int .i32 1114111) fun v2 =>
  some (v2, p1.2)
  else some (undef, p1.2)).bind fun p3 =>
  cBn (bif (decide (a0 < 0)) then (.bool true) else p3.1) fun b4 =>
  bif b4 then
    cl (rc md 10 [] p3.2) fun v5 h6 =>
    cBn v5 fun b7 =>
    some ((.bool b7), List.take h0.length h6)
  else
    cl (rc md 14 [(.int .i32 a0)] p3.2) fun v8 h9 =>
    cIn .i64 v8 fun n10 =>
    cl (rc md 15 [(.int .i64 (IntKind.wrap .i64 a0))] h9) fun v11 h12 =>
    cIn .i64 v11 fun n13 =>
    (bif wantV (.bool (n10 == n13)) true then
    cl (rc md 10 [] h12) fun v14 h15 =>
    cBn v14 fun b16 =>
    some ((.bool b16), h15)
    else some (undef, h12)).bind fun p17 =>
    cBn (bif (n10 == n13) then p17.1 else (.bool false)) fun b18 =>
    some ((.bool b18), List.take h0.length p17.2)
theorem F4_eq0 (rc : Rec) (md : Md) (a0 : Int) (h0 : Heap) : callStep0 Tryd.prog cfg rc md 4 [(.int .i32 a0)] h0 = F4 rc ⟨md.ro, h0.length⟩ a0 h0 := by kernel_rfl
theorem F4_eq (rc : Rec) (md : Md) (a0 : Int) (h0 : Heap) : callStep Tryd.prog cfg rc md 4 [(.int .i32 a0)] h0 = F4 rc ⟨md.ro, h0.length⟩ a0 h0 := (callStep_ne (by kernel_rfl)).trans (F4_eq0 rc md a0 h0)

/-- tombolo/tombololaw04.ScanCounts -/
noncomputable def F5 (rc : Rec) (md : Md) (a0 : ByteArray) (h0 : Heap) : Option (Value × Heap) :=
  lenT (.string a0) fun v1 =>
  cIn .i64 v1 fun n2 =>
  bif (decide (n2 > 300)) then
    cl (rc md 10 [] h0) fun v3 h4 =>
    cBn v3 fun b5 =>
    some ((.bool b5), List.take h0.length h4)
  else
    cl (rc md 16 [(.string a0)] h0) fun v6 h7 =>
    exT v6 0 fun v8 =>
    cIn .i64 v8 fun n9 =>
    exT v6 1 fun v10 =>
    cIn .i64 v10 fun n11 =>
    cl (rc md 17 [(.string a0)] h7) fun v12 h13 =>
    exT v12 0 fun v14 =>
    cIn .i64 v14 fun n15 =>
    exT v12 1 fun v16 =>
    cIn .i64 v16 fun n17 =>
    cl (rc md 11 [(.string a0)] h13) fun v18 h19 =>
    exT v18 0 fun v20 =>
    exT v18 1 fun v21 =>
    cIn .i64 v21 fun n22 =>
    exT v18 2 fun v23 =>
    cIn .i64 v23 fun n24 =>
    (bif wantV (.bool (n9 == n15)) true then
    some ((.int .i64 n11), h19)
    else some (undef, h19)).bind fun p25 =>
    (bif wantV (.bool (n9 == n15)) true then
    some ((.int .i64 n17), p25.2)
    else some (undef, p25.2)).bind fun p26 =>
    (bif wantV (.bool (n9 == n15)) true then
    aBin Tryd.prog .eql 3 p25.1 p26.1 fun v27 =>
    some (v27, p26.2)
    else some (undef, p26.2)).bind fun p28 =>
    cBn (bif (n9 == n15) then p28.1 else (.bool false)) fun b29 =>
    (bif wantV (.bool b29) true then
    some ((.int .i64 n11), p28.2)
    else some (undef, p28.2)).bind fun p30 =>
    (bif wantV (.bool b29) true then
    aBin Tryd.prog .eql 3 p30.1 (.int .i64 0) fun v31 =>
    some (v31, p30.2)
    else some (undef, p30.2)).bind fun p32 =>
    (bif wantV (.bool b29) true then
    some (p32.1, p32.2)
    else some (undef, p32.2)).bind fun p33 =>
    (bif wantV p33.1 false then
    some ((.int .i64 n24), p33.2)
    else some (undef, p33.2)).bind fun p34 =>
    (bif wantV p33.1 false then
    aBin Tryd.prog .neq 24 p34.1 (.int .i64 0) fun v35 =>
    some (v35, p34.2)
    else some (undef, p34.2)).bind fun p36 =>
    (bif wantV (.bool b29) true then
    cBn p33.1 fun q37 =>
    cBn (bif q37 then (.bool true) else p36.1) fun b38 =>
    some ((.bool b38), p36.2)
    else some (undef, p36.2)).bind fun p39 =>
    cBn (bif b29 then p39.1 else (.bool false)) fun b40 =>
    (bif wantV (.bool b40) true then
    some ((.int .i64 n11), p39.2)
    else some (undef, p39.2)).bind fun p41 =>
    (bif wantV (.bool b40) true then
    aBin Tryd.prog .neq 3 p41.1 (.int .i64 0) fun v42 =>
    some (v42, p41.2)
    else some (undef, p41.2)).bind fun p43 =>
    (bif wantV (.bool b40) true then
    some (p43.1, p43.2)
    else some (undef, p43.2)).bind fun p44 =>
    (bif wantV p44.1 false then
    some ((.int .i64 n24), p44.2)
    else some (undef, p44.2)).bind fun p45 =>
    (bif wantV p44.1 false then
    aBin Tryd.prog .neq 24 p45.1 (.int .i64 40) fun v46 =>
    some (v46, p45.2)
    else some (undef, p45.2)).bind fun p47 =>
    (bif wantV (.bool b40) true then
    cBn p44.1 fun q48 =>
    cBn (bif q48 then (.bool true) else p47.1) fun b49 =>
    some ((.bool b49), p47.2)
    else some (undef, p47.2)).bind fun p50 =>
    cBn (bif b40 then p50.1 else (.bool false)) fun b51 =>
    (bif wantV (.bool b51) true then
    cl (rc md 10 [] p50.2) fun v52 h53 =>
    cBn v52 fun b54 =>
    some ((.bool b54), h53)
    else some (undef, p50.2)).bind fun p55 =>
    cBn (bif b51 then p55.1 else (.bool false)) fun b56 =>
    some ((.bool b56), List.take h0.length p55.2)
theorem F5_eq0 (rc : Rec) (md : Md) (a0 : ByteArray) (h0 : Heap) : callStep0 Tryd.prog cfg rc md 5 [(.string a0)] h0 = F5 rc ⟨md.ro, h0.length⟩ a0 h0 := by kernel_rfl
theorem F5_eq (rc : Rec) (md : Md) (a0 : ByteArray) (h0 : Heap) : callStep Tryd.prog cfg rc md 5 [(.string a0)] h0 = F5 rc ⟨md.ro, h0.length⟩ a0 h0 := (callStep_ne (by kernel_rfl)).trans (F5_eq0 rc md a0 h0)

/-- tombolo/tombololaw04.ScanJoins -/
noncomputable def F6 (rc : Rec) (md : Md) (a0 : ByteArray) (h0 : Heap) : Option (Value × Heap) :=
  lenT (.string a0) fun v1 =>
  cIn .i64 v1 fun n2 =>
  bif (decide (n2 > 300)) then
    cl (rc md 10 [] h0) fun v3 h4 =>
    cBn v3 fun b5 =>
    some ((.bool b5), List.take h0.length h4)
  else
    cl (rc md 11 [(.string a0)] h0) fun v6 h7 =>
    exT v6 0 fun v8 =>
    exT v6 1 fun v9 =>
    cIn .i64 v9 fun n10 =>
    exT v6 2 fun v11 =>
    cIn .i64 v11 fun n12 =>
    bif (n12 != 0) then
      cl (rc md 10 [] h7) fun v13 h14 =>
      cBn v13 fun b15 =>
      some ((.bool b15), List.take h0.length h14)
    else
      cl (rc md 18 [v8] h7) fun v16 h17 =>
      cl (rc md 11 [v16] h17) fun v18 h19 =>
      exT v18 0 fun v20 =>
      exT v18 1 fun v21 =>
      cIn .i64 v21 fun n22 =>
      exT v18 2 fun v23 =>
      cIn .i64 v23 fun n24 =>
      (bif wantV (.bool (n24 == 0)) true then
      some ((.int .i64 n22), h19)
      else some (undef, h19)).bind fun p25 =>
      (bif wantV (.bool (n24 == 0)) true then
      some (v16, p25.2)
      else some (undef, p25.2)).bind fun p26 =>
      (bif wantV (.bool (n24 == 0)) true then
      lenT p26.1 fun v27 =>
      cIn .i64 v27 fun n28 =>
      some ((.int .i64 n28), p26.2)
      else some (undef, p26.2)).bind fun p29 =>
      (bif wantV (.bool (n24 == 0)) true then
      aBin Tryd.prog .eql 3 p25.1 p29.1 fun v30 =>
      some (v30, p29.2)
      else some (undef, p29.2)).bind fun p31 =>
      cBn (bif (n24 == 0) then p31.1 else (.bool false)) fun b32 =>
      (bif wantV (.bool b32) true then
      some (v8, p31.2)
      else some (undef, p31.2)).bind fun p33 =>
      (bif wantV (.bool b32) true then
      lenS p33.1 fun v34 =>
      cIn .i64 v34 fun n35 =>
      some ((.int .i64 n35), p33.2)
      else some (undef, p33.2)).bind fun p36 =>
      (bif wantV (.bool b32) true then
      some (v20, p36.2)
      else some (undef, p36.2)).bind fun p37 =>
      (bif wantV (.bool b32) true then
      lenS p37.1 fun v38 =>
      cIn .i64 v38 fun n39 =>
      some ((.int .i64 n39), p37.2)
      else some (undef, p37.2)).bind fun p40 =>
      (bif wantV (.bool b32) true then
      aBin Tryd.prog .eql 3 p36.1 p40.1 fun v41 =>
      some (v41, p40.2)
      else some (undef, p40.2)).bind fun p42 =>
      cBn (bif b32 then p42.1 else (.bool false)) fun b43 =>
      (bif wantV (.bool b43) true then
      some (v8, p42.2)
      else some (undef, p42.2)).bind fun p44 =>
      (bif wantV (.bool b43) true then
      lenS p44.1 fun v45 =>
      cIn .i64 v45 fun n46 =>
      some ((.int .i64 n46), p44.2)
      else some (undef, p44.2)).bind fun p47 =>
      (bif wantV (.bool b43) true then
      aBin Tryd.prog .eql 3 p47.1 (.int .i64 0) fun v48 =>
      some (v48, p47.2)
      else some (undef, p47.2)).bind fun p49 =>
      (bif wantV (.bool b43) true then
      some (p49.1, p49.2)
      else some (undef, p49.2)).bind fun p50 =>
      (bif wantV p50.1 false then
      some (v8, p50.2)
      else some (undef, p50.2)).bind fun p51 =>
      (bif wantV p50.1 false then
      some ((.iface 23 p51.1), p51.2)
      else some (undef, p51.2)).bind fun p52 =>
      (bif wantV p50.1 false then
      some (v20, p52.2)
      else some (undef, p52.2)).bind fun p53 =>
      (bif wantV p50.1 false then
      some ((.iface 23 p53.1), p53.2)
      else some (undef, p53.2)).bind fun p54 =>
      (bif wantV p50.1 false then
      cl (rc md 19 [p52.1, p54.1] p54.2) fun v55 h56 =>
      cBn v55 fun b57 =>
      some ((.bool b57), h56)
      else some (undef, p54.2)).bind fun p58 =>
      (bif wantV (.bool b43) true then
      cBn p50.1 fun q59 =>
      cBn (bif q59 then (.bool true) else p58.1) fun b60 =>
      some ((.bool b60), p58.2)
      else some (undef, p58.2)).bind fun p61 =>
      cBn (bif b43 then p61.1 else (.bool false)) fun b62 =>
      (bif wantV (.bool b62) true then
      cl (rc md 10 [] p61.2) fun v63 h64 =>
      cBn v63 fun b65 =>
      some ((.bool b65), h64)
      else some (undef, p61.2)).bind fun p66 =>
      cBn (bif b62 then p66.1 else (.bool false)) fun b67 =>
      some ((.bool b67), List.take h0.length p66.2)
theorem F6_eq0 (rc : Rec) (md : Md) (a0 : ByteArray) (h0 : Heap) : callStep0 Tryd.prog cfg rc md 6 [(.string a0)] h0 = F6 rc ⟨md.ro, h0.length⟩ a0 h0 := by kernel_rfl
theorem F6_eq (rc : Rec) (md : Md) (a0 : ByteArray) (h0 : Heap) : callStep Tryd.prog cfg rc md 6 [(.string a0)] h0 = F6 rc ⟨md.ro, h0.length⟩ a0 h0 := (callStep_ne (by kernel_rfl)).trans (F6_eq0 rc md a0 h0)

/-- tombolo/tombololaw04.ScanParts -/
noncomputable def F7 (rc : Rec) (md : Md) (a0 : ByteArray) (a1 : ByteArray) (h0 : Heap) : Option (Value × Heap) :=
  lenT (.string a0) fun v1 =>
  cIn .i64 v1 fun n2 =>
  (bif wantV (.bool (decide (n2 > 200))) false then
  some ((.string a1), h0)
  else some (undef, h0)).bind fun p3 =>
  (bif wantV (.bool (decide (n2 > 200))) false then
  lenT p3.1 fun v4 =>
  cIn .i64 v4 fun n5 =>
  some ((.int .i64 n5), p3.2)
  else some (undef, p3.2)).bind fun p6 =>
  (bif wantV (.bool (decide (n2 > 200))) false then
  aBin Tryd.prog .gtr 3 p6.1 (.int .i64 200) fun v7 =>
  some (v7, p6.2)
  else some (undef, p6.2)).bind fun p8 =>
  cBn (bif (decide (n2 > 200)) then (.bool true) else p8.1) fun b9 =>
  bif b9 then
    cl (rc md 10 [] p8.2) fun v10 h11 =>
    cBn v10 fun b12 =>
    some ((.bool b12), List.take h0.length h11)
  else
    cl (rc md 11 [(.string a0)] p8.2) fun v13 h14 =>
    exT v13 0 fun v15 =>
    exT v13 1 fun v16 =>
    cIn .i64 v16 fun n17 =>
    exT v13 2 fun v18 =>
    cIn .i64 v18 fun n19 =>
    cl (rc md 11 [(.string a1)] h14) fun v20 h21 =>
    exT v20 0 fun v22 =>
    exT v20 1 fun v23 =>
    cIn .i64 v23 fun n24 =>
    exT v20 2 fun v25 =>
    cIn .i64 v25 fun n26 =>
    aBin Tryd.prog .add 9 (.string a0) (.string ⟨#[32]⟩) fun v27 =>
    aBin Tryd.prog .add 9 v27 (.string a1) fun v28 =>
    cl (rc md 11 [v28] h21) fun v29 h30 =>
    exT v29 0 fun v31 =>
    exT v29 1 fun v32 =>
    cIn .i64 v32 fun n33 =>
    exT v29 2 fun v34 =>
    cIn .i64 v34 fun n35 =>
    bif (n19 != 0) then
      (bif wantV (.bool (n35 == n19)) true then
      cl (rc md 10 [] h30) fun v36 h37 =>
      cBn v36 fun b38 =>
      some ((.bool b38), h37)
      else some (undef, h30)).bind fun p39 =>
      cBn (bif (n35 == n19) then p39.1 else (.bool false)) fun b40 =>
      some ((.bool b40), List.take h0.length p39.2)
    else
      bif (n26 != 0) then
        (bif wantV (.bool (n35 == n26)) true then
        some ((.int .i64 n33), h30)
        else some (undef, h30)).bind fun p41 =>
        (bif wantV (.bool (n35 == n26)) true then
        some ((.string a0), p41.2)
        else some (undef, p41.2)).bind fun p42 =>
        (bif wantV (.bool (n35 == n26)) true then
        lenT p42.1 fun v43 =>
        cIn .i64 v43 fun n44 =>
        some ((.int .i64 n44), p42.2)
        else some (undef, p42.2)).bind fun p45 =>
        (bif wantV (.bool (n35 == n26)) true then
        aBin Tryd.prog .add 3 p45.1 (.int .i64 1) fun v46 =>
        some (v46, p45.2)
        else some (undef, p45.2)).bind fun p47 =>
        (bif wantV (.bool (n35 == n26)) true then
        some ((.int .i64 n24), p47.2)
        else some (undef, p47.2)).bind fun p48 =>
        (bif wantV (.bool (n35 == n26)) true then
        aBin Tryd.prog .add 3 p47.1 p48.1 fun v49 =>
        some (v49, p48.2)
        else some (undef, p48.2)).bind fun p50 =>
        (bif wantV (.bool (n35 == n26)) true then
        aBin Tryd.prog .eql 3 p41.1 p50.1 fun v51 =>
        some (v51, p50.2)
        else some (undef, p50.2)).bind fun p52 =>
        cBn (bif (n35 == n26) then p52.1 else (.bool false)) fun b53 =>
        (bif wantV (.bool b53) true then
        cl (rc md 10 [] p52.2) fun v54 h55 =>
        cBn v54 fun b56 =>
        some ((.bool b56), h55)
        else some (undef, p52.2)).bind fun p57 =>
        cBn (bif b53 then p57.1 else (.bool false)) fun b58 =>
        some ((.bool b58), List.take h0.length p57.2)
      else
        (bif wantV (.bool (n35 == 0)) true then
        some (v31, h30)
        else some (undef, h30)).bind fun p59 =>
        (bif wantV (.bool (n35 == 0)) true then
        lenS p59.1 fun v60 =>
        cIn .i64 v60 fun n61 =>
        some ((.int .i64 n61), p59.2)
        else some (undef, p59.2)).bind fun p62 =>
        (bif wantV (.bool (n35 == 0)) true then
        some (v15, p62.2)
        else some (undef, p62.2)).bind fun p63 =>
        (bif wantV (.bool (n35 == 0)) true then
        lenS p63.1 fun v64 =>
        cIn .i64 v64 fun n65 =>
        some ((.int .i64 n65), p63.2)
        else some (undef, p63.2)).bind fun p66 =>
        (bif wantV (.bool (n35 == 0)) true then
        some (v22, p66.2)
        else some (undef, p66.2)).bind fun p67 =>
        (bif wantV (.bool (n35 == 0)) true then
        lenS p67.1 fun v68 =>
        cIn .i64 v68 fun n69 =>
        some ((.int .i64 n69), p67.2)
        else some (undef, p67.2)).bind fun p70 =>
        (bif wantV (.bool (n35 == 0)) true then
        aBin Tryd.prog .add 3 p66.1 p70.1 fun v71 =>
        some (v71, p70.2)
        else some (undef, p70.2)).bind fun p72 =>
        (bif wantV (.bool (n35 == 0)) true then
        aBin Tryd.prog .eql 3 p62.1 p72.1 fun v73 =>
        some (v73, p72.2)
        else some (undef, p72.2)).bind fun p74 =>
        cBn (bif (n35 == 0) then p74.1 else (.bool false)) fun b75 =>
        (bif wantV (.bool b75) true then
        some (v31, p74.2)
        else some (undef, p74.2)).bind fun p76 =>
        (bif wantV (.bool b75) true then
        lenS p76.1 fun v77 =>
        cIn .i64 v77 fun n78 =>
        some ((.int .i64 n78), p76.2)
        else some (undef, p76.2)).bind fun p79 =>
        (bif wantV (.bool b75) true then
        aBin Tryd.prog .eql 3 p79.1 (.int .i64 0) fun v80 =>
        some (v80, p79.2)
        else some (undef, p79.2)).bind fun p81 =>
        (bif wantV (.bool b75) true then
        some (p81.1, p81.2)
        else some (undef, p81.2)).bind fun p82 =>
        (bif wantV p82.1 false then
        some (v31, p82.2)
        else some (undef, p82.2)).bind fun p83 =>
        (bif wantV p82.1 false then
        some ((.iface 23 p83.1), p83.2)
        else some (undef, p83.2)).bind fun p84 =>
        (bif wantV p82.1 false then
        let h85 : Heap := p84.2 ++ [.own []]
        some ((.slice (some ⟨p84.2.length, 0, none⟩) 0 1), h85)
        else some (undef, p84.2)).bind fun p86 =>
        (bif wantV p82.1 false then
        some (v15, p86.2)
        else some (undef, p86.2)).bind fun p87 =>
        (bif wantV p82.1 false then
        aBuiltin Tryd.prog md .append #[23, 23] [p86.1, p87.1] p87.2 fun v88 h89 =>
        some (v88, h89)
        else some (undef, p87.2)).bind fun p90 =>
        (bif wantV p82.1 false then
        some (v22, p90.2)
        else some (undef, p90.2)).bind fun p91 =>
        (bif wantV p82.1 false then
        aBuiltin Tryd.prog md .append #[23, 23] [p90.1, p91.1] p91.2 fun v92 h93 =>
        some (v92, h93)
        else some (undef, p91.2)).bind fun p94 =>
        (bif wantV p82.1 false then
        some ((.iface 23 p94.1), p94.2)
        else some (undef, p94.2)).bind fun p95 =>
        (bif wantV p82.1 false then
        cl (rc md 19 [p84.1, p95.1] p95.2) fun v96 h97 =>
        cBn v96 fun b98 =>
        some ((.bool b98), h97)
        else some (undef, p95.2)).bind fun p99 =>
        (bif wantV (.bool b75) true then
        cBn p82.1 fun q100 =>
        cBn (bif q100 then (.bool true) else p99.1) fun b101 =>
        some ((.bool b101), p99.2)
        else some (undef, p99.2)).bind fun p102 =>
        cBn (bif b75 then p102.1 else (.bool false)) fun b103 =>
        (bif wantV (.bool b103) true then
        cl (rc md 10 [] p102.2) fun v104 h105 =>
        cBn v104 fun b106 =>
        some ((.bool b106), h105)
        else some (undef, p102.2)).bind fun p107 =>
        cBn (bif b103 then p107.1 else (.bool false)) fun b108 =>
        some ((.bool b108), List.take h0.length p107.2)
theorem F7_eq0 (rc : Rec) (md : Md) (a0 : ByteArray) (a1 : ByteArray) (h0 : Heap) : callStep0 Tryd.prog cfg rc md 7 [(.string a0), (.string a1)] h0 = F7 rc ⟨md.ro, h0.length⟩ a0 a1 h0 := by kernel_rfl
theorem F7_eq (rc : Rec) (md : Md) (a0 : ByteArray) (a1 : ByteArray) (h0 : Heap) : callStep Tryd.prog cfg rc md 7 [(.string a0), (.string a1)] h0 = F7 rc ⟨md.ro, h0.length⟩ a0 a1 h0 := (callStep_ne (by kernel_rfl)).trans (F7_eq0 rc md a0 a1 h0)

/-- tombolo/tombololaw04.ScanBlanks -/
noncomputable def J8_3 (rc : Rec) (md : Md) (h0 : Heap) (s1 : Value) (s5 : Value) (s7 : Value) (s8 : Value) (s9 : Value) (h : Heap) : Option (Value × Heap) :=
  aBin Tryd.prog .add 9 s8 s9 fun v1 =>
  aBin Tryd.prog .add 9 v1 s8 fun v2 =>
  cl (rc md 11 [v2] h) fun v3 h4 =>
  exT v3 0 fun v5 =>
  exT v3 1 fun v6 =>
  cIn .i64 v6 fun n7 =>
  exT v3 2 fun v8 =>
  cIn .i64 v8 fun n9 =>
  aBin Tryd.prog .neq 24 s7 (.int .i64 0) fun v10 =>
  cBn v10 fun b11 =>
  bif b11 then
    aBin Tryd.prog .eql 24 (.int .i64 n9) s7 fun v12 =>
    (bif wantV v12 true then
    cl (rc md 10 [] h4) fun v13 h14 =>
    cBn v13 fun b15 =>
    some ((.bool b15), h14)
    else some (undef, h4)).bind fun p16 =>
    cBn v12 fun q17 =>
    cBn (bif q17 then p16.1 else (.bool false)) fun b18 =>
    some ((.bool b18), List.take h0.length p16.2)
  else
    (bif wantV (.bool (n9 == 0)) true then
    some ((.int .i64 n7), h4)
    else some (undef, h4)).bind fun p19 =>
    (bif wantV (.bool (n9 == 0)) true then
    some (s9, p19.2)
    else some (undef, p19.2)).bind fun p20 =>
    (bif wantV (.bool (n9 == 0)) true then
    lenT p20.1 fun v21 =>
    cIn .i64 v21 fun n22 =>
    some ((.int .i64 n22), p20.2)
    else some (undef, p20.2)).bind fun p23 =>
    (bif wantV (.bool (n9 == 0)) true then
    some (s1, p23.2)
    else some (undef, p23.2)).bind fun p24 =>
    (bif wantV (.bool (n9 == 0)) true then
    aBin Tryd.prog .mul 3 (.int .i64 2) p24.1 fun v25 =>
    some (v25, p24.2)
    else some (undef, p24.2)).bind fun p26 =>
    (bif wantV (.bool (n9 == 0)) true then
    aBin Tryd.prog .add 3 p23.1 p26.1 fun v27 =>
    some (v27, p26.2)
    else some (undef, p26.2)).bind fun p28 =>
    (bif wantV (.bool (n9 == 0)) true then
    aBin Tryd.prog .eql 3 p19.1 p28.1 fun v29 =>
    some (v29, p28.2)
    else some (undef, p28.2)).bind fun p30 =>
    cBn (bif (n9 == 0) then p30.1 else (.bool false)) fun b31 =>
    (bif wantV (.bool b31) true then
    some (s5, p30.2)
    else some (undef, p30.2)).bind fun p32 =>
    (bif wantV (.bool b31) true then
    lenS p32.1 fun v33 =>
    cIn .i64 v33 fun n34 =>
    some ((.int .i64 n34), p32.2)
    else some (undef, p32.2)).bind fun p35 =>
    (bif wantV (.bool b31) true then
    some (v5, p35.2)
    else some (undef, p35.2)).bind fun p36 =>
    (bif wantV (.bool b31) true then
    lenS p36.1 fun v37 =>
    cIn .i64 v37 fun n38 =>
    some ((.int .i64 n38), p36.2)
    else some (undef, p36.2)).bind fun p39 =>
    (bif wantV (.bool b31) true then
    aBin Tryd.prog .eql 3 p35.1 p39.1 fun v40 =>
    some (v40, p39.2)
    else some (undef, p39.2)).bind fun p41 =>
    cBn (bif b31 then p41.1 else (.bool false)) fun b42 =>
    (bif wantV (.bool b42) true then
    some (s5, p41.2)
    else some (undef, p41.2)).bind fun p43 =>
    (bif wantV (.bool b42) true then
    lenS p43.1 fun v44 =>
    cIn .i64 v44 fun n45 =>
    some ((.int .i64 n45), p43.2)
    else some (undef, p43.2)).bind fun p46 =>
    (bif wantV (.bool b42) true then
    aBin Tryd.prog .eql 3 p46.1 (.int .i64 0) fun v47 =>
    some (v47, p46.2)
    else some (undef, p46.2)).bind fun p48 =>
    (bif wantV (.bool b42) true then
    some (p48.1, p48.2)
    else some (undef, p48.2)).bind fun p49 =>
    (bif wantV p49.1 false then
    some (s5, p49.2)
    else some (undef, p49.2)).bind fun p50 =>
    (bif wantV p49.1 false then
    some ((.iface 23 p50.1), p50.2)
    else some (undef, p50.2)).bind fun p51 =>
    (bif wantV p49.1 false then
    some (v5, p51.2)
    else some (undef, p51.2)).bind fun p52 =>
    (bif wantV p49.1 false then
    some ((.iface 23 p52.1), p52.2)
    else some (undef, p52.2)).bind fun p53 =>
    (bif wantV p49.1 false then
    cl (rc md 19 [p51.1, p53.1] p53.2) fun v54 h55 =>
    cBn v54 fun b56 =>
    some ((.bool b56), h55)
    else some (undef, p53.2)).bind fun p57 =>
    (bif wantV (.bool b42) true then
    cBn p49.1 fun q58 =>
    cBn (bif q58 then (.bool true) else p57.1) fun b59 =>
    some ((.bool b59), p57.2)
    else some (undef, p57.2)).bind fun p60 =>
    cBn (bif b42 then p60.1 else (.bool false)) fun b61 =>
    (bif wantV (.bool b61) true then
    cl (rc md 10 [] p60.2) fun v62 h63 =>
    cBn v62 fun b64 =>
    some ((.bool b64), h63)
    else some (undef, p60.2)).bind fun p65 =>
    cBn (bif b61 then p65.1 else (.bool false)) fun b66 =>
    some ((.bool b66), List.take h0.length p65.2)
theorem J8_3_at (rc : Rec) (md : Md) (h0 : Heap) (t : T) (h : Heap) : cut Tryd.prog cfg rc md 109 (bodyOf Tryd.prog 8) [1, 1, 1, 1, 1, 1, 1] (retK Tryd.prog cfg 8 (rsOf Tryd.prog 8) h0) t h = J8_3 rc md h0 (t 1) (t 5) (t 7) (t 8) (t 9) h := by kernel_rfl
theorem J8_3_cut (rc : Rec) (md : Md) (h0 : Heap) : cut Tryd.prog cfg rc md 109 (bodyOf Tryd.prog 8) [1, 1, 1, 1, 1, 1, 1] (retK Tryd.prog cfg 8 (rsOf Tryd.prog 8) h0) = fun t h => J8_3 rc md h0 (t 1) (t 5) (t 7) (t 8) (t 9) h := funext fun t => funext fun h => J8_3_at rc md h0 t h
noncomputable def Jk8_2 (rc : Rec) (md : Md) (h0 : Heap) (e : Exit) (s0 : Value) (s1 : Value) (s4 : Value) (s5 : Value) (s7 : Value) (s8 : Value) (s9 : Value) (s10 : Value) (h : Heap) : Option (Value × Heap) :=
  match e with
  | .normal =>
    J8_3 rc md h0 s1 s5 s7 s8 s9 h
  | .exit j =>
    bif Nat.beq j 2 then
      J8_3 rc md h0 s1 s5 s7 s8 s9 h
    else
      none
  | .ret =>
    fin1 h0 s4 h
  | .goto l => none
  | .panic ps => none
  | .outgrown => none
noncomputable def Jk8_2H (rc : Rec) (md : Md) (h0 : Heap) (X2 : T → Heap → Option (Value × Heap)) (e : Exit) (t : T) (h : Heap) : Option (Value × Heap) :=
  match e with
  | .normal =>
    X2 t h
  | .exit j =>
    bif Nat.beq j 2 then
      X2 t h
    else
      none
  | .ret =>
    fin1 h0 (t 4) h
  | .goto l => none
  | .panic ps => none
  | .outgrown => none
theorem Jk8_2_h1 (rc : Rec) (md : Md) (h0 : Heap) (X : Nat → T → Heap → Option (Value × Heap)) (e : Exit) (t : T) (h : Heap) : kAtG Tryd.prog cfg X rc md 109 (replS (bodyOf Tryd.prog 8) [([1, 1, 1, 1, 0, 1, 0], 0), ([1, 1, 1, 1, 1, 1, 1], 2)]) [1, 1, 1, 1, 1, 1, 0, 1, 0] (retK Tryd.prog cfg 8 (rsOf Tryd.prog 8) h0) e t h = Jk8_2H rc md h0 (X 2) e t h := by cases e <;> kernel_rfl
theorem Jk8_2_h2 (rc : Rec) (md : Md) (h0 : Heap) (e : Exit) (t : T) (h : Heap) : Jk8_2H rc md h0 (fun t h => J8_3 rc md h0 (t 1) (t 5) (t 7) (t 8) (t 9) h) e t h = Jk8_2 rc md h0 e (t 0) (t 1) (t 4) (t 5) (t 7) (t 8) (t 9) (t 10) h := by cases e <;> (unfold Jk8_2H Jk8_2; kernel_rfl)
theorem Jk8_2_at (rc : Rec) (md : Md) (h0 : Heap) (e : Exit) (t : T) (h : Heap) : kAt Tryd.prog cfg rc md 109 (bodyOf Tryd.prog 8) [1, 1, 1, 1, 1, 1, 0, 1, 0] (retK Tryd.prog cfg 8 (rsOf Tryd.prog 8) h0) e t h = Jk8_2 rc md h0 e (t 0) (t 1) (t 4) (t 5) (t 7) (t 8) (t 9) (t 10) h := by
  rw [kAt_holes [([1, 1, 1, 1, 0, 1, 0], 0), ([1, 1, 1, 1, 1, 1, 1], 2)] [1, 1, 1, 1, 1, 1, 0, 1, 0] (by kernel_rfl), Jk8_2_h1, show (goX Tryd.prog cfg rc md 109 (bodyOf Tryd.prog 8) [([1, 1, 1, 1, 0, 1, 0], 0), ([1, 1, 1, 1, 1, 1, 1], 2)] (retK Tryd.prog cfg 8 (rsOf Tryd.prog 8) h0)) 2 = _ from J8_3_cut rc md h0]
  exact Jk8_2_h2 rc md h0 e t h
/-- a round -/
noncomputable def Jr8_2 (rc : Rec) (md : Md) (s0 : Value) (s1 : Value) (s4 : Value) (s5 : Value) (s7 : Value) (s8 : Value) (s9 : Value) (s10 : Value) (h : Heap) : Option (((Value × Value × Value × Value × Value × Value × Value × Value) × Heap) ⊕ (Exit × (Value × Value × Value × Value × Value × Value × Value × Value) × Heap)) :=
  lenT s0 fun v1 =>
  cIn .i64 v1 fun n2 =>
  aBin Tryd.prog .lss 3 s10 (.int .i64 n2) fun v3 =>
  cBn v3 fun b4 =>
  bif b4 then
    aBin Tryd.prog .add 3 s10 (.int .i64 1) fun v5 =>
    aSlice Tryd.prog 9 s0 (some s10) (some v5) none fun v6 =>
    aBin Tryd.prog .add 9 s9 v6 fun v7 =>
    aIndex Tryd.prog 9 s0 s10 fun v8 =>
    cIn .u8 v8 fun n9 =>
    bif (n9 == 32) then
      aBin Tryd.prog .add 9 v7 s8 fun v10 =>
      aBin Tryd.prog .add 3 s10 (.int .i64 1) fun v11 =>
      some (.inl ((s0, s1, s4, s5, s7, s8, v10, v11), h))
    else
      aBin Tryd.prog .add 3 s10 (.int .i64 1) fun v12 =>
      some (.inl ((s0, s1, s4, s5, s7, s8, v7, v12), h))
  else
    some (.inr ((.exit 2), (s0, s1, s4, s5, s7, s8, s9, s10), h))
theorem Jr8_2_at (rc : Rec) (md : Md) (t : T) (h : Heap) : exec Tryd.prog cfg rc md 109 (sub (bodyOf Tryd.prog 8) [1, 1, 1, 1, 1, 1, 0, 1, 0, 0]) (rndK (fun t => (t 0, t 1, t 4, t 5, t 7, t 8, t 9, t 10))) t h = Jr8_2 rc md (t 0) (t 1) (t 4) (t 5) (t 7) (t 8) (t 9) (t 10) h := by kernel_rfl
noncomputable def J8_2 (rc : Rec) (md : Md) (h0 : Heap) (s0 : Value) (s1 : Value) (s4 : Value) (s5 : Value) (s7 : Value) (s8 : Value) (s9 : Value) (s10 : Value) (h : Heap) : Option (Value × Heap) :=
  runL (fun x : (Value × Value × Value × Value × Value × Value × Value × Value) × Heap => Jr8_2 rc md x.1.1 x.1.2.1 x.1.2.2.1 x.1.2.2.2.1 x.1.2.2.2.2.1 x.1.2.2.2.2.2.1 x.1.2.2.2.2.2.2.1 x.1.2.2.2.2.2.2.2 x.2) (fun e (s : Value × Value × Value × Value × Value × Value × Value × Value) h => Jk8_2 rc md h0 e s.1 s.2.1 s.2.2.1 s.2.2.2.1 s.2.2.2.2.1 s.2.2.2.2.2.1 s.2.2.2.2.2.2.1 s.2.2.2.2.2.2.2 h) (s0, s1, s4, s5, s7, s8, s9, s10) h
theorem J8_2_step (rc : Rec) (md : Md) (h0 : Heap) (s0 : Value) (s1 : Value) (s4 : Value) (s5 : Value) (s7 : Value) (s8 : Value) (s9 : Value) (s10 : Value) (h : Heap) : J8_2 rc md h0 s0 s1 s4 s5 s7 s8 s9 s10 h = (Jr8_2 rc md s0 s1 s4 s5 s7 s8 s9 s10 h).bind fun x => match x with
    | .inl (s, h) => J8_2 rc md h0 s.1 s.2.1 s.2.2.1 s.2.2.2.1 s.2.2.2.2.1 s.2.2.2.2.2.1 s.2.2.2.2.2.2.1 s.2.2.2.2.2.2.2 h
    | .inr (e, s, h) => Jk8_2 rc md h0 e s.1 s.2.1 s.2.2.1 s.2.2.2.1 s.2.2.2.2.1 s.2.2.2.2.2.1 s.2.2.2.2.2.2.1 s.2.2.2.2.2.2.2 h := by
  unfold J8_2
  rw [runL_eq]
  refine congrArg (Option.bind _) (funext fun x => ?_)
  rcases x with ⟨s, h⟩ | ⟨e, s, h⟩ <;> rfl
theorem J8_2_cut (rc : Rec) (md : Md) (h0 : Heap) : cut Tryd.prog cfg rc md 109 (bodyOf Tryd.prog 8) [1, 1, 1, 1, 1, 1, 0, 1, 0] (retK Tryd.prog cfg 8 (rsOf Tryd.prog 8) h0) = fun t h => J8_2 rc md h0 (t 0) (t 1) (t 4) (t 5) (t 7) (t 8) (t 9) (t 10) h := by
  funext t h
  have e : sub (bodyOf Tryd.prog 8) [1, 1, 1, 1, 1, 1, 0, 1, 0] = .loop (sub (bodyOf Tryd.prog 8) [1, 1, 1, 1, 1, 1, 0, 1, 0, 0]) := by kernel_rfl
  unfold cut
  rw [e]
  exact loop_eq (by kernel_rfl) (fun t => (t 0, t 1, t 4, t 5, t 7, t 8, t 9, t 10)) (fun x : (Value × Value × Value × Value × Value × Value × Value × Value) × Heap => Jr8_2 rc md x.1.1 x.1.2.1 x.1.2.2.1 x.1.2.2.2.1 x.1.2.2.2.2.1 x.1.2.2.2.2.2.1 x.1.2.2.2.2.2.2.1 x.1.2.2.2.2.2.2.2 x.2) (fun t h => Jr8_2_at rc md t h) (fun e (s : Value × Value × Value × Value × Value × Value × Value × Value) h => Jk8_2 rc md h0 e s.1 s.2.1 s.2.2.1 s.2.2.2.1 s.2.2.2.2.1 s.2.2.2.2.2.1 s.2.2.2.2.2.2.1 s.2.2.2.2.2.2.2 h) (fun e t h => Jk8_2_at rc md h0 e t h) t h
noncomputable def J8_1 (rc : Rec) (md : Md) (h0 : Heap) (s0 : Value) (s1 : Value) (s4 : Value) (s5 : Value) (s7 : Value) (s8 : Value) (h : Heap) : Option (Value × Heap) :=
  J8_2 rc md h0 s0 s1 s4 s5 s7 s8 (.string ⟨#[]⟩) (.int .i64 0) h
noncomputable def J8_1H (rc : Rec) (md : Md) (h0 : Heap) (X1 : T → Heap → Option (Value × Heap)) (t : T) (h : Heap) : Option (Value × Heap) :=
  X1 (upd (upd t 9 (.string ⟨#[]⟩)) 10 (.int .i64 0)) h
theorem J8_1_h1 (rc : Rec) (md : Md) (h0 : Heap) (X : Nat → T → Heap → Option (Value × Heap)) (t : T) (h : Heap) : execG Tryd.prog cfg X rc md 109 (sub (replS (bodyOf Tryd.prog 8) [([1, 1, 1, 1, 0, 1, 0], 0), ([1, 1, 1, 1, 1, 1, 0, 1, 0], 1), ([1, 1, 1, 1, 1, 1, 1], 2)]) [1, 1, 1, 1, 1]) (kAtG Tryd.prog cfg X rc md 109 (replS (bodyOf Tryd.prog 8) [([1, 1, 1, 1, 0, 1, 0], 0), ([1, 1, 1, 1, 1, 1, 0, 1, 0], 1), ([1, 1, 1, 1, 1, 1, 1], 2)]) [1, 1, 1, 1, 1] (retK Tryd.prog cfg 8 (rsOf Tryd.prog 8) h0)) t h = J8_1H rc md h0 (X 1) t h := by kernel_rfl
theorem J8_1_h2 (rc : Rec) (md : Md) (h0 : Heap) (t : T) (h : Heap) : J8_1H rc md h0 (fun t h => J8_2 rc md h0 (t 0) (t 1) (t 4) (t 5) (t 7) (t 8) (t 9) (t 10) h) t h = J8_1 rc md h0 (t 0) (t 1) (t 4) (t 5) (t 7) (t 8) h := by (unfold J8_1H J8_1; kernel_rfl)
theorem J8_1_at (rc : Rec) (md : Md) (h0 : Heap) (t : T) (h : Heap) : cut Tryd.prog cfg rc md 109 (bodyOf Tryd.prog 8) [1, 1, 1, 1, 1] (retK Tryd.prog cfg 8 (rsOf Tryd.prog 8) h0) t h = J8_1 rc md h0 (t 0) (t 1) (t 4) (t 5) (t 7) (t 8) h := by
  rw [cut_holes [([1, 1, 1, 1, 0, 1, 0], 0), ([1, 1, 1, 1, 1, 1, 0, 1, 0], 1), ([1, 1, 1, 1, 1, 1, 1], 2)] [1, 1, 1, 1, 1] (by kernel_rfl), J8_1_h1, show (goX Tryd.prog cfg rc md 109 (bodyOf Tryd.prog 8) [([1, 1, 1, 1, 0, 1, 0], 0), ([1, 1, 1, 1, 1, 1, 0, 1, 0], 1), ([1, 1, 1, 1, 1, 1, 1], 2)] (retK Tryd.prog cfg 8 (rsOf Tryd.prog 8) h0)) 1 = _ from J8_2_cut rc md h0]
  exact J8_1_h2 rc md h0 t h
theorem J8_1_cut (rc : Rec) (md : Md) (h0 : Heap) : cut Tryd.prog cfg rc md 109 (bodyOf Tryd.prog 8) [1, 1, 1, 1, 1] (retK Tryd.prog cfg 8 (rsOf Tryd.prog 8) h0) = fun t h => J8_1 rc md h0 (t 0) (t 1) (t 4) (t 5) (t 7) (t 8) h := funext fun t => funext fun h => J8_1_at rc md h0 t h
noncomputable def Jk8_0 (rc : Rec) (md : Md) (h0 : Heap) (e : Exit) (s0 : Value) (s1 : Value) (s4 : Value) (s5 : Value) (s7 : Value) (s8 : Value) (s32 : Value) (s33 : Value) (h : Heap) : Option (Value × Heap) :=
  match e with
  | .normal =>
    J8_1 rc md h0 s0 s1 s4 s5 s7 s8 h
  | .exit j =>
    bif Nat.beq j 0 then
      J8_1 rc md h0 s0 s1 s4 s5 s7 s8 h
    else
      none
  | .ret =>
    fin1 h0 s4 h
  | .goto l => none
  | .panic ps => none
  | .outgrown => none
noncomputable def Jk8_0H (rc : Rec) (md : Md) (h0 : Heap) (X3 : T → Heap → Option (Value × Heap)) (e : Exit) (t : T) (h : Heap) : Option (Value × Heap) :=
  match e with
  | .normal =>
    X3 t h
  | .exit j =>
    bif Nat.beq j 0 then
      X3 t h
    else
      none
  | .ret =>
    fin1 h0 (t 4) h
  | .goto l => none
  | .panic ps => none
  | .outgrown => none
theorem Jk8_0_h1 (rc : Rec) (md : Md) (h0 : Heap) (X : Nat → T → Heap → Option (Value × Heap)) (e : Exit) (t : T) (h : Heap) : kAtG Tryd.prog cfg X rc md 109 (replS (bodyOf Tryd.prog 8) [([1, 1, 1, 1, 1, 1, 0, 1, 0], 1), ([1, 1, 1, 1, 1, 1, 1], 2), ([1, 1, 1, 1, 1], 3)]) [1, 1, 1, 1, 0, 1, 0] (retK Tryd.prog cfg 8 (rsOf Tryd.prog 8) h0) e t h = Jk8_0H rc md h0 (X 3) e t h := by cases e <;> kernel_rfl
theorem Jk8_0_h2 (rc : Rec) (md : Md) (h0 : Heap) (e : Exit) (t : T) (h : Heap) : Jk8_0H rc md h0 (fun t h => J8_1 rc md h0 (t 0) (t 1) (t 4) (t 5) (t 7) (t 8) h) e t h = Jk8_0 rc md h0 e (t 0) (t 1) (t 4) (t 5) (t 7) (t 8) (t 32) (t 33) h := by cases e <;> (unfold Jk8_0H Jk8_0; kernel_rfl)
theorem Jk8_0_at (rc : Rec) (md : Md) (h0 : Heap) (e : Exit) (t : T) (h : Heap) : kAt Tryd.prog cfg rc md 109 (bodyOf Tryd.prog 8) [1, 1, 1, 1, 0, 1, 0] (retK Tryd.prog cfg 8 (rsOf Tryd.prog 8) h0) e t h = Jk8_0 rc md h0 e (t 0) (t 1) (t 4) (t 5) (t 7) (t 8) (t 32) (t 33) h := by
  rw [kAt_holes [([1, 1, 1, 1, 1, 1, 0, 1, 0], 1), ([1, 1, 1, 1, 1, 1, 1], 2), ([1, 1, 1, 1, 1], 3)] [1, 1, 1, 1, 0, 1, 0] (by kernel_rfl), Jk8_0_h1, show (goX Tryd.prog cfg rc md 109 (bodyOf Tryd.prog 8) [([1, 1, 1, 1, 1, 1, 0, 1, 0], 1), ([1, 1, 1, 1, 1, 1, 1], 2), ([1, 1, 1, 1, 1], 3)] (retK Tryd.prog cfg 8 (rsOf Tryd.prog 8) h0)) 3 = _ from J8_1_cut rc md h0]
  exact Jk8_0_h2 rc md h0 e t h
/-- a round -/
noncomputable def Jr8_0 (rc : Rec) (md : Md) (s0 : Value) (s1 : Value) (s4 : Value) (s5 : Value) (s7 : Value) (s8 : Value) (s32 : Value) (s33 : Value) (h : Heap) : Option (((Value × Value × Value × Value × Value × Value × Value × Value) × Heap) ⊕ (Exit × (Value × Value × Value × Value × Value × Value × Value × Value) × Heap)) :=
  aBin Tryd.prog .lss 3 s33 s32 fun v1 =>
  cBn v1 fun b2 =>
  bif b2 then
    aBin Tryd.prog .add 9 s8 (.string ⟨#[9]⟩) fun v3 =>
    aBin Tryd.prog .add 3 s33 (.int .i64 1) fun v4 =>
    some (.inl ((s0, s1, s4, s5, s7, v3, s32, v4), h))
  else
    some (.inr ((.exit 0), (s0, s1, s4, s5, s7, s8, s32, s33), h))
theorem Jr8_0_at (rc : Rec) (md : Md) (t : T) (h : Heap) : exec Tryd.prog cfg rc md 109 (sub (bodyOf Tryd.prog 8) [1, 1, 1, 1, 0, 1, 0, 0]) (rndK (fun t => (t 0, t 1, t 4, t 5, t 7, t 8, t 32, t 33))) t h = Jr8_0 rc md (t 0) (t 1) (t 4) (t 5) (t 7) (t 8) (t 32) (t 33) h := by kernel_rfl
noncomputable def J8_0 (rc : Rec) (md : Md) (h0 : Heap) (s0 : Value) (s1 : Value) (s4 : Value) (s5 : Value) (s7 : Value) (s8 : Value) (s32 : Value) (s33 : Value) (h : Heap) : Option (Value × Heap) :=
  runL (fun x : (Value × Value × Value × Value × Value × Value × Value × Value) × Heap => Jr8_0 rc md x.1.1 x.1.2.1 x.1.2.2.1 x.1.2.2.2.1 x.1.2.2.2.2.1 x.1.2.2.2.2.2.1 x.1.2.2.2.2.2.2.1 x.1.2.2.2.2.2.2.2 x.2) (fun e (s : Value × Value × Value × Value × Value × Value × Value × Value) h => Jk8_0 rc md h0 e s.1 s.2.1 s.2.2.1 s.2.2.2.1 s.2.2.2.2.1 s.2.2.2.2.2.1 s.2.2.2.2.2.2.1 s.2.2.2.2.2.2.2 h) (s0, s1, s4, s5, s7, s8, s32, s33) h
theorem J8_0_step (rc : Rec) (md : Md) (h0 : Heap) (s0 : Value) (s1 : Value) (s4 : Value) (s5 : Value) (s7 : Value) (s8 : Value) (s32 : Value) (s33 : Value) (h : Heap) : J8_0 rc md h0 s0 s1 s4 s5 s7 s8 s32 s33 h = (Jr8_0 rc md s0 s1 s4 s5 s7 s8 s32 s33 h).bind fun x => match x with
    | .inl (s, h) => J8_0 rc md h0 s.1 s.2.1 s.2.2.1 s.2.2.2.1 s.2.2.2.2.1 s.2.2.2.2.2.1 s.2.2.2.2.2.2.1 s.2.2.2.2.2.2.2 h
    | .inr (e, s, h) => Jk8_0 rc md h0 e s.1 s.2.1 s.2.2.1 s.2.2.2.1 s.2.2.2.2.1 s.2.2.2.2.2.1 s.2.2.2.2.2.2.1 s.2.2.2.2.2.2.2 h := by
  unfold J8_0
  rw [runL_eq]
  refine congrArg (Option.bind _) (funext fun x => ?_)
  rcases x with ⟨s, h⟩ | ⟨e, s, h⟩ <;> rfl
theorem J8_0_cut (rc : Rec) (md : Md) (h0 : Heap) : cut Tryd.prog cfg rc md 109 (bodyOf Tryd.prog 8) [1, 1, 1, 1, 0, 1, 0] (retK Tryd.prog cfg 8 (rsOf Tryd.prog 8) h0) = fun t h => J8_0 rc md h0 (t 0) (t 1) (t 4) (t 5) (t 7) (t 8) (t 32) (t 33) h := by
  funext t h
  have e : sub (bodyOf Tryd.prog 8) [1, 1, 1, 1, 0, 1, 0] = .loop (sub (bodyOf Tryd.prog 8) [1, 1, 1, 1, 0, 1, 0, 0]) := by kernel_rfl
  unfold cut
  rw [e]
  exact loop_eq (by kernel_rfl) (fun t => (t 0, t 1, t 4, t 5, t 7, t 8, t 32, t 33)) (fun x : (Value × Value × Value × Value × Value × Value × Value × Value) × Heap => Jr8_0 rc md x.1.1 x.1.2.1 x.1.2.2.1 x.1.2.2.2.1 x.1.2.2.2.2.1 x.1.2.2.2.2.2.1 x.1.2.2.2.2.2.2.1 x.1.2.2.2.2.2.2.2 x.2) (fun t h => Jr8_0_at rc md t h) (fun e (s : Value × Value × Value × Value × Value × Value × Value × Value) h => Jk8_0 rc md h0 e s.1 s.2.1 s.2.2.1 s.2.2.2.1 s.2.2.2.2.1 s.2.2.2.2.2.1 s.2.2.2.2.2.2.1 s.2.2.2.2.2.2.2 h) (fun e t h => Jk8_0_at rc md h0 e t h) t h
noncomputable def F8 (rc : Rec) (md : Md) (a0 : ByteArray) (a1 : Int) (h0 : Heap) : Option (Value × Heap) :=
  lenT (.string a0) fun v1 =>
  cIn .i64 v1 fun n2 =>
  (bif wantV (.bool (decide (n2 > 200))) false then
  some ((.int .i64 a1), h0)
  else some (undef, h0)).bind fun p3 =>
  (bif wantV (.bool (decide (n2 > 200))) false then
  aBin Tryd.prog .lss 3 p3.1 (.int .i64 0) fun v4 =>
  some (v4, p3.2)
  else some (undef, p3.2)).bind fun p5 =>
  cBn (bif (decide (n2 > 200)) then (.bool true) else p5.1) fun b6 =>
  (bif wantV (.bool b6) false then
  some ((.int .i64 a1), p5.2)
  else some (undef, p5.2)).bind fun p7 =>
  (bif wantV (.bool b6) false then
  aBin Tryd.prog .gtr 3 p7.1 (.int .i64 20) fun v8 =>
  some (v8, p7.2)
  else some (undef, p7.2)).bind fun p9 =>
  cBn (bif b6 then (.bool true) else p9.1) fun b10 =>
  bif b10 then
    cl (rc md 10 [] p9.2) fun v11 h12 =>
    cBn v11 fun b13 =>
    some ((.bool b13), List.take h0.length h12)
  else
    cl (rc md 11 [(.string a0)] p9.2) fun v14 h15 =>
    exT v14 0 fun v16 =>
    exT v14 1 fun v17 =>
    cIn .i64 v17 fun n18 =>
    exT v14 2 fun v19 =>
    cIn .i64 v19 fun n20 =>
    J8_0 rc md h0 (.string a0) (.int .i64 a1) (.bool false) v16 (.int .i64 n20) (.string ⟨#[]⟩) (.int .i64 a1) (.int .i64 0) h15
noncomputable def F8H (rc : Rec) (md : Md) (X0 : T → Heap → Option (Value × Heap)) (a0 : ByteArray) (a1 : Int) (h0 : Heap) : Option (Value × Heap) :=
  lenT (.string a0) fun v1 =>
  cIn .i64 v1 fun n2 =>
  (bif wantV (.bool (decide (n2 > 200))) false then
  some ((.int .i64 a1), h0)
  else some (undef, h0)).bind fun p3 =>
  (bif wantV (.bool (decide (n2 > 200))) false then
  aBin Tryd.prog .lss 3 p3.1 (.int .i64 0) fun v4 =>
  some (v4, p3.2)
  else some (undef, p3.2)).bind fun p5 =>
  cBn (bif (decide (n2 > 200)) then (.bool true) else p5.1) fun b6 =>
  (bif wantV (.bool b6) false then
  some ((.int .i64 a1), p5.2)
  else some (undef, p5.2)).bind fun p7 =>
  (bif wantV (.bool b6) false then
  aBin Tryd.prog .gtr 3 p7.1 (.int .i64 20) fun v8 =>
  some (v8, p7.2)
  else some (undef, p7.2)).bind fun p9 =>
  cBn (bif b6 then (.bool true) else p9.1) fun b10 =>
  bif b10 then
    cl (rc md 10 [] p9.2) fun v11 h12 =>
    cBn v11 fun b13 =>
    some ((.bool b13), List.take h0.length h12)
  else
    cl (rc md 11 [(.string a0)] p9.2) fun v14 h15 =>
    exT v14 0 fun v16 =>
    exT v14 1 fun v17 =>
    cIn .i64 v17 fun n18 =>
    exT v14 2 fun v19 =>
    cIn .i64 v19 fun n20 =>
    X0 (upd (upd (upd (upd (upd (upd (upd (upd (upd (upd (upd (upd (upd (upd (upd (upd (upd (upd (upd (upd (upd (upd (upd (upd (args0 [(.string a0), (.int .i64 a1)]) 4 (.bool false)) 14 (.string a0)) 15 (.int .i64 n2)) 16 (.bool (decide (n2 > 200)))) 17 (.bool (decide (n2 > 200)))) 18 p3.1) 19 p5.1) 20 (.bool b6)) 21 (.bool b6)) 22 p7.1) 23 p9.1) 24 (.bool b10)) 27 (.string a0)) 28 v14) 26 v14) 29 v16) 30 (.int .i64 n18)) 31 (.int .i64 n20)) 5 v16) 6 (.int .i64 n18)) 7 (.int .i64 n20)) 8 (.string ⟨#[]⟩)) 32 (.int .i64 a1)) 33 (.int .i64 0)) h15
theorem F8_h0 (rc : Rec) (md : Md) (a0 : ByteArray) (a1 : Int) (h0 : Heap) : callStep0 Tryd.prog cfg rc md 8 [(.string a0), (.int .i64 a1)] h0 = exec Tryd.prog cfg rc ⟨md.ro, h0.length⟩ 109 (bodyOf Tryd.prog 8) (retK Tryd.prog cfg 8 (rsOf Tryd.prog 8) h0) (args0 [(.string a0), (.int .i64 a1)]) h0 := callStep0_run (by kernel_rfl) (by kernel_rfl) (by kernel_rfl)
theorem F8_h1 (rc : Rec) (md : Md) (X : Nat → T → Heap → Option (Value × Heap)) (a0 : ByteArray) (a1 : Int) (h0 : Heap) : execG Tryd.prog cfg X rc md 109 (replS (bodyOf Tryd.prog 8) [([1, 1, 1, 1, 0, 1, 0], 0), ([1, 1, 1, 1, 1, 1, 0, 1, 0], 1), ([1, 1, 1, 1, 1, 1, 1], 2), ([1, 1, 1, 1, 1], 3)]) (retK Tryd.prog cfg 8 (rsOf Tryd.prog 8) h0) (args0 [(.string a0), (.int .i64 a1)]) h0 = F8H rc md (X 0) a0 a1 h0 := by kernel_rfl
theorem F8_h2 (rc : Rec) (md : Md) (a0 : ByteArray) (a1 : Int) (h0 : Heap) : F8H rc md (fun t h => J8_0 rc md h0 (t 0) (t 1) (t 4) (t 5) (t 7) (t 8) (t 32) (t 33) h) a0 a1 h0 = F8 rc md a0 a1 h0 := by unfold F8H F8; kernel_rfl
theorem F8_eq0 (rc : Rec) (md : Md) (a0 : ByteArray) (a1 : Int) (h0 : Heap) : callStep0 Tryd.prog cfg rc md 8 [(.string a0), (.int .i64 a1)] h0 = F8 rc ⟨md.ro, h0.length⟩ a0 a1 h0 := by
  rw [F8_h0, exec_holes [([1, 1, 1, 1, 0, 1, 0], 0), ([1, 1, 1, 1, 1, 1, 0, 1, 0], 1), ([1, 1, 1, 1, 1, 1, 1], 2), ([1, 1, 1, 1, 1], 3)] (by kernel_rfl), F8_h1, show (goX Tryd.prog cfg rc ⟨md.ro, h0.length⟩ 109 (bodyOf Tryd.prog 8) [([1, 1, 1, 1, 0, 1, 0], 0), ([1, 1, 1, 1, 1, 1, 0, 1, 0], 1), ([1, 1, 1, 1, 1, 1, 1], 2), ([1, 1, 1, 1, 1], 3)] (retK Tryd.prog cfg 8 (rsOf Tryd.prog 8) h0)) 0 = _ from J8_0_cut rc ⟨md.ro, h0.length⟩ h0]
  exact F8_h2 rc _ a0 a1 h0
theorem F8_eq (rc : Rec) (md : Md) (a0 : ByteArray) (a1 : Int) (h0 : Heap) : callStep Tryd.prog cfg rc md 8 [(.string a0), (.int .i64 a1)] h0 = F8 rc ⟨md.ro, h0.length⟩ a0 a1 h0 := (callStep_ne (by kernel_rfl)).trans (F8_eq0 rc md a0 a1 h0)

/-- tombolo/tombololaw04.ScanNumbers -/
noncomputable def F9 (rc : Rec) (md : Md) (a0 : Int) (h0 : Heap) : Option (Value × Heap) :=
  (bif wantV (.bool (decide (a0 < 0))) false then
  some ((.int .i64 a0), h0)
  else some (undef, h0)).bind fun p1 =>
  (bif wantV (.bool (decide (a0 < 0))) false then
  aBin Tryd.prog .gtr 3 p1.1 (.int .i64 999999999) fun v2 =>
  some (v2, p1.2)
  else some (undef, p1.2)).bind fun p3 =>
  cBn (bif (decide (a0 < 0)) then (.bool true) else p3.1) fun b4 =>
  bif b4 then
    cl (rc md 10 [] p3.2) fun v5 h6 =>
    cBn v5 fun b7 =>
    some ((.bool b7), List.take h0.length h6)
  else
    cl (rc md 20 [(.iface 3 (.int .i64 a0))] p3.2) fun v8 h9 =>
    cl (rc md 11 [v8] h9) fun v10 h11 =>
    exT v10 0 fun v12 =>
    exT v10 1 fun v13 =>
    cIn .i64 v13 fun n14 =>
    exT v10 2 fun v15 =>
    cIn .i64 v15 fun n16 =>
    aBin Tryd.prog .add 9 (.string ⟨#[120, 32, 48]⟩) v8 fun v17 =>
    cl (rc md 11 [v17] h11) fun v18 h19 =>
    exT v18 0 fun v20 =>
    exT v18 1 fun v21 =>
    cIn .i64 v21 fun n22 =>
    exT v18 2 fun v23 =>
    cIn .i64 v23 fun n24 =>
    (bif wantV (.bool (n16 == 0)) true then
    some ((.int .i64 n14), h19)
    else some (undef, h19)).bind fun p25 =>
    (bif wantV (.bool (n16 == 0)) true then
    some (v8, p25.2)
    else some (undef, p25.2)).bind fun p26 =>
    (bif wantV (.bool (n16 == 0)) true then
    lenT p26.1 fun v27 =>
    cIn .i64 v27 fun n28 =>
    some ((.int .i64 n28), p26.2)
    else some (undef, p26.2)).bind fun p29 =>
    (bif wantV (.bool (n16 == 0)) true then
    aBin Tryd.prog .eql 3 p25.1 p29.1 fun v30 =>
    some (v30, p29.2)
    else some (undef, p29.2)).bind fun p31 =>
    cBn (bif (n16 == 0) then p31.1 else (.bool false)) fun b32 =>
    (bif wantV (.bool b32) true then
    some (v12, p31.2)
    else some (undef, p31.2)).bind fun p33 =>
    (bif wantV (.bool b32) true then
    lenS p33.1 fun v34 =>
    cIn .i64 v34 fun n35 =>
    some ((.int .i64 n35), p33.2)
    else some (undef, p33.2)).bind fun p36 =>
    (bif wantV (.bool b32) true then
    aBin Tryd.prog .eql 3 p36.1 (.int .i64 1) fun v37 =>
    some (v37, p36.2)
    else some (undef, p36.2)).bind fun p38 =>
    cBn (bif b32 then p38.1 else (.bool false)) fun b39 =>
    (bif wantV (.bool b39) true then
    some (v12, p38.2)
    else some (undef, p38.2)).bind fun p40 =>
    (bif wantV (.bool b39) true then
    ixS 1 p40.1 0 fun v41 =>
    some (v41, p40.2)
    else some (undef, p40.2)).bind fun p42 =>
    (bif wantV (.bool b39) true then
    ld1 p42.1 p42.2 fun v43 =>
    some (v43, p42.2)
    else some (undef, p42.2)).bind fun p44 =>
    (bif wantV (.bool b39) true then
    some ((.int .i64 a0), p44.2)
    else some (undef, p44.2)).bind fun p45 =>
    (bif wantV (.bool b39) true then
    some ((.iface 3 p45.1), p45.2)
    else some (undef, p45.2)).bind fun p46 =>
    (bif wantV (.bool b39) true then
    cl (rc md 19 [p44.1, p46.1] p46.2) fun v47 h48 =>
    cBn v47 fun b49 =>
    some ((.bool b49), h48)
    else some (undef, p46.2)).bind fun p50 =>
    cBn (bif b39 then p50.1 else (.bool false)) fun b51 =>
    (bif wantV (.bool b51) true then
    some ((.int .i64 n24), p50.2)
    else some (undef, p50.2)).bind fun p52 =>
    (bif wantV (.bool b51) true then
    aBin Tryd.prog .eql 24 p52.1 (.int .i64 41) fun v53 =>
    some (v53, p52.2)
    else some (undef, p52.2)).bind fun p54 =>
    cBn (bif b51 then p54.1 else (.bool false)) fun b55 =>
    (bif wantV (.bool b55) true then
    some ((.int .i64 n22), p54.2)
    else some (undef, p54.2)).bind fun p56 =>
    (bif wantV (.bool b55) true then
    aBin Tryd.prog .eql 3 p56.1 (.int .i64 2) fun v57 =>
    some (v57, p56.2)
    else some (undef, p56.2)).bind fun p58 =>
    cBn (bif b55 then p58.1 else (.bool false)) fun b59 =>
    (bif wantV (.bool b59) true then
    cl (rc md 10 [] p58.2) fun v60 h61 =>
    cBn v60 fun b62 =>
    some ((.bool b62), h61)
    else some (undef, p58.2)).bind fun p63 =>
    cBn (bif b59 then p63.1 else (.bool false)) fun b64 =>
    some ((.bool b64), List.take h0.length p63.2)
theorem F9_eq0 (rc : Rec) (md : Md) (a0 : Int) (h0 : Heap) : callStep0 Tryd.prog cfg rc md 9 [(.int .i64 a0)] h0 = F9 rc ⟨md.ro, h0.length⟩ a0 h0 := by kernel_rfl
theorem F9_eq (rc : Rec) (md : Md) (a0 : Int) (h0 : Heap) : callStep Tryd.prog cfg rc md 9 [(.int .i64 a0)] h0 = F9 rc ⟨md.ro, h0.length⟩ a0 h0 := (callStep_ne (by kernel_rfl)).trans (F9_eq0 rc md a0 h0)

end Go.Det.E
