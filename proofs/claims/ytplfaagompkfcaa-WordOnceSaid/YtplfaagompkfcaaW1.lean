/- Printed functions of the words. -/
import Derived.Test.YtplfaagompkfcaaDetR
import Derived.Test.YtplfaagompkfcaaProg
set_option autoImplicit false
set_option linter.unusedVariables false
set_option linter.unusedSimpArgs false
namespace Go.Det
open Go.Proofs

def cfg : FuncId → Nat := fun f => bif Nat.ble 3 f && Nat.ble f 9 || Nat.ble 14 f && Nat.ble f 29 || Nat.beq f 42 || Nat.beq f 43 then 2 else 0

/-- tombolo/word.within -/
noncomputable def F42 (rc : Rec) (md : Md) (a0 : Int) (a1 : Int) (h : Heap) : Option (Value × Heap) :=
  (bif wantV (.bool (decide (a0 ≥ 0))) true then
  some ((.int .i64 a0), h)
  else some (undef, h)).bind fun p1 =>
  (bif wantV (.bool (decide (a0 ≥ 0))) true then
  some ((.int .i64 a1), p1.2)
  else some (undef, p1.2)).bind fun p2 =>
  (bif wantV (.bool (decide (a0 ≥ 0))) true then
  aBin Try.prog .leq 3 p1.1 p2.1 fun v3 =>
  some (v3, p2.2)
  else some (undef, p2.2)).bind fun p4 =>
  cBn (bif (decide (a0 ≥ 0)) then p4.1 else (.bool false)) fun b5 =>
  some ((.bool b5), h)
theorem F42_eq (rc : Rec) (md : Md) (a0 : Int) (a1 : Int) (h : Heap) : callStep Try.prog cfg rc md 42 [(.int .i64 a0), (.int .i64 a1)] h = F42 rc ⟨h.length, h.length⟩ a0 a1 h := by kernel_rfl

/-- tombolo/word.bits -/
noncomputable def F43 (rc : Rec) (md : Md) (a0 : Int) (a1 : Int) (a2 : Int) (h : Heap) : Option (Value × Heap) :=
  shI .shr a0 a1 .u64 fun v1 =>
  shI .shl 1 a2 .u64 fun v3 =>
  aBin Try.prog .sub 24 v3 (.int .u64 1) fun v5 =>
  aBin Try.prog .and 24 v1 v5 fun v6 =>
  aConv Try.prog 24 3 v6 fun v7 =>
  fin2 h v7
theorem F43_eq (rc : Rec) (md : Md) (a0 : Int) (a1 : Int) (a2 : Int) (h : Heap) : callStep Try.prog cfg rc md 43 [(.int .u64 a0), (.int .i64 a1), (.int .i64 a2)] h = F43 rc ⟨h.length, h.length⟩ a0 a1 a2 h := by kernel_rfl

/-- (tombolo/word.Word).Plain -/
noncomputable def F21 (rc : Rec) (md : Md) (a0_0 : Int) (a0_1 : Int) (a0_2 : Int) (a0_3 : Int) (h : Heap) : Option (Value × Heap) :=
  let h1 : Heap := h ++ [.own [(.int .i64 a0_0), (.int .i64 a0_1), (.int .i64 a0_2), (.int .i64 a0_3)]]
  ld1 (.pointer (some ⟨h.length, 2, none⟩)) h1 fun v2 =>
  cIn .i64 v2 fun n3 =>
  some ((.bool (n3 == 0)), h)
theorem F21_eq (rc : Rec) (md : Md) (a0_0 : Int) (a0_1 : Int) (a0_2 : Int) (a0_3 : Int) (h : Heap) : callStep Try.prog cfg rc md 21 [(.agg #[(.int .i64 a0_0), (.int .i64 a0_1), (.int .i64 a0_2), (.int .i64 a0_3)])] h = F21 rc ⟨h.length, h.length⟩ a0_0 a0_1 a0_2 a0_3 h := by kernel_rfl

/-- (tombolo/word.Word).Right -/
noncomputable def F17 (rc : Rec) (md : Md) (a0_0 : Int) (a0_1 : Int) (a0_2 : Int) (a0_3 : Int) (h : Heap) : Option (Value × Heap) :=
  let h1 : Heap := h ++ [.own [(.int .i64 a0_0), (.int .i64 a0_1), (.int .i64 a0_2), (.int .i64 a0_3)]]
  ld1 (.pointer (some ⟨h.length, 0, none⟩)) h1 fun v2 =>
  cIn .i64 v2 fun n3 =>
  cl (rc md 42 [(.int .i64 n3), (.int .i64 65535)] h1) fun v4 h5 =>
  cBn v4 fun b6 =>
  (bif wantV (.bool (!b6)) false then
  some ((.pointer (some ⟨h.length, 1, none⟩)), h5)
  else some (undef, h5)).bind fun p7 =>
  (bif wantV (.bool (!b6)) false then
  ld1 p7.1 p7.2 fun v8 =>
  cIn .i64 v8 fun n9 =>
  some ((.int .i64 n9), p7.2)
  else some (undef, p7.2)).bind fun p10 =>
  (bif wantV (.bool (!b6)) false then
  cl (rc md 42 [p10.1, (.int .i64 65535)] p10.2) fun v11 h12 =>
  cBn v11 fun b13 =>
  some ((.bool b13), h12)
  else some (undef, p10.2)).bind fun p14 =>
  (bif wantV (.bool (!b6)) false then
  aUn .not p14.1 fun v15 =>
  some (v15, p14.2)
  else some (undef, p14.2)).bind fun p16 =>
  cBn (bif !b6 then (.bool true) else p16.1) fun b17 =>
  (bif wantV (.bool b17) false then
  some ((.pointer (some ⟨h.length, 2, none⟩)), p16.2)
  else some (undef, p16.2)).bind fun p18 =>
  (bif wantV (.bool b17) false then
  ld1 p18.1 p18.2 fun v19 =>
  cIn .i64 v19 fun n20 =>
  some ((.int .i64 n20), p18.2)
  else some (undef, p18.2)).bind fun p21 =>
  (bif wantV (.bool b17) false then
  cl (rc md 42 [p21.1, (.int .i64 8)] p21.2) fun v22 h23 =>
  cBn v22 fun b24 =>
  some ((.bool b24), h23)
  else some (undef, p21.2)).bind fun p25 =>
  (bif wantV (.bool b17) false then
  aUn .not p25.1 fun v26 =>
  some (v26, p25.2)
  else some (undef, p25.2)).bind fun p27 =>
  cBn (bif b17 then (.bool true) else p27.1) fun b28 =>
  (bif wantV (.bool b28) false then
  some ((.pointer (some ⟨h.length, 3, none⟩)), p27.2)
  else some (undef, p27.2)).bind fun p29 =>
  (bif wantV (.bool b28) false then
  ld1 p29.1 p29.2 fun v30 =>
  cIn .i64 v30 fun n31 =>
  some ((.int .i64 n31), p29.2)
  else some (undef, p29.2)).bind fun p32 =>
  (bif wantV (.bool b28) false then
  cl (rc md 42 [p32.1, (.int .i64 16777215)] p32.2) fun v33 h34 =>
  cBn v33 fun b35 =>
  some ((.bool b35), h34)
  else some (undef, p32.2)).bind fun p36 =>
  (bif wantV (.bool b28) false then
  aUn .not p36.1 fun v37 =>
  some (v37, p36.2)
  else some (undef, p36.2)).bind fun p38 =>
  cBn (bif b28 then (.bool true) else p38.1) fun b39 =>
  bif b39 then
    some ((.bool false), h)
  else
    ldN 4 (.pointer (some ⟨h.length, 0, none⟩)) p38.2 fun v40 =>
    cl (rc md 21 [v40] p38.2) fun v41 h42 =>
    cBn v41 fun b43 =>
    (bif wantV (.bool (!b43)) false then
    some ((.pointer (some ⟨h.length, 0, none⟩)), h42)
    else some (undef, h42)).bind fun p44 =>
    (bif wantV (.bool (!b43)) false then
    ld1 p44.1 p44.2 fun v45 =>
    cIn .i64 v45 fun n46 =>
    some ((.int .i64 n46), p44.2)
    else some (undef, p44.2)).bind fun p47 =>
    (bif wantV (.bool (!b43)) false then
    some ((.pointer (some ⟨h.length, 1, none⟩)), p47.2)
    else some (undef, p47.2)).bind fun p48 =>
    (bif wantV (.bool (!b43)) false then
    ld1 p48.1 p48.2 fun v49 =>
    cIn .i64 v49 fun n50 =>
    some ((.int .i64 n50), p48.2)
    else some (undef, p48.2)).bind fun p51 =>
    (bif wantV (.bool (!b43)) false then
    aBin Try.prog .eql 3 p47.1 p51.1 fun v52 =>
    some (v52, p51.2)
    else some (undef, p51.2)).bind fun p53 =>
    (bif wantV (.bool (!b43)) false then
    some (p53.1, p53.2)
    else some (undef, p53.2)).bind fun p54 =>
    (bif wantV p54.1 true then
    some ((.pointer (some ⟨h.length, 3, none⟩)), p54.2)
    else some (undef, p54.2)).bind fun p55 =>
    (bif wantV p54.1 true then
    ld1 p55.1 p55.2 fun v56 =>
    cIn .i64 v56 fun n57 =>
    some ((.int .i64 n57), p55.2)
    else some (undef, p55.2)).bind fun p58 =>
    (bif wantV p54.1 true then
    aBin Try.prog .eql 3 p58.1 (.int .i64 0) fun v59 =>
    some (v59, p58.2)
    else some (undef, p58.2)).bind fun p60 =>
    (bif wantV (.bool (!b43)) false then
    cBn p54.1 fun q61 =>
    cBn (bif q61 then p60.1 else (.bool false)) fun b62 =>
    some ((.bool b62), p60.2)
    else some (undef, p60.2)).bind fun p63 =>
    cBn (bif !b43 then (.bool true) else p63.1) fun b64 =>
    some ((.bool b64), h)
theorem F17_eq (rc : Rec) (md : Md) (a0_0 : Int) (a0_1 : Int) (a0_2 : Int) (a0_3 : Int) (h : Heap) : callStep Try.prog cfg rc md 17 [(.agg #[(.int .i64 a0_0), (.int .i64 a0_1), (.int .i64 a0_2), (.int .i64 a0_3)])] h = F17 rc ⟨h.length, h.length⟩ a0_0 a0_1 a0_2 a0_3 h := by kernel_rfl

/-- tombolo/word.Pack -/
noncomputable def F14 (rc : Rec) (md : Md) (a0_0 : Int) (a0_1 : Int) (a0_2 : Int) (a0_3 : Int) (h : Heap) : Option (Value × Heap) :=
  let h1 : Heap := h ++ [.own [(.int .i64 a0_0), (.int .i64 a0_1), (.int .i64 a0_2), (.int .i64 a0_3)]]
  ldN 4 (.pointer (some ⟨h.length, 0, none⟩)) h1 fun v2 =>
  cl (rc md 17 [v2] h1) fun v3 h4 =>
  cBn v3 fun b5 =>
  bif !b5 then
    some ((.tuple #[(.int .u64 0), (.int .i64 11)]), h)
  else
    ld1 (.pointer (some ⟨h.length, 1, none⟩)) h4 fun v6 =>
    cIn .i64 v6 fun n7 =>
    ld1 (.pointer (some ⟨h.length, 0, none⟩)) h4 fun v8 =>
    cIn .i64 v8 fun n9 =>
    ld1 (.pointer (some ⟨h.length, 2, none⟩)) h4 fun v10 =>
    cIn .i64 v10 fun n11 =>
    ld1 (.pointer (some ⟨h.length, 3, none⟩)) h4 fun v12 =>
    cIn .i64 v12 fun n13 =>
    some ((.tuple #[(.int .u64 (bOr .u64 (bOr .u64 (bOr .u64 (IntKind.wrap .u64 n7) (IntKind.wrap .u64 ((IntKind.wrap .u64 n9) * 2 ^ 16))) (IntKind.wrap .u64 ((IntKind.wrap .u64 n11) * 2 ^ 32))) (IntKind.wrap .u64 ((IntKind.wrap .u64 n13) * 2 ^ 40)))), (.int .i64 0)]), h)
theorem F14_eq (rc : Rec) (md : Md) (a0_0 : Int) (a0_1 : Int) (a0_2 : Int) (a0_3 : Int) (h : Heap) : callStep Try.prog cfg rc md 14 [(.agg #[(.int .i64 a0_0), (.int .i64 a0_1), (.int .i64 a0_2), (.int .i64 a0_3)])] h = F14 rc ⟨h.length, h.length⟩ a0_0 a0_1 a0_2 a0_3 h := by kernel_rfl

/-- tombolo/word.Unpack -/
noncomputable def F19 (rc : Rec) (md : Md) (a0 : Int) (h : Heap) : Option (Value × Heap) :=
  let h1 : Heap := h ++ [.own [(.int .i64 0), (.int .i64 0), (.int .i64 0), (.int .i64 0)]]
  cl (rc md 43 [(.int .u64 a0), (.int .i64 0), (.int .i64 16)] h1) fun v2 h3 =>
  cIn .i64 v2 fun n4 =>
  cl (rc md 43 [(.int .u64 a0), (.int .i64 16), (.int .i64 16)] h3) fun v5 h6 =>
  cIn .i64 v5 fun n7 =>
  cl (rc md 43 [(.int .u64 a0), (.int .i64 32), (.int .i64 8)] h6) fun v8 h9 =>
  cIn .i64 v8 fun n10 =>
  let h11 : Heap := h9 ++ [.own [(.int .i64 0), (.int .i64 0), (.int .i64 0), (.int .i64 0)]]
  st md 4 (.pointer (some ⟨h9.length, 0, none⟩)) (.agg #[(.int .i64 n7), (.int .i64 n4), (.int .i64 n10), (.int .i64 (IntKind.wrap .i64 (Int.fdiv a0 (2 ^ 40))))]) h11 fun h12 =>
  ldN 4 (.pointer (some ⟨h9.length, 0, none⟩)) h12 fun v13 =>
  cl (rc md 17 [v13] h12) fun v14 h15 =>
  cBn v14 fun b16 =>
  bif !b16 then
    st md 4 (.pointer (some ⟨h.length, 0, none⟩)) (.agg #[(.int .i64 0), (.int .i64 0), (.int .i64 0), (.int .i64 0)]) h15 fun h17 =>
    ldN 4 (.pointer (some ⟨h.length, 0, none⟩)) h17 fun v18 =>
    fin2 h (.tuple #[v18, (.int .i64 21)])
  else
    ldN 4 (.pointer (some ⟨h9.length, 0, none⟩)) h15 fun v19 =>
    st md 4 (.pointer (some ⟨h.length, 0, none⟩)) v19 h15 fun h20 =>
    ldN 4 (.pointer (some ⟨h.length, 0, none⟩)) h20 fun v21 =>
    fin2 h (.tuple #[v21, (.int .i64 0)])
theorem F19_eq (rc : Rec) (md : Md) (a0 : Int) (h : Heap) : callStep Try.prog cfg rc md 19 [(.int .u64 a0)] h = F19 rc ⟨h.length, h.length⟩ a0 h := by kernel_rfl

/-- tombolo/tomboloref01.Parts -/
noncomputable def F22 (rc : Rec) (md : Md) (a0 : Int) (h : Heap) : Option (Value × Heap) :=
  let h1 : Heap := h ++ [.own [(.int .i64 0), (.int .i64 0), (.int .i64 0), (.int .i64 0)]]
  let h2 : Heap := h1 ++ [.own [(.int .i64 0), (.int .i64 0), (.int .i64 0), (.int .i64 0)]]
  st md 4 (.pointer (some ⟨h1.length, 0, none⟩)) (.agg #[(.int .i64 0), (.int .i64 (IntKind.wrap .i64 (Int.tmod a0 65536))), (.int .i64 0), (.int .i64 0)]) h2 fun h3 =>
  st md 1 (.pointer (some ⟨h1.length, 0, none⟩)) (.int .i64 (IntKind.wrap .i64 (Int.tmod (IntKind.wrap .u64 (Int.tdiv a0 65536)) 65536))) h3 fun h4 =>
  st md 1 (.pointer (some ⟨h1.length, 2, none⟩)) (.int .i64 (IntKind.wrap .i64 (Int.tmod (IntKind.wrap .u64 (Int.tdiv (IntKind.wrap .u64 (Int.tdiv a0 65536)) 65536)) 256))) h4 fun h5 =>
  st md 1 (.pointer (some ⟨h1.length, 3, none⟩)) (.int .i64 (IntKind.wrap .i64 (IntKind.wrap .u64 (Int.tdiv (IntKind.wrap .u64 (Int.tdiv (IntKind.wrap .u64 (Int.tdiv a0 65536)) 65536)) 256)))) h5 fun h6 =>
  ldN 4 (.pointer (some ⟨h1.length, 0, none⟩)) h6 fun v7 =>
  st md 4 (.pointer (some ⟨h.length, 0, none⟩)) v7 h6 fun h8 =>
  ldN 4 (.pointer (some ⟨h.length, 0, none⟩)) h8 fun v9 =>
  fin2 h v9
theorem F22_eq (rc : Rec) (md : Md) (a0 : Int) (h : Heap) : callStep Try.prog cfg rc md 22 [(.int .u64 a0)] h = F22 rc ⟨h.length, h.length⟩ a0 h := by kernel_rfl

/-- tombolo/word.State -/
noncomputable def F23 (rc : Rec) (md : Md) (a0 : Int) (a1 : Bool) (h : Heap) : Option (Value × Heap) :=
  cl (rc md 42 [(.int .i64 a0), (.int .i64 16777215)] h) fun v1 h2 =>
  cBn v1 fun b3 =>
  bif !b3 then
    some ((.tuple #[(.int .u64 0), (.int .i64 11)]), h)
  else
    bif a1 then
      some ((.tuple #[(.int .u64 (bOr .u64 (IntKind.wrap .u64 ((IntKind.wrap .u64 a0) * 2 ^ 1)) 1)), (.int .i64 0)]), h)
    else
      some ((.tuple #[(.int .u64 (IntKind.wrap .u64 ((IntKind.wrap .u64 a0) * 2 ^ 1))), (.int .i64 0)]), h)
theorem F23_eq (rc : Rec) (md : Md) (a0 : Int) (a1 : Bool) (h : Heap) : callStep Try.prog cfg rc md 23 [(.int .i64 a0), (.bool a1)] h = F23 rc ⟨h.length, h.length⟩ a0 a1 h := by kernel_rfl

/-- tombolo/word.Tag -/
noncomputable def F24 (rc : Rec) (md : Md) (a0 : Int) (h : Heap) : Option (Value × Heap) :=
  bif (decide ((Int.fdiv a0 (2 ^ 1)) > 16777215)) then
    some ((.tuple #[(.int .i64 0), (.bool false), (.int .i64 21)]), h)
  else
    some ((.tuple #[(.int .i64 (IntKind.wrap .i64 (Int.fdiv a0 (2 ^ 1)))), (.bool ((bAnd .u64 a0 1) == 1)), (.int .i64 0)]), h)
theorem F24_eq (rc : Rec) (md : Md) (a0 : Int) (h : Heap) : callStep Try.prog cfg rc md 24 [(.int .u64 a0)] h = F24 rc ⟨h.length, h.length⟩ a0 h := by kernel_rfl

/-- tombolo/tomboloref01.State -/
noncomputable def F25 (rc : Rec) (md : Md) (a0 : Int) (a1 : Bool) (h : Heap) : Option (Value × Heap) :=
  bif a1 then
    some ((.int .u64 (IntKind.wrap .u64 ((IntKind.wrap .u64 (2 * (IntKind.wrap .u64 a0))) + 1))), h)
  else
    some ((.int .u64 (IntKind.wrap .u64 (2 * (IntKind.wrap .u64 a0)))), h)
theorem F25_eq (rc : Rec) (md : Md) (a0 : Int) (a1 : Bool) (h : Heap) : callStep Try.prog cfg rc md 25 [(.int .i64 a0), (.bool a1)] h = F25 rc ⟨h.length, h.length⟩ a0 a1 h := by kernel_rfl

/-- tombolo/word.Means -/
noncomputable def F26 (rc : Rec) (md : Md) (a0_0 : Int) (a0_1 : Int) (a0_2 : Int) (a0_3 : Int) (a1 : Int) (a2 : Bool) (h : Heap) : Option (Value × Heap) :=
  let h1 : Heap := h ++ [.own [(.int .i64 a0_0), (.int .i64 a0_1), (.int .i64 a0_2), (.int .i64 a0_3)]]
  ldN 4 (.pointer (some ⟨h.length, 0, none⟩)) h1 fun v2 =>
  cl (rc md 21 [v2] h1) fun v3 h4 =>
  cBn v3 fun b5 =>
  (bif wantV (.bool b5) false then
  some ((.int .i64 a1), h4)
  else some (undef, h4)).bind fun p6 =>
  (bif wantV (.bool b5) false then
  some ((.pointer (some ⟨h.length, 3, none⟩)), p6.2)
  else some (undef, p6.2)).bind fun p7 =>
  (bif wantV (.bool b5) false then
  ld1 p7.1 p7.2 fun v8 =>
  cIn .i64 v8 fun n9 =>
  some ((.int .i64 n9), p7.2)
  else some (undef, p7.2)).bind fun p10 =>
  (bif wantV (.bool b5) false then
  aBin Try.prog .gtr 3 p6.1 p10.1 fun v11 =>
  some (v11, p10.2)
  else some (undef, p10.2)).bind fun p12 =>
  cBn (bif b5 then (.bool true) else p12.1) fun b13 =>
  (bif wantV (.bool b13) false then
  some ((.int .i64 a1), p12.2)
  else some (undef, p12.2)).bind fun p14 =>
  (bif wantV (.bool b13) false then
  some ((.pointer (some ⟨h.length, 3, none⟩)), p14.2)
  else some (undef, p14.2)).bind fun p15 =>
  (bif wantV (.bool b13) false then
  ld1 p15.1 p15.2 fun v16 =>
  cIn .i64 v16 fun n17 =>
  some ((.int .i64 n17), p15.2)
  else some (undef, p15.2)).bind fun p18 =>
  (bif wantV (.bool b13) false then
  aBin Try.prog .eql 3 p14.1 p18.1 fun v19 =>
  some (v19, p18.2)
  else some (undef, p18.2)).bind fun p20 =>
  (bif wantV (.bool b13) false then
  some (p20.1, p20.2)
  else some (undef, p20.2)).bind fun p21 =>
  (bif wantV p21.1 true then
  some ((.bool a2), p21.2)
  else some (undef, p21.2)).bind fun p22 =>
  (bif wantV (.bool b13) false then
  cBn p21.1 fun q23 =>
  cBn (bif q23 then p22.1 else (.bool false)) fun b24 =>
  some ((.bool b24), p22.2)
  else some (undef, p22.2)).bind fun p25 =>
  cBn (bif b13 then (.bool true) else p25.1) fun b26 =>
  bif b26 then
    ld1 (.pointer (some ⟨h.length, 1, none⟩)) p25.2 fun v27 =>
    cIn .i64 v27 fun n28 =>
    some ((.int .i64 n28), h)
  else
    ld1 (.pointer (some ⟨h.length, 0, none⟩)) p25.2 fun v29 =>
    cIn .i64 v29 fun n30 =>
    some ((.int .i64 n30), h)
theorem F26_eq (rc : Rec) (md : Md) (a0_0 : Int) (a0_1 : Int) (a0_2 : Int) (a0_3 : Int) (a1 : Int) (a2 : Bool) (h : Heap) : callStep Try.prog cfg rc md 26 [(.agg #[(.int .i64 a0_0), (.int .i64 a0_1), (.int .i64 a0_2), (.int .i64 a0_3)]), (.int .i64 a1), (.bool a2)] h = F26 rc ⟨h.length, h.length⟩ a0_0 a0_1 a0_2 a0_3 a1 a2 h := by kernel_rfl

/-- tombolo/tomboloref01.Means -/
noncomputable def F27 (rc : Rec) (md : Md) (a0 : Int) (a1 : Int) (h : Heap) : Option (Value × Heap) :=
  cl (rc md 22 [(.int .u64 a0)] h) fun v1 h2 =>
  let h3 : Heap := h2 ++ [.own [(.int .i64 0), (.int .i64 0), (.int .i64 0), (.int .i64 0)]]
  st md 4 (.pointer (some ⟨h2.length, 0, none⟩)) v1 h3 fun h4 =>
  ld1 (.pointer (some ⟨h2.length, 2, none⟩)) h4 fun v5 =>
  cIn .i64 v5 fun n6 =>
  (bif wantV (.bool (n6 == 0)) false then
  some ((.int .u64 a1), h4)
  else some (undef, h4)).bind fun p7 =>
  (bif wantV (.bool (n6 == 0)) false then
  aBin Try.prog .quo 24 p7.1 (.int .u64 2) fun v8 =>
  some (v8, p7.2)
  else some (undef, p7.2)).bind fun p9 =>
  (bif wantV (.bool (n6 == 0)) false then
  aConv Try.prog 24 3 p9.1 fun v10 =>
  some (v10, p9.2)
  else some (undef, p9.2)).bind fun p11 =>
  (bif wantV (.bool (n6 == 0)) false then
  some ((.pointer (some ⟨h2.length, 3, none⟩)), p11.2)
  else some (undef, p11.2)).bind fun p12 =>
  (bif wantV (.bool (n6 == 0)) false then
  ld1 p12.1 p12.2 fun v13 =>
  cIn .i64 v13 fun n14 =>
  some ((.int .i64 n14), p12.2)
  else some (undef, p12.2)).bind fun p15 =>
  (bif wantV (.bool (n6 == 0)) false then
  aBin Try.prog .gtr 3 p11.1 p15.1 fun v16 =>
  some (v16, p15.2)
  else some (undef, p15.2)).bind fun p17 =>
  cBn (bif (n6 == 0) then (.bool true) else p17.1) fun b18 =>
  (bif wantV (.bool b18) false then
  some ((.int .u64 a1), p17.2)
  else some (undef, p17.2)).bind fun p19 =>
  (bif wantV (.bool b18) false then
  aBin Try.prog .quo 24 p19.1 (.int .u64 2) fun v20 =>
  some (v20, p19.2)
  else some (undef, p19.2)).bind fun p21 =>
  (bif wantV (.bool b18) false then
  aConv Try.prog 24 3 p21.1 fun v22 =>
  some (v22, p21.2)
  else some (undef, p21.2)).bind fun p23 =>
  (bif wantV (.bool b18) false then
  some ((.pointer (some ⟨h2.length, 3, none⟩)), p23.2)
  else some (undef, p23.2)).bind fun p24 =>
  (bif wantV (.bool b18) false then
  ld1 p24.1 p24.2 fun v25 =>
  cIn .i64 v25 fun n26 =>
  some ((.int .i64 n26), p24.2)
  else some (undef, p24.2)).bind fun p27 =>
  (bif wantV (.bool b18) false then
  aBin Try.prog .eql 3 p23.1 p27.1 fun v28 =>
  some (v28, p27.2)
  else some (undef, p27.2)).bind fun p29 =>
  (bif wantV (.bool b18) false then
  some (p29.1, p29.2)
  else some (undef, p29.2)).bind fun p30 =>
  (bif wantV p30.1 true then
  some ((.int .u64 a1), p30.2)
  else some (undef, p30.2)).bind fun p31 =>
  (bif wantV p30.1 true then
  aBin Try.prog .rem 24 p31.1 (.int .u64 2) fun v32 =>
  some (v32, p31.2)
  else some (undef, p31.2)).bind fun p33 =>
  (bif wantV p30.1 true then
  aBin Try.prog .eql 24 p33.1 (.int .u64 1) fun v34 =>
  some (v34, p33.2)
  else some (undef, p33.2)).bind fun p35 =>
  (bif wantV (.bool b18) false then
  cBn p30.1 fun q36 =>
  cBn (bif q36 then p35.1 else (.bool false)) fun b37 =>
  some ((.bool b37), p35.2)
  else some (undef, p35.2)).bind fun p38 =>
  cBn (bif b18 then (.bool true) else p38.1) fun b39 =>
  bif b39 then
    ld1 (.pointer (some ⟨h2.length, 1, none⟩)) p38.2 fun v40 =>
    cIn .i64 v40 fun n41 =>
    some ((.int .i64 n41), h)
  else
    ld1 (.pointer (some ⟨h2.length, 0, none⟩)) p38.2 fun v42 =>
    cIn .i64 v42 fun n43 =>
    some ((.int .i64 n43), h)
theorem F27_eq (rc : Rec) (md : Md) (a0 : Int) (a1 : Int) (h : Heap) : callStep Try.prog cfg rc md 27 [(.int .u64 a0), (.int .u64 a1)] h = F27 rc ⟨h.length, h.length⟩ a0 a1 h := by kernel_rfl

/-- tombolo/word.Of -/
noncomputable def F28 (rc : Rec) (md : Md) (a0 : Int) (h : Heap) : Option (Value × Heap) :=
  let h1 : Heap := h ++ [.own [(.int .i64 0), (.int .i64 0), (.int .i64 0), (.int .i64 0)]]
  st md 4 (.pointer (some ⟨h.length, 0, none⟩)) (.agg #[(.int .i64 (if 65535 < (if 0 > a0 then 0 else a0) then 65535 else (if 0 > a0 then 0 else a0))), (.int .i64 (if 65535 < (if 0 > a0 then 0 else a0) then 65535 else (if 0 > a0 then 0 else a0))), (.int .i64 0), (.int .i64 0)]) h1 fun h2 =>
  ldN 4 (.pointer (some ⟨h.length, 0, none⟩)) h2 fun v3 =>
  fin2 h v3
theorem F28_eq (rc : Rec) (md : Md) (a0 : Int) (h : Heap) : callStep Try.prog cfg rc md 28 [(.int .i64 a0)] h = F28 rc ⟨h.length, h.length⟩ a0 h := by kernel_rfl

/-- tombolo/tomboloref01.Bits -/
noncomputable def F20 (rc : Rec) (md : Md) (a0_0 : Int) (a0_1 : Int) (a0_2 : Int) (a0_3 : Int) (h : Heap) : Option (Value × Heap) :=
  let h1 : Heap := h ++ [.own [(.int .i64 a0_0), (.int .i64 a0_1), (.int .i64 a0_2), (.int .i64 a0_3)]]
  ld1 (.pointer (some ⟨h.length, 3, none⟩)) h1 fun v2 =>
  cIn .i64 v2 fun n3 =>
  ld1 (.pointer (some ⟨h.length, 2, none⟩)) h1 fun v4 =>
  cIn .i64 v4 fun n5 =>
  ld1 (.pointer (some ⟨h.length, 0, none⟩)) h1 fun v6 =>
  cIn .i64 v6 fun n7 =>
  ld1 (.pointer (some ⟨h.length, 1, none⟩)) h1 fun v8 =>
  cIn .i64 v8 fun n9 =>
  some ((.int .u64 (IntKind.wrap .u64 ((IntKind.wrap .u64 ((IntKind.wrap .u64 ((IntKind.wrap .u64 ((IntKind.wrap .u64 ((IntKind.wrap .u64 ((IntKind.wrap .u64 n3) * 256)) + (IntKind.wrap .u64 n5))) * 65536)) + (IntKind.wrap .u64 n7))) * 65536)) + (IntKind.wrap .u64 n9)))), h)
theorem F20_eq (rc : Rec) (md : Md) (a0_0 : Int) (a0_1 : Int) (a0_2 : Int) (a0_3 : Int) (h : Heap) : callStep Try.prog cfg rc md 20 [(.agg #[(.int .i64 a0_0), (.int .i64 a0_1), (.int .i64 a0_2), (.int .i64 a0_3)])] h = F20 rc ⟨h.length, h.length⟩ a0_0 a0_1 a0_2 a0_3 h := by kernel_rfl

/-- tombolo/tomboloref01.Right -/
noncomputable def F15 (rc : Rec) (md : Md) (a0_0 : Int) (a0_1 : Int) (a0_2 : Int) (a0_3 : Int) (h : Heap) : Option (Value × Heap) :=
  let h1 : Heap := h ++ [.own [(.int .i64 a0_0), (.int .i64 a0_1), (.int .i64 a0_2), (.int .i64 a0_3)]]
  ld1 (.pointer (some ⟨h.length, 0, none⟩)) h1 fun v2 =>
  cIn .i64 v2 fun n3 =>
  (bif wantV (.bool (decide (n3 < 0))) false then
  some ((.pointer (some ⟨h.length, 0, none⟩)), h1)
  else some (undef, h1)).bind fun p4 =>
  (bif wantV (.bool (decide (n3 < 0))) false then
  ld1 p4.1 p4.2 fun v5 =>
  cIn .i64 v5 fun n6 =>
  some ((.int .i64 n6), p4.2)
  else some (undef, p4.2)).bind fun p7 =>
  (bif wantV (.bool (decide (n3 < 0))) false then
  aBin Try.prog .gtr 3 p7.1 (.int .i64 65535) fun v8 =>
  some (v8, p7.2)
  else some (undef, p7.2)).bind fun p9 =>
  cBn (bif (decide (n3 < 0)) then (.bool true) else p9.1) fun b10 =>
  (bif wantV (.bool b10) false then
  some ((.pointer (some ⟨h.length, 1, none⟩)), p9.2)
  else some (undef, p9.2)).bind fun p11 =>
  (bif wantV (.bool b10) false then
  ld1 p11.1 p11.2 fun v12 =>
  cIn .i64 v12 fun n13 =>
  some ((.int .i64 n13), p11.2)
  else some (undef, p11.2)).bind fun p14 =>
  (bif wantV (.bool b10) false then
  aBin Try.prog .lss 3 p14.1 (.int .i64 0) fun v15 =>
  some (v15, p14.2)
  else some (undef, p14.2)).bind fun p16 =>
  cBn (bif b10 then (.bool true) else p16.1) fun b17 =>
  (bif wantV (.bool b17) false then
  some ((.pointer (some ⟨h.length, 1, none⟩)), p16.2)
  else some (undef, p16.2)).bind fun p18 =>
  (bif wantV (.bool b17) false then
  ld1 p18.1 p18.2 fun v19 =>
  cIn .i64 v19 fun n20 =>
  some ((.int .i64 n20), p18.2)
  else some (undef, p18.2)).bind fun p21 =>
  (bif wantV (.bool b17) false then
  aBin Try.prog .gtr 3 p21.1 (.int .i64 65535) fun v22 =>
  some (v22, p21.2)
  else some (undef, p21.2)).bind fun p23 =>
  cBn (bif b17 then (.bool true) else p23.1) fun b24 =>
  (bif wantV (.bool b24) false then
  some ((.pointer (some ⟨h.length, 2, none⟩)), p23.2)
  else some (undef, p23.2)).bind fun p25 =>
  (bif wantV (.bool b24) false then
  ld1 p25.1 p25.2 fun v26 =>
  cIn .i64 v26 fun n27 =>
  some ((.int .i64 n27), p25.2)
  else some (undef, p25.2)).bind fun p28 =>
  (bif wantV (.bool b24) false then
  aBin Try.prog .lss 3 p28.1 (.int .i64 0) fun v29 =>
  some (v29, p28.2)
  else some (undef, p28.2)).bind fun p30 =>
  cBn (bif b24 then (.bool true) else p30.1) fun b31 =>
  (bif wantV (.bool b31) false then
  some ((.pointer (some ⟨h.length, 2, none⟩)), p30.2)
  else some (undef, p30.2)).bind fun p32 =>
  (bif wantV (.bool b31) false then
  ld1 p32.1 p32.2 fun v33 =>
  cIn .i64 v33 fun n34 =>
  some ((.int .i64 n34), p32.2)
  else some (undef, p32.2)).bind fun p35 =>
  (bif wantV (.bool b31) false then
  aBin Try.prog .gtr 3 p35.1 (.int .i64 8) fun v36 =>
  some (v36, p35.2)
  else some (undef, p35.2)).bind fun p37 =>
  cBn (bif b31 then (.bool true) else p37.1) fun b38 =>
  (bif wantV (.bool b38) false then
  some ((.pointer (some ⟨h.length, 3, none⟩)), p37.2)
  else some (undef, p37.2)).bind fun p39 =>
  (bif wantV (.bool b38) false then
  ld1 p39.1 p39.2 fun v40 =>
  cIn .i64 v40 fun n41 =>
  some ((.int .i64 n41), p39.2)
  else some (undef, p39.2)).bind fun p42 =>
  (bif wantV (.bool b38) false then
  aBin Try.prog .lss 3 p42.1 (.int .i64 0) fun v43 =>
  some (v43, p42.2)
  else some (undef, p42.2)).bind fun p44 =>
  cBn (bif b38 then (.bool true) else p44.1) fun b45 =>
  (bif wantV (.bool b45) false then
  some ((.pointer (some ⟨h.length, 3, none⟩)), p44.2)
  else some (undef, p44.2)).bind fun p46 =>
  (bif wantV (.bool b45) false then
  ld1 p46.1 p46.2 fun v47 =>
  cIn .i64 v47 fun n48 =>
  some ((.int .i64 n48), p46.2)
  else some (undef, p46.2)).bind fun p49 =>
  (bif wantV (.bool b45) false then
  aBin Try.prog .gtr 3 p49.1 (.int .i64 16777215) fun v50 =>
  some (v50, p49.2)
  else some (undef, p49.2)).bind fun p51 =>
  cBn (bif b45 then (.bool true) else p51.1) fun b52 =>
  bif b52 then
    some ((.bool false), h)
  else
    ld1 (.pointer (some ⟨h.length, 2, none⟩)) p51.2 fun v53 =>
    cIn .i64 v53 fun n54 =>
    (bif wantV (.bool (n54 != 0)) false then
    some ((.pointer (some ⟨h.length, 0, none⟩)), p51.2)
    else some (undef, p51.2)).bind fun p55 =>
    (bif wantV (.bool (n54 != 0)) false then
    ld1 p55.1 p55.2 fun v56 =>
    cIn .i64 v56 fun n57 =>
    some ((.int .i64 n57), p55.2)
    else some (undef, p55.2)).bind fun p58 =>
    (bif wantV (.bool (n54 != 0)) false then
    some ((.pointer (some ⟨h.length, 1, none⟩)), p58.2)
    else some (undef, p58.2)).bind fun p59 =>
    (bif wantV (.bool (n54 != 0)) false then
    ld1 p59.1 p59.2 fun v60 =>
    cIn .i64 v60 fun n61 =>
    some ((.int .i64 n61), p59.2)
    else some (undef, p59.2)).bind fun p62 =>
    (bif wantV (.bool (n54 != 0)) false then
    aBin Try.prog .eql 3 p58.1 p62.1 fun v63 =>
    some (v63, p62.2)
    else some (undef, p62.2)).bind fun p64 =>
    (bif wantV (.bool (n54 != 0)) false then
    some (p64.1, p64.2)
    else some (undef, p64.2)).bind fun p65 =>
    (bif wantV p65.1 true then
    some ((.pointer (some ⟨h.length, 3, none⟩)), p65.2)
    else some (undef, p65.2)).bind fun p66 =>
    (bif wantV p65.1 true then
    ld1 p66.1 p66.2 fun v67 =>
    cIn .i64 v67 fun n68 =>
    some ((.int .i64 n68), p66.2)
    else some (undef, p66.2)).bind fun p69 =>
    (bif wantV p65.1 true then
    aBin Try.prog .eql 3 p69.1 (.int .i64 0) fun v70 =>
    some (v70, p69.2)
    else some (undef, p69.2)).bind fun p71 =>
    (bif wantV (.bool (n54 != 0)) false then
    cBn p65.1 fun q72 =>
    cBn (bif q72 then p71.1 else (.bool false)) fun b73 =>
    some ((.bool b73), p71.2)
    else some (undef, p71.2)).bind fun p74 =>
    cBn (bif (n54 != 0) then (.bool true) else p74.1) fun b75 =>
    some ((.bool b75), h)
theorem F15_eq (rc : Rec) (md : Md) (a0_0 : Int) (a0_1 : Int) (a0_2 : Int) (a0_3 : Int) (h : Heap) : callStep Try.prog cfg rc md 15 [(.agg #[(.int .i64 a0_0), (.int .i64 a0_1), (.int .i64 a0_2), (.int .i64 a0_3)])] h = F15 rc ⟨h.length, h.length⟩ a0_0 a0_1 a0_2 a0_3 h := by kernel_rfl

/-- tombolo/tombololaw01.ref -/
noncomputable def F16 (rc : Rec) (md : Md) (a0_0 : Int) (a0_1 : Int) (a0_2 : Int) (a0_3 : Int) (h : Heap) : Option (Value × Heap) :=
  let h1 : Heap := h ++ [.own [(.int .i64 a0_0), (.int .i64 a0_1), (.int .i64 a0_2), (.int .i64 a0_3)]]
  let h2 : Heap := h1 ++ [.own [(.int .i64 0), (.int .i64 0), (.int .i64 0), (.int .i64 0)]]
  ld1 (.pointer (some ⟨h.length, 0, none⟩)) h2 fun v3 =>
  cIn .i64 v3 fun n4 =>
  ld1 (.pointer (some ⟨h.length, 1, none⟩)) h2 fun v5 =>
  cIn .i64 v5 fun n6 =>
  ld1 (.pointer (some ⟨h.length, 2, none⟩)) h2 fun v7 =>
  cIn .i64 v7 fun n8 =>
  ld1 (.pointer (some ⟨h.length, 3, none⟩)) h2 fun v9 =>
  cIn .i64 v9 fun n10 =>
  st md 4 (.pointer (some ⟨h1.length, 0, none⟩)) (.agg #[(.int .i64 n4), (.int .i64 n6), (.int .i64 n8), (.int .i64 n10)]) h2 fun h11 =>
  ldN 4 (.pointer (some ⟨h1.length, 0, none⟩)) h11 fun v12 =>
  fin2 h v12
theorem F16_eq (rc : Rec) (md : Md) (a0_0 : Int) (a0_1 : Int) (a0_2 : Int) (a0_3 : Int) (h : Heap) : callStep Try.prog cfg rc md 16 [(.agg #[(.int .i64 a0_0), (.int .i64 a0_1), (.int .i64 a0_2), (.int .i64 a0_3)])] h = F16 rc ⟨h.length, h.length⟩ a0_0 a0_1 a0_2 a0_3 h := by kernel_rfl

/-- tombolo/tomboloref01.Plain -/
noncomputable def F29 (rc : Rec) (md : Md) (a0 : Int) (h : Heap) : Option (Value × Heap) :=
  some ((.int .u64 (IntKind.wrap .u64 ((IntKind.wrap .u64 a0) * 65537))), h)
theorem F29_eq (rc : Rec) (md : Md) (a0 : Int) (h : Heap) : callStep Try.prog cfg rc md 29 [(.int .i64 a0)] h = F29 rc ⟨h.length, h.length⟩ a0 h := by kernel_rfl

/-- tombolo/tombololaw01.awake -/
noncomputable def F18 (rc : Rec) (md : Md)  (h : Heap) : Option (Value × Heap) :=
  let h1 : Heap := h ++ [.own [(.int .i64 0), (.int .i64 0), (.int .i64 0), (.int .i64 0)]]
  st md 4 (.pointer (some ⟨h.length, 0, none⟩)) (.agg #[(.int .i64 3), (.int .i64 5), (.int .i64 1), (.int .i64 7)]) h1 fun h2 =>
  ldN 4 (.pointer (some ⟨h.length, 0, none⟩)) h2 fun v3 =>
  cl (rc md 14 [v3] h2) fun v4 h5 =>
  exT v4 0 fun v6 =>
  cIn .u64 v6 fun n7 =>
  exT v4 1 fun v8 =>
  cIn .i64 v8 fun n9 =>
  cl (rc md 19 [(.int .u64 n7)] h5) fun v10 h11 =>
  exT v10 0 fun v12 =>
  exT v10 1 fun v13 =>
  cIn .i64 v13 fun n14 =>
  let h15 : Heap := h11 ++ [.own [(.int .i64 0), (.int .i64 0), (.int .i64 0), (.int .i64 0)]]
  st md 4 (.pointer (some ⟨h11.length, 0, none⟩)) v12 h15 fun h16 =>
  cl (rc md 19 [(.int .u64 1)] h16) fun v17 h18 =>
  exT v17 0 fun v19 =>
  exT v17 1 fun v20 =>
  cIn .i64 v20 fun n21 =>
  let h22 : Heap := h18 ++ [.own [(.int .i64 0), (.int .i64 0), (.int .i64 0), (.int .i64 0)]]
  st md 4 (.pointer (some ⟨h18.length, 0, none⟩)) v19 h22 fun h23 =>
  cl (rc md 23 [(.int .i64 7), (.bool true)] h23) fun v24 h25 =>
  exT v24 0 fun v26 =>
  cIn .u64 v26 fun n27 =>
  exT v24 1 fun v28 =>
  cIn .i64 v28 fun n29 =>
  cl (rc md 24 [(.int .u64 n27)] h25) fun v30 h31 =>
  exT v30 0 fun v32 =>
  cIn .i64 v32 fun n33 =>
  exT v30 1 fun v34 =>
  cBn v34 fun b35 =>
  exT v30 2 fun v36 =>
  cIn .i64 v36 fun n37 =>
  cl (rc md 23 [(.int .i64 (-1)), (.bool false)] h31) fun v38 h39 =>
  exT v38 0 fun v40 =>
  cIn .u64 v40 fun n41 =>
  exT v38 1 fun v42 =>
  cIn .i64 v42 fun n43 =>
  (bif wantV (.bool (n9 == 0)) true then
  ldN 4 (.pointer (some ⟨h11.length, 0, none⟩)) h39 fun v44 =>
  some (v44, h39)
  else some (undef, h39)).bind fun p45 =>
  (bif wantV (.bool (n9 == 0)) true then
  ldN 4 (.pointer (some ⟨h.length, 0, none⟩)) p45.2 fun v46 =>
  some (v46, p45.2)
  else some (undef, p45.2)).bind fun p47 =>
  (bif wantV (.bool (n9 == 0)) true then
  aBin Try.prog .eql 23 p45.1 p47.1 fun v48 =>
  some (v48, p47.2)
  else some (undef, p47.2)).bind fun p49 =>
  cBn (bif (n9 == 0) then p49.1 else (.bool false)) fun b50 =>
  (bif wantV (.bool b50) true then
  some ((.int .i64 n14), p49.2)
  else some (undef, p49.2)).bind fun p51 =>
  (bif wantV (.bool b50) true then
  aBin Try.prog .eql 25 p51.1 (.int .i64 0) fun v52 =>
  some (v52, p51.2)
  else some (undef, p51.2)).bind fun p53 =>
  cBn (bif b50 then p53.1 else (.bool false)) fun b54 =>
  (bif wantV (.bool b54) true then
  some ((.int .i64 n21), p53.2)
  else some (undef, p53.2)).bind fun p55 =>
  (bif wantV (.bool b54) true then
  aBin Try.prog .eql 25 p55.1 (.int .i64 21) fun v56 =>
  some (v56, p55.2)
  else some (undef, p55.2)).bind fun p57 =>
  cBn (bif b54 then p57.1 else (.bool false)) fun b58 =>
  (bif wantV (.bool b58) true then
  some ((.int .u64 n27), p57.2)
  else some (undef, p57.2)).bind fun p59 =>
  (bif wantV (.bool b58) true then
  aBin Try.prog .eql 24 p59.1 (.int .u64 15) fun v60 =>
  some (v60, p59.2)
  else some (undef, p59.2)).bind fun p61 =>
  cBn (bif b58 then p61.1 else (.bool false)) fun b62 =>
  (bif wantV (.bool b62) true then
  some ((.int .i64 n29), p61.2)
  else some (undef, p61.2)).bind fun p63 =>
  (bif wantV (.bool b62) true then
  aBin Try.prog .eql 25 p63.1 (.int .i64 0) fun v64 =>
  some (v64, p63.2)
  else some (undef, p63.2)).bind fun p65 =>
  cBn (bif b62 then p65.1 else (.bool false)) fun b66 =>
  (bif wantV (.bool b66) true then
  some ((.int .i64 n33), p65.2)
  else some (undef, p65.2)).bind fun p67 =>
  (bif wantV (.bool b66) true then
  aBin Try.prog .eql 3 p67.1 (.int .i64 7) fun v68 =>
  some (v68, p67.2)
  else some (undef, p67.2)).bind fun p69 =>
  cBn (bif b66 then p69.1 else (.bool false)) fun b70 =>
  (bif wantV (.bool b70) true then
  some ((.bool b35), p69.2)
  else some (undef, p69.2)).bind fun p71 =>
  cBn (bif b70 then p71.1 else (.bool false)) fun b72 =>
  (bif wantV (.bool b72) true then
  some ((.int .i64 n37), p71.2)
  else some (undef, p71.2)).bind fun p73 =>
  (bif wantV (.bool b72) true then
  aBin Try.prog .eql 25 p73.1 (.int .i64 0) fun v74 =>
  some (v74, p73.2)
  else some (undef, p73.2)).bind fun p75 =>
  cBn (bif b72 then p75.1 else (.bool false)) fun b76 =>
  (bif wantV (.bool b76) true then
  some ((.int .i64 n43), p75.2)
  else some (undef, p75.2)).bind fun p77 =>
  (bif wantV (.bool b76) true then
  aBin Try.prog .eql 25 p77.1 (.int .i64 11) fun v78 =>
  some (v78, p77.2)
  else some (undef, p77.2)).bind fun p79 =>
  cBn (bif b76 then p79.1 else (.bool false)) fun b80 =>
  (bif wantV (.bool b80) true then
  ldN 4 (.pointer (some ⟨h.length, 0, none⟩)) p79.2 fun v81 =>
  some (v81, p79.2)
  else some (undef, p79.2)).bind fun p82 =>
  (bif wantV (.bool b80) true then
  cl (rc md 26 [p82.1, (.int .i64 7), (.bool false)] p82.2) fun v83 h84 =>
  cIn .i64 v83 fun n85 =>
  some ((.int .i64 n85), h84)
  else some (undef, p82.2)).bind fun p86 =>
  (bif wantV (.bool b80) true then
  aBin Try.prog .eql 3 p86.1 (.int .i64 3) fun v87 =>
  some (v87, p86.2)
  else some (undef, p86.2)).bind fun p88 =>
  cBn (bif b80 then p88.1 else (.bool false)) fun b89 =>
  (bif wantV (.bool b89) true then
  ldN 4 (.pointer (some ⟨h.length, 0, none⟩)) p88.2 fun v90 =>
  some (v90, p88.2)
  else some (undef, p88.2)).bind fun p91 =>
  (bif wantV (.bool b89) true then
  cl (rc md 26 [p91.1, (.int .i64 8), (.bool false)] p91.2) fun v92 h93 =>
  cIn .i64 v92 fun n94 =>
  some ((.int .i64 n94), h93)
  else some (undef, p91.2)).bind fun p95 =>
  (bif wantV (.bool b89) true then
  aBin Try.prog .eql 3 p95.1 (.int .i64 5) fun v96 =>
  some (v96, p95.2)
  else some (undef, p95.2)).bind fun p97 =>
  cBn (bif b89 then p97.1 else (.bool false)) fun b98 =>
  (bif wantV (.bool b98) true then
  cl (rc md 28 [(.int .i64 3)] p97.2) fun v99 h100 =>
  some (v99, h100)
  else some (undef, p97.2)).bind fun p101 =>
  (bif wantV (.bool b98) true then
  cl (rc md 21 [p101.1] p101.2) fun v102 h103 =>
  cBn v102 fun b104 =>
  some ((.bool b104), h103)
  else some (undef, p101.2)).bind fun p105 =>
  cBn (bif b98 then p105.1 else (.bool false)) fun b106 =>
  (bif wantV (.bool b106) true then
  ldN 4 (.pointer (some ⟨h.length, 0, none⟩)) p105.2 fun v107 =>
  some (v107, p105.2)
  else some (undef, p105.2)).bind fun p108 =>
  (bif wantV (.bool b106) true then
  cl (rc md 17 [p108.1] p108.2) fun v109 h110 =>
  cBn v109 fun b111 =>
  some ((.bool b111), h110)
  else some (undef, p108.2)).bind fun p112 =>
  cBn (bif b106 then p112.1 else (.bool false)) fun b113 =>
  some ((.bool b113), h)
theorem F18_eq (rc : Rec) (md : Md)  (h : Heap) : callStep Try.prog cfg rc md 18 [] h = F18 rc ⟨h.length, h.length⟩  h := by kernel_rfl

/-- tombolo/tombololaw01.WordPacks -/
noncomputable def F3 (rc : Rec) (md : Md) (a0_0 : Int) (a0_1 : Int) (a0_2 : Int) (a0_3 : Int) (h : Heap) : Option (Value × Heap) :=
  let h1 : Heap := h ++ [.own [(.int .i64 a0_0), (.int .i64 a0_1), (.int .i64 a0_2), (.int .i64 a0_3)]]
  ldN 4 (.pointer (some ⟨h.length, 0, none⟩)) h1 fun v2 =>
  cl (rc md 14 [v2] h1) fun v3 h4 =>
  exT v3 0 fun v5 =>
  cIn .u64 v5 fun n6 =>
  exT v3 1 fun v7 =>
  cIn .i64 v7 fun n8 =>
  ldN 4 (.pointer (some ⟨h.length, 0, none⟩)) h4 fun v9 =>
  cl (rc md 16 [v9] h4) fun v10 h11 =>
  cl (rc md 15 [v10] h11) fun v12 h13 =>
  cBn v12 fun b14 =>
  ldN 4 (.pointer (some ⟨h.length, 0, none⟩)) h13 fun v15 =>
  cl (rc md 17 [v15] h13) fun v16 h17 =>
  cBn v16 fun b18 =>
  aBin Try.prog .neq 4 (.bool b18) (.bool b14) fun v19 =>
  cBn v19 fun b20 =>
  bif b20 then
    some ((.bool false), h)
  else
    bif !b14 then
      (bif wantV (.bool (n8 == 11)) true then
      some ((.int .u64 n6), h17)
      else some (undef, h17)).bind fun p21 =>
      (bif wantV (.bool (n8 == 11)) true then
      aBin Try.prog .eql 24 p21.1 (.int .u64 0) fun v22 =>
      some (v22, p21.2)
      else some (undef, p21.2)).bind fun p23 =>
      cBn (bif (n8 == 11) then p23.1 else (.bool false)) fun b24 =>
      (bif wantV (.bool b24) true then
      cl (rc md 18 [] p23.2) fun v25 h26 =>
      cBn v25 fun b27 =>
      some ((.bool b27), h26)
      else some (undef, p23.2)).bind fun p28 =>
      cBn (bif b24 then p28.1 else (.bool false)) fun b29 =>
      some ((.bool b29), h)
    else
      cl (rc md 19 [(.int .u64 n6)] h17) fun v30 h31 =>
      exT v30 0 fun v32 =>
      exT v30 1 fun v33 =>
      cIn .i64 v33 fun n34 =>
      let h35 : Heap := h31 ++ [.own [(.int .i64 0), (.int .i64 0), (.int .i64 0), (.int .i64 0)]]
      st md 4 (.pointer (some ⟨h31.length, 0, none⟩)) v32 h35 fun h36 =>
      (bif wantV (.bool (n8 == 0)) true then
      some ((.int .u64 n6), h36)
      else some (undef, h36)).bind fun p37 =>
      (bif wantV (.bool (n8 == 0)) true then
      ldN 4 (.pointer (some ⟨h.length, 0, none⟩)) p37.2 fun v38 =>
      some (v38, p37.2)
      else some (undef, p37.2)).bind fun p39 =>
      (bif wantV (.bool (n8 == 0)) true then
      cl (rc md 16 [p39.1] p39.2) fun v40 h41 =>
      some (v40, h41)
      else some (undef, p39.2)).bind fun p42 =>
      (bif wantV (.bool (n8 == 0)) true then
      cl (rc md 20 [p42.1] p42.2) fun v43 h44 =>
      cIn .u64 v43 fun n45 =>
      some ((.int .u64 n45), h44)
      else some (undef, p42.2)).bind fun p46 =>
      (bif wantV (.bool (n8 == 0)) true then
      aBin Try.prog .eql 24 p37.1 p46.1 fun v47 =>
      some (v47, p46.2)
      else some (undef, p46.2)).bind fun p48 =>
      cBn (bif (n8 == 0) then p48.1 else (.bool false)) fun b49 =>
      (bif wantV (.bool b49) true then
      some ((.int .i64 n34), p48.2)
      else some (undef, p48.2)).bind fun p50 =>
      (bif wantV (.bool b49) true then
      aBin Try.prog .eql 25 p50.1 (.int .i64 0) fun v51 =>
      some (v51, p50.2)
      else some (undef, p50.2)).bind fun p52 =>
      cBn (bif b49 then p52.1 else (.bool false)) fun b53 =>
      (bif wantV (.bool b53) true then
      ldN 4 (.pointer (some ⟨h31.length, 0, none⟩)) p52.2 fun v54 =>
      some (v54, p52.2)
      else some (undef, p52.2)).bind fun p55 =>
      (bif wantV (.bool b53) true then
      ldN 4 (.pointer (some ⟨h.length, 0, none⟩)) p55.2 fun v56 =>
      some (v56, p55.2)
      else some (undef, p55.2)).bind fun p57 =>
      (bif wantV (.bool b53) true then
      aBin Try.prog .eql 23 p55.1 p57.1 fun v58 =>
      some (v58, p57.2)
      else some (undef, p57.2)).bind fun p59 =>
      cBn (bif b53 then p59.1 else (.bool false)) fun b60 =>
      (bif wantV (.bool b60) true then
      ldN 4 (.pointer (some ⟨h.length, 0, none⟩)) p59.2 fun v61 =>
      some (v61, p59.2)
      else some (undef, p59.2)).bind fun p62 =>
      (bif wantV (.bool b60) true then
      cl (rc md 21 [p62.1] p62.2) fun v63 h64 =>
      cBn v63 fun b65 =>
      some ((.bool b65), h64)
      else some (undef, p62.2)).bind fun p66 =>
      (bif wantV (.bool b60) true then
      some ((.pointer (some ⟨h.length, 2, none⟩)), p66.2)
      else some (undef, p66.2)).bind fun p67 =>
      (bif wantV (.bool b60) true then
      ld1 p67.1 p67.2 fun v68 =>
      cIn .i64 v68 fun n69 =>
      some ((.int .i64 n69), p67.2)
      else some (undef, p67.2)).bind fun p70 =>
      (bif wantV (.bool b60) true then
      aBin Try.prog .eql 3 p70.1 (.int .i64 0) fun v71 =>
      some (v71, p70.2)
      else some (undef, p70.2)).bind fun p72 =>
      (bif wantV (.bool b60) true then
      aBin Try.prog .eql 4 p66.1 p72.1 fun v73 =>
      some (v73, p72.2)
      else some (undef, p72.2)).bind fun p74 =>
      cBn (bif b60 then p74.1 else (.bool false)) fun b75 =>
      (bif wantV (.bool b75) true then
      cl (rc md 18 [] p74.2) fun v76 h77 =>
      cBn v76 fun b78 =>
      some ((.bool b78), h77)
      else some (undef, p74.2)).bind fun p79 =>
      cBn (bif b75 then p79.1 else (.bool false)) fun b80 =>
      some ((.bool b80), h)
theorem F3_eq (rc : Rec) (md : Md) (a0_0 : Int) (a0_1 : Int) (a0_2 : Int) (a0_3 : Int) (h : Heap) : callStep Try.prog cfg rc md 3 [(.agg #[(.int .i64 a0_0), (.int .i64 a0_1), (.int .i64 a0_2), (.int .i64 a0_3)])] h = F3 rc ⟨h.length, h.length⟩ a0_0 a0_1 a0_2 a0_3 h := by kernel_rfl

/-- tombolo/tombololaw01.WordUnpacks -/
noncomputable def F4 (rc : Rec) (md : Md) (a0 : Int) (h : Heap) : Option (Value × Heap) :=
  cl (rc md 19 [(.int .u64 a0)] h) fun v1 h2 =>
  exT v1 0 fun v3 =>
  exT v1 1 fun v4 =>
  cIn .i64 v4 fun n5 =>
  let h6 : Heap := h2 ++ [.own [(.int .i64 0), (.int .i64 0), (.int .i64 0), (.int .i64 0)]]
  st md 4 (.pointer (some ⟨h2.length, 0, none⟩)) v3 h6 fun h7 =>
  cl (rc md 22 [(.int .u64 a0)] h7) fun v8 h9 =>
  let h10 : Heap := h9 ++ [.own [(.int .i64 0), (.int .i64 0), (.int .i64 0), (.int .i64 0)]]
  st md 4 (.pointer (some ⟨h9.length, 0, none⟩)) v8 h10 fun h11 =>
  ldN 4 (.pointer (some ⟨h9.length, 0, none⟩)) h11 fun v12 =>
  cl (rc md 15 [v12] h11) fun v13 h14 =>
  cBn v13 fun b15 =>
  bif !b15 then
    (bif wantV (.bool (n5 == 21)) true then
    ldN 4 (.pointer (some ⟨h2.length, 0, none⟩)) h14 fun v16 =>
    some (v16, h14)
    else some (undef, h14)).bind fun p17 =>
    (bif wantV (.bool (n5 == 21)) true then
    some ((.agg #[(.int .i64 0), (.int .i64 0), (.int .i64 0), (.int .i64 0)]), p17.2)
    else some (undef, p17.2)).bind fun p18 =>
    (bif wantV (.bool (n5 == 21)) true then
    aBin Try.prog .eql 23 p17.1 p18.1 fun v19 =>
    some (v19, p18.2)
    else some (undef, p18.2)).bind fun p20 =>
    cBn (bif (n5 == 21) then p20.1 else (.bool false)) fun b21 =>
    (bif wantV (.bool b21) true then
    cl (rc md 18 [] p20.2) fun v22 h23 =>
    cBn v22 fun b24 =>
    some ((.bool b24), h23)
    else some (undef, p20.2)).bind fun p25 =>
    cBn (bif b21 then p25.1 else (.bool false)) fun b26 =>
    some ((.bool b26), h)
  else
    ldN 4 (.pointer (some ⟨h2.length, 0, none⟩)) h14 fun v27 =>
    cl (rc md 14 [v27] h14) fun v28 h29 =>
    exT v28 0 fun v30 =>
    cIn .u64 v30 fun n31 =>
    exT v28 1 fun v32 =>
    cIn .i64 v32 fun n33 =>
    (bif wantV (.bool (n5 == 0)) true then
    ldN 4 (.pointer (some ⟨h2.length, 0, none⟩)) h29 fun v34 =>
    some (v34, h29)
    else some (undef, h29)).bind fun p35 =>
    (bif wantV (.bool (n5 == 0)) true then
    cl (rc md 16 [p35.1] p35.2) fun v36 h37 =>
    some (v36, h37)
    else some (undef, p35.2)).bind fun p38 =>
    (bif wantV (.bool (n5 == 0)) true then
    ldN 4 (.pointer (some ⟨h9.length, 0, none⟩)) p38.2 fun v39 =>
    some (v39, p38.2)
    else some (undef, p38.2)).bind fun p40 =>
    (bif wantV (.bool (n5 == 0)) true then
    aBin Try.prog .eql 29 p38.1 p40.1 fun v41 =>
    some (v41, p40.2)
    else some (undef, p40.2)).bind fun p42 =>
    cBn (bif (n5 == 0) then p42.1 else (.bool false)) fun b43 =>
    (bif wantV (.bool b43) true then
    some ((.int .i64 n33), p42.2)
    else some (undef, p42.2)).bind fun p44 =>
    (bif wantV (.bool b43) true then
    aBin Try.prog .eql 25 p44.1 (.int .i64 0) fun v45 =>
    some (v45, p44.2)
    else some (undef, p44.2)).bind fun p46 =>
    cBn (bif b43 then p46.1 else (.bool false)) fun b47 =>
    (bif wantV (.bool b47) true then
    some ((.int .u64 n31), p46.2)
    else some (undef, p46.2)).bind fun p48 =>
    (bif wantV (.bool b47) true then
    some ((.int .u64 a0), p48.2)
    else some (undef, p48.2)).bind fun p49 =>
    (bif wantV (.bool b47) true then
    aBin Try.prog .eql 24 p48.1 p49.1 fun v50 =>
    some (v50, p49.2)
    else some (undef, p49.2)).bind fun p51 =>
    cBn (bif b47 then p51.1 else (.bool false)) fun b52 =>
    (bif wantV (.bool b52) true then
    cl (rc md 18 [] p51.2) fun v53 h54 =>
    cBn v53 fun b55 =>
    some ((.bool b55), h54)
    else some (undef, p51.2)).bind fun p56 =>
    cBn (bif b52 then p56.1 else (.bool false)) fun b57 =>
    some ((.bool b57), h)
theorem F4_eq (rc : Rec) (md : Md) (a0 : Int) (h : Heap) : callStep Try.prog cfg rc md 4 [(.int .u64 a0)] h = F4 rc ⟨h.length, h.length⟩ a0 h := by kernel_rfl

/-- tombolo/tombololaw01.WordStates -/
noncomputable def F5 (rc : Rec) (md : Md) (a0 : Int) (a1 : Bool) (a2 : Int) (h : Heap) : Option (Value × Heap) :=
  cl (rc md 23 [(.int .i64 a0), (.bool a1)] h) fun v1 h2 =>
  exT v1 0 fun v3 =>
  cIn .u64 v3 fun n4 =>
  exT v1 1 fun v5 =>
  cIn .i64 v5 fun n6 =>
  (bif wantV (.bool (decide (a0 < 0))) false then
  some ((.int .i64 a0), h2)
  else some (undef, h2)).bind fun p7 =>
  (bif wantV (.bool (decide (a0 < 0))) false then
  aBin Try.prog .gtr 3 p7.1 (.int .i64 16777215) fun v8 =>
  some (v8, p7.2)
  else some (undef, p7.2)).bind fun p9 =>
  cBn (bif (decide (a0 < 0)) then (.bool true) else p9.1) fun b10 =>
  bif b10 then
    (bif wantV (.bool (n6 != 11)) false then
    some ((.int .u64 n4), p9.2)
    else some (undef, p9.2)).bind fun p11 =>
    (bif wantV (.bool (n6 != 11)) false then
    aBin Try.prog .neq 24 p11.1 (.int .u64 0) fun v12 =>
    some (v12, p11.2)
    else some (undef, p11.2)).bind fun p13 =>
    cBn (bif (n6 != 11) then (.bool true) else p13.1) fun b14 =>
    bif b14 then
      some ((.bool false), h)
    else
      cl (rc md 24 [(.int .u64 a2)] p13.2) fun v15 h16 =>
      exT v15 0 fun v17 =>
      cIn .i64 v17 fun n18 =>
      exT v15 1 fun v19 =>
      cBn v19 fun b20 =>
      exT v15 2 fun v21 =>
      cIn .i64 v21 fun n22 =>
      bif (decide (a2 ≥ 33554432)) then
        (bif wantV (.bool (n22 == 21)) true then
        some ((.int .i64 n18), h16)
        else some (undef, h16)).bind fun p23 =>
        (bif wantV (.bool (n22 == 21)) true then
        aBin Try.prog .eql 3 p23.1 (.int .i64 0) fun v24 =>
        some (v24, p23.2)
        else some (undef, p23.2)).bind fun p25 =>
        cBn (bif (n22 == 21) then p25.1 else (.bool false)) fun b26 =>
        (bif wantV (.bool b26) true then
        some ((.bool b20), p25.2)
        else some (undef, p25.2)).bind fun p27 =>
        (bif wantV (.bool b26) true then
        aUn .not p27.1 fun v28 =>
        some (v28, p27.2)
        else some (undef, p27.2)).bind fun p29 =>
        cBn (bif b26 then p29.1 else (.bool false)) fun b30 =>
        (bif wantV (.bool b30) true then
        cl (rc md 18 [] p29.2) fun v31 h32 =>
        cBn v31 fun b33 =>
        some ((.bool b33), h32)
        else some (undef, p29.2)).bind fun p34 =>
        cBn (bif b30 then p34.1 else (.bool false)) fun b35 =>
        some ((.bool b35), h)
      else
        (bif wantV (.bool (n22 == 0)) true then
        some ((.int .i64 n18), h16)
        else some (undef, h16)).bind fun p36 =>
        (bif wantV (.bool (n22 == 0)) true then
        some ((.bool b20), p36.2)
        else some (undef, p36.2)).bind fun p37 =>
        (bif wantV (.bool (n22 == 0)) true then
        cl (rc md 25 [p36.1, p37.1] p37.2) fun v38 h39 =>
        cIn .u64 v38 fun n40 =>
        some ((.int .u64 n40), h39)
        else some (undef, p37.2)).bind fun p41 =>
        (bif wantV (.bool (n22 == 0)) true then
        some ((.int .u64 a2), p41.2)
        else some (undef, p41.2)).bind fun p42 =>
        (bif wantV (.bool (n22 == 0)) true then
        aBin Try.prog .eql 24 p41.1 p42.1 fun v43 =>
        some (v43, p42.2)
        else some (undef, p42.2)).bind fun p44 =>
        cBn (bif (n22 == 0) then p44.1 else (.bool false)) fun b45 =>
        (bif wantV (.bool b45) true then
        cl (rc md 18 [] p44.2) fun v46 h47 =>
        cBn v46 fun b48 =>
        some ((.bool b48), h47)
        else some (undef, p44.2)).bind fun p49 =>
        cBn (bif b45 then p49.1 else (.bool false)) fun b50 =>
        some ((.bool b50), h)
  else
    cl (rc md 24 [(.int .u64 n4)] p9.2) fun v51 h52 =>
    exT v51 0 fun v53 =>
    cIn .i64 v53 fun n54 =>
    exT v51 1 fun v55 =>
    cBn v55 fun b56 =>
    exT v51 2 fun v57 =>
    cIn .i64 v57 fun n58 =>
    (bif wantV (.bool (n6 != 0)) false then
    some ((.int .u64 n4), h52)
    else some (undef, h52)).bind fun p59 =>
    (bif wantV (.bool (n6 != 0)) false then
    some ((.int .i64 a0), p59.2)
    else some (undef, p59.2)).bind fun p60 =>
    (bif wantV (.bool (n6 != 0)) false then
    some ((.bool a1), p60.2)
    else some (undef, p60.2)).bind fun p61 =>
    (bif wantV (.bool (n6 != 0)) false then
    cl (rc md 25 [p60.1, p61.1] p61.2) fun v62 h63 =>
    cIn .u64 v62 fun n64 =>
    some ((.int .u64 n64), h63)
    else some (undef, p61.2)).bind fun p65 =>
    (bif wantV (.bool (n6 != 0)) false then
    aBin Try.prog .neq 24 p59.1 p65.1 fun v66 =>
    some (v66, p65.2)
    else some (undef, p65.2)).bind fun p67 =>
    cBn (bif (n6 != 0) then (.bool true) else p67.1) fun b68 =>
    (bif wantV (.bool b68) false then
    some ((.int .i64 n54), p67.2)
    else some (undef, p67.2)).bind fun p69 =>
    (bif wantV (.bool b68) false then
    some ((.int .i64 a0), p69.2)
    else some (undef, p69.2)).bind fun p70 =>
    (bif wantV (.bool b68) false then
    aBin Try.prog .neq 3 p69.1 p70.1 fun v71 =>
    some (v71, p70.2)
    else some (undef, p70.2)).bind fun p72 =>
    cBn (bif b68 then (.bool true) else p72.1) fun b73 =>
    (bif wantV (.bool b73) false then
    some ((.bool b56), p72.2)
    else some (undef, p72.2)).bind fun p74 =>
    (bif wantV (.bool b73) false then
    some ((.bool a1), p74.2)
    else some (undef, p74.2)).bind fun p75 =>
    (bif wantV (.bool b73) false then
    aBin Try.prog .neq 4 p74.1 p75.1 fun v76 =>
    some (v76, p75.2)
    else some (undef, p75.2)).bind fun p77 =>
    cBn (bif b73 then (.bool true) else p77.1) fun b78 =>
    (bif wantV (.bool b78) false then
    some ((.int .i64 n58), p77.2)
    else some (undef, p77.2)).bind fun p79 =>
    (bif wantV (.bool b78) false then
    aBin Try.prog .neq 25 p79.1 (.int .i64 0) fun v80 =>
    some (v80, p79.2)
    else some (undef, p79.2)).bind fun p81 =>
    cBn (bif b78 then (.bool true) else p81.1) fun b82 =>
    bif b82 then
      some ((.bool false), h)
    else
      cl (rc md 24 [(.int .u64 a2)] p81.2) fun v83 h84 =>
      exT v83 0 fun v85 =>
      cIn .i64 v85 fun n86 =>
      exT v83 1 fun v87 =>
      cBn v87 fun b88 =>
      exT v83 2 fun v89 =>
      cIn .i64 v89 fun n90 =>
      bif (decide (a2 ≥ 33554432)) then
        (bif wantV (.bool (n90 == 21)) true then
        some ((.int .i64 n86), h84)
        else some (undef, h84)).bind fun p91 =>
        (bif wantV (.bool (n90 == 21)) true then
        aBin Try.prog .eql 3 p91.1 (.int .i64 0) fun v92 =>
        some (v92, p91.2)
        else some (undef, p91.2)).bind fun p93 =>
        cBn (bif (n90 == 21) then p93.1 else (.bool false)) fun b94 =>
        (bif wantV (.bool b94) true then
        some ((.bool b88), p93.2)
        else some (undef, p93.2)).bind fun p95 =>
        (bif wantV (.bool b94) true then
        aUn .not p95.1 fun v96 =>
        some (v96, p95.2)
        else some (undef, p95.2)).bind fun p97 =>
        cBn (bif b94 then p97.1 else (.bool false)) fun b98 =>
        (bif wantV (.bool b98) true then
        cl (rc md 18 [] p97.2) fun v99 h100 =>
        cBn v99 fun b101 =>
        some ((.bool b101), h100)
        else some (undef, p97.2)).bind fun p102 =>
        cBn (bif b98 then p102.1 else (.bool false)) fun b103 =>
        some ((.bool b103), h)
      else
        (bif wantV (.bool (n90 == 0)) true then
        some ((.int .i64 n86), h84)
        else some (undef, h84)).bind fun p104 =>
        (bif wantV (.bool (n90 == 0)) true then
        some ((.bool b88), p104.2)
        else some (undef, p104.2)).bind fun p105 =>
        (bif wantV (.bool (n90 == 0)) true then
        cl (rc md 25 [p104.1, p105.1] p105.2) fun v106 h107 =>
        cIn .u64 v106 fun n108 =>
        some ((.int .u64 n108), h107)
        else some (undef, p105.2)).bind fun p109 =>
        (bif wantV (.bool (n90 == 0)) true then
        some ((.int .u64 a2), p109.2)
        else some (undef, p109.2)).bind fun p110 =>
        (bif wantV (.bool (n90 == 0)) true then
        aBin Try.prog .eql 24 p109.1 p110.1 fun v111 =>
        some (v111, p110.2)
        else some (undef, p110.2)).bind fun p112 =>
        cBn (bif (n90 == 0) then p112.1 else (.bool false)) fun b113 =>
        (bif wantV (.bool b113) true then
        cl (rc md 18 [] p112.2) fun v114 h115 =>
        cBn v114 fun b116 =>
        some ((.bool b116), h115)
        else some (undef, p112.2)).bind fun p117 =>
        cBn (bif b113 then p117.1 else (.bool false)) fun b118 =>
        some ((.bool b118), h)
theorem F5_eq (rc : Rec) (md : Md) (a0 : Int) (a1 : Bool) (a2 : Int) (h : Heap) : callStep Try.prog cfg rc md 5 [(.int .i64 a0), (.bool a1), (.int .u64 a2)] h = F5 rc ⟨h.length, h.length⟩ a0 a1 a2 h := by kernel_rfl

/-- tombolo/tombololaw01.WordMeans -/
noncomputable def F6 (rc : Rec) (md : Md) (a0_0 : Int) (a0_1 : Int) (a0_2 : Int) (a0_3 : Int) (a1 : Int) (a2 : Bool) (h : Heap) : Option (Value × Heap) :=
  let h1 : Heap := h ++ [.own [(.int .i64 a0_0), (.int .i64 a0_1), (.int .i64 a0_2), (.int .i64 a0_3)]]
  ldN 4 (.pointer (some ⟨h.length, 0, none⟩)) h1 fun v2 =>
  cl (rc md 16 [v2] h1) fun v3 h4 =>
  cl (rc md 15 [v3] h4) fun v5 h6 =>
  cBn v5 fun b7 =>
  (bif wantV (.bool (!b7)) false then
  some ((.int .i64 a1), h6)
  else some (undef, h6)).bind fun p8 =>
  (bif wantV (.bool (!b7)) false then
  aBin Try.prog .lss 3 p8.1 (.int .i64 0) fun v9 =>
  some (v9, p8.2)
  else some (undef, p8.2)).bind fun p10 =>
  cBn (bif !b7 then (.bool true) else p10.1) fun b11 =>
  (bif wantV (.bool b11) false then
  some ((.int .i64 a1), p10.2)
  else some (undef, p10.2)).bind fun p12 =>
  (bif wantV (.bool b11) false then
  aBin Try.prog .gtr 3 p12.1 (.int .i64 16777215) fun v13 =>
  some (v13, p12.2)
  else some (undef, p12.2)).bind fun p14 =>
  cBn (bif b11 then (.bool true) else p14.1) fun b15 =>
  bif b15 then
    cl (rc md 18 [] p14.2) fun v16 h17 =>
    cBn v16 fun b18 =>
    some ((.bool b18), h)
  else
    ldN 4 (.pointer (some ⟨h.length, 0, none⟩)) p14.2 fun v19 =>
    cl (rc md 26 [v19, (.int .i64 a1), (.bool a2)] p14.2) fun v20 h21 =>
    cIn .i64 v20 fun n22 =>
    ldN 4 (.pointer (some ⟨h.length, 0, none⟩)) h21 fun v23 =>
    cl (rc md 16 [v23] h21) fun v24 h25 =>
    cl (rc md 20 [v24] h25) fun v26 h27 =>
    cIn .u64 v26 fun n28 =>
    cl (rc md 25 [(.int .i64 a1), (.bool a2)] h27) fun v29 h30 =>
    cIn .u64 v29 fun n31 =>
    cl (rc md 27 [(.int .u64 n28), (.int .u64 n31)] h30) fun v32 h33 =>
    cIn .i64 v32 fun n34 =>
    (bif wantV (.bool (n22 == n34)) true then
    some ((.int .i64 n22), h33)
    else some (undef, h33)).bind fun p35 =>
    (bif wantV (.bool (n22 == n34)) true then
    some ((.pointer (some ⟨h.length, 0, none⟩)), p35.2)
    else some (undef, p35.2)).bind fun p36 =>
    (bif wantV (.bool (n22 == n34)) true then
    ld1 p36.1 p36.2 fun v37 =>
    cIn .i64 v37 fun n38 =>
    some ((.int .i64 n38), p36.2)
    else some (undef, p36.2)).bind fun p39 =>
    (bif wantV (.bool (n22 == n34)) true then
    aBin Try.prog .eql 3 p35.1 p39.1 fun v40 =>
    some (v40, p39.2)
    else some (undef, p39.2)).bind fun p41 =>
    (bif wantV (.bool (n22 == n34)) true then
    some (p41.1, p41.2)
    else some (undef, p41.2)).bind fun p42 =>
    (bif wantV p42.1 false then
    some ((.int .i64 n22), p42.2)
    else some (undef, p42.2)).bind fun p43 =>
    (bif wantV p42.1 false then
    some ((.pointer (some ⟨h.length, 1, none⟩)), p43.2)
    else some (undef, p43.2)).bind fun p44 =>
    (bif wantV p42.1 false then
    ld1 p44.1 p44.2 fun v45 =>
    cIn .i64 v45 fun n46 =>
    some ((.int .i64 n46), p44.2)
    else some (undef, p44.2)).bind fun p47 =>
    (bif wantV p42.1 false then
    aBin Try.prog .eql 3 p43.1 p47.1 fun v48 =>
    some (v48, p47.2)
    else some (undef, p47.2)).bind fun p49 =>
    (bif wantV (.bool (n22 == n34)) true then
    cBn p42.1 fun q50 =>
    cBn (bif q50 then (.bool true) else p49.1) fun b51 =>
    some ((.bool b51), p49.2)
    else some (undef, p49.2)).bind fun p52 =>
    cBn (bif (n22 == n34) then p52.1 else (.bool false)) fun b53 =>
    (bif wantV (.bool b53) true then
    cl (rc md 18 [] p52.2) fun v54 h55 =>
    cBn v54 fun b56 =>
    some ((.bool b56), h55)
    else some (undef, p52.2)).bind fun p57 =>
    cBn (bif b53 then p57.1 else (.bool false)) fun b58 =>
    some ((.bool b58), h)
theorem F6_eq (rc : Rec) (md : Md) (a0_0 : Int) (a0_1 : Int) (a0_2 : Int) (a0_3 : Int) (a1 : Int) (a2 : Bool) (h : Heap) : callStep Try.prog cfg rc md 6 [(.agg #[(.int .i64 a0_0), (.int .i64 a0_1), (.int .i64 a0_2), (.int .i64 a0_3)]), (.int .i64 a1), (.bool a2)] h = F6 rc ⟨h.length, h.length⟩ a0_0 a0_1 a0_2 a0_3 a1 a2 h := by kernel_rfl

-- NOT PRINTED 7 tombolo/tombololaw01.WordOnce: loop
/-- tombolo/tombololaw01.WordPlain -/
noncomputable def F8 (rc : Rec) (md : Md) (a0 : Int) (a1 : Int) (a2 : Bool) (h : Heap) : Option (Value × Heap) :=
  cl (rc md 28 [(.int .i64 a0)] h) fun v1 h2 =>
  let h3 : Heap := h2 ++ [.own [(.int .i64 0), (.int .i64 0), (.int .i64 0), (.int .i64 0)]]
  st md 4 (.pointer (some ⟨h2.length, 0, none⟩)) v1 h3 fun h4 =>
  ldN 4 (.pointer (some ⟨h2.length, 0, none⟩)) h4 fun v5 =>
  cl (rc md 14 [v5] h4) fun v6 h7 =>
  exT v6 0 fun v8 =>
  cIn .u64 v8 fun n9 =>
  exT v6 1 fun v10 =>
  cIn .i64 v10 fun n11 =>
  ldN 4 (.pointer (some ⟨h2.length, 0, none⟩)) h7 fun v12 =>
  aBin Try.prog .eql 23 v12 (.agg #[(.int .i64 (if 65535 < (if 0 > a0 then 0 else a0) then 65535 else (if 0 > a0 then 0 else a0))), (.int .i64 (if 65535 < (if 0 > a0 then 0 else a0) then 65535 else (if 0 > a0 then 0 else a0))), (.int .i64 0), (.int .i64 0)]) fun v13 =>
  (bif wantV v13 true then
  ldN 4 (.pointer (some ⟨h2.length, 0, none⟩)) h7 fun v14 =>
  some (v14, h7)
  else some (undef, h7)).bind fun p15 =>
  (bif wantV v13 true then
  cl (rc md 17 [p15.1] p15.2) fun v16 h17 =>
  cBn v16 fun b18 =>
  some ((.bool b18), h17)
  else some (undef, p15.2)).bind fun p19 =>
  cBn v13 fun q20 =>
  cBn (bif q20 then p19.1 else (.bool false)) fun b21 =>
  (bif wantV (.bool b21) true then
  ldN 4 (.pointer (some ⟨h2.length, 0, none⟩)) p19.2 fun v22 =>
  some (v22, p19.2)
  else some (undef, p19.2)).bind fun p23 =>
  (bif wantV (.bool b21) true then
  cl (rc md 21 [p23.1] p23.2) fun v24 h25 =>
  cBn v24 fun b26 =>
  some ((.bool b26), h25)
  else some (undef, p23.2)).bind fun p27 =>
  cBn (bif b21 then p27.1 else (.bool false)) fun b28 =>
  (bif wantV (.bool b28) true then
  some ((.int .i64 n11), p27.2)
  else some (undef, p27.2)).bind fun p29 =>
  (bif wantV (.bool b28) true then
  aBin Try.prog .eql 25 p29.1 (.int .i64 0) fun v30 =>
  some (v30, p29.2)
  else some (undef, p29.2)).bind fun p31 =>
  cBn (bif b28 then p31.1 else (.bool false)) fun b32 =>
  (bif wantV (.bool b32) true then
  some ((.int .u64 n9), p31.2)
  else some (undef, p31.2)).bind fun p33 =>
  (bif wantV (.bool b32) true then
  some ((.int .i64 (if 65535 < (if 0 > a0 then 0 else a0) then 65535 else (if 0 > a0 then 0 else a0))), p33.2)
  else some (undef, p33.2)).bind fun p34 =>
  (bif wantV (.bool b32) true then
  cl (rc md 29 [p34.1] p34.2) fun v35 h36 =>
  cIn .u64 v35 fun n37 =>
  some ((.int .u64 n37), h36)
  else some (undef, p34.2)).bind fun p38 =>
  (bif wantV (.bool b32) true then
  aBin Try.prog .eql 24 p33.1 p38.1 fun v39 =>
  some (v39, p38.2)
  else some (undef, p38.2)).bind fun p40 =>
  cBn (bif b32 then p40.1 else (.bool false)) fun b41 =>
  (bif wantV (.bool b41) true then
  ldN 4 (.pointer (some ⟨h2.length, 0, none⟩)) p40.2 fun v42 =>
  some (v42, p40.2)
  else some (undef, p40.2)).bind fun p43 =>
  (bif wantV (.bool b41) true then
  some ((.int .i64 a1), p43.2)
  else some (undef, p43.2)).bind fun p44 =>
  (bif wantV (.bool b41) true then
  some ((.bool a2), p44.2)
  else some (undef, p44.2)).bind fun p45 =>
  (bif wantV (.bool b41) true then
  cl (rc md 26 [p43.1, p44.1, p45.1] p45.2) fun v46 h47 =>
  cIn .i64 v46 fun n48 =>
  some ((.int .i64 n48), h47)
  else some (undef, p45.2)).bind fun p49 =>
  (bif wantV (.bool b41) true then
  some ((.int .i64 (if 65535 < (if 0 > a0 then 0 else a0) then 65535 else (if 0 > a0 then 0 else a0))), p49.2)
  else some (undef, p49.2)).bind fun p50 =>
  (bif wantV (.bool b41) true then
  aBin Try.prog .eql 3 p49.1 p50.1 fun v51 =>
  some (v51, p50.2)
  else some (undef, p50.2)).bind fun p52 =>
  cBn (bif b41 then p52.1 else (.bool false)) fun b53 =>
  (bif wantV (.bool b53) true then
  cl (rc md 18 [] p52.2) fun v54 h55 =>
  cBn v54 fun b56 =>
  some ((.bool b56), h55)
  else some (undef, p52.2)).bind fun p57 =>
  cBn (bif b53 then p57.1 else (.bool false)) fun b58 =>
  some ((.bool b58), h)
theorem F8_eq (rc : Rec) (md : Md) (a0 : Int) (a1 : Int) (a2 : Bool) (h : Heap) : callStep Try.prog cfg rc md 8 [(.int .i64 a0), (.int .i64 a1), (.bool a2)] h = F8 rc ⟨h.length, h.length⟩ a0 a1 a2 h := by kernel_rfl

/-- tombolo/tombololaw01.WordApart -/
noncomputable def F9 (rc : Rec) (md : Md) (a0_0 : Int) (a0_1 : Int) (a0_2 : Int) (a0_3 : Int) (a1_0 : Int) (a1_1 : Int) (a1_2 : Int) (a1_3 : Int) (h : Heap) : Option (Value × Heap) :=
  let h1 : Heap := h ++ [.own [(.int .i64 a0_0), (.int .i64 a0_1), (.int .i64 a0_2), (.int .i64 a0_3)]]
  let h2 : Heap := h1 ++ [.own [(.int .i64 a1_0), (.int .i64 a1_1), (.int .i64 a1_2), (.int .i64 a1_3)]]
  ldN 4 (.pointer (some ⟨h.length, 0, none⟩)) h2 fun v3 =>
  cl (rc md 16 [v3] h2) fun v4 h5 =>
  cl (rc md 15 [v4] h5) fun v6 h7 =>
  cBn v6 fun b8 =>
  (bif wantV (.bool (!b8)) false then
  ldN 4 (.pointer (some ⟨h1.length, 0, none⟩)) h7 fun v9 =>
  some (v9, h7)
  else some (undef, h7)).bind fun p10 =>
  (bif wantV (.bool (!b8)) false then
  cl (rc md 16 [p10.1] p10.2) fun v11 h12 =>
  some (v11, h12)
  else some (undef, p10.2)).bind fun p13 =>
  (bif wantV (.bool (!b8)) false then
  cl (rc md 15 [p13.1] p13.2) fun v14 h15 =>
  cBn v14 fun b16 =>
  some ((.bool b16), h15)
  else some (undef, p13.2)).bind fun p17 =>
  (bif wantV (.bool (!b8)) false then
  aUn .not p17.1 fun v18 =>
  some (v18, p17.2)
  else some (undef, p17.2)).bind fun p19 =>
  cBn (bif !b8 then (.bool true) else p19.1) fun b20 =>
  bif b20 then
    cl (rc md 18 [] p19.2) fun v21 h22 =>
    cBn v21 fun b23 =>
    some ((.bool b23), h)
  else
    ldN 4 (.pointer (some ⟨h.length, 0, none⟩)) p19.2 fun v24 =>
    cl (rc md 14 [v24] p19.2) fun v25 h26 =>
    exT v25 0 fun v27 =>
    cIn .u64 v27 fun n28 =>
    exT v25 1 fun v29 =>
    cIn .i64 v29 fun n30 =>
    ldN 4 (.pointer (some ⟨h1.length, 0, none⟩)) h26 fun v31 =>
    cl (rc md 14 [v31] h26) fun v32 h33 =>
    exT v32 0 fun v34 =>
    cIn .u64 v34 fun n35 =>
    exT v32 1 fun v36 =>
    cIn .i64 v36 fun n37 =>
    ld1 (.pointer (some ⟨h.length, 3, none⟩)) h33 fun v38 =>
    cIn .i64 v38 fun n39 =>
    ldN 4 (.pointer (some ⟨h.length, 0, none⟩)) h33 fun v40 =>
    cl (rc md 21 [v40] h33) fun v41 h42 =>
    cBn v41 fun b43 =>
    cl (rc md 23 [(.int .i64 n39), (.bool b43)] h42) fun v44 h45 =>
    exT v44 0 fun v46 =>
    cIn .u64 v46 fun n47 =>
    exT v44 1 fun v48 =>
    cIn .i64 v48 fun n49 =>
    ld1 (.pointer (some ⟨h1.length, 3, none⟩)) h45 fun v50 =>
    cIn .i64 v50 fun n51 =>
    ldN 4 (.pointer (some ⟨h1.length, 0, none⟩)) h45 fun v52 =>
    cl (rc md 21 [v52] h45) fun v53 h54 =>
    cBn v53 fun b55 =>
    cl (rc md 23 [(.int .i64 n51), (.bool b55)] h54) fun v56 h57 =>
    exT v56 0 fun v58 =>
    cIn .u64 v58 fun n59 =>
    exT v56 1 fun v60 =>
    cIn .i64 v60 fun n61 =>
    (bif wantV (.bool (n30 == 0)) true then
    some ((.int .i64 n37), h57)
    else some (undef, h57)).bind fun p62 =>
    (bif wantV (.bool (n30 == 0)) true then
    aBin Try.prog .eql 25 p62.1 (.int .i64 0) fun v63 =>
    some (v63, p62.2)
    else some (undef, p62.2)).bind fun p64 =>
    cBn (bif (n30 == 0) then p64.1 else (.bool false)) fun b65 =>
    (bif wantV (.bool b65) true then
    some ((.int .i64 n49), p64.2)
    else some (undef, p64.2)).bind fun p66 =>
    (bif wantV (.bool b65) true then
    aBin Try.prog .eql 25 p66.1 (.int .i64 0) fun v67 =>
    some (v67, p66.2)
    else some (undef, p66.2)).bind fun p68 =>
    cBn (bif b65 then p68.1 else (.bool false)) fun b69 =>
    (bif wantV (.bool b69) true then
    some ((.int .i64 n61), p68.2)
    else some (undef, p68.2)).bind fun p70 =>
    (bif wantV (.bool b69) true then
    aBin Try.prog .eql 25 p70.1 (.int .i64 0) fun v71 =>
    some (v71, p70.2)
    else some (undef, p70.2)).bind fun p72 =>
    cBn (bif b69 then p72.1 else (.bool false)) fun b73 =>
    (bif wantV (.bool b73) true then
    some ((.int .u64 n28), p72.2)
    else some (undef, p72.2)).bind fun p74 =>
    (bif wantV (.bool b73) true then
    some ((.int .u64 n35), p74.2)
    else some (undef, p74.2)).bind fun p75 =>
    (bif wantV (.bool b73) true then
    aBin Try.prog .eql 24 p74.1 p75.1 fun v76 =>
    some (v76, p75.2)
    else some (undef, p75.2)).bind fun p77 =>
    (bif wantV (.bool b73) true then
    ldN 4 (.pointer (some ⟨h.length, 0, none⟩)) p77.2 fun v78 =>
    some (v78, p77.2)
    else some (undef, p77.2)).bind fun p79 =>
    (bif wantV (.bool b73) true then
    ldN 4 (.pointer (some ⟨h1.length, 0, none⟩)) p79.2 fun v80 =>
    some (v80, p79.2)
    else some (undef, p79.2)).bind fun p81 =>
    (bif wantV (.bool b73) true then
    aBin Try.prog .eql 23 p79.1 p81.1 fun v82 =>
    some (v82, p81.2)
    else some (undef, p81.2)).bind fun p83 =>
    (bif wantV (.bool b73) true then
    aBin Try.prog .eql 4 p77.1 p83.1 fun v84 =>
    some (v84, p83.2)
    else some (undef, p83.2)).bind fun p85 =>
    cBn (bif b73 then p85.1 else (.bool false)) fun b86 =>
    (bif wantV (.bool b86) true then
    some ((.int .u64 n47), p85.2)
    else some (undef, p85.2)).bind fun p87 =>
    (bif wantV (.bool b86) true then
    some ((.int .u64 n59), p87.2)
    else some (undef, p87.2)).bind fun p88 =>
    (bif wantV (.bool b86) true then
    aBin Try.prog .eql 24 p87.1 p88.1 fun v89 =>
    some (v89, p88.2)
    else some (undef, p88.2)).bind fun p90 =>
    (bif wantV (.bool b86) true then
    some ((.pointer (some ⟨h.length, 3, none⟩)), p90.2)
    else some (undef, p90.2)).bind fun p91 =>
    (bif wantV (.bool b86) true then
    ld1 p91.1 p91.2 fun v92 =>
    cIn .i64 v92 fun n93 =>
    some ((.int .i64 n93), p91.2)
    else some (undef, p91.2)).bind fun p94 =>
    (bif wantV (.bool b86) true then
    some ((.pointer (some ⟨h1.length, 3, none⟩)), p94.2)
    else some (undef, p94.2)).bind fun p95 =>
    (bif wantV (.bool b86) true then
    ld1 p95.1 p95.2 fun v96 =>
    cIn .i64 v96 fun n97 =>
    some ((.int .i64 n97), p95.2)
    else some (undef, p95.2)).bind fun p98 =>
    (bif wantV (.bool b86) true then
    aBin Try.prog .eql 3 p94.1 p98.1 fun v99 =>
    some (v99, p98.2)
    else some (undef, p98.2)).bind fun p100 =>
    (bif wantV (.bool b86) true then
    some (p100.1, p100.2)
    else some (undef, p100.2)).bind fun p101 =>
    (bif wantV p101.1 true then
    ldN 4 (.pointer (some ⟨h.length, 0, none⟩)) p101.2 fun v102 =>
    some (v102, p101.2)
    else some (undef, p101.2)).bind fun p103 =>
    (bif wantV p101.1 true then
    cl (rc md 21 [p103.1] p103.2) fun v104 h105 =>
    cBn v104 fun b106 =>
    some ((.bool b106), h105)
    else some (undef, p103.2)).bind fun p107 =>
    (bif wantV p101.1 true then
    ldN 4 (.pointer (some ⟨h1.length, 0, none⟩)) p107.2 fun v108 =>
    some (v108, p107.2)
    else some (undef, p107.2)).bind fun p109 =>
    (bif wantV p101.1 true then
    cl (rc md 21 [p109.1] p109.2) fun v110 h111 =>
    cBn v110 fun b112 =>
    some ((.bool b112), h111)
    else some (undef, p109.2)).bind fun p113 =>
    (bif wantV p101.1 true then
    aBin Try.prog .eql 4 p107.1 p113.1 fun v114 =>
    some (v114, p113.2)
    else some (undef, p113.2)).bind fun p115 =>
    (bif wantV (.bool b86) true then
    cBn p101.1 fun q116 =>
    cBn (bif q116 then p115.1 else (.bool false)) fun b117 =>
    some ((.bool b117), p115.2)
    else some (undef, p115.2)).bind fun p118 =>
    (bif wantV (.bool b86) true then
    aBin Try.prog .eql 4 p90.1 p118.1 fun v119 =>
    some (v119, p118.2)
    else some (undef, p118.2)).bind fun p120 =>
    cBn (bif b86 then p120.1 else (.bool false)) fun b121 =>
    (bif wantV (.bool b121) true then
    cl (rc md 18 [] p120.2) fun v122 h123 =>
    cBn v122 fun b124 =>
    some ((.bool b124), h123)
    else some (undef, p120.2)).bind fun p125 =>
    cBn (bif b121 then p125.1 else (.bool false)) fun b126 =>
    some ((.bool b126), h)
theorem F9_eq (rc : Rec) (md : Md) (a0_0 : Int) (a0_1 : Int) (a0_2 : Int) (a0_3 : Int) (a1_0 : Int) (a1_1 : Int) (a1_2 : Int) (a1_3 : Int) (h : Heap) : callStep Try.prog cfg rc md 9 [(.agg #[(.int .i64 a0_0), (.int .i64 a0_1), (.int .i64 a0_2), (.int .i64 a0_3)]), (.agg #[(.int .i64 a1_0), (.int .i64 a1_1), (.int .i64 a1_2), (.int .i64 a1_3)])] h = F9 rc ⟨h.length, h.length⟩ a0_0 a0_1 a0_2 a0_3 a1_0 a1_1 a1_2 a1_3 h := by kernel_rfl

end Go.Det
