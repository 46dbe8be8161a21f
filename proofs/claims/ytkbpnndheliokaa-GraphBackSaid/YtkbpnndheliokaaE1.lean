/- Printed functions. -/
import Derived.Test.YtkbpnndheliokaaDetR
import Derived.Test.YtkbpnndheliokaaDetT
import Derived.Test.YtkbpnndheliokaaDetX
import Derived.Test.YtkbpnndheliokaaProg
set_option autoImplicit false
set_option linter.unusedVariables false
set_option linter.unusedSimpArgs false
namespace Go.Det.E
open Go.Proofs Go.Det

def cfg : FuncId → Nat := fun f => bif Nat.ble 13 f && Nat.ble f 15 || Nat.beq f 20 || Nat.beq f 26 || Nat.beq f 32 || Nat.beq f 34 || Nat.ble 38 f && Nat.ble f 41 || Nat.beq f 50 || Nat.beq f 53 || Nat.beq f 58 || Nat.beq f 64 || Nat.ble 68 f && Nat.ble f 69 || Nat.ble 76 f && Nat.ble f 77 || Nat.beq f 79 || Nat.beq f 87 || Nat.beq f 89 || Nat.beq f 95 || Nat.beq f 98 || Nat.ble 102 f && Nat.ble f 103 then 2 else bif Nat.ble 3 f && Nat.ble f 9 || Nat.beq f 18 || Nat.beq f 27 || Nat.beq f 33 || Nat.beq f 36 || Nat.ble 42 f && Nat.ble f 43 || Nat.ble 46 f && Nat.ble f 47 || Nat.beq f 51 || Nat.beq f 61 || Nat.beq f 63 || Nat.ble 70 f && Nat.ble f 71 || Nat.beq f 83 || Nat.ble 85 f && Nat.ble f 86 || Nat.beq f 88 || Nat.beq f 93 || Nat.beq f 99 || Nat.ble 123 f && Nat.ble f 124 then 1 else bif Nat.beq f 2 || Nat.beq f 10 || Nat.ble 22 f && Nat.ble f 24 || Nat.beq f 28 || Nat.beq f 35 || Nat.beq f 37 || Nat.beq f 44 || Nat.beq f 52 || Nat.ble 54 f && Nat.ble f 57 || Nat.ble 65 f && Nat.ble f 67 || Nat.ble 72 f && Nat.ble f 74 || Nat.beq f 78 || Nat.beq f 82 || Nat.beq f 84 || Nat.ble 90 f && Nat.ble f 92 || Nat.ble 96 f && Nat.ble f 97 || Nat.ble 100 f && Nat.ble f 101 || Nat.ble 104 f && Nat.ble f 107 then 3 else 0

noncomputable abbrev C := call Try.prog cfg
/-- tombolo/tomboloref05.Right -/
noncomputable def F22 (rc : Rec) (md : Md) (a0_0 : Int) (a0_1 : Int) (a0_2 : Int) (h0 : Heap) : Option (Value × Heap) :=
  let h1 : Heap := h0 ++ [.own [(.int .i64 a0_0), (.int .i64 a0_1), (.int .i64 a0_2)]]
  ld1 (.pointer (some ⟨h0.length, 0, none⟩)) h1 fun v2 =>
  cIn .i64 v2 fun n3 =>
  (bif wantV (.bool (decide (n3 ≥ 1))) true then
  some ((.pointer (some ⟨h0.length, 0, none⟩)), h1)
  else some (undef, h1)).bind fun p4 =>
  (bif wantV (.bool (decide (n3 ≥ 1))) true then
  ld1 p4.1 p4.2 fun v5 =>
  cIn .i64 v5 fun n6 =>
  some ((.int .i64 n6), p4.2)
  else some (undef, p4.2)).bind fun p7 =>
  (bif wantV (.bool (decide (n3 ≥ 1))) true then
  aBin Try.prog .leq 3 p7.1 (.int .i64 16) fun v8 =>
  some (v8, p7.2)
  else some (undef, p7.2)).bind fun p9 =>
  cBn (bif (decide (n3 ≥ 1)) then p9.1 else (.bool false)) fun b10 =>
  (bif wantV (.bool b10) true then
  some ((.pointer (some ⟨h0.length, 1, none⟩)), p9.2)
  else some (undef, p9.2)).bind fun p11 =>
  (bif wantV (.bool b10) true then
  ld1 p11.1 p11.2 fun v12 =>
  cIn .i64 v12 fun n13 =>
  some ((.int .i64 n13), p11.2)
  else some (undef, p11.2)).bind fun p14 =>
  (bif wantV (.bool b10) true then
  aBin Try.prog .geq 3 p14.1 (.int .i64 0) fun v15 =>
  some (v15, p14.2)
  else some (undef, p14.2)).bind fun p16 =>
  cBn (bif b10 then p16.1 else (.bool false)) fun b17 =>
  (bif wantV (.bool b17) true then
  some ((.pointer (some ⟨h0.length, 1, none⟩)), p16.2)
  else some (undef, p16.2)).bind fun p18 =>
  (bif wantV (.bool b17) true then
  ld1 p18.1 p18.2 fun v19 =>
  cIn .i64 v19 fun n20 =>
  some ((.int .i64 n20), p18.2)
  else some (undef, p18.2)).bind fun p21 =>
  (bif wantV (.bool b17) true then
  aBin Try.prog .leq 3 p21.1 (.int .i64 48) fun v22 =>
  some (v22, p21.2)
  else some (undef, p21.2)).bind fun p23 =>
  cBn (bif b17 then p23.1 else (.bool false)) fun b24 =>
  (bif wantV (.bool b24) true then
  some ((.pointer (some ⟨h0.length, 2, none⟩)), p23.2)
  else some (undef, p23.2)).bind fun p25 =>
  (bif wantV (.bool b24) true then
  ld1 p25.1 p25.2 fun v26 =>
  cIn .i64 v26 fun n27 =>
  some ((.int .i64 n27), p25.2)
  else some (undef, p25.2)).bind fun p28 =>
  (bif wantV (.bool b24) true then
  aBin Try.prog .geq 3 p28.1 (.int .i64 1) fun v29 =>
  some (v29, p28.2)
  else some (undef, p28.2)).bind fun p30 =>
  cBn (bif b24 then p30.1 else (.bool false)) fun b31 =>
  (bif wantV (.bool b31) true then
  some ((.pointer (some ⟨h0.length, 2, none⟩)), p30.2)
  else some (undef, p30.2)).bind fun p32 =>
  (bif wantV (.bool b31) true then
  ld1 p32.1 p32.2 fun v33 =>
  cIn .i64 v33 fun n34 =>
  some ((.int .i64 n34), p32.2)
  else some (undef, p32.2)).bind fun p35 =>
  (bif wantV (.bool b31) true then
  aBin Try.prog .leq 3 p35.1 (.int .i64 8) fun v36 =>
  some (v36, p35.2)
  else some (undef, p35.2)).bind fun p37 =>
  cBn (bif b31 then p37.1 else (.bool false)) fun b38 =>
  some ((.bool b38), h0)
theorem F22_eq0 (rc : Rec) (md : Md) (a0_0 : Int) (a0_1 : Int) (a0_2 : Int) (h0 : Heap) : callStep0 Try.prog cfg rc md 22 [(.agg #[(.int .i64 a0_0), (.int .i64 a0_1), (.int .i64 a0_2)])] h0 = F22 rc ⟨h0.length, h0.length⟩ a0_0 a0_1 a0_2 h0 := by kernel_rfl
theorem F22_eq (rc : Rec) (md : Md) (a0_0 : Int) (a0_1 : Int) (a0_2 : Int) (h0 : Heap) : callStep Try.prog cfg rc md 22 [(.agg #[(.int .i64 a0_0), (.int .i64 a0_1), (.int .i64 a0_2)])] h0 = alone h0 (F22 rc ⟨0, 0⟩ a0_0 a0_1 a0_2 []) := by
  have e : callStep Try.prog cfg rc md 22 [(.agg #[(.int .i64 a0_0), (.int .i64 a0_1), (.int .i64 a0_2)])] h0 = alone h0 (callStep0 Try.prog cfg rc ⟨0, 0⟩ 22 [(.agg #[(.int .i64 a0_0), (.int .i64 a0_1), (.int .i64 a0_2)])] []) := by kernel_rfl
  rw [e, F22_eq0]; rfl

/-- (*tombolo/cell.Arena).Len -/
noncomputable def F26 (rc : Rec) (md : Md) (a0 : Value) (h0 : Heap) : Option (Value × Heap) :=
  bif okNil Try.prog a0 then
  fA 0 a0 fun v1 =>
  ld1 v1 h0 fun v2 =>
  lenS v2 fun v3 =>
  cIn .i64 v3 fun n4 =>
  some ((.int .i64 n4), h0)
  else none
theorem F26_eq0 (rc : Rec) (md : Md) (a0 : Value) (h0 : Heap) : callStep0 Try.prog cfg rc md 26 [a0] h0 = F26 rc ⟨h0.length, h0.length⟩ a0 h0 := by kernel_rfl
theorem F26_eq (rc : Rec) (md : Md) (a0 : Value) (h0 : Heap) : callStep Try.prog cfg rc md 26 [a0] h0 = F26 rc ⟨h0.length, h0.length⟩ a0 h0 := (callStep_ne (by kernel_rfl)).trans (F26_eq0 rc md a0 h0)

/-- (*tombolo/cell.Arena).Load -/
noncomputable def F27 (rc : Rec) (md : Md) (a0 : Value) (a1 : Int) (h0 : Heap) : Option (Value × Heap) :=
  bif okNil Try.prog a0 then
  fA 1 a0 fun v1 =>
  fA 0 v1 fun v2 =>
  cl (rc md 51 [a0, (.int .i64 a1), v2] h0) fun v3 h4 =>
  aBin Try.prog .eql 105 v3 (.pointer none) fun v5 =>
  cBn v5 fun b6 =>
  bif b6 then
    some ((.tuple #[(.int .u64 0), (.int .i64 20)]), List.take h0.length h4)
  else
    bif okNil Try.prog v3 then
    ld1 v3 h4 fun v7 =>
    cIn .u64 v7 fun n8 =>
    some ((.tuple #[(.int .u64 n8), (.int .i64 0)]), List.take h0.length h4)
    else none
  else none
theorem F27_eq0 (rc : Rec) (md : Md) (a0 : Value) (a1 : Int) (h0 : Heap) : callStep0 Try.prog cfg rc md 27 [a0, (.int .i64 a1)] h0 = F27 rc ⟨md.ro, h0.length⟩ a0 a1 h0 := by kernel_rfl
theorem F27_eq (rc : Rec) (md : Md) (a0 : Value) (a1 : Int) (h0 : Heap) : callStep Try.prog cfg rc md 27 [a0, (.int .i64 a1)] h0 = F27 rc ⟨md.ro, h0.length⟩ a0 a1 h0 := (callStep_ne (by kernel_rfl)).trans (F27_eq0 rc md a0 a1 h0)

/-- (tombolo/lay.Lay).Cells -/
noncomputable def F28 (rc : Rec) (md : Md) (a0_0 : Int) (a0_1 : Int) (a0_2 : Int) (h0 : Heap) : Option (Value × Heap) :=
  let h1 : Heap := h0 ++ [.own [(.int .i64 a0_0), (.int .i64 a0_1), (.int .i64 a0_2)]]
  ldN 3 (.pointer (some ⟨h0.length, 0, none⟩)) h1 fun v2 =>
  cl (rc md 52 [v2] h1) fun v3 h4 =>
  cIn .i64 v3 fun n5 =>
  ldN 3 (.pointer (some ⟨h0.length, 0, none⟩)) h4 fun v6 =>
  cl (rc md 35 [v6] h4) fun v7 h8 =>
  cIn .i64 v7 fun n9 =>
  some ((.int .i64 (IntKind.wrap .i64 (n5 + (IntKind.wrap .i64 (n9 * 7))))), h0)
theorem F28_eq0 (rc : Rec) (md : Md) (a0_0 : Int) (a0_1 : Int) (a0_2 : Int) (h0 : Heap) : callStep0 Try.prog cfg rc md 28 [(.agg #[(.int .i64 a0_0), (.int .i64 a0_1), (.int .i64 a0_2)])] h0 = F28 rc ⟨h0.length, h0.length⟩ a0_0 a0_1 a0_2 h0 := by kernel_rfl
theorem F28_eq (rc : Rec) (md : Md) (a0_0 : Int) (a0_1 : Int) (a0_2 : Int) (h0 : Heap) : callStep Try.prog cfg rc md 28 [(.agg #[(.int .i64 a0_0), (.int .i64 a0_1), (.int .i64 a0_2)])] h0 = alone h0 (F28 rc ⟨0, 0⟩ a0_0 a0_1 a0_2 []) := by
  have e : callStep Try.prog cfg rc md 28 [(.agg #[(.int .i64 a0_0), (.int .i64 a0_1), (.int .i64 a0_2)])] h0 = alone h0 (callStep0 Try.prog cfg rc ⟨0, 0⟩ 28 [(.agg #[(.int .i64 a0_0), (.int .i64 a0_1), (.int .i64 a0_2)])] []) := by kernel_rfl
  rw [e, F28_eq0]; rfl

/-- tombolo/mem.Of -/
noncomputable def F32 (rc : Rec) (md : Md) (a0 : Value) (h0 : Heap) : Option (Value × Heap) :=
  let h1 : Heap := h0 ++ [.own [(.pointer none)]]
  aBuild Try.prog 73 [(0, a0)] fun v2 =>
  st md 1 (.pointer (some ⟨h0.length, 0, none⟩)) v2 h1 fun h3 =>
  ldN 1 (.pointer (some ⟨h0.length, 0, none⟩)) h3 fun v4 =>
  fin2 h0 v4
theorem F32_eq0 (rc : Rec) (md : Md) (a0 : Value) (h0 : Heap) : callStep0 Try.prog cfg rc md 32 [a0] h0 = F32 rc ⟨h0.length, h0.length⟩ a0 h0 := by kernel_rfl
theorem F32_eq (rc : Rec) (md : Md) (a0 : Value) (h0 : Heap) : callStep Try.prog cfg rc md 32 [a0] h0 = F32 rc ⟨h0.length, h0.length⟩ a0 h0 := (callStep_ne (by kernel_rfl)).trans (F32_eq0 rc md a0 h0)

/-- (*tombolo/cell.Arena).Equal -/
noncomputable def F34 (rc : Rec) (md : Md) (a0 : Value) (a1 : Value) (h0 : Heap) : Option (Value × Heap) :=
  bif okNil Try.prog a0 then
  fA 0 a0 fun v1 =>
  ld1 v1 h0 fun v2 =>
  bif okNil Try.prog a1 then
  fA 0 a1 fun v3 =>
  ld1 v3 h0 fun v4 =>
  cl (rc md 64 [v2, v4] h0) fun v5 h6 =>
  cBn v5 fun b7 =>
  some ((.bool b7), h0)
  else none
  else none
theorem F34_eq0 (rc : Rec) (md : Md) (a0 : Value) (a1 : Value) (h0 : Heap) : callStep0 Try.prog cfg rc md 34 [a0, a1] h0 = F34 rc ⟨h0.length, h0.length⟩ a0 a1 h0 := by kernel_rfl
theorem F34_eq (rc : Rec) (md : Md) (a0 : Value) (a1 : Value) (h0 : Heap) : callStep Try.prog cfg rc md 34 [a0, a1] h0 = F34 rc ⟨h0.length, h0.length⟩ a0 a1 h0 := (callStep_ne (by kernel_rfl)).trans (F34_eq0 rc md a0 a1 h0)

/-- (tombolo/lay.Lay).Nodes -/
noncomputable def F35 (rc : Rec) (md : Md) (a0_0 : Int) (a0_1 : Int) (a0_2 : Int) (h0 : Heap) : Option (Value × Heap) :=
  let h1 : Heap := h0 ++ [.own [(.int .i64 a0_0), (.int .i64 a0_1), (.int .i64 a0_2)]]
  ldN 3 (.pointer (some ⟨h0.length, 0, none⟩)) h1 fun v2 =>
  cl (rc md 65 [v2] h1) fun v3 h4 =>
  cIn .i64 v3 fun n5 =>
  ld1 (.pointer (some ⟨h0.length, 0, none⟩)) h4 fun v6 =>
  cIn .i64 v6 fun n7 =>
  ld1 (.pointer (some ⟨h0.length, 1, none⟩)) h4 fun v8 =>
  cIn .i64 v8 fun n9 =>
  ldN 3 (.pointer (some ⟨h0.length, 0, none⟩)) h4 fun v10 =>
  cl (rc md 66 [v10] h4) fun v11 h12 =>
  cIn .i64 v11 fun n13 =>
  some ((.int .i64 (IntKind.wrap .i64 ((IntKind.wrap .i64 (n5 * n7)) + (IntKind.wrap .i64 (n9 * n13))))), h0)
theorem F35_eq0 (rc : Rec) (md : Md) (a0_0 : Int) (a0_1 : Int) (a0_2 : Int) (h0 : Heap) : callStep0 Try.prog cfg rc md 35 [(.agg #[(.int .i64 a0_0), (.int .i64 a0_1), (.int .i64 a0_2)])] h0 = F35 rc ⟨h0.length, h0.length⟩ a0_0 a0_1 a0_2 h0 := by kernel_rfl
theorem F35_eq (rc : Rec) (md : Md) (a0_0 : Int) (a0_1 : Int) (a0_2 : Int) (h0 : Heap) : callStep Try.prog cfg rc md 35 [(.agg #[(.int .i64 a0_0), (.int .i64 a0_1), (.int .i64 a0_2)])] h0 = alone h0 (F35 rc ⟨0, 0⟩ a0_0 a0_1 a0_2 []) := by
  have e : callStep Try.prog cfg rc md 35 [(.agg #[(.int .i64 a0_0), (.int .i64 a0_1), (.int .i64 a0_2)])] h0 = alone h0 (callStep0 Try.prog cfg rc ⟨0, 0⟩ 35 [(.agg #[(.int .i64 a0_0), (.int .i64 a0_1), (.int .i64 a0_2)])] []) := by kernel_rfl
  rw [e, F35_eq0]; rfl

/-- (*tombolo/cell.Arena).Store -/
noncomputable def F36 (rc : Rec) (md : Md) (a0 : Value) (a1 : Int) (a2 : Int) (h0 : Heap) : Option (Value × Heap) :=
  bif okNil Try.prog a0 then
  fA 1 a0 fun v1 =>
  fA 1 v1 fun v2 =>
  cl (rc md 51 [a0, (.int .i64 a1), v2] h0) fun v3 h4 =>
  aBin Try.prog .eql 105 v3 (.pointer none) fun v5 =>
  cBn v5 fun b6 =>
  bif b6 then
    some ((.int .i64 20), List.take h0.length h4)
  else
    bif okNil Try.prog v3 then
    st md 1 v3 (.int .u64 a2) h4 fun h7 =>
    some ((.int .i64 0), List.take h0.length h7)
    else none
  else none
theorem F36_eq0 (rc : Rec) (md : Md) (a0 : Value) (a1 : Int) (a2 : Int) (h0 : Heap) : callStep0 Try.prog cfg rc md 36 [a0, (.int .i64 a1), (.int .u64 a2)] h0 = F36 rc ⟨md.ro, h0.length⟩ a0 a1 a2 h0 := by kernel_rfl
theorem F36_eq (rc : Rec) (md : Md) (a0 : Value) (a1 : Int) (a2 : Int) (h0 : Heap) : callStep Try.prog cfg rc md 36 [a0, (.int .i64 a1), (.int .u64 a2)] h0 = F36 rc ⟨md.ro, h0.length⟩ a0 a1 a2 h0 := (callStep_ne (by kernel_rfl)).trans (F36_eq0 rc md a0 a1 a2 h0)

/-- (tombolo/lay.Lay).Field -/
noncomputable def F37 (rc : Rec) (md : Md) (a0_0 : Int) (a0_1 : Int) (a0_2 : Int) (a1 : Int) (a2 : Int) (h0 : Heap) : Option (Value × Heap) :=
  let h1 : Heap := h0 ++ [.own [(.int .i64 a0_0), (.int .i64 a0_1), (.int .i64 a0_2)]]
  ldN 3 (.pointer (some ⟨h0.length, 0, none⟩)) h1 fun v2 =>
  cl (rc md 35 [v2] h1) fun v3 h4 =>
  cIn .i64 v3 fun n5 =>
  cl (rc md 67 [(.int .i64 (IntKind.wrap .i64 (a1 - 1))), (.int .i64 n5)] h4) fun v6 h7 =>
  cBn v6 fun b8 =>
  (bif wantV (.bool (!b8)) false then
  some ((.int .i64 a2), h7)
  else some (undef, h7)).bind fun p9 =>
  (bif wantV (.bool (!b8)) false then
  cl (rc md 67 [p9.1, (.int .i64 7)] p9.2) fun v10 h11 =>
  cBn v10 fun b12 =>
  some ((.bool b12), h11)
  else some (undef, p9.2)).bind fun p13 =>
  (bif wantV (.bool (!b8)) false then
  aUn .not p13.1 fun v14 =>
  some (v14, p13.2)
  else some (undef, p13.2)).bind fun p15 =>
  cBn (bif !b8 then (.bool true) else p15.1) fun b16 =>
  bif b16 then
    some ((.int .i64 (-1)), h0)
  else
    ldN 3 (.pointer (some ⟨h0.length, 0, none⟩)) p15.2 fun v17 =>
    cl (rc md 52 [v17] p15.2) fun v18 h19 =>
    cIn .i64 v18 fun n20 =>
    some ((.int .i64 (IntKind.wrap .i64 ((IntKind.wrap .i64 (n20 + (IntKind.wrap .i64 ((IntKind.wrap .i64 (a1 - 1)) * 7)))) + a2))), h0)
theorem F37_eq0 (rc : Rec) (md : Md) (a0_0 : Int) (a0_1 : Int) (a0_2 : Int) (a1 : Int) (a2 : Int) (h0 : Heap) : callStep0 Try.prog cfg rc md 37 [(.agg #[(.int .i64 a0_0), (.int .i64 a0_1), (.int .i64 a0_2)]), (.int .i64 a1), (.int .i64 a2)] h0 = F37 rc ⟨h0.length, h0.length⟩ a0_0 a0_1 a0_2 a1 a2 h0 := by kernel_rfl
theorem F37_eq (rc : Rec) (md : Md) (a0_0 : Int) (a0_1 : Int) (a0_2 : Int) (a1 : Int) (a2 : Int) (h0 : Heap) : callStep Try.prog cfg rc md 37 [(.agg #[(.int .i64 a0_0), (.int .i64 a0_1), (.int .i64 a0_2)]), (.int .i64 a1), (.int .i64 a2)] h0 = alone h0 (F37 rc ⟨0, 0⟩ a0_0 a0_1 a0_2 a1 a2 []) := by
  have e : callStep Try.prog cfg rc md 37 [(.agg #[(.int .i64 a0_0), (.int .i64 a0_1), (.int .i64 a0_2)]), (.int .i64 a1), (.int .i64 a2)] h0 = alone h0 (callStep0 Try.prog cfg rc ⟨0, 0⟩ 37 [(.agg #[(.int .i64 a0_0), (.int .i64 a0_1), (.int .i64 a0_2)]), (.int .i64 a1), (.int .i64 a2)] []) := by kernel_rfl
  rw [e, F37_eq0]; rfl

/-- (tombolo/lay.Lay).Right -/
noncomputable def F44 (rc : Rec) (md : Md) (a0_0 : Int) (a0_1 : Int) (a0_2 : Int) (h0 : Heap) : Option (Value × Heap) :=
  let h1 : Heap := h0 ++ [.own [(.int .i64 a0_0), (.int .i64 a0_1), (.int .i64 a0_2)]]
  ld1 (.pointer (some ⟨h0.length, 0, none⟩)) h1 fun v2 =>
  cIn .i64 v2 fun n3 =>
  cl (rc md 67 [(.int .i64 (IntKind.wrap .i64 (n3 - 1))), (.int .i64 16)] h1) fun v4 h5 =>
  cBn v4 fun b6 =>
  (bif wantV (.bool b6) true then
  some ((.pointer (some ⟨h0.length, 1, none⟩)), h5)
  else some (undef, h5)).bind fun p7 =>
  (bif wantV (.bool b6) true then
  ld1 p7.1 p7.2 fun v8 =>
  cIn .i64 v8 fun n9 =>
  some ((.int .i64 n9), p7.2)
  else some (undef, p7.2)).bind fun p10 =>
  (bif wantV (.bool b6) true then
  cl (rc md 67 [p10.1, (.int .i64 49)] p10.2) fun v11 h12 =>
  cBn v11 fun b13 =>
  some ((.bool b13), h12)
  else some (undef, p10.2)).bind fun p14 =>
  cBn (bif b6 then p14.1 else (.bool false)) fun b15 =>
  (bif wantV (.bool b15) true then
  some ((.pointer (some ⟨h0.length, 2, none⟩)), p14.2)
  else some (undef, p14.2)).bind fun p16 =>
  (bif wantV (.bool b15) true then
  ld1 p16.1 p16.2 fun v17 =>
  cIn .i64 v17 fun n18 =>
  some ((.int .i64 n18), p16.2)
  else some (undef, p16.2)).bind fun p19 =>
  (bif wantV (.bool b15) true then
  aBin Try.prog .sub 3 p19.1 (.int .i64 1) fun v20 =>
  some (v20, p19.2)
  else some (undef, p19.2)).bind fun p21 =>
  (bif wantV (.bool b15) true then
  cl (rc md 67 [p21.1, (.int .i64 8)] p21.2) fun v22 h23 =>
  cBn v22 fun b24 =>
  some ((.bool b24), h23)
  else some (undef, p21.2)).bind fun p25 =>
  cBn (bif b15 then p25.1 else (.bool false)) fun b26 =>
  some ((.bool b26), h0)
theorem F44_eq0 (rc : Rec) (md : Md) (a0_0 : Int) (a0_1 : Int) (a0_2 : Int) (h0 : Heap) : callStep0 Try.prog cfg rc md 44 [(.agg #[(.int .i64 a0_0), (.int .i64 a0_1), (.int .i64 a0_2)])] h0 = F44 rc ⟨h0.length, h0.length⟩ a0_0 a0_1 a0_2 h0 := by kernel_rfl
theorem F44_eq (rc : Rec) (md : Md) (a0_0 : Int) (a0_1 : Int) (a0_2 : Int) (h0 : Heap) : callStep Try.prog cfg rc md 44 [(.agg #[(.int .i64 a0_0), (.int .i64 a0_1), (.int .i64 a0_2)])] h0 = alone h0 (F44 rc ⟨0, 0⟩ a0_0 a0_1 a0_2 []) := by
  have e : callStep Try.prog cfg rc md 44 [(.agg #[(.int .i64 a0_0), (.int .i64 a0_1), (.int .i64 a0_2)])] h0 = alone h0 (callStep0 Try.prog cfg rc ⟨0, 0⟩ 44 [(.agg #[(.int .i64 a0_0), (.int .i64 a0_1), (.int .i64 a0_2)])] []) := by kernel_rfl
  rw [e, F44_eq0]; rfl

/-- tombolo/cell.New -/
noncomputable def F45 (rc : Rec) (md : Md) (a0 : Int) (h0 : Heap) : Option (Value × Heap) :=
  (bif wantV (.bool (decide (a0 < 0))) false then
  some ((.int .i64 a0), h0)
  else some (undef, h0)).bind fun p1 =>
  (bif wantV (.bool (decide (a0 < 0))) false then
  aBin Try.prog .gtr 3 p1.1 (.int .i64 16384) fun v2 =>
  some (v2, p1.2)
  else some (undef, p1.2)).bind fun p3 =>
  cBn (bif (decide (a0 < 0)) then (.bool true) else p3.1) fun b4 =>
  bif b4 then
    some ((.tuple #[(.pointer none), (.int .i64 11)]), p3.2)
  else
    aMakeSlice Try.prog 50 (.int .i64 a0) (.int .i64 a0) p3.2 fun v5 h6 =>
    aBuild Try.prog 104 [(0, v5)] fun v7 =>
    let h8 : Heap := h6 ++ [.own v7.cells.toList]
    some ((.tuple #[(.pointer (some ⟨h6.length, 0, none⟩)), (.int .i64 0)]), h8)
theorem F45_eq0 (rc : Rec) (md : Md) (a0 : Int) (h0 : Heap) : callStep0 Try.prog cfg rc md 45 [(.int .i64 a0)] h0 = F45 rc md a0 h0 := by kernel_rfl
theorem F45_eq (rc : Rec) (md : Md) (a0 : Int) (h0 : Heap) : callStep Try.prog cfg rc md 45 [(.int .i64 a0)] h0 = F45 rc md a0 h0 := (callStep_ne (by kernel_rfl)).trans (F45_eq0 rc md a0 h0)

/-- (tombolo/tomboloref05.Lay).Cells -/
noncomputable def Jk48_8 (rc : Rec) (md : Md) (h0 : Heap) (e : Exit) (s1 : Value) (s2 : Value) (s3 : Value) (s10 : Value) (h : Heap) : Option (Value × Heap) :=
  match e with
  | .normal =>
    some (s3, h)
  | .exit j =>
    bif Nat.beq j 12 then
      some (s3, h)
    else
      none
  | .ret =>
    some (s2, h)
  | .goto l => none
  | .panic ps => none
  | .outgrown => none
theorem Jk48_8_at (rc : Rec) (md : Md) (h0 : Heap) (e : Exit) (t : T) (h : Heap) : kAt Try.prog cfg rc md 106 (bodyOf Try.prog 48) [1, 1, 1, 1, 1, 1, 1, 0, 1, 0] (retK Try.prog cfg 48 (rsOf Try.prog 48) h0) e t h = Jk48_8 rc md h0 e (t 1) (t 2) (t 3) (t 10) h := by cases e <;> kernel_rfl
noncomputable def Jk48_8b0 (rc : Rec) (md : Md) (e : Exit) (s1 : Value) (s2 : Value) (s3 : Value) (s10 : Value) (s11 : Value) (h : Heap) : Option (((Value × Value × Value × Value) × Heap) ⊕ (Exit × (Value × Value × Value × Value) × Heap)) :=
  match e with
  | .normal =>
    aBin Try.prog .add 3 s10 (.int .i64 1) fun v1 =>
    some (.inl ((s1, s2, s3, v1), h))
  | .exit j =>
    bif Nat.beq j 14 then
      aBin Try.prog .add 3 s10 (.int .i64 1) fun v2 =>
      some (.inl ((s1, s2, s3, v2), h))
    else
      bif Nat.beq j 13 then
        aBin Try.prog .add 3 s10 (.int .i64 1) fun v3 =>
        some (.inl ((s1, s2, s3, v3), h))
      else
        some (.inr ((.exit j), (s1, s2, s3, s10), h))
  | .ret =>
    some (.inr (.ret, (s1, s2, s3, s10), h))
  | .goto l => some (.inr ((.goto l), (s1, s2, s3, s10), h))
  | .panic ps => some (.inr ((.panic ps), (s1, s2, s3, s10), h))
  | .outgrown => some (.inr (.outgrown, (s1, s2, s3, s10), h))
theorem Jk48_8b0_at (rc : Rec) (md : Md) (e : Exit) (t : T) (h : Heap) : kAt Try.prog cfg rc md 106 (sub (bodyOf Try.prog 48) [1, 1, 1, 1, 1, 1, 1, 0, 1, 0, 0]) [1, 0, 0, 1, 0] (rndK (fun t => (t 1, t 2, t 3, t 10))) e t h = Jk48_8b0 rc md e (t 1) (t 2) (t 3) (t 10) (t 11) h := by cases e <;> kernel_rfl
/-- a round -/
noncomputable def Jr48_8b0 (rc : Rec) (md : Md) (s1 : Value) (s2 : Value) (s3 : Value) (s10 : Value) (s11 : Value) (h : Heap) : Option (((Value × Value × Value × Value × Value) × Heap) ⊕ (Exit × (Value × Value × Value × Value × Value) × Heap)) :=
  aBin Try.prog .lss 3 s11 (.int .i64 7) fun v1 =>
  cBn v1 fun b2 =>
  bif b2 then
    aBuild Try.prog 100 [(0, (.int .i64 10)), (1, s10), (2, s11), (3, (.int .i64 0))] fun v3 =>
    aBuildSlice Try.prog 63 1 [(0, v3)] h fun v4 h5 =>
    aBuiltin Try.prog md .append #[63, 63] [s3, v4] h5 fun v6 h7 =>
    aBin Try.prog .add 3 s11 (.int .i64 1) fun v8 =>
    some (.inl ((s1, s2, v6, s10, v8), h7))
  else
    some (.inr ((.exit 14), (s1, s2, s3, s10, s11), h))
theorem Jr48_8b0_at (rc : Rec) (md : Md) (t : T) (h : Heap) : exec Try.prog cfg rc md 106 (sub (bodyOf Try.prog 48) [1, 1, 1, 1, 1, 1, 1, 0, 1, 0, 0, 1, 0, 0, 1, 0, 0]) (rndK (fun t => (t 1, t 2, t 3, t 10, t 11))) t h = Jr48_8b0 rc md (t 1) (t 2) (t 3) (t 10) (t 11) h := by kernel_rfl
noncomputable def J48_8b0 (rc : Rec) (md : Md) (s1 : Value) (s2 : Value) (s3 : Value) (s10 : Value) (s11 : Value) (h : Heap) : Option (((Value × Value × Value × Value) × Heap) ⊕ (Exit × (Value × Value × Value × Value) × Heap)) :=
  runL (fun x : (Value × Value × Value × Value × Value) × Heap => Jr48_8b0 rc md x.1.1 x.1.2.1 x.1.2.2.1 x.1.2.2.2.1 x.1.2.2.2.2 x.2) (fun e (s : Value × Value × Value × Value × Value) h => Jk48_8b0 rc md e s.1 s.2.1 s.2.2.1 s.2.2.2.1 s.2.2.2.2 h) (s1, s2, s3, s10, s11) h
theorem J48_8b0_step (rc : Rec) (md : Md) (s1 : Value) (s2 : Value) (s3 : Value) (s10 : Value) (s11 : Value) (h : Heap) : J48_8b0 rc md s1 s2 s3 s10 s11 h = (Jr48_8b0 rc md s1 s2 s3 s10 s11 h).bind fun x => match x with
    | .inl (s, h) => J48_8b0 rc md s.1 s.2.1 s.2.2.1 s.2.2.2.1 s.2.2.2.2 h
    | .inr (e, s, h) => Jk48_8b0 rc md e s.1 s.2.1 s.2.2.1 s.2.2.2.1 s.2.2.2.2 h := by
  unfold J48_8b0
  rw [runL_eq]
  refine congrArg (Option.bind _) (funext fun x => ?_)
  rcases x with ⟨s, h⟩ | ⟨e, s, h⟩ <;> rfl
theorem J48_8b0_cut (rc : Rec) (md : Md) : cut Try.prog cfg rc md 106 (sub (bodyOf Try.prog 48) [1, 1, 1, 1, 1, 1, 1, 0, 1, 0, 0]) [1, 0, 0, 1, 0] (rndK (fun t => (t 1, t 2, t 3, t 10))) = fun t h => J48_8b0 rc md (t 1) (t 2) (t 3) (t 10) (t 11) h := by
  funext t h
  have e : sub (sub (bodyOf Try.prog 48) [1, 1, 1, 1, 1, 1, 1, 0, 1, 0, 0]) [1, 0, 0, 1, 0] = .loop (sub (bodyOf Try.prog 48) [1, 1, 1, 1, 1, 1, 1, 0, 1, 0, 0, 1, 0, 0, 1, 0, 0]) := by kernel_rfl
  unfold cut
  rw [e]
  exact loop_eq (by kernel_rfl) (fun t => (t 1, t 2, t 3, t 10, t 11)) (fun x : (Value × Value × Value × Value × Value) × Heap => Jr48_8b0 rc md x.1.1 x.1.2.1 x.1.2.2.1 x.1.2.2.2.1 x.1.2.2.2.2 x.2) (fun t h => Jr48_8b0_at rc md t h) (fun e (s : Value × Value × Value × Value × Value) h => Jk48_8b0 rc md e s.1 s.2.1 s.2.2.1 s.2.2.2.1 s.2.2.2.2 h) (fun e t h => Jk48_8b0_at rc md e t h) t h
/-- a round -/
noncomputable def Jr48_8 (rc : Rec) (md : Md) (s1 : Value) (s2 : Value) (s3 : Value) (s10 : Value) (h : Heap) : Option (((Value × Value × Value × Value) × Heap) ⊕ (Exit × (Value × Value × Value × Value) × Heap)) :=
  ldN 3 s1 h fun v1 =>
  cl (rc md 49 [v1] h) fun v2 h3 =>
  lenS v2 fun v4 =>
  cIn .i64 v4 fun n5 =>
  aBin Try.prog .leq 3 s10 (.int .i64 n5) fun v6 =>
  cBn v6 fun b7 =>
  bif b7 then
    J48_8b0 rc md s1 s2 s3 s10 (.int .i64 0) h3
  else
    some (.inr ((.exit 12), (s1, s2, s3, s10), h3))
noncomputable def Jr48_8H (rc : Rec) (md : Md) (X0 : T → Heap → Option (((Value × Value × Value × Value) × Heap) ⊕ (Exit × (Value × Value × Value × Value) × Heap))) (t : T) (h : Heap) : Option (((Value × Value × Value × Value) × Heap) ⊕ (Exit × (Value × Value × Value × Value) × Heap)) :=
  ldN 3 (t 1) h fun v1 =>
  cl (rc md 49 [v1] h) fun v2 h3 =>
  lenS v2 fun v4 =>
  cIn .i64 v4 fun n5 =>
  aBin Try.prog .leq 3 (t 10) (.int .i64 n5) fun v6 =>
  cBn v6 fun b7 =>
  bif b7 then
    X0 (upd (upd (upd (upd (upd (upd t 88 (t 10)) 89 v1) 90 v2) 91 (.int .i64 n5)) 92 v6) 11 (.int .i64 0)) h3
  else
    some (.inr ((.exit 12), ((t 1), (t 2), (t 3), (t 10)), h3))
theorem Jr48_8_h1 (rc : Rec) (md : Md) (X : Nat → T → Heap → Option (((Value × Value × Value × Value) × Heap) ⊕ (Exit × (Value × Value × Value × Value) × Heap))) (t : T) (h : Heap) : execG Try.prog cfg X rc md 106 (replS (sub (bodyOf Try.prog 48) [1, 1, 1, 1, 1, 1, 1, 0, 1, 0, 0]) [([1, 0, 0, 1, 0], 0)]) (rndK (fun t => (t 1, t 2, t 3, t 10))) t h = Jr48_8H rc md (X 0) t h := by kernel_rfl
theorem Jr48_8_h2 (rc : Rec) (md : Md) (t : T) (h : Heap) : Jr48_8H rc md (fun t h => J48_8b0 rc md (t 1) (t 2) (t 3) (t 10) (t 11) h) t h = Jr48_8 rc md (t 1) (t 2) (t 3) (t 10) h := by unfold Jr48_8H Jr48_8; kernel_rfl
theorem Jr48_8_at (rc : Rec) (md : Md) (t : T) (h : Heap) : exec Try.prog cfg rc md 106 (sub (bodyOf Try.prog 48) [1, 1, 1, 1, 1, 1, 1, 0, 1, 0, 0]) (rndK (fun t => (t 1, t 2, t 3, t 10))) t h = Jr48_8 rc md (t 1) (t 2) (t 3) (t 10) h := by
  rw [exec_holes [([1, 0, 0, 1, 0], 0)] (by kernel_rfl), Jr48_8_h1, show (goX Try.prog cfg rc md 106 (sub (bodyOf Try.prog 48) [1, 1, 1, 1, 1, 1, 1, 0, 1, 0, 0]) [([1, 0, 0, 1, 0], 0)] (rndK (fun t => (t 1, t 2, t 3, t 10)))) 0 = _ from J48_8b0_cut rc md]
  exact Jr48_8_h2 rc md t h
noncomputable def J48_8 (rc : Rec) (md : Md) (h0 : Heap) (s1 : Value) (s2 : Value) (s3 : Value) (s10 : Value) (h : Heap) : Option (Value × Heap) :=
  runL (fun x : (Value × Value × Value × Value) × Heap => Jr48_8 rc md x.1.1 x.1.2.1 x.1.2.2.1 x.1.2.2.2 x.2) (fun e (s : Value × Value × Value × Value) h => Jk48_8 rc md h0 e s.1 s.2.1 s.2.2.1 s.2.2.2 h) (s1, s2, s3, s10) h
theorem J48_8_step (rc : Rec) (md : Md) (h0 : Heap) (s1 : Value) (s2 : Value) (s3 : Value) (s10 : Value) (h : Heap) : J48_8 rc md h0 s1 s2 s3 s10 h = (Jr48_8 rc md s1 s2 s3 s10 h).bind fun x => match x with
    | .inl (s, h) => J48_8 rc md h0 s.1 s.2.1 s.2.2.1 s.2.2.2 h
    | .inr (e, s, h) => Jk48_8 rc md h0 e s.1 s.2.1 s.2.2.1 s.2.2.2 h := by
  unfold J48_8
  rw [runL_eq]
  refine congrArg (Option.bind _) (funext fun x => ?_)
  rcases x with ⟨s, h⟩ | ⟨e, s, h⟩ <;> rfl
theorem J48_8_cut (rc : Rec) (md : Md) (h0 : Heap) : cut Try.prog cfg rc md 106 (bodyOf Try.prog 48) [1, 1, 1, 1, 1, 1, 1, 0, 1, 0] (retK Try.prog cfg 48 (rsOf Try.prog 48) h0) = fun t h => J48_8 rc md h0 (t 1) (t 2) (t 3) (t 10) h := by
  funext t h
  have e : sub (bodyOf Try.prog 48) [1, 1, 1, 1, 1, 1, 1, 0, 1, 0] = .loop (sub (bodyOf Try.prog 48) [1, 1, 1, 1, 1, 1, 1, 0, 1, 0, 0]) := by kernel_rfl
  unfold cut
  rw [e]
  exact loop_eq (by kernel_rfl) (fun t => (t 1, t 2, t 3, t 10)) (fun x : (Value × Value × Value × Value) × Heap => Jr48_8 rc md x.1.1 x.1.2.1 x.1.2.2.1 x.1.2.2.2 x.2) (fun t h => Jr48_8_at rc md t h) (fun e (s : Value × Value × Value × Value) h => Jk48_8 rc md h0 e s.1 s.2.1 s.2.2.1 s.2.2.2 h) (fun e t h => Jk48_8_at rc md h0 e t h) t h
noncomputable def J48_7 (rc : Rec) (md : Md) (h0 : Heap) (s1 : Value) (s2 : Value) (s3 : Value) (h : Heap) : Option (Value × Heap) :=
  J48_8 rc md h0 s1 s2 s3 (.int .i64 1) h
noncomputable def J48_7H (rc : Rec) (md : Md) (h0 : Heap) (X4 : T → Heap → Option (Value × Heap)) (t : T) (h : Heap) : Option (Value × Heap) :=
  X4 (upd t 10 (.int .i64 1)) h
theorem J48_7_h1 (rc : Rec) (md : Md) (h0 : Heap) (X : Nat → T → Heap → Option (Value × Heap)) (t : T) (h : Heap) : execG Try.prog cfg X rc md 106 (sub (replS (bodyOf Try.prog 48) [([1, 1, 0, 1, 0], 0), ([1, 1, 1, 1, 0, 1, 0], 1), ([1, 1, 1, 1, 1, 0, 1, 0], 2), ([1, 1, 1, 1, 1, 1, 0, 1, 0], 3), ([1, 1, 1, 1, 1, 1, 1, 0, 1, 0], 4)]) [1, 1, 1, 1, 1, 1, 1]) (kAtG Try.prog cfg X rc md 106 (replS (bodyOf Try.prog 48) [([1, 1, 0, 1, 0], 0), ([1, 1, 1, 1, 0, 1, 0], 1), ([1, 1, 1, 1, 1, 0, 1, 0], 2), ([1, 1, 1, 1, 1, 1, 0, 1, 0], 3), ([1, 1, 1, 1, 1, 1, 1, 0, 1, 0], 4)]) [1, 1, 1, 1, 1, 1, 1] (retK Try.prog cfg 48 (rsOf Try.prog 48) h0)) t h = J48_7H rc md h0 (X 4) t h := by kernel_rfl
theorem J48_7_h2 (rc : Rec) (md : Md) (h0 : Heap) (t : T) (h : Heap) : J48_7H rc md h0 (fun t h => J48_8 rc md h0 (t 1) (t 2) (t 3) (t 10) h) t h = J48_7 rc md h0 (t 1) (t 2) (t 3) h := by (unfold J48_7H J48_7; kernel_rfl)
theorem J48_7_at (rc : Rec) (md : Md) (h0 : Heap) (t : T) (h : Heap) : cut Try.prog cfg rc md 106 (bodyOf Try.prog 48) [1, 1, 1, 1, 1, 1, 1] (retK Try.prog cfg 48 (rsOf Try.prog 48) h0) t h = J48_7 rc md h0 (t 1) (t 2) (t 3) h := by
  rw [cut_holes [([1, 1, 0, 1, 0], 0), ([1, 1, 1, 1, 0, 1, 0], 1), ([1, 1, 1, 1, 1, 0, 1, 0], 2), ([1, 1, 1, 1, 1, 1, 0, 1, 0], 3), ([1, 1, 1, 1, 1, 1, 1, 0, 1, 0], 4)] [1, 1, 1, 1, 1, 1, 1] (by kernel_rfl), J48_7_h1, show (goX Try.prog cfg rc md 106 (bodyOf Try.prog 48) [([1, 1, 0, 1, 0], 0), ([1, 1, 1, 1, 0, 1, 0], 1), ([1, 1, 1, 1, 1, 0, 1, 0], 2), ([1, 1, 1, 1, 1, 1, 0, 1, 0], 3), ([1, 1, 1, 1, 1, 1, 1, 0, 1, 0], 4)] (retK Try.prog cfg 48 (rsOf Try.prog 48) h0)) 4 = _ from J48_8_cut rc md h0]
  exact J48_7_h2 rc md h0 t h
theorem J48_7_cut (rc : Rec) (md : Md) (h0 : Heap) : cut Try.prog cfg rc md 106 (bodyOf Try.prog 48) [1, 1, 1, 1, 1, 1, 1] (retK Try.prog cfg 48 (rsOf Try.prog 48) h0) = fun t h => J48_7 rc md h0 (t 1) (t 2) (t 3) h := funext fun t => funext fun h => J48_7_at rc md h0 t h
noncomputable def Jk48_6 (rc : Rec) (md : Md) (h0 : Heap) (e : Exit) (s1 : Value) (s2 : Value) (s3 : Value) (s8 : Value) (h : Heap) : Option (Value × Heap) :=
  match e with
  | .normal =>
    J48_7 rc md h0 s1 s2 s3 h
  | .exit j =>
    bif Nat.beq j 8 then
      J48_7 rc md h0 s1 s2 s3 h
    else
      none
  | .ret =>
    some (s2, h)
  | .goto l => none
  | .panic ps => none
  | .outgrown => none
noncomputable def Jk48_6H (rc : Rec) (md : Md) (h0 : Heap) (X5 : T → Heap → Option (Value × Heap)) (e : Exit) (t : T) (h : Heap) : Option (Value × Heap) :=
  match e with
  | .normal =>
    X5 t h
  | .exit j =>
    bif Nat.beq j 8 then
      X5 t h
    else
      none
  | .ret =>
    some ((t 2), h)
  | .goto l => none
  | .panic ps => none
  | .outgrown => none
theorem Jk48_6_h1 (rc : Rec) (md : Md) (h0 : Heap) (X : Nat → T → Heap → Option (Value × Heap)) (e : Exit) (t : T) (h : Heap) : kAtG Try.prog cfg X rc md 106 (replS (bodyOf Try.prog 48) [([1, 1, 0, 1, 0], 0), ([1, 1, 1, 1, 0, 1, 0], 1), ([1, 1, 1, 1, 1, 0, 1, 0], 2), ([1, 1, 1, 1, 1, 1, 1, 0, 1, 0], 4), ([1, 1, 1, 1, 1, 1, 1], 5)]) [1, 1, 1, 1, 1, 1, 0, 1, 0] (retK Try.prog cfg 48 (rsOf Try.prog 48) h0) e t h = Jk48_6H rc md h0 (X 5) e t h := by cases e <;> kernel_rfl
theorem Jk48_6_h2 (rc : Rec) (md : Md) (h0 : Heap) (e : Exit) (t : T) (h : Heap) : Jk48_6H rc md h0 (fun t h => J48_7 rc md h0 (t 1) (t 2) (t 3) h) e t h = Jk48_6 rc md h0 e (t 1) (t 2) (t 3) (t 8) h := by cases e <;> (unfold Jk48_6H Jk48_6; kernel_rfl)
theorem Jk48_6_at (rc : Rec) (md : Md) (h0 : Heap) (e : Exit) (t : T) (h : Heap) : kAt Try.prog cfg rc md 106 (bodyOf Try.prog 48) [1, 1, 1, 1, 1, 1, 0, 1, 0] (retK Try.prog cfg 48 (rsOf Try.prog 48) h0) e t h = Jk48_6 rc md h0 e (t 1) (t 2) (t 3) (t 8) h := by
  rw [kAt_holes [([1, 1, 0, 1, 0], 0), ([1, 1, 1, 1, 0, 1, 0], 1), ([1, 1, 1, 1, 1, 0, 1, 0], 2), ([1, 1, 1, 1, 1, 1, 1, 0, 1, 0], 4), ([1, 1, 1, 1, 1, 1, 1], 5)] [1, 1, 1, 1, 1, 1, 0, 1, 0] (by kernel_rfl), Jk48_6_h1, show (goX Try.prog cfg rc md 106 (bodyOf Try.prog 48) [([1, 1, 0, 1, 0], 0), ([1, 1, 1, 1, 0, 1, 0], 1), ([1, 1, 1, 1, 1, 0, 1, 0], 2), ([1, 1, 1, 1, 1, 1, 1, 0, 1, 0], 4), ([1, 1, 1, 1, 1, 1, 1], 5)] (retK Try.prog cfg 48 (rsOf Try.prog 48) h0)) 5 = _ from J48_7_cut rc md h0]
  exact Jk48_6_h2 rc md h0 e t h
noncomputable def Jk48_6b0 (rc : Rec) (md : Md) (e : Exit) (s1 : Value) (s2 : Value) (s3 : Value) (s8 : Value) (s9 : Value) (h : Heap) : Option (((Value × Value × Value × Value) × Heap) ⊕ (Exit × (Value × Value × Value × Value) × Heap)) :=
  match e with
  | .normal =>
    aBin Try.prog .add 3 s8 (.int .i64 1) fun v1 =>
    some (.inl ((s1, s2, s3, v1), h))
  | .exit j =>
    bif Nat.beq j 10 then
      aBin Try.prog .add 3 s8 (.int .i64 1) fun v2 =>
      some (.inl ((s1, s2, s3, v2), h))
    else
      bif Nat.beq j 9 then
        aBin Try.prog .add 3 s8 (.int .i64 1) fun v3 =>
        some (.inl ((s1, s2, s3, v3), h))
      else
        some (.inr ((.exit j), (s1, s2, s3, s8), h))
  | .ret =>
    some (.inr (.ret, (s1, s2, s3, s8), h))
  | .goto l => some (.inr ((.goto l), (s1, s2, s3, s8), h))
  | .panic ps => some (.inr ((.panic ps), (s1, s2, s3, s8), h))
  | .outgrown => some (.inr (.outgrown, (s1, s2, s3, s8), h))
theorem Jk48_6b0_at (rc : Rec) (md : Md) (e : Exit) (t : T) (h : Heap) : kAt Try.prog cfg rc md 106 (sub (bodyOf Try.prog 48) [1, 1, 1, 1, 1, 1, 0, 1, 0, 0]) [1, 0, 0, 1, 0] (rndK (fun t => (t 1, t 2, t 3, t 8))) e t h = Jk48_6b0 rc md e (t 1) (t 2) (t 3) (t 8) (t 9) h := by cases e <;> kernel_rfl
/-- a round -/
noncomputable def Jr48_6b0 (rc : Rec) (md : Md) (s1 : Value) (s2 : Value) (s3 : Value) (s8 : Value) (s9 : Value) (h : Heap) : Option (((Value × Value × Value × Value × Value) × Heap) ⊕ (Exit × (Value × Value × Value × Value × Value) × Heap)) :=
  fA 0 s1 fun v1 =>
  ld1 v1 h fun v2 =>
  cIn .i64 v2 fun n3 =>
  aBin Try.prog .lss 3 s9 (.int .i64 n3) fun v4 =>
  cBn v4 fun b5 =>
  bif b5 then
    aBuild Try.prog 100 [(0, (.int .i64 9)), (1, s8), (2, s9), (3, (.int .i64 0))] fun v6 =>
    aBuildSlice Try.prog 63 1 [(0, v6)] h fun v7 h8 =>
    aBuiltin Try.prog md .append #[63, 63] [s3, v7] h8 fun v9 h10 =>
    aBin Try.prog .add 3 s9 (.int .i64 1) fun v11 =>
    some (.inl ((s1, s2, v9, s8, v11), h10))
  else
    some (.inr ((.exit 10), (s1, s2, s3, s8, s9), h))
theorem Jr48_6b0_at (rc : Rec) (md : Md) (t : T) (h : Heap) : exec Try.prog cfg rc md 106 (sub (bodyOf Try.prog 48) [1, 1, 1, 1, 1, 1, 0, 1, 0, 0, 1, 0, 0, 1, 0, 0]) (rndK (fun t => (t 1, t 2, t 3, t 8, t 9))) t h = Jr48_6b0 rc md (t 1) (t 2) (t 3) (t 8) (t 9) h := by kernel_rfl
noncomputable def J48_6b0 (rc : Rec) (md : Md) (s1 : Value) (s2 : Value) (s3 : Value) (s8 : Value) (s9 : Value) (h : Heap) : Option (((Value × Value × Value × Value) × Heap) ⊕ (Exit × (Value × Value × Value × Value) × Heap)) :=
  runL (fun x : (Value × Value × Value × Value × Value) × Heap => Jr48_6b0 rc md x.1.1 x.1.2.1 x.1.2.2.1 x.1.2.2.2.1 x.1.2.2.2.2 x.2) (fun e (s : Value × Value × Value × Value × Value) h => Jk48_6b0 rc md e s.1 s.2.1 s.2.2.1 s.2.2.2.1 s.2.2.2.2 h) (s1, s2, s3, s8, s9) h
theorem J48_6b0_step (rc : Rec) (md : Md) (s1 : Value) (s2 : Value) (s3 : Value) (s8 : Value) (s9 : Value) (h : Heap) : J48_6b0 rc md s1 s2 s3 s8 s9 h = (Jr48_6b0 rc md s1 s2 s3 s8 s9 h).bind fun x => match x with
    | .inl (s, h) => J48_6b0 rc md s.1 s.2.1 s.2.2.1 s.2.2.2.1 s.2.2.2.2 h
    | .inr (e, s, h) => Jk48_6b0 rc md e s.1 s.2.1 s.2.2.1 s.2.2.2.1 s.2.2.2.2 h := by
  unfold J48_6b0
  rw [runL_eq]
  refine congrArg (Option.bind _) (funext fun x => ?_)
  rcases x with ⟨s, h⟩ | ⟨e, s, h⟩ <;> rfl
theorem J48_6b0_cut (rc : Rec) (md : Md) : cut Try.prog cfg rc md 106 (sub (bodyOf Try.prog 48) [1, 1, 1, 1, 1, 1, 0, 1, 0, 0]) [1, 0, 0, 1, 0] (rndK (fun t => (t 1, t 2, t 3, t 8))) = fun t h => J48_6b0 rc md (t 1) (t 2) (t 3) (t 8) (t 9) h := by
  funext t h
  have e : sub (sub (bodyOf Try.prog 48) [1, 1, 1, 1, 1, 1, 0, 1, 0, 0]) [1, 0, 0, 1, 0] = .loop (sub (bodyOf Try.prog 48) [1, 1, 1, 1, 1, 1, 0, 1, 0, 0, 1, 0, 0, 1, 0, 0]) := by kernel_rfl
  unfold cut
  rw [e]
  exact loop_eq (by kernel_rfl) (fun t => (t 1, t 2, t 3, t 8, t 9)) (fun x : (Value × Value × Value × Value × Value) × Heap => Jr48_6b0 rc md x.1.1 x.1.2.1 x.1.2.2.1 x.1.2.2.2.1 x.1.2.2.2.2 x.2) (fun t h => Jr48_6b0_at rc md t h) (fun e (s : Value × Value × Value × Value × Value) h => Jk48_6b0 rc md e s.1 s.2.1 s.2.2.1 s.2.2.2.1 s.2.2.2.2 h) (fun e t h => Jk48_6b0_at rc md e t h) t h
/-- a round -/
noncomputable def Jr48_6 (rc : Rec) (md : Md) (s1 : Value) (s2 : Value) (s3 : Value) (s8 : Value) (h : Heap) : Option (((Value × Value × Value × Value) × Heap) ⊕ (Exit × (Value × Value × Value × Value) × Heap)) :=
  fA 0 s1 fun v1 =>
  ld1 v1 h fun v2 =>
  cIn .i64 v2 fun n3 =>
  aBin Try.prog .lss 3 s8 (.int .i64 n3) fun v4 =>
  cBn v4 fun b5 =>
  bif b5 then
    aBin Try.prog .add 3 s8 (.int .i64 1) fun v6 =>
    J48_6b0 rc md s1 s2 s3 s8 v6 h
  else
    some (.inr ((.exit 8), (s1, s2, s3, s8), h))
noncomputable def Jr48_6H (rc : Rec) (md : Md) (X0 : T → Heap → Option (((Value × Value × Value × Value) × Heap) ⊕ (Exit × (Value × Value × Value × Value) × Heap))) (t : T) (h : Heap) : Option (((Value × Value × Value × Value) × Heap) ⊕ (Exit × (Value × Value × Value × Value) × Heap)) :=
  fA 0 (t 1) fun v1 =>
  ld1 v1 h fun v2 =>
  cIn .i64 v2 fun n3 =>
  aBin Try.prog .lss 3 (t 8) (.int .i64 n3) fun v4 =>
  cBn v4 fun b5 =>
  bif b5 then
    aBin Try.prog .add 3 (t 8) (.int .i64 1) fun v6 =>
    X0 (upd (upd (upd (upd (upd (upd (upd t 68 (t 8)) 69 v1) 70 (.int .i64 n3)) 71 v4) 74 (t 8)) 75 v6) 9 v6) h
  else
    some (.inr ((.exit 8), ((t 1), (t 2), (t 3), (t 8)), h))
theorem Jr48_6_h1 (rc : Rec) (md : Md) (X : Nat → T → Heap → Option (((Value × Value × Value × Value) × Heap) ⊕ (Exit × (Value × Value × Value × Value) × Heap))) (t : T) (h : Heap) : execG Try.prog cfg X rc md 106 (replS (sub (bodyOf Try.prog 48) [1, 1, 1, 1, 1, 1, 0, 1, 0, 0]) [([1, 0, 0, 1, 0], 0)]) (rndK (fun t => (t 1, t 2, t 3, t 8))) t h = Jr48_6H rc md (X 0) t h := by kernel_rfl
theorem Jr48_6_h2 (rc : Rec) (md : Md) (t : T) (h : Heap) : Jr48_6H rc md (fun t h => J48_6b0 rc md (t 1) (t 2) (t 3) (t 8) (t 9) h) t h = Jr48_6 rc md (t 1) (t 2) (t 3) (t 8) h := by unfold Jr48_6H Jr48_6; kernel_rfl
theorem Jr48_6_at (rc : Rec) (md : Md) (t : T) (h : Heap) : exec Try.prog cfg rc md 106 (sub (bodyOf Try.prog 48) [1, 1, 1, 1, 1, 1, 0, 1, 0, 0]) (rndK (fun t => (t 1, t 2, t 3, t 8))) t h = Jr48_6 rc md (t 1) (t 2) (t 3) (t 8) h := by
  rw [exec_holes [([1, 0, 0, 1, 0], 0)] (by kernel_rfl), Jr48_6_h1, show (goX Try.prog cfg rc md 106 (sub (bodyOf Try.prog 48) [1, 1, 1, 1, 1, 1, 0, 1, 0, 0]) [([1, 0, 0, 1, 0], 0)] (rndK (fun t => (t 1, t 2, t 3, t 8)))) 0 = _ from J48_6b0_cut rc md]
  exact Jr48_6_h2 rc md t h
noncomputable def J48_6 (rc : Rec) (md : Md) (h0 : Heap) (s1 : Value) (s2 : Value) (s3 : Value) (s8 : Value) (h : Heap) : Option (Value × Heap) :=
  runL (fun x : (Value × Value × Value × Value) × Heap => Jr48_6 rc md x.1.1 x.1.2.1 x.1.2.2.1 x.1.2.2.2 x.2) (fun e (s : Value × Value × Value × Value) h => Jk48_6 rc md h0 e s.1 s.2.1 s.2.2.1 s.2.2.2 h) (s1, s2, s3, s8) h
theorem J48_6_step (rc : Rec) (md : Md) (h0 : Heap) (s1 : Value) (s2 : Value) (s3 : Value) (s8 : Value) (h : Heap) : J48_6 rc md h0 s1 s2 s3 s8 h = (Jr48_6 rc md s1 s2 s3 s8 h).bind fun x => match x with
    | .inl (s, h) => J48_6 rc md h0 s.1 s.2.1 s.2.2.1 s.2.2.2 h
    | .inr (e, s, h) => Jk48_6 rc md h0 e s.1 s.2.1 s.2.2.1 s.2.2.2 h := by
  unfold J48_6
  rw [runL_eq]
  refine congrArg (Option.bind _) (funext fun x => ?_)
  rcases x with ⟨s, h⟩ | ⟨e, s, h⟩ <;> rfl
theorem J48_6_cut (rc : Rec) (md : Md) (h0 : Heap) : cut Try.prog cfg rc md 106 (bodyOf Try.prog 48) [1, 1, 1, 1, 1, 1, 0, 1, 0] (retK Try.prog cfg 48 (rsOf Try.prog 48) h0) = fun t h => J48_6 rc md h0 (t 1) (t 2) (t 3) (t 8) h := by
  funext t h
  have e : sub (bodyOf Try.prog 48) [1, 1, 1, 1, 1, 1, 0, 1, 0] = .loop (sub (bodyOf Try.prog 48) [1, 1, 1, 1, 1, 1, 0, 1, 0, 0]) := by kernel_rfl
  unfold cut
  rw [e]
  exact loop_eq (by kernel_rfl) (fun t => (t 1, t 2, t 3, t 8)) (fun x : (Value × Value × Value × Value) × Heap => Jr48_6 rc md x.1.1 x.1.2.1 x.1.2.2.1 x.1.2.2.2 x.2) (fun t h => Jr48_6_at rc md t h) (fun e (s : Value × Value × Value × Value) h => Jk48_6 rc md h0 e s.1 s.2.1 s.2.2.1 s.2.2.2 h) (fun e t h => Jk48_6_at rc md h0 e t h) t h
noncomputable def J48_5 (rc : Rec) (md : Md) (h0 : Heap) (s1 : Value) (s2 : Value) (s3 : Value) (h : Heap) : Option (Value × Heap) :=
  J48_6 rc md h0 s1 s2 s3 (.int .i64 0) h
noncomputable def J48_5H (rc : Rec) (md : Md) (h0 : Heap) (X3 : T → Heap → Option (Value × Heap)) (t : T) (h : Heap) : Option (Value × Heap) :=
  X3 (upd t 8 (.int .i64 0)) h
theorem J48_5_h1 (rc : Rec) (md : Md) (h0 : Heap) (X : Nat → T → Heap → Option (Value × Heap)) (t : T) (h : Heap) : execG Try.prog cfg X rc md 106 (sub (replS (bodyOf Try.prog 48) [([1, 1, 0, 1, 0], 0), ([1, 1, 1, 1, 0, 1, 0], 1), ([1, 1, 1, 1, 1, 0, 1, 0], 2), ([1, 1, 1, 1, 1, 1, 0, 1, 0], 3), ([1, 1, 1, 1, 1, 1, 1, 0, 1, 0], 4), ([1, 1, 1, 1, 1, 1, 1], 5)]) [1, 1, 1, 1, 1, 1]) (kAtG Try.prog cfg X rc md 106 (replS (bodyOf Try.prog 48) [([1, 1, 0, 1, 0], 0), ([1, 1, 1, 1, 0, 1, 0], 1), ([1, 1, 1, 1, 1, 0, 1, 0], 2), ([1, 1, 1, 1, 1, 1, 0, 1, 0], 3), ([1, 1, 1, 1, 1, 1, 1, 0, 1, 0], 4), ([1, 1, 1, 1, 1, 1, 1], 5)]) [1, 1, 1, 1, 1, 1] (retK Try.prog cfg 48 (rsOf Try.prog 48) h0)) t h = J48_5H rc md h0 (X 3) t h := by kernel_rfl
theorem J48_5_h2 (rc : Rec) (md : Md) (h0 : Heap) (t : T) (h : Heap) : J48_5H rc md h0 (fun t h => J48_6 rc md h0 (t 1) (t 2) (t 3) (t 8) h) t h = J48_5 rc md h0 (t 1) (t 2) (t 3) h := by (unfold J48_5H J48_5; kernel_rfl)
theorem J48_5_at (rc : Rec) (md : Md) (h0 : Heap) (t : T) (h : Heap) : cut Try.prog cfg rc md 106 (bodyOf Try.prog 48) [1, 1, 1, 1, 1, 1] (retK Try.prog cfg 48 (rsOf Try.prog 48) h0) t h = J48_5 rc md h0 (t 1) (t 2) (t 3) h := by
  rw [cut_holes [([1, 1, 0, 1, 0], 0), ([1, 1, 1, 1, 0, 1, 0], 1), ([1, 1, 1, 1, 1, 0, 1, 0], 2), ([1, 1, 1, 1, 1, 1, 0, 1, 0], 3), ([1, 1, 1, 1, 1, 1, 1, 0, 1, 0], 4), ([1, 1, 1, 1, 1, 1, 1], 5)] [1, 1, 1, 1, 1, 1] (by kernel_rfl), J48_5_h1, show (goX Try.prog cfg rc md 106 (bodyOf Try.prog 48) [([1, 1, 0, 1, 0], 0), ([1, 1, 1, 1, 0, 1, 0], 1), ([1, 1, 1, 1, 1, 0, 1, 0], 2), ([1, 1, 1, 1, 1, 1, 0, 1, 0], 3), ([1, 1, 1, 1, 1, 1, 1, 0, 1, 0], 4), ([1, 1, 1, 1, 1, 1, 1], 5)] (retK Try.prog cfg 48 (rsOf Try.prog 48) h0)) 3 = _ from J48_6_cut rc md h0]
  exact J48_5_h2 rc md h0 t h
theorem J48_5_cut (rc : Rec) (md : Md) (h0 : Heap) : cut Try.prog cfg rc md 106 (bodyOf Try.prog 48) [1, 1, 1, 1, 1, 1] (retK Try.prog cfg 48 (rsOf Try.prog 48) h0) = fun t h => J48_5 rc md h0 (t 1) (t 2) (t 3) h := funext fun t => funext fun h => J48_5_at rc md h0 t h
noncomputable def Jk48_4 (rc : Rec) (md : Md) (h0 : Heap) (e : Exit) (s1 : Value) (s2 : Value) (s3 : Value) (s6 : Value) (h : Heap) : Option (Value × Heap) :=
  match e with
  | .normal =>
    J48_5 rc md h0 s1 s2 s3 h
  | .exit j =>
    bif Nat.beq j 4 then
      J48_5 rc md h0 s1 s2 s3 h
    else
      none
  | .ret =>
    some (s2, h)
  | .goto l => none
  | .panic ps => none
  | .outgrown => none
noncomputable def Jk48_4H (rc : Rec) (md : Md) (h0 : Heap) (X6 : T → Heap → Option (Value × Heap)) (e : Exit) (t : T) (h : Heap) : Option (Value × Heap) :=
  match e with
  | .normal =>
    X6 t h
  | .exit j =>
    bif Nat.beq j 4 then
      X6 t h
    else
      none
  | .ret =>
    some ((t 2), h)
  | .goto l => none
  | .panic ps => none
  | .outgrown => none
theorem Jk48_4_h1 (rc : Rec) (md : Md) (h0 : Heap) (X : Nat → T → Heap → Option (Value × Heap)) (e : Exit) (t : T) (h : Heap) : kAtG Try.prog cfg X rc md 106 (replS (bodyOf Try.prog 48) [([1, 1, 0, 1, 0], 0), ([1, 1, 1, 1, 0, 1, 0], 1), ([1, 1, 1, 1, 1, 1, 0, 1, 0], 3), ([1, 1, 1, 1, 1, 1, 1, 0, 1, 0], 4), ([1, 1, 1, 1, 1, 1, 1], 5), ([1, 1, 1, 1, 1, 1], 6)]) [1, 1, 1, 1, 1, 0, 1, 0] (retK Try.prog cfg 48 (rsOf Try.prog 48) h0) e t h = Jk48_4H rc md h0 (X 6) e t h := by cases e <;> kernel_rfl
theorem Jk48_4_h2 (rc : Rec) (md : Md) (h0 : Heap) (e : Exit) (t : T) (h : Heap) : Jk48_4H rc md h0 (fun t h => J48_5 rc md h0 (t 1) (t 2) (t 3) h) e t h = Jk48_4 rc md h0 e (t 1) (t 2) (t 3) (t 6) h := by cases e <;> (unfold Jk48_4H Jk48_4; kernel_rfl)
theorem Jk48_4_at (rc : Rec) (md : Md) (h0 : Heap) (e : Exit) (t : T) (h : Heap) : kAt Try.prog cfg rc md 106 (bodyOf Try.prog 48) [1, 1, 1, 1, 1, 0, 1, 0] (retK Try.prog cfg 48 (rsOf Try.prog 48) h0) e t h = Jk48_4 rc md h0 e (t 1) (t 2) (t 3) (t 6) h := by
  rw [kAt_holes [([1, 1, 0, 1, 0], 0), ([1, 1, 1, 1, 0, 1, 0], 1), ([1, 1, 1, 1, 1, 1, 0, 1, 0], 3), ([1, 1, 1, 1, 1, 1, 1, 0, 1, 0], 4), ([1, 1, 1, 1, 1, 1, 1], 5), ([1, 1, 1, 1, 1, 1], 6)] [1, 1, 1, 1, 1, 0, 1, 0] (by kernel_rfl), Jk48_4_h1, show (goX Try.prog cfg rc md 106 (bodyOf Try.prog 48) [([1, 1, 0, 1, 0], 0), ([1, 1, 1, 1, 0, 1, 0], 1), ([1, 1, 1, 1, 1, 1, 0, 1, 0], 3), ([1, 1, 1, 1, 1, 1, 1, 0, 1, 0], 4), ([1, 1, 1, 1, 1, 1, 1], 5), ([1, 1, 1, 1, 1, 1], 6)] (retK Try.prog cfg 48 (rsOf Try.prog 48) h0)) 6 = _ from J48_5_cut rc md h0]
  exact Jk48_4_h2 rc md h0 e t h
noncomputable def Jk48_4b0 (rc : Rec) (md : Md) (e : Exit) (s1 : Value) (s2 : Value) (s3 : Value) (s6 : Value) (s7 : Value) (h : Heap) : Option (((Value × Value × Value × Value) × Heap) ⊕ (Exit × (Value × Value × Value × Value) × Heap)) :=
  match e with
  | .normal =>
    aBin Try.prog .add 3 s6 (.int .i64 1) fun v1 =>
    some (.inl ((s1, s2, s3, v1), h))
  | .exit j =>
    bif Nat.beq j 6 then
      aBin Try.prog .add 3 s6 (.int .i64 1) fun v2 =>
      some (.inl ((s1, s2, s3, v2), h))
    else
      bif Nat.beq j 5 then
        aBin Try.prog .add 3 s6 (.int .i64 1) fun v3 =>
        some (.inl ((s1, s2, s3, v3), h))
      else
        some (.inr ((.exit j), (s1, s2, s3, s6), h))
  | .ret =>
    some (.inr (.ret, (s1, s2, s3, s6), h))
  | .goto l => some (.inr ((.goto l), (s1, s2, s3, s6), h))
  | .panic ps => some (.inr ((.panic ps), (s1, s2, s3, s6), h))
  | .outgrown => some (.inr (.outgrown, (s1, s2, s3, s6), h))
theorem Jk48_4b0_at (rc : Rec) (md : Md) (e : Exit) (t : T) (h : Heap) : kAt Try.prog cfg rc md 106 (sub (bodyOf Try.prog 48) [1, 1, 1, 1, 1, 0, 1, 0, 0]) [1, 0, 0, 1, 0] (rndK (fun t => (t 1, t 2, t 3, t 6))) e t h = Jk48_4b0 rc md e (t 1) (t 2) (t 3) (t 6) (t 7) h := by cases e <;> kernel_rfl
/-- a round -/
noncomputable def Jr48_4b0 (rc : Rec) (md : Md) (s1 : Value) (s2 : Value) (s3 : Value) (s6 : Value) (s7 : Value) (h : Heap) : Option (((Value × Value × Value × Value × Value) × Heap) ⊕ (Exit × (Value × Value × Value × Value × Value) × Heap)) :=
  ldN 3 s1 h fun v1 =>
  cl (rc md 54 [v1] h) fun v2 h3 =>
  cIn .i64 v2 fun n4 =>
  aBin Try.prog .lss 3 s7 (.int .i64 n4) fun v5 =>
  cBn v5 fun b6 =>
  bif b6 then
    aBuild Try.prog 100 [(0, (.int .i64 8)), (1, s6), (2, s7), (3, (.int .i64 0))] fun v7 =>
    aBuildSlice Try.prog 63 1 [(0, v7)] h3 fun v8 h9 =>
    aBuiltin Try.prog md .append #[63, 63] [s3, v8] h9 fun v10 h11 =>
    aBin Try.prog .add 3 s7 (.int .i64 1) fun v12 =>
    some (.inl ((s1, s2, v10, s6, v12), h11))
  else
    some (.inr ((.exit 6), (s1, s2, s3, s6, s7), h3))
theorem Jr48_4b0_at (rc : Rec) (md : Md) (t : T) (h : Heap) : exec Try.prog cfg rc md 106 (sub (bodyOf Try.prog 48) [1, 1, 1, 1, 1, 0, 1, 0, 0, 1, 0, 0, 1, 0, 0]) (rndK (fun t => (t 1, t 2, t 3, t 6, t 7))) t h = Jr48_4b0 rc md (t 1) (t 2) (t 3) (t 6) (t 7) h := by kernel_rfl
noncomputable def J48_4b0 (rc : Rec) (md : Md) (s1 : Value) (s2 : Value) (s3 : Value) (s6 : Value) (s7 : Value) (h : Heap) : Option (((Value × Value × Value × Value) × Heap) ⊕ (Exit × (Value × Value × Value × Value) × Heap)) :=
  runL (fun x : (Value × Value × Value × Value × Value) × Heap => Jr48_4b0 rc md x.1.1 x.1.2.1 x.1.2.2.1 x.1.2.2.2.1 x.1.2.2.2.2 x.2) (fun e (s : Value × Value × Value × Value × Value) h => Jk48_4b0 rc md e s.1 s.2.1 s.2.2.1 s.2.2.2.1 s.2.2.2.2 h) (s1, s2, s3, s6, s7) h
theorem J48_4b0_step (rc : Rec) (md : Md) (s1 : Value) (s2 : Value) (s3 : Value) (s6 : Value) (s7 : Value) (h : Heap) : J48_4b0 rc md s1 s2 s3 s6 s7 h = (Jr48_4b0 rc md s1 s2 s3 s6 s7 h).bind fun x => match x with
    | .inl (s, h) => J48_4b0 rc md s.1 s.2.1 s.2.2.1 s.2.2.2.1 s.2.2.2.2 h
    | .inr (e, s, h) => Jk48_4b0 rc md e s.1 s.2.1 s.2.2.1 s.2.2.2.1 s.2.2.2.2 h := by
  unfold J48_4b0
  rw [runL_eq]
  refine congrArg (Option.bind _) (funext fun x => ?_)
  rcases x with ⟨s, h⟩ | ⟨e, s, h⟩ <;> rfl
theorem J48_4b0_cut (rc : Rec) (md : Md) : cut Try.prog cfg rc md 106 (sub (bodyOf Try.prog 48) [1, 1, 1, 1, 1, 0, 1, 0, 0]) [1, 0, 0, 1, 0] (rndK (fun t => (t 1, t 2, t 3, t 6))) = fun t h => J48_4b0 rc md (t 1) (t 2) (t 3) (t 6) (t 7) h := by
  funext t h
  have e : sub (sub (bodyOf Try.prog 48) [1, 1, 1, 1, 1, 0, 1, 0, 0]) [1, 0, 0, 1, 0] = .loop (sub (bodyOf Try.prog 48) [1, 1, 1, 1, 1, 0, 1, 0, 0, 1, 0, 0, 1, 0, 0]) := by kernel_rfl
  unfold cut
  rw [e]
  exact loop_eq (by kernel_rfl) (fun t => (t 1, t 2, t 3, t 6, t 7)) (fun x : (Value × Value × Value × Value × Value) × Heap => Jr48_4b0 rc md x.1.1 x.1.2.1 x.1.2.2.1 x.1.2.2.2.1 x.1.2.2.2.2 x.2) (fun t h => Jr48_4b0_at rc md t h) (fun e (s : Value × Value × Value × Value × Value) h => Jk48_4b0 rc md e s.1 s.2.1 s.2.2.1 s.2.2.2.1 s.2.2.2.2 h) (fun e t h => Jk48_4b0_at rc md e t h) t h
/-- a round -/
noncomputable def Jr48_4 (rc : Rec) (md : Md) (s1 : Value) (s2 : Value) (s3 : Value) (s6 : Value) (h : Heap) : Option (((Value × Value × Value × Value) × Heap) ⊕ (Exit × (Value × Value × Value × Value) × Heap)) :=
  fA 0 s1 fun v1 =>
  ld1 v1 h fun v2 =>
  cIn .i64 v2 fun n3 =>
  aBin Try.prog .lss 3 s6 (.int .i64 n3) fun v4 =>
  cBn v4 fun b5 =>
  bif b5 then
    J48_4b0 rc md s1 s2 s3 s6 (.int .i64 0) h
  else
    some (.inr ((.exit 4), (s1, s2, s3, s6), h))
noncomputable def Jr48_4H (rc : Rec) (md : Md) (X0 : T → Heap → Option (((Value × Value × Value × Value) × Heap) ⊕ (Exit × (Value × Value × Value × Value) × Heap))) (t : T) (h : Heap) : Option (((Value × Value × Value × Value) × Heap) ⊕ (Exit × (Value × Value × Value × Value) × Heap)) :=
  fA 0 (t 1) fun v1 =>
  ld1 v1 h fun v2 =>
  cIn .i64 v2 fun n3 =>
  aBin Try.prog .lss 3 (t 6) (.int .i64 n3) fun v4 =>
  cBn v4 fun b5 =>
  bif b5 then
    X0 (upd (upd (upd (upd (upd t 50 (t 6)) 51 v1) 52 (.int .i64 n3)) 53 v4) 7 (.int .i64 0)) h
  else
    some (.inr ((.exit 4), ((t 1), (t 2), (t 3), (t 6)), h))
theorem Jr48_4_h1 (rc : Rec) (md : Md) (X : Nat → T → Heap → Option (((Value × Value × Value × Value) × Heap) ⊕ (Exit × (Value × Value × Value × Value) × Heap))) (t : T) (h : Heap) : execG Try.prog cfg X rc md 106 (replS (sub (bodyOf Try.prog 48) [1, 1, 1, 1, 1, 0, 1, 0, 0]) [([1, 0, 0, 1, 0], 0)]) (rndK (fun t => (t 1, t 2, t 3, t 6))) t h = Jr48_4H rc md (X 0) t h := by kernel_rfl
theorem Jr48_4_h2 (rc : Rec) (md : Md) (t : T) (h : Heap) : Jr48_4H rc md (fun t h => J48_4b0 rc md (t 1) (t 2) (t 3) (t 6) (t 7) h) t h = Jr48_4 rc md (t 1) (t 2) (t 3) (t 6) h := by unfold Jr48_4H Jr48_4; kernel_rfl
theorem Jr48_4_at (rc : Rec) (md : Md) (t : T) (h : Heap) : exec Try.prog cfg rc md 106 (sub (bodyOf Try.prog 48) [1, 1, 1, 1, 1, 0, 1, 0, 0]) (rndK (fun t => (t 1, t 2, t 3, t 6))) t h = Jr48_4 rc md (t 1) (t 2) (t 3) (t 6) h := by
  rw [exec_holes [([1, 0, 0, 1, 0], 0)] (by kernel_rfl), Jr48_4_h1, show (goX Try.prog cfg rc md 106 (sub (bodyOf Try.prog 48) [1, 1, 1, 1, 1, 0, 1, 0, 0]) [([1, 0, 0, 1, 0], 0)] (rndK (fun t => (t 1, t 2, t 3, t 6)))) 0 = _ from J48_4b0_cut rc md]
  exact Jr48_4_h2 rc md t h
noncomputable def J48_4 (rc : Rec) (md : Md) (h0 : Heap) (s1 : Value) (s2 : Value) (s3 : Value) (s6 : Value) (h : Heap) : Option (Value × Heap) :=
  runL (fun x : (Value × Value × Value × Value) × Heap => Jr48_4 rc md x.1.1 x.1.2.1 x.1.2.2.1 x.1.2.2.2 x.2) (fun e (s : Value × Value × Value × Value) h => Jk48_4 rc md h0 e s.1 s.2.1 s.2.2.1 s.2.2.2 h) (s1, s2, s3, s6) h
theorem J48_4_step (rc : Rec) (md : Md) (h0 : Heap) (s1 : Value) (s2 : Value) (s3 : Value) (s6 : Value) (h : Heap) : J48_4 rc md h0 s1 s2 s3 s6 h = (Jr48_4 rc md s1 s2 s3 s6 h).bind fun x => match x with
    | .inl (s, h) => J48_4 rc md h0 s.1 s.2.1 s.2.2.1 s.2.2.2 h
    | .inr (e, s, h) => Jk48_4 rc md h0 e s.1 s.2.1 s.2.2.1 s.2.2.2 h := by
  unfold J48_4
  rw [runL_eq]
  refine congrArg (Option.bind _) (funext fun x => ?_)
  rcases x with ⟨s, h⟩ | ⟨e, s, h⟩ <;> rfl
theorem J48_4_cut (rc : Rec) (md : Md) (h0 : Heap) : cut Try.prog cfg rc md 106 (bodyOf Try.prog 48) [1, 1, 1, 1, 1, 0, 1, 0] (retK Try.prog cfg 48 (rsOf Try.prog 48) h0) = fun t h => J48_4 rc md h0 (t 1) (t 2) (t 3) (t 6) h := by
  funext t h
  have e : sub (bodyOf Try.prog 48) [1, 1, 1, 1, 1, 0, 1, 0] = .loop (sub (bodyOf Try.prog 48) [1, 1, 1, 1, 1, 0, 1, 0, 0]) := by kernel_rfl
  unfold cut
  rw [e]
  exact loop_eq (by kernel_rfl) (fun t => (t 1, t 2, t 3, t 6)) (fun x : (Value × Value × Value × Value) × Heap => Jr48_4 rc md x.1.1 x.1.2.1 x.1.2.2.1 x.1.2.2.2 x.2) (fun t h => Jr48_4_at rc md t h) (fun e (s : Value × Value × Value × Value) h => Jk48_4 rc md h0 e s.1 s.2.1 s.2.2.1 s.2.2.2 h) (fun e t h => Jk48_4_at rc md h0 e t h) t h
noncomputable def J48_3 (rc : Rec) (md : Md) (h0 : Heap) (s1 : Value) (s2 : Value) (s3 : Value) (h : Heap) : Option (Value × Heap) :=
  J48_4 rc md h0 s1 s2 s3 (.int .i64 0) h
noncomputable def J48_3H (rc : Rec) (md : Md) (h0 : Heap) (X2 : T → Heap → Option (Value × Heap)) (t : T) (h : Heap) : Option (Value × Heap) :=
  X2 (upd t 6 (.int .i64 0)) h
theorem J48_3_h1 (rc : Rec) (md : Md) (h0 : Heap) (X : Nat → T → Heap → Option (Value × Heap)) (t : T) (h : Heap) : execG Try.prog cfg X rc md 106 (sub (replS (bodyOf Try.prog 48) [([1, 1, 0, 1, 0], 0), ([1, 1, 1, 1, 0, 1, 0], 1), ([1, 1, 1, 1, 1, 0, 1, 0], 2), ([1, 1, 1, 1, 1, 1, 0, 1, 0], 3), ([1, 1, 1, 1, 1, 1, 1, 0, 1, 0], 4), ([1, 1, 1, 1, 1, 1, 1], 5), ([1, 1, 1, 1, 1, 1], 6)]) [1, 1, 1, 1, 1]) (kAtG Try.prog cfg X rc md 106 (replS (bodyOf Try.prog 48) [([1, 1, 0, 1, 0], 0), ([1, 1, 1, 1, 0, 1, 0], 1), ([1, 1, 1, 1, 1, 0, 1, 0], 2), ([1, 1, 1, 1, 1, 1, 0, 1, 0], 3), ([1, 1, 1, 1, 1, 1, 1, 0, 1, 0], 4), ([1, 1, 1, 1, 1, 1, 1], 5), ([1, 1, 1, 1, 1, 1], 6)]) [1, 1, 1, 1, 1] (retK Try.prog cfg 48 (rsOf Try.prog 48) h0)) t h = J48_3H rc md h0 (X 2) t h := by kernel_rfl
theorem J48_3_h2 (rc : Rec) (md : Md) (h0 : Heap) (t : T) (h : Heap) : J48_3H rc md h0 (fun t h => J48_4 rc md h0 (t 1) (t 2) (t 3) (t 6) h) t h = J48_3 rc md h0 (t 1) (t 2) (t 3) h := by (unfold J48_3H J48_3; kernel_rfl)
theorem J48_3_at (rc : Rec) (md : Md) (h0 : Heap) (t : T) (h : Heap) : cut Try.prog cfg rc md 106 (bodyOf Try.prog 48) [1, 1, 1, 1, 1] (retK Try.prog cfg 48 (rsOf Try.prog 48) h0) t h = J48_3 rc md h0 (t 1) (t 2) (t 3) h := by
  rw [cut_holes [([1, 1, 0, 1, 0], 0), ([1, 1, 1, 1, 0, 1, 0], 1), ([1, 1, 1, 1, 1, 0, 1, 0], 2), ([1, 1, 1, 1, 1, 1, 0, 1, 0], 3), ([1, 1, 1, 1, 1, 1, 1, 0, 1, 0], 4), ([1, 1, 1, 1, 1, 1, 1], 5), ([1, 1, 1, 1, 1, 1], 6)] [1, 1, 1, 1, 1] (by kernel_rfl), J48_3_h1, show (goX Try.prog cfg rc md 106 (bodyOf Try.prog 48) [([1, 1, 0, 1, 0], 0), ([1, 1, 1, 1, 0, 1, 0], 1), ([1, 1, 1, 1, 1, 0, 1, 0], 2), ([1, 1, 1, 1, 1, 1, 0, 1, 0], 3), ([1, 1, 1, 1, 1, 1, 1, 0, 1, 0], 4), ([1, 1, 1, 1, 1, 1, 1], 5), ([1, 1, 1, 1, 1, 1], 6)] (retK Try.prog cfg 48 (rsOf Try.prog 48) h0)) 2 = _ from J48_4_cut rc md h0]
  exact J48_3_h2 rc md h0 t h
theorem J48_3_cut (rc : Rec) (md : Md) (h0 : Heap) : cut Try.prog cfg rc md 106 (bodyOf Try.prog 48) [1, 1, 1, 1, 1] (retK Try.prog cfg 48 (rsOf Try.prog 48) h0) = fun t h => J48_3 rc md h0 (t 1) (t 2) (t 3) h := funext fun t => funext fun h => J48_3_at rc md h0 t h
noncomputable def Jk48_2 (rc : Rec) (md : Md) (h0 : Heap) (e : Exit) (s1 : Value) (s2 : Value) (s3 : Value) (s5 : Value) (h : Heap) : Option (Value × Heap) :=
  match e with
  | .normal =>
    J48_3 rc md h0 s1 s2 s3 h
  | .exit j =>
    bif Nat.beq j 2 then
      J48_3 rc md h0 s1 s2 s3 h
    else
      none
  | .ret =>
    some (s2, h)
  | .goto l => none
  | .panic ps => none
  | .outgrown => none
noncomputable def Jk48_2H (rc : Rec) (md : Md) (h0 : Heap) (X7 : T → Heap → Option (Value × Heap)) (e : Exit) (t : T) (h : Heap) : Option (Value × Heap) :=
  match e with
  | .normal =>
    X7 t h
  | .exit j =>
    bif Nat.beq j 2 then
      X7 t h
    else
      none
  | .ret =>
    some ((t 2), h)
  | .goto l => none
  | .panic ps => none
  | .outgrown => none
theorem Jk48_2_h1 (rc : Rec) (md : Md) (h0 : Heap) (X : Nat → T → Heap → Option (Value × Heap)) (e : Exit) (t : T) (h : Heap) : kAtG Try.prog cfg X rc md 106 (replS (bodyOf Try.prog 48) [([1, 1, 0, 1, 0], 0), ([1, 1, 1, 1, 1, 0, 1, 0], 2), ([1, 1, 1, 1, 1, 1, 0, 1, 0], 3), ([1, 1, 1, 1, 1, 1, 1, 0, 1, 0], 4), ([1, 1, 1, 1, 1, 1, 1], 5), ([1, 1, 1, 1, 1, 1], 6), ([1, 1, 1, 1, 1], 7)]) [1, 1, 1, 1, 0, 1, 0] (retK Try.prog cfg 48 (rsOf Try.prog 48) h0) e t h = Jk48_2H rc md h0 (X 7) e t h := by cases e <;> kernel_rfl
theorem Jk48_2_h2 (rc : Rec) (md : Md) (h0 : Heap) (e : Exit) (t : T) (h : Heap) : Jk48_2H rc md h0 (fun t h => J48_3 rc md h0 (t 1) (t 2) (t 3) h) e t h = Jk48_2 rc md h0 e (t 1) (t 2) (t 3) (t 5) h := by cases e <;> (unfold Jk48_2H Jk48_2; kernel_rfl)
theorem Jk48_2_at (rc : Rec) (md : Md) (h0 : Heap) (e : Exit) (t : T) (h : Heap) : kAt Try.prog cfg rc md 106 (bodyOf Try.prog 48) [1, 1, 1, 1, 0, 1, 0] (retK Try.prog cfg 48 (rsOf Try.prog 48) h0) e t h = Jk48_2 rc md h0 e (t 1) (t 2) (t 3) (t 5) h := by
  rw [kAt_holes [([1, 1, 0, 1, 0], 0), ([1, 1, 1, 1, 1, 0, 1, 0], 2), ([1, 1, 1, 1, 1, 1, 0, 1, 0], 3), ([1, 1, 1, 1, 1, 1, 1, 0, 1, 0], 4), ([1, 1, 1, 1, 1, 1, 1], 5), ([1, 1, 1, 1, 1, 1], 6), ([1, 1, 1, 1, 1], 7)] [1, 1, 1, 1, 0, 1, 0] (by kernel_rfl), Jk48_2_h1, show (goX Try.prog cfg rc md 106 (bodyOf Try.prog 48) [([1, 1, 0, 1, 0], 0), ([1, 1, 1, 1, 1, 0, 1, 0], 2), ([1, 1, 1, 1, 1, 1, 0, 1, 0], 3), ([1, 1, 1, 1, 1, 1, 1, 0, 1, 0], 4), ([1, 1, 1, 1, 1, 1, 1], 5), ([1, 1, 1, 1, 1, 1], 6), ([1, 1, 1, 1, 1], 7)] (retK Try.prog cfg 48 (rsOf Try.prog 48) h0)) 7 = _ from J48_3_cut rc md h0]
  exact Jk48_2_h2 rc md h0 e t h
/-- a round -/
noncomputable def Jr48_2 (rc : Rec) (md : Md) (s1 : Value) (s2 : Value) (s3 : Value) (s5 : Value) (h : Heap) : Option (((Value × Value × Value × Value) × Heap) ⊕ (Exit × (Value × Value × Value × Value) × Heap)) :=
  fA 1 s1 fun v1 =>
  ld1 v1 h fun v2 =>
  cIn .i64 v2 fun n3 =>
  aBin Try.prog .lss 3 s5 (.int .i64 n3) fun v4 =>
  cBn v4 fun b5 =>
  bif b5 then
    aBuild Try.prog 100 [(0, (.int .i64 3)), (1, s5), (2, (.int .i64 0)), (3, (.int .i64 0))] fun v6 =>
    aBuild Try.prog 100 [(0, (.int .i64 4)), (1, s5), (2, (.int .i64 0)), (3, (.int .i64 0))] fun v7 =>
    aBuild Try.prog 100 [(0, (.int .i64 5)), (1, s5), (2, (.int .i64 0)), (3, (.int .i64 0))] fun v8 =>
    aBuild Try.prog 100 [(0, (.int .i64 6)), (1, s5), (2, (.int .i64 0)), (3, (.int .i64 0))] fun v9 =>
    aBuild Try.prog 100 [(0, (.int .i64 6)), (1, s5), (2, (.int .i64 1)), (3, (.int .i64 0))] fun v10 =>
    aBuild Try.prog 100 [(0, (.int .i64 7)), (1, s5), (2, (.int .i64 0)), (3, (.int .i64 0))] fun v11 =>
    aBuild Try.prog 100 [(0, (.int .i64 7)), (1, s5), (2, (.int .i64 1)), (3, (.int .i64 0))] fun v12 =>
    aBuildSlice Try.prog 63 7 [(0, v6), (1, v7), (2, v8), (3, v9), (4, v10), (5, v11), (6, v12)] h fun v13 h14 =>
    aBuiltin Try.prog md .append #[63, 63] [s3, v13] h14 fun v15 h16 =>
    aBin Try.prog .add 3 s5 (.int .i64 1) fun v17 =>
    some (.inl ((s1, s2, v15, v17), h16))
  else
    some (.inr ((.exit 2), (s1, s2, s3, s5), h))
theorem Jr48_2_at (rc : Rec) (md : Md) (t : T) (h : Heap) : exec Try.prog cfg rc md 106 (sub (bodyOf Try.prog 48) [1, 1, 1, 1, 0, 1, 0, 0]) (rndK (fun t => (t 1, t 2, t 3, t 5))) t h = Jr48_2 rc md (t 1) (t 2) (t 3) (t 5) h := by kernel_rfl
noncomputable def J48_2 (rc : Rec) (md : Md) (h0 : Heap) (s1 : Value) (s2 : Value) (s3 : Value) (s5 : Value) (h : Heap) : Option (Value × Heap) :=
  runL (fun x : (Value × Value × Value × Value) × Heap => Jr48_2 rc md x.1.1 x.1.2.1 x.1.2.2.1 x.1.2.2.2 x.2) (fun e (s : Value × Value × Value × Value) h => Jk48_2 rc md h0 e s.1 s.2.1 s.2.2.1 s.2.2.2 h) (s1, s2, s3, s5) h
theorem J48_2_step (rc : Rec) (md : Md) (h0 : Heap) (s1 : Value) (s2 : Value) (s3 : Value) (s5 : Value) (h : Heap) : J48_2 rc md h0 s1 s2 s3 s5 h = (Jr48_2 rc md s1 s2 s3 s5 h).bind fun x => match x with
    | .inl (s, h) => J48_2 rc md h0 s.1 s.2.1 s.2.2.1 s.2.2.2 h
    | .inr (e, s, h) => Jk48_2 rc md h0 e s.1 s.2.1 s.2.2.1 s.2.2.2 h := by
  unfold J48_2
  rw [runL_eq]
  refine congrArg (Option.bind _) (funext fun x => ?_)
  rcases x with ⟨s, h⟩ | ⟨e, s, h⟩ <;> rfl
theorem J48_2_cut (rc : Rec) (md : Md) (h0 : Heap) : cut Try.prog cfg rc md 106 (bodyOf Try.prog 48) [1, 1, 1, 1, 0, 1, 0] (retK Try.prog cfg 48 (rsOf Try.prog 48) h0) = fun t h => J48_2 rc md h0 (t 1) (t 2) (t 3) (t 5) h := by
  funext t h
  have e : sub (bodyOf Try.prog 48) [1, 1, 1, 1, 0, 1, 0] = .loop (sub (bodyOf Try.prog 48) [1, 1, 1, 1, 0, 1, 0, 0]) := by kernel_rfl
  unfold cut
  rw [e]
  exact loop_eq (by kernel_rfl) (fun t => (t 1, t 2, t 3, t 5)) (fun x : (Value × Value × Value × Value) × Heap => Jr48_2 rc md x.1.1 x.1.2.1 x.1.2.2.1 x.1.2.2.2 x.2) (fun t h => Jr48_2_at rc md t h) (fun e (s : Value × Value × Value × Value) h => Jk48_2 rc md h0 e s.1 s.2.1 s.2.2.1 s.2.2.2 h) (fun e t h => Jk48_2_at rc md h0 e t h) t h
noncomputable def J48_1 (rc : Rec) (md : Md) (h0 : Heap) (s1 : Value) (s2 : Value) (s3 : Value) (h : Heap) : Option (Value × Heap) :=
  let h1 : Heap := h ++ [.own [(.int .i64 2), (.int .i64 0), (.int .i64 0), (.int .i64 0)]]
  aBuiltin Try.prog md .append #[63, 63] [s3, (.slice (some ⟨h.length, 0, none⟩) 1 4)] h1 fun v2 h3 =>
  J48_2 rc md h0 s1 s2 v2 (.int .i64 0) h3
noncomputable def J48_1H (rc : Rec) (md : Md) (h0 : Heap) (X1 : T → Heap → Option (Value × Heap)) (t : T) (h : Heap) : Option (Value × Heap) :=
  let h1 : Heap := h ++ [.own [(.int .i64 2), (.int .i64 0), (.int .i64 0), (.int .i64 0)]]
  aBuiltin Try.prog md .append #[63, 63] [(t 3), (.slice (some ⟨h.length, 0, none⟩) 1 4)] h1 fun v2 h3 =>
  X1 (upd (upd (upd (upd (upd (upd t 23 (t 3)) 24 (.agg #[(.int .i64 2), (.int .i64 0), (.int .i64 0), (.int .i64 0)])) 25 (.slice (some ⟨h.length, 0, none⟩) 1 4)) 26 v2) 3 v2) 5 (.int .i64 0)) h3
theorem J48_1_h1 (rc : Rec) (md : Md) (h0 : Heap) (X : Nat → T → Heap → Option (Value × Heap)) (t : T) (h : Heap) : execG Try.prog cfg X rc md 106 (sub (replS (bodyOf Try.prog 48) [([1, 1, 0, 1, 0], 0), ([1, 1, 1, 1, 0, 1, 0], 1), ([1, 1, 1, 1, 1, 0, 1, 0], 2), ([1, 1, 1, 1, 1, 1, 0, 1, 0], 3), ([1, 1, 1, 1, 1, 1, 1, 0, 1, 0], 4), ([1, 1, 1, 1, 1, 1, 1], 5), ([1, 1, 1, 1, 1, 1], 6), ([1, 1, 1, 1, 1], 7)]) [1, 1, 1]) (kAtG Try.prog cfg X rc md 106 (replS (bodyOf Try.prog 48) [([1, 1, 0, 1, 0], 0), ([1, 1, 1, 1, 0, 1, 0], 1), ([1, 1, 1, 1, 1, 0, 1, 0], 2), ([1, 1, 1, 1, 1, 1, 0, 1, 0], 3), ([1, 1, 1, 1, 1, 1, 1, 0, 1, 0], 4), ([1, 1, 1, 1, 1, 1, 1], 5), ([1, 1, 1, 1, 1, 1], 6), ([1, 1, 1, 1, 1], 7)]) [1, 1, 1] (retK Try.prog cfg 48 (rsOf Try.prog 48) h0)) t h = J48_1H rc md h0 (X 1) t h := by kernel_rfl
theorem J48_1_h2 (rc : Rec) (md : Md) (h0 : Heap) (t : T) (h : Heap) : J48_1H rc md h0 (fun t h => J48_2 rc md h0 (t 1) (t 2) (t 3) (t 5) h) t h = J48_1 rc md h0 (t 1) (t 2) (t 3) h := by (unfold J48_1H J48_1; kernel_rfl)
theorem J48_1_at (rc : Rec) (md : Md) (h0 : Heap) (t : T) (h : Heap) : cut Try.prog cfg rc md 106 (bodyOf Try.prog 48) [1, 1, 1] (retK Try.prog cfg 48 (rsOf Try.prog 48) h0) t h = J48_1 rc md h0 (t 1) (t 2) (t 3) h := by
  rw [cut_holes [([1, 1, 0, 1, 0], 0), ([1, 1, 1, 1, 0, 1, 0], 1), ([1, 1, 1, 1, 1, 0, 1, 0], 2), ([1, 1, 1, 1, 1, 1, 0, 1, 0], 3), ([1, 1, 1, 1, 1, 1, 1, 0, 1, 0], 4), ([1, 1, 1, 1, 1, 1, 1], 5), ([1, 1, 1, 1, 1, 1], 6), ([1, 1, 1, 1, 1], 7)] [1, 1, 1] (by kernel_rfl), J48_1_h1, show (goX Try.prog cfg rc md 106 (bodyOf Try.prog 48) [([1, 1, 0, 1, 0], 0), ([1, 1, 1, 1, 0, 1, 0], 1), ([1, 1, 1, 1, 1, 0, 1, 0], 2), ([1, 1, 1, 1, 1, 1, 0, 1, 0], 3), ([1, 1, 1, 1, 1, 1, 1, 0, 1, 0], 4), ([1, 1, 1, 1, 1, 1, 1], 5), ([1, 1, 1, 1, 1, 1], 6), ([1, 1, 1, 1, 1], 7)] (retK Try.prog cfg 48 (rsOf Try.prog 48) h0)) 1 = _ from J48_2_cut rc md h0]
  exact J48_1_h2 rc md h0 t h
theorem J48_1_cut (rc : Rec) (md : Md) (h0 : Heap) : cut Try.prog cfg rc md 106 (bodyOf Try.prog 48) [1, 1, 1] (retK Try.prog cfg 48 (rsOf Try.prog 48) h0) = fun t h => J48_1 rc md h0 (t 1) (t 2) (t 3) h := funext fun t => funext fun h => J48_1_at rc md h0 t h
noncomputable def Jk48_0 (rc : Rec) (md : Md) (h0 : Heap) (e : Exit) (s1 : Value) (s2 : Value) (s3 : Value) (s4 : Value) (h : Heap) : Option (Value × Heap) :=
  match e with
  | .normal =>
    J48_1 rc md h0 s1 s2 s3 h
  | .exit j =>
    bif Nat.beq j 0 then
      J48_1 rc md h0 s1 s2 s3 h
    else
      none
  | .ret =>
    some (s2, h)
  | .goto l => none
  | .panic ps => none
  | .outgrown => none
noncomputable def Jk48_0H (rc : Rec) (md : Md) (h0 : Heap) (X8 : T → Heap → Option (Value × Heap)) (e : Exit) (t : T) (h : Heap) : Option (Value × Heap) :=
  match e with
  | .normal =>
    X8 t h
  | .exit j =>
    bif Nat.beq j 0 then
      X8 t h
    else
      none
  | .ret =>
    some ((t 2), h)
  | .goto l => none
  | .panic ps => none
  | .outgrown => none
theorem Jk48_0_h1 (rc : Rec) (md : Md) (h0 : Heap) (X : Nat → T → Heap → Option (Value × Heap)) (e : Exit) (t : T) (h : Heap) : kAtG Try.prog cfg X rc md 106 (replS (bodyOf Try.prog 48) [([1, 1, 1, 1, 0, 1, 0], 1), ([1, 1, 1, 1, 1, 0, 1, 0], 2), ([1, 1, 1, 1, 1, 1, 0, 1, 0], 3), ([1, 1, 1, 1, 1, 1, 1, 0, 1, 0], 4), ([1, 1, 1, 1, 1, 1, 1], 5), ([1, 1, 1, 1, 1, 1], 6), ([1, 1, 1, 1, 1], 7), ([1, 1, 1], 8)]) [1, 1, 0, 1, 0] (retK Try.prog cfg 48 (rsOf Try.prog 48) h0) e t h = Jk48_0H rc md h0 (X 8) e t h := by cases e <;> kernel_rfl
theorem Jk48_0_h2 (rc : Rec) (md : Md) (h0 : Heap) (e : Exit) (t : T) (h : Heap) : Jk48_0H rc md h0 (fun t h => J48_1 rc md h0 (t 1) (t 2) (t 3) h) e t h = Jk48_0 rc md h0 e (t 1) (t 2) (t 3) (t 4) h := by cases e <;> (unfold Jk48_0H Jk48_0; kernel_rfl)
theorem Jk48_0_at (rc : Rec) (md : Md) (h0 : Heap) (e : Exit) (t : T) (h : Heap) : kAt Try.prog cfg rc md 106 (bodyOf Try.prog 48) [1, 1, 0, 1, 0] (retK Try.prog cfg 48 (rsOf Try.prog 48) h0) e t h = Jk48_0 rc md h0 e (t 1) (t 2) (t 3) (t 4) h := by
  rw [kAt_holes [([1, 1, 1, 1, 0, 1, 0], 1), ([1, 1, 1, 1, 1, 0, 1, 0], 2), ([1, 1, 1, 1, 1, 1, 0, 1, 0], 3), ([1, 1, 1, 1, 1, 1, 1, 0, 1, 0], 4), ([1, 1, 1, 1, 1, 1, 1], 5), ([1, 1, 1, 1, 1, 1], 6), ([1, 1, 1, 1, 1], 7), ([1, 1, 1], 8)] [1, 1, 0, 1, 0] (by kernel_rfl), Jk48_0_h1, show (goX Try.prog cfg rc md 106 (bodyOf Try.prog 48) [([1, 1, 1, 1, 0, 1, 0], 1), ([1, 1, 1, 1, 1, 0, 1, 0], 2), ([1, 1, 1, 1, 1, 1, 0, 1, 0], 3), ([1, 1, 1, 1, 1, 1, 1, 0, 1, 0], 4), ([1, 1, 1, 1, 1, 1, 1], 5), ([1, 1, 1, 1, 1, 1], 6), ([1, 1, 1, 1, 1], 7), ([1, 1, 1], 8)] (retK Try.prog cfg 48 (rsOf Try.prog 48) h0)) 8 = _ from J48_1_cut rc md h0]
  exact Jk48_0_h2 rc md h0 e t h
/-- a round -/
noncomputable def Jr48_0 (rc : Rec) (md : Md) (s1 : Value) (s2 : Value) (s3 : Value) (s4 : Value) (h : Heap) : Option (((Value × Value × Value × Value) × Heap) ⊕ (Exit × (Value × Value × Value × Value) × Heap)) :=
  fA 2 s1 fun v1 =>
  ld1 v1 h fun v2 =>
  cIn .i64 v2 fun n3 =>
  aBin Try.prog .leq 3 s4 (.int .i64 n3) fun v4 =>
  cBn v4 fun b5 =>
  bif b5 then
    aBuild Try.prog 100 [(0, (.int .i64 1)), (1, s4), (2, (.int .i64 0)), (3, (.int .i64 0))] fun v6 =>
    aBuildSlice Try.prog 63 1 [(0, v6)] h fun v7 h8 =>
    aBuiltin Try.prog md .append #[63, 63] [s3, v7] h8 fun v9 h10 =>
    aBin Try.prog .add 3 s4 (.int .i64 1) fun v11 =>
    some (.inl ((s1, s2, v9, v11), h10))
  else
    some (.inr ((.exit 0), (s1, s2, s3, s4), h))
theorem Jr48_0_at (rc : Rec) (md : Md) (t : T) (h : Heap) : exec Try.prog cfg rc md 106 (sub (bodyOf Try.prog 48) [1, 1, 0, 1, 0, 0]) (rndK (fun t => (t 1, t 2, t 3, t 4))) t h = Jr48_0 rc md (t 1) (t 2) (t 3) (t 4) h := by kernel_rfl
noncomputable def J48_0 (rc : Rec) (md : Md) (h0 : Heap) (s1 : Value) (s2 : Value) (s3 : Value) (s4 : Value) (h : Heap) : Option (Value × Heap) :=
  runL (fun x : (Value × Value × Value × Value) × Heap => Jr48_0 rc md x.1.1 x.1.2.1 x.1.2.2.1 x.1.2.2.2 x.2) (fun e (s : Value × Value × Value × Value) h => Jk48_0 rc md h0 e s.1 s.2.1 s.2.2.1 s.2.2.2 h) (s1, s2, s3, s4) h
theorem J48_0_step (rc : Rec) (md : Md) (h0 : Heap) (s1 : Value) (s2 : Value) (s3 : Value) (s4 : Value) (h : Heap) : J48_0 rc md h0 s1 s2 s3 s4 h = (Jr48_0 rc md s1 s2 s3 s4 h).bind fun x => match x with
    | .inl (s, h) => J48_0 rc md h0 s.1 s.2.1 s.2.2.1 s.2.2.2 h
    | .inr (e, s, h) => Jk48_0 rc md h0 e s.1 s.2.1 s.2.2.1 s.2.2.2 h := by
  unfold J48_0
  rw [runL_eq]
  refine congrArg (Option.bind _) (funext fun x => ?_)
  rcases x with ⟨s, h⟩ | ⟨e, s, h⟩ <;> rfl
theorem J48_0_cut (rc : Rec) (md : Md) (h0 : Heap) : cut Try.prog cfg rc md 106 (bodyOf Try.prog 48) [1, 1, 0, 1, 0] (retK Try.prog cfg 48 (rsOf Try.prog 48) h0) = fun t h => J48_0 rc md h0 (t 1) (t 2) (t 3) (t 4) h := by
  funext t h
  have e : sub (bodyOf Try.prog 48) [1, 1, 0, 1, 0] = .loop (sub (bodyOf Try.prog 48) [1, 1, 0, 1, 0, 0]) := by kernel_rfl
  unfold cut
  rw [e]
  exact loop_eq (by kernel_rfl) (fun t => (t 1, t 2, t 3, t 4)) (fun x : (Value × Value × Value × Value) × Heap => Jr48_0 rc md x.1.1 x.1.2.1 x.1.2.2.1 x.1.2.2.2 x.2) (fun t h => Jr48_0_at rc md t h) (fun e (s : Value × Value × Value × Value) h => Jk48_0 rc md h0 e s.1 s.2.1 s.2.2.1 s.2.2.2 h) (fun e t h => Jk48_0_at rc md h0 e t h) t h
noncomputable def F48 (rc : Rec) (md : Md) (a0_0 : Int) (a0_1 : Int) (a0_2 : Int) (h0 : Heap) : Option (Value × Heap) :=
  let h1 : Heap := h0 ++ [.own [(.int .i64 a0_0), (.int .i64 a0_1), (.int .i64 a0_2)]]
  J48_0 rc md h0 (.pointer (some ⟨h0.length, 0, none⟩)) (.slice none 0 0) (.slice none 0 0) (.int .i64 1) h1
noncomputable def F48H (rc : Rec) (md : Md) (X0 : T → Heap → Option (Value × Heap)) (a0_0 : Int) (a0_1 : Int) (a0_2 : Int) (h0 : Heap) : Option (Value × Heap) :=
  let h1 : Heap := h0 ++ [.own [(.int .i64 a0_0), (.int .i64 a0_1), (.int .i64 a0_2)]]
  X0 (upd (upd (upd (upd (args0 [(.agg #[(.int .i64 a0_0), (.int .i64 a0_1), (.int .i64 a0_2)])]) 1 (.pointer (some ⟨h0.length, 0, none⟩))) 2 (.slice none 0 0)) 3 (.slice none 0 0)) 4 (.int .i64 1)) h1
theorem F48_h0 (rc : Rec) (md : Md) (a0_0 : Int) (a0_1 : Int) (a0_2 : Int) (h0 : Heap) : callStep0 Try.prog cfg rc md 48 [(.agg #[(.int .i64 a0_0), (.int .i64 a0_1), (.int .i64 a0_2)])] h0 = exec Try.prog cfg rc md 106 (bodyOf Try.prog 48) (retK Try.prog cfg 48 (rsOf Try.prog 48) h0) (args0 [(.agg #[(.int .i64 a0_0), (.int .i64 a0_1), (.int .i64 a0_2)])]) h0 := callStep0_run (by kernel_rfl) (by kernel_rfl) (by kernel_rfl)
theorem F48_h1 (rc : Rec) (md : Md) (X : Nat → T → Heap → Option (Value × Heap)) (a0_0 : Int) (a0_1 : Int) (a0_2 : Int) (h0 : Heap) : execG Try.prog cfg X rc md 106 (replS (bodyOf Try.prog 48) [([1, 1, 0, 1, 0], 0), ([1, 1, 1, 1, 0, 1, 0], 1), ([1, 1, 1, 1, 1, 0, 1, 0], 2), ([1, 1, 1, 1, 1, 1, 0, 1, 0], 3), ([1, 1, 1, 1, 1, 1, 1, 0, 1, 0], 4), ([1, 1, 1, 1, 1, 1, 1], 5), ([1, 1, 1, 1, 1, 1], 6), ([1, 1, 1, 1, 1], 7), ([1, 1, 1], 8)]) (retK Try.prog cfg 48 (rsOf Try.prog 48) h0) (args0 [(.agg #[(.int .i64 a0_0), (.int .i64 a0_1), (.int .i64 a0_2)])]) h0 = F48H rc md (X 0) a0_0 a0_1 a0_2 h0 := by kernel_rfl
theorem F48_h2 (rc : Rec) (md : Md) (a0_0 : Int) (a0_1 : Int) (a0_2 : Int) (h0 : Heap) : F48H rc md (fun t h => J48_0 rc md h0 (t 1) (t 2) (t 3) (t 4) h) a0_0 a0_1 a0_2 h0 = F48 rc md a0_0 a0_1 a0_2 h0 := by unfold F48H F48; kernel_rfl
theorem F48_eq0 (rc : Rec) (md : Md) (a0_0 : Int) (a0_1 : Int) (a0_2 : Int) (h0 : Heap) : callStep0 Try.prog cfg rc md 48 [(.agg #[(.int .i64 a0_0), (.int .i64 a0_1), (.int .i64 a0_2)])] h0 = F48 rc md a0_0 a0_1 a0_2 h0 := by
  rw [F48_h0, exec_holes [([1, 1, 0, 1, 0], 0), ([1, 1, 1, 1, 0, 1, 0], 1), ([1, 1, 1, 1, 1, 0, 1, 0], 2), ([1, 1, 1, 1, 1, 1, 0, 1, 0], 3), ([1, 1, 1, 1, 1, 1, 1, 0, 1, 0], 4), ([1, 1, 1, 1, 1, 1, 1], 5), ([1, 1, 1, 1, 1, 1], 6), ([1, 1, 1, 1, 1], 7), ([1, 1, 1], 8)] (by kernel_rfl), F48_h1, show (goX Try.prog cfg rc md 106 (bodyOf Try.prog 48) [([1, 1, 0, 1, 0], 0), ([1, 1, 1, 1, 0, 1, 0], 1), ([1, 1, 1, 1, 1, 0, 1, 0], 2), ([1, 1, 1, 1, 1, 1, 0, 1, 0], 3), ([1, 1, 1, 1, 1, 1, 1, 0, 1, 0], 4), ([1, 1, 1, 1, 1, 1, 1], 5), ([1, 1, 1, 1, 1, 1], 6), ([1, 1, 1, 1, 1], 7), ([1, 1, 1], 8)] (retK Try.prog cfg 48 (rsOf Try.prog 48) h0)) 0 = _ from J48_0_cut rc md h0]
  exact F48_h2 rc _ a0_0 a0_1 a0_2 h0
theorem F48_eq (rc : Rec) (md : Md) (a0_0 : Int) (a0_1 : Int) (a0_2 : Int) (h0 : Heap) : callStep Try.prog cfg rc md 48 [(.agg #[(.int .i64 a0_0), (.int .i64 a0_1), (.int .i64 a0_2)])] h0 = F48 rc md a0_0 a0_1 a0_2 h0 := (callStep_ne (by kernel_rfl)).trans (F48_eq0 rc md a0_0 a0_1 a0_2 h0)

/-- (tombolo/tomboloref05.Lay).Nodes -/
noncomputable def Jk49_2 (rc : Rec) (md : Md) (h0 : Heap) (e : Exit) (s1 : Value) (s2 : Value) (s3 : Value) (s6 : Value) (h : Heap) : Option (Value × Heap) :=
  match e with
  | .normal =>
    some (s3, h)
  | .exit j =>
    bif Nat.beq j 4 then
      some (s3, h)
    else
      none
  | .ret =>
    some (s2, h)
  | .goto l => none
  | .panic ps => none
  | .outgrown => none
theorem Jk49_2_at (rc : Rec) (md : Md) (h0 : Heap) (e : Exit) (t : T) (h : Heap) : kAt Try.prog cfg rc md 48 (bodyOf Try.prog 49) [1, 1, 1, 0, 1, 0] (retK Try.prog cfg 49 (rsOf Try.prog 49) h0) e t h = Jk49_2 rc md h0 e (t 1) (t 2) (t 3) (t 6) h := by cases e <;> kernel_rfl
noncomputable def Jk49_2b0 (rc : Rec) (md : Md) (e : Exit) (s1 : Value) (s2 : Value) (s3 : Value) (s6 : Value) (s7 : Value) (h : Heap) : Option (((Value × Value × Value × Value) × Heap) ⊕ (Exit × (Value × Value × Value × Value) × Heap)) :=
  match e with
  | .normal =>
    aBin Try.prog .add 3 s6 (.int .i64 1) fun v1 =>
    some (.inl ((s1, s2, s3, v1), h))
  | .exit j =>
    bif Nat.beq j 6 then
      aBin Try.prog .add 3 s6 (.int .i64 1) fun v2 =>
      some (.inl ((s1, s2, s3, v2), h))
    else
      bif Nat.beq j 5 then
        aBin Try.prog .add 3 s6 (.int .i64 1) fun v3 =>
        some (.inl ((s1, s2, s3, v3), h))
      else
        some (.inr ((.exit j), (s1, s2, s3, s6), h))
  | .ret =>
    some (.inr (.ret, (s1, s2, s3, s6), h))
  | .goto l => some (.inr ((.goto l), (s1, s2, s3, s6), h))
  | .panic ps => some (.inr ((.panic ps), (s1, s2, s3, s6), h))
  | .outgrown => some (.inr (.outgrown, (s1, s2, s3, s6), h))
theorem Jk49_2b0_at (rc : Rec) (md : Md) (e : Exit) (t : T) (h : Heap) : kAt Try.prog cfg rc md 48 (sub (bodyOf Try.prog 49) [1, 1, 1, 0, 1, 0, 0]) [1, 0, 0, 1, 0] (rndK (fun t => (t 1, t 2, t 3, t 6))) e t h = Jk49_2b0 rc md e (t 1) (t 2) (t 3) (t 6) (t 7) h := by cases e <;> kernel_rfl
/-- a round -/
noncomputable def Jr49_2b0 (rc : Rec) (md : Md) (s1 : Value) (s2 : Value) (s3 : Value) (s6 : Value) (s7 : Value) (h : Heap) : Option (((Value × Value × Value × Value × Value) × Heap) ⊕ (Exit × (Value × Value × Value × Value × Value) × Heap)) :=
  ldN 3 s1 h fun v1 =>
  cl (rc md 54 [v1] h) fun v2 h3 =>
  cIn .i64 v2 fun n4 =>
  aBin Try.prog .lss 3 s7 (.int .i64 n4) fun v5 =>
  cBn v5 fun b6 =>
  bif b6 then
    aBuild Try.prog 100 [(0, (.int .i64 2)), (1, s6), (2, s7), (3, (.int .i64 0))] fun v7 =>
    aBuild Try.prog 100 [(0, (.int .i64 2)), (1, s6), (2, s7), (3, (.int .i64 1))] fun v8 =>
    aBuildSlice Try.prog 63 2 [(0, v7), (1, v8)] h3 fun v9 h10 =>
    aBuiltin Try.prog md .append #[63, 63] [s3, v9] h10 fun v11 h12 =>
    aBin Try.prog .add 3 s7 (.int .i64 1) fun v13 =>
    some (.inl ((s1, s2, v11, s6, v13), h12))
  else
    some (.inr ((.exit 6), (s1, s2, s3, s6, s7), h3))
theorem Jr49_2b0_at (rc : Rec) (md : Md) (t : T) (h : Heap) : exec Try.prog cfg rc md 48 (sub (bodyOf Try.prog 49) [1, 1, 1, 0, 1, 0, 0, 1, 0, 0, 1, 0, 0]) (rndK (fun t => (t 1, t 2, t 3, t 6, t 7))) t h = Jr49_2b0 rc md (t 1) (t 2) (t 3) (t 6) (t 7) h := by kernel_rfl
noncomputable def J49_2b0 (rc : Rec) (md : Md) (s1 : Value) (s2 : Value) (s3 : Value) (s6 : Value) (s7 : Value) (h : Heap) : Option (((Value × Value × Value × Value) × Heap) ⊕ (Exit × (Value × Value × Value × Value) × Heap)) :=
  runL (fun x : (Value × Value × Value × Value × Value) × Heap => Jr49_2b0 rc md x.1.1 x.1.2.1 x.1.2.2.1 x.1.2.2.2.1 x.1.2.2.2.2 x.2) (fun e (s : Value × Value × Value × Value × Value) h => Jk49_2b0 rc md e s.1 s.2.1 s.2.2.1 s.2.2.2.1 s.2.2.2.2 h) (s1, s2, s3, s6, s7) h
theorem J49_2b0_step (rc : Rec) (md : Md) (s1 : Value) (s2 : Value) (s3 : Value) (s6 : Value) (s7 : Value) (h : Heap) : J49_2b0 rc md s1 s2 s3 s6 s7 h = (Jr49_2b0 rc md s1 s2 s3 s6 s7 h).bind fun x => match x with
    | .inl (s, h) => J49_2b0 rc md s.1 s.2.1 s.2.2.1 s.2.2.2.1 s.2.2.2.2 h
    | .inr (e, s, h) => Jk49_2b0 rc md e s.1 s.2.1 s.2.2.1 s.2.2.2.1 s.2.2.2.2 h := by
  unfold J49_2b0
  rw [runL_eq]
  refine congrArg (Option.bind _) (funext fun x => ?_)
  rcases x with ⟨s, h⟩ | ⟨e, s, h⟩ <;> rfl
theorem J49_2b0_cut (rc : Rec) (md : Md) : cut Try.prog cfg rc md 48 (sub (bodyOf Try.prog 49) [1, 1, 1, 0, 1, 0, 0]) [1, 0, 0, 1, 0] (rndK (fun t => (t 1, t 2, t 3, t 6))) = fun t h => J49_2b0 rc md (t 1) (t 2) (t 3) (t 6) (t 7) h := by
  funext t h
  have e : sub (sub (bodyOf Try.prog 49) [1, 1, 1, 0, 1, 0, 0]) [1, 0, 0, 1, 0] = .loop (sub (bodyOf Try.prog 49) [1, 1, 1, 0, 1, 0, 0, 1, 0, 0, 1, 0, 0]) := by kernel_rfl
  unfold cut
  rw [e]
  exact loop_eq (by kernel_rfl) (fun t => (t 1, t 2, t 3, t 6, t 7)) (fun x : (Value × Value × Value × Value × Value) × Heap => Jr49_2b0 rc md x.1.1 x.1.2.1 x.1.2.2.1 x.1.2.2.2.1 x.1.2.2.2.2 x.2) (fun t h => Jr49_2b0_at rc md t h) (fun e (s : Value × Value × Value × Value × Value) h => Jk49_2b0 rc md e s.1 s.2.1 s.2.2.1 s.2.2.2.1 s.2.2.2.2 h) (fun e t h => Jk49_2b0_at rc md e t h) t h
/-- a round -/
noncomputable def Jr49_2 (rc : Rec) (md : Md) (s1 : Value) (s2 : Value) (s3 : Value) (s6 : Value) (h : Heap) : Option (((Value × Value × Value × Value) × Heap) ⊕ (Exit × (Value × Value × Value × Value) × Heap)) :=
  fA 1 s1 fun v1 =>
  ld1 v1 h fun v2 =>
  cIn .i64 v2 fun n3 =>
  aBin Try.prog .lss 3 s6 (.int .i64 n3) fun v4 =>
  cBn v4 fun b5 =>
  bif b5 then
    J49_2b0 rc md s1 s2 s3 s6 (.int .i64 0) h
  else
    some (.inr ((.exit 4), (s1, s2, s3, s6), h))
noncomputable def Jr49_2H (rc : Rec) (md : Md) (X0 : T → Heap → Option (((Value × Value × Value × Value) × Heap) ⊕ (Exit × (Value × Value × Value × Value) × Heap))) (t : T) (h : Heap) : Option (((Value × Value × Value × Value) × Heap) ⊕ (Exit × (Value × Value × Value × Value) × Heap)) :=
  fA 1 (t 1) fun v1 =>
  ld1 v1 h fun v2 =>
  cIn .i64 v2 fun n3 =>
  aBin Try.prog .lss 3 (t 6) (.int .i64 n3) fun v4 =>
  cBn v4 fun b5 =>
  bif b5 then
    X0 (upd (upd (upd (upd (upd t 26 (t 6)) 27 v1) 28 (.int .i64 n3)) 29 v4) 7 (.int .i64 0)) h
  else
    some (.inr ((.exit 4), ((t 1), (t 2), (t 3), (t 6)), h))
theorem Jr49_2_h1 (rc : Rec) (md : Md) (X : Nat → T → Heap → Option (((Value × Value × Value × Value) × Heap) ⊕ (Exit × (Value × Value × Value × Value) × Heap))) (t : T) (h : Heap) : execG Try.prog cfg X rc md 48 (replS (sub (bodyOf Try.prog 49) [1, 1, 1, 0, 1, 0, 0]) [([1, 0, 0, 1, 0], 0)]) (rndK (fun t => (t 1, t 2, t 3, t 6))) t h = Jr49_2H rc md (X 0) t h := by kernel_rfl
theorem Jr49_2_h2 (rc : Rec) (md : Md) (t : T) (h : Heap) : Jr49_2H rc md (fun t h => J49_2b0 rc md (t 1) (t 2) (t 3) (t 6) (t 7) h) t h = Jr49_2 rc md (t 1) (t 2) (t 3) (t 6) h := by unfold Jr49_2H Jr49_2; kernel_rfl
theorem Jr49_2_at (rc : Rec) (md : Md) (t : T) (h : Heap) : exec Try.prog cfg rc md 48 (sub (bodyOf Try.prog 49) [1, 1, 1, 0, 1, 0, 0]) (rndK (fun t => (t 1, t 2, t 3, t 6))) t h = Jr49_2 rc md (t 1) (t 2) (t 3) (t 6) h := by
  rw [exec_holes [([1, 0, 0, 1, 0], 0)] (by kernel_rfl), Jr49_2_h1, show (goX Try.prog cfg rc md 48 (sub (bodyOf Try.prog 49) [1, 1, 1, 0, 1, 0, 0]) [([1, 0, 0, 1, 0], 0)] (rndK (fun t => (t 1, t 2, t 3, t 6)))) 0 = _ from J49_2b0_cut rc md]
  exact Jr49_2_h2 rc md t h
noncomputable def J49_2 (rc : Rec) (md : Md) (h0 : Heap) (s1 : Value) (s2 : Value) (s3 : Value) (s6 : Value) (h : Heap) : Option (Value × Heap) :=
  runL (fun x : (Value × Value × Value × Value) × Heap => Jr49_2 rc md x.1.1 x.1.2.1 x.1.2.2.1 x.1.2.2.2 x.2) (fun e (s : Value × Value × Value × Value) h => Jk49_2 rc md h0 e s.1 s.2.1 s.2.2.1 s.2.2.2 h) (s1, s2, s3, s6) h
theorem J49_2_step (rc : Rec) (md : Md) (h0 : Heap) (s1 : Value) (s2 : Value) (s3 : Value) (s6 : Value) (h : Heap) : J49_2 rc md h0 s1 s2 s3 s6 h = (Jr49_2 rc md s1 s2 s3 s6 h).bind fun x => match x with
    | .inl (s, h) => J49_2 rc md h0 s.1 s.2.1 s.2.2.1 s.2.2.2 h
    | .inr (e, s, h) => Jk49_2 rc md h0 e s.1 s.2.1 s.2.2.1 s.2.2.2 h := by
  unfold J49_2
  rw [runL_eq]
  refine congrArg (Option.bind _) (funext fun x => ?_)
  rcases x with ⟨s, h⟩ | ⟨e, s, h⟩ <;> rfl
theorem J49_2_cut (rc : Rec) (md : Md) (h0 : Heap) : cut Try.prog cfg rc md 48 (bodyOf Try.prog 49) [1, 1, 1, 0, 1, 0] (retK Try.prog cfg 49 (rsOf Try.prog 49) h0) = fun t h => J49_2 rc md h0 (t 1) (t 2) (t 3) (t 6) h := by
  funext t h
  have e : sub (bodyOf Try.prog 49) [1, 1, 1, 0, 1, 0] = .loop (sub (bodyOf Try.prog 49) [1, 1, 1, 0, 1, 0, 0]) := by kernel_rfl
  unfold cut
  rw [e]
  exact loop_eq (by kernel_rfl) (fun t => (t 1, t 2, t 3, t 6)) (fun x : (Value × Value × Value × Value) × Heap => Jr49_2 rc md x.1.1 x.1.2.1 x.1.2.2.1 x.1.2.2.2 x.2) (fun t h => Jr49_2_at rc md t h) (fun e (s : Value × Value × Value × Value) h => Jk49_2 rc md h0 e s.1 s.2.1 s.2.2.1 s.2.2.2 h) (fun e t h => Jk49_2_at rc md h0 e t h) t h
noncomputable def J49_1 (rc : Rec) (md : Md) (h0 : Heap) (s1 : Value) (s2 : Value) (s3 : Value) (h : Heap) : Option (Value × Heap) :=
  J49_2 rc md h0 s1 s2 s3 (.int .i64 0) h
noncomputable def J49_1H (rc : Rec) (md : Md) (h0 : Heap) (X1 : T → Heap → Option (Value × Heap)) (t : T) (h : Heap) : Option (Value × Heap) :=
  X1 (upd t 6 (.int .i64 0)) h
theorem J49_1_h1 (rc : Rec) (md : Md) (h0 : Heap) (X : Nat → T → Heap → Option (Value × Heap)) (t : T) (h : Heap) : execG Try.prog cfg X rc md 48 (sub (replS (bodyOf Try.prog 49) [([1, 1, 0, 1, 0], 0), ([1, 1, 1, 0, 1, 0], 1)]) [1, 1, 1]) (kAtG Try.prog cfg X rc md 48 (replS (bodyOf Try.prog 49) [([1, 1, 0, 1, 0], 0), ([1, 1, 1, 0, 1, 0], 1)]) [1, 1, 1] (retK Try.prog cfg 49 (rsOf Try.prog 49) h0)) t h = J49_1H rc md h0 (X 1) t h := by kernel_rfl
theorem J49_1_h2 (rc : Rec) (md : Md) (h0 : Heap) (t : T) (h : Heap) : J49_1H rc md h0 (fun t h => J49_2 rc md h0 (t 1) (t 2) (t 3) (t 6) h) t h = J49_1 rc md h0 (t 1) (t 2) (t 3) h := by (unfold J49_1H J49_1; kernel_rfl)
theorem J49_1_at (rc : Rec) (md : Md) (h0 : Heap) (t : T) (h : Heap) : cut Try.prog cfg rc md 48 (bodyOf Try.prog 49) [1, 1, 1] (retK Try.prog cfg 49 (rsOf Try.prog 49) h0) t h = J49_1 rc md h0 (t 1) (t 2) (t 3) h := by
  rw [cut_holes [([1, 1, 0, 1, 0], 0), ([1, 1, 1, 0, 1, 0], 1)] [1, 1, 1] (by kernel_rfl), J49_1_h1, show (goX Try.prog cfg rc md 48 (bodyOf Try.prog 49) [([1, 1, 0, 1, 0], 0), ([1, 1, 1, 0, 1, 0], 1)] (retK Try.prog cfg 49 (rsOf Try.prog 49) h0)) 1 = _ from J49_2_cut rc md h0]
  exact J49_1_h2 rc md h0 t h
theorem J49_1_cut (rc : Rec) (md : Md) (h0 : Heap) : cut Try.prog cfg rc md 48 (bodyOf Try.prog 49) [1, 1, 1] (retK Try.prog cfg 49 (rsOf Try.prog 49) h0) = fun t h => J49_1 rc md h0 (t 1) (t 2) (t 3) h := funext fun t => funext fun h => J49_1_at rc md h0 t h
noncomputable def Jk49_0 (rc : Rec) (md : Md) (h0 : Heap) (e : Exit) (s1 : Value) (s2 : Value) (s3 : Value) (s4 : Value) (h : Heap) : Option (Value × Heap) :=
  match e with
  | .normal =>
    J49_1 rc md h0 s1 s2 s3 h
  | .exit j =>
    bif Nat.beq j 0 then
      J49_1 rc md h0 s1 s2 s3 h
    else
      none
  | .ret =>
    some (s2, h)
  | .goto l => none
  | .panic ps => none
  | .outgrown => none
noncomputable def Jk49_0H (rc : Rec) (md : Md) (h0 : Heap) (X2 : T → Heap → Option (Value × Heap)) (e : Exit) (t : T) (h : Heap) : Option (Value × Heap) :=
  match e with
  | .normal =>
    X2 t h
  | .exit j =>
    bif Nat.beq j 0 then
      X2 t h
    else
      none
  | .ret =>
    some ((t 2), h)
  | .goto l => none
  | .panic ps => none
  | .outgrown => none
theorem Jk49_0_h1 (rc : Rec) (md : Md) (h0 : Heap) (X : Nat → T → Heap → Option (Value × Heap)) (e : Exit) (t : T) (h : Heap) : kAtG Try.prog cfg X rc md 48 (replS (bodyOf Try.prog 49) [([1, 1, 1, 0, 1, 0], 1), ([1, 1, 1], 2)]) [1, 1, 0, 1, 0] (retK Try.prog cfg 49 (rsOf Try.prog 49) h0) e t h = Jk49_0H rc md h0 (X 2) e t h := by cases e <;> kernel_rfl
theorem Jk49_0_h2 (rc : Rec) (md : Md) (h0 : Heap) (e : Exit) (t : T) (h : Heap) : Jk49_0H rc md h0 (fun t h => J49_1 rc md h0 (t 1) (t 2) (t 3) h) e t h = Jk49_0 rc md h0 e (t 1) (t 2) (t 3) (t 4) h := by cases e <;> (unfold Jk49_0H Jk49_0; kernel_rfl)
theorem Jk49_0_at (rc : Rec) (md : Md) (h0 : Heap) (e : Exit) (t : T) (h : Heap) : kAt Try.prog cfg rc md 48 (bodyOf Try.prog 49) [1, 1, 0, 1, 0] (retK Try.prog cfg 49 (rsOf Try.prog 49) h0) e t h = Jk49_0 rc md h0 e (t 1) (t 2) (t 3) (t 4) h := by
  rw [kAt_holes [([1, 1, 1, 0, 1, 0], 1), ([1, 1, 1], 2)] [1, 1, 0, 1, 0] (by kernel_rfl), Jk49_0_h1, show (goX Try.prog cfg rc md 48 (bodyOf Try.prog 49) [([1, 1, 1, 0, 1, 0], 1), ([1, 1, 1], 2)] (retK Try.prog cfg 49 (rsOf Try.prog 49) h0)) 2 = _ from J49_1_cut rc md h0]
  exact Jk49_0_h2 rc md h0 e t h
noncomputable def Jk49_0b0 (rc : Rec) (md : Md) (e : Exit) (s1 : Value) (s2 : Value) (s3 : Value) (s4 : Value) (s5 : Value) (h : Heap) : Option (((Value × Value × Value × Value) × Heap) ⊕ (Exit × (Value × Value × Value × Value) × Heap)) :=
  match e with
  | .normal =>
    aBin Try.prog .add 3 s4 (.int .i64 1) fun v1 =>
    some (.inl ((s1, s2, s3, v1), h))
  | .exit j =>
    bif Nat.beq j 2 then
      aBin Try.prog .add 3 s4 (.int .i64 1) fun v2 =>
      some (.inl ((s1, s2, s3, v2), h))
    else
      bif Nat.beq j 1 then
        aBin Try.prog .add 3 s4 (.int .i64 1) fun v3 =>
        some (.inl ((s1, s2, s3, v3), h))
      else
        some (.inr ((.exit j), (s1, s2, s3, s4), h))
  | .ret =>
    some (.inr (.ret, (s1, s2, s3, s4), h))
  | .goto l => some (.inr ((.goto l), (s1, s2, s3, s4), h))
  | .panic ps => some (.inr ((.panic ps), (s1, s2, s3, s4), h))
  | .outgrown => some (.inr (.outgrown, (s1, s2, s3, s4), h))
theorem Jk49_0b0_at (rc : Rec) (md : Md) (e : Exit) (t : T) (h : Heap) : kAt Try.prog cfg rc md 48 (sub (bodyOf Try.prog 49) [1, 1, 0, 1, 0, 0]) [1, 0, 0, 1, 0] (rndK (fun t => (t 1, t 2, t 3, t 4))) e t h = Jk49_0b0 rc md e (t 1) (t 2) (t 3) (t 4) (t 5) h := by cases e <;> kernel_rfl
/-- a round -/
noncomputable def Jr49_0b0 (rc : Rec) (md : Md) (s1 : Value) (s2 : Value) (s3 : Value) (s4 : Value) (s5 : Value) (h : Heap) : Option (((Value × Value × Value × Value × Value) × Heap) ⊕ (Exit × (Value × Value × Value × Value × Value) × Heap)) :=
  fA 0 s1 fun v1 =>
  ld1 v1 h fun v2 =>
  cIn .i64 v2 fun n3 =>
  aBin Try.prog .lss 3 s5 (.int .i64 n3) fun v4 =>
  cBn v4 fun b5 =>
  bif b5 then
    aBuild Try.prog 100 [(0, (.int .i64 1)), (1, s4), (2, s5), (3, (.int .i64 0))] fun v6 =>
    aBuildSlice Try.prog 63 1 [(0, v6)] h fun v7 h8 =>
    aBuiltin Try.prog md .append #[63, 63] [s3, v7] h8 fun v9 h10 =>
    aBin Try.prog .add 3 s5 (.int .i64 1) fun v11 =>
    some (.inl ((s1, s2, v9, s4, v11), h10))
  else
    some (.inr ((.exit 2), (s1, s2, s3, s4, s5), h))
theorem Jr49_0b0_at (rc : Rec) (md : Md) (t : T) (h : Heap) : exec Try.prog cfg rc md 48 (sub (bodyOf Try.prog 49) [1, 1, 0, 1, 0, 0, 1, 0, 0, 1, 0, 0]) (rndK (fun t => (t 1, t 2, t 3, t 4, t 5))) t h = Jr49_0b0 rc md (t 1) (t 2) (t 3) (t 4) (t 5) h := by kernel_rfl
noncomputable def J49_0b0 (rc : Rec) (md : Md) (s1 : Value) (s2 : Value) (s3 : Value) (s4 : Value) (s5 : Value) (h : Heap) : Option (((Value × Value × Value × Value) × Heap) ⊕ (Exit × (Value × Value × Value × Value) × Heap)) :=
  runL (fun x : (Value × Value × Value × Value × Value) × Heap => Jr49_0b0 rc md x.1.1 x.1.2.1 x.1.2.2.1 x.1.2.2.2.1 x.1.2.2.2.2 x.2) (fun e (s : Value × Value × Value × Value × Value) h => Jk49_0b0 rc md e s.1 s.2.1 s.2.2.1 s.2.2.2.1 s.2.2.2.2 h) (s1, s2, s3, s4, s5) h
theorem J49_0b0_step (rc : Rec) (md : Md) (s1 : Value) (s2 : Value) (s3 : Value) (s4 : Value) (s5 : Value) (h : Heap) : J49_0b0 rc md s1 s2 s3 s4 s5 h = (Jr49_0b0 rc md s1 s2 s3 s4 s5 h).bind fun x => match x with
    | .inl (s, h) => J49_0b0 rc md s.1 s.2.1 s.2.2.1 s.2.2.2.1 s.2.2.2.2 h
    | .inr (e, s, h) => Jk49_0b0 rc md e s.1 s.2.1 s.2.2.1 s.2.2.2.1 s.2.2.2.2 h := by
  unfold J49_0b0
  rw [runL_eq]
  refine congrArg (Option.bind _) (funext fun x => ?_)
  rcases x with ⟨s, h⟩ | ⟨e, s, h⟩ <;> rfl
theorem J49_0b0_cut (rc : Rec) (md : Md) : cut Try.prog cfg rc md 48 (sub (bodyOf Try.prog 49) [1, 1, 0, 1, 0, 0]) [1, 0, 0, 1, 0] (rndK (fun t => (t 1, t 2, t 3, t 4))) = fun t h => J49_0b0 rc md (t 1) (t 2) (t 3) (t 4) (t 5) h := by
  funext t h
  have e : sub (sub (bodyOf Try.prog 49) [1, 1, 0, 1, 0, 0]) [1, 0, 0, 1, 0] = .loop (sub (bodyOf Try.prog 49) [1, 1, 0, 1, 0, 0, 1, 0, 0, 1, 0, 0]) := by kernel_rfl
  unfold cut
  rw [e]
  exact loop_eq (by kernel_rfl) (fun t => (t 1, t 2, t 3, t 4, t 5)) (fun x : (Value × Value × Value × Value × Value) × Heap => Jr49_0b0 rc md x.1.1 x.1.2.1 x.1.2.2.1 x.1.2.2.2.1 x.1.2.2.2.2 x.2) (fun t h => Jr49_0b0_at rc md t h) (fun e (s : Value × Value × Value × Value × Value) h => Jk49_0b0 rc md e s.1 s.2.1 s.2.2.1 s.2.2.2.1 s.2.2.2.2 h) (fun e t h => Jk49_0b0_at rc md e t h) t h
/-- a round -/
noncomputable def Jr49_0 (rc : Rec) (md : Md) (s1 : Value) (s2 : Value) (s3 : Value) (s4 : Value) (h : Heap) : Option (((Value × Value × Value × Value) × Heap) ⊕ (Exit × (Value × Value × Value × Value) × Heap)) :=
  ldN 3 s1 h fun v1 =>
  cl (rc md 54 [v1] h) fun v2 h3 =>
  cIn .i64 v2 fun n4 =>
  aBin Try.prog .lss 3 s4 (.int .i64 n4) fun v5 =>
  cBn v5 fun b6 =>
  bif b6 then
    J49_0b0 rc md s1 s2 s3 s4 (.int .i64 0) h3
  else
    some (.inr ((.exit 0), (s1, s2, s3, s4), h3))
noncomputable def Jr49_0H (rc : Rec) (md : Md) (X0 : T → Heap → Option (((Value × Value × Value × Value) × Heap) ⊕ (Exit × (Value × Value × Value × Value) × Heap))) (t : T) (h : Heap) : Option (((Value × Value × Value × Value) × Heap) ⊕ (Exit × (Value × Value × Value × Value) × Heap)) :=
  ldN 3 (t 1) h fun v1 =>
  cl (rc md 54 [v1] h) fun v2 h3 =>
  cIn .i64 v2 fun n4 =>
  aBin Try.prog .lss 3 (t 4) (.int .i64 n4) fun v5 =>
  cBn v5 fun b6 =>
  bif b6 then
    X0 (upd (upd (upd (upd (upd t 8 (t 4)) 9 v1) 10 (.int .i64 n4)) 11 v5) 5 (.int .i64 0)) h3
  else
    some (.inr ((.exit 0), ((t 1), (t 2), (t 3), (t 4)), h3))
theorem Jr49_0_h1 (rc : Rec) (md : Md) (X : Nat → T → Heap → Option (((Value × Value × Value × Value) × Heap) ⊕ (Exit × (Value × Value × Value × Value) × Heap))) (t : T) (h : Heap) : execG Try.prog cfg X rc md 48 (replS (sub (bodyOf Try.prog 49) [1, 1, 0, 1, 0, 0]) [([1, 0, 0, 1, 0], 0)]) (rndK (fun t => (t 1, t 2, t 3, t 4))) t h = Jr49_0H rc md (X 0) t h := by kernel_rfl
theorem Jr49_0_h2 (rc : Rec) (md : Md) (t : T) (h : Heap) : Jr49_0H rc md (fun t h => J49_0b0 rc md (t 1) (t 2) (t 3) (t 4) (t 5) h) t h = Jr49_0 rc md (t 1) (t 2) (t 3) (t 4) h := by unfold Jr49_0H Jr49_0; kernel_rfl
theorem Jr49_0_at (rc : Rec) (md : Md) (t : T) (h : Heap) : exec Try.prog cfg rc md 48 (sub (bodyOf Try.prog 49) [1, 1, 0, 1, 0, 0]) (rndK (fun t => (t 1, t 2, t 3, t 4))) t h = Jr49_0 rc md (t 1) (t 2) (t 3) (t 4) h := by
  rw [exec_holes [([1, 0, 0, 1, 0], 0)] (by kernel_rfl), Jr49_0_h1, show (goX Try.prog cfg rc md 48 (sub (bodyOf Try.prog 49) [1, 1, 0, 1, 0, 0]) [([1, 0, 0, 1, 0], 0)] (rndK (fun t => (t 1, t 2, t 3, t 4)))) 0 = _ from J49_0b0_cut rc md]
  exact Jr49_0_h2 rc md t h
noncomputable def J49_0 (rc : Rec) (md : Md) (h0 : Heap) (s1 : Value) (s2 : Value) (s3 : Value) (s4 : Value) (h : Heap) : Option (Value × Heap) :=
  runL (fun x : (Value × Value × Value × Value) × Heap => Jr49_0 rc md x.1.1 x.1.2.1 x.1.2.2.1 x.1.2.2.2 x.2) (fun e (s : Value × Value × Value × Value) h => Jk49_0 rc md h0 e s.1 s.2.1 s.2.2.1 s.2.2.2 h) (s1, s2, s3, s4) h
theorem J49_0_step (rc : Rec) (md : Md) (h0 : Heap) (s1 : Value) (s2 : Value) (s3 : Value) (s4 : Value) (h : Heap) : J49_0 rc md h0 s1 s2 s3 s4 h = (Jr49_0 rc md s1 s2 s3 s4 h).bind fun x => match x with
    | .inl (s, h) => J49_0 rc md h0 s.1 s.2.1 s.2.2.1 s.2.2.2 h
    | .inr (e, s, h) => Jk49_0 rc md h0 e s.1 s.2.1 s.2.2.1 s.2.2.2 h := by
  unfold J49_0
  rw [runL_eq]
  refine congrArg (Option.bind _) (funext fun x => ?_)
  rcases x with ⟨s, h⟩ | ⟨e, s, h⟩ <;> rfl
theorem J49_0_cut (rc : Rec) (md : Md) (h0 : Heap) : cut Try.prog cfg rc md 48 (bodyOf Try.prog 49) [1, 1, 0, 1, 0] (retK Try.prog cfg 49 (rsOf Try.prog 49) h0) = fun t h => J49_0 rc md h0 (t 1) (t 2) (t 3) (t 4) h := by
  funext t h
  have e : sub (bodyOf Try.prog 49) [1, 1, 0, 1, 0] = .loop (sub (bodyOf Try.prog 49) [1, 1, 0, 1, 0, 0]) := by kernel_rfl
  unfold cut
  rw [e]
  exact loop_eq (by kernel_rfl) (fun t => (t 1, t 2, t 3, t 4)) (fun x : (Value × Value × Value × Value) × Heap => Jr49_0 rc md x.1.1 x.1.2.1 x.1.2.2.1 x.1.2.2.2 x.2) (fun t h => Jr49_0_at rc md t h) (fun e (s : Value × Value × Value × Value) h => Jk49_0 rc md h0 e s.1 s.2.1 s.2.2.1 s.2.2.2 h) (fun e t h => Jk49_0_at rc md h0 e t h) t h
noncomputable def F49 (rc : Rec) (md : Md) (a0_0 : Int) (a0_1 : Int) (a0_2 : Int) (h0 : Heap) : Option (Value × Heap) :=
  let h1 : Heap := h0 ++ [.own [(.int .i64 a0_0), (.int .i64 a0_1), (.int .i64 a0_2)]]
  J49_0 rc md h0 (.pointer (some ⟨h0.length, 0, none⟩)) (.slice none 0 0) (.slice none 0 0) (.int .i64 0) h1
noncomputable def F49H (rc : Rec) (md : Md) (X0 : T → Heap → Option (Value × Heap)) (a0_0 : Int) (a0_1 : Int) (a0_2 : Int) (h0 : Heap) : Option (Value × Heap) :=
  let h1 : Heap := h0 ++ [.own [(.int .i64 a0_0), (.int .i64 a0_1), (.int .i64 a0_2)]]
  X0 (upd (upd (upd (upd (args0 [(.agg #[(.int .i64 a0_0), (.int .i64 a0_1), (.int .i64 a0_2)])]) 1 (.pointer (some ⟨h0.length, 0, none⟩))) 2 (.slice none 0 0)) 3 (.slice none 0 0)) 4 (.int .i64 0)) h1
theorem F49_h0 (rc : Rec) (md : Md) (a0_0 : Int) (a0_1 : Int) (a0_2 : Int) (h0 : Heap) : callStep0 Try.prog cfg rc md 49 [(.agg #[(.int .i64 a0_0), (.int .i64 a0_1), (.int .i64 a0_2)])] h0 = exec Try.prog cfg rc md 48 (bodyOf Try.prog 49) (retK Try.prog cfg 49 (rsOf Try.prog 49) h0) (args0 [(.agg #[(.int .i64 a0_0), (.int .i64 a0_1), (.int .i64 a0_2)])]) h0 := callStep0_run (by kernel_rfl) (by kernel_rfl) (by kernel_rfl)
theorem F49_h1 (rc : Rec) (md : Md) (X : Nat → T → Heap → Option (Value × Heap)) (a0_0 : Int) (a0_1 : Int) (a0_2 : Int) (h0 : Heap) : execG Try.prog cfg X rc md 48 (replS (bodyOf Try.prog 49) [([1, 1, 0, 1, 0], 0), ([1, 1, 1, 0, 1, 0], 1), ([1, 1, 1], 2)]) (retK Try.prog cfg 49 (rsOf Try.prog 49) h0) (args0 [(.agg #[(.int .i64 a0_0), (.int .i64 a0_1), (.int .i64 a0_2)])]) h0 = F49H rc md (X 0) a0_0 a0_1 a0_2 h0 := by kernel_rfl
theorem F49_h2 (rc : Rec) (md : Md) (a0_0 : Int) (a0_1 : Int) (a0_2 : Int) (h0 : Heap) : F49H rc md (fun t h => J49_0 rc md h0 (t 1) (t 2) (t 3) (t 4) h) a0_0 a0_1 a0_2 h0 = F49 rc md a0_0 a0_1 a0_2 h0 := by unfold F49H F49; kernel_rfl
theorem F49_eq0 (rc : Rec) (md : Md) (a0_0 : Int) (a0_1 : Int) (a0_2 : Int) (h0 : Heap) : callStep0 Try.prog cfg rc md 49 [(.agg #[(.int .i64 a0_0), (.int .i64 a0_1), (.int .i64 a0_2)])] h0 = F49 rc md a0_0 a0_1 a0_2 h0 := by
  rw [F49_h0, exec_holes [([1, 1, 0, 1, 0], 0), ([1, 1, 1, 0, 1, 0], 1), ([1, 1, 1], 2)] (by kernel_rfl), F49_h1, show (goX Try.prog cfg rc md 48 (bodyOf Try.prog 49) [([1, 1, 0, 1, 0], 0), ([1, 1, 1, 0, 1, 0], 1), ([1, 1, 1], 2)] (retK Try.prog cfg 49 (rsOf Try.prog 49) h0)) 0 = _ from J49_0_cut rc md h0]
  exact F49_h2 rc _ a0_0 a0_1 a0_2 h0
theorem F49_eq (rc : Rec) (md : Md) (a0_0 : Int) (a0_1 : Int) (a0_2 : Int) (h0 : Heap) : callStep Try.prog cfg rc md 49 [(.agg #[(.int .i64 a0_0), (.int .i64 a0_1), (.int .i64 a0_2)])] h0 = F49 rc md a0_0 a0_1 a0_2 h0 := (callStep_ne (by kernel_rfl)).trans (F49_eq0 rc md a0_0 a0_1 a0_2 h0)

/-- (*tombolo/cell.Arena).at -/
noncomputable def F51 (rc : Rec) (md : Md) (a0 : Value) (a1 : Int) (a2 : Value) (h0 : Heap) : Option (Value × Heap) :=
  (bif wantV (.bool (decide (a1 < 0))) false then
  some ((.int .i64 a1), h0)
  else some (undef, h0)).bind fun p1 =>
  (bif wantV (.bool (decide (a1 < 0))) false then
  some (a0, p1.2)
  else some (undef, p1.2)).bind fun p2 =>
  (bif wantV (.bool (decide (a1 < 0))) false then
  bif okNil Try.prog p2.1 then
  some (p2.1, p2.2)
  else none
  else some (undef, p2.2)).bind fun p3 =>
  (bif wantV (.bool (decide (a1 < 0))) false then
  fA 0 p3.1 fun v4 =>
  some (v4, p3.2)
  else some (undef, p3.2)).bind fun p5 =>
  (bif wantV (.bool (decide (a1 < 0))) false then
  ld1 p5.1 p5.2 fun v6 =>
  some (v6, p5.2)
  else some (undef, p5.2)).bind fun p7 =>
  (bif wantV (.bool (decide (a1 < 0))) false then
  lenS p7.1 fun v8 =>
  cIn .i64 v8 fun n9 =>
  some ((.int .i64 n9), p7.2)
  else some (undef, p7.2)).bind fun p10 =>
  (bif wantV (.bool (decide (a1 < 0))) false then
  aBin Try.prog .geq 3 p1.1 p10.1 fun v11 =>
  some (v11, p10.2)
  else some (undef, p10.2)).bind fun p12 =>
  cBn (bif (decide (a1 < 0)) then (.bool true) else p12.1) fun b13 =>
  bif b13 then
    some ((.pointer none), List.take h0.length p12.2)
  else
    bif okNil Try.prog a2 then
    ld1 a2 p12.2 fun v14 =>
    cIn .i64 v14 fun n15 =>
    bif okNil Try.prog a2 then
    st md 1 a2 (.int .i64 (IntKind.wrap .i64 (n15 + 1))) p12.2 fun h16 =>
    bif okNil Try.prog a0 then
    fA 0 a0 fun v17 =>
    ld1 v17 h16 fun v18 =>
    ixS 1 v18 a1 fun v19 =>
    fin1 h0 v19 h16
    else none
    else none
    else none
theorem F51_eq0 (rc : Rec) (md : Md) (a0 : Value) (a1 : Int) (a2 : Value) (h0 : Heap) : callStep0 Try.prog cfg rc md 51 [a0, (.int .i64 a1), a2] h0 = F51 rc ⟨md.ro, h0.length⟩ a0 a1 a2 h0 := by kernel_rfl
theorem F51_eq (rc : Rec) (md : Md) (a0 : Value) (a1 : Int) (a2 : Value) (h0 : Heap) : callStep Try.prog cfg rc md 51 [a0, (.int .i64 a1), a2] h0 = F51 rc ⟨md.ro, h0.length⟩ a0 a1 a2 h0 := (callStep_ne (by kernel_rfl)).trans (F51_eq0 rc md a0 a1 a2 h0)

/-- (tombolo/lay.Lay).nodes -/
noncomputable def F52 (rc : Rec) (md : Md) (a0_0 : Int) (a0_1 : Int) (a0_2 : Int) (h0 : Heap) : Option (Value × Heap) :=
  let h1 : Heap := h0 ++ [.own [(.int .i64 a0_0), (.int .i64 a0_1), (.int .i64 a0_2)]]
  ldN 3 (.pointer (some ⟨h0.length, 0, none⟩)) h1 fun v2 =>
  cl (rc md 73 [v2] h1) fun v3 h4 =>
  cIn .i64 v3 fun n5 =>
  ld1 (.pointer (some ⟨h0.length, 0, none⟩)) h4 fun v6 =>
  cIn .i64 v6 fun n7 =>
  ld1 (.pointer (some ⟨h0.length, 0, none⟩)) h4 fun v8 =>
  cIn .i64 v8 fun n9 =>
  some ((.int .i64 (IntKind.wrap .i64 (n5 + (IntKind.wrap .i64 (Int.tdiv (IntKind.wrap .i64 (n7 * (IntKind.wrap .i64 (n9 - 1)))) 2))))), h0)
theorem F52_eq0 (rc : Rec) (md : Md) (a0_0 : Int) (a0_1 : Int) (a0_2 : Int) (h0 : Heap) : callStep0 Try.prog cfg rc md 52 [(.agg #[(.int .i64 a0_0), (.int .i64 a0_1), (.int .i64 a0_2)])] h0 = F52 rc ⟨h0.length, h0.length⟩ a0_0 a0_1 a0_2 h0 := by kernel_rfl
theorem F52_eq (rc : Rec) (md : Md) (a0_0 : Int) (a0_1 : Int) (a0_2 : Int) (h0 : Heap) : callStep Try.prog cfg rc md 52 [(.agg #[(.int .i64 a0_0), (.int .i64 a0_1), (.int .i64 a0_2)])] h0 = alone h0 (F52 rc ⟨0, 0⟩ a0_0 a0_1 a0_2 []) := by
  have e : callStep Try.prog cfg rc md 52 [(.agg #[(.int .i64 a0_0), (.int .i64 a0_1), (.int .i64 a0_2)])] h0 = alone h0 (callStep0 Try.prog cfg rc ⟨0, 0⟩ 52 [(.agg #[(.int .i64 a0_0), (.int .i64 a0_1), (.int .i64 a0_2)])] []) := by kernel_rfl
  rw [e, F52_eq0]; rfl

/-- (tombolo/tomboloref05.Lay).Levels -/
noncomputable def Jk54_0 (rc : Rec) (md : Md) (h0 : Heap) (e : Exit) (s1 : Value) (s2 : Value) (s3 : Value) (s4 : Value) (h : Heap) : Option (Value × Heap) :=
  match e with
  | .normal =>
    fin2 h0 s3
  | .exit j =>
    bif Nat.beq j 0 then
      fin2 h0 s3
    else
      none
  | .ret =>
    fin2 h0 s2
  | .goto l => none
  | .panic ps => none
  | .outgrown => none
theorem Jk54_0_at (rc : Rec) (md : Md) (h0 : Heap) (e : Exit) (t : T) (h : Heap) : kAt Try.prog cfg rc md 14 (bodyOf Try.prog 54) [1, 1, 0, 1, 0] (retK Try.prog cfg 54 (rsOf Try.prog 54) h0) e t h = Jk54_0 rc md h0 e (t 1) (t 2) (t 3) (t 4) h := by cases e <;> kernel_rfl
/-- a round -/
noncomputable def Jr54_0 (rc : Rec) (md : Md) (s1 : Value) (s2 : Value) (s3 : Value) (s4 : Value) (h : Heap) : Option (((Value × Value × Value × Value) × Heap) ⊕ (Exit × (Value × Value × Value × Value) × Heap)) :=
  fA 0 s1 fun v1 =>
  ld1 v1 h fun v2 =>
  cIn .i64 v2 fun n3 =>
  aBin Try.prog .leq 3 s4 (.int .i64 n3) fun v4 =>
  cBn v4 fun b5 =>
  bif b5 then
    aBin Try.prog .add 3 s3 (.int .i64 1) fun v6 =>
    aBin Try.prog .mul 3 s4 (.int .i64 2) fun v7 =>
    some (.inl ((s1, s2, v6, v7), h))
  else
    some (.inr ((.exit 0), (s1, s2, s3, s4), h))
theorem Jr54_0_at (rc : Rec) (md : Md) (t : T) (h : Heap) : exec Try.prog cfg rc md 14 (sub (bodyOf Try.prog 54) [1, 1, 0, 1, 0, 0]) (rndK (fun t => (t 1, t 2, t 3, t 4))) t h = Jr54_0 rc md (t 1) (t 2) (t 3) (t 4) h := by kernel_rfl
noncomputable def J54_0 (rc : Rec) (md : Md) (h0 : Heap) (s1 : Value) (s2 : Value) (s3 : Value) (s4 : Value) (h : Heap) : Option (Value × Heap) :=
  runL (fun x : (Value × Value × Value × Value) × Heap => Jr54_0 rc md x.1.1 x.1.2.1 x.1.2.2.1 x.1.2.2.2 x.2) (fun e (s : Value × Value × Value × Value) h => Jk54_0 rc md h0 e s.1 s.2.1 s.2.2.1 s.2.2.2 h) (s1, s2, s3, s4) h
theorem J54_0_step (rc : Rec) (md : Md) (h0 : Heap) (s1 : Value) (s2 : Value) (s3 : Value) (s4 : Value) (h : Heap) : J54_0 rc md h0 s1 s2 s3 s4 h = (Jr54_0 rc md s1 s2 s3 s4 h).bind fun x => match x with
    | .inl (s, h) => J54_0 rc md h0 s.1 s.2.1 s.2.2.1 s.2.2.2 h
    | .inr (e, s, h) => Jk54_0 rc md h0 e s.1 s.2.1 s.2.2.1 s.2.2.2 h := by
  unfold J54_0
  rw [runL_eq]
  refine congrArg (Option.bind _) (funext fun x => ?_)
  rcases x with ⟨s, h⟩ | ⟨e, s, h⟩ <;> rfl
theorem J54_0_cut (rc : Rec) (md : Md) (h0 : Heap) : cut Try.prog cfg rc md 14 (bodyOf Try.prog 54) [1, 1, 0, 1, 0] (retK Try.prog cfg 54 (rsOf Try.prog 54) h0) = fun t h => J54_0 rc md h0 (t 1) (t 2) (t 3) (t 4) h := by
  funext t h
  have e : sub (bodyOf Try.prog 54) [1, 1, 0, 1, 0] = .loop (sub (bodyOf Try.prog 54) [1, 1, 0, 1, 0, 0]) := by kernel_rfl
  unfold cut
  rw [e]
  exact loop_eq (by kernel_rfl) (fun t => (t 1, t 2, t 3, t 4)) (fun x : (Value × Value × Value × Value) × Heap => Jr54_0 rc md x.1.1 x.1.2.1 x.1.2.2.1 x.1.2.2.2 x.2) (fun t h => Jr54_0_at rc md t h) (fun e (s : Value × Value × Value × Value) h => Jk54_0 rc md h0 e s.1 s.2.1 s.2.2.1 s.2.2.2 h) (fun e t h => Jk54_0_at rc md h0 e t h) t h
noncomputable def F54 (rc : Rec) (md : Md) (a0_0 : Int) (a0_1 : Int) (a0_2 : Int) (h0 : Heap) : Option (Value × Heap) :=
  let h1 : Heap := h0 ++ [.own [(.int .i64 a0_0), (.int .i64 a0_1), (.int .i64 a0_2)]]
  J54_0 rc md h0 (.pointer (some ⟨h0.length, 0, none⟩)) (.int .i64 0) (.int .i64 0) (.int .i64 1) h1
noncomputable def F54H (rc : Rec) (md : Md) (X0 : T → Heap → Option (Value × Heap)) (a0_0 : Int) (a0_1 : Int) (a0_2 : Int) (h0 : Heap) : Option (Value × Heap) :=
  let h1 : Heap := h0 ++ [.own [(.int .i64 a0_0), (.int .i64 a0_1), (.int .i64 a0_2)]]
  X0 (upd (upd (upd (upd (args0 [(.agg #[(.int .i64 a0_0), (.int .i64 a0_1), (.int .i64 a0_2)])]) 1 (.pointer (some ⟨h0.length, 0, none⟩))) 2 (.int .i64 0)) 3 (.int .i64 0)) 4 (.int .i64 1)) h1
theorem F54_h0 (rc : Rec) (md : Md) (a0_0 : Int) (a0_1 : Int) (a0_2 : Int) (h0 : Heap) : callStep0 Try.prog cfg rc md 54 [(.agg #[(.int .i64 a0_0), (.int .i64 a0_1), (.int .i64 a0_2)])] h0 = exec Try.prog cfg rc ⟨h0.length, h0.length⟩ 14 (bodyOf Try.prog 54) (retK Try.prog cfg 54 (rsOf Try.prog 54) h0) (args0 [(.agg #[(.int .i64 a0_0), (.int .i64 a0_1), (.int .i64 a0_2)])]) h0 := callStep0_run (by kernel_rfl) (by kernel_rfl) (by kernel_rfl)
theorem F54_h1 (rc : Rec) (md : Md) (X : Nat → T → Heap → Option (Value × Heap)) (a0_0 : Int) (a0_1 : Int) (a0_2 : Int) (h0 : Heap) : execG Try.prog cfg X rc md 14 (replS (bodyOf Try.prog 54) [([1, 1, 0, 1, 0], 0)]) (retK Try.prog cfg 54 (rsOf Try.prog 54) h0) (args0 [(.agg #[(.int .i64 a0_0), (.int .i64 a0_1), (.int .i64 a0_2)])]) h0 = F54H rc md (X 0) a0_0 a0_1 a0_2 h0 := by kernel_rfl
theorem F54_h2 (rc : Rec) (md : Md) (a0_0 : Int) (a0_1 : Int) (a0_2 : Int) (h0 : Heap) : F54H rc md (fun t h => J54_0 rc md h0 (t 1) (t 2) (t 3) (t 4) h) a0_0 a0_1 a0_2 h0 = F54 rc md a0_0 a0_1 a0_2 h0 := by unfold F54H F54; kernel_rfl
theorem F54_eq0 (rc : Rec) (md : Md) (a0_0 : Int) (a0_1 : Int) (a0_2 : Int) (h0 : Heap) : callStep0 Try.prog cfg rc md 54 [(.agg #[(.int .i64 a0_0), (.int .i64 a0_1), (.int .i64 a0_2)])] h0 = F54 rc ⟨h0.length, h0.length⟩ a0_0 a0_1 a0_2 h0 := by
  rw [F54_h0, exec_holes [([1, 1, 0, 1, 0], 0)] (by kernel_rfl), F54_h1, show (goX Try.prog cfg rc ⟨h0.length, h0.length⟩ 14 (bodyOf Try.prog 54) [([1, 1, 0, 1, 0], 0)] (retK Try.prog cfg 54 (rsOf Try.prog 54) h0)) 0 = _ from J54_0_cut rc ⟨h0.length, h0.length⟩ h0]
  exact F54_h2 rc _ a0_0 a0_1 a0_2 h0
theorem F54_eq (rc : Rec) (md : Md) (a0_0 : Int) (a0_1 : Int) (a0_2 : Int) (h0 : Heap) : callStep Try.prog cfg rc md 54 [(.agg #[(.int .i64 a0_0), (.int .i64 a0_1), (.int .i64 a0_2)])] h0 = alone h0 (F54 rc ⟨0, 0⟩ a0_0 a0_1 a0_2 []) := by
  have e : callStep Try.prog cfg rc md 54 [(.agg #[(.int .i64 a0_0), (.int .i64 a0_1), (.int .i64 a0_2)])] h0 = alone h0 (callStep0 Try.prog cfg rc ⟨0, 0⟩ 54 [(.agg #[(.int .i64 a0_0), (.int .i64 a0_1), (.int .i64 a0_2)])] []) := by kernel_rfl
  rw [e, F54_eq0]; rfl

/-- (tombolo/lay.Lay).Free -/
noncomputable def F56 (rc : Rec) (md : Md) (a0_0 : Int) (a0_1 : Int) (a0_2 : Int) (h0 : Heap) : Option (Value × Heap) :=
  let h1 : Heap := h0 ++ [.own [(.int .i64 a0_0), (.int .i64 a0_1), (.int .i64 a0_2)]]
  ld1 (.pointer (some ⟨h0.length, 2, none⟩)) h1 fun v2 =>
  cIn .i64 v2 fun n3 =>
  some ((.int .i64 n3), h0)
theorem F56_eq0 (rc : Rec) (md : Md) (a0_0 : Int) (a0_1 : Int) (a0_2 : Int) (h0 : Heap) : callStep0 Try.prog cfg rc md 56 [(.agg #[(.int .i64 a0_0), (.int .i64 a0_1), (.int .i64 a0_2)])] h0 = F56 rc ⟨h0.length, h0.length⟩ a0_0 a0_1 a0_2 h0 := by kernel_rfl
theorem F56_eq (rc : Rec) (md : Md) (a0_0 : Int) (a0_1 : Int) (a0_2 : Int) (h0 : Heap) : callStep Try.prog cfg rc md 56 [(.agg #[(.int .i64 a0_0), (.int .i64 a0_1), (.int .i64 a0_2)])] h0 = alone h0 (F56 rc ⟨0, 0⟩ a0_0 a0_1 a0_2 []) := by
  have e : callStep Try.prog cfg rc md 56 [(.agg #[(.int .i64 a0_0), (.int .i64 a0_1), (.int .i64 a0_2)])] h0 = alone h0 (callStep0 Try.prog cfg rc ⟨0, 0⟩ 56 [(.agg #[(.int .i64 a0_0), (.int .i64 a0_1), (.int .i64 a0_2)])] []) := by kernel_rfl
  rw [e, F56_eq0]; rfl

/-- (tombolo/lay.Lay).NextFree -/
noncomputable def F57 (rc : Rec) (md : Md) (a0_0 : Int) (a0_1 : Int) (a0_2 : Int) (a1 : Int) (h0 : Heap) : Option (Value × Heap) :=
  let h1 : Heap := h0 ++ [.own [(.int .i64 a0_0), (.int .i64 a0_1), (.int .i64 a0_2)]]
  ldN 3 (.pointer (some ⟨h0.length, 0, none⟩)) h1 fun v2 =>
  cl (rc md 74 [v2, (.int .i64 a1), (.int .i64 0)] h1) fun v3 h4 =>
  cIn .i64 v3 fun n5 =>
  some ((.int .i64 n5), h0)
theorem F57_eq0 (rc : Rec) (md : Md) (a0_0 : Int) (a0_1 : Int) (a0_2 : Int) (a1 : Int) (h0 : Heap) : callStep0 Try.prog cfg rc md 57 [(.agg #[(.int .i64 a0_0), (.int .i64 a0_1), (.int .i64 a0_2)]), (.int .i64 a1)] h0 = F57 rc ⟨h0.length, h0.length⟩ a0_0 a0_1 a0_2 a1 h0 := by kernel_rfl
theorem F57_eq (rc : Rec) (md : Md) (a0_0 : Int) (a0_1 : Int) (a0_2 : Int) (a1 : Int) (h0 : Heap) : callStep Try.prog cfg rc md 57 [(.agg #[(.int .i64 a0_0), (.int .i64 a0_1), (.int .i64 a0_2)]), (.int .i64 a1)] h0 = alone h0 (F57 rc ⟨0, 0⟩ a0_0 a0_1 a0_2 a1 []) := by
  have e : callStep Try.prog cfg rc md 57 [(.agg #[(.int .i64 a0_0), (.int .i64 a0_1), (.int .i64 a0_2)]), (.int .i64 a1)] h0 = alone h0 (callStep0 Try.prog cfg rc ⟨0, 0⟩ 57 [(.agg #[(.int .i64 a0_0), (.int .i64 a0_1), (.int .i64 a0_2)]), (.int .i64 a1)] []) := by kernel_rfl
  rw [e, F57_eq0]; rfl

/-- (tombolo/lay.Lay).Levels -/
noncomputable def F65 (rc : Rec) (md : Md) (a0_0 : Int) (a0_1 : Int) (a0_2 : Int) (h0 : Heap) : Option (Value × Heap) :=
  let h1 : Heap := h0 ++ [.own [(.int .i64 a0_0), (.int .i64 a0_1), (.int .i64 a0_2)]]
  ld1 (.pointer (some ⟨h0.length, 0, none⟩)) h1 fun v2 =>
  cIn .i64 v2 fun n3 =>
  cl (rc md 84 [(.int .u64 (IntKind.wrap .u64 n3))] h1) fun v4 h5 =>
  cIn .i64 v4 fun n6 =>
  some ((.int .i64 n6), h0)
theorem F65_eq0 (rc : Rec) (md : Md) (a0_0 : Int) (a0_1 : Int) (a0_2 : Int) (h0 : Heap) : callStep0 Try.prog cfg rc md 65 [(.agg #[(.int .i64 a0_0), (.int .i64 a0_1), (.int .i64 a0_2)])] h0 = F65 rc ⟨h0.length, h0.length⟩ a0_0 a0_1 a0_2 h0 := by kernel_rfl
theorem F65_eq (rc : Rec) (md : Md) (a0_0 : Int) (a0_1 : Int) (a0_2 : Int) (h0 : Heap) : callStep Try.prog cfg rc md 65 [(.agg #[(.int .i64 a0_0), (.int .i64 a0_1), (.int .i64 a0_2)])] h0 = alone h0 (F65 rc ⟨0, 0⟩ a0_0 a0_1 a0_2 []) := by
  have e : callStep Try.prog cfg rc md 65 [(.agg #[(.int .i64 a0_0), (.int .i64 a0_1), (.int .i64 a0_2)])] h0 = alone h0 (callStep0 Try.prog cfg rc ⟨0, 0⟩ 65 [(.agg #[(.int .i64 a0_0), (.int .i64 a0_1), (.int .i64 a0_2)])] []) := by kernel_rfl
  rw [e, F65_eq0]; rfl

/-- (tombolo/lay.Lay).arcs -/
noncomputable def F66 (rc : Rec) (md : Md) (a0_0 : Int) (a0_1 : Int) (a0_2 : Int) (h0 : Heap) : Option (Value × Heap) :=
  let h1 : Heap := h0 ++ [.own [(.int .i64 a0_0), (.int .i64 a0_1), (.int .i64 a0_2)]]
  ldN 3 (.pointer (some ⟨h0.length, 0, none⟩)) h1 fun v2 =>
  cl (rc md 65 [v2] h1) fun v3 h4 =>
  cIn .i64 v3 fun n5 =>
  some ((.int .i64 (IntKind.wrap .i64 (2 * n5))), h0)
theorem F66_eq0 (rc : Rec) (md : Md) (a0_0 : Int) (a0_1 : Int) (a0_2 : Int) (h0 : Heap) : callStep0 Try.prog cfg rc md 66 [(.agg #[(.int .i64 a0_0), (.int .i64 a0_1), (.int .i64 a0_2)])] h0 = F66 rc ⟨h0.length, h0.length⟩ a0_0 a0_1 a0_2 h0 := by kernel_rfl
theorem F66_eq (rc : Rec) (md : Md) (a0_0 : Int) (a0_1 : Int) (a0_2 : Int) (h0 : Heap) : callStep Try.prog cfg rc md 66 [(.agg #[(.int .i64 a0_0), (.int .i64 a0_1), (.int .i64 a0_2)])] h0 = alone h0 (F66 rc ⟨0, 0⟩ a0_0 a0_1 a0_2 []) := by
  have e : callStep Try.prog cfg rc md 66 [(.agg #[(.int .i64 a0_0), (.int .i64 a0_1), (.int .i64 a0_2)])] h0 = alone h0 (callStep0 Try.prog cfg rc ⟨0, 0⟩ 66 [(.agg #[(.int .i64 a0_0), (.int .i64 a0_1), (.int .i64 a0_2)])] []) := by kernel_rfl
  rw [e, F66_eq0]; rfl

/-- tombolo/lay.below -/
noncomputable def F67 (rc : Rec) (md : Md) (a0 : Int) (a1 : Int) (h0 : Heap) : Option (Value × Heap) :=
  (bif wantV (.bool (decide (a0 ≥ 0))) true then
  some ((.int .i64 a0), h0)
  else some (undef, h0)).bind fun p1 =>
  (bif wantV (.bool (decide (a0 ≥ 0))) true then
  some ((.int .i64 a1), p1.2)
  else some (undef, p1.2)).bind fun p2 =>
  (bif wantV (.bool (decide (a0 ≥ 0))) true then
  aBin Try.prog .lss 3 p1.1 p2.1 fun v3 =>
  some (v3, p2.2)
  else some (undef, p2.2)).bind fun p4 =>
  cBn (bif (decide (a0 ≥ 0)) then p4.1 else (.bool false)) fun b5 =>
  some ((.bool b5), h0)
theorem F67_eq0 (rc : Rec) (md : Md) (a0 : Int) (a1 : Int) (h0 : Heap) : callStep0 Try.prog cfg rc md 67 [(.int .i64 a0), (.int .i64 a1)] h0 = F67 rc ⟨h0.length, h0.length⟩ a0 a1 h0 := by kernel_rfl
theorem F67_eq (rc : Rec) (md : Md) (a0 : Int) (a1 : Int) (h0 : Heap) : callStep Try.prog cfg rc md 67 [(.int .i64 a0), (.int .i64 a1)] h0 = alone h0 (F67 rc ⟨0, 0⟩ a0 a1 []) := by
  have e : callStep Try.prog cfg rc md 67 [(.int .i64 a0), (.int .i64 a1)] h0 = alone h0 (callStep0 Try.prog cfg rc ⟨0, 0⟩ 67 [(.int .i64 a0), (.int .i64 a1)] []) := by kernel_rfl
  rw [e, F67_eq0]; rfl

/-- (tombolo/ptr.Pen).Clean -/
noncomputable def F71 (rc : Rec) (md : Md) (a0_0 : Int) (a0_1 : Int) (a1 : Value) (a2 : Int) (h0 : Heap) : Option (Value × Heap) :=
  let h1 : Heap := h0 ++ [.own [(.int .i64 a0_0), (.int .i64 a0_1)]]
  cl (rc md 88 [a1, (.int .i64 a2), (.func (.func 89) #[] #[])] h1) fun v2 h3 =>
  some ((.tuple #[]), List.take h0.length h3)
theorem F71_eq0 (rc : Rec) (md : Md) (a0_0 : Int) (a0_1 : Int) (a1 : Value) (a2 : Int) (h0 : Heap) : callStep0 Try.prog cfg rc md 71 [(.agg #[(.int .i64 a0_0), (.int .i64 a0_1)]), a1, (.int .i64 a2)] h0 = F71 rc ⟨md.ro, h0.length⟩ a0_0 a0_1 a1 a2 h0 := by kernel_rfl
theorem F71_eq (rc : Rec) (md : Md) (a0_0 : Int) (a0_1 : Int) (a1 : Value) (a2 : Int) (h0 : Heap) : callStep Try.prog cfg rc md 71 [(.agg #[(.int .i64 a0_0), (.int .i64 a0_1)]), a1, (.int .i64 a2)] h0 = F71 rc ⟨md.ro, h0.length⟩ a0_0 a0_1 a1 a2 h0 := (callStep_ne (by kernel_rfl)).trans (F71_eq0 rc md a0_0 a0_1 a1 a2 h0)

/-- (tombolo/lay.Lay).Node -/
noncomputable def F72 (rc : Rec) (md : Md) (a0_0 : Int) (a0_1 : Int) (a0_2 : Int) (a1 : Int) (h0 : Heap) : Option (Value × Heap) :=
  let h1 : Heap := h0 ++ [.own [(.int .i64 a0_0), (.int .i64 a0_1), (.int .i64 a0_2)]]
  let h2 : Heap := h1 ++ [.own [(.bool false), (.int .i64 0), (.int .i64 0), (.int .i64 0), (.int .i64 0)]]
  ldN 3 (.pointer (some ⟨h0.length, 0, none⟩)) h2 fun v3 =>
  cl (rc md 35 [v3] h2) fun v4 h5 =>
  cIn .i64 v4 fun n6 =>
  cl (rc md 67 [(.int .i64 (IntKind.wrap .i64 (a1 - 1))), (.int .i64 n6)] h5) fun v7 h8 =>
  cBn v7 fun b9 =>
  bif !b9 then
    st md 5 (.pointer (some ⟨h1.length, 0, none⟩)) (.agg #[(.bool false), (.int .i64 0), (.int .i64 0), (.int .i64 0), (.int .i64 0)]) h8 fun h10 =>
    ldN 5 (.pointer (some ⟨h1.length, 0, none⟩)) h10 fun v11 =>
    fin2 h0 (.tuple #[v11, (.bool false)])
  else
    ldN 3 (.pointer (some ⟨h0.length, 0, none⟩)) h8 fun v12 =>
    cl (rc md 65 [v12] h8) fun v13 h14 =>
    cIn .i64 v13 fun n15 =>
    ld1 (.pointer (some ⟨h0.length, 0, none⟩)) h14 fun v16 =>
    cIn .i64 v16 fun n17 =>
    bif (decide ((IntKind.wrap .i64 (a1 - 1)) < (IntKind.wrap .i64 (n15 * n17)))) then
      ld1 (.pointer (some ⟨h0.length, 0, none⟩)) h14 fun v18 =>
      cIn .i64 v18 fun n19 =>
      divI .quo (IntKind.wrap .i64 (a1 - 1)) n19 .i64 fun v20 =>
      ld1 (.pointer (some ⟨h0.length, 0, none⟩)) h14 fun v21 =>
      cIn .i64 v21 fun n22 =>
      divI .rem (IntKind.wrap .i64 (a1 - 1)) n22 .i64 fun v23 =>
      aBuild Try.prog 127 [(1, v20), (2, v23)] fun v24 =>
      st md 5 (.pointer (some ⟨h1.length, 0, none⟩)) v24 h14 fun h25 =>
      ldN 5 (.pointer (some ⟨h1.length, 0, none⟩)) h25 fun v26 =>
      fin2 h0 (.tuple #[v26, (.bool true)])
    else
      ldN 3 (.pointer (some ⟨h0.length, 0, none⟩)) h14 fun v27 =>
      cl (rc md 66 [v27] h14) fun v28 h29 =>
      cIn .i64 v28 fun n30 =>
      divI .quo (IntKind.wrap .i64 ((IntKind.wrap .i64 (a1 - 1)) - (IntKind.wrap .i64 (n15 * n17)))) n30 .i64 fun v31 =>
      ldN 3 (.pointer (some ⟨h0.length, 0, none⟩)) h29 fun v32 =>
      cl (rc md 66 [v32] h29) fun v33 h34 =>
      cIn .i64 v33 fun n35 =>
      divI .rem (IntKind.wrap .i64 ((IntKind.wrap .i64 (a1 - 1)) - (IntKind.wrap .i64 (n15 * n17)))) n35 .i64 fun v36 =>
      aBin Try.prog .quo 3 v36 (.int .i64 2) fun v37 =>
      aBuild Try.prog 127 [(0, (.bool true)), (3, v31), (1, v37), (4, (.int .i64 (Int.tmod (IntKind.wrap .i64 ((IntKind.wrap .i64 (a1 - 1)) - (IntKind.wrap .i64 (n15 * n17)))) 2)))] fun v38 =>
      st md 5 (.pointer (some ⟨h1.length, 0, none⟩)) v38 h34 fun h39 =>
      ldN 5 (.pointer (some ⟨h1.length, 0, none⟩)) h39 fun v40 =>
      fin2 h0 (.tuple #[v40, (.bool true)])
theorem F72_eq0 (rc : Rec) (md : Md) (a0_0 : Int) (a0_1 : Int) (a0_2 : Int) (a1 : Int) (h0 : Heap) : callStep0 Try.prog cfg rc md 72 [(.agg #[(.int .i64 a0_0), (.int .i64 a0_1), (.int .i64 a0_2)]), (.int .i64 a1)] h0 = F72 rc ⟨h0.length, h0.length⟩ a0_0 a0_1 a0_2 a1 h0 := by kernel_rfl
theorem F72_eq (rc : Rec) (md : Md) (a0_0 : Int) (a0_1 : Int) (a0_2 : Int) (a1 : Int) (h0 : Heap) : callStep Try.prog cfg rc md 72 [(.agg #[(.int .i64 a0_0), (.int .i64 a0_1), (.int .i64 a0_2)]), (.int .i64 a1)] h0 = alone h0 (F72 rc ⟨0, 0⟩ a0_0 a0_1 a0_2 a1 []) := by
  have e : callStep Try.prog cfg rc md 72 [(.agg #[(.int .i64 a0_0), (.int .i64 a0_1), (.int .i64 a0_2)]), (.int .i64 a1)] h0 = alone h0 (callStep0 Try.prog cfg rc ⟨0, 0⟩ 72 [(.agg #[(.int .i64 a0_0), (.int .i64 a0_1), (.int .i64 a0_2)]), (.int .i64 a1)] []) := by kernel_rfl
  rw [e, F72_eq0]; rfl

/-- (tombolo/lay.Lay).edges -/
noncomputable def F73 (rc : Rec) (md : Md) (a0_0 : Int) (a0_1 : Int) (a0_2 : Int) (h0 : Heap) : Option (Value × Heap) :=
  let h1 : Heap := h0 ++ [.own [(.int .i64 a0_0), (.int .i64 a0_1), (.int .i64 a0_2)]]
  ldN 3 (.pointer (some ⟨h0.length, 0, none⟩)) h1 fun v2 =>
  cl (rc md 91 [v2] h1) fun v3 h4 =>
  cIn .i64 v3 fun n5 =>
  ld1 (.pointer (some ⟨h0.length, 0, none⟩)) h4 fun v6 =>
  cIn .i64 v6 fun n7 =>
  ldN 3 (.pointer (some ⟨h0.length, 0, none⟩)) h4 fun v8 =>
  cl (rc md 65 [v8] h4) fun v9 h10 =>
  cIn .i64 v9 fun n11 =>
  some ((.int .i64 (IntKind.wrap .i64 (n5 + (IntKind.wrap .i64 (n7 * n11))))), h0)
theorem F73_eq0 (rc : Rec) (md : Md) (a0_0 : Int) (a0_1 : Int) (a0_2 : Int) (h0 : Heap) : callStep0 Try.prog cfg rc md 73 [(.agg #[(.int .i64 a0_0), (.int .i64 a0_1), (.int .i64 a0_2)])] h0 = F73 rc ⟨h0.length, h0.length⟩ a0_0 a0_1 a0_2 h0 := by kernel_rfl
theorem F73_eq (rc : Rec) (md : Md) (a0_0 : Int) (a0_1 : Int) (a0_2 : Int) (h0 : Heap) : callStep Try.prog cfg rc md 73 [(.agg #[(.int .i64 a0_0), (.int .i64 a0_1), (.int .i64 a0_2)])] h0 = alone h0 (F73 rc ⟨0, 0⟩ a0_0 a0_1 a0_2 []) := by
  have e : callStep Try.prog cfg rc md 73 [(.agg #[(.int .i64 a0_0), (.int .i64 a0_1), (.int .i64 a0_2)])] h0 = alone h0 (callStep0 Try.prog cfg rc ⟨0, 0⟩ 73 [(.agg #[(.int .i64 a0_0), (.int .i64 a0_1), (.int .i64 a0_2)])] []) := by kernel_rfl
  rw [e, F73_eq0]; rfl

/-- (tombolo/lay.Lay).of -/
noncomputable def F74 (rc : Rec) (md : Md) (a0_0 : Int) (a0_1 : Int) (a0_2 : Int) (a1 : Int) (a2 : Int) (h0 : Heap) : Option (Value × Heap) :=
  let h1 : Heap := h0 ++ [.own [(.int .i64 a0_0), (.int .i64 a0_1), (.int .i64 a0_2)]]
  ld1 (.pointer (some ⟨h0.length, 1, none⟩)) h1 fun v2 =>
  cIn .i64 v2 fun n3 =>
  cl (rc md 67 [(.int .i64 a1), (.int .i64 n3)] h1) fun v4 h5 =>
  cBn v4 fun b6 =>
  bif !b6 then
    some ((.int .i64 (-1)), h0)
  else
    ldN 3 (.pointer (some ⟨h0.length, 0, none⟩)) h5 fun v7 =>
    cl (rc md 56 [v7] h5) fun v8 h9 =>
    cIn .i64 v8 fun n10 =>
    some ((.int .i64 (IntKind.wrap .i64 ((IntKind.wrap .i64 ((IntKind.wrap .i64 (n10 + 1)) + (IntKind.wrap .i64 (a1 * 7)))) + a2))), h0)
theorem F74_eq0 (rc : Rec) (md : Md) (a0_0 : Int) (a0_1 : Int) (a0_2 : Int) (a1 : Int) (a2 : Int) (h0 : Heap) : callStep0 Try.prog cfg rc md 74 [(.agg #[(.int .i64 a0_0), (.int .i64 a0_1), (.int .i64 a0_2)]), (.int .i64 a1), (.int .i64 a2)] h0 = F74 rc ⟨h0.length, h0.length⟩ a0_0 a0_1 a0_2 a1 a2 h0 := by kernel_rfl
theorem F74_eq (rc : Rec) (md : Md) (a0_0 : Int) (a0_1 : Int) (a0_2 : Int) (a1 : Int) (a2 : Int) (h0 : Heap) : callStep Try.prog cfg rc md 74 [(.agg #[(.int .i64 a0_0), (.int .i64 a0_1), (.int .i64 a0_2)]), (.int .i64 a1), (.int .i64 a2)] h0 = alone h0 (F74 rc ⟨0, 0⟩ a0_0 a0_1 a0_2 a1 a2 []) := by
  have e : callStep Try.prog cfg rc md 74 [(.agg #[(.int .i64 a0_0), (.int .i64 a0_1), (.int .i64 a0_2)]), (.int .i64 a1), (.int .i64 a2)] h0 = alone h0 (callStep0 Try.prog cfg rc ⟨0, 0⟩ 74 [(.agg #[(.int .i64 a0_0), (.int .i64 a0_1), (.int .i64 a0_2)]), (.int .i64 a1), (.int .i64 a2)] []) := by kernel_rfl
  rw [e, F74_eq0]; rfl

/-- math/bits.Len -/
noncomputable def F84 (rc : Rec) (md : Md) (a0 : Int) (h0 : Heap) : Option (Value × Heap) :=
  cl (rc md 97 [(.int .u64 a0)] h0) fun v1 h2 =>
  cIn .i64 v1 fun n3 =>
  some ((.int .i64 n3), h0)
theorem F84_eq0 (rc : Rec) (md : Md) (a0 : Int) (h0 : Heap) : callStep0 Try.prog cfg rc md 84 [(.int .u64 a0)] h0 = F84 rc ⟨h0.length, h0.length⟩ a0 h0 := by kernel_rfl
theorem F84_eq (rc : Rec) (md : Md) (a0 : Int) (h0 : Heap) : callStep Try.prog cfg rc md 84 [(.int .u64 a0)] h0 = alone h0 (F84 rc ⟨0, 0⟩ a0 []) := by
  have e : callStep Try.prog cfg rc md 84 [(.int .u64 a0)] h0 = alone h0 (callStep0 Try.prog cfg rc ⟨0, 0⟩ 84 [(.int .u64 a0)] []) := by kernel_rfl
  rw [e, F84_eq0]; rfl

/-- tombolo/ptr.change -/
noncomputable def F88 (rc : Rec) (md : Md) (a0 : Value) (a1 : Int) (a2 : Value) (h0 : Heap) : Option (Value × Heap) :=
  clI Try.prog rc md a0 "Load" [(.int .i64 a1)] h0 fun v1 h2 =>
  cIn .u64 v1 fun n3 =>
  cl (rc md 100 [(.int .u64 n3)] h2) fun v4 h5 =>
  exT v4 0 fun v6 =>
  exT v4 1 fun v7 =>
  cIn .i64 v7 fun n8 =>
  let h9 : Heap := h5 ++ [.own [(.int .i64 0), (.int .i64 0), (.int .i64 0), (.int .i64 0)]]
  st md 4 (.pointer (some ⟨h5.length, 0, none⟩)) v6 h9 fun h10 =>
  bif (n8 != 0) then
    some ((.tuple #[]), List.take h0.length h10)
  else
    ldN 4 (.pointer (some ⟨h5.length, 0, none⟩)) h10 fun v11 =>
    clV rc md a2 [v11] h10 fun v12 h13 =>
    cl (rc md 101 [v12] h13) fun v14 h15 =>
    exT v14 0 fun v16 =>
    cIn .u64 v16 fun n17 =>
    exT v14 1 fun v18 =>
    cIn .i64 v18 fun n19 =>
    bif (n19 == 0) then
      clI Try.prog rc md a0 "Store" [(.int .i64 a1), (.int .u64 n17)] h15 fun v20 h21 =>
      some ((.tuple #[]), List.take h0.length h21)
    else
      some ((.tuple #[]), List.take h0.length h15)
theorem F88_eq0 (rc : Rec) (md : Md) (a0 : Value) (a1 : Int) (a2 : Value) (h0 : Heap) : callStep0 Try.prog cfg rc md 88 [a0, (.int .i64 a1), a2] h0 = F88 rc ⟨md.ro, h0.length⟩ a0 a1 a2 h0 := by kernel_rfl
theorem F88_eq (rc : Rec) (md : Md) (a0 : Value) (a1 : Int) (a2 : Value) (h0 : Heap) : callStep Try.prog cfg rc md 88 [a0, (.int .i64 a1), a2] h0 = F88 rc ⟨md.ro, h0.length⟩ a0 a1 a2 h0 := (callStep_ne (by kernel_rfl)).trans (F88_eq0 rc md a0 a1 a2 h0)

/-- (tombolo/ptr.Pen).Clean$1 -/
noncomputable def F89 (rc : Rec) (md : Md) (a0_0 : Int) (a0_1 : Int) (a0_2 : Int) (a0_3 : Int) (h0 : Heap) : Option (Value × Heap) :=
  let h1 : Heap := h0 ++ [.own [(.int .i64 a0_0), (.int .i64 a0_1), (.int .i64 a0_2), (.int .i64 a0_3)]]
  let h2 : Heap := h1 ++ [.own [(.int .i64 0), (.int .i64 0), (.int .i64 0), (.int .i64 0)]]
  ld1 (.pointer (some ⟨h0.length, 1, none⟩)) h2 fun v3 =>
  cIn .i64 v3 fun n4 =>
  cl (rc md 90 [(.int .i64 n4)] h2) fun v5 h6 =>
  st md 4 (.pointer (some ⟨h1.length, 0, none⟩)) v5 h6 fun h7 =>
  ldN 4 (.pointer (some ⟨h1.length, 0, none⟩)) h7 fun v8 =>
  fin2 h0 v8
theorem F89_eq0 (rc : Rec) (md : Md) (a0_0 : Int) (a0_1 : Int) (a0_2 : Int) (a0_3 : Int) (h0 : Heap) : callStep0 Try.prog cfg rc md 89 [(.agg #[(.int .i64 a0_0), (.int .i64 a0_1), (.int .i64 a0_2), (.int .i64 a0_3)])] h0 = F89 rc ⟨h0.length, h0.length⟩ a0_0 a0_1 a0_2 a0_3 h0 := by kernel_rfl
theorem F89_eq (rc : Rec) (md : Md) (a0_0 : Int) (a0_1 : Int) (a0_2 : Int) (a0_3 : Int) (h0 : Heap) : callStep Try.prog cfg rc md 89 [(.agg #[(.int .i64 a0_0), (.int .i64 a0_1), (.int .i64 a0_2), (.int .i64 a0_3)])] h0 = F89 rc ⟨h0.length, h0.length⟩ a0_0 a0_1 a0_2 a0_3 h0 := (callStep_ne (by kernel_rfl)).trans (F89_eq0 rc md a0_0 a0_1 a0_2 a0_3 h0)

/-- tombolo/word.Of -/
noncomputable def F90 (rc : Rec) (md : Md) (a0 : Int) (h0 : Heap) : Option (Value × Heap) :=
  let h1 : Heap := h0 ++ [.own [(.int .i64 0), (.int .i64 0), (.int .i64 0), (.int .i64 0)]]
  st md 4 (.pointer (some ⟨h0.length, 0, none⟩)) (.agg #[(.int .i64 (if 65535 < (if 0 > a0 then 0 else a0) then 65535 else (if 0 > a0 then 0 else a0))), (.int .i64 (if 65535 < (if 0 > a0 then 0 else a0) then 65535 else (if 0 > a0 then 0 else a0))), (.int .i64 0), (.int .i64 0)]) h1 fun h2 =>
  ldN 4 (.pointer (some ⟨h0.length, 0, none⟩)) h2 fun v3 =>
  fin2 h0 v3
theorem F90_eq0 (rc : Rec) (md : Md) (a0 : Int) (h0 : Heap) : callStep0 Try.prog cfg rc md 90 [(.int .i64 a0)] h0 = F90 rc ⟨h0.length, h0.length⟩ a0 h0 := by kernel_rfl
theorem F90_eq (rc : Rec) (md : Md) (a0 : Int) (h0 : Heap) : callStep Try.prog cfg rc md 90 [(.int .i64 a0)] h0 = alone h0 (F90 rc ⟨0, 0⟩ a0 []) := by
  have e : callStep Try.prog cfg rc md 90 [(.int .i64 a0)] h0 = alone h0 (callStep0 Try.prog cfg rc ⟨0, 0⟩ 90 [(.int .i64 a0)] []) := by kernel_rfl
  rw [e, F90_eq0]; rfl

/-- (tombolo/lay.Lay).heads -/
noncomputable def F91 (rc : Rec) (md : Md) (a0_0 : Int) (a0_1 : Int) (a0_2 : Int) (h0 : Heap) : Option (Value × Heap) :=
  let h1 : Heap := h0 ++ [.own [(.int .i64 a0_0), (.int .i64 a0_1), (.int .i64 a0_2)]]
  ldN 3 (.pointer (some ⟨h0.length, 0, none⟩)) h1 fun v2 =>
  cl (rc md 56 [v2] h1) fun v3 h4 =>
  cIn .i64 v3 fun n5 =>
  ld1 (.pointer (some ⟨h0.length, 1, none⟩)) h4 fun v6 =>
  cIn .i64 v6 fun n7 =>
  some ((.int .i64 (IntKind.wrap .i64 ((IntKind.wrap .i64 (n5 + 1)) + (IntKind.wrap .i64 (n7 * 7))))), h0)
theorem F91_eq0 (rc : Rec) (md : Md) (a0_0 : Int) (a0_1 : Int) (a0_2 : Int) (h0 : Heap) : callStep0 Try.prog cfg rc md 91 [(.agg #[(.int .i64 a0_0), (.int .i64 a0_1), (.int .i64 a0_2)])] h0 = F91 rc ⟨h0.length, h0.length⟩ a0_0 a0_1 a0_2 h0 := by kernel_rfl
theorem F91_eq (rc : Rec) (md : Md) (a0_0 : Int) (a0_1 : Int) (a0_2 : Int) (h0 : Heap) : callStep Try.prog cfg rc md 91 [(.agg #[(.int .i64 a0_0), (.int .i64 a0_1), (.int .i64 a0_2)])] h0 = alone h0 (F91 rc ⟨0, 0⟩ a0_0 a0_1 a0_2 []) := by
  have e : callStep Try.prog cfg rc md 91 [(.agg #[(.int .i64 a0_0), (.int .i64 a0_1), (.int .i64 a0_2)])] h0 = alone h0 (callStep0 Try.prog cfg rc ⟨0, 0⟩ 91 [(.agg #[(.int .i64 a0_0), (.int .i64 a0_1), (.int .i64 a0_2)])] []) := by kernel_rfl
  rw [e, F91_eq0]; rfl

/-- tombolo/tomboloref01.Parts -/
noncomputable def F92 (rc : Rec) (md : Md) (a0 : Int) (h0 : Heap) : Option (Value × Heap) :=
  let h1 : Heap := h0 ++ [.own [(.int .i64 0), (.int .i64 0), (.int .i64 0), (.int .i64 0)]]
  let h2 : Heap := h1 ++ [.own [(.int .i64 0), (.int .i64 0), (.int .i64 0), (.int .i64 0)]]
  st md 4 (.pointer (some ⟨h1.length, 0, none⟩)) (.agg #[(.int .i64 0), (.int .i64 (IntKind.wrap .i64 (Int.tmod a0 65536))), (.int .i64 0), (.int .i64 0)]) h2 fun h3 =>
  st md 1 (.pointer (some ⟨h1.length, 0, none⟩)) (.int .i64 (IntKind.wrap .i64 (Int.tmod (IntKind.wrap .u64 (Int.tdiv a0 65536)) 65536))) h3 fun h4 =>
  st md 1 (.pointer (some ⟨h1.length, 2, none⟩)) (.int .i64 (IntKind.wrap .i64 (Int.tmod (IntKind.wrap .u64 (Int.tdiv (IntKind.wrap .u64 (Int.tdiv a0 65536)) 65536)) 256))) h4 fun h5 =>
  st md 1 (.pointer (some ⟨h1.length, 3, none⟩)) (.int .i64 (IntKind.wrap .i64 (IntKind.wrap .u64 (Int.tdiv (IntKind.wrap .u64 (Int.tdiv (IntKind.wrap .u64 (Int.tdiv a0 65536)) 65536)) 256)))) h5 fun h6 =>
  ldN 4 (.pointer (some ⟨h1.length, 0, none⟩)) h6 fun v7 =>
  st md 4 (.pointer (some ⟨h0.length, 0, none⟩)) v7 h6 fun h8 =>
  ldN 4 (.pointer (some ⟨h0.length, 0, none⟩)) h8 fun v9 =>
  fin2 h0 v9
theorem F92_eq0 (rc : Rec) (md : Md) (a0 : Int) (h0 : Heap) : callStep0 Try.prog cfg rc md 92 [(.int .u64 a0)] h0 = F92 rc ⟨h0.length, h0.length⟩ a0 h0 := by kernel_rfl
theorem F92_eq (rc : Rec) (md : Md) (a0 : Int) (h0 : Heap) : callStep Try.prog cfg rc md 92 [(.int .u64 a0)] h0 = alone h0 (F92 rc ⟨0, 0⟩ a0 []) := by
  have e : callStep Try.prog cfg rc md 92 [(.int .u64 a0)] h0 = alone h0 (callStep0 Try.prog cfg rc ⟨0, 0⟩ 92 [(.int .u64 a0)] []) := by kernel_rfl
  rw [e, F92_eq0]; rfl

/-- math/bits.Len32 -/
noncomputable def J96_1 (rc : Rec) (md : Md) (h0 : Heap) (s0 : Value) (s2 : Value) (h : Heap) : Option (Value × Heap) :=
  aConv Try.prog 79 5 s0 fun v1 =>
  aIndex Try.prog 9 (.string ⟨#[0, 1, 2, 2, 3, 3, 3, 3, 4, 4, 4, 4, 4, 4, 4, 4, 5, 5, 5, 5, 5, 5, 5, 5, 5, 5, 5, 5, 5, 5, 5, 5, 6, 6, 6, 6, 6, 6, 6, 6, 6, 6, 6, 6, 6, 6, 6, 6, 6, 6, 6, 6, 6, 6, 6, 6, 6, 6, 6, 6, 6, 6, 6, 6, 7, 7, 7, 7, 7, 7, 7, 7, 7, 7, 7, 7, 7, 7, 7, 7, 7, 7, 7, 7, 7, 7, 7, 7, 7, 7, 7, 7, 7, 7, 7, 7, 7, 7, 7, 7, 7, 7, 7, 7, 7, 7, 7, 7, 7, 7, 7, 7, 7, 7, 7, 7, 7, 7, 7, 7, 7, 7, 7, 7, 7, 7, 7, 7, 8, 8, 8, 8, 8, 8, 8, 8, 8, 8, 8, 8, 8, 8, 8, 8, 8, 8, 8, 8, 8, 8, 8, 8, 8, 8, 8, 8, 8, 8, 8, 8, 8, 8, 8, 8, 8, 8, 8, 8, 8, 8, 8, 8, 8, 8, 8, 8, 8, 8, 8, 8, 8, 8, 8, 8, 8, 8, 8, 8, 8, 8, 8, 8, 8, 8, 8, 8, 8, 8, 8, 8, 8, 8, 8, 8, 8, 8, 8, 8, 8, 8, 8, 8, 8, 8, 8, 8, 8, 8, 8, 8, 8, 8, 8, 8, 8, 8, 8, 8, 8, 8, 8, 8, 8, 8, 8, 8, 8, 8, 8, 8, 8, 8, 8, 8, 8, 8, 8, 8, 8, 8, 8, 8, 8, 8, 8, 8]⟩) v1 fun v2 =>
  cIn .u8 v2 fun n3 =>
  aBin Try.prog .add 3 s2 (.int .i64 (IntKind.wrap .i64 n3)) fun v4 =>
  fin2 h0 v4
theorem J96_1_at (rc : Rec) (md : Md) (h0 : Heap) (t : T) (h : Heap) : cut Try.prog cfg rc md 19 (bodyOf Try.prog 96) [1, 1, 1] (retK Try.prog cfg 96 (rsOf Try.prog 96) h0) t h = J96_1 rc md h0 (t 0) (t 2) h := by kernel_rfl
theorem J96_1_cut (rc : Rec) (md : Md) (h0 : Heap) : cut Try.prog cfg rc md 19 (bodyOf Try.prog 96) [1, 1, 1] (retK Try.prog cfg 96 (rsOf Try.prog 96) h0) = fun t h => J96_1 rc md h0 (t 0) (t 2) h := funext fun t => funext fun h => J96_1_at rc md h0 t h
noncomputable def J96_0 (rc : Rec) (md : Md) (h0 : Heap) (s0 : Value) (s2 : Value) (h : Heap) : Option (Value × Heap) :=
  aBin Try.prog .geq 79 s0 (.int .u32 256) fun v1 =>
  cBn v1 fun b2 =>
  bif b2 then
    aBin Try.prog .shr 79 s0 (.int .u64 8) fun v3 =>
    aBin Try.prog .add 3 s2 (.int .i64 8) fun v4 =>
    J96_1 rc md h0 v3 v4 h
  else
    J96_1 rc md h0 s0 s2 h
noncomputable def J96_0H (rc : Rec) (md : Md) (h0 : Heap) (X0 : T → Heap → Option (Value × Heap)) (t : T) (h : Heap) : Option (Value × Heap) :=
  aBin Try.prog .geq 79 (t 0) (.int .u32 256) fun v1 =>
  cBn v1 fun b2 =>
  bif b2 then
    aBin Try.prog .shr 79 (t 0) (.int .u64 8) fun v3 =>
    aBin Try.prog .add 3 (t 2) (.int .i64 8) fun v4 =>
    X0 (upd (upd (upd (upd (upd (upd (upd (upd t 7 (t 0)) 8 v1) 9 (t 0)) 10 v3) 0 v3) 11 (t 2)) 12 v4) 2 v4) h
  else
    X0 (upd (upd t 7 (t 0)) 8 v1) h
theorem J96_0_h1 (rc : Rec) (md : Md) (h0 : Heap) (X : Nat → T → Heap → Option (Value × Heap)) (t : T) (h : Heap) : execG Try.prog cfg X rc md 19 (sub (replS (bodyOf Try.prog 96) [([1, 1, 1], 0)]) [1, 1]) (kAtG Try.prog cfg X rc md 19 (replS (bodyOf Try.prog 96) [([1, 1, 1], 0)]) [1, 1] (retK Try.prog cfg 96 (rsOf Try.prog 96) h0)) t h = J96_0H rc md h0 (X 0) t h := by kernel_rfl
theorem J96_0_h2 (rc : Rec) (md : Md) (h0 : Heap) (t : T) (h : Heap) : J96_0H rc md h0 (fun t h => J96_1 rc md h0 (t 0) (t 2) h) t h = J96_0 rc md h0 (t 0) (t 2) h := by (unfold J96_0H J96_0; kernel_rfl)
theorem J96_0_at (rc : Rec) (md : Md) (h0 : Heap) (t : T) (h : Heap) : cut Try.prog cfg rc md 19 (bodyOf Try.prog 96) [1, 1] (retK Try.prog cfg 96 (rsOf Try.prog 96) h0) t h = J96_0 rc md h0 (t 0) (t 2) h := by
  rw [cut_holes [([1, 1, 1], 0)] [1, 1] (by kernel_rfl), J96_0_h1, show (goX Try.prog cfg rc md 19 (bodyOf Try.prog 96) [([1, 1, 1], 0)] (retK Try.prog cfg 96 (rsOf Try.prog 96) h0)) 0 = _ from J96_1_cut rc md h0]
  exact J96_0_h2 rc md h0 t h
theorem J96_0_cut (rc : Rec) (md : Md) (h0 : Heap) : cut Try.prog cfg rc md 19 (bodyOf Try.prog 96) [1, 1] (retK Try.prog cfg 96 (rsOf Try.prog 96) h0) = fun t h => J96_0 rc md h0 (t 0) (t 2) h := funext fun t => funext fun h => J96_0_at rc md h0 t h
noncomputable def F96 (rc : Rec) (md : Md) (a0 : Int) (h0 : Heap) : Option (Value × Heap) :=
  bif (decide (a0 ≥ 65536)) then
    J96_0 rc md h0 (.int .u32 (Int.fdiv a0 (2 ^ 16))) (.int .i64 16) h0
  else
    J96_0 rc md h0 (.int .u32 a0) (.int .i64 0) h0
noncomputable def F96H (rc : Rec) (md : Md) (X1 : T → Heap → Option (Value × Heap)) (a0 : Int) (h0 : Heap) : Option (Value × Heap) :=
  bif (decide (a0 ≥ 65536)) then
    X1 (upd (upd (upd (upd (upd (upd (upd (args0 [(.int .u32 a0)]) 2 (.int .i64 0)) 3 (.int .u32 a0)) 4 (.bool (decide (a0 ≥ 65536)))) 5 (.int .u32 a0)) 6 (.int .u32 (Int.fdiv a0 (2 ^ 16)))) 0 (.int .u32 (Int.fdiv a0 (2 ^ 16)))) 2 (.int .i64 16)) h0
  else
    X1 (upd (upd (upd (args0 [(.int .u32 a0)]) 2 (.int .i64 0)) 3 (.int .u32 a0)) 4 (.bool (decide (a0 ≥ 65536)))) h0
theorem F96_h0 (rc : Rec) (md : Md) (a0 : Int) (h0 : Heap) : callStep0 Try.prog cfg rc md 96 [(.int .u32 a0)] h0 = exec Try.prog cfg rc ⟨h0.length, h0.length⟩ 19 (bodyOf Try.prog 96) (retK Try.prog cfg 96 (rsOf Try.prog 96) h0) (args0 [(.int .u32 a0)]) h0 := callStep0_run (by kernel_rfl) (by kernel_rfl) (by kernel_rfl)
theorem F96_h1 (rc : Rec) (md : Md) (X : Nat → T → Heap → Option (Value × Heap)) (a0 : Int) (h0 : Heap) : execG Try.prog cfg X rc md 19 (replS (bodyOf Try.prog 96) [([1, 1, 1], 0), ([1, 1], 1)]) (retK Try.prog cfg 96 (rsOf Try.prog 96) h0) (args0 [(.int .u32 a0)]) h0 = F96H rc md (X 1) a0 h0 := by kernel_rfl
theorem F96_h2 (rc : Rec) (md : Md) (a0 : Int) (h0 : Heap) : F96H rc md (fun t h => J96_0 rc md h0 (t 0) (t 2) h) a0 h0 = F96 rc md a0 h0 := by unfold F96H F96; kernel_rfl
theorem F96_eq0 (rc : Rec) (md : Md) (a0 : Int) (h0 : Heap) : callStep0 Try.prog cfg rc md 96 [(.int .u32 a0)] h0 = F96 rc ⟨h0.length, h0.length⟩ a0 h0 := by
  rw [F96_h0, exec_holes [([1, 1, 1], 0), ([1, 1], 1)] (by kernel_rfl), F96_h1, show (goX Try.prog cfg rc ⟨h0.length, h0.length⟩ 19 (bodyOf Try.prog 96) [([1, 1, 1], 0), ([1, 1], 1)] (retK Try.prog cfg 96 (rsOf Try.prog 96) h0)) 1 = _ from J96_0_cut rc ⟨h0.length, h0.length⟩ h0]
  exact F96_h2 rc _ a0 h0
theorem F96_eq (rc : Rec) (md : Md) (a0 : Int) (h0 : Heap) : callStep Try.prog cfg rc md 96 [(.int .u32 a0)] h0 = alone h0 (F96 rc ⟨0, 0⟩ a0 []) := by
  have e : callStep Try.prog cfg rc md 96 [(.int .u32 a0)] h0 = alone h0 (callStep0 Try.prog cfg rc ⟨0, 0⟩ 96 [(.int .u32 a0)] []) := by kernel_rfl
  rw [e, F96_eq0]; rfl

/-- math/bits.Len64 -/
noncomputable def J97_2 (rc : Rec) (md : Md) (h0 : Heap) (s0 : Value) (s2 : Value) (h : Heap) : Option (Value × Heap) :=
  aConv Try.prog 59 5 s0 fun v1 =>
  aIndex Try.prog 9 (.string ⟨#[0, 1, 2, 2, 3, 3, 3, 3, 4, 4, 4, 4, 4, 4, 4, 4, 5, 5, 5, 5, 5, 5, 5, 5, 5, 5, 5, 5, 5, 5, 5, 5, 6, 6, 6, 6, 6, 6, 6, 6, 6, 6, 6, 6, 6, 6, 6, 6, 6, 6, 6, 6, 6, 6, 6, 6, 6, 6, 6, 6, 6, 6, 6, 6, 7, 7, 7, 7, 7, 7, 7, 7, 7, 7, 7, 7, 7, 7, 7, 7, 7, 7, 7, 7, 7, 7, 7, 7, 7, 7, 7, 7, 7, 7, 7, 7, 7, 7, 7, 7, 7, 7, 7, 7, 7, 7, 7, 7, 7, 7, 7, 7, 7, 7, 7, 7, 7, 7, 7, 7, 7, 7, 7, 7, 7, 7, 7, 7, 8, 8, 8, 8, 8, 8, 8, 8, 8, 8, 8, 8, 8, 8, 8, 8, 8, 8, 8, 8, 8, 8, 8, 8, 8, 8, 8, 8, 8, 8, 8, 8, 8, 8, 8, 8, 8, 8, 8, 8, 8, 8, 8, 8, 8, 8, 8, 8, 8, 8, 8, 8, 8, 8, 8, 8, 8, 8, 8, 8, 8, 8, 8, 8, 8, 8, 8, 8, 8, 8, 8, 8, 8, 8, 8, 8, 8, 8, 8, 8, 8, 8, 8, 8, 8, 8, 8, 8, 8, 8, 8, 8, 8, 8, 8, 8, 8, 8, 8, 8, 8, 8, 8, 8, 8, 8, 8, 8, 8, 8, 8, 8, 8, 8, 8, 8, 8, 8, 8, 8, 8, 8, 8, 8, 8, 8, 8, 8]⟩) v1 fun v2 =>
  cIn .u8 v2 fun n3 =>
  aBin Try.prog .add 3 s2 (.int .i64 (IntKind.wrap .i64 n3)) fun v4 =>
  fin2 h0 v4
theorem J97_2_at (rc : Rec) (md : Md) (h0 : Heap) (t : T) (h : Heap) : cut Try.prog cfg rc md 25 (bodyOf Try.prog 97) [1, 1, 1, 1] (retK Try.prog cfg 97 (rsOf Try.prog 97) h0) t h = J97_2 rc md h0 (t 0) (t 2) h := by kernel_rfl
theorem J97_2_cut (rc : Rec) (md : Md) (h0 : Heap) : cut Try.prog cfg rc md 25 (bodyOf Try.prog 97) [1, 1, 1, 1] (retK Try.prog cfg 97 (rsOf Try.prog 97) h0) = fun t h => J97_2 rc md h0 (t 0) (t 2) h := funext fun t => funext fun h => J97_2_at rc md h0 t h
noncomputable def J97_1 (rc : Rec) (md : Md) (h0 : Heap) (s0 : Value) (s2 : Value) (h : Heap) : Option (Value × Heap) :=
  aBin Try.prog .geq 59 s0 (.int .u64 256) fun v1 =>
  cBn v1 fun b2 =>
  bif b2 then
    aBin Try.prog .shr 59 s0 (.int .u64 8) fun v3 =>
    aBin Try.prog .add 3 s2 (.int .i64 8) fun v4 =>
    J97_2 rc md h0 v3 v4 h
  else
    J97_2 rc md h0 s0 s2 h
noncomputable def J97_1H (rc : Rec) (md : Md) (h0 : Heap) (X0 : T → Heap → Option (Value × Heap)) (t : T) (h : Heap) : Option (Value × Heap) :=
  aBin Try.prog .geq 59 (t 0) (.int .u64 256) fun v1 =>
  cBn v1 fun b2 =>
  bif b2 then
    aBin Try.prog .shr 59 (t 0) (.int .u64 8) fun v3 =>
    aBin Try.prog .add 3 (t 2) (.int .i64 8) fun v4 =>
    X0 (upd (upd (upd (upd (upd (upd (upd (upd t 13 (t 0)) 14 v1) 15 (t 0)) 16 v3) 0 v3) 17 (t 2)) 18 v4) 2 v4) h
  else
    X0 (upd (upd t 13 (t 0)) 14 v1) h
theorem J97_1_h1 (rc : Rec) (md : Md) (h0 : Heap) (X : Nat → T → Heap → Option (Value × Heap)) (t : T) (h : Heap) : execG Try.prog cfg X rc md 25 (sub (replS (bodyOf Try.prog 97) [([1, 1, 1, 1], 0)]) [1, 1, 1]) (kAtG Try.prog cfg X rc md 25 (replS (bodyOf Try.prog 97) [([1, 1, 1, 1], 0)]) [1, 1, 1] (retK Try.prog cfg 97 (rsOf Try.prog 97) h0)) t h = J97_1H rc md h0 (X 0) t h := by kernel_rfl
theorem J97_1_h2 (rc : Rec) (md : Md) (h0 : Heap) (t : T) (h : Heap) : J97_1H rc md h0 (fun t h => J97_2 rc md h0 (t 0) (t 2) h) t h = J97_1 rc md h0 (t 0) (t 2) h := by (unfold J97_1H J97_1; kernel_rfl)
theorem J97_1_at (rc : Rec) (md : Md) (h0 : Heap) (t : T) (h : Heap) : cut Try.prog cfg rc md 25 (bodyOf Try.prog 97) [1, 1, 1] (retK Try.prog cfg 97 (rsOf Try.prog 97) h0) t h = J97_1 rc md h0 (t 0) (t 2) h := by
  rw [cut_holes [([1, 1, 1, 1], 0)] [1, 1, 1] (by kernel_rfl), J97_1_h1, show (goX Try.prog cfg rc md 25 (bodyOf Try.prog 97) [([1, 1, 1, 1], 0)] (retK Try.prog cfg 97 (rsOf Try.prog 97) h0)) 0 = _ from J97_2_cut rc md h0]
  exact J97_1_h2 rc md h0 t h
theorem J97_1_cut (rc : Rec) (md : Md) (h0 : Heap) : cut Try.prog cfg rc md 25 (bodyOf Try.prog 97) [1, 1, 1] (retK Try.prog cfg 97 (rsOf Try.prog 97) h0) = fun t h => J97_1 rc md h0 (t 0) (t 2) h := funext fun t => funext fun h => J97_1_at rc md h0 t h
noncomputable def J97_0 (rc : Rec) (md : Md) (h0 : Heap) (s0 : Value) (s2 : Value) (h : Heap) : Option (Value × Heap) :=
  aBin Try.prog .geq 59 s0 (.int .u64 65536) fun v1 =>
  cBn v1 fun b2 =>
  bif b2 then
    aBin Try.prog .shr 59 s0 (.int .u64 16) fun v3 =>
    aBin Try.prog .add 3 s2 (.int .i64 16) fun v4 =>
    J97_1 rc md h0 v3 v4 h
  else
    J97_1 rc md h0 s0 s2 h
noncomputable def J97_0H (rc : Rec) (md : Md) (h0 : Heap) (X1 : T → Heap → Option (Value × Heap)) (t : T) (h : Heap) : Option (Value × Heap) :=
  aBin Try.prog .geq 59 (t 0) (.int .u64 65536) fun v1 =>
  cBn v1 fun b2 =>
  bif b2 then
    aBin Try.prog .shr 59 (t 0) (.int .u64 16) fun v3 =>
    aBin Try.prog .add 3 (t 2) (.int .i64 16) fun v4 =>
    X1 (upd (upd (upd (upd (upd (upd (upd (upd t 7 (t 0)) 8 v1) 9 (t 0)) 10 v3) 0 v3) 11 (t 2)) 12 v4) 2 v4) h
  else
    X1 (upd (upd t 7 (t 0)) 8 v1) h
theorem J97_0_h1 (rc : Rec) (md : Md) (h0 : Heap) (X : Nat → T → Heap → Option (Value × Heap)) (t : T) (h : Heap) : execG Try.prog cfg X rc md 25 (sub (replS (bodyOf Try.prog 97) [([1, 1, 1, 1], 0), ([1, 1, 1], 1)]) [1, 1]) (kAtG Try.prog cfg X rc md 25 (replS (bodyOf Try.prog 97) [([1, 1, 1, 1], 0), ([1, 1, 1], 1)]) [1, 1] (retK Try.prog cfg 97 (rsOf Try.prog 97) h0)) t h = J97_0H rc md h0 (X 1) t h := by kernel_rfl
theorem J97_0_h2 (rc : Rec) (md : Md) (h0 : Heap) (t : T) (h : Heap) : J97_0H rc md h0 (fun t h => J97_1 rc md h0 (t 0) (t 2) h) t h = J97_0 rc md h0 (t 0) (t 2) h := by (unfold J97_0H J97_0; kernel_rfl)
theorem J97_0_at (rc : Rec) (md : Md) (h0 : Heap) (t : T) (h : Heap) : cut Try.prog cfg rc md 25 (bodyOf Try.prog 97) [1, 1] (retK Try.prog cfg 97 (rsOf Try.prog 97) h0) t h = J97_0 rc md h0 (t 0) (t 2) h := by
  rw [cut_holes [([1, 1, 1, 1], 0), ([1, 1, 1], 1)] [1, 1] (by kernel_rfl), J97_0_h1, show (goX Try.prog cfg rc md 25 (bodyOf Try.prog 97) [([1, 1, 1, 1], 0), ([1, 1, 1], 1)] (retK Try.prog cfg 97 (rsOf Try.prog 97) h0)) 1 = _ from J97_1_cut rc md h0]
  exact J97_0_h2 rc md h0 t h
theorem J97_0_cut (rc : Rec) (md : Md) (h0 : Heap) : cut Try.prog cfg rc md 25 (bodyOf Try.prog 97) [1, 1] (retK Try.prog cfg 97 (rsOf Try.prog 97) h0) = fun t h => J97_0 rc md h0 (t 0) (t 2) h := funext fun t => funext fun h => J97_0_at rc md h0 t h
noncomputable def F97 (rc : Rec) (md : Md) (a0 : Int) (h0 : Heap) : Option (Value × Heap) :=
  bif (decide (a0 ≥ 4294967296)) then
    J97_0 rc md h0 (.int .u64 (Int.fdiv a0 (2 ^ 32))) (.int .i64 32) h0
  else
    J97_0 rc md h0 (.int .u64 a0) (.int .i64 0) h0
noncomputable def F97H (rc : Rec) (md : Md) (X2 : T → Heap → Option (Value × Heap)) (a0 : Int) (h0 : Heap) : Option (Value × Heap) :=
  bif (decide (a0 ≥ 4294967296)) then
    X2 (upd (upd (upd (upd (upd (upd (upd (args0 [(.int .u64 a0)]) 2 (.int .i64 0)) 3 (.int .u64 a0)) 4 (.bool (decide (a0 ≥ 4294967296)))) 5 (.int .u64 a0)) 6 (.int .u64 (Int.fdiv a0 (2 ^ 32)))) 0 (.int .u64 (Int.fdiv a0 (2 ^ 32)))) 2 (.int .i64 32)) h0
  else
    X2 (upd (upd (upd (args0 [(.int .u64 a0)]) 2 (.int .i64 0)) 3 (.int .u64 a0)) 4 (.bool (decide (a0 ≥ 4294967296)))) h0
theorem F97_h0 (rc : Rec) (md : Md) (a0 : Int) (h0 : Heap) : callStep0 Try.prog cfg rc md 97 [(.int .u64 a0)] h0 = exec Try.prog cfg rc ⟨h0.length, h0.length⟩ 25 (bodyOf Try.prog 97) (retK Try.prog cfg 97 (rsOf Try.prog 97) h0) (args0 [(.int .u64 a0)]) h0 := callStep0_run (by kernel_rfl) (by kernel_rfl) (by kernel_rfl)
theorem F97_h1 (rc : Rec) (md : Md) (X : Nat → T → Heap → Option (Value × Heap)) (a0 : Int) (h0 : Heap) : execG Try.prog cfg X rc md 25 (replS (bodyOf Try.prog 97) [([1, 1, 1, 1], 0), ([1, 1, 1], 1), ([1, 1], 2)]) (retK Try.prog cfg 97 (rsOf Try.prog 97) h0) (args0 [(.int .u64 a0)]) h0 = F97H rc md (X 2) a0 h0 := by kernel_rfl
theorem F97_h2 (rc : Rec) (md : Md) (a0 : Int) (h0 : Heap) : F97H rc md (fun t h => J97_0 rc md h0 (t 0) (t 2) h) a0 h0 = F97 rc md a0 h0 := by unfold F97H F97; kernel_rfl
theorem F97_eq0 (rc : Rec) (md : Md) (a0 : Int) (h0 : Heap) : callStep0 Try.prog cfg rc md 97 [(.int .u64 a0)] h0 = F97 rc ⟨h0.length, h0.length⟩ a0 h0 := by
  rw [F97_h0, exec_holes [([1, 1, 1, 1], 0), ([1, 1, 1], 1), ([1, 1], 2)] (by kernel_rfl), F97_h1, show (goX Try.prog cfg rc ⟨h0.length, h0.length⟩ 25 (bodyOf Try.prog 97) [([1, 1, 1, 1], 0), ([1, 1, 1], 1), ([1, 1], 2)] (retK Try.prog cfg 97 (rsOf Try.prog 97) h0)) 2 = _ from J97_0_cut rc ⟨h0.length, h0.length⟩ h0]
  exact F97_h2 rc _ a0 h0
theorem F97_eq (rc : Rec) (md : Md) (a0 : Int) (h0 : Heap) : callStep Try.prog cfg rc md 97 [(.int .u64 a0)] h0 = alone h0 (F97 rc ⟨0, 0⟩ a0 []) := by
  have e : callStep Try.prog cfg rc md 97 [(.int .u64 a0)] h0 = alone h0 (callStep0 Try.prog cfg rc ⟨0, 0⟩ 97 [(.int .u64 a0)] []) := by kernel_rfl
  rw [e, F97_eq0]; rfl

/-- (tombolo/ptr.Pen).Write -/
noncomputable def F99 (rc : Rec) (md : Md) (a0_0 : Int) (a0_1 : Int) (a1 : Value) (a2 : Int) (a3 : Int) (h0 : Heap) : Option (Value × Heap) :=
  let h1 : Heap := h0 ++ [.own [(.int .i64 a0_0), (.int .i64 a0_1)]]
  let h2 : Heap := h1 ++ [.own [(.int .i64 a3)]]
  cl (rc md 88 [a1, (.int .i64 a2), (.func (.func 103) #[] #[(.pointer (some ⟨h0.length, 0, none⟩)), (.pointer (some ⟨h1.length, 0, none⟩))])] h2) fun v3 h4 =>
  some ((.tuple #[]), List.take h0.length h4)
theorem F99_eq0 (rc : Rec) (md : Md) (a0_0 : Int) (a0_1 : Int) (a1 : Value) (a2 : Int) (a3 : Int) (h0 : Heap) : callStep0 Try.prog cfg rc md 99 [(.agg #[(.int .i64 a0_0), (.int .i64 a0_1)]), a1, (.int .i64 a2), (.int .i64 a3)] h0 = F99 rc ⟨md.ro, h0.length⟩ a0_0 a0_1 a1 a2 a3 h0 := by kernel_rfl
theorem F99_eq (rc : Rec) (md : Md) (a0_0 : Int) (a0_1 : Int) (a1 : Value) (a2 : Int) (a3 : Int) (h0 : Heap) : callStep Try.prog cfg rc md 99 [(.agg #[(.int .i64 a0_0), (.int .i64 a0_1)]), a1, (.int .i64 a2), (.int .i64 a3)] h0 = F99 rc ⟨md.ro, h0.length⟩ a0_0 a0_1 a1 a2 a3 h0 := (callStep_ne (by kernel_rfl)).trans (F99_eq0 rc md a0_0 a0_1 a1 a2 a3 h0)

/-- tombolo/word.Unpack -/
noncomputable def F100 (rc : Rec) (md : Md) (a0 : Int) (h0 : Heap) : Option (Value × Heap) :=
  let h1 : Heap := h0 ++ [.own [(.int .i64 0), (.int .i64 0), (.int .i64 0), (.int .i64 0)]]
  cl (rc md 104 [(.int .u64 a0), (.int .i64 0), (.int .i64 16)] h1) fun v2 h3 =>
  cIn .i64 v2 fun n4 =>
  cl (rc md 104 [(.int .u64 a0), (.int .i64 16), (.int .i64 16)] h3) fun v5 h6 =>
  cIn .i64 v5 fun n7 =>
  cl (rc md 104 [(.int .u64 a0), (.int .i64 32), (.int .i64 8)] h6) fun v8 h9 =>
  cIn .i64 v8 fun n10 =>
  let h11 : Heap := h9 ++ [.own [(.int .i64 0), (.int .i64 0), (.int .i64 0), (.int .i64 0)]]
  st md 4 (.pointer (some ⟨h9.length, 0, none⟩)) (.agg #[(.int .i64 n7), (.int .i64 n4), (.int .i64 n10), (.int .i64 (IntKind.wrap .i64 (Int.fdiv a0 (2 ^ 40))))]) h11 fun h12 =>
  ldN 4 (.pointer (some ⟨h9.length, 0, none⟩)) h12 fun v13 =>
  cl (rc md 105 [v13] h12) fun v14 h15 =>
  cBn v14 fun b16 =>
  bif !b16 then
    st md 4 (.pointer (some ⟨h0.length, 0, none⟩)) (.agg #[(.int .i64 0), (.int .i64 0), (.int .i64 0), (.int .i64 0)]) h15 fun h17 =>
    ldN 4 (.pointer (some ⟨h0.length, 0, none⟩)) h17 fun v18 =>
    fin2 h0 (.tuple #[v18, (.int .i64 21)])
  else
    ldN 4 (.pointer (some ⟨h9.length, 0, none⟩)) h15 fun v19 =>
    st md 4 (.pointer (some ⟨h0.length, 0, none⟩)) v19 h15 fun h20 =>
    ldN 4 (.pointer (some ⟨h0.length, 0, none⟩)) h20 fun v21 =>
    fin2 h0 (.tuple #[v21, (.int .i64 0)])
theorem F100_eq0 (rc : Rec) (md : Md) (a0 : Int) (h0 : Heap) : callStep0 Try.prog cfg rc md 100 [(.int .u64 a0)] h0 = F100 rc ⟨h0.length, h0.length⟩ a0 h0 := by kernel_rfl
theorem F100_eq (rc : Rec) (md : Md) (a0 : Int) (h0 : Heap) : callStep Try.prog cfg rc md 100 [(.int .u64 a0)] h0 = alone h0 (F100 rc ⟨0, 0⟩ a0 []) := by
  have e : callStep Try.prog cfg rc md 100 [(.int .u64 a0)] h0 = alone h0 (callStep0 Try.prog cfg rc ⟨0, 0⟩ 100 [(.int .u64 a0)] []) := by kernel_rfl
  rw [e, F100_eq0]; rfl

/-- tombolo/word.Pack -/
noncomputable def F101 (rc : Rec) (md : Md) (a0_0 : Int) (a0_1 : Int) (a0_2 : Int) (a0_3 : Int) (h0 : Heap) : Option (Value × Heap) :=
  let h1 : Heap := h0 ++ [.own [(.int .i64 a0_0), (.int .i64 a0_1), (.int .i64 a0_2), (.int .i64 a0_3)]]
  ldN 4 (.pointer (some ⟨h0.length, 0, none⟩)) h1 fun v2 =>
  cl (rc md 105 [v2] h1) fun v3 h4 =>
  cBn v3 fun b5 =>
  bif !b5 then
    some ((.tuple #[(.int .u64 0), (.int .i64 11)]), h0)
  else
    ld1 (.pointer (some ⟨h0.length, 1, none⟩)) h4 fun v6 =>
    cIn .i64 v6 fun n7 =>
    ld1 (.pointer (some ⟨h0.length, 0, none⟩)) h4 fun v8 =>
    cIn .i64 v8 fun n9 =>
    ld1 (.pointer (some ⟨h0.length, 2, none⟩)) h4 fun v10 =>
    cIn .i64 v10 fun n11 =>
    ld1 (.pointer (some ⟨h0.length, 3, none⟩)) h4 fun v12 =>
    cIn .i64 v12 fun n13 =>
    some ((.tuple #[(.int .u64 (bOr .u64 (bOr .u64 (bOr .u64 (IntKind.wrap .u64 n7) (IntKind.wrap .u64 ((IntKind.wrap .u64 n9) * 2 ^ 16))) (IntKind.wrap .u64 ((IntKind.wrap .u64 n11) * 2 ^ 32))) (IntKind.wrap .u64 ((IntKind.wrap .u64 n13) * 2 ^ 40)))), (.int .i64 0)]), h0)
theorem F101_eq0 (rc : Rec) (md : Md) (a0_0 : Int) (a0_1 : Int) (a0_2 : Int) (a0_3 : Int) (h0 : Heap) : callStep0 Try.prog cfg rc md 101 [(.agg #[(.int .i64 a0_0), (.int .i64 a0_1), (.int .i64 a0_2), (.int .i64 a0_3)])] h0 = F101 rc ⟨h0.length, h0.length⟩ a0_0 a0_1 a0_2 a0_3 h0 := by kernel_rfl
theorem F101_eq (rc : Rec) (md : Md) (a0_0 : Int) (a0_1 : Int) (a0_2 : Int) (a0_3 : Int) (h0 : Heap) : callStep Try.prog cfg rc md 101 [(.agg #[(.int .i64 a0_0), (.int .i64 a0_1), (.int .i64 a0_2), (.int .i64 a0_3)])] h0 = alone h0 (F101 rc ⟨0, 0⟩ a0_0 a0_1 a0_2 a0_3 []) := by
  have e : callStep Try.prog cfg rc md 101 [(.agg #[(.int .i64 a0_0), (.int .i64 a0_1), (.int .i64 a0_2), (.int .i64 a0_3)])] h0 = alone h0 (callStep0 Try.prog cfg rc ⟨0, 0⟩ 101 [(.agg #[(.int .i64 a0_0), (.int .i64 a0_1), (.int .i64 a0_2), (.int .i64 a0_3)])] []) := by kernel_rfl
  rw [e, F101_eq0]; rfl

/-- (tombolo/ptr.Pen).Write$1 -/
noncomputable def J103_0 (rc : Rec) (md : Md) (h0 : Heap) (s1 : Value) (s2 : Value) (s3 : Value) (s4 : Value) (h : Heap) : Option (Value × Heap) :=
  fA 0 s3 fun v1 =>
  ld1 v1 h fun v2 =>
  cIn .i64 v2 fun n3 =>
  ld1 s2 h fun v4 =>
  cIn .i64 v4 fun n5 =>
  fA 0 s1 fun v6 =>
  ld1 v6 h fun v7 =>
  cIn .i64 v7 fun n8 =>
  fA 1 s1 fun v9 =>
  ld1 v9 h fun v10 =>
  cIn .i64 v10 fun n11 =>
  st md 4 s4 (.agg #[(.int .i64 n3), (.int .i64 n5), (.int .i64 n8), (.int .i64 n11)]) h fun h12 =>
  ldN 4 s4 h12 fun v13 =>
  fin2 h0 v13
theorem J103_0_at (rc : Rec) (md : Md) (h0 : Heap) (t : T) (h : Heap) : cut Try.prog cfg rc md 28 (bodyOf Try.prog 103) [1, 1] (retK Try.prog cfg 103 (rsOf Try.prog 103) h0) t h = J103_0 rc md h0 (t 1) (t 2) (t 3) (t 4) h := by kernel_rfl
theorem J103_0_cut (rc : Rec) (md : Md) (h0 : Heap) : cut Try.prog cfg rc md 28 (bodyOf Try.prog 103) [1, 1] (retK Try.prog cfg 103 (rsOf Try.prog 103) h0) = fun t h => J103_0 rc md h0 (t 1) (t 2) (t 3) (t 4) h := funext fun t => funext fun h => J103_0_at rc md h0 t h
noncomputable def F103 (rc : Rec) (md : Md) (a0_0 : Int) (a0_1 : Int) (a0_2 : Int) (a0_3 : Int) (c0 : Value) (c1 : Value) (h0 : Heap) : Option (Value × Heap) :=
  let h1 : Heap := h0 ++ [.own [(.int .i64 a0_0), (.int .i64 a0_1), (.int .i64 a0_2), (.int .i64 a0_3)]]
  let h2 : Heap := h1 ++ [.own [(.int .i64 0), (.int .i64 0), (.int .i64 0), (.int .i64 0)]]
  ld1 (.pointer (some ⟨h0.length, 2, none⟩)) h2 fun v3 =>
  cIn .i64 v3 fun n4 =>
  fA 0 c0 fun v5 =>
  ld1 v5 h2 fun v6 =>
  cIn .i64 v6 fun n7 =>
  (bif wantV (.bool (n4 != n7)) false then
  some ((.pointer (some ⟨h0.length, 3, none⟩)), h2)
  else some (undef, h2)).bind fun p8 =>
  (bif wantV (.bool (n4 != n7)) false then
  ld1 p8.1 p8.2 fun v9 =>
  cIn .i64 v9 fun n10 =>
  some ((.int .i64 n10), p8.2)
  else some (undef, p8.2)).bind fun p11 =>
  (bif wantV (.bool (n4 != n7)) false then
  fA 1 c0 fun v12 =>
  some (v12, p11.2)
  else some (undef, p11.2)).bind fun p13 =>
  (bif wantV (.bool (n4 != n7)) false then
  ld1 p13.1 p13.2 fun v14 =>
  cIn .i64 v14 fun n15 =>
  some ((.int .i64 n15), p13.2)
  else some (undef, p13.2)).bind fun p16 =>
  (bif wantV (.bool (n4 != n7)) false then
  aBin Try.prog .neq 3 p11.1 p16.1 fun v17 =>
  some (v17, p16.2)
  else some (undef, p16.2)).bind fun p18 =>
  cBn (bif (n4 != n7) then (.bool true) else p18.1) fun b19 =>
  bif b19 then
    ld1 (.pointer (some ⟨h0.length, 1, none⟩)) p18.2 fun v20 =>
    cIn .i64 v20 fun n21 =>
    st md 1 (.pointer (some ⟨h0.length, 0, none⟩)) (.int .i64 n21) p18.2 fun h22 =>
    J103_0 rc md h0 c0 c1 (.pointer (some ⟨h0.length, 0, none⟩)) (.pointer (some ⟨h1.length, 0, none⟩)) h22
  else
    J103_0 rc md h0 c0 c1 (.pointer (some ⟨h0.length, 0, none⟩)) (.pointer (some ⟨h1.length, 0, none⟩)) p18.2
noncomputable def F103H (rc : Rec) (md : Md) (X0 : T → Heap → Option (Value × Heap)) (a0_0 : Int) (a0_1 : Int) (a0_2 : Int) (a0_3 : Int) (c0 : Value) (c1 : Value) (h0 : Heap) : Option (Value × Heap) :=
  let h1 : Heap := h0 ++ [.own [(.int .i64 a0_0), (.int .i64 a0_1), (.int .i64 a0_2), (.int .i64 a0_3)]]
  let h2 : Heap := h1 ++ [.own [(.int .i64 0), (.int .i64 0), (.int .i64 0), (.int .i64 0)]]
  ld1 (.pointer (some ⟨h0.length, 2, none⟩)) h2 fun v3 =>
  cIn .i64 v3 fun n4 =>
  fA 0 c0 fun v5 =>
  ld1 v5 h2 fun v6 =>
  cIn .i64 v6 fun n7 =>
  (bif wantV (.bool (n4 != n7)) false then
  some ((.pointer (some ⟨h0.length, 3, none⟩)), h2)
  else some (undef, h2)).bind fun p8 =>
  (bif wantV (.bool (n4 != n7)) false then
  ld1 p8.1 p8.2 fun v9 =>
  cIn .i64 v9 fun n10 =>
  some ((.int .i64 n10), p8.2)
  else some (undef, p8.2)).bind fun p11 =>
  (bif wantV (.bool (n4 != n7)) false then
  fA 1 c0 fun v12 =>
  some (v12, p11.2)
  else some (undef, p11.2)).bind fun p13 =>
  (bif wantV (.bool (n4 != n7)) false then
  ld1 p13.1 p13.2 fun v14 =>
  cIn .i64 v14 fun n15 =>
  some ((.int .i64 n15), p13.2)
  else some (undef, p13.2)).bind fun p16 =>
  (bif wantV (.bool (n4 != n7)) false then
  aBin Try.prog .neq 3 p11.1 p16.1 fun v17 =>
  some (v17, p16.2)
  else some (undef, p16.2)).bind fun p18 =>
  cBn (bif (n4 != n7) then (.bool true) else p18.1) fun b19 =>
  bif b19 then
    ld1 (.pointer (some ⟨h0.length, 1, none⟩)) p18.2 fun v20 =>
    cIn .i64 v20 fun n21 =>
    st md 1 (.pointer (some ⟨h0.length, 0, none⟩)) (.int .i64 n21) p18.2 fun h22 =>
    X0 (upd (upd (upd (upd (upd (upd (upd (upd (upd (upd (upd (upd (upd (upd (upd (upd (upd (args0 [(.agg #[(.int .i64 a0_0), (.int .i64 a0_1), (.int .i64 a0_2), (.int .i64 a0_3)]), c0, c1]) 3 (.pointer (some ⟨h0.length, 0, none⟩))) 4 (.pointer (some ⟨h1.length, 0, none⟩))) 5 (.pointer (some ⟨h0.length, 2, none⟩))) 6 (.int .i64 n4)) 7 v5) 8 (.int .i64 n7)) 9 (.bool (n4 != n7))) 10 (.bool (n4 != n7))) 11 p8.1) 12 p11.1) 13 p13.1) 14 p16.1) 15 p18.1) 16 (.bool b19)) 17 (.pointer (some ⟨h0.length, 1, none⟩))) 18 (.int .i64 n21)) 19 (.pointer (some ⟨h0.length, 0, none⟩))) h22
  else
    X0 (upd (upd (upd (upd (upd (upd (upd (upd (upd (upd (upd (upd (upd (upd (args0 [(.agg #[(.int .i64 a0_0), (.int .i64 a0_1), (.int .i64 a0_2), (.int .i64 a0_3)]), c0, c1]) 3 (.pointer (some ⟨h0.length, 0, none⟩))) 4 (.pointer (some ⟨h1.length, 0, none⟩))) 5 (.pointer (some ⟨h0.length, 2, none⟩))) 6 (.int .i64 n4)) 7 v5) 8 (.int .i64 n7)) 9 (.bool (n4 != n7))) 10 (.bool (n4 != n7))) 11 p8.1) 12 p11.1) 13 p13.1) 14 p16.1) 15 p18.1) 16 (.bool b19)) p18.2
theorem F103_h0 (rc : Rec) (md : Md) (a0_0 : Int) (a0_1 : Int) (a0_2 : Int) (a0_3 : Int) (c0 : Value) (c1 : Value) (h0 : Heap) : callStep0 Try.prog cfg rc md 103 [(.agg #[(.int .i64 a0_0), (.int .i64 a0_1), (.int .i64 a0_2), (.int .i64 a0_3)]), c0, c1] h0 = exec Try.prog cfg rc ⟨h0.length, h0.length⟩ 28 (bodyOf Try.prog 103) (retK Try.prog cfg 103 (rsOf Try.prog 103) h0) (args0 [(.agg #[(.int .i64 a0_0), (.int .i64 a0_1), (.int .i64 a0_2), (.int .i64 a0_3)]), c0, c1]) h0 := callStep0_run (by kernel_rfl) (by kernel_rfl) (by kernel_rfl)
theorem F103_h1 (rc : Rec) (md : Md) (X : Nat → T → Heap → Option (Value × Heap)) (a0_0 : Int) (a0_1 : Int) (a0_2 : Int) (a0_3 : Int) (c0 : Value) (c1 : Value) (h0 : Heap) : execG Try.prog cfg X rc md 28 (replS (bodyOf Try.prog 103) [([1, 1], 0)]) (retK Try.prog cfg 103 (rsOf Try.prog 103) h0) (args0 [(.agg #[(.int .i64 a0_0), (.int .i64 a0_1), (.int .i64 a0_2), (.int .i64 a0_3)]), c0, c1]) h0 = F103H rc md (X 0) a0_0 a0_1 a0_2 a0_3 c0 c1 h0 := by kernel_rfl
theorem F103_h2 (rc : Rec) (md : Md) (a0_0 : Int) (a0_1 : Int) (a0_2 : Int) (a0_3 : Int) (c0 : Value) (c1 : Value) (h0 : Heap) : F103H rc md (fun t h => J103_0 rc md h0 (t 1) (t 2) (t 3) (t 4) h) a0_0 a0_1 a0_2 a0_3 c0 c1 h0 = F103 rc md a0_0 a0_1 a0_2 a0_3 c0 c1 h0 := by unfold F103H F103; kernel_rfl
theorem F103_eq0 (rc : Rec) (md : Md) (a0_0 : Int) (a0_1 : Int) (a0_2 : Int) (a0_3 : Int) (c0 : Value) (c1 : Value) (h0 : Heap) : callStep0 Try.prog cfg rc md 103 [(.agg #[(.int .i64 a0_0), (.int .i64 a0_1), (.int .i64 a0_2), (.int .i64 a0_3)]), c0, c1] h0 = F103 rc ⟨h0.length, h0.length⟩ a0_0 a0_1 a0_2 a0_3 c0 c1 h0 := by
  rw [F103_h0, exec_holes [([1, 1], 0)] (by kernel_rfl), F103_h1, show (goX Try.prog cfg rc ⟨h0.length, h0.length⟩ 28 (bodyOf Try.prog 103) [([1, 1], 0)] (retK Try.prog cfg 103 (rsOf Try.prog 103) h0)) 0 = _ from J103_0_cut rc ⟨h0.length, h0.length⟩ h0]
  exact F103_h2 rc _ a0_0 a0_1 a0_2 a0_3 c0 c1 h0
theorem F103_eq (rc : Rec) (md : Md) (a0_0 : Int) (a0_1 : Int) (a0_2 : Int) (a0_3 : Int) (c0 : Value) (c1 : Value) (h0 : Heap) : callStep Try.prog cfg rc md 103 [(.agg #[(.int .i64 a0_0), (.int .i64 a0_1), (.int .i64 a0_2), (.int .i64 a0_3)]), c0, c1] h0 = F103 rc ⟨h0.length, h0.length⟩ a0_0 a0_1 a0_2 a0_3 c0 c1 h0 := (callStep_ne (by kernel_rfl)).trans (F103_eq0 rc md a0_0 a0_1 a0_2 a0_3 c0 c1 h0)

/-- tombolo/word.bits -/
noncomputable def F104 (rc : Rec) (md : Md) (a0 : Int) (a1 : Int) (a2 : Int) (h0 : Heap) : Option (Value × Heap) :=
  shI .shr a0 a1 .u64 fun v1 =>
  shI .shl 1 a2 .u64 fun v3 =>
  aBin Try.prog .sub 59 v3 (.int .u64 1) fun v5 =>
  aBin Try.prog .and 59 v1 v5 fun v6 =>
  aConv Try.prog 59 3 v6 fun v7 =>
  fin2 h0 v7
theorem F104_eq0 (rc : Rec) (md : Md) (a0 : Int) (a1 : Int) (a2 : Int) (h0 : Heap) : callStep0 Try.prog cfg rc md 104 [(.int .u64 a0), (.int .i64 a1), (.int .i64 a2)] h0 = F104 rc ⟨h0.length, h0.length⟩ a0 a1 a2 h0 := by kernel_rfl
theorem F104_eq (rc : Rec) (md : Md) (a0 : Int) (a1 : Int) (a2 : Int) (h0 : Heap) : callStep Try.prog cfg rc md 104 [(.int .u64 a0), (.int .i64 a1), (.int .i64 a2)] h0 = alone h0 (F104 rc ⟨0, 0⟩ a0 a1 a2 []) := by
  have e : callStep Try.prog cfg rc md 104 [(.int .u64 a0), (.int .i64 a1), (.int .i64 a2)] h0 = alone h0 (callStep0 Try.prog cfg rc ⟨0, 0⟩ 104 [(.int .u64 a0), (.int .i64 a1), (.int .i64 a2)] []) := by kernel_rfl
  rw [e, F104_eq0]; rfl

/-- (tombolo/word.Word).Right -/
noncomputable def F105 (rc : Rec) (md : Md) (a0_0 : Int) (a0_1 : Int) (a0_2 : Int) (a0_3 : Int) (h0 : Heap) : Option (Value × Heap) :=
  let h1 : Heap := h0 ++ [.own [(.int .i64 a0_0), (.int .i64 a0_1), (.int .i64 a0_2), (.int .i64 a0_3)]]
  ld1 (.pointer (some ⟨h0.length, 0, none⟩)) h1 fun v2 =>
  cIn .i64 v2 fun n3 =>
  cl (rc md 106 [(.int .i64 n3), (.int .i64 65535)] h1) fun v4 h5 =>
  cBn v4 fun b6 =>
  (bif wantV (.bool (!b6)) false then
  some ((.pointer (some ⟨h0.length, 1, none⟩)), h5)
  else some (undef, h5)).bind fun p7 =>
  (bif wantV (.bool (!b6)) false then
  ld1 p7.1 p7.2 fun v8 =>
  cIn .i64 v8 fun n9 =>
  some ((.int .i64 n9), p7.2)
  else some (undef, p7.2)).bind fun p10 =>
  (bif wantV (.bool (!b6)) false then
  cl (rc md 106 [p10.1, (.int .i64 65535)] p10.2) fun v11 h12 =>
  cBn v11 fun b13 =>
  some ((.bool b13), h12)
  else some (undef, p10.2)).bind fun p14 =>
  (bif wantV (.bool (!b6)) false then
  aUn .not p14.1 fun v15 =>
  some (v15, p14.2)
  else some (undef, p14.2)).bind fun p16 =>
  cBn (bif !b6 then (.bool true) else p16.1) fun b17 =>
  (bif wantV (.bool b17) false then
  some ((.pointer (some ⟨h0.length, 2, none⟩)), p16.2)
  else some (undef, p16.2)).bind fun p18 =>
  (bif wantV (.bool b17) false then
  ld1 p18.1 p18.2 fun v19 =>
  cIn .i64 v19 fun n20 =>
  some ((.int .i64 n20), p18.2)
  else some (undef, p18.2)).bind fun p21 =>
  (bif wantV (.bool b17) false then
  cl (rc md 106 [p21.1, (.int .i64 8)] p21.2) fun v22 h23 =>
  cBn v22 fun b24 =>
  some ((.bool b24), h23)
  else some (undef, p21.2)).bind fun p25 =>
  (bif wantV (.bool b17) false then
  aUn .not p25.1 fun v26 =>
  some (v26, p25.2)
  else some (undef, p25.2)).bind fun p27 =>
  cBn (bif b17 then (.bool true) else p27.1) fun b28 =>
  (bif wantV (.bool b28) false then
  some ((.pointer (some ⟨h0.length, 3, none⟩)), p27.2)
  else some (undef, p27.2)).bind fun p29 =>
  (bif wantV (.bool b28) false then
  ld1 p29.1 p29.2 fun v30 =>
  cIn .i64 v30 fun n31 =>
  some ((.int .i64 n31), p29.2)
  else some (undef, p29.2)).bind fun p32 =>
  (bif wantV (.bool b28) false then
  cl (rc md 106 [p32.1, (.int .i64 16777215)] p32.2) fun v33 h34 =>
  cBn v33 fun b35 =>
  some ((.bool b35), h34)
  else some (undef, p32.2)).bind fun p36 =>
  (bif wantV (.bool b28) false then
  aUn .not p36.1 fun v37 =>
  some (v37, p36.2)
  else some (undef, p36.2)).bind fun p38 =>
  cBn (bif b28 then (.bool true) else p38.1) fun b39 =>
  bif b39 then
    some ((.bool false), h0)
  else
    ldN 4 (.pointer (some ⟨h0.length, 0, none⟩)) p38.2 fun v40 =>
    cl (rc md 107 [v40] p38.2) fun v41 h42 =>
    cBn v41 fun b43 =>
    (bif wantV (.bool (!b43)) false then
    some ((.pointer (some ⟨h0.length, 0, none⟩)), h42)
    else some (undef, h42)).bind fun p44 =>
    (bif wantV (.bool (!b43)) false then
    ld1 p44.1 p44.2 fun v45 =>
    cIn .i64 v45 fun n46 =>
    some ((.int .i64 n46), p44.2)
    else some (undef, p44.2)).bind fun p47 =>
    (bif wantV (.bool (!b43)) false then
    some ((.pointer (some ⟨h0.length, 1, none⟩)), p47.2)
    else some (undef, p47.2)).bind fun p48 =>
    (bif wantV (.bool (!b43)) false then
    ld1 p48.1 p48.2 fun v49 =>
    cIn .i64 v49 fun n50 =>
    some ((.int .i64 n50), p48.2)
    else some (undef, p48.2)).bind fun p51 =>
    (bif wantV (.bool (!b43)) false then
    aBin Try.prog .eql 3 p47.1 p51.1 fun v52 =>
    some (v52, p51.2)
    else some (undef, p51.2)).bind fun p53 =>
    (bif wantV (.bool (!b43)) false then
    some (p53.1, p53.2)
    else some (undef, p53.2)).bind fun p54 =>
    (bif wantV p54.1 true then
    some ((.pointer (some ⟨h0.length, 3, none⟩)), p54.2)
    else some (undef, p54.2)).bind fun p55 =>
    (bif wantV p54.1 true then
    ld1 p55.1 p55.2 fun v56 =>
    cIn .i64 v56 fun n57 =>
    some ((.int .i64 n57), p55.2)
    else some (undef, p55.2)).bind fun p58 =>
    (bif wantV p54.1 true then
    aBin Try.prog .eql 3 p58.1 (.int .i64 0) fun v59 =>
    some (v59, p58.2)
    else some (undef, p58.2)).bind fun p60 =>
    (bif wantV (.bool (!b43)) false then
    cBn p54.1 fun q61 =>
    cBn (bif q61 then p60.1 else (.bool false)) fun b62 =>
    some ((.bool b62), p60.2)
    else some (undef, p60.2)).bind fun p63 =>
    cBn (bif !b43 then (.bool true) else p63.1) fun b64 =>
    some ((.bool b64), h0)
theorem F105_eq0 (rc : Rec) (md : Md) (a0_0 : Int) (a0_1 : Int) (a0_2 : Int) (a0_3 : Int) (h0 : Heap) : callStep0 Try.prog cfg rc md 105 [(.agg #[(.int .i64 a0_0), (.int .i64 a0_1), (.int .i64 a0_2), (.int .i64 a0_3)])] h0 = F105 rc ⟨h0.length, h0.length⟩ a0_0 a0_1 a0_2 a0_3 h0 := by kernel_rfl
theorem F105_eq (rc : Rec) (md : Md) (a0_0 : Int) (a0_1 : Int) (a0_2 : Int) (a0_3 : Int) (h0 : Heap) : callStep Try.prog cfg rc md 105 [(.agg #[(.int .i64 a0_0), (.int .i64 a0_1), (.int .i64 a0_2), (.int .i64 a0_3)])] h0 = alone h0 (F105 rc ⟨0, 0⟩ a0_0 a0_1 a0_2 a0_3 []) := by
  have e : callStep Try.prog cfg rc md 105 [(.agg #[(.int .i64 a0_0), (.int .i64 a0_1), (.int .i64 a0_2), (.int .i64 a0_3)])] h0 = alone h0 (callStep0 Try.prog cfg rc ⟨0, 0⟩ 105 [(.agg #[(.int .i64 a0_0), (.int .i64 a0_1), (.int .i64 a0_2), (.int .i64 a0_3)])] []) := by kernel_rfl
  rw [e, F105_eq0]; rfl

/-- tombolo/word.within -/
noncomputable def F106 (rc : Rec) (md : Md) (a0 : Int) (a1 : Int) (h0 : Heap) : Option (Value × Heap) :=
  (bif wantV (.bool (decide (a0 ≥ 0))) true then
  some ((.int .i64 a0), h0)
  else some (undef, h0)).bind fun p1 =>
  (bif wantV (.bool (decide (a0 ≥ 0))) true then
  some ((.int .i64 a1), p1.2)
  else some (undef, p1.2)).bind fun p2 =>
  (bif wantV (.bool (decide (a0 ≥ 0))) true then
  aBin Try.prog .leq 3 p1.1 p2.1 fun v3 =>
  some (v3, p2.2)
  else some (undef, p2.2)).bind fun p4 =>
  cBn (bif (decide (a0 ≥ 0)) then p4.1 else (.bool false)) fun b5 =>
  some ((.bool b5), h0)
theorem F106_eq0 (rc : Rec) (md : Md) (a0 : Int) (a1 : Int) (h0 : Heap) : callStep0 Try.prog cfg rc md 106 [(.int .i64 a0), (.int .i64 a1)] h0 = F106 rc ⟨h0.length, h0.length⟩ a0 a1 h0 := by kernel_rfl
theorem F106_eq (rc : Rec) (md : Md) (a0 : Int) (a1 : Int) (h0 : Heap) : callStep Try.prog cfg rc md 106 [(.int .i64 a0), (.int .i64 a1)] h0 = alone h0 (F106 rc ⟨0, 0⟩ a0 a1 []) := by
  have e : callStep Try.prog cfg rc md 106 [(.int .i64 a0), (.int .i64 a1)] h0 = alone h0 (callStep0 Try.prog cfg rc ⟨0, 0⟩ 106 [(.int .i64 a0), (.int .i64 a1)] []) := by kernel_rfl
  rw [e, F106_eq0]; rfl

/-- (tombolo/word.Word).Plain -/
noncomputable def F107 (rc : Rec) (md : Md) (a0_0 : Int) (a0_1 : Int) (a0_2 : Int) (a0_3 : Int) (h0 : Heap) : Option (Value × Heap) :=
  let h1 : Heap := h0 ++ [.own [(.int .i64 a0_0), (.int .i64 a0_1), (.int .i64 a0_2), (.int .i64 a0_3)]]
  ld1 (.pointer (some ⟨h0.length, 2, none⟩)) h1 fun v2 =>
  cIn .i64 v2 fun n3 =>
  some ((.bool (n3 == 0)), h0)
theorem F107_eq0 (rc : Rec) (md : Md) (a0_0 : Int) (a0_1 : Int) (a0_2 : Int) (a0_3 : Int) (h0 : Heap) : callStep0 Try.prog cfg rc md 107 [(.agg #[(.int .i64 a0_0), (.int .i64 a0_1), (.int .i64 a0_2), (.int .i64 a0_3)])] h0 = F107 rc ⟨h0.length, h0.length⟩ a0_0 a0_1 a0_2 a0_3 h0 := by kernel_rfl
theorem F107_eq (rc : Rec) (md : Md) (a0_0 : Int) (a0_1 : Int) (a0_2 : Int) (a0_3 : Int) (h0 : Heap) : callStep Try.prog cfg rc md 107 [(.agg #[(.int .i64 a0_0), (.int .i64 a0_1), (.int .i64 a0_2), (.int .i64 a0_3)])] h0 = alone h0 (F107 rc ⟨0, 0⟩ a0_0 a0_1 a0_2 a0_3 []) := by
  have e : callStep Try.prog cfg rc md 107 [(.agg #[(.int .i64 a0_0), (.int .i64 a0_1), (.int .i64 a0_2), (.int .i64 a0_3)])] h0 = alone h0 (callStep0 Try.prog cfg rc ⟨0, 0⟩ 107 [(.agg #[(.int .i64 a0_0), (.int .i64 a0_1), (.int .i64 a0_2), (.int .i64 a0_3)])] []) := by kernel_rfl
  rw [e, F107_eq0]; rfl

/-- (tombolo/mem.Plain).Load -/
noncomputable def F123 (rc : Rec) (md : Md) (a0_0 : Value) (a1 : Int) (h0 : Heap) : Option (Value × Heap) :=
  let h1 : Heap := h0 ++ [.own [a0_0]]
  ld1 (.pointer (some ⟨h0.length, 0, none⟩)) h1 fun v2 =>
  cl (rc md 27 [v2, (.int .i64 a1)] h1) fun v3 h4 =>
  exT v3 0 fun v5 =>
  cIn .u64 v5 fun n6 =>
  exT v3 1 fun v7 =>
  cIn .i64 v7 fun n8 =>
  some ((.int .u64 n6), List.take h0.length h4)
theorem F123_eq0 (rc : Rec) (md : Md) (a0_0 : Value) (a1 : Int) (h0 : Heap) : callStep0 Try.prog cfg rc md 123 [(.agg #[a0_0]), (.int .i64 a1)] h0 = F123 rc ⟨md.ro, h0.length⟩ a0_0 a1 h0 := by kernel_rfl
theorem F123_eq (rc : Rec) (md : Md) (a0_0 : Value) (a1 : Int) (h0 : Heap) : callStep Try.prog cfg rc md 123 [(.agg #[a0_0]), (.int .i64 a1)] h0 = F123 rc ⟨md.ro, h0.length⟩ a0_0 a1 h0 := (callStep_ne (by kernel_rfl)).trans (F123_eq0 rc md a0_0 a1 h0)

/-- (tombolo/mem.Plain).Store -/
noncomputable def F124 (rc : Rec) (md : Md) (a0_0 : Value) (a1 : Int) (a2 : Int) (h0 : Heap) : Option (Value × Heap) :=
  let h1 : Heap := h0 ++ [.own [a0_0]]
  ld1 (.pointer (some ⟨h0.length, 0, none⟩)) h1 fun v2 =>
  cl (rc md 36 [v2, (.int .i64 a1), (.int .u64 a2)] h1) fun v3 h4 =>
  cIn .i64 v3 fun n5 =>
  some ((.tuple #[]), List.take h0.length h4)
theorem F124_eq0 (rc : Rec) (md : Md) (a0_0 : Value) (a1 : Int) (a2 : Int) (h0 : Heap) : callStep0 Try.prog cfg rc md 124 [(.agg #[a0_0]), (.int .i64 a1), (.int .u64 a2)] h0 = F124 rc ⟨md.ro, h0.length⟩ a0_0 a1 a2 h0 := by kernel_rfl
theorem F124_eq (rc : Rec) (md : Md) (a0_0 : Value) (a1 : Int) (a2 : Int) (h0 : Heap) : callStep Try.prog cfg rc md 124 [(.agg #[a0_0]), (.int .i64 a1), (.int .u64 a2)] h0 = F124 rc ⟨md.ro, h0.length⟩ a0_0 a1 a2 h0 := (callStep_ne (by kernel_rfl)).trans (F124_eq0 rc md a0_0 a1 a2 h0)

end Go.Det.E
