/- Printed functions. -/
import Derived.Test.YtibaodefgncbmaaDetR
import Derived.Test.YtibaodefgncbmaaDetT
import Derived.Test.YtibaodefgncbmaaDetX
import Derived.Test.YtibaodefgncbmaaProg
set_option autoImplicit false
set_option linter.unusedVariables false
set_option linter.unusedSimpArgs false
namespace Go.Det.E
open Go.Proofs Go.Det

def cfg : FuncId → Nat := fun f => bif Nat.beq f 26 || Nat.beq f 34 || Nat.beq f 40 || Nat.beq f 55 || Nat.beq f 63 || Nat.beq f 66 || Nat.beq f 71 then 2 else bif Nat.ble 3 f && Nat.ble f 6 || Nat.beq f 8 || Nat.beq f 11 || Nat.beq f 16 || Nat.ble 19 f && Nat.ble f 21 || Nat.beq f 23 || Nat.ble 28 f && Nat.ble f 29 || Nat.ble 32 f && Nat.ble f 33 || Nat.beq f 39 || Nat.ble 45 f && Nat.ble f 46 || Nat.ble 48 f && Nat.ble f 49 || Nat.ble 52 f && Nat.ble f 53 || Nat.ble 61 f && Nat.ble f 62 || Nat.ble 64 f && Nat.ble f 65 || Nat.beq f 67 || Nat.ble 69 f && Nat.ble f 70 || Nat.ble 72 f && Nat.ble f 73 || Nat.beq f 76 || Nat.beq f 78 || Nat.ble 101 f && Nat.ble f 105 then 1 else bif Nat.beq f 2 || Nat.beq f 7 || Nat.ble 12 f && Nat.ble f 15 || Nat.beq f 18 || Nat.beq f 22 || Nat.beq f 25 || Nat.beq f 27 || Nat.ble 35 f && Nat.ble f 38 || Nat.ble 41 f && Nat.ble f 44 || Nat.beq f 47 || Nat.ble 50 f && Nat.ble f 51 || Nat.beq f 54 || Nat.ble 57 f && Nat.ble f 60 || Nat.beq f 68 || Nat.ble 74 f && Nat.ble f 75 || Nat.beq f 77 || Nat.ble 79 f && Nat.ble f 82 then 3 else 0

noncomputable abbrev C := call Try.prog cfg
/-- (tombolo/lay.Lay).Levels -/
noncomputable def F12 (rc : Rec) (md : Md) (a0_0 : Int) (a0_1 : Int) (a0_2 : Int) (h0 : Heap) : Option (Value × Heap) :=
  let h1 : Heap := h0 ++ [.own [(.int .i64 a0_0), (.int .i64 a0_1), (.int .i64 a0_2)]]
  ld1 (.pointer (some ⟨h0.length, 0, none⟩)) h1 fun v2 =>
  cIn .i64 v2 fun n3 =>
  cl (rc md 35 [(.int .u64 (IntKind.wrap .u64 n3))] h1) fun v4 h5 =>
  cIn .i64 v4 fun n6 =>
  some ((.int .i64 n6), h0)
theorem F12_eq0 (rc : Rec) (md : Md) (a0_0 : Int) (a0_1 : Int) (a0_2 : Int) (h0 : Heap) : callStep0 Try.prog cfg rc md 12 [(.agg #[(.int .i64 a0_0), (.int .i64 a0_1), (.int .i64 a0_2)])] h0 = F12 rc ⟨h0.length, h0.length⟩ a0_0 a0_1 a0_2 h0 := by kernel_rfl
theorem F12_eq (rc : Rec) (md : Md) (a0_0 : Int) (a0_1 : Int) (a0_2 : Int) (h0 : Heap) : callStep Try.prog cfg rc md 12 [(.agg #[(.int .i64 a0_0), (.int .i64 a0_1), (.int .i64 a0_2)])] h0 = alone h0 (F12 rc ⟨0, 0⟩ a0_0 a0_1 a0_2 []) := by
  have e : callStep Try.prog cfg rc md 12 [(.agg #[(.int .i64 a0_0), (.int .i64 a0_1), (.int .i64 a0_2)])] h0 = alone h0 (callStep0 Try.prog cfg rc ⟨0, 0⟩ 12 [(.agg #[(.int .i64 a0_0), (.int .i64 a0_1), (.int .i64 a0_2)])] []) := by kernel_rfl
  rw [e, F12_eq0]; rfl

/-- (tombolo/lay.Lay).Head -/
noncomputable def F13 (rc : Rec) (md : Md) (a0_0 : Int) (a0_1 : Int) (a0_2 : Int) (a1 : Int) (a2 : Int) (h0 : Heap) : Option (Value × Heap) :=
  let h1 : Heap := h0 ++ [.own [(.int .i64 a0_0), (.int .i64 a0_1), (.int .i64 a0_2)]]
  ld1 (.pointer (some ⟨h0.length, 0, none⟩)) h1 fun v2 =>
  cIn .i64 v2 fun n3 =>
  cl (rc md 36 [(.int .i64 a1), (.int .i64 n3)] h1) fun v4 h5 =>
  cBn v4 fun b6 =>
  (bif wantV (.bool (!b6)) false then
  some ((.int .i64 a2), h5)
  else some (undef, h5)).bind fun p7 =>
  (bif wantV (.bool (!b6)) false then
  ldN 3 (.pointer (some ⟨h0.length, 0, none⟩)) p7.2 fun v8 =>
  some (v8, p7.2)
  else some (undef, p7.2)).bind fun p9 =>
  (bif wantV (.bool (!b6)) false then
  cl (rc md 12 [p9.1] p9.2) fun v10 h11 =>
  cIn .i64 v10 fun n12 =>
  some ((.int .i64 n12), h11)
  else some (undef, p9.2)).bind fun p13 =>
  (bif wantV (.bool (!b6)) false then
  cl (rc md 36 [p7.1, p13.1] p13.2) fun v14 h15 =>
  cBn v14 fun b16 =>
  some ((.bool b16), h15)
  else some (undef, p13.2)).bind fun p17 =>
  (bif wantV (.bool (!b6)) false then
  aUn .not p17.1 fun v18 =>
  some (v18, p17.2)
  else some (undef, p17.2)).bind fun p19 =>
  cBn (bif !b6 then (.bool true) else p19.1) fun b20 =>
  bif b20 then
    some ((.int .i64 (-1)), h0)
  else
    ldN 3 (.pointer (some ⟨h0.length, 0, none⟩)) p19.2 fun v21 =>
    cl (rc md 37 [v21] p19.2) fun v22 h23 =>
    cIn .i64 v22 fun n24 =>
    ldN 3 (.pointer (some ⟨h0.length, 0, none⟩)) h23 fun v25 =>
    cl (rc md 12 [v25] h23) fun v26 h27 =>
    cIn .i64 v26 fun n28 =>
    some ((.int .i64 (IntKind.wrap .i64 ((IntKind.wrap .i64 (n24 + (IntKind.wrap .i64 (a1 * n28)))) + a2))), h0)
theorem F13_eq0 (rc : Rec) (md : Md) (a0_0 : Int) (a0_1 : Int) (a0_2 : Int) (a1 : Int) (a2 : Int) (h0 : Heap) : callStep0 Try.prog cfg rc md 13 [(.agg #[(.int .i64 a0_0), (.int .i64 a0_1), (.int .i64 a0_2)]), (.int .i64 a1), (.int .i64 a2)] h0 = F13 rc ⟨h0.length, h0.length⟩ a0_0 a0_1 a0_2 a1 a2 h0 := by kernel_rfl
theorem F13_eq (rc : Rec) (md : Md) (a0_0 : Int) (a0_1 : Int) (a0_2 : Int) (a1 : Int) (a2 : Int) (h0 : Heap) : callStep Try.prog cfg rc md 13 [(.agg #[(.int .i64 a0_0), (.int .i64 a0_1), (.int .i64 a0_2)]), (.int .i64 a1), (.int .i64 a2)] h0 = alone h0 (F13 rc ⟨0, 0⟩ a0_0 a0_1 a0_2 a1 a2 []) := by
  have e : callStep Try.prog cfg rc md 13 [(.agg #[(.int .i64 a0_0), (.int .i64 a0_1), (.int .i64 a0_2)]), (.int .i64 a1), (.int .i64 a2)] h0 = alone h0 (callStep0 Try.prog cfg rc ⟨0, 0⟩ 13 [(.agg #[(.int .i64 a0_0), (.int .i64 a0_1), (.int .i64 a0_2)]), (.int .i64 a1), (.int .i64 a2)] []) := by kernel_rfl
  rw [e, F13_eq0]; rfl

/-- (tombolo/lay.Lay).Prev -/
noncomputable def F14 (rc : Rec) (md : Md) (a0_0 : Int) (a0_1 : Int) (a0_2 : Int) (a1 : Int) (a2 : Int) (h0 : Heap) : Option (Value × Heap) :=
  let h1 : Heap := h0 ++ [.own [(.int .i64 a0_0), (.int .i64 a0_1), (.int .i64 a0_2)]]
  cl (rc md 36 [(.int .i64 a2), (.int .i64 2)] h1) fun v2 h3 =>
  cBn v2 fun b4 =>
  bif !b4 then
    some ((.int .i64 (-1)), h0)
  else
    ldN 3 (.pointer (some ⟨h0.length, 0, none⟩)) h3 fun v5 =>
    cl (rc md 38 [v5, (.int .i64 a1), (.int .i64 (IntKind.wrap .i64 (5 + a2)))] h3) fun v6 h7 =>
    cIn .i64 v6 fun n8 =>
    some ((.int .i64 n8), h0)
theorem F14_eq0 (rc : Rec) (md : Md) (a0_0 : Int) (a0_1 : Int) (a0_2 : Int) (a1 : Int) (a2 : Int) (h0 : Heap) : callStep0 Try.prog cfg rc md 14 [(.agg #[(.int .i64 a0_0), (.int .i64 a0_1), (.int .i64 a0_2)]), (.int .i64 a1), (.int .i64 a2)] h0 = F14 rc ⟨h0.length, h0.length⟩ a0_0 a0_1 a0_2 a1 a2 h0 := by kernel_rfl
theorem F14_eq (rc : Rec) (md : Md) (a0_0 : Int) (a0_1 : Int) (a0_2 : Int) (a1 : Int) (a2 : Int) (h0 : Heap) : callStep Try.prog cfg rc md 14 [(.agg #[(.int .i64 a0_0), (.int .i64 a0_1), (.int .i64 a0_2)]), (.int .i64 a1), (.int .i64 a2)] h0 = alone h0 (F14 rc ⟨0, 0⟩ a0_0 a0_1 a0_2 a1 a2 []) := by
  have e : callStep Try.prog cfg rc md 14 [(.agg #[(.int .i64 a0_0), (.int .i64 a0_1), (.int .i64 a0_2)]), (.int .i64 a1), (.int .i64 a2)] h0 = alone h0 (callStep0 Try.prog cfg rc ⟨0, 0⟩ 14 [(.agg #[(.int .i64 a0_0), (.int .i64 a0_1), (.int .i64 a0_2)]), (.int .i64 a1), (.int .i64 a2)] []) := by kernel_rfl
  rw [e, F14_eq0]; rfl

/-- (tombolo/lay.Lay).Next -/
noncomputable def F15 (rc : Rec) (md : Md) (a0_0 : Int) (a0_1 : Int) (a0_2 : Int) (a1 : Int) (a2 : Int) (h0 : Heap) : Option (Value × Heap) :=
  let h1 : Heap := h0 ++ [.own [(.int .i64 a0_0), (.int .i64 a0_1), (.int .i64 a0_2)]]
  cl (rc md 36 [(.int .i64 a2), (.int .i64 2)] h1) fun v2 h3 =>
  cBn v2 fun b4 =>
  bif !b4 then
    some ((.int .i64 (-1)), h0)
  else
    ldN 3 (.pointer (some ⟨h0.length, 0, none⟩)) h3 fun v5 =>
    cl (rc md 38 [v5, (.int .i64 a1), (.int .i64 (IntKind.wrap .i64 (3 + a2)))] h3) fun v6 h7 =>
    cIn .i64 v6 fun n8 =>
    some ((.int .i64 n8), h0)
theorem F15_eq0 (rc : Rec) (md : Md) (a0_0 : Int) (a0_1 : Int) (a0_2 : Int) (a1 : Int) (a2 : Int) (h0 : Heap) : callStep0 Try.prog cfg rc md 15 [(.agg #[(.int .i64 a0_0), (.int .i64 a0_1), (.int .i64 a0_2)]), (.int .i64 a1), (.int .i64 a2)] h0 = F15 rc ⟨h0.length, h0.length⟩ a0_0 a0_1 a0_2 a1 a2 h0 := by kernel_rfl
theorem F15_eq (rc : Rec) (md : Md) (a0_0 : Int) (a0_1 : Int) (a0_2 : Int) (a1 : Int) (a2 : Int) (h0 : Heap) : callStep Try.prog cfg rc md 15 [(.agg #[(.int .i64 a0_0), (.int .i64 a0_1), (.int .i64 a0_2)]), (.int .i64 a1), (.int .i64 a2)] h0 = alone h0 (F15 rc ⟨0, 0⟩ a0_0 a0_1 a0_2 a1 a2 []) := by
  have e : callStep Try.prog cfg rc md 15 [(.agg #[(.int .i64 a0_0), (.int .i64 a0_1), (.int .i64 a0_2)]), (.int .i64 a1), (.int .i64 a2)] h0 = alone h0 (callStep0 Try.prog cfg rc ⟨0, 0⟩ 15 [(.agg #[(.int .i64 a0_0), (.int .i64 a0_1), (.int .i64 a0_2)]), (.int .i64 a1), (.int .i64 a2)] []) := by kernel_rfl
  rw [e, F15_eq0]; rfl

/-- tombolo/tomboloref05.Right -/
noncomputable def F18 (rc : Rec) (md : Md) (a0_0 : Int) (a0_1 : Int) (a0_2 : Int) (h0 : Heap) : Option (Value × Heap) :=
  let h1 : Heap := h0 ++ [.own [(.int .i64 a0_0), (.int .i64 a0_1), (.int .i64 a0_2)]]
  ld1 (.pointer (some ⟨h0.length, 0, none⟩)) h1 fun v2 =>
  cIn .i64 v2 fun n3 =>
  (bif wantV (.bool (decide (n3 ≥ 1))) true then
  some ((.pointer (some ⟨h0.length, 0, none⟩)), h1)
  else some (undef, h1)).bind fun p4 =>
  (bif wantV (.bool (decide (n3 ≥ 1))) true then
  ld1 p4.1 p4.2 fun v5 =>
  cIn .i64 v5 fun n6 =>
  some ((.int .i64 n6), p4.2)
  else some (undef, p4.2)).bind fun p7 =>
  (bif wantV (.bool (decide (n3 ≥ 1))) true then
  aBin Try.prog .leq 3 p7.1 (.int .i64 16) fun v8 =>
  some (v8, p7.2)
  else some (undef, p7.2)).bind fun p9 =>
  cBn (bif (decide (n3 ≥ 1)) then p9.1 else (.bool false)) fun b10 =>
  (bif wantV (.bool b10) true then
  some ((.pointer (some ⟨h0.length, 1, none⟩)), p9.2)
  else some (undef, p9.2)).bind fun p11 =>
  (bif wantV (.bool b10) true then
  ld1 p11.1 p11.2 fun v12 =>
  cIn .i64 v12 fun n13 =>
  some ((.int .i64 n13), p11.2)
  else some (undef, p11.2)).bind fun p14 =>
  (bif wantV (.bool b10) true then
  aBin Try.prog .geq 3 p14.1 (.int .i64 0) fun v15 =>
  some (v15, p14.2)
  else some (undef, p14.2)).bind fun p16 =>
  cBn (bif b10 then p16.1 else (.bool false)) fun b17 =>
  (bif wantV (.bool b17) true then
  some ((.pointer (some ⟨h0.length, 1, none⟩)), p16.2)
  else some (undef, p16.2)).bind fun p18 =>
  (bif wantV (.bool b17) true then
  ld1 p18.1 p18.2 fun v19 =>
  cIn .i64 v19 fun n20 =>
  some ((.int .i64 n20), p18.2)
  else some (undef, p18.2)).bind fun p21 =>
  (bif wantV (.bool b17) true then
  aBin Try.prog .leq 3 p21.1 (.int .i64 48) fun v22 =>
  some (v22, p21.2)
  else some (undef, p21.2)).bind fun p23 =>
  cBn (bif b17 then p23.1 else (.bool false)) fun b24 =>
  (bif wantV (.bool b24) true then
  some ((.pointer (some ⟨h0.length, 2, none⟩)), p23.2)
  else some (undef, p23.2)).bind fun p25 =>
  (bif wantV (.bool b24) true then
  ld1 p25.1 p25.2 fun v26 =>
  cIn .i64 v26 fun n27 =>
  some ((.int .i64 n27), p25.2)
  else some (undef, p25.2)).bind fun p28 =>
  (bif wantV (.bool b24) true then
  aBin Try.prog .geq 3 p28.1 (.int .i64 1) fun v29 =>
  some (v29, p28.2)
  else some (undef, p28.2)).bind fun p30 =>
  cBn (bif b24 then p30.1 else (.bool false)) fun b31 =>
  (bif wantV (.bool b31) true then
  some ((.pointer (some ⟨h0.length, 2, none⟩)), p30.2)
  else some (undef, p30.2)).bind fun p32 =>
  (bif wantV (.bool b31) true then
  ld1 p32.1 p32.2 fun v33 =>
  cIn .i64 v33 fun n34 =>
  some ((.int .i64 n34), p32.2)
  else some (undef, p32.2)).bind fun p35 =>
  (bif wantV (.bool b31) true then
  aBin Try.prog .leq 3 p35.1 (.int .i64 8) fun v36 =>
  some (v36, p35.2)
  else some (undef, p35.2)).bind fun p37 =>
  cBn (bif b31 then p37.1 else (.bool false)) fun b38 =>
  some ((.bool b38), h0)
theorem F18_eq0 (rc : Rec) (md : Md) (a0_0 : Int) (a0_1 : Int) (a0_2 : Int) (h0 : Heap) : callStep0 Try.prog cfg rc md 18 [(.agg #[(.int .i64 a0_0), (.int .i64 a0_1), (.int .i64 a0_2)])] h0 = F18 rc ⟨h0.length, h0.length⟩ a0_0 a0_1 a0_2 h0 := by kernel_rfl
theorem F18_eq (rc : Rec) (md : Md) (a0_0 : Int) (a0_1 : Int) (a0_2 : Int) (h0 : Heap) : callStep Try.prog cfg rc md 18 [(.agg #[(.int .i64 a0_0), (.int .i64 a0_1), (.int .i64 a0_2)])] h0 = alone h0 (F18 rc ⟨0, 0⟩ a0_0 a0_1 a0_2 []) := by
  have e : callStep Try.prog cfg rc md 18 [(.agg #[(.int .i64 a0_0), (.int .i64 a0_1), (.int .i64 a0_2)])] h0 = alone h0 (callStep0 Try.prog cfg rc ⟨0, 0⟩ 18 [(.agg #[(.int .i64 a0_0), (.int .i64 a0_1), (.int .i64 a0_2)])] []) := by kernel_rfl
  rw [e, F18_eq0]; rfl

/-- (tombolo/lay.Lay).Vertex -/
noncomputable def F22 (rc : Rec) (md : Md) (a0_0 : Int) (a0_1 : Int) (a0_2 : Int) (a1 : Int) (a2 : Int) (h0 : Heap) : Option (Value × Heap) :=
  let h1 : Heap := h0 ++ [.own [(.int .i64 a0_0), (.int .i64 a0_1), (.int .i64 a0_2)]]
  ldN 3 (.pointer (some ⟨h0.length, 0, none⟩)) h1 fun v2 =>
  cl (rc md 12 [v2] h1) fun v3 h4 =>
  cIn .i64 v3 fun n5 =>
  cl (rc md 36 [(.int .i64 a1), (.int .i64 n5)] h4) fun v6 h7 =>
  cBn v6 fun b8 =>
  (bif wantV (.bool (!b8)) false then
  some ((.int .i64 a2), h7)
  else some (undef, h7)).bind fun p9 =>
  (bif wantV (.bool (!b8)) false then
  some ((.pointer (some ⟨h0.length, 0, none⟩)), p9.2)
  else some (undef, p9.2)).bind fun p10 =>
  (bif wantV (.bool (!b8)) false then
  ld1 p10.1 p10.2 fun v11 =>
  cIn .i64 v11 fun n12 =>
  some ((.int .i64 n12), p10.2)
  else some (undef, p10.2)).bind fun p13 =>
  (bif wantV (.bool (!b8)) false then
  cl (rc md 36 [p9.1, p13.1] p13.2) fun v14 h15 =>
  cBn v14 fun b16 =>
  some ((.bool b16), h15)
  else some (undef, p13.2)).bind fun p17 =>
  (bif wantV (.bool (!b8)) false then
  aUn .not p17.1 fun v18 =>
  some (v18, p17.2)
  else some (undef, p17.2)).bind fun p19 =>
  cBn (bif !b8 then (.bool true) else p19.1) fun b20 =>
  bif b20 then
    some ((.int .i64 0), h0)
  else
    ld1 (.pointer (some ⟨h0.length, 0, none⟩)) p19.2 fun v21 =>
    cIn .i64 v21 fun n22 =>
    some ((.int .i64 (IntKind.wrap .i64 ((IntKind.wrap .i64 (1 + (IntKind.wrap .i64 (a1 * n22)))) + a2))), h0)
theorem F22_eq0 (rc : Rec) (md : Md) (a0_0 : Int) (a0_1 : Int) (a0_2 : Int) (a1 : Int) (a2 : Int) (h0 : Heap) : callStep0 Try.prog cfg rc md 22 [(.agg #[(.int .i64 a0_0), (.int .i64 a0_1), (.int .i64 a0_2)]), (.int .i64 a1), (.int .i64 a2)] h0 = F22 rc ⟨h0.length, h0.length⟩ a0_0 a0_1 a0_2 a1 a2 h0 := by kernel_rfl
theorem F22_eq (rc : Rec) (md : Md) (a0_0 : Int) (a0_1 : Int) (a0_2 : Int) (a1 : Int) (a2 : Int) (h0 : Heap) : callStep Try.prog cfg rc md 22 [(.agg #[(.int .i64 a0_0), (.int .i64 a0_1), (.int .i64 a0_2)]), (.int .i64 a1), (.int .i64 a2)] h0 = alone h0 (F22 rc ⟨0, 0⟩ a0_0 a0_1 a0_2 a1 a2 []) := by
  have e : callStep Try.prog cfg rc md 22 [(.agg #[(.int .i64 a0_0), (.int .i64 a0_1), (.int .i64 a0_2)]), (.int .i64 a1), (.int .i64 a2)] h0 = alone h0 (callStep0 Try.prog cfg rc ⟨0, 0⟩ 22 [(.agg #[(.int .i64 a0_0), (.int .i64 a0_1), (.int .i64 a0_2)]), (.int .i64 a1), (.int .i64 a2)] []) := by kernel_rfl
  rw [e, F22_eq0]; rfl

/-- tombolo/cell.New -/
noncomputable def F24 (rc : Rec) (md : Md) (a0 : Int) (h0 : Heap) : Option (Value × Heap) :=
  (bif wantV (.bool (decide (a0 < 0))) false then
  some ((.int .i64 a0), h0)
  else some (undef, h0)).bind fun p1 =>
  (bif wantV (.bool (decide (a0 < 0))) false then
  aBin Try.prog .gtr 3 p1.1 (.int .i64 16384) fun v2 =>
  some (v2, p1.2)
  else some (undef, p1.2)).bind fun p3 =>
  cBn (bif (decide (a0 < 0)) then (.bool true) else p3.1) fun b4 =>
  bif b4 then
    some ((.tuple #[(.pointer none), (.int .i64 11)]), p3.2)
  else
    aMakeSlice Try.prog 87 (.int .i64 a0) (.int .i64 a0) p3.2 fun v5 h6 =>
    aBuild Try.prog 91 [(0, v5)] fun v7 =>
    let h8 : Heap := h6 ++ [.own v7.cells.toList]
    some ((.tuple #[(.pointer (some ⟨h6.length, 0, none⟩)), (.int .i64 0)]), h8)
theorem F24_eq0 (rc : Rec) (md : Md) (a0 : Int) (h0 : Heap) : callStep0 Try.prog cfg rc md 24 [(.int .i64 a0)] h0 = F24 rc md a0 h0 := by kernel_rfl
theorem F24_eq (rc : Rec) (md : Md) (a0 : Int) (h0 : Heap) : callStep Try.prog cfg rc md 24 [(.int .i64 a0)] h0 = F24 rc md a0 h0 := (callStep_ne (by kernel_rfl)).trans (F24_eq0 rc md a0 h0)

/-- (tombolo/lay.Lay).Cells -/
noncomputable def F25 (rc : Rec) (md : Md) (a0_0 : Int) (a0_1 : Int) (a0_2 : Int) (h0 : Heap) : Option (Value × Heap) :=
  let h1 : Heap := h0 ++ [.own [(.int .i64 a0_0), (.int .i64 a0_1), (.int .i64 a0_2)]]
  ldN 3 (.pointer (some ⟨h0.length, 0, none⟩)) h1 fun v2 =>
  cl (rc md 50 [v2] h1) fun v3 h4 =>
  cIn .i64 v3 fun n5 =>
  ldN 3 (.pointer (some ⟨h0.length, 0, none⟩)) h4 fun v6 =>
  cl (rc md 27 [v6] h4) fun v7 h8 =>
  cIn .i64 v7 fun n9 =>
  some ((.int .i64 (IntKind.wrap .i64 (n5 + (IntKind.wrap .i64 (n9 * 7))))), h0)
theorem F25_eq0 (rc : Rec) (md : Md) (a0_0 : Int) (a0_1 : Int) (a0_2 : Int) (h0 : Heap) : callStep0 Try.prog cfg rc md 25 [(.agg #[(.int .i64 a0_0), (.int .i64 a0_1), (.int .i64 a0_2)])] h0 = F25 rc ⟨h0.length, h0.length⟩ a0_0 a0_1 a0_2 h0 := by kernel_rfl
theorem F25_eq (rc : Rec) (md : Md) (a0_0 : Int) (a0_1 : Int) (a0_2 : Int) (h0 : Heap) : callStep Try.prog cfg rc md 25 [(.agg #[(.int .i64 a0_0), (.int .i64 a0_1), (.int .i64 a0_2)])] h0 = alone h0 (F25 rc ⟨0, 0⟩ a0_0 a0_1 a0_2 []) := by
  have e : callStep Try.prog cfg rc md 25 [(.agg #[(.int .i64 a0_0), (.int .i64 a0_1), (.int .i64 a0_2)])] h0 = alone h0 (callStep0 Try.prog cfg rc ⟨0, 0⟩ 25 [(.agg #[(.int .i64 a0_0), (.int .i64 a0_1), (.int .i64 a0_2)])] []) := by kernel_rfl
  rw [e, F25_eq0]; rfl

/-- tombolo/mem.Of -/
noncomputable def F26 (rc : Rec) (md : Md) (a0 : Value) (h0 : Heap) : Option (Value × Heap) :=
  let h1 : Heap := h0 ++ [.own [(.pointer none)]]
  aBuild Try.prog 72 [(0, a0)] fun v2 =>
  st md 1 (.pointer (some ⟨h0.length, 0, none⟩)) v2 h1 fun h3 =>
  ldN 1 (.pointer (some ⟨h0.length, 0, none⟩)) h3 fun v4 =>
  fin2 h0 v4
theorem F26_eq0 (rc : Rec) (md : Md) (a0 : Value) (h0 : Heap) : callStep0 Try.prog cfg rc md 26 [a0] h0 = F26 rc ⟨h0.length, h0.length⟩ a0 h0 := by kernel_rfl
theorem F26_eq (rc : Rec) (md : Md) (a0 : Value) (h0 : Heap) : callStep Try.prog cfg rc md 26 [a0] h0 = F26 rc ⟨h0.length, h0.length⟩ a0 h0 := (callStep_ne (by kernel_rfl)).trans (F26_eq0 rc md a0 h0)

/-- (tombolo/lay.Lay).Nodes -/
noncomputable def F27 (rc : Rec) (md : Md) (a0_0 : Int) (a0_1 : Int) (a0_2 : Int) (h0 : Heap) : Option (Value × Heap) :=
  let h1 : Heap := h0 ++ [.own [(.int .i64 a0_0), (.int .i64 a0_1), (.int .i64 a0_2)]]
  ldN 3 (.pointer (some ⟨h0.length, 0, none⟩)) h1 fun v2 =>
  cl (rc md 12 [v2] h1) fun v3 h4 =>
  cIn .i64 v3 fun n5 =>
  ld1 (.pointer (some ⟨h0.length, 0, none⟩)) h4 fun v6 =>
  cIn .i64 v6 fun n7 =>
  ld1 (.pointer (some ⟨h0.length, 1, none⟩)) h4 fun v8 =>
  cIn .i64 v8 fun n9 =>
  ldN 3 (.pointer (some ⟨h0.length, 0, none⟩)) h4 fun v10 =>
  cl (rc md 51 [v10] h4) fun v11 h12 =>
  cIn .i64 v11 fun n13 =>
  some ((.int .i64 (IntKind.wrap .i64 ((IntKind.wrap .i64 (n5 * n7)) + (IntKind.wrap .i64 (n9 * n13))))), h0)
theorem F27_eq0 (rc : Rec) (md : Md) (a0_0 : Int) (a0_1 : Int) (a0_2 : Int) (h0 : Heap) : callStep0 Try.prog cfg rc md 27 [(.agg #[(.int .i64 a0_0), (.int .i64 a0_1), (.int .i64 a0_2)])] h0 = F27 rc ⟨h0.length, h0.length⟩ a0_0 a0_1 a0_2 h0 := by kernel_rfl
theorem F27_eq (rc : Rec) (md : Md) (a0_0 : Int) (a0_1 : Int) (a0_2 : Int) (h0 : Heap) : callStep Try.prog cfg rc md 27 [(.agg #[(.int .i64 a0_0), (.int .i64 a0_1), (.int .i64 a0_2)])] h0 = alone h0 (F27 rc ⟨0, 0⟩ a0_0 a0_1 a0_2 []) := by
  have e : callStep Try.prog cfg rc md 27 [(.agg #[(.int .i64 a0_0), (.int .i64 a0_1), (.int .i64 a0_2)])] h0 = alone h0 (callStep0 Try.prog cfg rc ⟨0, 0⟩ 27 [(.agg #[(.int .i64 a0_0), (.int .i64 a0_1), (.int .i64 a0_2)])] []) := by kernel_rfl
  rw [e, F27_eq0]; rfl

/-- tombolo/lay.below -/
noncomputable def F36 (rc : Rec) (md : Md) (a0 : Int) (a1 : Int) (h0 : Heap) : Option (Value × Heap) :=
  (bif wantV (.bool (decide (a0 ≥ 0))) true then
  some ((.int .i64 a0), h0)
  else some (undef, h0)).bind fun p1 =>
  (bif wantV (.bool (decide (a0 ≥ 0))) true then
  some ((.int .i64 a1), p1.2)
  else some (undef, p1.2)).bind fun p2 =>
  (bif wantV (.bool (decide (a0 ≥ 0))) true then
  aBin Try.prog .lss 3 p1.1 p2.1 fun v3 =>
  some (v3, p2.2)
  else some (undef, p2.2)).bind fun p4 =>
  cBn (bif (decide (a0 ≥ 0)) then p4.1 else (.bool false)) fun b5 =>
  some ((.bool b5), h0)
theorem F36_eq0 (rc : Rec) (md : Md) (a0 : Int) (a1 : Int) (h0 : Heap) : callStep0 Try.prog cfg rc md 36 [(.int .i64 a0), (.int .i64 a1)] h0 = F36 rc ⟨h0.length, h0.length⟩ a0 a1 h0 := by kernel_rfl
theorem F36_eq (rc : Rec) (md : Md) (a0 : Int) (a1 : Int) (h0 : Heap) : callStep Try.prog cfg rc md 36 [(.int .i64 a0), (.int .i64 a1)] h0 = alone h0 (F36 rc ⟨0, 0⟩ a0 a1 []) := by
  have e : callStep Try.prog cfg rc md 36 [(.int .i64 a0), (.int .i64 a1)] h0 = alone h0 (callStep0 Try.prog cfg rc ⟨0, 0⟩ 36 [(.int .i64 a0), (.int .i64 a1)] []) := by kernel_rfl
  rw [e, F36_eq0]; rfl

/-- (tombolo/lay.Lay).heads -/
noncomputable def F37 (rc : Rec) (md : Md) (a0_0 : Int) (a0_1 : Int) (a0_2 : Int) (h0 : Heap) : Option (Value × Heap) :=
  let h1 : Heap := h0 ++ [.own [(.int .i64 a0_0), (.int .i64 a0_1), (.int .i64 a0_2)]]
  ldN 3 (.pointer (some ⟨h0.length, 0, none⟩)) h1 fun v2 =>
  cl (rc md 59 [v2] h1) fun v3 h4 =>
  cIn .i64 v3 fun n5 =>
  ld1 (.pointer (some ⟨h0.length, 1, none⟩)) h4 fun v6 =>
  cIn .i64 v6 fun n7 =>
  some ((.int .i64 (IntKind.wrap .i64 ((IntKind.wrap .i64 (n5 + 1)) + (IntKind.wrap .i64 (n7 * 7))))), h0)
theorem F37_eq0 (rc : Rec) (md : Md) (a0_0 : Int) (a0_1 : Int) (a0_2 : Int) (h0 : Heap) : callStep0 Try.prog cfg rc md 37 [(.agg #[(.int .i64 a0_0), (.int .i64 a0_1), (.int .i64 a0_2)])] h0 = F37 rc ⟨h0.length, h0.length⟩ a0_0 a0_1 a0_2 h0 := by kernel_rfl
theorem F37_eq (rc : Rec) (md : Md) (a0_0 : Int) (a0_1 : Int) (a0_2 : Int) (h0 : Heap) : callStep Try.prog cfg rc md 37 [(.agg #[(.int .i64 a0_0), (.int .i64 a0_1), (.int .i64 a0_2)])] h0 = alone h0 (F37 rc ⟨0, 0⟩ a0_0 a0_1 a0_2 []) := by
  have e : callStep Try.prog cfg rc md 37 [(.agg #[(.int .i64 a0_0), (.int .i64 a0_1), (.int .i64 a0_2)])] h0 = alone h0 (callStep0 Try.prog cfg rc ⟨0, 0⟩ 37 [(.agg #[(.int .i64 a0_0), (.int .i64 a0_1), (.int .i64 a0_2)])] []) := by kernel_rfl
  rw [e, F37_eq0]; rfl

/-- (tombolo/lay.Lay).of -/
noncomputable def F38 (rc : Rec) (md : Md) (a0_0 : Int) (a0_1 : Int) (a0_2 : Int) (a1 : Int) (a2 : Int) (h0 : Heap) : Option (Value × Heap) :=
  let h1 : Heap := h0 ++ [.own [(.int .i64 a0_0), (.int .i64 a0_1), (.int .i64 a0_2)]]
  ld1 (.pointer (some ⟨h0.length, 1, none⟩)) h1 fun v2 =>
  cIn .i64 v2 fun n3 =>
  cl (rc md 36 [(.int .i64 a1), (.int .i64 n3)] h1) fun v4 h5 =>
  cBn v4 fun b6 =>
  bif !b6 then
    some ((.int .i64 (-1)), h0)
  else
    ldN 3 (.pointer (some ⟨h0.length, 0, none⟩)) h5 fun v7 =>
    cl (rc md 59 [v7] h5) fun v8 h9 =>
    cIn .i64 v8 fun n10 =>
    some ((.int .i64 (IntKind.wrap .i64 ((IntKind.wrap .i64 ((IntKind.wrap .i64 (n10 + 1)) + (IntKind.wrap .i64 (a1 * 7)))) + a2))), h0)
theorem F38_eq0 (rc : Rec) (md : Md) (a0_0 : Int) (a0_1 : Int) (a0_2 : Int) (a1 : Int) (a2 : Int) (h0 : Heap) : callStep0 Try.prog cfg rc md 38 [(.agg #[(.int .i64 a0_0), (.int .i64 a0_1), (.int .i64 a0_2)]), (.int .i64 a1), (.int .i64 a2)] h0 = F38 rc ⟨h0.length, h0.length⟩ a0_0 a0_1 a0_2 a1 a2 h0 := by kernel_rfl
theorem F38_eq (rc : Rec) (md : Md) (a0_0 : Int) (a0_1 : Int) (a0_2 : Int) (a1 : Int) (a2 : Int) (h0 : Heap) : callStep Try.prog cfg rc md 38 [(.agg #[(.int .i64 a0_0), (.int .i64 a0_1), (.int .i64 a0_2)]), (.int .i64 a1), (.int .i64 a2)] h0 = alone h0 (F38 rc ⟨0, 0⟩ a0_0 a0_1 a0_2 a1 a2 []) := by
  have e : callStep Try.prog cfg rc md 38 [(.agg #[(.int .i64 a0_0), (.int .i64 a0_1), (.int .i64 a0_2)]), (.int .i64 a1), (.int .i64 a2)] h0 = alone h0 (callStep0 Try.prog cfg rc ⟨0, 0⟩ 38 [(.agg #[(.int .i64 a0_0), (.int .i64 a0_1), (.int .i64 a0_2)]), (.int .i64 a1), (.int .i64 a2)] []) := by kernel_rfl
  rw [e, F38_eq0]; rfl

/-- (tombolo/lay.Lay).Ends -/
noncomputable def F41 (rc : Rec) (md : Md) (a0_0 : Int) (a0_1 : Int) (a0_2 : Int) (a1 : Int) (h0 : Heap) : Option (Value × Heap) :=
  let h1 : Heap := h0 ++ [.own [(.int .i64 a0_0), (.int .i64 a0_1), (.int .i64 a0_2)]]
  ldN 3 (.pointer (some ⟨h0.length, 0, none⟩)) h1 fun v2 =>
  cl (rc md 38 [v2, (.int .i64 a1), (.int .i64 1)] h1) fun v3 h4 =>
  cIn .i64 v3 fun n5 =>
  some ((.int .i64 n5), h0)
theorem F41_eq0 (rc : Rec) (md : Md) (a0_0 : Int) (a0_1 : Int) (a0_2 : Int) (a1 : Int) (h0 : Heap) : callStep0 Try.prog cfg rc md 41 [(.agg #[(.int .i64 a0_0), (.int .i64 a0_1), (.int .i64 a0_2)]), (.int .i64 a1)] h0 = F41 rc ⟨h0.length, h0.length⟩ a0_0 a0_1 a0_2 a1 h0 := by kernel_rfl
theorem F41_eq (rc : Rec) (md : Md) (a0_0 : Int) (a0_1 : Int) (a0_2 : Int) (a1 : Int) (h0 : Heap) : callStep Try.prog cfg rc md 41 [(.agg #[(.int .i64 a0_0), (.int .i64 a0_1), (.int .i64 a0_2)]), (.int .i64 a1)] h0 = alone h0 (F41 rc ⟨0, 0⟩ a0_0 a0_1 a0_2 a1 []) := by
  have e : callStep Try.prog cfg rc md 41 [(.agg #[(.int .i64 a0_0), (.int .i64 a0_1), (.int .i64 a0_2)]), (.int .i64 a1)] h0 = alone h0 (callStep0 Try.prog cfg rc ⟨0, 0⟩ 41 [(.agg #[(.int .i64 a0_0), (.int .i64 a0_1), (.int .i64 a0_2)]), (.int .i64 a1)] []) := by kernel_rfl
  rw [e, F41_eq0]; rfl

/-- (tombolo/lay.Lay).Level -/
noncomputable def F42 (rc : Rec) (md : Md) (a0_0 : Int) (a0_1 : Int) (a0_2 : Int) (a1 : Int) (h0 : Heap) : Option (Value × Heap) :=
  let h1 : Heap := h0 ++ [.own [(.int .i64 a0_0), (.int .i64 a0_1), (.int .i64 a0_2)]]
  ldN 3 (.pointer (some ⟨h0.length, 0, none⟩)) h1 fun v2 =>
  cl (rc md 38 [v2, (.int .i64 a1), (.int .i64 2)] h1) fun v3 h4 =>
  cIn .i64 v3 fun n5 =>
  some ((.int .i64 n5), h0)
theorem F42_eq0 (rc : Rec) (md : Md) (a0_0 : Int) (a0_1 : Int) (a0_2 : Int) (a1 : Int) (h0 : Heap) : callStep0 Try.prog cfg rc md 42 [(.agg #[(.int .i64 a0_0), (.int .i64 a0_1), (.int .i64 a0_2)]), (.int .i64 a1)] h0 = F42 rc ⟨h0.length, h0.length⟩ a0_0 a0_1 a0_2 a1 h0 := by kernel_rfl
theorem F42_eq (rc : Rec) (md : Md) (a0_0 : Int) (a0_1 : Int) (a0_2 : Int) (a1 : Int) (h0 : Heap) : callStep Try.prog cfg rc md 42 [(.agg #[(.int .i64 a0_0), (.int .i64 a0_1), (.int .i64 a0_2)]), (.int .i64 a1)] h0 = alone h0 (F42 rc ⟨0, 0⟩ a0_0 a0_1 a0_2 a1 []) := by
  have e : callStep Try.prog cfg rc md 42 [(.agg #[(.int .i64 a0_0), (.int .i64 a0_1), (.int .i64 a0_2)]), (.int .i64 a1)] h0 = alone h0 (callStep0 Try.prog cfg rc ⟨0, 0⟩ 42 [(.agg #[(.int .i64 a0_0), (.int .i64 a0_1), (.int .i64 a0_2)]), (.int .i64 a1)] []) := by kernel_rfl
  rw [e, F42_eq0]; rfl

/-- (tombolo/lay.Lay).Edge -/
noncomputable def F43 (rc : Rec) (md : Md) (a0_0 : Int) (a0_1 : Int) (a0_2 : Int) (a1 : Int) (a2 : Int) (h0 : Heap) : Option (Value × Heap) :=
  let h1 : Heap := h0 ++ [.own [(.int .i64 a0_0), (.int .i64 a0_1), (.int .i64 a0_2)]]
  (bif wantV (.bool ((if a2 < a1 then a2 else a1) == (if a2 > a1 then a2 else a1))) false then
  some ((.int .i64 (if a2 < a1 then a2 else a1)), h1)
  else some (undef, h1)).bind fun p2 =>
  (bif wantV (.bool ((if a2 < a1 then a2 else a1) == (if a2 > a1 then a2 else a1))) false then
  some ((.pointer (some ⟨h0.length, 0, none⟩)), p2.2)
  else some (undef, p2.2)).bind fun p3 =>
  (bif wantV (.bool ((if a2 < a1 then a2 else a1) == (if a2 > a1 then a2 else a1))) false then
  ld1 p3.1 p3.2 fun v4 =>
  cIn .i64 v4 fun n5 =>
  some ((.int .i64 n5), p3.2)
  else some (undef, p3.2)).bind fun p6 =>
  (bif wantV (.bool ((if a2 < a1 then a2 else a1) == (if a2 > a1 then a2 else a1))) false then
  cl (rc md 36 [p2.1, p6.1] p6.2) fun v7 h8 =>
  cBn v7 fun b9 =>
  some ((.bool b9), h8)
  else some (undef, p6.2)).bind fun p10 =>
  (bif wantV (.bool ((if a2 < a1 then a2 else a1) == (if a2 > a1 then a2 else a1))) false then
  aUn .not p10.1 fun v11 =>
  some (v11, p10.2)
  else some (undef, p10.2)).bind fun p12 =>
  cBn (bif ((if a2 < a1 then a2 else a1) == (if a2 > a1 then a2 else a1)) then (.bool true) else p12.1) fun b13 =>
  (bif wantV (.bool b13) false then
  some ((.int .i64 (if a2 > a1 then a2 else a1)), p12.2)
  else some (undef, p12.2)).bind fun p14 =>
  (bif wantV (.bool b13) false then
  some ((.pointer (some ⟨h0.length, 0, none⟩)), p14.2)
  else some (undef, p14.2)).bind fun p15 =>
  (bif wantV (.bool b13) false then
  ld1 p15.1 p15.2 fun v16 =>
  cIn .i64 v16 fun n17 =>
  some ((.int .i64 n17), p15.2)
  else some (undef, p15.2)).bind fun p18 =>
  (bif wantV (.bool b13) false then
  cl (rc md 36 [p14.1, p18.1] p18.2) fun v19 h20 =>
  cBn v19 fun b21 =>
  some ((.bool b21), h20)
  else some (undef, p18.2)).bind fun p22 =>
  (bif wantV (.bool b13) false then
  aUn .not p22.1 fun v23 =>
  some (v23, p22.2)
  else some (undef, p22.2)).bind fun p24 =>
  cBn (bif b13 then (.bool true) else p24.1) fun b25 =>
  bif b25 then
    some ((.int .i64 (-1)), h0)
  else
    ldN 3 (.pointer (some ⟨h0.length, 0, none⟩)) p24.2 fun v26 =>
    cl (rc md 60 [v26] p24.2) fun v27 h28 =>
    cIn .i64 v27 fun n29 =>
    ld1 (.pointer (some ⟨h0.length, 0, none⟩)) h28 fun v30 =>
    cIn .i64 v30 fun n31 =>
    some ((.int .i64 (IntKind.wrap .i64 ((IntKind.wrap .i64 ((IntKind.wrap .i64 ((IntKind.wrap .i64 (n29 + (IntKind.wrap .i64 (Int.tdiv (IntKind.wrap .i64 ((if a2 < a1 then a2 else a1) * (IntKind.wrap .i64 ((IntKind.wrap .i64 ((IntKind.wrap .i64 (2 * n31)) - (if a2 < a1 then a2 else a1))) - 1)))) 2)))) + (if a2 > a1 then a2 else a1))) - (if a2 < a1 then a2 else a1))) - 1))), h0)
theorem F43_eq0 (rc : Rec) (md : Md) (a0_0 : Int) (a0_1 : Int) (a0_2 : Int) (a1 : Int) (a2 : Int) (h0 : Heap) : callStep0 Try.prog cfg rc md 43 [(.agg #[(.int .i64 a0_0), (.int .i64 a0_1), (.int .i64 a0_2)]), (.int .i64 a1), (.int .i64 a2)] h0 = F43 rc ⟨h0.length, h0.length⟩ a0_0 a0_1 a0_2 a1 a2 h0 := by kernel_rfl
theorem F43_eq (rc : Rec) (md : Md) (a0_0 : Int) (a0_1 : Int) (a0_2 : Int) (a1 : Int) (a2 : Int) (h0 : Heap) : callStep Try.prog cfg rc md 43 [(.agg #[(.int .i64 a0_0), (.int .i64 a0_1), (.int .i64 a0_2)]), (.int .i64 a1), (.int .i64 a2)] h0 = alone h0 (F43 rc ⟨0, 0⟩ a0_0 a0_1 a0_2 a1 a2 []) := by
  have e : callStep Try.prog cfg rc md 43 [(.agg #[(.int .i64 a0_0), (.int .i64 a0_1), (.int .i64 a0_2)]), (.int .i64 a1), (.int .i64 a2)] h0 = alone h0 (callStep0 Try.prog cfg rc ⟨0, 0⟩ 43 [(.agg #[(.int .i64 a0_0), (.int .i64 a0_1), (.int .i64 a0_2)]), (.int .i64 a1), (.int .i64 a2)] []) := by kernel_rfl
  rw [e, F43_eq0]; rfl

/-- (tombolo/lay.Lay).nodes -/
noncomputable def F50 (rc : Rec) (md : Md) (a0_0 : Int) (a0_1 : Int) (a0_2 : Int) (h0 : Heap) : Option (Value × Heap) :=
  let h1 : Heap := h0 ++ [.own [(.int .i64 a0_0), (.int .i64 a0_1), (.int .i64 a0_2)]]
  ldN 3 (.pointer (some ⟨h0.length, 0, none⟩)) h1 fun v2 =>
  cl (rc md 60 [v2] h1) fun v3 h4 =>
  cIn .i64 v3 fun n5 =>
  ld1 (.pointer (some ⟨h0.length, 0, none⟩)) h4 fun v6 =>
  cIn .i64 v6 fun n7 =>
  ld1 (.pointer (some ⟨h0.length, 0, none⟩)) h4 fun v8 =>
  cIn .i64 v8 fun n9 =>
  some ((.int .i64 (IntKind.wrap .i64 (n5 + (IntKind.wrap .i64 (Int.tdiv (IntKind.wrap .i64 (n7 * (IntKind.wrap .i64 (n9 - 1)))) 2))))), h0)
theorem F50_eq0 (rc : Rec) (md : Md) (a0_0 : Int) (a0_1 : Int) (a0_2 : Int) (h0 : Heap) : callStep0 Try.prog cfg rc md 50 [(.agg #[(.int .i64 a0_0), (.int .i64 a0_1), (.int .i64 a0_2)])] h0 = F50 rc ⟨h0.length, h0.length⟩ a0_0 a0_1 a0_2 h0 := by kernel_rfl
theorem F50_eq (rc : Rec) (md : Md) (a0_0 : Int) (a0_1 : Int) (a0_2 : Int) (h0 : Heap) : callStep Try.prog cfg rc md 50 [(.agg #[(.int .i64 a0_0), (.int .i64 a0_1), (.int .i64 a0_2)])] h0 = alone h0 (F50 rc ⟨0, 0⟩ a0_0 a0_1 a0_2 []) := by
  have e : callStep Try.prog cfg rc md 50 [(.agg #[(.int .i64 a0_0), (.int .i64 a0_1), (.int .i64 a0_2)])] h0 = alone h0 (callStep0 Try.prog cfg rc ⟨0, 0⟩ 50 [(.agg #[(.int .i64 a0_0), (.int .i64 a0_1), (.int .i64 a0_2)])] []) := by kernel_rfl
  rw [e, F50_eq0]; rfl

/-- (tombolo/lay.Lay).arcs -/
noncomputable def F51 (rc : Rec) (md : Md) (a0_0 : Int) (a0_1 : Int) (a0_2 : Int) (h0 : Heap) : Option (Value × Heap) :=
  let h1 : Heap := h0 ++ [.own [(.int .i64 a0_0), (.int .i64 a0_1), (.int .i64 a0_2)]]
  ldN 3 (.pointer (some ⟨h0.length, 0, none⟩)) h1 fun v2 =>
  cl (rc md 12 [v2] h1) fun v3 h4 =>
  cIn .i64 v3 fun n5 =>
  some ((.int .i64 (IntKind.wrap .i64 (2 * n5))), h0)
theorem F51_eq0 (rc : Rec) (md : Md) (a0_0 : Int) (a0_1 : Int) (a0_2 : Int) (h0 : Heap) : callStep0 Try.prog cfg rc md 51 [(.agg #[(.int .i64 a0_0), (.int .i64 a0_1), (.int .i64 a0_2)])] h0 = F51 rc ⟨h0.length, h0.length⟩ a0_0 a0_1 a0_2 h0 := by kernel_rfl
theorem F51_eq (rc : Rec) (md : Md) (a0_0 : Int) (a0_1 : Int) (a0_2 : Int) (h0 : Heap) : callStep Try.prog cfg rc md 51 [(.agg #[(.int .i64 a0_0), (.int .i64 a0_1), (.int .i64 a0_2)])] h0 = alone h0 (F51 rc ⟨0, 0⟩ a0_0 a0_1 a0_2 []) := by
  have e : callStep Try.prog cfg rc md 51 [(.agg #[(.int .i64 a0_0), (.int .i64 a0_1), (.int .i64 a0_2)])] h0 = alone h0 (callStep0 Try.prog cfg rc ⟨0, 0⟩ 51 [(.agg #[(.int .i64 a0_0), (.int .i64 a0_1), (.int .i64 a0_2)])] []) := by kernel_rfl
  rw [e, F51_eq0]; rfl

/-- (tombolo/lay.Lay).Field -/
noncomputable def F54 (rc : Rec) (md : Md) (a0_0 : Int) (a0_1 : Int) (a0_2 : Int) (a1 : Int) (a2 : Int) (h0 : Heap) : Option (Value × Heap) :=
  let h1 : Heap := h0 ++ [.own [(.int .i64 a0_0), (.int .i64 a0_1), (.int .i64 a0_2)]]
  ldN 3 (.pointer (some ⟨h0.length, 0, none⟩)) h1 fun v2 =>
  cl (rc md 27 [v2] h1) fun v3 h4 =>
  cIn .i64 v3 fun n5 =>
  cl (rc md 36 [(.int .i64 (IntKind.wrap .i64 (a1 - 1))), (.int .i64 n5)] h4) fun v6 h7 =>
  cBn v6 fun b8 =>
  (bif wantV (.bool (!b8)) false then
  some ((.int .i64 a2), h7)
  else some (undef, h7)).bind fun p9 =>
  (bif wantV (.bool (!b8)) false then
  cl (rc md 36 [p9.1, (.int .i64 7)] p9.2) fun v10 h11 =>
  cBn v10 fun b12 =>
  some ((.bool b12), h11)
  else some (undef, p9.2)).bind fun p13 =>
  (bif wantV (.bool (!b8)) false then
  aUn .not p13.1 fun v14 =>
  some (v14, p13.2)
  else some (undef, p13.2)).bind fun p15 =>
  cBn (bif !b8 then (.bool true) else p15.1) fun b16 =>
  bif b16 then
    some ((.int .i64 (-1)), h0)
  else
    ldN 3 (.pointer (some ⟨h0.length, 0, none⟩)) p15.2 fun v17 =>
    cl (rc md 50 [v17] p15.2) fun v18 h19 =>
    cIn .i64 v18 fun n20 =>
    some ((.int .i64 (IntKind.wrap .i64 ((IntKind.wrap .i64 (n20 + (IntKind.wrap .i64 ((IntKind.wrap .i64 (a1 - 1)) * 7)))) + a2))), h0)
theorem F54_eq0 (rc : Rec) (md : Md) (a0_0 : Int) (a0_1 : Int) (a0_2 : Int) (a1 : Int) (a2 : Int) (h0 : Heap) : callStep0 Try.prog cfg rc md 54 [(.agg #[(.int .i64 a0_0), (.int .i64 a0_1), (.int .i64 a0_2)]), (.int .i64 a1), (.int .i64 a2)] h0 = F54 rc ⟨h0.length, h0.length⟩ a0_0 a0_1 a0_2 a1 a2 h0 := by kernel_rfl
theorem F54_eq (rc : Rec) (md : Md) (a0_0 : Int) (a0_1 : Int) (a0_2 : Int) (a1 : Int) (a2 : Int) (h0 : Heap) : callStep Try.prog cfg rc md 54 [(.agg #[(.int .i64 a0_0), (.int .i64 a0_1), (.int .i64 a0_2)]), (.int .i64 a1), (.int .i64 a2)] h0 = alone h0 (F54 rc ⟨0, 0⟩ a0_0 a0_1 a0_2 a1 a2 []) := by
  have e : callStep Try.prog cfg rc md 54 [(.agg #[(.int .i64 a0_0), (.int .i64 a0_1), (.int .i64 a0_2)]), (.int .i64 a1), (.int .i64 a2)] h0 = alone h0 (callStep0 Try.prog cfg rc ⟨0, 0⟩ 54 [(.agg #[(.int .i64 a0_0), (.int .i64 a0_1), (.int .i64 a0_2)]), (.int .i64 a1), (.int .i64 a2)] []) := by kernel_rfl
  rw [e, F54_eq0]; rfl

/-- (tombolo/lay.Lay).Free -/
noncomputable def F59 (rc : Rec) (md : Md) (a0_0 : Int) (a0_1 : Int) (a0_2 : Int) (h0 : Heap) : Option (Value × Heap) :=
  let h1 : Heap := h0 ++ [.own [(.int .i64 a0_0), (.int .i64 a0_1), (.int .i64 a0_2)]]
  ld1 (.pointer (some ⟨h0.length, 2, none⟩)) h1 fun v2 =>
  cIn .i64 v2 fun n3 =>
  some ((.int .i64 n3), h0)
theorem F59_eq0 (rc : Rec) (md : Md) (a0_0 : Int) (a0_1 : Int) (a0_2 : Int) (h0 : Heap) : callStep0 Try.prog cfg rc md 59 [(.agg #[(.int .i64 a0_0), (.int .i64 a0_1), (.int .i64 a0_2)])] h0 = F59 rc ⟨h0.length, h0.length⟩ a0_0 a0_1 a0_2 h0 := by kernel_rfl
theorem F59_eq (rc : Rec) (md : Md) (a0_0 : Int) (a0_1 : Int) (a0_2 : Int) (h0 : Heap) : callStep Try.prog cfg rc md 59 [(.agg #[(.int .i64 a0_0), (.int .i64 a0_1), (.int .i64 a0_2)])] h0 = alone h0 (F59 rc ⟨0, 0⟩ a0_0 a0_1 a0_2 []) := by
  have e : callStep Try.prog cfg rc md 59 [(.agg #[(.int .i64 a0_0), (.int .i64 a0_1), (.int .i64 a0_2)])] h0 = alone h0 (callStep0 Try.prog cfg rc ⟨0, 0⟩ 59 [(.agg #[(.int .i64 a0_0), (.int .i64 a0_1), (.int .i64 a0_2)])] []) := by kernel_rfl
  rw [e, F59_eq0]; rfl

/-- (tombolo/lay.Lay).edges -/
noncomputable def F60 (rc : Rec) (md : Md) (a0_0 : Int) (a0_1 : Int) (a0_2 : Int) (h0 : Heap) : Option (Value × Heap) :=
  let h1 : Heap := h0 ++ [.own [(.int .i64 a0_0), (.int .i64 a0_1), (.int .i64 a0_2)]]
  ldN 3 (.pointer (some ⟨h0.length, 0, none⟩)) h1 fun v2 =>
  cl (rc md 37 [v2] h1) fun v3 h4 =>
  cIn .i64 v3 fun n5 =>
  ld1 (.pointer (some ⟨h0.length, 0, none⟩)) h4 fun v6 =>
  cIn .i64 v6 fun n7 =>
  ldN 3 (.pointer (some ⟨h0.length, 0, none⟩)) h4 fun v8 =>
  cl (rc md 12 [v8] h4) fun v9 h10 =>
  cIn .i64 v9 fun n11 =>
  some ((.int .i64 (IntKind.wrap .i64 (n5 + (IntKind.wrap .i64 (n7 * n11))))), h0)
theorem F60_eq0 (rc : Rec) (md : Md) (a0_0 : Int) (a0_1 : Int) (a0_2 : Int) (h0 : Heap) : callStep0 Try.prog cfg rc md 60 [(.agg #[(.int .i64 a0_0), (.int .i64 a0_1), (.int .i64 a0_2)])] h0 = F60 rc ⟨h0.length, h0.length⟩ a0_0 a0_1 a0_2 h0 := by kernel_rfl
theorem F60_eq (rc : Rec) (md : Md) (a0_0 : Int) (a0_1 : Int) (a0_2 : Int) (h0 : Heap) : callStep Try.prog cfg rc md 60 [(.agg #[(.int .i64 a0_0), (.int .i64 a0_1), (.int .i64 a0_2)])] h0 = alone h0 (F60 rc ⟨0, 0⟩ a0_0 a0_1 a0_2 []) := by
  have e : callStep Try.prog cfg rc md 60 [(.agg #[(.int .i64 a0_0), (.int .i64 a0_1), (.int .i64 a0_2)])] h0 = alone h0 (callStep0 Try.prog cfg rc ⟨0, 0⟩ 60 [(.agg #[(.int .i64 a0_0), (.int .i64 a0_1), (.int .i64 a0_2)])] []) := by kernel_rfl
  rw [e, F60_eq0]; rfl

/-- (tombolo/ptr.Pen).Write -/
noncomputable def F67 (rc : Rec) (md : Md) (a0_0 : Int) (a0_1 : Int) (a1 : Value) (a2 : Int) (a3 : Int) (h0 : Heap) : Option (Value × Heap) :=
  let h1 : Heap := h0 ++ [.own [(.int .i64 a0_0), (.int .i64 a0_1)]]
  let h2 : Heap := h1 ++ [.own [(.int .i64 a3)]]
  cl (rc md 70 [a1, (.int .i64 a2), (.func (.func 71) #[] #[(.pointer (some ⟨h0.length, 0, none⟩)), (.pointer (some ⟨h1.length, 0, none⟩))])] h2) fun v3 h4 =>
  some ((.tuple #[]), List.take h0.length h4)
theorem F67_eq0 (rc : Rec) (md : Md) (a0_0 : Int) (a0_1 : Int) (a1 : Value) (a2 : Int) (a3 : Int) (h0 : Heap) : callStep0 Try.prog cfg rc md 67 [(.agg #[(.int .i64 a0_0), (.int .i64 a0_1)]), a1, (.int .i64 a2), (.int .i64 a3)] h0 = F67 rc ⟨md.ro, h0.length⟩ a0_0 a0_1 a1 a2 a3 h0 := by kernel_rfl
theorem F67_eq (rc : Rec) (md : Md) (a0_0 : Int) (a0_1 : Int) (a1 : Value) (a2 : Int) (a3 : Int) (h0 : Heap) : callStep Try.prog cfg rc md 67 [(.agg #[(.int .i64 a0_0), (.int .i64 a0_1)]), a1, (.int .i64 a2), (.int .i64 a3)] h0 = F67 rc ⟨md.ro, h0.length⟩ a0_0 a0_1 a1 a2 a3 h0 := (callStep_ne (by kernel_rfl)).trans (F67_eq0 rc md a0_0 a0_1 a1 a2 a3 h0)

/-- (tombolo/lay.Lay).Node -/
noncomputable def F68 (rc : Rec) (md : Md) (a0_0 : Int) (a0_1 : Int) (a0_2 : Int) (a1 : Int) (h0 : Heap) : Option (Value × Heap) :=
  let h1 : Heap := h0 ++ [.own [(.int .i64 a0_0), (.int .i64 a0_1), (.int .i64 a0_2)]]
  let h2 : Heap := h1 ++ [.own [(.bool false), (.int .i64 0), (.int .i64 0), (.int .i64 0), (.int .i64 0)]]
  ldN 3 (.pointer (some ⟨h0.length, 0, none⟩)) h2 fun v3 =>
  cl (rc md 27 [v3] h2) fun v4 h5 =>
  cIn .i64 v4 fun n6 =>
  cl (rc md 36 [(.int .i64 (IntKind.wrap .i64 (a1 - 1))), (.int .i64 n6)] h5) fun v7 h8 =>
  cBn v7 fun b9 =>
  bif !b9 then
    st md 5 (.pointer (some ⟨h1.length, 0, none⟩)) (.agg #[(.bool false), (.int .i64 0), (.int .i64 0), (.int .i64 0), (.int .i64 0)]) h8 fun h10 =>
    ldN 5 (.pointer (some ⟨h1.length, 0, none⟩)) h10 fun v11 =>
    fin2 h0 (.tuple #[v11, (.bool false)])
  else
    ldN 3 (.pointer (some ⟨h0.length, 0, none⟩)) h8 fun v12 =>
    cl (rc md 12 [v12] h8) fun v13 h14 =>
    cIn .i64 v13 fun n15 =>
    ld1 (.pointer (some ⟨h0.length, 0, none⟩)) h14 fun v16 =>
    cIn .i64 v16 fun n17 =>
    bif (decide ((IntKind.wrap .i64 (a1 - 1)) < (IntKind.wrap .i64 (n15 * n17)))) then
      ld1 (.pointer (some ⟨h0.length, 0, none⟩)) h14 fun v18 =>
      cIn .i64 v18 fun n19 =>
      divI .quo (IntKind.wrap .i64 (a1 - 1)) n19 .i64 fun v20 =>
      ld1 (.pointer (some ⟨h0.length, 0, none⟩)) h14 fun v21 =>
      cIn .i64 v21 fun n22 =>
      divI .rem (IntKind.wrap .i64 (a1 - 1)) n22 .i64 fun v23 =>
      aBuild Try.prog 102 [(1, v20), (2, v23)] fun v24 =>
      st md 5 (.pointer (some ⟨h1.length, 0, none⟩)) v24 h14 fun h25 =>
      ldN 5 (.pointer (some ⟨h1.length, 0, none⟩)) h25 fun v26 =>
      fin2 h0 (.tuple #[v26, (.bool true)])
    else
      ldN 3 (.pointer (some ⟨h0.length, 0, none⟩)) h14 fun v27 =>
      cl (rc md 51 [v27] h14) fun v28 h29 =>
      cIn .i64 v28 fun n30 =>
      divI .quo (IntKind.wrap .i64 ((IntKind.wrap .i64 (a1 - 1)) - (IntKind.wrap .i64 (n15 * n17)))) n30 .i64 fun v31 =>
      ldN 3 (.pointer (some ⟨h0.length, 0, none⟩)) h29 fun v32 =>
      cl (rc md 51 [v32] h29) fun v33 h34 =>
      cIn .i64 v33 fun n35 =>
      divI .rem (IntKind.wrap .i64 ((IntKind.wrap .i64 (a1 - 1)) - (IntKind.wrap .i64 (n15 * n17)))) n35 .i64 fun v36 =>
      aBin Try.prog .quo 3 v36 (.int .i64 2) fun v37 =>
      aBuild Try.prog 102 [(0, (.bool true)), (3, v31), (1, v37), (4, (.int .i64 (Int.tmod (IntKind.wrap .i64 ((IntKind.wrap .i64 (a1 - 1)) - (IntKind.wrap .i64 (n15 * n17)))) 2)))] fun v38 =>
      st md 5 (.pointer (some ⟨h1.length, 0, none⟩)) v38 h34 fun h39 =>
      ldN 5 (.pointer (some ⟨h1.length, 0, none⟩)) h39 fun v40 =>
      fin2 h0 (.tuple #[v40, (.bool true)])
theorem F68_eq0 (rc : Rec) (md : Md) (a0_0 : Int) (a0_1 : Int) (a0_2 : Int) (a1 : Int) (h0 : Heap) : callStep0 Try.prog cfg rc md 68 [(.agg #[(.int .i64 a0_0), (.int .i64 a0_1), (.int .i64 a0_2)]), (.int .i64 a1)] h0 = F68 rc ⟨h0.length, h0.length⟩ a0_0 a0_1 a0_2 a1 h0 := by kernel_rfl
theorem F68_eq (rc : Rec) (md : Md) (a0_0 : Int) (a0_1 : Int) (a0_2 : Int) (a1 : Int) (h0 : Heap) : callStep Try.prog cfg rc md 68 [(.agg #[(.int .i64 a0_0), (.int .i64 a0_1), (.int .i64 a0_2)]), (.int .i64 a1)] h0 = alone h0 (F68 rc ⟨0, 0⟩ a0_0 a0_1 a0_2 a1 []) := by
  have e : callStep Try.prog cfg rc md 68 [(.agg #[(.int .i64 a0_0), (.int .i64 a0_1), (.int .i64 a0_2)]), (.int .i64 a1)] h0 = alone h0 (callStep0 Try.prog cfg rc ⟨0, 0⟩ 68 [(.agg #[(.int .i64 a0_0), (.int .i64 a0_1), (.int .i64 a0_2)]), (.int .i64 a1)] []) := by kernel_rfl
  rw [e, F68_eq0]; rfl

/-- tombolo/ptr.change -/
noncomputable def F70 (rc : Rec) (md : Md) (a0 : Value) (a1 : Int) (a2 : Value) (h0 : Heap) : Option (Value × Heap) :=
  clI Try.prog rc md a0 "Load" [(.int .i64 a1)] h0 fun v1 h2 =>
  cIn .u64 v1 fun n3 =>
  cl (rc md 74 [(.int .u64 n3)] h2) fun v4 h5 =>
  exT v4 0 fun v6 =>
  exT v4 1 fun v7 =>
  cIn .i64 v7 fun n8 =>
  let h9 : Heap := h5 ++ [.own [(.int .i64 0), (.int .i64 0), (.int .i64 0), (.int .i64 0)]]
  st md 4 (.pointer (some ⟨h5.length, 0, none⟩)) v6 h9 fun h10 =>
  bif (n8 != 0) then
    some ((.tuple #[]), List.take h0.length h10)
  else
    ldN 4 (.pointer (some ⟨h5.length, 0, none⟩)) h10 fun v11 =>
    clV rc md a2 [v11] h10 fun v12 h13 =>
    cl (rc md 75 [v12] h13) fun v14 h15 =>
    exT v14 0 fun v16 =>
    cIn .u64 v16 fun n17 =>
    exT v14 1 fun v18 =>
    cIn .i64 v18 fun n19 =>
    bif (n19 == 0) then
      clI Try.prog rc md a0 "Store" [(.int .i64 a1), (.int .u64 n17)] h15 fun v20 h21 =>
      some ((.tuple #[]), List.take h0.length h21)
    else
      some ((.tuple #[]), List.take h0.length h15)
theorem F70_eq0 (rc : Rec) (md : Md) (a0 : Value) (a1 : Int) (a2 : Value) (h0 : Heap) : callStep0 Try.prog cfg rc md 70 [a0, (.int .i64 a1), a2] h0 = F70 rc ⟨md.ro, h0.length⟩ a0 a1 a2 h0 := by kernel_rfl
theorem F70_eq (rc : Rec) (md : Md) (a0 : Value) (a1 : Int) (a2 : Value) (h0 : Heap) : callStep Try.prog cfg rc md 70 [a0, (.int .i64 a1), a2] h0 = F70 rc ⟨md.ro, h0.length⟩ a0 a1 a2 h0 := (callStep_ne (by kernel_rfl)).trans (F70_eq0 rc md a0 a1 a2 h0)

/-- (tombolo/ptr.Pen).Write$1 -/
noncomputable def J71_0 (rc : Rec) (md : Md) (h0 : Heap) (s1 : Value) (s2 : Value) (s3 : Value) (s4 : Value) (h : Heap) : Option (Value × Heap) :=
  fA 0 s3 fun v1 =>
  ld1 v1 h fun v2 =>
  cIn .i64 v2 fun n3 =>
  ld1 s2 h fun v4 =>
  cIn .i64 v4 fun n5 =>
  fA 0 s1 fun v6 =>
  ld1 v6 h fun v7 =>
  cIn .i64 v7 fun n8 =>
  fA 1 s1 fun v9 =>
  ld1 v9 h fun v10 =>
  cIn .i64 v10 fun n11 =>
  st md 4 s4 (.agg #[(.int .i64 n3), (.int .i64 n5), (.int .i64 n8), (.int .i64 n11)]) h fun h12 =>
  ldN 4 s4 h12 fun v13 =>
  fin2 h0 v13
theorem J71_0_at (rc : Rec) (md : Md) (h0 : Heap) (t : T) (h : Heap) : cut Try.prog cfg rc md 28 (bodyOf Try.prog 71) [1, 1] (retK Try.prog cfg 71 (rsOf Try.prog 71) h0) t h = J71_0 rc md h0 (t 1) (t 2) (t 3) (t 4) h := by kernel_rfl
theorem J71_0_cut (rc : Rec) (md : Md) (h0 : Heap) : cut Try.prog cfg rc md 28 (bodyOf Try.prog 71) [1, 1] (retK Try.prog cfg 71 (rsOf Try.prog 71) h0) = fun t h => J71_0 rc md h0 (t 1) (t 2) (t 3) (t 4) h := funext fun t => funext fun h => J71_0_at rc md h0 t h
noncomputable def F71 (rc : Rec) (md : Md) (a0_0 : Int) (a0_1 : Int) (a0_2 : Int) (a0_3 : Int) (c0 : Value) (c1 : Value) (h0 : Heap) : Option (Value × Heap) :=
  let h1 : Heap := h0 ++ [.own [(.int .i64 a0_0), (.int .i64 a0_1), (.int .i64 a0_2), (.int .i64 a0_3)]]
  let h2 : Heap := h1 ++ [.own [(.int .i64 0), (.int .i64 0), (.int .i64 0), (.int .i64 0)]]
  ld1 (.pointer (some ⟨h0.length, 2, none⟩)) h2 fun v3 =>
  cIn .i64 v3 fun n4 =>
  fA 0 c0 fun v5 =>
  ld1 v5 h2 fun v6 =>
  cIn .i64 v6 fun n7 =>
  (bif wantV (.bool (n4 != n7)) false then
  some ((.pointer (some ⟨h0.length, 3, none⟩)), h2)
  else some (undef, h2)).bind fun p8 =>
  (bif wantV (.bool (n4 != n7)) false then
  ld1 p8.1 p8.2 fun v9 =>
  cIn .i64 v9 fun n10 =>
  some ((.int .i64 n10), p8.2)
  else some (undef, p8.2)).bind fun p11 =>
  (bif wantV (.bool (n4 != n7)) false then
  fA 1 c0 fun v12 =>
  some (v12, p11.2)
  else some (undef, p11.2)).bind fun p13 =>
  (bif wantV (.bool (n4 != n7)) false then
  ld1 p13.1 p13.2 fun v14 =>
  cIn .i64 v14 fun n15 =>
  some ((.int .i64 n15), p13.2)
  else some (undef, p13.2)).bind fun p16 =>
  (bif wantV (.bool (n4 != n7)) false then
  aBin Try.prog .neq 3 p11.1 p16.1 fun v17 =>
  some (v17, p16.2)
  else some (undef, p16.2)).bind fun p18 =>
  cBn (bif (n4 != n7) then (.bool true) else p18.1) fun b19 =>
  bif b19 then
    ld1 (.pointer (some ⟨h0.length, 1, none⟩)) p18.2 fun v20 =>
    cIn .i64 v20 fun n21 =>
    st md 1 (.pointer (some ⟨h0.length, 0, none⟩)) (.int .i64 n21) p18.2 fun h22 =>
    J71_0 rc md h0 c0 c1 (.pointer (some ⟨h0.length, 0, none⟩)) (.pointer (some ⟨h1.length, 0, none⟩)) h22
  else
    J71_0 rc md h0 c0 c1 (.pointer (some ⟨h0.length, 0, none⟩)) (.pointer (some ⟨h1.length, 0, none⟩)) p18.2
noncomputable def F71H (rc : Rec) (md : Md) (X0 : T → Heap → Option (Value × Heap)) (a0_0 : Int) (a0_1 : Int) (a0_2 : Int) (a0_3 : Int) (c0 : Value) (c1 : Value) (h0 : Heap) : Option (Value × Heap) :=
  let h1 : Heap := h0 ++ [.own [(.int .i64 a0_0), (.int .i64 a0_1), (.int .i64 a0_2), (.int .i64 a0_3)]]
  let h2 : Heap := h1 ++ [.own [(.int .i64 0), (.int .i64 0), (.int .i64 0), (.int .i64 0)]]
  ld1 (.pointer (some ⟨h0.length, 2, none⟩)) h2 fun v3 =>
  cIn .i64 v3 fun n4 =>
  fA 0 c0 fun v5 =>
  ld1 v5 h2 fun v6 =>
  cIn .i64 v6 fun n7 =>
  (bif wantV (.bool (n4 != n7)) false then
  some ((.pointer (some ⟨h0.length, 3, none⟩)), h2)
  else some (undef, h2)).bind fun p8 =>
  (bif wantV (.bool (n4 != n7)) false then
  ld1 p8.1 p8.2 fun v9 =>
  cIn .i64 v9 fun n10 =>
  some ((.int .i64 n10), p8.2)
  else some (undef, p8.2)).bind fun p11 =>
  (bif wantV (.bool (n4 != n7)) false then
  fA 1 c0 fun v12 =>
  some (v12, p11.2)
  else some (undef, p11.2)).bind fun p13 =>
  (bif wantV (.bool (n4 != n7)) false then
  ld1 p13.1 p13.2 fun v14 =>
  cIn .i64 v14 fun n15 =>
  some ((.int .i64 n15), p13.2)
  else some (undef, p13.2)).bind fun p16 =>
  (bif wantV (.bool (n4 != n7)) false then
  aBin Try.prog .neq 3 p11.1 p16.1 fun v17 =>
  some (v17, p16.2)
  else some (undef, p16.2)).bind fun p18 =>
  cBn (bif (n4 != n7) then (.bool true) else p18.1) fun b19 =>
  bif b19 then
    ld1 (.pointer (some ⟨h0.length, 1, none⟩)) p18.2 fun v20 =>
    cIn .i64 v20 fun n21 =>
    st md 1 (.pointer (some ⟨h0.length, 0, none⟩)) (.int .i64 n21) p18.2 fun h22 =>
    X0 (upd (upd (upd (upd (upd (upd (upd (upd (upd (upd (upd (upd (upd (upd (upd (upd (upd (args0 [(.agg #[(.int .i64 a0_0), (.int .i64 a0_1), (.int .i64 a0_2), (.int .i64 a0_3)]), c0, c1]) 3 (.pointer (some ⟨h0.length, 0, none⟩))) 4 (.pointer (some ⟨h1.length, 0, none⟩))) 5 (.pointer (some ⟨h0.length, 2, none⟩))) 6 (.int .i64 n4)) 7 v5) 8 (.int .i64 n7)) 9 (.bool (n4 != n7))) 10 (.bool (n4 != n7))) 11 p8.1) 12 p11.1) 13 p13.1) 14 p16.1) 15 p18.1) 16 (.bool b19)) 17 (.pointer (some ⟨h0.length, 1, none⟩))) 18 (.int .i64 n21)) 19 (.pointer (some ⟨h0.length, 0, none⟩))) h22
  else
    X0 (upd (upd (upd (upd (upd (upd (upd (upd (upd (upd (upd (upd (upd (upd (args0 [(.agg #[(.int .i64 a0_0), (.int .i64 a0_1), (.int .i64 a0_2), (.int .i64 a0_3)]), c0, c1]) 3 (.pointer (some ⟨h0.length, 0, none⟩))) 4 (.pointer (some ⟨h1.length, 0, none⟩))) 5 (.pointer (some ⟨h0.length, 2, none⟩))) 6 (.int .i64 n4)) 7 v5) 8 (.int .i64 n7)) 9 (.bool (n4 != n7))) 10 (.bool (n4 != n7))) 11 p8.1) 12 p11.1) 13 p13.1) 14 p16.1) 15 p18.1) 16 (.bool b19)) p18.2
theorem F71_h0 (rc : Rec) (md : Md) (a0_0 : Int) (a0_1 : Int) (a0_2 : Int) (a0_3 : Int) (c0 : Value) (c1 : Value) (h0 : Heap) : callStep0 Try.prog cfg rc md 71 [(.agg #[(.int .i64 a0_0), (.int .i64 a0_1), (.int .i64 a0_2), (.int .i64 a0_3)]), c0, c1] h0 = exec Try.prog cfg rc ⟨h0.length, h0.length⟩ 28 (bodyOf Try.prog 71) (retK Try.prog cfg 71 (rsOf Try.prog 71) h0) (args0 [(.agg #[(.int .i64 a0_0), (.int .i64 a0_1), (.int .i64 a0_2), (.int .i64 a0_3)]), c0, c1]) h0 := callStep0_run (by kernel_rfl) (by kernel_rfl) (by kernel_rfl)
theorem F71_h1 (rc : Rec) (md : Md) (X : Nat → T → Heap → Option (Value × Heap)) (a0_0 : Int) (a0_1 : Int) (a0_2 : Int) (a0_3 : Int) (c0 : Value) (c1 : Value) (h0 : Heap) : execG Try.prog cfg X rc md 28 (replS (bodyOf Try.prog 71) [([1, 1], 0)]) (retK Try.prog cfg 71 (rsOf Try.prog 71) h0) (args0 [(.agg #[(.int .i64 a0_0), (.int .i64 a0_1), (.int .i64 a0_2), (.int .i64 a0_3)]), c0, c1]) h0 = F71H rc md (X 0) a0_0 a0_1 a0_2 a0_3 c0 c1 h0 := by kernel_rfl
theorem F71_h2 (rc : Rec) (md : Md) (a0_0 : Int) (a0_1 : Int) (a0_2 : Int) (a0_3 : Int) (c0 : Value) (c1 : Value) (h0 : Heap) : F71H rc md (fun t h => J71_0 rc md h0 (t 1) (t 2) (t 3) (t 4) h) a0_0 a0_1 a0_2 a0_3 c0 c1 h0 = F71 rc md a0_0 a0_1 a0_2 a0_3 c0 c1 h0 := by unfold F71H F71; kernel_rfl
theorem F71_eq0 (rc : Rec) (md : Md) (a0_0 : Int) (a0_1 : Int) (a0_2 : Int) (a0_3 : Int) (c0 : Value) (c1 : Value) (h0 : Heap) : callStep0 Try.prog cfg rc md 71 [(.agg #[(.int .i64 a0_0), (.int .i64 a0_1), (.int .i64 a0_2), (.int .i64 a0_3)]), c0, c1] h0 = F71 rc ⟨h0.length, h0.length⟩ a0_0 a0_1 a0_2 a0_3 c0 c1 h0 := by
  rw [F71_h0, exec_holes [([1, 1], 0)] (by kernel_rfl), F71_h1, show (goX Try.prog cfg rc ⟨h0.length, h0.length⟩ 28 (bodyOf Try.prog 71) [([1, 1], 0)] (retK Try.prog cfg 71 (rsOf Try.prog 71) h0)) 0 = _ from J71_0_cut rc ⟨h0.length, h0.length⟩ h0]
  exact F71_h2 rc _ a0_0 a0_1 a0_2 a0_3 c0 c1 h0
theorem F71_eq (rc : Rec) (md : Md) (a0_0 : Int) (a0_1 : Int) (a0_2 : Int) (a0_3 : Int) (c0 : Value) (c1 : Value) (h0 : Heap) : callStep Try.prog cfg rc md 71 [(.agg #[(.int .i64 a0_0), (.int .i64 a0_1), (.int .i64 a0_2), (.int .i64 a0_3)]), c0, c1] h0 = F71 rc ⟨h0.length, h0.length⟩ a0_0 a0_1 a0_2 a0_3 c0 c1 h0 := (callStep_ne (by kernel_rfl)).trans (F71_eq0 rc md a0_0 a0_1 a0_2 a0_3 c0 c1 h0)

/-- tombolo/word.Unpack -/
noncomputable def F74 (rc : Rec) (md : Md) (a0 : Int) (h0 : Heap) : Option (Value × Heap) :=
  let h1 : Heap := h0 ++ [.own [(.int .i64 0), (.int .i64 0), (.int .i64 0), (.int .i64 0)]]
  cl (rc md 79 [(.int .u64 a0), (.int .i64 0), (.int .i64 16)] h1) fun v2 h3 =>
  cIn .i64 v2 fun n4 =>
  cl (rc md 79 [(.int .u64 a0), (.int .i64 16), (.int .i64 16)] h3) fun v5 h6 =>
  cIn .i64 v5 fun n7 =>
  cl (rc md 79 [(.int .u64 a0), (.int .i64 32), (.int .i64 8)] h6) fun v8 h9 =>
  cIn .i64 v8 fun n10 =>
  let h11 : Heap := h9 ++ [.own [(.int .i64 0), (.int .i64 0), (.int .i64 0), (.int .i64 0)]]
  st md 4 (.pointer (some ⟨h9.length, 0, none⟩)) (.agg #[(.int .i64 n7), (.int .i64 n4), (.int .i64 n10), (.int .i64 (IntKind.wrap .i64 (Int.fdiv a0 (2 ^ 40))))]) h11 fun h12 =>
  ldN 4 (.pointer (some ⟨h9.length, 0, none⟩)) h12 fun v13 =>
  cl (rc md 80 [v13] h12) fun v14 h15 =>
  cBn v14 fun b16 =>
  bif !b16 then
    st md 4 (.pointer (some ⟨h0.length, 0, none⟩)) (.agg #[(.int .i64 0), (.int .i64 0), (.int .i64 0), (.int .i64 0)]) h15 fun h17 =>
    ldN 4 (.pointer (some ⟨h0.length, 0, none⟩)) h17 fun v18 =>
    fin2 h0 (.tuple #[v18, (.int .i64 21)])
  else
    ldN 4 (.pointer (some ⟨h9.length, 0, none⟩)) h15 fun v19 =>
    st md 4 (.pointer (some ⟨h0.length, 0, none⟩)) v19 h15 fun h20 =>
    ldN 4 (.pointer (some ⟨h0.length, 0, none⟩)) h20 fun v21 =>
    fin2 h0 (.tuple #[v21, (.int .i64 0)])
theorem F74_eq0 (rc : Rec) (md : Md) (a0 : Int) (h0 : Heap) : callStep0 Try.prog cfg rc md 74 [(.int .u64 a0)] h0 = F74 rc ⟨h0.length, h0.length⟩ a0 h0 := by kernel_rfl
theorem F74_eq (rc : Rec) (md : Md) (a0 : Int) (h0 : Heap) : callStep Try.prog cfg rc md 74 [(.int .u64 a0)] h0 = alone h0 (F74 rc ⟨0, 0⟩ a0 []) := by
  have e : callStep Try.prog cfg rc md 74 [(.int .u64 a0)] h0 = alone h0 (callStep0 Try.prog cfg rc ⟨0, 0⟩ 74 [(.int .u64 a0)] []) := by kernel_rfl
  rw [e, F74_eq0]; rfl

/-- tombolo/word.Pack -/
noncomputable def F75 (rc : Rec) (md : Md) (a0_0 : Int) (a0_1 : Int) (a0_2 : Int) (a0_3 : Int) (h0 : Heap) : Option (Value × Heap) :=
  let h1 : Heap := h0 ++ [.own [(.int .i64 a0_0), (.int .i64 a0_1), (.int .i64 a0_2), (.int .i64 a0_3)]]
  ldN 4 (.pointer (some ⟨h0.length, 0, none⟩)) h1 fun v2 =>
  cl (rc md 80 [v2] h1) fun v3 h4 =>
  cBn v3 fun b5 =>
  bif !b5 then
    some ((.tuple #[(.int .u64 0), (.int .i64 11)]), h0)
  else
    ld1 (.pointer (some ⟨h0.length, 1, none⟩)) h4 fun v6 =>
    cIn .i64 v6 fun n7 =>
    ld1 (.pointer (some ⟨h0.length, 0, none⟩)) h4 fun v8 =>
    cIn .i64 v8 fun n9 =>
    ld1 (.pointer (some ⟨h0.length, 2, none⟩)) h4 fun v10 =>
    cIn .i64 v10 fun n11 =>
    ld1 (.pointer (some ⟨h0.length, 3, none⟩)) h4 fun v12 =>
    cIn .i64 v12 fun n13 =>
    some ((.tuple #[(.int .u64 (bOr .u64 (bOr .u64 (bOr .u64 (IntKind.wrap .u64 n7) (IntKind.wrap .u64 ((IntKind.wrap .u64 n9) * 2 ^ 16))) (IntKind.wrap .u64 ((IntKind.wrap .u64 n11) * 2 ^ 32))) (IntKind.wrap .u64 ((IntKind.wrap .u64 n13) * 2 ^ 40)))), (.int .i64 0)]), h0)
theorem F75_eq0 (rc : Rec) (md : Md) (a0_0 : Int) (a0_1 : Int) (a0_2 : Int) (a0_3 : Int) (h0 : Heap) : callStep0 Try.prog cfg rc md 75 [(.agg #[(.int .i64 a0_0), (.int .i64 a0_1), (.int .i64 a0_2), (.int .i64 a0_3)])] h0 = F75 rc ⟨h0.length, h0.length⟩ a0_0 a0_1 a0_2 a0_3 h0 := by kernel_rfl
theorem F75_eq (rc : Rec) (md : Md) (a0_0 : Int) (a0_1 : Int) (a0_2 : Int) (a0_3 : Int) (h0 : Heap) : callStep Try.prog cfg rc md 75 [(.agg #[(.int .i64 a0_0), (.int .i64 a0_1), (.int .i64 a0_2), (.int .i64 a0_3)])] h0 = alone h0 (F75 rc ⟨0, 0⟩ a0_0 a0_1 a0_2 a0_3 []) := by
  have e : callStep Try.prog cfg rc md 75 [(.agg #[(.int .i64 a0_0), (.int .i64 a0_1), (.int .i64 a0_2), (.int .i64 a0_3)])] h0 = alone h0 (callStep0 Try.prog cfg rc ⟨0, 0⟩ 75 [(.agg #[(.int .i64 a0_0), (.int .i64 a0_1), (.int .i64 a0_2), (.int .i64 a0_3)])] []) := by kernel_rfl
  rw [e, F75_eq0]; rfl

/-- tombolo/ptr.New -/
noncomputable def F78 (rc : Rec) (md : Md) (a0 : Value) (a1 : Int) (h0 : Heap) : Option (Value × Heap) :=
  clI Try.prog rc md a0 "Load" [(.int .i64 a1)] h0 fun v1 h2 =>
  cIn .u64 v1 fun n3 =>
  cl (rc md 74 [(.int .u64 n3)] h2) fun v4 h5 =>
  exT v4 0 fun v6 =>
  exT v4 1 fun v7 =>
  cIn .i64 v7 fun n8 =>
  let h9 : Heap := h5 ++ [.own [(.int .i64 0), (.int .i64 0), (.int .i64 0), (.int .i64 0)]]
  st md 4 (.pointer (some ⟨h5.length, 0, none⟩)) v6 h9 fun h10 =>
  ld1 (.pointer (some ⟨h5.length, 1, none⟩)) h10 fun v11 =>
  cIn .i64 v11 fun n12 =>
  some ((.int .i64 n12), List.take h0.length h10)
theorem F78_eq0 (rc : Rec) (md : Md) (a0 : Value) (a1 : Int) (h0 : Heap) : callStep0 Try.prog cfg rc md 78 [a0, (.int .i64 a1)] h0 = F78 rc ⟨md.ro, h0.length⟩ a0 a1 h0 := by kernel_rfl
theorem F78_eq (rc : Rec) (md : Md) (a0 : Value) (a1 : Int) (h0 : Heap) : callStep Try.prog cfg rc md 78 [a0, (.int .i64 a1)] h0 = F78 rc ⟨md.ro, h0.length⟩ a0 a1 h0 := (callStep_ne (by kernel_rfl)).trans (F78_eq0 rc md a0 a1 h0)

/-- tombolo/word.bits -/
noncomputable def F79 (rc : Rec) (md : Md) (a0 : Int) (a1 : Int) (a2 : Int) (h0 : Heap) : Option (Value × Heap) :=
  shI .shr a0 a1 .u64 fun v1 =>
  shI .shl 1 a2 .u64 fun v3 =>
  aBin Try.prog .sub 51 v3 (.int .u64 1) fun v5 =>
  aBin Try.prog .and 51 v1 v5 fun v6 =>
  aConv Try.prog 51 3 v6 fun v7 =>
  fin2 h0 v7
theorem F79_eq0 (rc : Rec) (md : Md) (a0 : Int) (a1 : Int) (a2 : Int) (h0 : Heap) : callStep0 Try.prog cfg rc md 79 [(.int .u64 a0), (.int .i64 a1), (.int .i64 a2)] h0 = F79 rc ⟨h0.length, h0.length⟩ a0 a1 a2 h0 := by kernel_rfl
theorem F79_eq (rc : Rec) (md : Md) (a0 : Int) (a1 : Int) (a2 : Int) (h0 : Heap) : callStep Try.prog cfg rc md 79 [(.int .u64 a0), (.int .i64 a1), (.int .i64 a2)] h0 = alone h0 (F79 rc ⟨0, 0⟩ a0 a1 a2 []) := by
  have e : callStep Try.prog cfg rc md 79 [(.int .u64 a0), (.int .i64 a1), (.int .i64 a2)] h0 = alone h0 (callStep0 Try.prog cfg rc ⟨0, 0⟩ 79 [(.int .u64 a0), (.int .i64 a1), (.int .i64 a2)] []) := by kernel_rfl
  rw [e, F79_eq0]; rfl

/-- (tombolo/word.Word).Right -/
noncomputable def F80 (rc : Rec) (md : Md) (a0_0 : Int) (a0_1 : Int) (a0_2 : Int) (a0_3 : Int) (h0 : Heap) : Option (Value × Heap) :=
  let h1 : Heap := h0 ++ [.own [(.int .i64 a0_0), (.int .i64 a0_1), (.int .i64 a0_2), (.int .i64 a0_3)]]
  ld1 (.pointer (some ⟨h0.length, 0, none⟩)) h1 fun v2 =>
  cIn .i64 v2 fun n3 =>
  cl (rc md 81 [(.int .i64 n3), (.int .i64 65535)] h1) fun v4 h5 =>
  cBn v4 fun b6 =>
  (bif wantV (.bool (!b6)) false then
  some ((.pointer (some ⟨h0.length, 1, none⟩)), h5)
  else some (undef, h5)).bind fun p7 =>
  (bif wantV (.bool (!b6)) false then
  ld1 p7.1 p7.2 fun v8 =>
  cIn .i64 v8 fun n9 =>
  some ((.int .i64 n9), p7.2)
  else some (undef, p7.2)).bind fun p10 =>
  (bif wantV (.bool (!b6)) false then
  cl (rc md 81 [p10.1, (.int .i64 65535)] p10.2) fun v11 h12 =>
  cBn v11 fun b13 =>
  some ((.bool b13), h12)
  else some (undef, p10.2)).bind fun p14 =>
  (bif wantV (.bool (!b6)) false then
  aUn .not p14.1 fun v15 =>
  some (v15, p14.2)
  else some (undef, p14.2)).bind fun p16 =>
  cBn (bif !b6 then (.bool true) else p16.1) fun b17 =>
  (bif wantV (.bool b17) false then
  some ((.pointer (some ⟨h0.length, 2, none⟩)), p16.2)
  else some (undef, p16.2)).bind fun p18 =>
  (bif wantV (.bool b17) false then
  ld1 p18.1 p18.2 fun v19 =>
  cIn .i64 v19 fun n20 =>
  some ((.int .i64 n20), p18.2)
  else some (undef, p18.2)).bind fun p21 =>
  (bif wantV (.bool b17) false then
  cl (rc md 81 [p21.1, (.int .i64 8)] p21.2) fun v22 h23 =>
  cBn v22 fun b24 =>
  some ((.bool b24), h23)
  else some (undef, p21.2)).bind fun p25 =>
  (bif wantV (.bool b17) false then
  aUn .not p25.1 fun v26 =>
  some (v26, p25.2)
  else some (undef, p25.2)).bind fun p27 =>
  cBn (bif b17 then (.bool true) else p27.1) fun b28 =>
  (bif wantV (.bool b28) false then
  some ((.pointer (some ⟨h0.length, 3, none⟩)), p27.2)
  else some (undef, p27.2)).bind fun p29 =>
  (bif wantV (.bool b28) false then
  ld1 p29.1 p29.2 fun v30 =>
  cIn .i64 v30 fun n31 =>
  some ((.int .i64 n31), p29.2)
  else some (undef, p29.2)).bind fun p32 =>
  (bif wantV (.bool b28) false then
  cl (rc md 81 [p32.1, (.int .i64 16777215)] p32.2) fun v33 h34 =>
  cBn v33 fun b35 =>
  some ((.bool b35), h34)
  else some (undef, p32.2)).bind fun p36 =>
  (bif wantV (.bool b28) false then
  aUn .not p36.1 fun v37 =>
  some (v37, p36.2)
  else some (undef, p36.2)).bind fun p38 =>
  cBn (bif b28 then (.bool true) else p38.1) fun b39 =>
  bif b39 then
    some ((.bool false), h0)
  else
    ldN 4 (.pointer (some ⟨h0.length, 0, none⟩)) p38.2 fun v40 =>
    cl (rc md 82 [v40] p38.2) fun v41 h42 =>
    cBn v41 fun b43 =>
    (bif wantV (.bool (!b43)) false then
    some ((.pointer (some ⟨h0.length, 0, none⟩)), h42)
    else some (undef, h42)).bind fun p44 =>
    (bif wantV (.bool (!b43)) false then
    ld1 p44.1 p44.2 fun v45 =>
    cIn .i64 v45 fun n46 =>
    some ((.int .i64 n46), p44.2)
    else some (undef, p44.2)).bind fun p47 =>
    (bif wantV (.bool (!b43)) false then
    some ((.pointer (some ⟨h0.length, 1, none⟩)), p47.2)
    else some (undef, p47.2)).bind fun p48 =>
    (bif wantV (.bool (!b43)) false then
    ld1 p48.1 p48.2 fun v49 =>
    cIn .i64 v49 fun n50 =>
    some ((.int .i64 n50), p48.2)
    else some (undef, p48.2)).bind fun p51 =>
    (bif wantV (.bool (!b43)) false then
    aBin Try.prog .eql 3 p47.1 p51.1 fun v52 =>
    some (v52, p51.2)
    else some (undef, p51.2)).bind fun p53 =>
    (bif wantV (.bool (!b43)) false then
    some (p53.1, p53.2)
    else some (undef, p53.2)).bind fun p54 =>
    (bif wantV p54.1 true then
    some ((.pointer (some ⟨h0.length, 3, none⟩)), p54.2)
    else some (undef, p54.2)).bind fun p55 =>
    (bif wantV p54.1 true then
    ld1 p55.1 p55.2 fun v56 =>
    cIn .i64 v56 fun n57 =>
    some ((.int .i64 n57), p55.2)
    else some (undef, p55.2)).bind fun p58 =>
    (bif wantV p54.1 true then
    aBin Try.prog .eql 3 p58.1 (.int .i64 0) fun v59 =>
    some (v59, p58.2)
    else some (undef, p58.2)).bind fun p60 =>
    (bif wantV (.bool (!b43)) false then
    cBn p54.1 fun q61 =>
    cBn (bif q61 then p60.1 else (.bool false)) fun b62 =>
    some ((.bool b62), p60.2)
    else some (undef, p60.2)).bind fun p63 =>
    cBn (bif !b43 then (.bool true) else p63.1) fun b64 =>
    some ((.bool b64), h0)
theorem F80_eq0 (rc : Rec) (md : Md) (a0_0 : Int) (a0_1 : Int) (a0_2 : Int) (a0_3 : Int) (h0 : Heap) : callStep0 Try.prog cfg rc md 80 [(.agg #[(.int .i64 a0_0), (.int .i64 a0_1), (.int .i64 a0_2), (.int .i64 a0_3)])] h0 = F80 rc ⟨h0.length, h0.length⟩ a0_0 a0_1 a0_2 a0_3 h0 := by kernel_rfl
theorem F80_eq (rc : Rec) (md : Md) (a0_0 : Int) (a0_1 : Int) (a0_2 : Int) (a0_3 : Int) (h0 : Heap) : callStep Try.prog cfg rc md 80 [(.agg #[(.int .i64 a0_0), (.int .i64 a0_1), (.int .i64 a0_2), (.int .i64 a0_3)])] h0 = alone h0 (F80 rc ⟨0, 0⟩ a0_0 a0_1 a0_2 a0_3 []) := by
  have e : callStep Try.prog cfg rc md 80 [(.agg #[(.int .i64 a0_0), (.int .i64 a0_1), (.int .i64 a0_2), (.int .i64 a0_3)])] h0 = alone h0 (callStep0 Try.prog cfg rc ⟨0, 0⟩ 80 [(.agg #[(.int .i64 a0_0), (.int .i64 a0_1), (.int .i64 a0_2), (.int .i64 a0_3)])] []) := by kernel_rfl
  rw [e, F80_eq0]; rfl

/-- tombolo/word.within -/
noncomputable def F81 (rc : Rec) (md : Md) (a0 : Int) (a1 : Int) (h0 : Heap) : Option (Value × Heap) :=
  (bif wantV (.bool (decide (a0 ≥ 0))) true then
  some ((.int .i64 a0), h0)
  else some (undef, h0)).bind fun p1 =>
  (bif wantV (.bool (decide (a0 ≥ 0))) true then
  some ((.int .i64 a1), p1.2)
  else some (undef, p1.2)).bind fun p2 =>
  (bif wantV (.bool (decide (a0 ≥ 0))) true then
  aBin Try.prog .leq 3 p1.1 p2.1 fun v3 =>
  some (v3, p2.2)
  else some (undef, p2.2)).bind fun p4 =>
  cBn (bif (decide (a0 ≥ 0)) then p4.1 else (.bool false)) fun b5 =>
  some ((.bool b5), h0)
theorem F81_eq0 (rc : Rec) (md : Md) (a0 : Int) (a1 : Int) (h0 : Heap) : callStep0 Try.prog cfg rc md 81 [(.int .i64 a0), (.int .i64 a1)] h0 = F81 rc ⟨h0.length, h0.length⟩ a0 a1 h0 := by kernel_rfl
theorem F81_eq (rc : Rec) (md : Md) (a0 : Int) (a1 : Int) (h0 : Heap) : callStep Try.prog cfg rc md 81 [(.int .i64 a0), (.int .i64 a1)] h0 = alone h0 (F81 rc ⟨0, 0⟩ a0 a1 []) := by
  have e : callStep Try.prog cfg rc md 81 [(.int .i64 a0), (.int .i64 a1)] h0 = alone h0 (callStep0 Try.prog cfg rc ⟨0, 0⟩ 81 [(.int .i64 a0), (.int .i64 a1)] []) := by kernel_rfl
  rw [e, F81_eq0]; rfl

/-- (tombolo/word.Word).Plain -/
noncomputable def F82 (rc : Rec) (md : Md) (a0_0 : Int) (a0_1 : Int) (a0_2 : Int) (a0_3 : Int) (h0 : Heap) : Option (Value × Heap) :=
  let h1 : Heap := h0 ++ [.own [(.int .i64 a0_0), (.int .i64 a0_1), (.int .i64 a0_2), (.int .i64 a0_3)]]
  ld1 (.pointer (some ⟨h0.length, 2, none⟩)) h1 fun v2 =>
  cIn .i64 v2 fun n3 =>
  some ((.bool (n3 == 0)), h0)
theorem F82_eq0 (rc : Rec) (md : Md) (a0_0 : Int) (a0_1 : Int) (a0_2 : Int) (a0_3 : Int) (h0 : Heap) : callStep0 Try.prog cfg rc md 82 [(.agg #[(.int .i64 a0_0), (.int .i64 a0_1), (.int .i64 a0_2), (.int .i64 a0_3)])] h0 = F82 rc ⟨h0.length, h0.length⟩ a0_0 a0_1 a0_2 a0_3 h0 := by kernel_rfl
theorem F82_eq (rc : Rec) (md : Md) (a0_0 : Int) (a0_1 : Int) (a0_2 : Int) (a0_3 : Int) (h0 : Heap) : callStep Try.prog cfg rc md 82 [(.agg #[(.int .i64 a0_0), (.int .i64 a0_1), (.int .i64 a0_2), (.int .i64 a0_3)])] h0 = alone h0 (F82 rc ⟨0, 0⟩ a0_0 a0_1 a0_2 a0_3 []) := by
  have e : callStep Try.prog cfg rc md 82 [(.agg #[(.int .i64 a0_0), (.int .i64 a0_1), (.int .i64 a0_2), (.int .i64 a0_3)])] h0 = alone h0 (callStep0 Try.prog cfg rc ⟨0, 0⟩ 82 [(.agg #[(.int .i64 a0_0), (.int .i64 a0_1), (.int .i64 a0_2), (.int .i64 a0_3)])] []) := by kernel_rfl
  rw [e, F82_eq0]; rfl

/-- (*tombolo/cell.Arena).Load -/
noncomputable def F101 (rc : Rec) (md : Md) (a0 : Value) (a1 : Int) (h0 : Heap) : Option (Value × Heap) :=
  bif okNil Try.prog a0 then
  fA 1 a0 fun v1 =>
  fA 0 v1 fun v2 =>
  cl (rc md 103 [a0, (.int .i64 a1), v2] h0) fun v3 h4 =>
  aBin Try.prog .eql 134 v3 (.pointer none) fun v5 =>
  cBn v5 fun b6 =>
  bif b6 then
    some ((.tuple #[(.int .u64 0), (.int .i64 20)]), List.take h0.length h4)
  else
    bif okNil Try.prog v3 then
    ld1 v3 h4 fun v7 =>
    cIn .u64 v7 fun n8 =>
    some ((.tuple #[(.int .u64 n8), (.int .i64 0)]), List.take h0.length h4)
    else none
  else none
theorem F101_eq0 (rc : Rec) (md : Md) (a0 : Value) (a1 : Int) (h0 : Heap) : callStep0 Try.prog cfg rc md 101 [a0, (.int .i64 a1)] h0 = F101 rc ⟨md.ro, h0.length⟩ a0 a1 h0 := by kernel_rfl
theorem F101_eq (rc : Rec) (md : Md) (a0 : Value) (a1 : Int) (h0 : Heap) : callStep Try.prog cfg rc md 101 [a0, (.int .i64 a1)] h0 = F101 rc ⟨md.ro, h0.length⟩ a0 a1 h0 := (callStep_ne (by kernel_rfl)).trans (F101_eq0 rc md a0 a1 h0)

/-- (*tombolo/cell.Arena).Store -/
noncomputable def F102 (rc : Rec) (md : Md) (a0 : Value) (a1 : Int) (a2 : Int) (h0 : Heap) : Option (Value × Heap) :=
  bif okNil Try.prog a0 then
  fA 1 a0 fun v1 =>
  fA 1 v1 fun v2 =>
  cl (rc md 103 [a0, (.int .i64 a1), v2] h0) fun v3 h4 =>
  aBin Try.prog .eql 134 v3 (.pointer none) fun v5 =>
  cBn v5 fun b6 =>
  bif b6 then
    some ((.int .i64 20), List.take h0.length h4)
  else
    bif okNil Try.prog v3 then
    st md 1 v3 (.int .u64 a2) h4 fun h7 =>
    some ((.int .i64 0), List.take h0.length h7)
    else none
  else none
theorem F102_eq0 (rc : Rec) (md : Md) (a0 : Value) (a1 : Int) (a2 : Int) (h0 : Heap) : callStep0 Try.prog cfg rc md 102 [a0, (.int .i64 a1), (.int .u64 a2)] h0 = F102 rc ⟨md.ro, h0.length⟩ a0 a1 a2 h0 := by kernel_rfl
theorem F102_eq (rc : Rec) (md : Md) (a0 : Value) (a1 : Int) (a2 : Int) (h0 : Heap) : callStep Try.prog cfg rc md 102 [a0, (.int .i64 a1), (.int .u64 a2)] h0 = F102 rc ⟨md.ro, h0.length⟩ a0 a1 a2 h0 := (callStep_ne (by kernel_rfl)).trans (F102_eq0 rc md a0 a1 a2 h0)

/-- (*tombolo/cell.Arena).at -/
noncomputable def F103 (rc : Rec) (md : Md) (a0 : Value) (a1 : Int) (a2 : Value) (h0 : Heap) : Option (Value × Heap) :=
  (bif wantV (.bool (decide (a1 < 0))) false then
  some ((.int .i64 a1), h0)
  else some (undef, h0)).bind fun p1 =>
  (bif wantV (.bool (decide (a1 < 0))) false then
  some (a0, p1.2)
  else some (undef, p1.2)).bind fun p2 =>
  (bif wantV (.bool (decide (a1 < 0))) false then
  bif okNil Try.prog p2.1 then
  some (p2.1, p2.2)
  else none
  else some (undef, p2.2)).bind fun p3 =>
  (bif wantV (.bool (decide (a1 < 0))) false then
  fA 0 p3.1 fun v4 =>
  some (v4, p3.2)
  else some (undef, p3.2)).bind fun p5 =>
  (bif wantV (.bool (decide (a1 < 0))) false then
  ld1 p5.1 p5.2 fun v6 =>
  some (v6, p5.2)
  else some (undef, p5.2)).bind fun p7 =>
  (bif wantV (.bool (decide (a1 < 0))) false then
  lenS p7.1 fun v8 =>
  cIn .i64 v8 fun n9 =>
  some ((.int .i64 n9), p7.2)
  else some (undef, p7.2)).bind fun p10 =>
  (bif wantV (.bool (decide (a1 < 0))) false then
  aBin Try.prog .geq 3 p1.1 p10.1 fun v11 =>
  some (v11, p10.2)
  else some (undef, p10.2)).bind fun p12 =>
  cBn (bif (decide (a1 < 0)) then (.bool true) else p12.1) fun b13 =>
  bif b13 then
    some ((.pointer none), List.take h0.length p12.2)
  else
    bif okNil Try.prog a2 then
    ld1 a2 p12.2 fun v14 =>
    cIn .i64 v14 fun n15 =>
    bif okNil Try.prog a2 then
    st md 1 a2 (.int .i64 (IntKind.wrap .i64 (n15 + 1))) p12.2 fun h16 =>
    bif okNil Try.prog a0 then
    fA 0 a0 fun v17 =>
    ld1 v17 h16 fun v18 =>
    ixS 1 v18 a1 fun v19 =>
    fin1 h0 v19 h16
    else none
    else none
    else none
theorem F103_eq0 (rc : Rec) (md : Md) (a0 : Value) (a1 : Int) (a2 : Value) (h0 : Heap) : callStep0 Try.prog cfg rc md 103 [a0, (.int .i64 a1), a2] h0 = F103 rc ⟨md.ro, h0.length⟩ a0 a1 a2 h0 := by kernel_rfl
theorem F103_eq (rc : Rec) (md : Md) (a0 : Value) (a1 : Int) (a2 : Value) (h0 : Heap) : callStep Try.prog cfg rc md 103 [a0, (.int .i64 a1), a2] h0 = F103 rc ⟨md.ro, h0.length⟩ a0 a1 a2 h0 := (callStep_ne (by kernel_rfl)).trans (F103_eq0 rc md a0 a1 a2 h0)

/-- (tombolo/mem.Plain).Load -/
noncomputable def F104 (rc : Rec) (md : Md) (a0_0 : Value) (a1 : Int) (h0 : Heap) : Option (Value × Heap) :=
  let h1 : Heap := h0 ++ [.own [a0_0]]
  ld1 (.pointer (some ⟨h0.length, 0, none⟩)) h1 fun v2 =>
  cl (rc md 101 [v2, (.int .i64 a1)] h1) fun v3 h4 =>
  exT v3 0 fun v5 =>
  cIn .u64 v5 fun n6 =>
  exT v3 1 fun v7 =>
  cIn .i64 v7 fun n8 =>
  some ((.int .u64 n6), List.take h0.length h4)
theorem F104_eq0 (rc : Rec) (md : Md) (a0_0 : Value) (a1 : Int) (h0 : Heap) : callStep0 Try.prog cfg rc md 104 [(.agg #[a0_0]), (.int .i64 a1)] h0 = F104 rc ⟨md.ro, h0.length⟩ a0_0 a1 h0 := by kernel_rfl
theorem F104_eq (rc : Rec) (md : Md) (a0_0 : Value) (a1 : Int) (h0 : Heap) : callStep Try.prog cfg rc md 104 [(.agg #[a0_0]), (.int .i64 a1)] h0 = F104 rc ⟨md.ro, h0.length⟩ a0_0 a1 h0 := (callStep_ne (by kernel_rfl)).trans (F104_eq0 rc md a0_0 a1 h0)

/-- (tombolo/mem.Plain).Store -/
noncomputable def F105 (rc : Rec) (md : Md) (a0_0 : Value) (a1 : Int) (a2 : Int) (h0 : Heap) : Option (Value × Heap) :=
  let h1 : Heap := h0 ++ [.own [a0_0]]
  ld1 (.pointer (some ⟨h0.length, 0, none⟩)) h1 fun v2 =>
  cl (rc md 102 [v2, (.int .i64 a1), (.int .u64 a2)] h1) fun v3 h4 =>
  cIn .i64 v3 fun n5 =>
  some ((.tuple #[]), List.take h0.length h4)
theorem F105_eq0 (rc : Rec) (md : Md) (a0_0 : Value) (a1 : Int) (a2 : Int) (h0 : Heap) : callStep0 Try.prog cfg rc md 105 [(.agg #[a0_0]), (.int .i64 a1), (.int .u64 a2)] h0 = F105 rc ⟨md.ro, h0.length⟩ a0_0 a1 a2 h0 := by kernel_rfl
theorem F105_eq (rc : Rec) (md : Md) (a0_0 : Value) (a1 : Int) (a2 : Int) (h0 : Heap) : callStep Try.prog cfg rc md 105 [(.agg #[a0_0]), (.int .i64 a1), (.int .u64 a2)] h0 = F105 rc ⟨md.ro, h0.length⟩ a0_0 a1 a2 h0 := (callStep_ne (by kernel_rfl)).trans (F105_eq0 rc md a0_0 a1 a2 h0)

end Go.Det.E
