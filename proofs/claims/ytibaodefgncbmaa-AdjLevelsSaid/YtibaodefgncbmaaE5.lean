/- Printed functions. -/
import Derived.Test.YtibaodefgncbmaaE3
import Derived.Test.YtibaodefgncbmaaDetT
import Derived.Test.YtibaodefgncbmaaDetX
import Derived.Test.YtibaodefgncbmaaProg
set_option autoImplicit false
set_option linter.unusedVariables false
set_option linter.unusedSimpArgs false
namespace Go.Det.E
open Go.Proofs Go.Det

/-- (tombolo/edge.Edges).Put -/
noncomputable def F19 (rc : Rec) (md : Md) (a0_0 : Int) (a0_1 : Int) (a0_2 : Int) (a0_3 : Value) (a1 : Int) (a2 : Int) (a3 : Int) (a4 : Int) (a5 : Bool) (h0 : Heap) : Option (Value × Heap) :=
  let h1 : Heap := h0 ++ [.own [(.int .i64 a0_0), (.int .i64 a0_1), (.int .i64 a0_2), a0_3]]
  ld1 (.pointer (some ⟨h0.length, 3, none⟩)) h1 fun v2 =>
  ldN 3 (.pointer (some ⟨h0.length, 0, none⟩)) h1 fun v3 =>
  cl (rc md 41 [v3, (.int .i64 a1)] h1) fun v4 h5 =>
  cIn .i64 v4 fun n6 =>
  bif okNil Try.prog v2 then
  clI Try.prog rc md v2 "Store" [(.int .i64 n6), (.int .u64 (IntKind.wrap .u64 (bOr .i64 (IntKind.wrap .i64 ((if a3 < a2 then a3 else a2) * 2 ^ 8)) (if a3 > a2 then a3 else a2))))] h5 fun v7 h8 =>
  ld1 (.pointer (some ⟨h0.length, 3, none⟩)) h8 fun v9 =>
  ldN 3 (.pointer (some ⟨h0.length, 0, none⟩)) h8 fun v10 =>
  cl (rc md 42 [v10, (.int .i64 a1)] h8) fun v11 h12 =>
  cIn .i64 v11 fun n13 =>
  bif okNil Try.prog v9 then
  clI Try.prog rc md v9 "Store" [(.int .i64 n13), (.int .u64 (IntKind.wrap .u64 a4))] h12 fun v14 h15 =>
  ld1 (.pointer (some ⟨h0.length, 3, none⟩)) h15 fun v16 =>
  ldN 3 (.pointer (some ⟨h0.length, 0, none⟩)) h15 fun v17 =>
  cl (rc md 43 [v17, (.int .i64 a2), (.int .i64 a3)] h15) fun v18 h19 =>
  cIn .i64 v18 fun n20 =>
  cl (rc md 44 [(.bool a5)] h19) fun v21 h22 =>
  cIn .u64 v21 fun n23 =>
  bif okNil Try.prog v16 then
  clI Try.prog rc md v16 "Store" [(.int .i64 n20), (.int .u64 (bOr .u64 (IntKind.wrap .u64 ((IntKind.wrap .u64 (IntKind.wrap .i64 (a1 + 1))) * 2 ^ 1)) n23))] h22 fun v24 h25 =>
  some ((.tuple #[]), List.take h0.length h25)
  else none
  else none
  else none
theorem F19_eq0 (rc : Rec) (md : Md) (a0_0 : Int) (a0_1 : Int) (a0_2 : Int) (a0_3 : Value) (a1 : Int) (a2 : Int) (a3 : Int) (a4 : Int) (a5 : Bool) (h0 : Heap) : callStep0 Try.prog cfg rc md 19 [(.agg #[(.int .i64 a0_0), (.int .i64 a0_1), (.int .i64 a0_2), a0_3]), (.int .i64 a1), (.int .i64 a2), (.int .i64 a3), (.int .i64 a4), (.bool a5)] h0 = F19 rc ⟨md.ro, h0.length⟩ a0_0 a0_1 a0_2 a0_3 a1 a2 a3 a4 a5 h0 := by kernel_rfl
theorem F19_eq (rc : Rec) (md : Md) (a0_0 : Int) (a0_1 : Int) (a0_2 : Int) (a0_3 : Value) (a1 : Int) (a2 : Int) (a3 : Int) (a4 : Int) (a5 : Bool) (h0 : Heap) : callStep Try.prog cfg rc md 19 [(.agg #[(.int .i64 a0_0), (.int .i64 a0_1), (.int .i64 a0_2), a0_3]), (.int .i64 a1), (.int .i64 a2), (.int .i64 a3), (.int .i64 a4), (.bool a5)] h0 = F19 rc ⟨md.ro, h0.length⟩ a0_0 a0_1 a0_2 a0_3 a1 a2 a3 a4 a5 h0 := (callStep_ne (by kernel_rfl)).trans (F19_eq0 rc md a0_0 a0_1 a0_2 a0_3 a1 a2 a3 a4 a5 h0)

/-- (tombolo/treap.Trees).Marked -/
noncomputable def F21 (rc : Rec) (md : Md) (a0_0 : Int) (a0_1 : Int) (a0_2 : Int) (a0_3 : Value) (a0_4 : Int) (a0_5 : Int) (a1 : Int) (a2 : Int) (h0 : Heap) : Option (Value × Heap) :=
  let h1 : Heap := h0 ++ [.own [(.int .i64 a0_0), (.int .i64 a0_1), (.int .i64 a0_2), a0_3, (.int .i64 a0_4), (.int .i64 a0_5)]]
  ldN 6 (.pointer (some ⟨h0.length, 0, none⟩)) h1 fun v2 =>
  cl (rc md 48 [v2, (.int .i64 a1)] h1) fun v3 h4 =>
  cIn .u64 v3 fun n5 =>
  shI .shr n5 a2 .u64 fun v6 =>
  aBin Try.prog .and 51 v6 (.int .u64 1) fun v8 =>
  aBin Try.prog .eql 51 v8 (.int .u64 1) fun v9 =>
  fin1 h0 v9 h4
theorem F21_eq0 (rc : Rec) (md : Md) (a0_0 : Int) (a0_1 : Int) (a0_2 : Int) (a0_3 : Value) (a0_4 : Int) (a0_5 : Int) (a1 : Int) (a2 : Int) (h0 : Heap) : callStep0 Try.prog cfg rc md 21 [(.agg #[(.int .i64 a0_0), (.int .i64 a0_1), (.int .i64 a0_2), a0_3, (.int .i64 a0_4), (.int .i64 a0_5)]), (.int .i64 a1), (.int .i64 a2)] h0 = F21 rc ⟨md.ro, h0.length⟩ a0_0 a0_1 a0_2 a0_3 a0_4 a0_5 a1 a2 h0 := by kernel_rfl
theorem F21_eq (rc : Rec) (md : Md) (a0_0 : Int) (a0_1 : Int) (a0_2 : Int) (a0_3 : Value) (a0_4 : Int) (a0_5 : Int) (a1 : Int) (a2 : Int) (h0 : Heap) : callStep Try.prog cfg rc md 21 [(.agg #[(.int .i64 a0_0), (.int .i64 a0_1), (.int .i64 a0_2), a0_3, (.int .i64 a0_4), (.int .i64 a0_5)]), (.int .i64 a1), (.int .i64 a2)] h0 = F21 rc ⟨md.ro, h0.length⟩ a0_0 a0_1 a0_2 a0_3 a0_4 a0_5 a1 a2 h0 := (callStep_ne (by kernel_rfl)).trans (F21_eq0 rc md a0_0 a0_1 a0_2 a0_3 a0_4 a0_5 a1 a2 h0)

/-- (tombolo/treap.Trees).Alone -/
noncomputable def F28 (rc : Rec) (md : Md) (a0_0 : Int) (a0_1 : Int) (a0_2 : Int) (a0_3 : Value) (a0_4 : Int) (a0_5 : Int) (a1 : Int) (h0 : Heap) : Option (Value × Heap) :=
  let h1 : Heap := h0 ++ [.own [(.int .i64 a0_0), (.int .i64 a0_1), (.int .i64 a0_2), a0_3, (.int .i64 a0_4), (.int .i64 a0_5)]]
  ldN 6 (.pointer (some ⟨h0.length, 0, none⟩)) h1 fun v2 =>
  cl (rc md 52 [v2, (.int .i64 a1), (.int .i64 3), (.int .i64 0)] h1) fun v3 h4 =>
  ldN 6 (.pointer (some ⟨h0.length, 0, none⟩)) h4 fun v5 =>
  cl (rc md 52 [v5, (.int .i64 a1), (.int .i64 4), (.int .i64 0)] h4) fun v6 h7 =>
  ldN 6 (.pointer (some ⟨h0.length, 0, none⟩)) h7 fun v8 =>
  cl (rc md 53 [v8, (.int .i64 a1), (.int .i64 0)] h7) fun v9 h10 =>
  ld1 (.pointer (some ⟨h0.length, 3, none⟩)) h10 fun v11 =>
  ldN 3 (.pointer (some ⟨h0.length, 0, none⟩)) h10 fun v12 =>
  cl (rc md 54 [v12, (.int .i64 a1), (.int .i64 6)] h10) fun v13 h14 =>
  cIn .i64 v13 fun n15 =>
  ldN 6 (.pointer (some ⟨h0.length, 0, none⟩)) h14 fun v16 =>
  cl (rc md 55 [v16, (.int .i64 a1), (.int .u64 0)] h14) fun v17 h18 =>
  cIn .u64 v17 fun n19 =>
  bif okNil Try.prog v11 then
  clI Try.prog rc md v11 "Store" [(.int .i64 n15), (.int .u64 n19)] h18 fun v20 h21 =>
  some ((.tuple #[]), List.take h0.length h21)
  else none
theorem F28_eq0 (rc : Rec) (md : Md) (a0_0 : Int) (a0_1 : Int) (a0_2 : Int) (a0_3 : Value) (a0_4 : Int) (a0_5 : Int) (a1 : Int) (h0 : Heap) : callStep0 Try.prog cfg rc md 28 [(.agg #[(.int .i64 a0_0), (.int .i64 a0_1), (.int .i64 a0_2), a0_3, (.int .i64 a0_4), (.int .i64 a0_5)]), (.int .i64 a1)] h0 = F28 rc ⟨md.ro, h0.length⟩ a0_0 a0_1 a0_2 a0_3 a0_4 a0_5 a1 h0 := by kernel_rfl
theorem F28_eq (rc : Rec) (md : Md) (a0_0 : Int) (a0_1 : Int) (a0_2 : Int) (a0_3 : Value) (a0_4 : Int) (a0_5 : Int) (a1 : Int) (h0 : Heap) : callStep Try.prog cfg rc md 28 [(.agg #[(.int .i64 a0_0), (.int .i64 a0_1), (.int .i64 a0_2), a0_3, (.int .i64 a0_4), (.int .i64 a0_5)]), (.int .i64 a1)] h0 = F28 rc ⟨md.ro, h0.length⟩ a0_0 a0_1 a0_2 a0_3 a0_4 a0_5 a1 h0 := (callStep_ne (by kernel_rfl)).trans (F28_eq0 rc md a0_0 a0_1 a0_2 a0_3 a0_4 a0_5 a1 h0)

/-- (tombolo/edge.Edges).Find -/
noncomputable def F29 (rc : Rec) (md : Md) (a0_0 : Int) (a0_1 : Int) (a0_2 : Int) (a0_3 : Value) (a1 : Int) (a2 : Int) (h0 : Heap) : Option (Value × Heap) :=
  let h1 : Heap := h0 ++ [.own [(.int .i64 a0_0), (.int .i64 a0_1), (.int .i64 a0_2), a0_3]]
  ld1 (.pointer (some ⟨h0.length, 3, none⟩)) h1 fun v2 =>
  ldN 3 (.pointer (some ⟨h0.length, 0, none⟩)) h1 fun v3 =>
  cl (rc md 43 [v3, (.int .i64 a1), (.int .i64 a2)] h1) fun v4 h5 =>
  cIn .i64 v4 fun n6 =>
  bif okNil Try.prog v2 then
  clI Try.prog rc md v2 "Load" [(.int .i64 n6)] h5 fun v7 h8 =>
  cIn .u64 v7 fun n9 =>
  bif (n9 == 0) then
    some ((.tuple #[(.int .i64 0), (.bool false), (.bool false)]), List.take h0.length h8)
  else
    some ((.tuple #[(.int .i64 (IntKind.wrap .i64 ((IntKind.wrap .i64 (Int.fdiv n9 (2 ^ 1))) - 1))), (.bool ((bAnd .u64 n9 1) == 1)), (.bool true)]), List.take h0.length h8)
  else none
theorem F29_eq0 (rc : Rec) (md : Md) (a0_0 : Int) (a0_1 : Int) (a0_2 : Int) (a0_3 : Value) (a1 : Int) (a2 : Int) (h0 : Heap) : callStep0 Try.prog cfg rc md 29 [(.agg #[(.int .i64 a0_0), (.int .i64 a0_1), (.int .i64 a0_2), a0_3]), (.int .i64 a1), (.int .i64 a2)] h0 = F29 rc ⟨md.ro, h0.length⟩ a0_0 a0_1 a0_2 a0_3 a1 a2 h0 := by kernel_rfl
theorem F29_eq (rc : Rec) (md : Md) (a0_0 : Int) (a0_1 : Int) (a0_2 : Int) (a0_3 : Value) (a1 : Int) (a2 : Int) (h0 : Heap) : callStep Try.prog cfg rc md 29 [(.agg #[(.int .i64 a0_0), (.int .i64 a0_1), (.int .i64 a0_2), a0_3]), (.int .i64 a1), (.int .i64 a2)] h0 = F29 rc ⟨md.ro, h0.length⟩ a0_0 a0_1 a0_2 a0_3 a1 a2 h0 := (callStep_ne (by kernel_rfl)).trans (F29_eq0 rc md a0_0 a0_1 a0_2 a0_3 a1 a2 h0)

/-- (tombolo/edge.Edges).Remove -/
noncomputable def F32 (rc : Rec) (md : Md) (a0_0 : Int) (a0_1 : Int) (a0_2 : Int) (a0_3 : Value) (a1 : Int) (a2 : Int) (h0 : Heap) : Option (Value × Heap) :=
  let h1 : Heap := h0 ++ [.own [(.int .i64 a0_0), (.int .i64 a0_1), (.int .i64 a0_2), a0_3]]
  ld1 (.pointer (some ⟨h0.length, 3, none⟩)) h1 fun v2 =>
  ldN 3 (.pointer (some ⟨h0.length, 0, none⟩)) h1 fun v3 =>
  cl (rc md 43 [v3, (.int .i64 a1), (.int .i64 a2)] h1) fun v4 h5 =>
  cIn .i64 v4 fun n6 =>
  bif okNil Try.prog v2 then
  clI Try.prog rc md v2 "Store" [(.int .i64 n6), (.int .u64 0)] h5 fun v7 h8 =>
  some ((.tuple #[]), List.take h0.length h8)
  else none
theorem F32_eq0 (rc : Rec) (md : Md) (a0_0 : Int) (a0_1 : Int) (a0_2 : Int) (a0_3 : Value) (a1 : Int) (a2 : Int) (h0 : Heap) : callStep0 Try.prog cfg rc md 32 [(.agg #[(.int .i64 a0_0), (.int .i64 a0_1), (.int .i64 a0_2), a0_3]), (.int .i64 a1), (.int .i64 a2)] h0 = F32 rc ⟨md.ro, h0.length⟩ a0_0 a0_1 a0_2 a0_3 a1 a2 h0 := by kernel_rfl
theorem F32_eq (rc : Rec) (md : Md) (a0_0 : Int) (a0_1 : Int) (a0_2 : Int) (a0_3 : Value) (a1 : Int) (a2 : Int) (h0 : Heap) : callStep Try.prog cfg rc md 32 [(.agg #[(.int .i64 a0_0), (.int .i64 a0_1), (.int .i64 a0_2), a0_3]), (.int .i64 a1), (.int .i64 a2)] h0 = F32 rc ⟨md.ro, h0.length⟩ a0_0 a0_1 a0_2 a0_3 a1 a2 h0 := (callStep_ne (by kernel_rfl)).trans (F32_eq0 rc md a0_0 a0_1 a0_2 a0_3 a1 a2 h0)

/-- (tombolo/edge.Edges).Lift -/
noncomputable def F33 (rc : Rec) (md : Md) (a0_0 : Int) (a0_1 : Int) (a0_2 : Int) (a0_3 : Value) (a1 : Int) (a2 : Int) (h0 : Heap) : Option (Value × Heap) :=
  let h1 : Heap := h0 ++ [.own [(.int .i64 a0_0), (.int .i64 a0_1), (.int .i64 a0_2), a0_3]]
  ld1 (.pointer (some ⟨h0.length, 3, none⟩)) h1 fun v2 =>
  ldN 3 (.pointer (some ⟨h0.length, 0, none⟩)) h1 fun v3 =>
  cl (rc md 42 [v3, (.int .i64 a1)] h1) fun v4 h5 =>
  cIn .i64 v4 fun n6 =>
  bif okNil Try.prog v2 then
  clI Try.prog rc md v2 "Store" [(.int .i64 n6), (.int .u64 (IntKind.wrap .u64 a2))] h5 fun v7 h8 =>
  some ((.tuple #[]), List.take h0.length h8)
  else none
theorem F33_eq0 (rc : Rec) (md : Md) (a0_0 : Int) (a0_1 : Int) (a0_2 : Int) (a0_3 : Value) (a1 : Int) (a2 : Int) (h0 : Heap) : callStep0 Try.prog cfg rc md 33 [(.agg #[(.int .i64 a0_0), (.int .i64 a0_1), (.int .i64 a0_2), a0_3]), (.int .i64 a1), (.int .i64 a2)] h0 = F33 rc ⟨md.ro, h0.length⟩ a0_0 a0_1 a0_2 a0_3 a1 a2 h0 := by kernel_rfl
theorem F33_eq (rc : Rec) (md : Md) (a0_0 : Int) (a0_1 : Int) (a0_2 : Int) (a0_3 : Value) (a1 : Int) (a2 : Int) (h0 : Heap) : callStep Try.prog cfg rc md 33 [(.agg #[(.int .i64 a0_0), (.int .i64 a0_1), (.int .i64 a0_2), a0_3]), (.int .i64 a1), (.int .i64 a2)] h0 = F33 rc ⟨md.ro, h0.length⟩ a0_0 a0_1 a0_2 a0_3 a1 a2 h0 := (callStep_ne (by kernel_rfl)).trans (F33_eq0 rc md a0_0 a0_1 a0_2 a0_3 a1 a2 h0)

/-- (tombolo/edge.Edges).Get -/
noncomputable def F45 (rc : Rec) (md : Md) (a0_0 : Int) (a0_1 : Int) (a0_2 : Int) (a0_3 : Value) (a1 : Int) (h0 : Heap) : Option (Value × Heap) :=
  let h1 : Heap := h0 ++ [.own [(.int .i64 a0_0), (.int .i64 a0_1), (.int .i64 a0_2), a0_3]]
  let h2 : Heap := h1 ++ [.own [(.int .i64 0), (.int .i64 0), (.int .i64 0), (.bool false)]]
  ldN 4 (.pointer (some ⟨h0.length, 0, none⟩)) h2 fun v3 =>
  cl (rc md 61 [v3, (.int .i64 a1)] h2) fun v4 h5 =>
  exT v4 0 fun v6 =>
  cIn .i64 v6 fun n7 =>
  exT v4 1 fun v8 =>
  cIn .i64 v8 fun n9 =>
  ldN 4 (.pointer (some ⟨h0.length, 0, none⟩)) h5 fun v10 =>
  cl (rc md 29 [v10, (.int .i64 n7), (.int .i64 n9)] h5) fun v11 h12 =>
  exT v11 0 fun v13 =>
  cIn .i64 v13 fun n14 =>
  exT v11 1 fun v15 =>
  cBn v15 fun b16 =>
  exT v11 2 fun v17 =>
  cBn v17 fun b18 =>
  ld1 (.pointer (some ⟨h0.length, 3, none⟩)) h12 fun v19 =>
  ldN 3 (.pointer (some ⟨h0.length, 0, none⟩)) h12 fun v20 =>
  cl (rc md 42 [v20, (.int .i64 a1)] h12) fun v21 h22 =>
  cIn .i64 v21 fun n23 =>
  bif okNil Try.prog v19 then
  clI Try.prog rc md v19 "Load" [(.int .i64 n23)] h22 fun v24 h25 =>
  cIn .u64 v24 fun n26 =>
  st md 4 (.pointer (some ⟨h1.length, 0, none⟩)) (.agg #[(.int .i64 n7), (.int .i64 n9), (.int .i64 (IntKind.wrap .i64 n26)), (.bool b16)]) h25 fun h27 =>
  ldN 4 (.pointer (some ⟨h1.length, 0, none⟩)) h27 fun v28 =>
  fin1 h0 v28 h27
  else none
theorem F45_eq0 (rc : Rec) (md : Md) (a0_0 : Int) (a0_1 : Int) (a0_2 : Int) (a0_3 : Value) (a1 : Int) (h0 : Heap) : callStep0 Try.prog cfg rc md 45 [(.agg #[(.int .i64 a0_0), (.int .i64 a0_1), (.int .i64 a0_2), a0_3]), (.int .i64 a1)] h0 = F45 rc ⟨md.ro, h0.length⟩ a0_0 a0_1 a0_2 a0_3 a1 h0 := by kernel_rfl
theorem F45_eq (rc : Rec) (md : Md) (a0_0 : Int) (a0_1 : Int) (a0_2 : Int) (a0_3 : Value) (a1 : Int) (h0 : Heap) : callStep Try.prog cfg rc md 45 [(.agg #[(.int .i64 a0_0), (.int .i64 a0_1), (.int .i64 a0_2), a0_3]), (.int .i64 a1)] h0 = F45 rc ⟨md.ro, h0.length⟩ a0_0 a0_1 a0_2 a0_3 a1 h0 := (callStep_ne (by kernel_rfl)).trans (F45_eq0 rc md a0_0 a0_1 a0_2 a0_3 a1 h0)

/-- (tombolo/treap.Trees).marks -/
noncomputable def F48 (rc : Rec) (md : Md) (a0_0 : Int) (a0_1 : Int) (a0_2 : Int) (a0_3 : Value) (a0_4 : Int) (a0_5 : Int) (a1 : Int) (h0 : Heap) : Option (Value × Heap) :=
  let h1 : Heap := h0 ++ [.own [(.int .i64 a0_0), (.int .i64 a0_1), (.int .i64 a0_2), a0_3, (.int .i64 a0_4), (.int .i64 a0_5)]]
  ldN 6 (.pointer (some ⟨h0.length, 0, none⟩)) h1 fun v2 =>
  cl (rc md 65 [v2, (.int .i64 a1)] h1) fun v3 h4 =>
  cIn .u64 v3 fun n5 =>
  some ((.int .u64 (bAnd .u64 (Int.fdiv n5 (2 ^ 32)) 3)), List.take h0.length h4)
theorem F48_eq0 (rc : Rec) (md : Md) (a0_0 : Int) (a0_1 : Int) (a0_2 : Int) (a0_3 : Value) (a0_4 : Int) (a0_5 : Int) (a1 : Int) (h0 : Heap) : callStep0 Try.prog cfg rc md 48 [(.agg #[(.int .i64 a0_0), (.int .i64 a0_1), (.int .i64 a0_2), a0_3, (.int .i64 a0_4), (.int .i64 a0_5)]), (.int .i64 a1)] h0 = F48 rc ⟨md.ro, h0.length⟩ a0_0 a0_1 a0_2 a0_3 a0_4 a0_5 a1 h0 := by kernel_rfl
theorem F48_eq (rc : Rec) (md : Md) (a0_0 : Int) (a0_1 : Int) (a0_2 : Int) (a0_3 : Value) (a0_4 : Int) (a0_5 : Int) (a1 : Int) (h0 : Heap) : callStep Try.prog cfg rc md 48 [(.agg #[(.int .i64 a0_0), (.int .i64 a0_1), (.int .i64 a0_2), a0_3, (.int .i64 a0_4), (.int .i64 a0_5)]), (.int .i64 a1)] h0 = F48 rc ⟨md.ro, h0.length⟩ a0_0 a0_1 a0_2 a0_3 a0_4 a0_5 a1 h0 := (callStep_ne (by kernel_rfl)).trans (F48_eq0 rc md a0_0 a0_1 a0_2 a0_3 a0_4 a0_5 a1 h0)

/-- (tombolo/treap.Trees).put -/
noncomputable def F52 (rc : Rec) (md : Md) (a0_0 : Int) (a0_1 : Int) (a0_2 : Int) (a0_3 : Value) (a0_4 : Int) (a0_5 : Int) (a1 : Int) (a2 : Int) (a3 : Int) (h0 : Heap) : Option (Value × Heap) :=
  let h1 : Heap := h0 ++ [.own [(.int .i64 a0_0), (.int .i64 a0_1), (.int .i64 a0_2), a0_3, (.int .i64 a0_4), (.int .i64 a0_5)]]
  ld1 (.pointer (some ⟨h0.length, 3, none⟩)) h1 fun v2 =>
  ldN 3 (.pointer (some ⟨h0.length, 0, none⟩)) h1 fun v3 =>
  cl (rc md 54 [v3, (.int .i64 a1), (.int .i64 a2)] h1) fun v4 h5 =>
  cIn .i64 v4 fun n6 =>
  bif okNil Try.prog v2 then
  clI Try.prog rc md v2 "Store" [(.int .i64 n6), (.int .u64 (IntKind.wrap .u64 a3))] h5 fun v7 h8 =>
  some ((.tuple #[]), List.take h0.length h8)
  else none
theorem F52_eq0 (rc : Rec) (md : Md) (a0_0 : Int) (a0_1 : Int) (a0_2 : Int) (a0_3 : Value) (a0_4 : Int) (a0_5 : Int) (a1 : Int) (a2 : Int) (a3 : Int) (h0 : Heap) : callStep0 Try.prog cfg rc md 52 [(.agg #[(.int .i64 a0_0), (.int .i64 a0_1), (.int .i64 a0_2), a0_3, (.int .i64 a0_4), (.int .i64 a0_5)]), (.int .i64 a1), (.int .i64 a2), (.int .i64 a3)] h0 = F52 rc ⟨md.ro, h0.length⟩ a0_0 a0_1 a0_2 a0_3 a0_4 a0_5 a1 a2 a3 h0 := by kernel_rfl
theorem F52_eq (rc : Rec) (md : Md) (a0_0 : Int) (a0_1 : Int) (a0_2 : Int) (a0_3 : Value) (a0_4 : Int) (a0_5 : Int) (a1 : Int) (a2 : Int) (a3 : Int) (h0 : Heap) : callStep Try.prog cfg rc md 52 [(.agg #[(.int .i64 a0_0), (.int .i64 a0_1), (.int .i64 a0_2), a0_3, (.int .i64 a0_4), (.int .i64 a0_5)]), (.int .i64 a1), (.int .i64 a2), (.int .i64 a3)] h0 = F52 rc ⟨md.ro, h0.length⟩ a0_0 a0_1 a0_2 a0_3 a0_4 a0_5 a1 a2 a3 h0 := (callStep_ne (by kernel_rfl)).trans (F52_eq0 rc md a0_0 a0_1 a0_2 a0_3 a0_4 a0_5 a1 a2 a3 h0)

/-- (tombolo/treap.Trees).hang -/
noncomputable def F53 (rc : Rec) (md : Md) (a0_0 : Int) (a0_1 : Int) (a0_2 : Int) (a0_3 : Value) (a0_4 : Int) (a0_5 : Int) (a1 : Int) (a2 : Int) (h0 : Heap) : Option (Value × Heap) :=
  let h1 : Heap := h0 ++ [.own [(.int .i64 a0_0), (.int .i64 a0_1), (.int .i64 a0_2), a0_3, (.int .i64 a0_4), (.int .i64 a0_5)]]
  bif (a1 == 0) then
    some ((.tuple #[]), List.take h0.length h1)
  else
    ldN 6 (.pointer (some ⟨h0.length, 0, none⟩)) h1 fun v2 =>
    cl (rc md 66 [v2, (.int .i64 a1)] h1) fun v3 h4 =>
    cBn v3 fun b5 =>
    bif b5 then
      ldN 2 (.pointer (some ⟨h0.length, 4, none⟩)) h4 fun v6 =>
      ld1 (.pointer (some ⟨h0.length, 3, none⟩)) h4 fun v7 =>
      ldN 3 (.pointer (some ⟨h0.length, 0, none⟩)) h4 fun v8 =>
      cl (rc md 54 [v8, (.int .i64 a1), (.int .i64 2)] h4) fun v9 h10 =>
      cIn .i64 v9 fun n11 =>
      cl (rc md 67 [v6, v7, (.int .i64 n11), (.int .i64 a2)] h10) fun v12 h13 =>
      some ((.tuple #[]), List.take h0.length h13)
    else
      ldN 6 (.pointer (some ⟨h0.length, 0, none⟩)) h4 fun v14 =>
      cl (rc md 52 [v14, (.int .i64 a1), (.int .i64 2), (.int .i64 a2)] h4) fun v15 h16 =>
      some ((.tuple #[]), List.take h0.length h16)
theorem F53_eq0 (rc : Rec) (md : Md) (a0_0 : Int) (a0_1 : Int) (a0_2 : Int) (a0_3 : Value) (a0_4 : Int) (a0_5 : Int) (a1 : Int) (a2 : Int) (h0 : Heap) : callStep0 Try.prog cfg rc md 53 [(.agg #[(.int .i64 a0_0), (.int .i64 a0_1), (.int .i64 a0_2), a0_3, (.int .i64 a0_4), (.int .i64 a0_5)]), (.int .i64 a1), (.int .i64 a2)] h0 = F53 rc ⟨md.ro, h0.length⟩ a0_0 a0_1 a0_2 a0_3 a0_4 a0_5 a1 a2 h0 := by kernel_rfl
theorem F53_eq (rc : Rec) (md : Md) (a0_0 : Int) (a0_1 : Int) (a0_2 : Int) (a0_3 : Value) (a0_4 : Int) (a0_5 : Int) (a1 : Int) (a2 : Int) (h0 : Heap) : callStep Try.prog cfg rc md 53 [(.agg #[(.int .i64 a0_0), (.int .i64 a0_1), (.int .i64 a0_2), a0_3, (.int .i64 a0_4), (.int .i64 a0_5)]), (.int .i64 a1), (.int .i64 a2)] h0 = F53 rc ⟨md.ro, h0.length⟩ a0_0 a0_1 a0_2 a0_3 a0_4 a0_5 a1 a2 h0 := (callStep_ne (by kernel_rfl)).trans (F53_eq0 rc md a0_0 a0_1 a0_2 a0_3 a0_4 a0_5 a1 a2 h0)

/-- (tombolo/treap.Trees).lone -/
noncomputable def F55 (rc : Rec) (md : Md) (a0_0 : Int) (a0_1 : Int) (a0_2 : Int) (a0_3 : Value) (a0_4 : Int) (a0_5 : Int) (a1 : Int) (a2 : Int) (h0 : Heap) : Option (Value × Heap) :=
  let h1 : Heap := h0 ++ [.own [(.int .i64 a0_0), (.int .i64 a0_1), (.int .i64 a0_2), a0_3, (.int .i64 a0_4), (.int .i64 a0_5)]]
  ldN 3 (.pointer (some ⟨h0.length, 0, none⟩)) h1 fun v2 =>
  cl (rc md 68 [v2, (.int .i64 a1)] h1) fun v3 h4 =>
  exT v3 0 fun v5 =>
  exT v3 1 fun v6 =>
  cBn v6 fun b7 =>
  let h8 : Heap := h4 ++ [.own [(.bool false), (.int .i64 0), (.int .i64 0), (.int .i64 0), (.int .i64 0)]]
  st md 5 (.pointer (some ⟨h4.length, 0, none⟩)) v5 h8 fun h9 =>
  ld1 (.pointer (some ⟨h4.length, 0, none⟩)) h9 fun v10 =>
  cBn v10 fun b11 =>
  bif !b11 then
    some ((.int .u64 (bOr .u64 (bOr .u64 (bOr .u64 1 (IntKind.wrap .u64 (a2 * 2 ^ 32))) (IntKind.wrap .u64 (a2 * 2 ^ 34))) 65536)), h0)
  else
    some ((.int .u64 (bOr .u64 (bOr .u64 1 (IntKind.wrap .u64 (a2 * 2 ^ 32))) (IntKind.wrap .u64 (a2 * 2 ^ 34)))), h0)
theorem F55_eq0 (rc : Rec) (md : Md) (a0_0 : Int) (a0_1 : Int) (a0_2 : Int) (a0_3 : Value) (a0_4 : Int) (a0_5 : Int) (a1 : Int) (a2 : Int) (h0 : Heap) : callStep0 Try.prog cfg rc md 55 [(.agg #[(.int .i64 a0_0), (.int .i64 a0_1), (.int .i64 a0_2), a0_3, (.int .i64 a0_4), (.int .i64 a0_5)]), (.int .i64 a1), (.int .u64 a2)] h0 = F55 rc ⟨h0.length, h0.length⟩ a0_0 a0_1 a0_2 a0_3 a0_4 a0_5 a1 a2 h0 := by kernel_rfl
theorem F55_eq (rc : Rec) (md : Md) (a0_0 : Int) (a0_1 : Int) (a0_2 : Int) (a0_3 : Value) (a0_4 : Int) (a0_5 : Int) (a1 : Int) (a2 : Int) (h0 : Heap) : callStep Try.prog cfg rc md 55 [(.agg #[(.int .i64 a0_0), (.int .i64 a0_1), (.int .i64 a0_2), a0_3, (.int .i64 a0_4), (.int .i64 a0_5)]), (.int .i64 a1), (.int .u64 a2)] h0 = F55 rc ⟨h0.length, h0.length⟩ a0_0 a0_1 a0_2 a0_3 a0_4 a0_5 a1 a2 h0 := (callStep_ne (by kernel_rfl)).trans (F55_eq0 rc md a0_0 a0_1 a0_2 a0_3 a0_4 a0_5 a1 a2 h0)

/-- (tombolo/edge.Edges).ends -/
noncomputable def F61 (rc : Rec) (md : Md) (a0_0 : Int) (a0_1 : Int) (a0_2 : Int) (a0_3 : Value) (a1 : Int) (h0 : Heap) : Option (Value × Heap) :=
  let h1 : Heap := h0 ++ [.own [(.int .i64 a0_0), (.int .i64 a0_1), (.int .i64 a0_2), a0_3]]
  ld1 (.pointer (some ⟨h0.length, 3, none⟩)) h1 fun v2 =>
  ldN 3 (.pointer (some ⟨h0.length, 0, none⟩)) h1 fun v3 =>
  cl (rc md 41 [v3, (.int .i64 a1)] h1) fun v4 h5 =>
  cIn .i64 v4 fun n6 =>
  bif okNil Try.prog v2 then
  clI Try.prog rc md v2 "Load" [(.int .i64 n6)] h5 fun v7 h8 =>
  cIn .u64 v7 fun n9 =>
  some ((.tuple #[(.int .i64 (Int.fdiv (IntKind.wrap .i64 n9) (2 ^ 8))), (.int .i64 (bAnd .i64 (IntKind.wrap .i64 n9) 255))]), List.take h0.length h8)
  else none
theorem F61_eq0 (rc : Rec) (md : Md) (a0_0 : Int) (a0_1 : Int) (a0_2 : Int) (a0_3 : Value) (a1 : Int) (h0 : Heap) : callStep0 Try.prog cfg rc md 61 [(.agg #[(.int .i64 a0_0), (.int .i64 a0_1), (.int .i64 a0_2), a0_3]), (.int .i64 a1)] h0 = F61 rc ⟨md.ro, h0.length⟩ a0_0 a0_1 a0_2 a0_3 a1 h0 := by kernel_rfl
theorem F61_eq (rc : Rec) (md : Md) (a0_0 : Int) (a0_1 : Int) (a0_2 : Int) (a0_3 : Value) (a1 : Int) (h0 : Heap) : callStep Try.prog cfg rc md 61 [(.agg #[(.int .i64 a0_0), (.int .i64 a0_1), (.int .i64 a0_2), a0_3]), (.int .i64 a1)] h0 = F61 rc ⟨md.ro, h0.length⟩ a0_0 a0_1 a0_2 a0_3 a1 h0 := (callStep_ne (by kernel_rfl)).trans (F61_eq0 rc md a0_0 a0_1 a0_2 a0_3 a1 h0)

/-- (tombolo/treap.Trees).sum -/
noncomputable def F65 (rc : Rec) (md : Md) (a0_0 : Int) (a0_1 : Int) (a0_2 : Int) (a0_3 : Value) (a0_4 : Int) (a0_5 : Int) (a1 : Int) (h0 : Heap) : Option (Value × Heap) :=
  let h1 : Heap := h0 ++ [.own [(.int .i64 a0_0), (.int .i64 a0_1), (.int .i64 a0_2), a0_3, (.int .i64 a0_4), (.int .i64 a0_5)]]
  bif (a1 == 0) then
    some ((.int .u64 0), List.take h0.length h1)
  else
    ld1 (.pointer (some ⟨h0.length, 3, none⟩)) h1 fun v2 =>
    ldN 3 (.pointer (some ⟨h0.length, 0, none⟩)) h1 fun v3 =>
    cl (rc md 54 [v3, (.int .i64 a1), (.int .i64 6)] h1) fun v4 h5 =>
    cIn .i64 v4 fun n6 =>
    bif okNil Try.prog v2 then
    clI Try.prog rc md v2 "Load" [(.int .i64 n6)] h5 fun v7 h8 =>
    cIn .u64 v7 fun n9 =>
    some ((.int .u64 n9), List.take h0.length h8)
    else none
theorem F65_eq0 (rc : Rec) (md : Md) (a0_0 : Int) (a0_1 : Int) (a0_2 : Int) (a0_3 : Value) (a0_4 : Int) (a0_5 : Int) (a1 : Int) (h0 : Heap) : callStep0 Try.prog cfg rc md 65 [(.agg #[(.int .i64 a0_0), (.int .i64 a0_1), (.int .i64 a0_2), a0_3, (.int .i64 a0_4), (.int .i64 a0_5)]), (.int .i64 a1)] h0 = F65 rc ⟨md.ro, h0.length⟩ a0_0 a0_1 a0_2 a0_3 a0_4 a0_5 a1 h0 := by kernel_rfl
theorem F65_eq (rc : Rec) (md : Md) (a0_0 : Int) (a0_1 : Int) (a0_2 : Int) (a0_3 : Value) (a0_4 : Int) (a0_5 : Int) (a1 : Int) (h0 : Heap) : callStep Try.prog cfg rc md 65 [(.agg #[(.int .i64 a0_0), (.int .i64 a0_1), (.int .i64 a0_2), a0_3, (.int .i64 a0_4), (.int .i64 a0_5)]), (.int .i64 a1)] h0 = F65 rc ⟨md.ro, h0.length⟩ a0_0 a0_1 a0_2 a0_3 a0_4 a0_5 a1 h0 := (callStep_ne (by kernel_rfl)).trans (F65_eq0 rc md a0_0 a0_1 a0_2 a0_3 a0_4 a0_5 a1 h0)

/-- (tombolo/treap.Trees).shown -/
noncomputable def F66 (rc : Rec) (md : Md) (a0_0 : Int) (a0_1 : Int) (a0_2 : Int) (a0_3 : Value) (a0_4 : Int) (a0_5 : Int) (a1 : Int) (h0 : Heap) : Option (Value × Heap) :=
  let h1 : Heap := h0 ++ [.own [(.int .i64 a0_0), (.int .i64 a0_1), (.int .i64 a0_2), a0_3, (.int .i64 a0_4), (.int .i64 a0_5)]]
  ldN 3 (.pointer (some ⟨h0.length, 0, none⟩)) h1 fun v2 =>
  cl (rc md 68 [v2, (.int .i64 a1)] h1) fun v3 h4 =>
  exT v3 0 fun v5 =>
  exT v3 1 fun v6 =>
  cBn v6 fun b7 =>
  let h8 : Heap := h4 ++ [.own [(.bool false), (.int .i64 0), (.int .i64 0), (.int .i64 0), (.int .i64 0)]]
  st md 5 (.pointer (some ⟨h4.length, 0, none⟩)) v5 h8 fun h9 =>
  ld1 (.pointer (some ⟨h4.length, 1, none⟩)) h9 fun v10 =>
  cIn .i64 v10 fun n11 =>
  some ((.bool (n11 == 0)), h0)
theorem F66_eq0 (rc : Rec) (md : Md) (a0_0 : Int) (a0_1 : Int) (a0_2 : Int) (a0_3 : Value) (a0_4 : Int) (a0_5 : Int) (a1 : Int) (h0 : Heap) : callStep0 Try.prog cfg rc md 66 [(.agg #[(.int .i64 a0_0), (.int .i64 a0_1), (.int .i64 a0_2), a0_3, (.int .i64 a0_4), (.int .i64 a0_5)]), (.int .i64 a1)] h0 = F66 rc ⟨h0.length, h0.length⟩ a0_0 a0_1 a0_2 a0_3 a0_4 a0_5 a1 h0 := by kernel_rfl
theorem F66_eq (rc : Rec) (md : Md) (a0_0 : Int) (a0_1 : Int) (a0_2 : Int) (a0_3 : Value) (a0_4 : Int) (a0_5 : Int) (a1 : Int) (h0 : Heap) : callStep Try.prog cfg rc md 66 [(.agg #[(.int .i64 a0_0), (.int .i64 a0_1), (.int .i64 a0_2), a0_3, (.int .i64 a0_4), (.int .i64 a0_5)]), (.int .i64 a1)] h0 = F66 rc ⟨h0.length, h0.length⟩ a0_0 a0_1 a0_2 a0_3 a0_4 a0_5 a1 h0 := (callStep_ne (by kernel_rfl)).trans (F66_eq0 rc md a0_0 a0_1 a0_2 a0_3 a0_4 a0_5 a1 h0)

/-- (tombolo/treap.Trees).Mark -/
noncomputable def Jk69_1 (rc : Rec) (md : Md) (h0 : Heap) (e : Exit) (s4 : Value) (s9 : Value) (h : Heap) : Option (Value × Heap) :=
  match e with
  | .normal =>
    some ((.tuple #[]), List.take h0.length h)
  | .exit j =>
    bif Nat.beq j 0 then
      some ((.tuple #[]), List.take h0.length h)
    else
      none
  | .ret =>
    some ((.tuple #[]), List.take h0.length h)
  | .goto l => none
  | .panic ps => none
  | .outgrown => none
theorem Jk69_1_at (rc : Rec) (md : Md) (h0 : Heap) (e : Exit) (t : T) (h : Heap) : kAt Try.prog cfg rc md 39 (bodyOf Try.prog 69) [1, 1, 1, 1, 1, 0] (retK Try.prog cfg 69 (rsOf Try.prog 69) h0) e t h = Jk69_1 rc md h0 e (t 4) (t 9) h := by cases e <;> kernel_rfl
/-- a round -/
noncomputable def Jr69_1 (rc : Rec) (md : Md) (s4 : Value) (s9 : Value) (h : Heap) : Option (((Value × Value) × Heap) ⊕ (Exit × (Value × Value) × Heap)) :=
  aBin Try.prog .neq 3 s9 (.int .i64 0) fun v1 =>
  cBn v1 fun b2 =>
  bif b2 then
    ldN 6 s4 h fun v3 =>
    ldN 6 s4 h fun v4 =>
    cl (rc md 48 [v4, s9] h) fun v5 h6 =>
    cIn .u64 v5 fun n7 =>
    cLE true (fun hq => ldN 6 s4 hq some) v3 h h6 <|
    cl (rc md 72 [v3, s9, (.int .u64 n7)] h6) fun v8 h9 =>
    ldN 6 s4 h9 fun v10 =>
    cl (rc md 73 [v10, s9] h9) fun v11 h12 =>
    cIn .i64 v11 fun n13 =>
    some (.inl ((s4, (.int .i64 n13)), h12))
  else
    some (.inr ((.exit 0), (s4, s9), h))
theorem Jr69_1_at (rc : Rec) (md : Md) (t : T) (h : Heap) : exec Try.prog cfg rc md 39 (sub (bodyOf Try.prog 69) [1, 1, 1, 1, 1, 0, 0]) (rndK (fun t => (t 4, t 9))) t h = Jr69_1 rc md (t 4) (t 9) h := by kernel_rfl
noncomputable def J69_1 (rc : Rec) (md : Md) (h0 : Heap) (s4 : Value) (s9 : Value) (h : Heap) : Option (Value × Heap) :=
  runL (fun x : (Value × Value) × Heap => Jr69_1 rc md x.1.1 x.1.2 x.2) (fun e (s : Value × Value) h => Jk69_1 rc md h0 e s.1 s.2 h) (s4, s9) h
theorem J69_1_step (rc : Rec) (md : Md) (h0 : Heap) (s4 : Value) (s9 : Value) (h : Heap) : J69_1 rc md h0 s4 s9 h = (Jr69_1 rc md s4 s9 h).bind fun x => match x with
    | .inl (s, h) => J69_1 rc md h0 s.1 s.2 h
    | .inr (e, s, h) => Jk69_1 rc md h0 e s.1 s.2 h := by
  unfold J69_1
  rw [runL_eq]
  refine congrArg (Option.bind _) (funext fun x => ?_)
  rcases x with ⟨s, h⟩ | ⟨e, s, h⟩ <;> rfl
theorem J69_1_cut (rc : Rec) (md : Md) (h0 : Heap) : cut Try.prog cfg rc md 39 (bodyOf Try.prog 69) [1, 1, 1, 1, 1, 0] (retK Try.prog cfg 69 (rsOf Try.prog 69) h0) = fun t h => J69_1 rc md h0 (t 4) (t 9) h := by
  funext t h
  have e : sub (bodyOf Try.prog 69) [1, 1, 1, 1, 1, 0] = .loop (sub (bodyOf Try.prog 69) [1, 1, 1, 1, 1, 0, 0]) := by kernel_rfl
  unfold cut
  rw [e]
  exact loop_eq (by kernel_rfl) (fun t => (t 4, t 9)) (fun x : (Value × Value) × Heap => Jr69_1 rc md x.1.1 x.1.2 x.2) (fun t h => Jr69_1_at rc md t h) (fun e (s : Value × Value) h => Jk69_1 rc md h0 e s.1 s.2 h) (fun e t h => Jk69_1_at rc md h0 e t h) t h
noncomputable def J69_0 (rc : Rec) (md : Md) (h0 : Heap) (s1 : Value) (s4 : Value) (s8 : Value) (h : Heap) : Option (Value × Heap) :=
  ldN 6 s4 h fun v1 =>
  cl (rc md 72 [v1, s1, s8] h) fun v2 h3 =>
  ldN 6 s4 h3 fun v4 =>
  cl (rc md 73 [v4, s1] h3) fun v5 h6 =>
  cIn .i64 v5 fun n7 =>
  J69_1 rc md h0 s4 (.int .i64 n7) h6
noncomputable def J69_0H (rc : Rec) (md : Md) (h0 : Heap) (X0 : T → Heap → Option (Value × Heap)) (t : T) (h : Heap) : Option (Value × Heap) :=
  ldN 6 (t 4) h fun v1 =>
  cl (rc md 72 [v1, (t 1), (t 8)] h) fun v2 h3 =>
  ldN 6 (t 4) h3 fun v4 =>
  cl (rc md 73 [v4, (t 1)] h3) fun v5 h6 =>
  cIn .i64 v5 fun n7 =>
  X0 (upd (upd (upd (upd (upd (upd (upd (upd t 21 v1) 22 (t 1)) 23 (t 8)) 24 v2) 25 v4) 26 (t 1)) 27 (.int .i64 n7)) 9 (.int .i64 n7)) h6
theorem J69_0_h1 (rc : Rec) (md : Md) (h0 : Heap) (X : Nat → T → Heap → Option (Value × Heap)) (t : T) (h : Heap) : execG Try.prog cfg X rc md 39 (sub (replS (bodyOf Try.prog 69) [([1, 1, 1, 1, 1, 0], 0)]) [1, 1, 1]) (kAtG Try.prog cfg X rc md 39 (replS (bodyOf Try.prog 69) [([1, 1, 1, 1, 1, 0], 0)]) [1, 1, 1] (retK Try.prog cfg 69 (rsOf Try.prog 69) h0)) t h = J69_0H rc md h0 (X 0) t h := by kernel_rfl
theorem J69_0_h2 (rc : Rec) (md : Md) (h0 : Heap) (t : T) (h : Heap) : J69_0H rc md h0 (fun t h => J69_1 rc md h0 (t 4) (t 9) h) t h = J69_0 rc md h0 (t 1) (t 4) (t 8) h := by (unfold J69_0H J69_0; kernel_rfl)
theorem J69_0_at (rc : Rec) (md : Md) (h0 : Heap) (t : T) (h : Heap) : cut Try.prog cfg rc md 39 (bodyOf Try.prog 69) [1, 1, 1] (retK Try.prog cfg 69 (rsOf Try.prog 69) h0) t h = J69_0 rc md h0 (t 1) (t 4) (t 8) h := by
  rw [cut_holes [([1, 1, 1, 1, 1, 0], 0)] [1, 1, 1] (by kernel_rfl), J69_0_h1, show (goX Try.prog cfg rc md 39 (bodyOf Try.prog 69) [([1, 1, 1, 1, 1, 0], 0)] (retK Try.prog cfg 69 (rsOf Try.prog 69) h0)) 0 = _ from J69_1_cut rc md h0]
  exact J69_0_h2 rc md h0 t h
theorem J69_0_cut (rc : Rec) (md : Md) (h0 : Heap) : cut Try.prog cfg rc md 39 (bodyOf Try.prog 69) [1, 1, 1] (retK Try.prog cfg 69 (rsOf Try.prog 69) h0) = fun t h => J69_0 rc md h0 (t 1) (t 4) (t 8) h := funext fun t => funext fun h => J69_0_at rc md h0 t h
noncomputable def F69 (rc : Rec) (md : Md) (a0_0 : Int) (a0_1 : Int) (a0_2 : Int) (a0_3 : Value) (a0_4 : Int) (a0_5 : Int) (a1 : Int) (a2 : Int) (a3 : Bool) (h0 : Heap) : Option (Value × Heap) :=
  let h1 : Heap := h0 ++ [.own [(.int .i64 a0_0), (.int .i64 a0_1), (.int .i64 a0_2), a0_3, (.int .i64 a0_4), (.int .i64 a0_5)]]
  ldN 6 (.pointer (some ⟨h0.length, 0, none⟩)) h1 fun v2 =>
  cl (rc md 48 [v2, (.int .i64 a1)] h1) fun v3 h4 =>
  cIn .u64 v3 fun n5 =>
  shI .shl 1 a2 .u64 fun v6 =>
  aBin Try.prog .andNot 51 (.int .u64 n5) v6 fun v8 =>
  bif a3 then
    shI .shl 1 a2 .u64 fun v9 =>
    aBin Try.prog .or 51 v8 v9 fun v11 =>
    J69_0 rc md h0 (.int .i64 a1) (.pointer (some ⟨h0.length, 0, none⟩)) v11 h4
  else
    J69_0 rc md h0 (.int .i64 a1) (.pointer (some ⟨h0.length, 0, none⟩)) v8 h4
noncomputable def F69H (rc : Rec) (md : Md) (X1 : T → Heap → Option (Value × Heap)) (a0_0 : Int) (a0_1 : Int) (a0_2 : Int) (a0_3 : Value) (a0_4 : Int) (a0_5 : Int) (a1 : Int) (a2 : Int) (a3 : Bool) (h0 : Heap) : Option (Value × Heap) :=
  let h1 : Heap := h0 ++ [.own [(.int .i64 a0_0), (.int .i64 a0_1), (.int .i64 a0_2), a0_3, (.int .i64 a0_4), (.int .i64 a0_5)]]
  ldN 6 (.pointer (some ⟨h0.length, 0, none⟩)) h1 fun v2 =>
  cl (rc md 48 [v2, (.int .i64 a1)] h1) fun v3 h4 =>
  cIn .u64 v3 fun n5 =>
  shI .shl 1 a2 .u64 fun v6 =>
  aBin Try.prog .andNot 51 (.int .u64 n5) v6 fun v8 =>
  bif a3 then
    shI .shl 1 a2 .u64 fun v9 =>
    aBin Try.prog .or 51 v8 v9 fun v11 =>
    X1 (upd (upd (upd (upd (upd (upd (upd (upd (upd (upd (upd (upd (upd (upd (args0 [(.agg #[(.int .i64 a0_0), (.int .i64 a0_1), (.int .i64 a0_2), a0_3, (.int .i64 a0_4), (.int .i64 a0_5)]), (.int .i64 a1), (.int .i64 a2), (.bool a3)]) 4 (.pointer (some ⟨h0.length, 0, none⟩))) 10 v2) 11 (.int .i64 a1)) 12 (.int .u64 n5)) 13 (.int .i64 a2)) 14 v6) 15 v8) 8 v8) 16 (.bool a3)) 17 v8) 18 (.int .i64 a2)) 19 v9) 20 v11) 8 v11) h4
  else
    X1 (upd (upd (upd (upd (upd (upd (upd (upd (upd (args0 [(.agg #[(.int .i64 a0_0), (.int .i64 a0_1), (.int .i64 a0_2), a0_3, (.int .i64 a0_4), (.int .i64 a0_5)]), (.int .i64 a1), (.int .i64 a2), (.bool a3)]) 4 (.pointer (some ⟨h0.length, 0, none⟩))) 10 v2) 11 (.int .i64 a1)) 12 (.int .u64 n5)) 13 (.int .i64 a2)) 14 v6) 15 v8) 8 v8) 16 (.bool a3)) h4
theorem F69_h0 (rc : Rec) (md : Md) (a0_0 : Int) (a0_1 : Int) (a0_2 : Int) (a0_3 : Value) (a0_4 : Int) (a0_5 : Int) (a1 : Int) (a2 : Int) (a3 : Bool) (h0 : Heap) : callStep0 Try.prog cfg rc md 69 [(.agg #[(.int .i64 a0_0), (.int .i64 a0_1), (.int .i64 a0_2), a0_3, (.int .i64 a0_4), (.int .i64 a0_5)]), (.int .i64 a1), (.int .i64 a2), (.bool a3)] h0 = exec Try.prog cfg rc ⟨md.ro, h0.length⟩ 39 (bodyOf Try.prog 69) (retK Try.prog cfg 69 (rsOf Try.prog 69) h0) (args0 [(.agg #[(.int .i64 a0_0), (.int .i64 a0_1), (.int .i64 a0_2), a0_3, (.int .i64 a0_4), (.int .i64 a0_5)]), (.int .i64 a1), (.int .i64 a2), (.bool a3)]) h0 := callStep0_run (by kernel_rfl) (by kernel_rfl) (by kernel_rfl)
theorem F69_h1 (rc : Rec) (md : Md) (X : Nat → T → Heap → Option (Value × Heap)) (a0_0 : Int) (a0_1 : Int) (a0_2 : Int) (a0_3 : Value) (a0_4 : Int) (a0_5 : Int) (a1 : Int) (a2 : Int) (a3 : Bool) (h0 : Heap) : execG Try.prog cfg X rc md 39 (replS (bodyOf Try.prog 69) [([1, 1, 1, 1, 1, 0], 0), ([1, 1, 1], 1)]) (retK Try.prog cfg 69 (rsOf Try.prog 69) h0) (args0 [(.agg #[(.int .i64 a0_0), (.int .i64 a0_1), (.int .i64 a0_2), a0_3, (.int .i64 a0_4), (.int .i64 a0_5)]), (.int .i64 a1), (.int .i64 a2), (.bool a3)]) h0 = F69H rc md (X 1) a0_0 a0_1 a0_2 a0_3 a0_4 a0_5 a1 a2 a3 h0 := by kernel_rfl
theorem F69_h2 (rc : Rec) (md : Md) (a0_0 : Int) (a0_1 : Int) (a0_2 : Int) (a0_3 : Value) (a0_4 : Int) (a0_5 : Int) (a1 : Int) (a2 : Int) (a3 : Bool) (h0 : Heap) : F69H rc md (fun t h => J69_0 rc md h0 (t 1) (t 4) (t 8) h) a0_0 a0_1 a0_2 a0_3 a0_4 a0_5 a1 a2 a3 h0 = F69 rc md a0_0 a0_1 a0_2 a0_3 a0_4 a0_5 a1 a2 a3 h0 := by unfold F69H F69; kernel_rfl
theorem F69_eq0 (rc : Rec) (md : Md) (a0_0 : Int) (a0_1 : Int) (a0_2 : Int) (a0_3 : Value) (a0_4 : Int) (a0_5 : Int) (a1 : Int) (a2 : Int) (a3 : Bool) (h0 : Heap) : callStep0 Try.prog cfg rc md 69 [(.agg #[(.int .i64 a0_0), (.int .i64 a0_1), (.int .i64 a0_2), a0_3, (.int .i64 a0_4), (.int .i64 a0_5)]), (.int .i64 a1), (.int .i64 a2), (.bool a3)] h0 = F69 rc ⟨md.ro, h0.length⟩ a0_0 a0_1 a0_2 a0_3 a0_4 a0_5 a1 a2 a3 h0 := by
  rw [F69_h0, exec_holes [([1, 1, 1, 1, 1, 0], 0), ([1, 1, 1], 1)] (by kernel_rfl), F69_h1, show (goX Try.prog cfg rc ⟨md.ro, h0.length⟩ 39 (bodyOf Try.prog 69) [([1, 1, 1, 1, 1, 0], 0), ([1, 1, 1], 1)] (retK Try.prog cfg 69 (rsOf Try.prog 69) h0)) 1 = _ from J69_0_cut rc ⟨md.ro, h0.length⟩ h0]
  exact F69_h2 rc _ a0_0 a0_1 a0_2 a0_3 a0_4 a0_5 a1 a2 a3 h0
theorem F69_eq (rc : Rec) (md : Md) (a0_0 : Int) (a0_1 : Int) (a0_2 : Int) (a0_3 : Value) (a0_4 : Int) (a0_5 : Int) (a1 : Int) (a2 : Int) (a3 : Bool) (h0 : Heap) : callStep Try.prog cfg rc md 69 [(.agg #[(.int .i64 a0_0), (.int .i64 a0_1), (.int .i64 a0_2), a0_3, (.int .i64 a0_4), (.int .i64 a0_5)]), (.int .i64 a1), (.int .i64 a2), (.bool a3)] h0 = F69 rc ⟨md.ro, h0.length⟩ a0_0 a0_1 a0_2 a0_3 a0_4 a0_5 a1 a2 a3 h0 := (callStep_ne (by kernel_rfl)).trans (F69_eq0 rc md a0_0 a0_1 a0_2 a0_3 a0_4 a0_5 a1 a2 a3 h0)

/-- (tombolo/treap.Trees).renew -/
noncomputable def J72_1 (rc : Rec) (md : Md) (h0 : Heap) (s1 : Value) (s3 : Value) (s6 : Value) (h : Heap) : Option (Value × Heap) :=
  fA 3 s3 fun v1 =>
  ld1 v1 h fun v2 =>
  fA 0 s3 fun v3 =>
  ldN 3 v3 h fun v4 =>
  cl (rc md 54 [v4, s1, (.int .i64 6)] h) fun v5 h6 =>
  cIn .i64 v5 fun n7 =>
  bif okNil Try.prog v2 then
  clI Try.prog rc md v2 "Store" [(.int .i64 n7), s6] h6 fun v8 h9 =>
  some ((.tuple #[]), List.take h0.length h9)
  else none
theorem J72_1_at (rc : Rec) (md : Md) (h0 : Heap) (t : T) (h : Heap) : cut Try.prog cfg rc md 44 (bodyOf Try.prog 72) [1, 1, 1] (retK Try.prog cfg 72 (rsOf Try.prog 72) h0) t h = J72_1 rc md h0 (t 1) (t 3) (t 6) h := by kernel_rfl
theorem J72_1_cut (rc : Rec) (md : Md) (h0 : Heap) : cut Try.prog cfg rc md 44 (bodyOf Try.prog 72) [1, 1, 1] (retK Try.prog cfg 72 (rsOf Try.prog 72) h0) = fun t h => J72_1 rc md h0 (t 1) (t 3) (t 6) h := funext fun t => funext fun h => J72_1_at rc md h0 t h
noncomputable def Jk72_0 (rc : Rec) (md : Md) (h0 : Heap) (e : Exit) (s1 : Value) (s3 : Value) (s6 : Value) (s14 : Value) (s15 : Value) (h : Heap) : Option (Value × Heap) :=
  match e with
  | .normal =>
    J72_1 rc md h0 s1 s3 s6 h
  | .exit j =>
    bif Nat.beq j 0 then
      J72_1 rc md h0 s1 s3 s6 h
    else
      none
  | .ret =>
    some ((.tuple #[]), List.take h0.length h)
  | .goto l => none
  | .panic ps => none
  | .outgrown => none
noncomputable def Jk72_0H (rc : Rec) (md : Md) (h0 : Heap) (X1 : T → Heap → Option (Value × Heap)) (e : Exit) (t : T) (h : Heap) : Option (Value × Heap) :=
  match e with
  | .normal =>
    X1 t h
  | .exit j =>
    bif Nat.beq j 0 then
      X1 t h
    else
      none
  | .ret =>
    some ((.tuple #[]), List.take h0.length h)
  | .goto l => none
  | .panic ps => none
  | .outgrown => none
theorem Jk72_0_h1 (rc : Rec) (md : Md) (h0 : Heap) (X : Nat → T → Heap → Option (Value × Heap)) (e : Exit) (t : T) (h : Heap) : kAtG Try.prog cfg X rc md 44 (replS (bodyOf Try.prog 72) [([1, 1, 1], 1)]) [1, 1, 0, 1, 0] (retK Try.prog cfg 72 (rsOf Try.prog 72) h0) e t h = Jk72_0H rc md h0 (X 1) e t h := by cases e <;> kernel_rfl
theorem Jk72_0_h2 (rc : Rec) (md : Md) (h0 : Heap) (e : Exit) (t : T) (h : Heap) : Jk72_0H rc md h0 (fun t h => J72_1 rc md h0 (t 1) (t 3) (t 6) h) e t h = Jk72_0 rc md h0 e (t 1) (t 3) (t 6) (t 14) (t 15) h := by cases e <;> (unfold Jk72_0H Jk72_0; kernel_rfl)
theorem Jk72_0_at (rc : Rec) (md : Md) (h0 : Heap) (e : Exit) (t : T) (h : Heap) : kAt Try.prog cfg rc md 44 (bodyOf Try.prog 72) [1, 1, 0, 1, 0] (retK Try.prog cfg 72 (rsOf Try.prog 72) h0) e t h = Jk72_0 rc md h0 e (t 1) (t 3) (t 6) (t 14) (t 15) h := by
  rw [kAt_holes [([1, 1, 1], 1)] [1, 1, 0, 1, 0] (by kernel_rfl), Jk72_0_h1, show (goX Try.prog cfg rc md 44 (bodyOf Try.prog 72) [([1, 1, 1], 1)] (retK Try.prog cfg 72 (rsOf Try.prog 72) h0)) 1 = _ from J72_1_cut rc md h0]
  exact Jk72_0_h2 rc md h0 e t h
/-- a round -/
noncomputable def Jr72_0 (rc : Rec) (md : Md) (s1 : Value) (s3 : Value) (s6 : Value) (s14 : Value) (s15 : Value) (h : Heap) : Option (((Value × Value × Value × Value × Value) × Heap) ⊕ (Exit × (Value × Value × Value × Value × Value) × Heap)) :=
  aBin Try.prog .lss 3 s15 (.int .i64 2) fun v1 =>
  cBn v1 fun b2 =>
  bif b2 then
    aIndex Try.prog 78 s14 s15 fun v3 =>
    cIn .i64 v3 fun n4 =>
    ldN 6 s3 h fun v5 =>
    ldN 6 s3 h fun v6 =>
    cl (rc md 76 [v6, s1, (.int .i64 n4)] h) fun v7 h8 =>
    cIn .i64 v7 fun n9 =>
    cLE true (fun hq => ldN 6 s3 hq some) v5 h h8 <|
    cl (rc md 65 [v5, (.int .i64 n9)] h8) fun v10 h11 =>
    cIn .u64 v10 fun n12 =>
    cl (rc md 77 [(.int .u64 n12)] h11) fun v13 h14 =>
    cIn .u64 v13 fun n15 =>
    aBin Try.prog .add 51 s6 (.int .u64 n15) fun v16 =>
    aBin Try.prog .or 51 v16 (.int .u64 (IntKind.wrap .u64 ((bAnd .u64 (Int.fdiv n12 (2 ^ 34)) 3) * 2 ^ 34))) fun v17 =>
    aBin Try.prog .add 3 s15 (.int .i64 1) fun v18 =>
    some (.inl ((s1, s3, v17, s14, v18), h14))
  else
    some (.inr ((.exit 0), (s1, s3, s6, s14, s15), h))
theorem Jr72_0_at (rc : Rec) (md : Md) (t : T) (h : Heap) : exec Try.prog cfg rc md 44 (sub (bodyOf Try.prog 72) [1, 1, 0, 1, 0, 0]) (rndK (fun t => (t 1, t 3, t 6, t 14, t 15))) t h = Jr72_0 rc md (t 1) (t 3) (t 6) (t 14) (t 15) h := by kernel_rfl
noncomputable def J72_0 (rc : Rec) (md : Md) (h0 : Heap) (s1 : Value) (s3 : Value) (s6 : Value) (s14 : Value) (s15 : Value) (h : Heap) : Option (Value × Heap) :=
  runL (fun x : (Value × Value × Value × Value × Value) × Heap => Jr72_0 rc md x.1.1 x.1.2.1 x.1.2.2.1 x.1.2.2.2.1 x.1.2.2.2.2 x.2) (fun e (s : Value × Value × Value × Value × Value) h => Jk72_0 rc md h0 e s.1 s.2.1 s.2.2.1 s.2.2.2.1 s.2.2.2.2 h) (s1, s3, s6, s14, s15) h
theorem J72_0_step (rc : Rec) (md : Md) (h0 : Heap) (s1 : Value) (s3 : Value) (s6 : Value) (s14 : Value) (s15 : Value) (h : Heap) : J72_0 rc md h0 s1 s3 s6 s14 s15 h = (Jr72_0 rc md s1 s3 s6 s14 s15 h).bind fun x => match x with
    | .inl (s, h) => J72_0 rc md h0 s.1 s.2.1 s.2.2.1 s.2.2.2.1 s.2.2.2.2 h
    | .inr (e, s, h) => Jk72_0 rc md h0 e s.1 s.2.1 s.2.2.1 s.2.2.2.1 s.2.2.2.2 h := by
  unfold J72_0
  rw [runL_eq]
  refine congrArg (Option.bind _) (funext fun x => ?_)
  rcases x with ⟨s, h⟩ | ⟨e, s, h⟩ <;> rfl
theorem J72_0_cut (rc : Rec) (md : Md) (h0 : Heap) : cut Try.prog cfg rc md 44 (bodyOf Try.prog 72) [1, 1, 0, 1, 0] (retK Try.prog cfg 72 (rsOf Try.prog 72) h0) = fun t h => J72_0 rc md h0 (t 1) (t 3) (t 6) (t 14) (t 15) h := by
  funext t h
  have e : sub (bodyOf Try.prog 72) [1, 1, 0, 1, 0] = .loop (sub (bodyOf Try.prog 72) [1, 1, 0, 1, 0, 0]) := by kernel_rfl
  unfold cut
  rw [e]
  exact loop_eq (by kernel_rfl) (fun t => (t 1, t 3, t 6, t 14, t 15)) (fun x : (Value × Value × Value × Value × Value) × Heap => Jr72_0 rc md x.1.1 x.1.2.1 x.1.2.2.1 x.1.2.2.2.1 x.1.2.2.2.2 x.2) (fun t h => Jr72_0_at rc md t h) (fun e (s : Value × Value × Value × Value × Value) h => Jk72_0 rc md h0 e s.1 s.2.1 s.2.2.1 s.2.2.2.1 s.2.2.2.2 h) (fun e t h => Jk72_0_at rc md h0 e t h) t h
noncomputable def F72 (rc : Rec) (md : Md) (a0_0 : Int) (a0_1 : Int) (a0_2 : Int) (a0_3 : Value) (a0_4 : Int) (a0_5 : Int) (a1 : Int) (a2 : Int) (h0 : Heap) : Option (Value × Heap) :=
  let h1 : Heap := h0 ++ [.own [(.int .i64 a0_0), (.int .i64 a0_1), (.int .i64 a0_2), a0_3, (.int .i64 a0_4), (.int .i64 a0_5)]]
  ldN 6 (.pointer (some ⟨h0.length, 0, none⟩)) h1 fun v2 =>
  cl (rc md 55 [v2, (.int .i64 a1), (.int .u64 a2)] h1) fun v3 h4 =>
  cIn .u64 v3 fun n5 =>
  J72_0 rc md h0 (.int .i64 a1) (.pointer (some ⟨h0.length, 0, none⟩)) (.int .u64 n5) (.agg #[(.int .i64 3), (.int .i64 4)]) (.int .i64 0) h4
noncomputable def F72H (rc : Rec) (md : Md) (X0 : T → Heap → Option (Value × Heap)) (a0_0 : Int) (a0_1 : Int) (a0_2 : Int) (a0_3 : Value) (a0_4 : Int) (a0_5 : Int) (a1 : Int) (a2 : Int) (h0 : Heap) : Option (Value × Heap) :=
  let h1 : Heap := h0 ++ [.own [(.int .i64 a0_0), (.int .i64 a0_1), (.int .i64 a0_2), a0_3, (.int .i64 a0_4), (.int .i64 a0_5)]]
  ldN 6 (.pointer (some ⟨h0.length, 0, none⟩)) h1 fun v2 =>
  cl (rc md 55 [v2, (.int .i64 a1), (.int .u64 a2)] h1) fun v3 h4 =>
  cIn .u64 v3 fun n5 =>
  X0 (upd (upd (upd (upd (upd (upd (upd (upd (args0 [(.agg #[(.int .i64 a0_0), (.int .i64 a0_1), (.int .i64 a0_2), a0_3, (.int .i64 a0_4), (.int .i64 a0_5)]), (.int .i64 a1), (.int .u64 a2)]) 3 (.pointer (some ⟨h0.length, 0, none⟩))) 10 v2) 11 (.int .i64 a1)) 12 (.int .u64 a2)) 13 (.int .u64 n5)) 6 (.int .u64 n5)) 14 (.agg #[(.int .i64 3), (.int .i64 4)])) 15 (.int .i64 0)) h4
theorem F72_h0 (rc : Rec) (md : Md) (a0_0 : Int) (a0_1 : Int) (a0_2 : Int) (a0_3 : Value) (a0_4 : Int) (a0_5 : Int) (a1 : Int) (a2 : Int) (h0 : Heap) : callStep0 Try.prog cfg rc md 72 [(.agg #[(.int .i64 a0_0), (.int .i64 a0_1), (.int .i64 a0_2), a0_3, (.int .i64 a0_4), (.int .i64 a0_5)]), (.int .i64 a1), (.int .u64 a2)] h0 = exec Try.prog cfg rc ⟨md.ro, h0.length⟩ 44 (bodyOf Try.prog 72) (retK Try.prog cfg 72 (rsOf Try.prog 72) h0) (args0 [(.agg #[(.int .i64 a0_0), (.int .i64 a0_1), (.int .i64 a0_2), a0_3, (.int .i64 a0_4), (.int .i64 a0_5)]), (.int .i64 a1), (.int .u64 a2)]) h0 := callStep0_run (by kernel_rfl) (by kernel_rfl) (by kernel_rfl)
theorem F72_h1 (rc : Rec) (md : Md) (X : Nat → T → Heap → Option (Value × Heap)) (a0_0 : Int) (a0_1 : Int) (a0_2 : Int) (a0_3 : Value) (a0_4 : Int) (a0_5 : Int) (a1 : Int) (a2 : Int) (h0 : Heap) : execG Try.prog cfg X rc md 44 (replS (bodyOf Try.prog 72) [([1, 1, 0, 1, 0], 0), ([1, 1, 1], 1)]) (retK Try.prog cfg 72 (rsOf Try.prog 72) h0) (args0 [(.agg #[(.int .i64 a0_0), (.int .i64 a0_1), (.int .i64 a0_2), a0_3, (.int .i64 a0_4), (.int .i64 a0_5)]), (.int .i64 a1), (.int .u64 a2)]) h0 = F72H rc md (X 0) a0_0 a0_1 a0_2 a0_3 a0_4 a0_5 a1 a2 h0 := by kernel_rfl
theorem F72_h2 (rc : Rec) (md : Md) (a0_0 : Int) (a0_1 : Int) (a0_2 : Int) (a0_3 : Value) (a0_4 : Int) (a0_5 : Int) (a1 : Int) (a2 : Int) (h0 : Heap) : F72H rc md (fun t h => J72_0 rc md h0 (t 1) (t 3) (t 6) (t 14) (t 15) h) a0_0 a0_1 a0_2 a0_3 a0_4 a0_5 a1 a2 h0 = F72 rc md a0_0 a0_1 a0_2 a0_3 a0_4 a0_5 a1 a2 h0 := by unfold F72H F72; kernel_rfl
theorem F72_eq0 (rc : Rec) (md : Md) (a0_0 : Int) (a0_1 : Int) (a0_2 : Int) (a0_3 : Value) (a0_4 : Int) (a0_5 : Int) (a1 : Int) (a2 : Int) (h0 : Heap) : callStep0 Try.prog cfg rc md 72 [(.agg #[(.int .i64 a0_0), (.int .i64 a0_1), (.int .i64 a0_2), a0_3, (.int .i64 a0_4), (.int .i64 a0_5)]), (.int .i64 a1), (.int .u64 a2)] h0 = F72 rc ⟨md.ro, h0.length⟩ a0_0 a0_1 a0_2 a0_3 a0_4 a0_5 a1 a2 h0 := by
  rw [F72_h0, exec_holes [([1, 1, 0, 1, 0], 0), ([1, 1, 1], 1)] (by kernel_rfl), F72_h1, show (goX Try.prog cfg rc ⟨md.ro, h0.length⟩ 44 (bodyOf Try.prog 72) [([1, 1, 0, 1, 0], 0), ([1, 1, 1], 1)] (retK Try.prog cfg 72 (rsOf Try.prog 72) h0)) 0 = _ from J72_0_cut rc ⟨md.ro, h0.length⟩ h0]
  exact F72_h2 rc _ a0_0 a0_1 a0_2 a0_3 a0_4 a0_5 a1 a2 h0
theorem F72_eq (rc : Rec) (md : Md) (a0_0 : Int) (a0_1 : Int) (a0_2 : Int) (a0_3 : Value) (a0_4 : Int) (a0_5 : Int) (a1 : Int) (a2 : Int) (h0 : Heap) : callStep Try.prog cfg rc md 72 [(.agg #[(.int .i64 a0_0), (.int .i64 a0_1), (.int .i64 a0_2), a0_3, (.int .i64 a0_4), (.int .i64 a0_5)]), (.int .i64 a1), (.int .u64 a2)] h0 = F72 rc ⟨md.ro, h0.length⟩ a0_0 a0_1 a0_2 a0_3 a0_4 a0_5 a1 a2 h0 := (callStep_ne (by kernel_rfl)).trans (F72_eq0 rc md a0_0 a0_1 a0_2 a0_3 a0_4 a0_5 a1 a2 h0)

/-- (tombolo/treap.Trees).parent -/
noncomputable def F73 (rc : Rec) (md : Md) (a0_0 : Int) (a0_1 : Int) (a0_2 : Int) (a0_3 : Value) (a0_4 : Int) (a0_5 : Int) (a1 : Int) (h0 : Heap) : Option (Value × Heap) :=
  let h1 : Heap := h0 ++ [.own [(.int .i64 a0_0), (.int .i64 a0_1), (.int .i64 a0_2), a0_3, (.int .i64 a0_4), (.int .i64 a0_5)]]
  ldN 6 (.pointer (some ⟨h0.length, 0, none⟩)) h1 fun v2 =>
  cl (rc md 66 [v2, (.int .i64 a1)] h1) fun v3 h4 =>
  cBn v3 fun b5 =>
  bif b5 then
    ld1 (.pointer (some ⟨h0.length, 3, none⟩)) h4 fun v6 =>
    ldN 3 (.pointer (some ⟨h0.length, 0, none⟩)) h4 fun v7 =>
    cl (rc md 54 [v7, (.int .i64 a1), (.int .i64 2)] h4) fun v8 h9 =>
    cIn .i64 v8 fun n10 =>
    cl (rc md 78 [v6, (.int .i64 n10)] h9) fun v11 h12 =>
    cIn .i64 v11 fun n13 =>
    some ((.int .i64 n13), List.take h0.length h12)
  else
    ldN 6 (.pointer (some ⟨h0.length, 0, none⟩)) h4 fun v14 =>
    cl (rc md 76 [v14, (.int .i64 a1), (.int .i64 2)] h4) fun v15 h16 =>
    cIn .i64 v15 fun n17 =>
    some ((.int .i64 n17), List.take h0.length h16)
theorem F73_eq0 (rc : Rec) (md : Md) (a0_0 : Int) (a0_1 : Int) (a0_2 : Int) (a0_3 : Value) (a0_4 : Int) (a0_5 : Int) (a1 : Int) (h0 : Heap) : callStep0 Try.prog cfg rc md 73 [(.agg #[(.int .i64 a0_0), (.int .i64 a0_1), (.int .i64 a0_2), a0_3, (.int .i64 a0_4), (.int .i64 a0_5)]), (.int .i64 a1)] h0 = F73 rc ⟨md.ro, h0.length⟩ a0_0 a0_1 a0_2 a0_3 a0_4 a0_5 a1 h0 := by kernel_rfl
theorem F73_eq (rc : Rec) (md : Md) (a0_0 : Int) (a0_1 : Int) (a0_2 : Int) (a0_3 : Value) (a0_4 : Int) (a0_5 : Int) (a1 : Int) (h0 : Heap) : callStep Try.prog cfg rc md 73 [(.agg #[(.int .i64 a0_0), (.int .i64 a0_1), (.int .i64 a0_2), a0_3, (.int .i64 a0_4), (.int .i64 a0_5)]), (.int .i64 a1)] h0 = F73 rc ⟨md.ro, h0.length⟩ a0_0 a0_1 a0_2 a0_3 a0_4 a0_5 a1 h0 := (callStep_ne (by kernel_rfl)).trans (F73_eq0 rc md a0_0 a0_1 a0_2 a0_3 a0_4 a0_5 a1 h0)

/-- (tombolo/treap.Trees).get -/
noncomputable def F76 (rc : Rec) (md : Md) (a0_0 : Int) (a0_1 : Int) (a0_2 : Int) (a0_3 : Value) (a0_4 : Int) (a0_5 : Int) (a1 : Int) (a2 : Int) (h0 : Heap) : Option (Value × Heap) :=
  let h1 : Heap := h0 ++ [.own [(.int .i64 a0_0), (.int .i64 a0_1), (.int .i64 a0_2), a0_3, (.int .i64 a0_4), (.int .i64 a0_5)]]
  ld1 (.pointer (some ⟨h0.length, 3, none⟩)) h1 fun v2 =>
  ldN 3 (.pointer (some ⟨h0.length, 0, none⟩)) h1 fun v3 =>
  cl (rc md 54 [v3, (.int .i64 a1), (.int .i64 a2)] h1) fun v4 h5 =>
  cIn .i64 v4 fun n6 =>
  bif okNil Try.prog v2 then
  clI Try.prog rc md v2 "Load" [(.int .i64 n6)] h5 fun v7 h8 =>
  cIn .u64 v7 fun n9 =>
  some ((.int .i64 (IntKind.wrap .i64 n9)), List.take h0.length h8)
  else none
theorem F76_eq0 (rc : Rec) (md : Md) (a0_0 : Int) (a0_1 : Int) (a0_2 : Int) (a0_3 : Value) (a0_4 : Int) (a0_5 : Int) (a1 : Int) (a2 : Int) (h0 : Heap) : callStep0 Try.prog cfg rc md 76 [(.agg #[(.int .i64 a0_0), (.int .i64 a0_1), (.int .i64 a0_2), a0_3, (.int .i64 a0_4), (.int .i64 a0_5)]), (.int .i64 a1), (.int .i64 a2)] h0 = F76 rc ⟨md.ro, h0.length⟩ a0_0 a0_1 a0_2 a0_3 a0_4 a0_5 a1 a2 h0 := by kernel_rfl
theorem F76_eq (rc : Rec) (md : Md) (a0_0 : Int) (a0_1 : Int) (a0_2 : Int) (a0_3 : Value) (a0_4 : Int) (a0_5 : Int) (a1 : Int) (a2 : Int) (h0 : Heap) : callStep Try.prog cfg rc md 76 [(.agg #[(.int .i64 a0_0), (.int .i64 a0_1), (.int .i64 a0_2), a0_3, (.int .i64 a0_4), (.int .i64 a0_5)]), (.int .i64 a1), (.int .i64 a2)] h0 = F76 rc ⟨md.ro, h0.length⟩ a0_0 a0_1 a0_2 a0_3 a0_4 a0_5 a1 a2 h0 := (callStep_ne (by kernel_rfl)).trans (F76_eq0 rc md a0_0 a0_1 a0_2 a0_3 a0_4 a0_5 a1 a2 h0)

/-- tombolo/treap.counts -/
noncomputable def F77 (rc : Rec) (md : Md) (a0 : Int) (h0 : Heap) : Option (Value × Heap) :=
  some ((.int .u64 (bAnd .u64 a0 4294967295)), h0)
theorem F77_eq0 (rc : Rec) (md : Md) (a0 : Int) (h0 : Heap) : callStep0 Try.prog cfg rc md 77 [(.int .u64 a0)] h0 = F77 rc ⟨h0.length, h0.length⟩ a0 h0 := by kernel_rfl
theorem F77_eq (rc : Rec) (md : Md) (a0 : Int) (h0 : Heap) : callStep Try.prog cfg rc md 77 [(.int .u64 a0)] h0 = alone h0 (F77 rc ⟨0, 0⟩ a0 []) := by
  have e : callStep Try.prog cfg rc md 77 [(.int .u64 a0)] h0 = alone h0 (callStep0 Try.prog cfg rc ⟨0, 0⟩ 77 [(.int .u64 a0)] []) := by kernel_rfl
  rw [e, F77_eq0]; rfl

end Go.Det.E
