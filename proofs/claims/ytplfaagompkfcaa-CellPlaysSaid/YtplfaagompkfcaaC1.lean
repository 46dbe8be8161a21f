/- Printed functions of the cells. -/
import Derived.Test.YtplfaagompkfcaaDetR
import Derived.Test.YtplfaagompkfcaaDetT
import Derived.Test.YtplfaagompkfcaaProg
set_option autoImplicit false
set_option linter.unusedVariables false
set_option linter.unusedSimpArgs false
namespace Go.Det.Cell
open Go.Proofs

def cfg : FuncId → Nat := fun f => bif Nat.beq f 32 || Nat.beq f 40 || Nat.beq f 45 || Nat.beq f 34 || Nat.beq f 30 || Nat.beq f 10 || Nat.beq f 11 || Nat.beq f 12 || Nat.beq f 13 then 2 else
  bif Nat.beq f 46 || Nat.beq f 35 || Nat.beq f 37 || Nat.beq f 38 || Nat.beq f 39 || Nat.beq f 36 || Nat.beq f 41 then 1 else 0

/-- (*tombolo/cell.Arena).Len -/
noncomputable def F32 (rc : Rec) (md : Md) (a0 : Value) (h0 : Heap) : Option (Value × Heap) :=
  bif okPtr a0 then
  fA 0 a0 fun v1 =>
  ld1 v1 h0 fun v2 =>
  lenS v2 fun v3 =>
  cIn .i64 v3 fun n4 =>
  some ((.int .i64 n4), h0)
  else none
theorem F32_eq0 (rc : Rec) (md : Md) (a0 : Value) (h0 : Heap) : callStep0 Try.prog cfg rc md 32 [a0] h0 = F32 rc ⟨h0.length, h0.length⟩ a0 h0 := by kernel_rfl
theorem F32_eq (rc : Rec) (md : Md) (a0 : Value) (h0 : Heap) : callStep Try.prog cfg rc md 32 [a0] h0 = F32 rc ⟨h0.length, h0.length⟩ a0 h0 := (callStep_ne (by kernel_rfl)).trans (F32_eq0 rc md a0 h0)

/-- (*tombolo/cell.Arena).Counts -/
noncomputable def F40 (rc : Rec) (md : Md) (a0 : Value) (h0 : Heap) : Option (Value × Heap) :=
  let h1 : Heap := h0 ++ [.own [(.int .i64 0), (.int .i64 0), (.int .i64 0), (.int .i64 0), (.int .i64 0)]]
  bif okPtr a0 then
  fA 1 a0 fun v2 =>
  ldN 5 v2 h1 fun v3 =>
  st md 5 (.pointer (some ⟨h0.length, 0, none⟩)) v3 h1 fun h4 =>
  ldN 5 (.pointer (some ⟨h0.length, 0, none⟩)) h4 fun v5 =>
  fin2 h0 v5
  else none
theorem F40_eq0 (rc : Rec) (md : Md) (a0 : Value) (h0 : Heap) : callStep0 Try.prog cfg rc md 40 [a0] h0 = F40 rc ⟨h0.length, h0.length⟩ a0 h0 := by kernel_rfl
theorem F40_eq (rc : Rec) (md : Md) (a0 : Value) (h0 : Heap) : callStep Try.prog cfg rc md 40 [a0] h0 = F40 rc ⟨h0.length, h0.length⟩ a0 h0 := (callStep_ne (by kernel_rfl)).trans (F40_eq0 rc md a0 h0)

/-- slices.Equal[[]uint64,uint64] -/
noncomputable def Jk45_0 (rc : Rec) (md : Md) (h0 : Heap) (e : Exit) (s0 : Value) (s1 : Value) (s4 : Value) (s12 : Value) (s13 : Value) (h : Heap) : Option (Value × Heap) :=
  match e with
  | .normal =>
    some ((.bool true), h0)
  | .exit j =>
    bif Nat.beq j 0 then
      some ((.bool true), h0)
    else
      none
  | .ret =>
    fin2 h0 s4
  | .goto l => none
  | .panic ps => none
  | .outgrown => none
theorem Jk45_0_at (rc : Rec) (md : Md) (h0 : Heap) (e : Exit) (t : T) (h : Heap) : kAt Try.prog cfg rc md 26 (bodyOf Try.prog 45) [1, 1, 0, 1, 0] (retK Try.prog cfg 45 (rsOf Try.prog 45) h0) e t h = Jk45_0 rc md h0 e (t 0) (t 1) (t 4) (t 12) (t 13) h := by cases e <;> kernel_rfl
/-- a round -/
noncomputable def Jr45_0 (rc : Rec) (md : Md) (s0 : Value) (s1 : Value) (s4 : Value) (s12 : Value) (s13 : Value) (h : Heap) : Option (((Value × Value × Value × Value × Value) × Heap) ⊕ (Exit × (Value × Value × Value × Value × Value) × Heap)) :=
  aBin Try.prog .lss 3 s13 s12 fun v1 =>
  cBn v1 fun b2 =>
  bif b2 then
    ixSV 1 s0 s13 fun v3 =>
    ld1 v3 h fun v4 =>
    cIn .u64 v4 fun n5 =>
    ixSV 1 s1 s13 fun v6 =>
    ld1 v6 h fun v7 =>
    cIn .u64 v7 fun n8 =>
    bif (n5 != n8) then
      some (.inr (.ret, (s0, s1, (.bool false), s12, s13), h))
    else
      aBin Try.prog .add 3 s13 (.int .i64 1) fun v9 =>
      some (.inl ((s0, s1, s4, s12, v9), h))
  else
    some (.inr ((.exit 0), (s0, s1, s4, s12, s13), h))
theorem Jr45_0_at (rc : Rec) (md : Md) (t : T) (h : Heap) : exec Try.prog cfg rc md 26 (sub (bodyOf Try.prog 45) [1, 1, 0, 1, 0, 0]) (rndK (fun t => (t 0, t 1, t 4, t 12, t 13))) t h = Jr45_0 rc md (t 0) (t 1) (t 4) (t 12) (t 13) h := by kernel_rfl
noncomputable def J45_0 (rc : Rec) (md : Md) (h0 : Heap) (s0 : Value) (s1 : Value) (s4 : Value) (s12 : Value) (s13 : Value) (h : Heap) : Option (Value × Heap) :=
  runL (fun x : (Value × Value × Value × Value × Value) × Heap => Jr45_0 rc md x.1.1 x.1.2.1 x.1.2.2.1 x.1.2.2.2.1 x.1.2.2.2.2 x.2) (fun e (s : Value × Value × Value × Value × Value) h => Jk45_0 rc md h0 e s.1 s.2.1 s.2.2.1 s.2.2.2.1 s.2.2.2.2 h) (s0, s1, s4, s12, s13) h
theorem J45_0_step (rc : Rec) (md : Md) (h0 : Heap) (s0 : Value) (s1 : Value) (s4 : Value) (s12 : Value) (s13 : Value) (h : Heap) : J45_0 rc md h0 s0 s1 s4 s12 s13 h = (Jr45_0 rc md s0 s1 s4 s12 s13 h).bind fun x => match x with
    | .inl (s, h) => J45_0 rc md h0 s.1 s.2.1 s.2.2.1 s.2.2.2.1 s.2.2.2.2 h
    | .inr (e, s, h) => Jk45_0 rc md h0 e s.1 s.2.1 s.2.2.1 s.2.2.2.1 s.2.2.2.2 h := by
  unfold J45_0
  rw [runL_eq]
  refine congrArg (Option.bind _) (funext fun x => ?_)
  rcases x with ⟨s, h⟩ | ⟨e, s, h⟩ <;> rfl
theorem J45_0_cut (rc : Rec) (md : Md) (h0 : Heap) : cut Try.prog cfg rc md 26 (bodyOf Try.prog 45) [1, 1, 0, 1, 0] (retK Try.prog cfg 45 (rsOf Try.prog 45) h0) = fun t h => J45_0 rc md h0 (t 0) (t 1) (t 4) (t 12) (t 13) h := by
  funext t h
  have e : sub (bodyOf Try.prog 45) [1, 1, 0, 1, 0] = .loop (sub (bodyOf Try.prog 45) [1, 1, 0, 1, 0, 0]) := by kernel_rfl
  unfold cut
  rw [e]
  exact loop_eq (by kernel_rfl) (fun t => (t 0, t 1, t 4, t 12, t 13)) (fun x : (Value × Value × Value × Value × Value) × Heap => Jr45_0 rc md x.1.1 x.1.2.1 x.1.2.2.1 x.1.2.2.2.1 x.1.2.2.2.2 x.2) (fun t h => Jr45_0_at rc md t h) (fun e (s : Value × Value × Value × Value × Value) h => Jk45_0 rc md h0 e s.1 s.2.1 s.2.2.1 s.2.2.2.1 s.2.2.2.2 h) (fun e t h => Jk45_0_at rc md h0 e t h) t h
noncomputable def F45 (rc : Rec) (md : Md) (a0 : Value) (a1 : Value) (h0 : Heap) : Option (Value × Heap) :=
  lenS a0 fun v1 =>
  cIn .i64 v1 fun n2 =>
  lenS a1 fun v3 =>
  cIn .i64 v3 fun n4 =>
  bif (n2 != n4) then
    some ((.bool false), h0)
  else
    lenS a0 fun v5 =>
    cIn .i64 v5 fun n6 =>
    J45_0 rc md h0 a0 a1 (.bool false) (.int .i64 n6) (.int .i64 0) h0
noncomputable def F45H (rc : Rec) (md : Md) (X0 : T → Heap → Option (Value × Heap)) (a0 : Value) (a1 : Value) (h0 : Heap) : Option (Value × Heap) :=
  lenS a0 fun v1 =>
  cIn .i64 v1 fun n2 =>
  lenS a1 fun v3 =>
  cIn .i64 v3 fun n4 =>
  bif (n2 != n4) then
    some ((.bool false), h0)
  else
    lenS a0 fun v5 =>
    cIn .i64 v5 fun n6 =>
    X0 (upd (upd (upd (upd (upd (upd (upd (upd (upd (args0 [a0, a1]) 4 (.bool false)) 6 a0) 7 (.int .i64 n2)) 8 a1) 9 (.int .i64 n4)) 10 (.bool (n2 != n4))) 11 a0) 12 (.int .i64 n6)) 13 (.int .i64 0)) h0
theorem F45_h0 (rc : Rec) (md : Md) (a0 : Value) (a1 : Value) (h0 : Heap) : callStep0 Try.prog cfg rc md 45 [a0, a1] h0 = exec Try.prog cfg rc ⟨h0.length, h0.length⟩ 26 (bodyOf Try.prog 45) (retK Try.prog cfg 45 (rsOf Try.prog 45) h0) (args0 [a0, a1]) h0 := callStep0_run (by kernel_rfl) (by kernel_rfl) (by kernel_rfl)
theorem F45_h1 (rc : Rec) (md : Md) (X : Nat → T → Heap → Option (Value × Heap)) (a0 : Value) (a1 : Value) (h0 : Heap) : execG Try.prog cfg X rc md 26 (replS (bodyOf Try.prog 45) [([1, 1, 0, 1, 0], 0)]) (retK Try.prog cfg 45 (rsOf Try.prog 45) h0) (args0 [a0, a1]) h0 = F45H rc md (X 0) a0 a1 h0 := by kernel_rfl
theorem F45_h2 (rc : Rec) (md : Md) (a0 : Value) (a1 : Value) (h0 : Heap) : F45H rc md (fun t h => J45_0 rc md h0 (t 0) (t 1) (t 4) (t 12) (t 13) h) a0 a1 h0 = F45 rc md a0 a1 h0 := by unfold F45H F45; kernel_rfl
theorem F45_eq0 (rc : Rec) (md : Md) (a0 : Value) (a1 : Value) (h0 : Heap) : callStep0 Try.prog cfg rc md 45 [a0, a1] h0 = F45 rc ⟨h0.length, h0.length⟩ a0 a1 h0 := by
  rw [F45_h0, exec_holes [([1, 1, 0, 1, 0], 0)] (by kernel_rfl), F45_h1, show (goX Try.prog cfg rc ⟨h0.length, h0.length⟩ 26 (bodyOf Try.prog 45) [([1, 1, 0, 1, 0], 0)] (retK Try.prog cfg 45 (rsOf Try.prog 45) h0)) 0 = _ from J45_0_cut rc ⟨h0.length, h0.length⟩ h0]
  exact F45_h2 rc _ a0 a1 h0
theorem F45_eq (rc : Rec) (md : Md) (a0 : Value) (a1 : Value) (h0 : Heap) : callStep Try.prog cfg rc md 45 [a0, a1] h0 = F45 rc ⟨h0.length, h0.length⟩ a0 a1 h0 := (callStep_ne (by kernel_rfl)).trans (F45_eq0 rc md a0 a1 h0)

/-- (*tombolo/cell.Arena).Equal -/
noncomputable def F34 (rc : Rec) (md : Md) (a0 : Value) (a1 : Value) (h0 : Heap) : Option (Value × Heap) :=
  bif okPtr a0 then
  fA 0 a0 fun v1 =>
  ld1 v1 h0 fun v2 =>
  bif okPtr a1 then
  fA 0 a1 fun v3 =>
  ld1 v3 h0 fun v4 =>
  cl (rc md 45 [v2, v4] h0) fun v5 h6 =>
  cBn v5 fun b7 =>
  some ((.bool b7), h0)
  else none
  else none
theorem F34_eq0 (rc : Rec) (md : Md) (a0 : Value) (a1 : Value) (h0 : Heap) : callStep0 Try.prog cfg rc md 34 [a0, a1] h0 = F34 rc ⟨h0.length, h0.length⟩ a0 a1 h0 := by kernel_rfl
theorem F34_eq (rc : Rec) (md : Md) (a0 : Value) (a1 : Value) (h0 : Heap) : callStep Try.prog cfg rc md 34 [a0, a1] h0 = F34 rc ⟨h0.length, h0.length⟩ a0 a1 h0 := (callStep_ne (by kernel_rfl)).trans (F34_eq0 rc md a0 a1 h0)

/-- slices.Clone[[]uint64,uint64] -/
noncomputable def F44 (rc : Rec) (md : Md) (a0 : Value) (h0 : Heap) : Option (Value × Heap) :=
  aBin Try.prog .eql 57 a0 (.slice none 0 0) fun v1 =>
  cBn v1 fun b2 =>
  bif b2 then
    some ((.slice none 0 0), h0)
  else
    let h3 : Heap := h0 ++ [.own []]
    aBuiltin Try.prog md .append #[57, 57] [(.slice (some ⟨h0.length, 0, none⟩) 0 1), a0] h3 fun v4 h5 =>
    some (v4, h5)
theorem F44_eq0 (rc : Rec) (md : Md) (a0 : Value) (h0 : Heap) : callStep0 Try.prog cfg rc md 44 [a0] h0 = F44 rc md a0 h0 := by kernel_rfl
theorem F44_eq (rc : Rec) (md : Md) (a0 : Value) (h0 : Heap) : callStep Try.prog cfg rc md 44 [a0] h0 = F44 rc md a0 h0 := (callStep_ne (by kernel_rfl)).trans (F44_eq0 rc md a0 h0)

/-- tombolo/cell.New -/
noncomputable def F31 (rc : Rec) (md : Md) (a0 : Int) (h0 : Heap) : Option (Value × Heap) :=
  (bif wantV (.bool (decide (a0 < 0))) false then
  some ((.int .i64 a0), h0)
  else some (undef, h0)).bind fun p1 =>
  (bif wantV (.bool (decide (a0 < 0))) false then
  aBin Try.prog .gtr 3 p1.1 (.int .i64 16384) fun v2 =>
  some (v2, p1.2)
  else some (undef, p1.2)).bind fun p3 =>
  cBn (bif (decide (a0 < 0)) then (.bool true) else p3.1) fun b4 =>
  bif b4 then
    some ((.tuple #[(.pointer none), (.int .i64 11)]), p3.2)
  else
    aMakeSlice Try.prog 57 (.int .i64 a0) (.int .i64 a0) p3.2 fun v5 h6 =>
    aBuild Try.prog 79 [(0, v5)] fun v7 =>
    let h8 : Heap := h6 ++ [.own v7.cells.toList]
    some ((.tuple #[(.pointer (some ⟨h6.length, 0, none⟩)), (.int .i64 0)]), h8)
theorem F31_eq0 (rc : Rec) (md : Md) (a0 : Int) (h0 : Heap) : callStep0 Try.prog cfg rc md 31 [(.int .i64 a0)] h0 = F31 rc md a0 h0 := by kernel_rfl
theorem F31_eq (rc : Rec) (md : Md) (a0 : Int) (h0 : Heap) : callStep Try.prog cfg rc md 31 [(.int .i64 a0)] h0 = F31 rc md a0 h0 := (callStep_ne (by kernel_rfl)).trans (F31_eq0 rc md a0 h0)

/-- (*tombolo/cell.Arena).Copy -/
noncomputable def F33 (rc : Rec) (md : Md) (a0 : Value) (h0 : Heap) : Option (Value × Heap) :=
  bif okPtr a0 then
  fA 0 a0 fun v1 =>
  ld1 v1 h0 fun v2 =>
  cl (rc md 44 [v2] h0) fun v3 h4 =>
  bif okPtr a0 then
  fA 1 a0 fun v5 =>
  ldN 5 v5 h4 fun v6 =>
  cLE true (fun hq => ldN 5 v5 hq some) v6 h0 h4 <|
  aBuild Try.prog 79 [(0, v3), (1, v6)] fun v7 =>
  let h8 : Heap := h4 ++ [.own v7.cells.toList]
  some ((.pointer (some ⟨h4.length, 0, none⟩)), h8)
  else none
  else none
theorem F33_eq0 (rc : Rec) (md : Md) (a0 : Value) (h0 : Heap) : callStep0 Try.prog cfg rc md 33 [a0] h0 = F33 rc md a0 h0 := by kernel_rfl
theorem F33_eq (rc : Rec) (md : Md) (a0 : Value) (h0 : Heap) : callStep Try.prog cfg rc md 33 [a0] h0 = F33 rc md a0 h0 := (callStep_ne (by kernel_rfl)).trans (F33_eq0 rc md a0 h0)

/-- (*tombolo/cell.Arena).at -/
noncomputable def F46 (rc : Rec) (md : Md) (a0 : Value) (a1 : Int) (a2 : Value) (h0 : Heap) : Option (Value × Heap) :=
  (bif wantV (.bool (decide (a1 < 0))) false then
  some ((.int .i64 a1), h0)
  else some (undef, h0)).bind fun p1 =>
  (bif wantV (.bool (decide (a1 < 0))) false then
  some (a0, p1.2)
  else some (undef, p1.2)).bind fun p2 =>
  (bif wantV (.bool (decide (a1 < 0))) false then
  bif okPtr p2.1 then
  some (p2.1, p2.2)
  else none
  else some (undef, p2.2)).bind fun p3 =>
  (bif wantV (.bool (decide (a1 < 0))) false then
  fA 0 p3.1 fun v4 =>
  some (v4, p3.2)
  else some (undef, p3.2)).bind fun p5 =>
  (bif wantV (.bool (decide (a1 < 0))) false then
  ld1 p5.1 p5.2 fun v6 =>
  some (v6, p5.2)
  else some (undef, p5.2)).bind fun p7 =>
  (bif wantV (.bool (decide (a1 < 0))) false then
  lenS p7.1 fun v8 =>
  cIn .i64 v8 fun n9 =>
  some ((.int .i64 n9), p7.2)
  else some (undef, p7.2)).bind fun p10 =>
  (bif wantV (.bool (decide (a1 < 0))) false then
  aBin Try.prog .geq 3 p1.1 p10.1 fun v11 =>
  some (v11, p10.2)
  else some (undef, p10.2)).bind fun p12 =>
  cBn (bif (decide (a1 < 0)) then (.bool true) else p12.1) fun b13 =>
  bif b13 then
    some ((.pointer none), List.take h0.length p12.2)
  else
    bif okPtr a2 then
    ld1 a2 p12.2 fun v14 =>
    cIn .i64 v14 fun n15 =>
    bif okPtr a2 then
    st md 1 a2 (.int .i64 (IntKind.wrap .i64 (n15 + 1))) p12.2 fun h16 =>
    bif okPtr a0 then
    fA 0 a0 fun v17 =>
    ld1 v17 h16 fun v18 =>
    ixS 1 v18 a1 fun v19 =>
    fin1 h0 v19 h16
    else none
    else none
    else none
theorem F46_eq0 (rc : Rec) (md : Md) (a0 : Value) (a1 : Int) (a2 : Value) (h0 : Heap) : callStep0 Try.prog cfg rc md 46 [a0, (.int .i64 a1), a2] h0 = F46 rc ⟨md.ro, h0.length⟩ a0 a1 a2 h0 := by kernel_rfl
theorem F46_eq (rc : Rec) (md : Md) (a0 : Value) (a1 : Int) (a2 : Value) (h0 : Heap) : callStep Try.prog cfg rc md 46 [a0, (.int .i64 a1), a2] h0 = F46 rc ⟨md.ro, h0.length⟩ a0 a1 a2 h0 := (callStep_ne (by kernel_rfl)).trans (F46_eq0 rc md a0 a1 a2 h0)

/-- (*tombolo/cell.Arena).Store -/
noncomputable def F35 (rc : Rec) (md : Md) (a0 : Value) (a1 : Int) (a2 : Int) (h0 : Heap) : Option (Value × Heap) :=
  bif okPtr a0 then
  fA 1 a0 fun v1 =>
  fA 1 v1 fun v2 =>
  cl (rc md 46 [a0, (.int .i64 a1), v2] h0) fun v3 h4 =>
  aBin Try.prog .eql 82 v3 (.pointer none) fun v5 =>
  cBn v5 fun b6 =>
  bif b6 then
    some ((.int .i64 20), List.take h0.length h4)
  else
    bif okPtr v3 then
    st md 1 v3 (.int .u64 a2) h4 fun h7 =>
    some ((.int .i64 0), List.take h0.length h7)
    else none
  else none
theorem F35_eq0 (rc : Rec) (md : Md) (a0 : Value) (a1 : Int) (a2 : Int) (h0 : Heap) : callStep0 Try.prog cfg rc md 35 [a0, (.int .i64 a1), (.int .u64 a2)] h0 = F35 rc ⟨md.ro, h0.length⟩ a0 a1 a2 h0 := by kernel_rfl
theorem F35_eq (rc : Rec) (md : Md) (a0 : Value) (a1 : Int) (a2 : Int) (h0 : Heap) : callStep Try.prog cfg rc md 35 [a0, (.int .i64 a1), (.int .u64 a2)] h0 = F35 rc ⟨md.ro, h0.length⟩ a0 a1 a2 h0 := (callStep_ne (by kernel_rfl)).trans (F35_eq0 rc md a0 a1 a2 h0)

/-- (*tombolo/cell.Arena).Load -/
noncomputable def F37 (rc : Rec) (md : Md) (a0 : Value) (a1 : Int) (h0 : Heap) : Option (Value × Heap) :=
  bif okPtr a0 then
  fA 1 a0 fun v1 =>
  fA 0 v1 fun v2 =>
  cl (rc md 46 [a0, (.int .i64 a1), v2] h0) fun v3 h4 =>
  aBin Try.prog .eql 82 v3 (.pointer none) fun v5 =>
  cBn v5 fun b6 =>
  bif b6 then
    some ((.tuple #[(.int .u64 0), (.int .i64 20)]), List.take h0.length h4)
  else
    bif okPtr v3 then
    ld1 v3 h4 fun v7 =>
    cIn .u64 v7 fun n8 =>
    some ((.tuple #[(.int .u64 n8), (.int .i64 0)]), List.take h0.length h4)
    else none
  else none
theorem F37_eq0 (rc : Rec) (md : Md) (a0 : Value) (a1 : Int) (h0 : Heap) : callStep0 Try.prog cfg rc md 37 [a0, (.int .i64 a1)] h0 = F37 rc ⟨md.ro, h0.length⟩ a0 a1 h0 := by kernel_rfl
theorem F37_eq (rc : Rec) (md : Md) (a0 : Value) (a1 : Int) (h0 : Heap) : callStep Try.prog cfg rc md 37 [a0, (.int .i64 a1)] h0 = F37 rc ⟨md.ro, h0.length⟩ a0 a1 h0 := (callStep_ne (by kernel_rfl)).trans (F37_eq0 rc md a0 a1 h0)

/-- (*tombolo/cell.Arena).Swap -/
noncomputable def J38_0 (rc : Rec) (md : Md) (h0 : Heap) (s0 : Value) (s1 : Value) (s2 : Value) (s3 : Value) (s10 : Value) (h : Heap) : Option (Value × Heap) :=
  cl (rc md 46 [s0, s1, s10] h) fun v1 h2 =>
  aBin Try.prog .eql 82 v1 (.pointer none) fun v3 =>
  cBn v3 fun b4 =>
  bif b4 then
    some ((.tuple #[(.bool false), (.int .i64 20)]), List.take h0.length h2)
  else
    bif okPtr v1 then
    ld1 v1 h2 fun v5 =>
    cIn .u64 v5 fun n6 =>
    aBin Try.prog .neq 24 (.int .u64 n6) s2 fun v7 =>
    cBn v7 fun b8 =>
    bif b8 then
      some ((.tuple #[(.bool false), (.int .i64 0)]), List.take h0.length h2)
    else
      bif okPtr v1 then
      st md 1 v1 s3 h2 fun h9 =>
      some ((.tuple #[(.bool true), (.int .i64 0)]), List.take h0.length h9)
      else none
    else none
theorem J38_0_at (rc : Rec) (md : Md) (h0 : Heap) (t : T) (h : Heap) : cut Try.prog cfg rc md 56 (bodyOf Try.prog 38) [1, 1, 1] (retK Try.prog cfg 38 (rsOf Try.prog 38) h0) t h = J38_0 rc md h0 (t 0) (t 1) (t 2) (t 3) (t 10) h := by kernel_rfl
theorem J38_0_cut (rc : Rec) (md : Md) (h0 : Heap) : cut Try.prog cfg rc md 56 (bodyOf Try.prog 38) [1, 1, 1] (retK Try.prog cfg 38 (rsOf Try.prog 38) h0) = fun t h => J38_0 rc md h0 (t 0) (t 1) (t 2) (t 3) (t 10) h := funext fun t => funext fun h => J38_0_at rc md h0 t h
noncomputable def F38 (rc : Rec) (md : Md) (a0 : Value) (a1 : Int) (a2 : Int) (a3 : Int) (h0 : Heap) : Option (Value × Heap) :=
  bif okPtr a0 then
  fA 1 a0 fun v1 =>
  fA 3 v1 fun v2 =>
  (bif wantV (.bool (decide (a1 ≥ 0))) true then
  some ((.int .i64 a1), h0)
  else some (undef, h0)).bind fun p3 =>
  (bif wantV (.bool (decide (a1 ≥ 0))) true then
  some (a0, p3.2)
  else some (undef, p3.2)).bind fun p4 =>
  (bif wantV (.bool (decide (a1 ≥ 0))) true then
  bif okPtr p4.1 then
  some (p4.1, p4.2)
  else none
  else some (undef, p4.2)).bind fun p5 =>
  (bif wantV (.bool (decide (a1 ≥ 0))) true then
  fA 0 p5.1 fun v6 =>
  some (v6, p5.2)
  else some (undef, p5.2)).bind fun p7 =>
  (bif wantV (.bool (decide (a1 ≥ 0))) true then
  ld1 p7.1 p7.2 fun v8 =>
  some (v8, p7.2)
  else some (undef, p7.2)).bind fun p9 =>
  (bif wantV (.bool (decide (a1 ≥ 0))) true then
  lenS p9.1 fun v10 =>
  cIn .i64 v10 fun n11 =>
  some ((.int .i64 n11), p9.2)
  else some (undef, p9.2)).bind fun p12 =>
  (bif wantV (.bool (decide (a1 ≥ 0))) true then
  aBin Try.prog .lss 3 p3.1 p12.1 fun v13 =>
  some (v13, p12.2)
  else some (undef, p12.2)).bind fun p14 =>
  cBn (bif (decide (a1 ≥ 0)) then p14.1 else (.bool false)) fun b15 =>
  (bif wantV (.bool b15) true then
  some (a0, p14.2)
  else some (undef, p14.2)).bind fun p16 =>
  (bif wantV (.bool b15) true then
  bif okPtr p16.1 then
  some (p16.1, p16.2)
  else none
  else some (undef, p16.2)).bind fun p17 =>
  (bif wantV (.bool b15) true then
  fA 0 p17.1 fun v18 =>
  some (v18, p17.2)
  else some (undef, p17.2)).bind fun p19 =>
  (bif wantV (.bool b15) true then
  ld1 p19.1 p19.2 fun v20 =>
  some (v20, p19.2)
  else some (undef, p19.2)).bind fun p21 =>
  (bif wantV (.bool b15) true then
  some ((.int .i64 a1), p21.2)
  else some (undef, p21.2)).bind fun p22 =>
  (bif wantV (.bool b15) true then
  ixSV 1 p21.1 p22.1 fun v23 =>
  some (v23, p22.2)
  else some (undef, p22.2)).bind fun p24 =>
  (bif wantV (.bool b15) true then
  ld1 p24.1 p24.2 fun v25 =>
  cIn .u64 v25 fun n26 =>
  some ((.int .u64 n26), p24.2)
  else some (undef, p24.2)).bind fun p27 =>
  (bif wantV (.bool b15) true then
  some ((.int .u64 a2), p27.2)
  else some (undef, p27.2)).bind fun p28 =>
  (bif wantV (.bool b15) true then
  aBin Try.prog .eql 24 p27.1 p28.1 fun v29 =>
  some (v29, p28.2)
  else some (undef, p28.2)).bind fun p30 =>
  cBn (bif b15 then p30.1 else (.bool false)) fun b31 =>
  bif b31 then
    bif okPtr a0 then
    fA 1 a0 fun v32 =>
    fA 2 v32 fun v33 =>
    J38_0 rc md h0 a0 (.int .i64 a1) (.int .u64 a2) (.int .u64 a3) v33 p30.2
    else none
  else
    J38_0 rc md h0 a0 (.int .i64 a1) (.int .u64 a2) (.int .u64 a3) v2 p30.2
  else none
noncomputable def F38H (rc : Rec) (md : Md) (X0 : T → Heap → Option (Value × Heap)) (a0 : Value) (a1 : Int) (a2 : Int) (a3 : Int) (h0 : Heap) : Option (Value × Heap) :=
  bif okPtr a0 then
  fA 1 a0 fun v1 =>
  fA 3 v1 fun v2 =>
  (bif wantV (.bool (decide (a1 ≥ 0))) true then
  some ((.int .i64 a1), h0)
  else some (undef, h0)).bind fun p3 =>
  (bif wantV (.bool (decide (a1 ≥ 0))) true then
  some (a0, p3.2)
  else some (undef, p3.2)).bind fun p4 =>
  (bif wantV (.bool (decide (a1 ≥ 0))) true then
  bif okPtr p4.1 then
  some (p4.1, p4.2)
  else none
  else some (undef, p4.2)).bind fun p5 =>
  (bif wantV (.bool (decide (a1 ≥ 0))) true then
  fA 0 p5.1 fun v6 =>
  some (v6, p5.2)
  else some (undef, p5.2)).bind fun p7 =>
  (bif wantV (.bool (decide (a1 ≥ 0))) true then
  ld1 p7.1 p7.2 fun v8 =>
  some (v8, p7.2)
  else some (undef, p7.2)).bind fun p9 =>
  (bif wantV (.bool (decide (a1 ≥ 0))) true then
  lenS p9.1 fun v10 =>
  cIn .i64 v10 fun n11 =>
  some ((.int .i64 n11), p9.2)
  else some (undef, p9.2)).bind fun p12 =>
  (bif wantV (.bool (decide (a1 ≥ 0))) true then
  aBin Try.prog .lss 3 p3.1 p12.1 fun v13 =>
  some (v13, p12.2)
  else some (undef, p12.2)).bind fun p14 =>
  cBn (bif (decide (a1 ≥ 0)) then p14.1 else (.bool false)) fun b15 =>
  (bif wantV (.bool b15) true then
  some (a0, p14.2)
  else some (undef, p14.2)).bind fun p16 =>
  (bif wantV (.bool b15) true then
  bif okPtr p16.1 then
  some (p16.1, p16.2)
  else none
  else some (undef, p16.2)).bind fun p17 =>
  (bif wantV (.bool b15) true then
  fA 0 p17.1 fun v18 =>
  some (v18, p17.2)
  else some (undef, p17.2)).bind fun p19 =>
  (bif wantV (.bool b15) true then
  ld1 p19.1 p19.2 fun v20 =>
  some (v20, p19.2)
  else some (undef, p19.2)).bind fun p21 =>
  (bif wantV (.bool b15) true then
  some ((.int .i64 a1), p21.2)
  else some (undef, p21.2)).bind fun p22 =>
  (bif wantV (.bool b15) true then
  ixSV 1 p21.1 p22.1 fun v23 =>
  some (v23, p22.2)
  else some (undef, p22.2)).bind fun p24 =>
  (bif wantV (.bool b15) true then
  ld1 p24.1 p24.2 fun v25 =>
  cIn .u64 v25 fun n26 =>
  some ((.int .u64 n26), p24.2)
  else some (undef, p24.2)).bind fun p27 =>
  (bif wantV (.bool b15) true then
  some ((.int .u64 a2), p27.2)
  else some (undef, p27.2)).bind fun p28 =>
  (bif wantV (.bool b15) true then
  aBin Try.prog .eql 24 p27.1 p28.1 fun v29 =>
  some (v29, p28.2)
  else some (undef, p28.2)).bind fun p30 =>
  cBn (bif b15 then p30.1 else (.bool false)) fun b31 =>
  bif b31 then
    bif okPtr a0 then
    fA 1 a0 fun v32 =>
    fA 2 v32 fun v33 =>
    X0 (upd (upd (upd (upd (upd (upd (upd (upd (upd (upd (upd (upd (upd (upd (upd (upd (upd (upd (upd (upd (upd (upd (upd (upd (upd (upd (upd (upd (upd (upd (upd (upd (upd (upd (args0 [a0, (.int .i64 a1), (.int .u64 a2), (.int .u64 a3)]) 8 (.bool false)) 9 (.int .i64 0)) 12 a0) 13 a0) 14 v1) 15 v2) 10 v2) 16 (.int .i64 a1)) 17 (.bool (decide (a1 ≥ 0)))) 18 (.bool (decide (a1 ≥ 0)))) 19 p3.1) 20 p4.1) 21 p5.1) 22 p7.1) 23 p9.1) 24 p12.1) 25 p14.1) 26 (.bool b15)) 27 (.bool b15)) 28 p16.1) 29 p17.1) 30 p19.1) 31 p21.1) 32 p22.1) 33 p24.1) 34 p27.1) 35 p28.1) 36 p30.1) 37 (.bool b31)) 38 a0) 39 a0) 40 v32) 41 v33) 10 v33) p30.2
    else none
  else
    X0 (upd (upd (upd (upd (upd (upd (upd (upd (upd (upd (upd (upd (upd (upd (upd (upd (upd (upd (upd (upd (upd (upd (upd (upd (upd (upd (upd (upd (upd (args0 [a0, (.int .i64 a1), (.int .u64 a2), (.int .u64 a3)]) 8 (.bool false)) 9 (.int .i64 0)) 12 a0) 13 a0) 14 v1) 15 v2) 10 v2) 16 (.int .i64 a1)) 17 (.bool (decide (a1 ≥ 0)))) 18 (.bool (decide (a1 ≥ 0)))) 19 p3.1) 20 p4.1) 21 p5.1) 22 p7.1) 23 p9.1) 24 p12.1) 25 p14.1) 26 (.bool b15)) 27 (.bool b15)) 28 p16.1) 29 p17.1) 30 p19.1) 31 p21.1) 32 p22.1) 33 p24.1) 34 p27.1) 35 p28.1) 36 p30.1) 37 (.bool b31)) p30.2
  else none
theorem F38_h0 (rc : Rec) (md : Md) (a0 : Value) (a1 : Int) (a2 : Int) (a3 : Int) (h0 : Heap) : callStep0 Try.prog cfg rc md 38 [a0, (.int .i64 a1), (.int .u64 a2), (.int .u64 a3)] h0 = exec Try.prog cfg rc ⟨md.ro, h0.length⟩ 56 (bodyOf Try.prog 38) (retK Try.prog cfg 38 (rsOf Try.prog 38) h0) (args0 [a0, (.int .i64 a1), (.int .u64 a2), (.int .u64 a3)]) h0 := callStep0_run (by kernel_rfl) (by kernel_rfl) (by kernel_rfl)
theorem F38_h1 (rc : Rec) (md : Md) (X : Nat → T → Heap → Option (Value × Heap)) (a0 : Value) (a1 : Int) (a2 : Int) (a3 : Int) (h0 : Heap) : execG Try.prog cfg X rc md 56 (replS (bodyOf Try.prog 38) [([1, 1, 1], 0)]) (retK Try.prog cfg 38 (rsOf Try.prog 38) h0) (args0 [a0, (.int .i64 a1), (.int .u64 a2), (.int .u64 a3)]) h0 = F38H rc md (X 0) a0 a1 a2 a3 h0 := by kernel_rfl
theorem F38_h2 (rc : Rec) (md : Md) (a0 : Value) (a1 : Int) (a2 : Int) (a3 : Int) (h0 : Heap) : F38H rc md (fun t h => J38_0 rc md h0 (t 0) (t 1) (t 2) (t 3) (t 10) h) a0 a1 a2 a3 h0 = F38 rc md a0 a1 a2 a3 h0 := by unfold F38H F38; kernel_rfl
theorem F38_eq0 (rc : Rec) (md : Md) (a0 : Value) (a1 : Int) (a2 : Int) (a3 : Int) (h0 : Heap) : callStep0 Try.prog cfg rc md 38 [a0, (.int .i64 a1), (.int .u64 a2), (.int .u64 a3)] h0 = F38 rc ⟨md.ro, h0.length⟩ a0 a1 a2 a3 h0 := by
  rw [F38_h0, exec_holes [([1, 1, 1], 0)] (by kernel_rfl), F38_h1, show (goX Try.prog cfg rc ⟨md.ro, h0.length⟩ 56 (bodyOf Try.prog 38) [([1, 1, 1], 0)] (retK Try.prog cfg 38 (rsOf Try.prog 38) h0)) 0 = _ from J38_0_cut rc ⟨md.ro, h0.length⟩ h0]
  exact F38_h2 rc _ a0 a1 a2 a3 h0
theorem F38_eq (rc : Rec) (md : Md) (a0 : Value) (a1 : Int) (a2 : Int) (a3 : Int) (h0 : Heap) : callStep Try.prog cfg rc md 38 [a0, (.int .i64 a1), (.int .u64 a2), (.int .u64 a3)] h0 = F38 rc ⟨md.ro, h0.length⟩ a0 a1 a2 a3 h0 := (callStep_ne (by kernel_rfl)).trans (F38_eq0 rc md a0 a1 a2 a3 h0)

/-- (*tombolo/cell.Arena).Add -/
noncomputable def F39 (rc : Rec) (md : Md) (a0 : Value) (a1 : Int) (a2 : Int) (h0 : Heap) : Option (Value × Heap) :=
  bif okPtr a0 then
  fA 1 a0 fun v1 =>
  fA 4 v1 fun v2 =>
  cl (rc md 46 [a0, (.int .i64 a1), v2] h0) fun v3 h4 =>
  aBin Try.prog .eql 82 v3 (.pointer none) fun v5 =>
  cBn v5 fun b6 =>
  bif b6 then
    some ((.tuple #[(.int .u64 0), (.int .i64 20)]), List.take h0.length h4)
  else
    bif okPtr v3 then
    ld1 v3 h4 fun v7 =>
    cIn .u64 v7 fun n8 =>
    bif okPtr v3 then
    ld1 v3 h4 fun v9 =>
    cIn .u64 v9 fun n10 =>
    bif okPtr v3 then
    st md 1 v3 (.int .u64 (IntKind.wrap .u64 (n10 + a2))) h4 fun h11 =>
    some ((.tuple #[(.int .u64 n8), (.int .i64 0)]), List.take h0.length h11)
    else none
    else none
    else none
  else none
theorem F39_eq0 (rc : Rec) (md : Md) (a0 : Value) (a1 : Int) (a2 : Int) (h0 : Heap) : callStep0 Try.prog cfg rc md 39 [a0, (.int .i64 a1), (.int .u64 a2)] h0 = F39 rc ⟨md.ro, h0.length⟩ a0 a1 a2 h0 := by kernel_rfl
theorem F39_eq (rc : Rec) (md : Md) (a0 : Value) (a1 : Int) (a2 : Int) (h0 : Heap) : callStep Try.prog cfg rc md 39 [a0, (.int .i64 a1), (.int .u64 a2)] h0 = F39 rc ⟨md.ro, h0.length⟩ a0 a1 a2 h0 := (callStep_ne (by kernel_rfl)).trans (F39_eq0 rc md a0 a1 a2 h0)

/-- tombolo/tombololaw02.refuses -/
noncomputable def F36 (rc : Rec) (md : Md) (a0 : Value) (a1_0 : Int) (a1_1 : Int) (a1_2 : Int) (a1_3 : Int) (h0 : Heap) : Option (Value × Heap) :=
  let h1 : Heap := h0 ++ [.own [(.int .i64 a1_0), (.int .i64 a1_1), (.int .u64 a1_2), (.int .u64 a1_3)]]
  cl (rc md 40 [a0] h1) fun v2 h3 =>
  let h4 : Heap := h3 ++ [.own [(.int .i64 0), (.int .i64 0), (.int .i64 0), (.int .i64 0), (.int .i64 0)]]
  st md 5 (.pointer (some ⟨h3.length, 0, none⟩)) v2 h4 fun h5 =>
  ld1 (.pointer (some ⟨h0.length, 1, none⟩)) h5 fun v6 =>
  cIn .i64 v6 fun n7 =>
  cl (rc md 37 [a0, (.int .i64 n7)] h5) fun v8 h9 =>
  exT v8 0 fun v10 =>
  cIn .u64 v10 fun n11 =>
  exT v8 1 fun v12 =>
  cIn .i64 v12 fun n13 =>
  ld1 (.pointer (some ⟨h0.length, 1, none⟩)) h9 fun v14 =>
  cIn .i64 v14 fun n15 =>
  ld1 (.pointer (some ⟨h0.length, 3, none⟩)) h9 fun v16 =>
  cIn .u64 v16 fun n17 =>
  cl (rc md 35 [a0, (.int .i64 n15), (.int .u64 n17)] h9) fun v18 h19 =>
  cIn .i64 v18 fun n20 =>
  ld1 (.pointer (some ⟨h0.length, 1, none⟩)) h19 fun v21 =>
  cIn .i64 v21 fun n22 =>
  ld1 (.pointer (some ⟨h0.length, 2, none⟩)) h19 fun v23 =>
  cIn .u64 v23 fun n24 =>
  ld1 (.pointer (some ⟨h0.length, 3, none⟩)) h19 fun v25 =>
  cIn .u64 v25 fun n26 =>
  cl (rc md 38 [a0, (.int .i64 n22), (.int .u64 n24), (.int .u64 n26)] h19) fun v27 h28 =>
  exT v27 0 fun v29 =>
  cBn v29 fun b30 =>
  exT v27 1 fun v31 =>
  cIn .i64 v31 fun n32 =>
  ld1 (.pointer (some ⟨h0.length, 1, none⟩)) h28 fun v33 =>
  cIn .i64 v33 fun n34 =>
  ld1 (.pointer (some ⟨h0.length, 3, none⟩)) h28 fun v35 =>
  cIn .u64 v35 fun n36 =>
  cl (rc md 39 [a0, (.int .i64 n34), (.int .u64 n36)] h28) fun v37 h38 =>
  exT v37 0 fun v39 =>
  cIn .u64 v39 fun n40 =>
  exT v37 1 fun v41 =>
  cIn .i64 v41 fun n42 =>
  (bif wantV (.bool (n11 == 0)) true then
  some ((.int .u64 n40), h38)
  else some (undef, h38)).bind fun p43 =>
  (bif wantV (.bool (n11 == 0)) true then
  aBin Try.prog .eql 24 p43.1 (.int .u64 0) fun v44 =>
  some (v44, p43.2)
  else some (undef, p43.2)).bind fun p45 =>
  cBn (bif (n11 == 0) then p45.1 else (.bool false)) fun b46 =>
  (bif wantV (.bool b46) true then
  some ((.bool b30), p45.2)
  else some (undef, p45.2)).bind fun p47 =>
  (bif wantV (.bool b46) true then
  aUn .not p47.1 fun v48 =>
  some (v48, p47.2)
  else some (undef, p47.2)).bind fun p49 =>
  cBn (bif b46 then p49.1 else (.bool false)) fun b50 =>
  (bif wantV (.bool b50) true then
  some ((.int .i64 n13), p49.2)
  else some (undef, p49.2)).bind fun p51 =>
  (bif wantV (.bool b50) true then
  aBin Try.prog .eql 25 p51.1 (.int .i64 20) fun v52 =>
  some (v52, p51.2)
  else some (undef, p51.2)).bind fun p53 =>
  cBn (bif b50 then p53.1 else (.bool false)) fun b54 =>
  (bif wantV (.bool b54) true then
  some ((.int .i64 n20), p53.2)
  else some (undef, p53.2)).bind fun p55 =>
  (bif wantV (.bool b54) true then
  aBin Try.prog .eql 25 p55.1 (.int .i64 20) fun v56 =>
  some (v56, p55.2)
  else some (undef, p55.2)).bind fun p57 =>
  cBn (bif b54 then p57.1 else (.bool false)) fun b58 =>
  (bif wantV (.bool b58) true then
  some ((.int .i64 n32), p57.2)
  else some (undef, p57.2)).bind fun p59 =>
  (bif wantV (.bool b58) true then
  aBin Try.prog .eql 25 p59.1 (.int .i64 20) fun v60 =>
  some (v60, p59.2)
  else some (undef, p59.2)).bind fun p61 =>
  cBn (bif b58 then p61.1 else (.bool false)) fun b62 =>
  (bif wantV (.bool b62) true then
  some ((.int .i64 n42), p61.2)
  else some (undef, p61.2)).bind fun p63 =>
  (bif wantV (.bool b62) true then
  aBin Try.prog .eql 25 p63.1 (.int .i64 20) fun v64 =>
  some (v64, p63.2)
  else some (undef, p63.2)).bind fun p65 =>
  cBn (bif b62 then p65.1 else (.bool false)) fun b66 =>
  (bif wantV (.bool b66) true then
  some (a0, p65.2)
  else some (undef, p65.2)).bind fun p67 =>
  (bif wantV (.bool b66) true then
  cl (rc md 40 [p67.1] p67.2) fun v68 h69 =>
  some (v68, h69)
  else some (undef, p67.2)).bind fun p70 =>
  (bif wantV (.bool b66) true then
  ldN 5 (.pointer (some ⟨h3.length, 0, none⟩)) p70.2 fun v71 =>
  some (v71, p70.2)
  else some (undef, p70.2)).bind fun p72 =>
  (bif wantV (.bool b66) true then
  aBin Try.prog .eql 59 p70.1 p72.1 fun v73 =>
  some (v73, p72.2)
  else some (undef, p72.2)).bind fun p74 =>
  cBn (bif b66 then p74.1 else (.bool false)) fun b75 =>
  some ((.bool b75), List.take h0.length p74.2)
theorem F36_eq0 (rc : Rec) (md : Md) (a0 : Value) (a1_0 : Int) (a1_1 : Int) (a1_2 : Int) (a1_3 : Int) (h0 : Heap) : callStep0 Try.prog cfg rc md 36 [a0, (.agg #[(.int .i64 a1_0), (.int .i64 a1_1), (.int .u64 a1_2), (.int .u64 a1_3)])] h0 = F36 rc ⟨md.ro, h0.length⟩ a0 a1_0 a1_1 a1_2 a1_3 h0 := by kernel_rfl
theorem F36_eq (rc : Rec) (md : Md) (a0 : Value) (a1_0 : Int) (a1_1 : Int) (a1_2 : Int) (a1_3 : Int) (h0 : Heap) : callStep Try.prog cfg rc md 36 [a0, (.agg #[(.int .i64 a1_0), (.int .i64 a1_1), (.int .u64 a1_2), (.int .u64 a1_3)])] h0 = F36 rc ⟨md.ro, h0.length⟩ a0 a1_0 a1_1 a1_2 a1_3 h0 := (callStep_ne (by kernel_rfl)).trans (F36_eq0 rc md a0 a1_0 a1_1 a1_2 a1_3 h0)

/-- tombolo/tombololaw02.CellCopies$1 -/
noncomputable def Jk41_0 (rc : Rec) (md : Md) (h0 : Heap) (e : Exit) (s0 : Value) (s6 : Value) (s7 : Value) (s8 : Value) (h : Heap) : Option (Value × Heap) :=
  match e with
  | .normal =>
    some ((.tuple #[]), List.take h0.length h)
  | .exit j =>
    bif Nat.beq j 0 then
      some ((.tuple #[]), List.take h0.length h)
    else
      none
  | .ret =>
    some ((.tuple #[]), List.take h0.length h)
  | .goto l => none
  | .panic ps => none
  | .outgrown => none
theorem Jk41_0_at (rc : Rec) (md : Md) (h0 : Heap) (e : Exit) (t : T) (h : Heap) : kAt Try.prog cfg rc md 41 (bodyOf Try.prog 41) [1, 0] (retK Try.prog cfg 41 (rsOf Try.prog 41) h0) e t h = Jk41_0 rc md h0 e (t 0) (t 6) (t 7) (t 8) h := by cases e <;> kernel_rfl
/-- a round -/
noncomputable def Jr41_0 (rc : Rec) (md : Md) (s0 : Value) (s6 : Value) (s7 : Value) (s8 : Value) (h : Heap) : Option (((Value × Value × Value × Value) × Heap) ⊕ (Exit × (Value × Value × Value × Value) × Heap)) :=
  aBin Try.prog .lss 3 s8 s7 fun v1 =>
  cBn v1 fun b2 =>
  bif b2 then
    ixSV 4 s6 s8 fun v3 =>
    ldN 4 v3 h fun v4 =>
    let h5 : Heap := h ++ [.own [(.int .i64 0), (.int .i64 0), (.int .u64 0), (.int .u64 0)]]
    st md 4 (.pointer (some ⟨h.length, 0, none⟩)) v4 h5 fun h6 =>
    ld1 (.pointer (some ⟨h.length, 0, none⟩)) h6 fun v7 =>
    cIn .i64 v7 fun n8 =>
    bif (n8 == 2) then
      ld1 (.pointer (some ⟨h.length, 1, none⟩)) h6 fun v9 =>
      cIn .i64 v9 fun n10 =>
      ld1 (.pointer (some ⟨h.length, 3, none⟩)) h6 fun v11 =>
      cIn .u64 v11 fun n12 =>
      cl (rc md 35 [s0, (.int .i64 n10), (.int .u64 n12)] h6) fun v13 h14 =>
      cIn .i64 v13 fun n15 =>
      aBin Try.prog .add 3 s8 (.int .i64 1) fun v16 =>
      some (.inl ((s0, s6, s7, v16), h14))
    else
      bif (n8 == 3) then
        ld1 (.pointer (some ⟨h.length, 1, none⟩)) h6 fun v17 =>
        cIn .i64 v17 fun n18 =>
        ld1 (.pointer (some ⟨h.length, 2, none⟩)) h6 fun v19 =>
        cIn .u64 v19 fun n20 =>
        ld1 (.pointer (some ⟨h.length, 3, none⟩)) h6 fun v21 =>
        cIn .u64 v21 fun n22 =>
        cl (rc md 38 [s0, (.int .i64 n18), (.int .u64 n20), (.int .u64 n22)] h6) fun v23 h24 =>
        aBin Try.prog .add 3 s8 (.int .i64 1) fun v25 =>
        some (.inl ((s0, s6, s7, v25), h24))
      else
        bif (n8 == 4) then
          ld1 (.pointer (some ⟨h.length, 1, none⟩)) h6 fun v26 =>
          cIn .i64 v26 fun n27 =>
          ld1 (.pointer (some ⟨h.length, 3, none⟩)) h6 fun v28 =>
          cIn .u64 v28 fun n29 =>
          cl (rc md 39 [s0, (.int .i64 n27), (.int .u64 n29)] h6) fun v30 h31 =>
          aBin Try.prog .add 3 s8 (.int .i64 1) fun v32 =>
          some (.inl ((s0, s6, s7, v32), h31))
        else
          aBin Try.prog .add 3 s8 (.int .i64 1) fun v33 =>
          some (.inl ((s0, s6, s7, v33), h6))
  else
    some (.inr ((.exit 0), (s0, s6, s7, s8), h))
theorem Jr41_0_at (rc : Rec) (md : Md) (t : T) (h : Heap) : exec Try.prog cfg rc md 41 (sub (bodyOf Try.prog 41) [1, 0, 0]) (rndK (fun t => (t 0, t 6, t 7, t 8))) t h = Jr41_0 rc md (t 0) (t 6) (t 7) (t 8) h := by kernel_rfl
noncomputable def J41_0 (rc : Rec) (md : Md) (h0 : Heap) (s0 : Value) (s6 : Value) (s7 : Value) (s8 : Value) (h : Heap) : Option (Value × Heap) :=
  runL (fun x : (Value × Value × Value × Value) × Heap => Jr41_0 rc md x.1.1 x.1.2.1 x.1.2.2.1 x.1.2.2.2 x.2) (fun e (s : Value × Value × Value × Value) h => Jk41_0 rc md h0 e s.1 s.2.1 s.2.2.1 s.2.2.2 h) (s0, s6, s7, s8) h
theorem J41_0_step (rc : Rec) (md : Md) (h0 : Heap) (s0 : Value) (s6 : Value) (s7 : Value) (s8 : Value) (h : Heap) : J41_0 rc md h0 s0 s6 s7 s8 h = (Jr41_0 rc md s0 s6 s7 s8 h).bind fun x => match x with
    | .inl (s, h) => J41_0 rc md h0 s.1 s.2.1 s.2.2.1 s.2.2.2 h
    | .inr (e, s, h) => Jk41_0 rc md h0 e s.1 s.2.1 s.2.2.1 s.2.2.2 h := by
  unfold J41_0
  rw [runL_eq]
  refine congrArg (Option.bind _) (funext fun x => ?_)
  rcases x with ⟨s, h⟩ | ⟨e, s, h⟩ <;> rfl
theorem J41_0_cut (rc : Rec) (md : Md) (h0 : Heap) : cut Try.prog cfg rc md 41 (bodyOf Try.prog 41) [1, 0] (retK Try.prog cfg 41 (rsOf Try.prog 41) h0) = fun t h => J41_0 rc md h0 (t 0) (t 6) (t 7) (t 8) h := by
  funext t h
  have e : sub (bodyOf Try.prog 41) [1, 0] = .loop (sub (bodyOf Try.prog 41) [1, 0, 0]) := by kernel_rfl
  unfold cut
  rw [e]
  exact loop_eq (by kernel_rfl) (fun t => (t 0, t 6, t 7, t 8)) (fun x : (Value × Value × Value × Value) × Heap => Jr41_0 rc md x.1.1 x.1.2.1 x.1.2.2.1 x.1.2.2.2 x.2) (fun t h => Jr41_0_at rc md t h) (fun e (s : Value × Value × Value × Value) h => Jk41_0 rc md h0 e s.1 s.2.1 s.2.2.1 s.2.2.2 h) (fun e t h => Jk41_0_at rc md h0 e t h) t h
noncomputable def F41 (rc : Rec) (md : Md) (a0 : Value) (a1 : Value) (h0 : Heap) : Option (Value × Heap) :=
  lenS a1 fun v1 =>
  cIn .i64 v1 fun n2 =>
  J41_0 rc md h0 a0 a1 (.int .i64 n2) (.int .i64 0) h0
noncomputable def F41H (rc : Rec) (md : Md) (X0 : T → Heap → Option (Value × Heap)) (a0 : Value) (a1 : Value) (h0 : Heap) : Option (Value × Heap) :=
  lenS a1 fun v1 =>
  cIn .i64 v1 fun n2 =>
  X0 (upd (upd (upd (args0 [a0, a1]) 6 a1) 7 (.int .i64 n2)) 8 (.int .i64 0)) h0
theorem F41_h0 (rc : Rec) (md : Md) (a0 : Value) (a1 : Value) (h0 : Heap) : callStep0 Try.prog cfg rc md 41 [a0, a1] h0 = exec Try.prog cfg rc ⟨md.ro, h0.length⟩ 41 (bodyOf Try.prog 41) (retK Try.prog cfg 41 (rsOf Try.prog 41) h0) (args0 [a0, a1]) h0 := callStep0_run (by kernel_rfl) (by kernel_rfl) (by kernel_rfl)
theorem F41_h1 (rc : Rec) (md : Md) (X : Nat → T → Heap → Option (Value × Heap)) (a0 : Value) (a1 : Value) (h0 : Heap) : execG Try.prog cfg X rc md 41 (replS (bodyOf Try.prog 41) [([1, 0], 0)]) (retK Try.prog cfg 41 (rsOf Try.prog 41) h0) (args0 [a0, a1]) h0 = F41H rc md (X 0) a0 a1 h0 := by kernel_rfl
theorem F41_h2 (rc : Rec) (md : Md) (a0 : Value) (a1 : Value) (h0 : Heap) : F41H rc md (fun t h => J41_0 rc md h0 (t 0) (t 6) (t 7) (t 8) h) a0 a1 h0 = F41 rc md a0 a1 h0 := by unfold F41H F41; kernel_rfl
theorem F41_eq0 (rc : Rec) (md : Md) (a0 : Value) (a1 : Value) (h0 : Heap) : callStep0 Try.prog cfg rc md 41 [a0, a1] h0 = F41 rc ⟨md.ro, h0.length⟩ a0 a1 h0 := by
  rw [F41_h0, exec_holes [([1, 0], 0)] (by kernel_rfl), F41_h1, show (goX Try.prog cfg rc ⟨md.ro, h0.length⟩ 41 (bodyOf Try.prog 41) [([1, 0], 0)] (retK Try.prog cfg 41 (rsOf Try.prog 41) h0)) 0 = _ from J41_0_cut rc ⟨md.ro, h0.length⟩ h0]
  exact F41_h2 rc _ a0 a1 h0
theorem F41_eq (rc : Rec) (md : Md) (a0 : Value) (a1 : Value) (h0 : Heap) : callStep Try.prog cfg rc md 41 [a0, a1] h0 = F41 rc ⟨md.ro, h0.length⟩ a0 a1 h0 := (callStep_ne (by kernel_rfl)).trans (F41_eq0 rc md a0 a1 h0)

/-- tombolo/tombololaw02.awake -/
noncomputable def F30 (rc : Rec) (md : Md)  (h0 : Heap) : Option (Value × Heap) :=
  cl (rc md 31 [(.int .i64 2)] h0) fun v1 h2 =>
  exT v1 0 fun v3 =>
  exT v1 1 fun v4 =>
  cIn .i64 v4 fun n5 =>
  cl (rc md 31 [(.int .i64 (-1))] h2) fun v6 h7 =>
  exT v6 0 fun v8 =>
  exT v6 1 fun v9 =>
  cIn .i64 v9 fun n10 =>
  (bif wantV (.bool (n5 != 0)) false then
  some (v3, h7)
  else some (undef, h7)).bind fun p11 =>
  (bif wantV (.bool (n5 != 0)) false then
  aBin Try.prog .eql 53 p11.1 (.pointer none) fun v12 =>
  some (v12, p11.2)
  else some (undef, p11.2)).bind fun p13 =>
  cBn (bif (n5 != 0) then (.bool true) else p13.1) fun b14 =>
  (bif wantV (.bool b14) false then
  some ((.int .i64 n10), p13.2)
  else some (undef, p13.2)).bind fun p15 =>
  (bif wantV (.bool b14) false then
  aBin Try.prog .neq 25 p15.1 (.int .i64 11) fun v16 =>
  some (v16, p15.2)
  else some (undef, p15.2)).bind fun p17 =>
  cBn (bif b14 then (.bool true) else p17.1) fun b18 =>
  (bif wantV (.bool b18) false then
  some (v3, p17.2)
  else some (undef, p17.2)).bind fun p19 =>
  (bif wantV (.bool b18) false then
  cl (rc md 35 [p19.1, (.int .i64 0), (.int .u64 5)] p19.2) fun v20 h21 =>
  cIn .i64 v20 fun n22 =>
  some ((.int .i64 n22), h21)
  else some (undef, p19.2)).bind fun p23 =>
  (bif wantV (.bool b18) false then
  aBin Try.prog .neq 25 p23.1 (.int .i64 0) fun v24 =>
  some (v24, p23.2)
  else some (undef, p23.2)).bind fun p25 =>
  cBn (bif b18 then (.bool true) else p25.1) fun b26 =>
  (bif wantV (.bool b26) false then
  some (v3, p25.2)
  else some (undef, p25.2)).bind fun p27 =>
  (bif wantV (.bool b26) false then
  cl (rc md 35 [p27.1, (.int .i64 2), (.int .u64 5)] p27.2) fun v28 h29 =>
  cIn .i64 v28 fun n30 =>
  some ((.int .i64 n30), h29)
  else some (undef, p27.2)).bind fun p31 =>
  (bif wantV (.bool b26) false then
  aBin Try.prog .neq 25 p31.1 (.int .i64 20) fun v32 =>
  some (v32, p31.2)
  else some (undef, p31.2)).bind fun p33 =>
  cBn (bif b26 then (.bool true) else p33.1) fun b34 =>
  bif b34 then
    some ((.bool false), h0)
  else
    cl (rc md 38 [v3, (.int .i64 0), (.int .u64 5), (.int .u64 7)] p33.2) fun v35 h36 =>
    exT v35 0 fun v37 =>
    cBn v37 fun b38 =>
    exT v35 1 fun v39 =>
    cIn .i64 v39 fun n40 =>
    cl (rc md 38 [v3, (.int .i64 0), (.int .u64 5), (.int .u64 9)] h36) fun v41 h42 =>
    exT v41 0 fun v43 =>
    cBn v43 fun b44 =>
    exT v41 1 fun v45 =>
    cIn .i64 v45 fun n46 =>
    cl (rc md 39 [v3, (.int .i64 0), (.int .u64 2)] h42) fun v47 h48 =>
    exT v47 0 fun v49 =>
    cIn .u64 v49 fun n50 =>
    exT v47 1 fun v51 =>
    cIn .i64 v51 fun n52 =>
    cl (rc md 37 [v3, (.int .i64 0)] h48) fun v53 h54 =>
    exT v53 0 fun v55 =>
    cIn .u64 v55 fun n56 =>
    exT v53 1 fun v57 =>
    cIn .i64 v57 fun n58 =>
    cl (rc md 33 [v3] h54) fun v59 h60 =>
    (bif wantV (.bool b38) true then
    some ((.bool b44), h60)
    else some (undef, h60)).bind fun p61 =>
    (bif wantV (.bool b38) true then
    aUn .not p61.1 fun v62 =>
    some (v62, p61.2)
    else some (undef, p61.2)).bind fun p63 =>
    cBn (bif b38 then p63.1 else (.bool false)) fun b64 =>
    (bif wantV (.bool b64) true then
    some ((.int .i64 n40), p63.2)
    else some (undef, p63.2)).bind fun p65 =>
    (bif wantV (.bool b64) true then
    aBin Try.prog .eql 25 p65.1 (.int .i64 0) fun v66 =>
    some (v66, p65.2)
    else some (undef, p65.2)).bind fun p67 =>
    cBn (bif b64 then p67.1 else (.bool false)) fun b68 =>
    (bif wantV (.bool b68) true then
    some ((.int .i64 n46), p67.2)
    else some (undef, p67.2)).bind fun p69 =>
    (bif wantV (.bool b68) true then
    aBin Try.prog .eql 25 p69.1 (.int .i64 0) fun v70 =>
    some (v70, p69.2)
    else some (undef, p69.2)).bind fun p71 =>
    cBn (bif b68 then p71.1 else (.bool false)) fun b72 =>
    (bif wantV (.bool b72) true then
    some ((.int .u64 n50), p71.2)
    else some (undef, p71.2)).bind fun p73 =>
    (bif wantV (.bool b72) true then
    aBin Try.prog .eql 24 p73.1 (.int .u64 7) fun v74 =>
    some (v74, p73.2)
    else some (undef, p73.2)).bind fun p75 =>
    cBn (bif b72 then p75.1 else (.bool false)) fun b76 =>
    (bif wantV (.bool b76) true then
    some ((.int .i64 n52), p75.2)
    else some (undef, p75.2)).bind fun p77 =>
    (bif wantV (.bool b76) true then
    aBin Try.prog .eql 25 p77.1 (.int .i64 0) fun v78 =>
    some (v78, p77.2)
    else some (undef, p77.2)).bind fun p79 =>
    cBn (bif b76 then p79.1 else (.bool false)) fun b80 =>
    (bif wantV (.bool b80) true then
    some ((.int .u64 n56), p79.2)
    else some (undef, p79.2)).bind fun p81 =>
    (bif wantV (.bool b80) true then
    aBin Try.prog .eql 24 p81.1 (.int .u64 9) fun v82 =>
    some (v82, p81.2)
    else some (undef, p81.2)).bind fun p83 =>
    cBn (bif b80 then p83.1 else (.bool false)) fun b84 =>
    (bif wantV (.bool b84) true then
    some ((.int .i64 n58), p83.2)
    else some (undef, p83.2)).bind fun p85 =>
    (bif wantV (.bool b84) true then
    aBin Try.prog .eql 25 p85.1 (.int .i64 0) fun v86 =>
    some (v86, p85.2)
    else some (undef, p85.2)).bind fun p87 =>
    cBn (bif b84 then p87.1 else (.bool false)) fun b88 =>
    (bif wantV (.bool b88) true then
    some (v3, p87.2)
    else some (undef, p87.2)).bind fun p89 =>
    (bif wantV (.bool b88) true then
    cl (rc md 32 [p89.1] p89.2) fun v90 h91 =>
    cIn .i64 v90 fun n92 =>
    some ((.int .i64 n92), h91)
    else some (undef, p89.2)).bind fun p93 =>
    (bif wantV (.bool b88) true then
    aBin Try.prog .eql 3 p93.1 (.int .i64 2) fun v94 =>
    some (v94, p93.2)
    else some (undef, p93.2)).bind fun p95 =>
    cBn (bif b88 then p95.1 else (.bool false)) fun b96 =>
    (bif wantV (.bool b96) true then
    some (v3, p95.2)
    else some (undef, p95.2)).bind fun p97 =>
    (bif wantV (.bool b96) true then
    cl (rc md 40 [p97.1] p97.2) fun v98 h99 =>
    some (v98, h99)
    else some (undef, p97.2)).bind fun p100 =>
    (bif wantV (.bool b96) true then
    some ((.agg #[(.int .i64 1), (.int .i64 1), (.int .i64 1), (.int .i64 1), (.int .i64 1)]), p100.2)
    else some (undef, p100.2)).bind fun p101 =>
    (bif wantV (.bool b96) true then
    aBin Try.prog .eql 59 p100.1 p101.1 fun v102 =>
    some (v102, p101.2)
    else some (undef, p101.2)).bind fun p103 =>
    cBn (bif b96 then p103.1 else (.bool false)) fun b104 =>
    (bif wantV (.bool b104) true then
    some (v59, p103.2)
    else some (undef, p103.2)).bind fun p105 =>
    (bif wantV (.bool b104) true then
    aBin Try.prog .neq 53 p105.1 (.pointer none) fun v106 =>
    some (v106, p105.2)
    else some (undef, p105.2)).bind fun p107 =>
    cBn (bif b104 then p107.1 else (.bool false)) fun b108 =>
    (bif wantV (.bool b108) true then
    some (v59, p107.2)
    else some (undef, p107.2)).bind fun p109 =>
    (bif wantV (.bool b108) true then
    some (v3, p109.2)
    else some (undef, p109.2)).bind fun p110 =>
    (bif wantV (.bool b108) true then
    cl (rc md 34 [p109.1, p110.1] p110.2) fun v111 h112 =>
    cBn v111 fun b113 =>
    some ((.bool b113), h112)
    else some (undef, p110.2)).bind fun p114 =>
    cBn (bif b108 then p114.1 else (.bool false)) fun b115 =>
    (bif wantV (.bool b115) true then
    some (v59, p114.2)
    else some (undef, p114.2)).bind fun p116 =>
    (bif wantV (.bool b115) true then
    cl (rc md 35 [p116.1, (.int .i64 1), (.int .u64 1)] p116.2) fun v117 h118 =>
    cIn .i64 v117 fun n119 =>
    some ((.int .i64 n119), h118)
    else some (undef, p116.2)).bind fun p120 =>
    (bif wantV (.bool b115) true then
    aBin Try.prog .eql 25 p120.1 (.int .i64 0) fun v121 =>
    some (v121, p120.2)
    else some (undef, p120.2)).bind fun p122 =>
    cBn (bif b115 then p122.1 else (.bool false)) fun b123 =>
    (bif wantV (.bool b123) true then
    some (v59, p122.2)
    else some (undef, p122.2)).bind fun p124 =>
    (bif wantV (.bool b123) true then
    some (v3, p124.2)
    else some (undef, p124.2)).bind fun p125 =>
    (bif wantV (.bool b123) true then
    cl (rc md 34 [p124.1, p125.1] p125.2) fun v126 h127 =>
    cBn v126 fun b128 =>
    some ((.bool b128), h127)
    else some (undef, p125.2)).bind fun p129 =>
    (bif wantV (.bool b123) true then
    aUn .not p129.1 fun v130 =>
    some (v130, p129.2)
    else some (undef, p129.2)).bind fun p131 =>
    cBn (bif b123 then p131.1 else (.bool false)) fun b132 =>
    some ((.bool b132), h0)
theorem F30_eq0 (rc : Rec) (md : Md)  (h0 : Heap) : callStep0 Try.prog cfg rc md 30 [] h0 = F30 rc ⟨h0.length, h0.length⟩  h0 := by kernel_rfl
theorem F30_eq (rc : Rec) (md : Md)  (h0 : Heap) : callStep Try.prog cfg rc md 30 [] h0 = F30 rc ⟨h0.length, h0.length⟩  h0 := (callStep_ne (by kernel_rfl)).trans (F30_eq0 rc md  h0)

/-- tombolo/tombololaw02.CellPlays -/
noncomputable def Jk10_2 (rc : Rec) (md : Md) (h0 : Heap) (e : Exit) (s4 : Value) (s5 : Value) (s218 : Value) (s219 : Value) (s220 : Value) (h : Heap) : Option (Value × Heap) :=
  match e with
  | .normal =>
    cl (rc md 30 [] h) fun v1 h2 =>
    cBn v1 fun b3 =>
    some ((.bool b3), h0)
  | .exit j =>
    bif Nat.beq j 3 then
      cl (rc md 30 [] h) fun v4 h5 =>
      cBn v4 fun b6 =>
      some ((.bool b6), h0)
    else
      none
  | .ret =>
    fin2 h0 s4
  | .goto l => none
  | .panic ps => none
  | .outgrown => none
theorem Jk10_2_at (rc : Rec) (md : Md) (h0 : Heap) (e : Exit) (t : T) (h : Heap) : kAt Try.prog cfg rc md 242 (bodyOf Try.prog 10) [1, 1, 1, 1, 1, 1, 1, 1, 0, 1, 0] (retK Try.prog cfg 10 (rsOf Try.prog 10) h0) e t h = Jk10_2 rc md h0 e (t 4) (t 5) (t 218) (t 219) (t 220) h := by cases e <;> kernel_rfl
/-- a round -/
noncomputable def Jr10_2 (rc : Rec) (md : Md) (s4 : Value) (s5 : Value) (s218 : Value) (s219 : Value) (s220 : Value) (h : Heap) : Option (((Value × Value × Value × Value × Value) × Heap) ⊕ (Exit × (Value × Value × Value × Value × Value) × Heap)) :=
  aBin Try.prog .lss 3 s220 s219 fun v1 =>
  cBn v1 fun b2 =>
  bif b2 then
    ixSV 1 s218 s220 fun v3 =>
    ld1 v3 h fun v4 =>
    cIn .u64 v4 fun n5 =>
    aBin Try.prog .gtr 3 s220 (.int .i64 200) fun v6 =>
    cBn v6 fun b7 =>
    bif b7 then
      some (.inr ((.exit 3), (s4, s5, s218, s219, s220), h))
    else
      cl (rc md 37 [s5, s220] h) fun v8 h9 =>
      exT v8 0 fun v10 =>
      cIn .u64 v10 fun n11 =>
      exT v8 1 fun v12 =>
      cIn .i64 v12 fun n13 =>
      (bif wantV (.bool (n11 != n5)) false then
      some ((.int .i64 n13), h9)
      else some (undef, h9)).bind fun p14 =>
      (bif wantV (.bool (n11 != n5)) false then
      aBin Try.prog .neq 25 p14.1 (.int .i64 0) fun v15 =>
      some (v15, p14.2)
      else some (undef, p14.2)).bind fun p16 =>
      cBn (bif (n11 != n5) then (.bool true) else p16.1) fun b17 =>
      bif b17 then
        some (.inr (.ret, ((.bool false), s5, s218, s219, s220), p16.2))
      else
        aBin Try.prog .add 3 s220 (.int .i64 1) fun v18 =>
        some (.inl ((s4, s5, s218, s219, v18), p16.2))
  else
    some (.inr ((.exit 3), (s4, s5, s218, s219, s220), h))
theorem Jr10_2_at (rc : Rec) (md : Md) (t : T) (h : Heap) : exec Try.prog cfg rc md 242 (sub (bodyOf Try.prog 10) [1, 1, 1, 1, 1, 1, 1, 1, 0, 1, 0, 0]) (rndK (fun t => (t 4, t 5, t 218, t 219, t 220))) t h = Jr10_2 rc md (t 4) (t 5) (t 218) (t 219) (t 220) h := by kernel_rfl
noncomputable def J10_2 (rc : Rec) (md : Md) (h0 : Heap) (s4 : Value) (s5 : Value) (s218 : Value) (s219 : Value) (s220 : Value) (h : Heap) : Option (Value × Heap) :=
  runL (fun x : (Value × Value × Value × Value × Value) × Heap => Jr10_2 rc md x.1.1 x.1.2.1 x.1.2.2.1 x.1.2.2.2.1 x.1.2.2.2.2 x.2) (fun e (s : Value × Value × Value × Value × Value) h => Jk10_2 rc md h0 e s.1 s.2.1 s.2.2.1 s.2.2.2.1 s.2.2.2.2 h) (s4, s5, s218, s219, s220) h
theorem J10_2_step (rc : Rec) (md : Md) (h0 : Heap) (s4 : Value) (s5 : Value) (s218 : Value) (s219 : Value) (s220 : Value) (h : Heap) : J10_2 rc md h0 s4 s5 s218 s219 s220 h = (Jr10_2 rc md s4 s5 s218 s219 s220 h).bind fun x => match x with
    | .inl (s, h) => J10_2 rc md h0 s.1 s.2.1 s.2.2.1 s.2.2.2.1 s.2.2.2.2 h
    | .inr (e, s, h) => Jk10_2 rc md h0 e s.1 s.2.1 s.2.2.1 s.2.2.2.1 s.2.2.2.2 h := by
  unfold J10_2
  rw [runL_eq]
  refine congrArg (Option.bind _) (funext fun x => ?_)
  rcases x with ⟨s, h⟩ | ⟨e, s, h⟩ <;> rfl
theorem J10_2_cut (rc : Rec) (md : Md) (h0 : Heap) : cut Try.prog cfg rc md 242 (bodyOf Try.prog 10) [1, 1, 1, 1, 1, 1, 1, 1, 0, 1, 0] (retK Try.prog cfg 10 (rsOf Try.prog 10) h0) = fun t h => J10_2 rc md h0 (t 4) (t 5) (t 218) (t 219) (t 220) h := by
  funext t h
  have e : sub (bodyOf Try.prog 10) [1, 1, 1, 1, 1, 1, 1, 1, 0, 1, 0] = .loop (sub (bodyOf Try.prog 10) [1, 1, 1, 1, 1, 1, 1, 1, 0, 1, 0, 0]) := by kernel_rfl
  unfold cut
  rw [e]
  exact loop_eq (by kernel_rfl) (fun t => (t 4, t 5, t 218, t 219, t 220)) (fun x : (Value × Value × Value × Value × Value) × Heap => Jr10_2 rc md x.1.1 x.1.2.1 x.1.2.2.1 x.1.2.2.2.1 x.1.2.2.2.2 x.2) (fun t h => Jr10_2_at rc md t h) (fun e (s : Value × Value × Value × Value × Value) h => Jk10_2 rc md h0 e s.1 s.2.1 s.2.2.1 s.2.2.2.1 s.2.2.2.2 h) (fun e t h => Jk10_2_at rc md h0 e t h) t h
noncomputable def J10_1 (rc : Rec) (md : Md) (h0 : Heap) (s4 : Value) (s5 : Value) (s7 : Value) (h : Heap) : Option (Value × Heap) :=
  lenS s7 fun v1 =>
  cIn .i64 v1 fun n2 =>
  J10_2 rc md h0 s4 s5 s7 (.int .i64 n2) (.int .i64 0) h
noncomputable def J10_1H (rc : Rec) (md : Md) (h0 : Heap) (X1 : T → Heap → Option (Value × Heap)) (t : T) (h : Heap) : Option (Value × Heap) :=
  lenS (t 7) fun v1 =>
  cIn .i64 v1 fun n2 =>
  X1 (upd (upd (upd t 218 (t 7)) 219 (.int .i64 n2)) 220 (.int .i64 0)) h
theorem J10_1_h1 (rc : Rec) (md : Md) (h0 : Heap) (X : Nat → T → Heap → Option (Value × Heap)) (t : T) (h : Heap) : execG Try.prog cfg X rc md 242 (sub (replS (bodyOf Try.prog 10) [([1, 1, 1, 1, 1, 1, 1, 0, 1, 0], 0), ([1, 1, 1, 1, 1, 1, 1, 1, 0, 1, 0], 1)]) [1, 1, 1, 1, 1, 1, 1, 1]) (kAtG Try.prog cfg X rc md 242 (replS (bodyOf Try.prog 10) [([1, 1, 1, 1, 1, 1, 1, 0, 1, 0], 0), ([1, 1, 1, 1, 1, 1, 1, 1, 0, 1, 0], 1)]) [1, 1, 1, 1, 1, 1, 1, 1] (retK Try.prog cfg 10 (rsOf Try.prog 10) h0)) t h = J10_1H rc md h0 (X 1) t h := by kernel_rfl
theorem J10_1_h2 (rc : Rec) (md : Md) (h0 : Heap) (t : T) (h : Heap) : J10_1H rc md h0 (fun t h => J10_2 rc md h0 (t 4) (t 5) (t 218) (t 219) (t 220) h) t h = J10_1 rc md h0 (t 4) (t 5) (t 7) h := by (unfold J10_1H J10_1; kernel_rfl)
theorem J10_1_at (rc : Rec) (md : Md) (h0 : Heap) (t : T) (h : Heap) : cut Try.prog cfg rc md 242 (bodyOf Try.prog 10) [1, 1, 1, 1, 1, 1, 1, 1] (retK Try.prog cfg 10 (rsOf Try.prog 10) h0) t h = J10_1 rc md h0 (t 4) (t 5) (t 7) h := by
  rw [cut_holes [([1, 1, 1, 1, 1, 1, 1, 0, 1, 0], 0), ([1, 1, 1, 1, 1, 1, 1, 1, 0, 1, 0], 1)] [1, 1, 1, 1, 1, 1, 1, 1] (by kernel_rfl), J10_1_h1, show (goX Try.prog cfg rc md 242 (bodyOf Try.prog 10) [([1, 1, 1, 1, 1, 1, 1, 0, 1, 0], 0), ([1, 1, 1, 1, 1, 1, 1, 1, 0, 1, 0], 1)] (retK Try.prog cfg 10 (rsOf Try.prog 10) h0)) 1 = _ from J10_2_cut rc md h0]
  exact J10_1_h2 rc md h0 t h
theorem J10_1_cut (rc : Rec) (md : Md) (h0 : Heap) : cut Try.prog cfg rc md 242 (bodyOf Try.prog 10) [1, 1, 1, 1, 1, 1, 1, 1] (retK Try.prog cfg 10 (rsOf Try.prog 10) h0) = fun t h => J10_1 rc md h0 (t 4) (t 5) (t 7) h := funext fun t => funext fun h => J10_1_at rc md h0 t h
noncomputable def Jk10_0 (rc : Rec) (md : Md) (h0 : Heap) (e : Exit) (s0 : Value) (s4 : Value) (s5 : Value) (s7 : Value) (s8 : Value) (s61 : Value) (s62 : Value) (s63 : Value) (h : Heap) : Option (Value × Heap) :=
  match e with
  | .normal =>
    J10_1 rc md h0 s4 s5 s7 h
  | .exit j =>
    bif Nat.beq j 0 then
      J10_1 rc md h0 s4 s5 s7 h
    else
      none
  | .ret =>
    fin2 h0 s4
  | .goto l => none
  | .panic ps => none
  | .outgrown => none
noncomputable def Jk10_0H (rc : Rec) (md : Md) (h0 : Heap) (X2 : T → Heap → Option (Value × Heap)) (e : Exit) (t : T) (h : Heap) : Option (Value × Heap) :=
  match e with
  | .normal =>
    X2 t h
  | .exit j =>
    bif Nat.beq j 0 then
      X2 t h
    else
      none
  | .ret =>
    fin2 h0 (t 4)
  | .goto l => none
  | .panic ps => none
  | .outgrown => none
theorem Jk10_0_h1 (rc : Rec) (md : Md) (h0 : Heap) (X : Nat → T → Heap → Option (Value × Heap)) (e : Exit) (t : T) (h : Heap) : kAtG Try.prog cfg X rc md 242 (replS (bodyOf Try.prog 10) [([1, 1, 1, 1, 1, 1, 1, 1, 0, 1, 0], 1), ([1, 1, 1, 1, 1, 1, 1, 1], 2)]) [1, 1, 1, 1, 1, 1, 1, 0, 1, 0] (retK Try.prog cfg 10 (rsOf Try.prog 10) h0) e t h = Jk10_0H rc md h0 (X 2) e t h := by cases e <;> kernel_rfl
theorem Jk10_0_h2 (rc : Rec) (md : Md) (h0 : Heap) (e : Exit) (t : T) (h : Heap) : Jk10_0H rc md h0 (fun t h => J10_1 rc md h0 (t 4) (t 5) (t 7) h) e t h = Jk10_0 rc md h0 e (t 0) (t 4) (t 5) (t 7) (t 8) (t 61) (t 62) (t 63) h := by cases e <;> (unfold Jk10_0H Jk10_0; kernel_rfl)
theorem Jk10_0_at (rc : Rec) (md : Md) (h0 : Heap) (e : Exit) (t : T) (h : Heap) : kAt Try.prog cfg rc md 242 (bodyOf Try.prog 10) [1, 1, 1, 1, 1, 1, 1, 0, 1, 0] (retK Try.prog cfg 10 (rsOf Try.prog 10) h0) e t h = Jk10_0 rc md h0 e (t 0) (t 4) (t 5) (t 7) (t 8) (t 61) (t 62) (t 63) h := by
  rw [kAt_holes [([1, 1, 1, 1, 1, 1, 1, 1, 0, 1, 0], 1), ([1, 1, 1, 1, 1, 1, 1, 1], 2)] [1, 1, 1, 1, 1, 1, 1, 0, 1, 0] (by kernel_rfl), Jk10_0_h1, show (goX Try.prog cfg rc md 242 (bodyOf Try.prog 10) [([1, 1, 1, 1, 1, 1, 1, 1, 0, 1, 0], 1), ([1, 1, 1, 1, 1, 1, 1, 1], 2)] (retK Try.prog cfg 10 (rsOf Try.prog 10) h0)) 2 = _ from J10_1_cut rc md h0]
  exact Jk10_0_h2 rc md h0 e t h
noncomputable def J10_0b0 (rc : Rec) (md : Md) (s0 : Value) (s4 : Value) (s5 : Value) (s7 : Value) (s8 : Value) (s61 : Value) (s62 : Value) (s63 : Value) (h : Heap) : Option (((Value × Value × Value × Value × Value × Value × Value × Value) × Heap) ⊕ (Exit × (Value × Value × Value × Value × Value × Value × Value × Value) × Heap)) :=
  cl (rc md 40 [s5] h) fun v1 h2 =>
  ldN 5 s8 h2 fun v3 =>
  aBin Try.prog .neq 59 v1 v3 fun v4 =>
  cBn v4 fun b5 =>
  bif b5 then
    some (.inr (.ret, (s0, (.bool false), s5, s7, s8, s61, s62, s63), h2))
  else
    aBin Try.prog .add 3 s63 (.int .i64 1) fun v6 =>
    some (.inl ((s0, s4, s5, s7, s8, s61, s62, v6), h2))
theorem J10_0b0_at (rc : Rec) (md : Md) (t : T) (h : Heap) : cut Try.prog cfg rc md 242 (sub (bodyOf Try.prog 10) [1, 1, 1, 1, 1, 1, 1, 0, 1, 0, 0]) [1, 1, 0, 0, 1, 1, 1, 1, 1] (rndK (fun t => (t 0, t 4, t 5, t 7, t 8, t 61, t 62, t 63))) t h = J10_0b0 rc md (t 0) (t 4) (t 5) (t 7) (t 8) (t 61) (t 62) (t 63) h := by kernel_rfl
theorem J10_0b0_cut (rc : Rec) (md : Md) : cut Try.prog cfg rc md 242 (sub (bodyOf Try.prog 10) [1, 1, 1, 1, 1, 1, 1, 0, 1, 0, 0]) [1, 1, 0, 0, 1, 1, 1, 1, 1] (rndK (fun t => (t 0, t 4, t 5, t 7, t 8, t 61, t 62, t 63))) = fun t h => J10_0b0 rc md (t 0) (t 4) (t 5) (t 7) (t 8) (t 61) (t 62) (t 63) h := funext fun t => funext fun h => J10_0b0_at rc md t h
/-- a round -/
noncomputable def Jr10_0 (rc : Rec) (md : Md) (s0 : Value) (s4 : Value) (s5 : Value) (s7 : Value) (s8 : Value) (s61 : Value) (s62 : Value) (s63 : Value) (h : Heap) : Option (((Value × Value × Value × Value × Value × Value × Value × Value) × Heap) ⊕ (Exit × (Value × Value × Value × Value × Value × Value × Value × Value) × Heap)) :=
  aBin Try.prog .lss 3 s63 s62 fun v1 =>
  cBn v1 fun b2 =>
  bif b2 then
    ixSV 4 s61 s63 fun v3 =>
    ldN 4 v3 h fun v4 =>
    let h5 : Heap := h ++ [.own [(.int .i64 0), (.int .i64 0), (.int .u64 0), (.int .u64 0)]]
    st md 4 (.pointer (some ⟨h.length, 0, none⟩)) v4 h5 fun h6 =>
    ld1 (.pointer (some ⟨h.length, 0, none⟩)) h6 fun v7 =>
    cIn .i64 v7 fun n8 =>
    bif (n8 == 5) then
      cl (rc md 33 [s5] h6) fun v9 h10 =>
      aBin Try.prog .eql 53 v9 (.pointer none) fun v11 =>
      (bif wantV v11 false then
      some (v9, h10)
      else some (undef, h10)).bind fun p12 =>
      (bif wantV v11 false then
      some (s5, p12.2)
      else some (undef, p12.2)).bind fun p13 =>
      (bif wantV v11 false then
      cl (rc md 34 [p12.1, p13.1] p13.2) fun v14 h15 =>
      cBn v14 fun b16 =>
      some ((.bool b16), h15)
      else some (undef, p13.2)).bind fun p17 =>
      (bif wantV v11 false then
      aUn .not p17.1 fun v18 =>
      some (v18, p17.2)
      else some (undef, p17.2)).bind fun p19 =>
      cBn v11 fun q20 =>
      cBn (bif q20 then (.bool true) else p19.1) fun b21 =>
      bif b21 then
        some (.inr (.ret, (s0, (.bool false), s5, s7, s8, s61, s62, s63), p19.2))
      else
        ld1 (.pointer (some ⟨h.length, 3, none⟩)) p19.2 fun v22 =>
        cIn .u64 v22 fun n23 =>
        cl (rc md 35 [s5, (.int .i64 0), (.int .u64 (IntKind.wrap .u64 (n23 + 1)))] p19.2) fun v24 h25 =>
        cIn .i64 v24 fun n26 =>
        aBin Try.prog .add 3 s63 (.int .i64 1) fun v27 =>
        some (.inl ((s0, s4, v9, s7, s8, s61, s62, v27), h25))
    else
      ld1 (.pointer (some ⟨h.length, 1, none⟩)) h6 fun v28 =>
      cIn .i64 v28 fun n29 =>
      (bif wantV (.bool (decide (n29 < 0))) false then
      some ((.pointer (some ⟨h.length, 1, none⟩)), h6)
      else some (undef, h6)).bind fun p30 =>
      (bif wantV (.bool (decide (n29 < 0))) false then
      ld1 p30.1 p30.2 fun v31 =>
      cIn .i64 v31 fun n32 =>
      some ((.int .i64 n32), p30.2)
      else some (undef, p30.2)).bind fun p33 =>
      (bif wantV (.bool (decide (n29 < 0))) false then
      some (s0, p33.2)
      else some (undef, p33.2)).bind fun p34 =>
      (bif wantV (.bool (decide (n29 < 0))) false then
      aBin Try.prog .geq 3 p33.1 p34.1 fun v35 =>
      some (v35, p34.2)
      else some (undef, p34.2)).bind fun p36 =>
      cBn (bif (decide (n29 < 0)) then (.bool true) else p36.1) fun b37 =>
      bif b37 then
        ldN 4 (.pointer (some ⟨h.length, 0, none⟩)) p36.2 fun v38 =>
        cl (rc md 36 [s5, v38] p36.2) fun v39 h40 =>
        cBn v39 fun b41 =>
        bif !b41 then
          some (.inr (.ret, (s0, (.bool false), s5, s7, s8, s61, s62, s63), h40))
        else
          aBin Try.prog .add 3 s63 (.int .i64 1) fun v42 =>
          some (.inl ((s0, s4, s5, s7, s8, s61, s62, v42), h40))
      else
        ld1 (.pointer (some ⟨h.length, 1, none⟩)) p36.2 fun v43 =>
        cIn .i64 v43 fun n44 =>
        ixS 1 s7 n44 fun v45 =>
        ld1 v45 p36.2 fun v46 =>
        cIn .u64 v46 fun n47 =>
        ld1 (.pointer (some ⟨h.length, 0, none⟩)) p36.2 fun v48 =>
        cIn .i64 v48 fun n49 =>
        bif (n49 == 1) then
          ld1 (.pointer (some ⟨h.length, 1, none⟩)) p36.2 fun v50 =>
          cIn .i64 v50 fun n51 =>
          cl (rc md 37 [s5, (.int .i64 n51)] p36.2) fun v52 h53 =>
          exT v52 0 fun v54 =>
          cIn .u64 v54 fun n55 =>
          exT v52 1 fun v56 =>
          cIn .i64 v56 fun n57 =>
          fA 0 s8 fun v58 =>
          ld1 v58 h53 fun v59 =>
          cIn .i64 v59 fun n60 =>
          fA 0 s8 fun v61 =>
          st md 1 v61 (.int .i64 (IntKind.wrap .i64 (n60 + 1))) h53 fun h62 =>
          (bif wantV (.bool (n55 != n47)) false then
          some ((.int .i64 n57), h62)
          else some (undef, h62)).bind fun p63 =>
          (bif wantV (.bool (n55 != n47)) false then
          aBin Try.prog .neq 25 p63.1 (.int .i64 0) fun v64 =>
          some (v64, p63.2)
          else some (undef, p63.2)).bind fun p65 =>
          cBn (bif (n55 != n47) then (.bool true) else p65.1) fun b66 =>
          bif b66 then
            some (.inr (.ret, (s0, (.bool false), s5, s7, s8, s61, s62, s63), p65.2))
          else
            J10_0b0 rc md s0 s4 s5 s7 s8 s61 s62 s63 p65.2
        else
          bif (n49 == 2) then
            ld1 (.pointer (some ⟨h.length, 1, none⟩)) p36.2 fun v67 =>
            cIn .i64 v67 fun n68 =>
            ld1 (.pointer (some ⟨h.length, 3, none⟩)) p36.2 fun v69 =>
            cIn .u64 v69 fun n70 =>
            ixS 1 s7 n68 fun v71 =>
            st md 1 v71 (.int .u64 n70) p36.2 fun h72 =>
            fA 1 s8 fun v73 =>
            ld1 v73 h72 fun v74 =>
            cIn .i64 v74 fun n75 =>
            fA 1 s8 fun v76 =>
            st md 1 v76 (.int .i64 (IntKind.wrap .i64 (n75 + 1))) h72 fun h77 =>
            ld1 (.pointer (some ⟨h.length, 1, none⟩)) h77 fun v78 =>
            cIn .i64 v78 fun n79 =>
            ld1 (.pointer (some ⟨h.length, 3, none⟩)) h77 fun v80 =>
            cIn .u64 v80 fun n81 =>
            cl (rc md 35 [s5, (.int .i64 n79), (.int .u64 n81)] h77) fun v82 h83 =>
            cIn .i64 v82 fun n84 =>
            bif (n84 != 0) then
              some (.inr (.ret, (s0, (.bool false), s5, s7, s8, s61, s62, s63), h83))
            else
              J10_0b0 rc md s0 s4 s5 s7 s8 s61 s62 s63 h83
          else
            bif (n49 == 3) then
              ld1 (.pointer (some ⟨h.length, 1, none⟩)) p36.2 fun v85 =>
              cIn .i64 v85 fun n86 =>
              ld1 (.pointer (some ⟨h.length, 2, none⟩)) p36.2 fun v87 =>
              cIn .u64 v87 fun n88 =>
              ld1 (.pointer (some ⟨h.length, 3, none⟩)) p36.2 fun v89 =>
              cIn .u64 v89 fun n90 =>
              cl (rc md 38 [s5, (.int .i64 n86), (.int .u64 n88), (.int .u64 n90)] p36.2) fun v91 h92 =>
              exT v91 0 fun v93 =>
              cBn v93 fun b94 =>
              exT v91 1 fun v95 =>
              cIn .i64 v95 fun n96 =>
              ld1 (.pointer (some ⟨h.length, 2, none⟩)) h92 fun v97 =>
              cIn .u64 v97 fun n98 =>
              aBin Try.prog .neq 4 (.bool b94) (.bool (n47 == n98)) fun v99 =>
              (bif wantV v99 false then
              some ((.int .i64 n96), h92)
              else some (undef, h92)).bind fun p100 =>
              (bif wantV v99 false then
              aBin Try.prog .neq 25 p100.1 (.int .i64 0) fun v101 =>
              some (v101, p100.2)
              else some (undef, p100.2)).bind fun p102 =>
              cBn v99 fun q103 =>
              cBn (bif q103 then (.bool true) else p102.1) fun b104 =>
              bif b104 then
                some (.inr (.ret, (s0, (.bool false), s5, s7, s8, s61, s62, s63), p102.2))
              else
                bif b94 then
                  fA 2 s8 fun v105 =>
                  ld1 v105 p102.2 fun v106 =>
                  cIn .i64 v106 fun n107 =>
                  fA 2 s8 fun v108 =>
                  st md 1 v108 (.int .i64 (IntKind.wrap .i64 (n107 + 1))) p102.2 fun h109 =>
                  ld1 (.pointer (some ⟨h.length, 1, none⟩)) h109 fun v110 =>
                  cIn .i64 v110 fun n111 =>
                  ld1 (.pointer (some ⟨h.length, 3, none⟩)) h109 fun v112 =>
                  cIn .u64 v112 fun n113 =>
                  ixS 1 s7 n111 fun v114 =>
                  st md 1 v114 (.int .u64 n113) h109 fun h115 =>
                  J10_0b0 rc md s0 s4 s5 s7 s8 s61 s62 s63 h115
                else
                  fA 3 s8 fun v116 =>
                  ld1 v116 p102.2 fun v117 =>
                  cIn .i64 v117 fun n118 =>
                  fA 3 s8 fun v119 =>
                  st md 1 v119 (.int .i64 (IntKind.wrap .i64 (n118 + 1))) p102.2 fun h120 =>
                  J10_0b0 rc md s0 s4 s5 s7 s8 s61 s62 s63 h120
            else
              bif (n49 == 4) then
                ld1 (.pointer (some ⟨h.length, 1, none⟩)) p36.2 fun v121 =>
                cIn .i64 v121 fun n122 =>
                ld1 (.pointer (some ⟨h.length, 3, none⟩)) p36.2 fun v123 =>
                cIn .u64 v123 fun n124 =>
                cl (rc md 39 [s5, (.int .i64 n122), (.int .u64 n124)] p36.2) fun v125 h126 =>
                exT v125 0 fun v127 =>
                cIn .u64 v127 fun n128 =>
                exT v125 1 fun v129 =>
                cIn .i64 v129 fun n130 =>
                ld1 (.pointer (some ⟨h.length, 1, none⟩)) h126 fun v131 =>
                cIn .i64 v131 fun n132 =>
                ld1 (.pointer (some ⟨h.length, 3, none⟩)) h126 fun v133 =>
                cIn .u64 v133 fun n134 =>
                ixS 1 s7 n132 fun v135 =>
                st md 1 v135 (.int .u64 (IntKind.wrap .u64 (n47 + n134))) h126 fun h136 =>
                fA 4 s8 fun v137 =>
                ld1 v137 h136 fun v138 =>
                cIn .i64 v138 fun n139 =>
                fA 4 s8 fun v140 =>
                st md 1 v140 (.int .i64 (IntKind.wrap .i64 (n139 + 1))) h136 fun h141 =>
                (bif wantV (.bool (n128 != n47)) false then
                some ((.int .i64 n130), h141)
                else some (undef, h141)).bind fun p142 =>
                (bif wantV (.bool (n128 != n47)) false then
                aBin Try.prog .neq 25 p142.1 (.int .i64 0) fun v143 =>
                some (v143, p142.2)
                else some (undef, p142.2)).bind fun p144 =>
                cBn (bif (n128 != n47) then (.bool true) else p144.1) fun b145 =>
                bif b145 then
                  some (.inr (.ret, (s0, (.bool false), s5, s7, s8, s61, s62, s63), p144.2))
                else
                  J10_0b0 rc md s0 s4 s5 s7 s8 s61 s62 s63 p144.2
              else
                J10_0b0 rc md s0 s4 s5 s7 s8 s61 s62 s63 p36.2
  else
    some (.inr ((.exit 0), (s0, s4, s5, s7, s8, s61, s62, s63), h))
noncomputable def Jr10_0H (rc : Rec) (md : Md) (X0 : T → Heap → Option (((Value × Value × Value × Value × Value × Value × Value × Value) × Heap) ⊕ (Exit × (Value × Value × Value × Value × Value × Value × Value × Value) × Heap))) (t : T) (h : Heap) : Option (((Value × Value × Value × Value × Value × Value × Value × Value) × Heap) ⊕ (Exit × (Value × Value × Value × Value × Value × Value × Value × Value) × Heap)) :=
  aBin Try.prog .lss 3 (t 63) (t 62) fun v1 =>
  cBn v1 fun b2 =>
  bif b2 then
    ixSV 4 (t 61) (t 63) fun v3 =>
    ldN 4 v3 h fun v4 =>
    let h5 : Heap := h ++ [.own [(.int .i64 0), (.int .i64 0), (.int .u64 0), (.int .u64 0)]]
    st md 4 (.pointer (some ⟨h.length, 0, none⟩)) v4 h5 fun h6 =>
    ld1 (.pointer (some ⟨h.length, 0, none⟩)) h6 fun v7 =>
    cIn .i64 v7 fun n8 =>
    bif (n8 == 5) then
      cl (rc md 33 [(t 5)] h6) fun v9 h10 =>
      aBin Try.prog .eql 53 v9 (.pointer none) fun v11 =>
      (bif wantV v11 false then
      some (v9, h10)
      else some (undef, h10)).bind fun p12 =>
      (bif wantV v11 false then
      some ((t 5), p12.2)
      else some (undef, p12.2)).bind fun p13 =>
      (bif wantV v11 false then
      cl (rc md 34 [p12.1, p13.1] p13.2) fun v14 h15 =>
      cBn v14 fun b16 =>
      some ((.bool b16), h15)
      else some (undef, p13.2)).bind fun p17 =>
      (bif wantV v11 false then
      aUn .not p17.1 fun v18 =>
      some (v18, p17.2)
      else some (undef, p17.2)).bind fun p19 =>
      cBn v11 fun q20 =>
      cBn (bif q20 then (.bool true) else p19.1) fun b21 =>
      bif b21 then
        some (.inr (.ret, ((t 0), (.bool false), (t 5), (t 7), (t 8), (t 61), (t 62), (t 63)), p19.2))
      else
        ld1 (.pointer (some ⟨h.length, 3, none⟩)) p19.2 fun v22 =>
        cIn .u64 v22 fun n23 =>
        cl (rc md 35 [(t 5), (.int .i64 0), (.int .u64 (IntKind.wrap .u64 (n23 + 1)))] p19.2) fun v24 h25 =>
        cIn .i64 v24 fun n26 =>
        aBin Try.prog .add 3 (t 63) (.int .i64 1) fun v27 =>
        some (.inl (((t 0), (t 4), v9, (t 7), (t 8), (t 61), (t 62), v27), h25))
    else
      ld1 (.pointer (some ⟨h.length, 1, none⟩)) h6 fun v28 =>
      cIn .i64 v28 fun n29 =>
      (bif wantV (.bool (decide (n29 < 0))) false then
      some ((.pointer (some ⟨h.length, 1, none⟩)), h6)
      else some (undef, h6)).bind fun p30 =>
      (bif wantV (.bool (decide (n29 < 0))) false then
      ld1 p30.1 p30.2 fun v31 =>
      cIn .i64 v31 fun n32 =>
      some ((.int .i64 n32), p30.2)
      else some (undef, p30.2)).bind fun p33 =>
      (bif wantV (.bool (decide (n29 < 0))) false then
      some ((t 0), p33.2)
      else some (undef, p33.2)).bind fun p34 =>
      (bif wantV (.bool (decide (n29 < 0))) false then
      aBin Try.prog .geq 3 p33.1 p34.1 fun v35 =>
      some (v35, p34.2)
      else some (undef, p34.2)).bind fun p36 =>
      cBn (bif (decide (n29 < 0)) then (.bool true) else p36.1) fun b37 =>
      bif b37 then
        ldN 4 (.pointer (some ⟨h.length, 0, none⟩)) p36.2 fun v38 =>
        cl (rc md 36 [(t 5), v38] p36.2) fun v39 h40 =>
        cBn v39 fun b41 =>
        bif !b41 then
          some (.inr (.ret, ((t 0), (.bool false), (t 5), (t 7), (t 8), (t 61), (t 62), (t 63)), h40))
        else
          aBin Try.prog .add 3 (t 63) (.int .i64 1) fun v42 =>
          some (.inl (((t 0), (t 4), (t 5), (t 7), (t 8), (t 61), (t 62), v42), h40))
      else
        ld1 (.pointer (some ⟨h.length, 1, none⟩)) p36.2 fun v43 =>
        cIn .i64 v43 fun n44 =>
        ixS 1 (t 7) n44 fun v45 =>
        ld1 v45 p36.2 fun v46 =>
        cIn .u64 v46 fun n47 =>
        ld1 (.pointer (some ⟨h.length, 0, none⟩)) p36.2 fun v48 =>
        cIn .i64 v48 fun n49 =>
        bif (n49 == 1) then
          ld1 (.pointer (some ⟨h.length, 1, none⟩)) p36.2 fun v50 =>
          cIn .i64 v50 fun n51 =>
          cl (rc md 37 [(t 5), (.int .i64 n51)] p36.2) fun v52 h53 =>
          exT v52 0 fun v54 =>
          cIn .u64 v54 fun n55 =>
          exT v52 1 fun v56 =>
          cIn .i64 v56 fun n57 =>
          fA 0 (t 8) fun v58 =>
          ld1 v58 h53 fun v59 =>
          cIn .i64 v59 fun n60 =>
          fA 0 (t 8) fun v61 =>
          st md 1 v61 (.int .i64 (IntKind.wrap .i64 (n60 + 1))) h53 fun h62 =>
          (bif wantV (.bool (n55 != n47)) false then
          some ((.int .i64 n57), h62)
          else some (undef, h62)).bind fun p63 =>
          (bif wantV (.bool (n55 != n47)) false then
          aBin Try.prog .neq 25 p63.1 (.int .i64 0) fun v64 =>
          some (v64, p63.2)
          else some (undef, p63.2)).bind fun p65 =>
          cBn (bif (n55 != n47) then (.bool true) else p65.1) fun b66 =>
          bif b66 then
            some (.inr (.ret, ((t 0), (.bool false), (t 5), (t 7), (t 8), (t 61), (t 62), (t 63)), p65.2))
          else
            X0 (upd (upd (upd (upd (upd (upd (upd (upd (upd (upd (upd (upd (upd (upd (upd (upd (upd (upd (upd (upd (upd (upd (upd (upd (upd (upd (upd (upd (upd (upd (upd (upd (upd (upd (upd (upd (upd (upd (upd (upd (upd (upd (upd (upd (upd (upd t 64 v1) 65 v3) 66 v4) 10 (.pointer (some ⟨h.length, 0, none⟩))) 67 (.pointer (some ⟨h.length, 0, none⟩))) 68 (.int .i64 n8)) 69 (.bool (n8 == 5))) 86 (.pointer (some ⟨h.length, 1, none⟩))) 87 (.int .i64 n29)) 88 (.bool (decide (n29 < 0)))) 89 (.bool (decide (n29 < 0)))) 90 p30.1) 91 p33.1) 92 p34.1) 93 p36.1) 94 (.bool b37)) 99 (t 7)) 100 (.pointer (some ⟨h.length, 1, none⟩))) 101 (.int .i64 n44)) 102 v45) 103 (.int .u64 n47)) 12 (.int .u64 n47)) 104 (.pointer (some ⟨h.length, 0, none⟩))) 105 (.int .i64 n49)) 107 (.bool (n49 == 1))) 106 (.bool (n49 == 1))) 109 (t 5)) 110 (.pointer (some ⟨h.length, 1, none⟩))) 111 (.int .i64 n51)) 112 v52) 108 v52) 113 (.int .u64 n55)) 114 (.int .i64 n57)) 13 (.int .u64 n55)) 14 (.int .i64 n57)) 115 v58) 116 (.int .i64 n60)) 117 (.int .i64 (IntKind.wrap .i64 (n60 + 1)))) 118 v61) 119 (.int .u64 n55)) 120 (.int .u64 n47)) 121 (.bool (n55 != n47))) 122 (.bool (n55 != n47))) 123 p63.1) 124 p65.1) 125 (.bool b66)) p65.2
        else
          bif (n49 == 2) then
            ld1 (.pointer (some ⟨h.length, 1, none⟩)) p36.2 fun v67 =>
            cIn .i64 v67 fun n68 =>
            ld1 (.pointer (some ⟨h.length, 3, none⟩)) p36.2 fun v69 =>
            cIn .u64 v69 fun n70 =>
            ixS 1 (t 7) n68 fun v71 =>
            st md 1 v71 (.int .u64 n70) p36.2 fun h72 =>
            fA 1 (t 8) fun v73 =>
            ld1 v73 h72 fun v74 =>
            cIn .i64 v74 fun n75 =>
            fA 1 (t 8) fun v76 =>
            st md 1 v76 (.int .i64 (IntKind.wrap .i64 (n75 + 1))) h72 fun h77 =>
            ld1 (.pointer (some ⟨h.length, 1, none⟩)) h77 fun v78 =>
            cIn .i64 v78 fun n79 =>
            ld1 (.pointer (some ⟨h.length, 3, none⟩)) h77 fun v80 =>
            cIn .u64 v80 fun n81 =>
            cl (rc md 35 [(t 5), (.int .i64 n79), (.int .u64 n81)] h77) fun v82 h83 =>
            cIn .i64 v82 fun n84 =>
            bif (n84 != 0) then
              some (.inr (.ret, ((t 0), (.bool false), (t 5), (t 7), (t 8), (t 61), (t 62), (t 63)), h83))
            else
              X0 (upd (upd (upd (upd (upd (upd (upd (upd (upd (upd (upd (upd (upd (upd (upd (upd (upd (upd (upd (upd (upd (upd (upd (upd (upd (upd (upd (upd (upd (upd (upd (upd (upd (upd (upd (upd (upd (upd (upd (upd (upd (upd (upd (upd (upd t 64 v1) 65 v3) 66 v4) 10 (.pointer (some ⟨h.length, 0, none⟩))) 67 (.pointer (some ⟨h.length, 0, none⟩))) 68 (.int .i64 n8)) 69 (.bool (n8 == 5))) 86 (.pointer (some ⟨h.length, 1, none⟩))) 87 (.int .i64 n29)) 88 (.bool (decide (n29 < 0)))) 89 (.bool (decide (n29 < 0)))) 90 p30.1) 91 p33.1) 92 p34.1) 93 p36.1) 94 (.bool b37)) 99 (t 7)) 100 (.pointer (some ⟨h.length, 1, none⟩))) 101 (.int .i64 n44)) 102 v45) 103 (.int .u64 n47)) 12 (.int .u64 n47)) 104 (.pointer (some ⟨h.length, 0, none⟩))) 105 (.int .i64 n49)) 107 (.bool (n49 == 1))) 106 (.bool (n49 == 1))) 127 (.bool (n49 == 2))) 126 (.bool (n49 == 2))) 128 (t 7)) 129 (.pointer (some ⟨h.length, 1, none⟩))) 130 (.int .i64 n68)) 131 (.pointer (some ⟨h.length, 3, none⟩))) 132 (.int .u64 n70)) 133 v71) 134 v73) 135 (.int .i64 n75)) 136 (.int .i64 (IntKind.wrap .i64 (n75 + 1)))) 137 v76) 138 (t 5)) 139 (.pointer (some ⟨h.length, 1, none⟩))) 140 (.int .i64 n79)) 141 (.pointer (some ⟨h.length, 3, none⟩))) 142 (.int .u64 n81)) 143 (.int .i64 n84)) 144 (.bool (n84 != 0))) h83
          else
            bif (n49 == 3) then
              ld1 (.pointer (some ⟨h.length, 1, none⟩)) p36.2 fun v85 =>
              cIn .i64 v85 fun n86 =>
              ld1 (.pointer (some ⟨h.length, 2, none⟩)) p36.2 fun v87 =>
              cIn .u64 v87 fun n88 =>
              ld1 (.pointer (some ⟨h.length, 3, none⟩)) p36.2 fun v89 =>
              cIn .u64 v89 fun n90 =>
              cl (rc md 38 [(t 5), (.int .i64 n86), (.int .u64 n88), (.int .u64 n90)] p36.2) fun v91 h92 =>
              exT v91 0 fun v93 =>
              cBn v93 fun b94 =>
              exT v91 1 fun v95 =>
              cIn .i64 v95 fun n96 =>
              ld1 (.pointer (some ⟨h.length, 2, none⟩)) h92 fun v97 =>
              cIn .u64 v97 fun n98 =>
              aBin Try.prog .neq 4 (.bool b94) (.bool (n47 == n98)) fun v99 =>
              (bif wantV v99 false then
              some ((.int .i64 n96), h92)
              else some (undef, h92)).bind fun p100 =>
              (bif wantV v99 false then
              aBin Try.prog .neq 25 p100.1 (.int .i64 0) fun v101 =>
              some (v101, p100.2)
              else some (undef, p100.2)).bind fun p102 =>
              cBn v99 fun q103 =>
              cBn (bif q103 then (.bool true) else p102.1) fun b104 =>
              bif b104 then
                some (.inr (.ret, ((t 0), (.bool false), (t 5), (t 7), (t 8), (t 61), (t 62), (t 63)), p102.2))
              else
                bif b94 then
                  fA 2 (t 8) fun v105 =>
                  ld1 v105 p102.2 fun v106 =>
                  cIn .i64 v106 fun n107 =>
                  fA 2 (t 8) fun v108 =>
                  st md 1 v108 (.int .i64 (IntKind.wrap .i64 (n107 + 1))) p102.2 fun h109 =>
                  ld1 (.pointer (some ⟨h.length, 1, none⟩)) h109 fun v110 =>
                  cIn .i64 v110 fun n111 =>
                  ld1 (.pointer (some ⟨h.length, 3, none⟩)) h109 fun v112 =>
                  cIn .u64 v112 fun n113 =>
                  ixS 1 (t 7) n111 fun v114 =>
                  st md 1 v114 (.int .u64 n113) h109 fun h115 =>
                  X0 (upd (upd (upd (upd (upd (upd (upd (upd (upd (upd (upd (upd (upd (upd (upd (upd (upd (upd (upd (upd (upd (upd (upd (upd (upd (upd (upd (upd (upd (upd (upd (upd (upd (upd (upd (upd (upd (upd (upd (upd (upd (upd (upd (upd (upd (upd (upd (upd (upd (upd (upd (upd (upd (upd (upd (upd (upd (upd (upd (upd (upd (upd (upd (upd t 64 v1) 65 v3) 66 v4) 10 (.pointer (some ⟨h.length, 0, none⟩))) 67 (.pointer (some ⟨h.length, 0, none⟩))) 68 (.int .i64 n8)) 69 (.bool (n8 == 5))) 86 (.pointer (some ⟨h.length, 1, none⟩))) 87 (.int .i64 n29)) 88 (.bool (decide (n29 < 0)))) 89 (.bool (decide (n29 < 0)))) 90 p30.1) 91 p33.1) 92 p34.1) 93 p36.1) 94 (.bool b37)) 99 (t 7)) 100 (.pointer (some ⟨h.length, 1, none⟩))) 101 (.int .i64 n44)) 102 v45) 103 (.int .u64 n47)) 12 (.int .u64 n47)) 104 (.pointer (some ⟨h.length, 0, none⟩))) 105 (.int .i64 n49)) 107 (.bool (n49 == 1))) 106 (.bool (n49 == 1))) 127 (.bool (n49 == 2))) 126 (.bool (n49 == 2))) 146 (.bool (n49 == 3))) 145 (.bool (n49 == 3))) 148 (t 5)) 149 (.pointer (some ⟨h.length, 1, none⟩))) 150 (.int .i64 n86)) 151 (.pointer (some ⟨h.length, 2, none⟩))) 152 (.int .u64 n88)) 153 (.pointer (some ⟨h.length, 3, none⟩))) 154 (.int .u64 n90)) 155 v91) 147 v91) 156 (.bool b94)) 157 (.int .i64 n96)) 15 (.bool b94)) 16 (.int .i64 n96)) 158 (.bool b94)) 159 (.int .u64 n47)) 160 (.pointer (some ⟨h.length, 2, none⟩))) 161 (.int .u64 n98)) 162 (.bool (n47 == n98))) 163 v99) 164 v99) 165 p100.1) 166 p102.1) 167 (.bool b104)) 168 (.bool b94)) 169 v105) 170 (.int .i64 n107)) 171 (.int .i64 (IntKind.wrap .i64 (n107 + 1)))) 172 v108) 173 (t 7)) 174 (.pointer (some ⟨h.length, 1, none⟩))) 175 (.int .i64 n111)) 176 (.pointer (some ⟨h.length, 3, none⟩))) 177 (.int .u64 n113)) 178 v114) h115
                else
                  fA 3 (t 8) fun v116 =>
                  ld1 v116 p102.2 fun v117 =>
                  cIn .i64 v117 fun n118 =>
                  fA 3 (t 8) fun v119 =>
                  st md 1 v119 (.int .i64 (IntKind.wrap .i64 (n118 + 1))) p102.2 fun h120 =>
                  X0 (upd (upd (upd (upd (upd (upd (upd (upd (upd (upd (upd (upd (upd (upd (upd (upd (upd (upd (upd (upd (upd (upd (upd (upd (upd (upd (upd (upd (upd (upd (upd (upd (upd (upd (upd (upd (upd (upd (upd (upd (upd (upd (upd (upd (upd (upd (upd (upd (upd (upd (upd (upd (upd (upd (upd (upd (upd (upd t 64 v1) 65 v3) 66 v4) 10 (.pointer (some ⟨h.length, 0, none⟩))) 67 (.pointer (some ⟨h.length, 0, none⟩))) 68 (.int .i64 n8)) 69 (.bool (n8 == 5))) 86 (.pointer (some ⟨h.length, 1, none⟩))) 87 (.int .i64 n29)) 88 (.bool (decide (n29 < 0)))) 89 (.bool (decide (n29 < 0)))) 90 p30.1) 91 p33.1) 92 p34.1) 93 p36.1) 94 (.bool b37)) 99 (t 7)) 100 (.pointer (some ⟨h.length, 1, none⟩))) 101 (.int .i64 n44)) 102 v45) 103 (.int .u64 n47)) 12 (.int .u64 n47)) 104 (.pointer (some ⟨h.length, 0, none⟩))) 105 (.int .i64 n49)) 107 (.bool (n49 == 1))) 106 (.bool (n49 == 1))) 127 (.bool (n49 == 2))) 126 (.bool (n49 == 2))) 146 (.bool (n49 == 3))) 145 (.bool (n49 == 3))) 148 (t 5)) 149 (.pointer (some ⟨h.length, 1, none⟩))) 150 (.int .i64 n86)) 151 (.pointer (some ⟨h.length, 2, none⟩))) 152 (.int .u64 n88)) 153 (.pointer (some ⟨h.length, 3, none⟩))) 154 (.int .u64 n90)) 155 v91) 147 v91) 156 (.bool b94)) 157 (.int .i64 n96)) 15 (.bool b94)) 16 (.int .i64 n96)) 158 (.bool b94)) 159 (.int .u64 n47)) 160 (.pointer (some ⟨h.length, 2, none⟩))) 161 (.int .u64 n98)) 162 (.bool (n47 == n98))) 163 v99) 164 v99) 165 p100.1) 166 p102.1) 167 (.bool b104)) 168 (.bool b94)) 179 v116) 180 (.int .i64 n118)) 181 (.int .i64 (IntKind.wrap .i64 (n118 + 1)))) 182 v119) h120
            else
              bif (n49 == 4) then
                ld1 (.pointer (some ⟨h.length, 1, none⟩)) p36.2 fun v121 =>
                cIn .i64 v121 fun n122 =>
                ld1 (.pointer (some ⟨h.length, 3, none⟩)) p36.2 fun v123 =>
                cIn .u64 v123 fun n124 =>
                cl (rc md 39 [(t 5), (.int .i64 n122), (.int .u64 n124)] p36.2) fun v125 h126 =>
                exT v125 0 fun v127 =>
                cIn .u64 v127 fun n128 =>
                exT v125 1 fun v129 =>
                cIn .i64 v129 fun n130 =>
                ld1 (.pointer (some ⟨h.length, 1, none⟩)) h126 fun v131 =>
                cIn .i64 v131 fun n132 =>
                ld1 (.pointer (some ⟨h.length, 3, none⟩)) h126 fun v133 =>
                cIn .u64 v133 fun n134 =>
                ixS 1 (t 7) n132 fun v135 =>
                st md 1 v135 (.int .u64 (IntKind.wrap .u64 (n47 + n134))) h126 fun h136 =>
                fA 4 (t 8) fun v137 =>
                ld1 v137 h136 fun v138 =>
                cIn .i64 v138 fun n139 =>
                fA 4 (t 8) fun v140 =>
                st md 1 v140 (.int .i64 (IntKind.wrap .i64 (n139 + 1))) h136 fun h141 =>
                (bif wantV (.bool (n128 != n47)) false then
                some ((.int .i64 n130), h141)
                else some (undef, h141)).bind fun p142 =>
                (bif wantV (.bool (n128 != n47)) false then
                aBin Try.prog .neq 25 p142.1 (.int .i64 0) fun v143 =>
                some (v143, p142.2)
                else some (undef, p142.2)).bind fun p144 =>
                cBn (bif (n128 != n47) then (.bool true) else p144.1) fun b145 =>
                bif b145 then
                  some (.inr (.ret, ((t 0), (.bool false), (t 5), (t 7), (t 8), (t 61), (t 62), (t 63)), p144.2))
                else
                  X0 (upd (upd (upd (upd (upd (upd (upd (upd (upd (upd (upd (upd (upd (upd (upd (upd (upd (upd (upd (upd (upd (upd (upd (upd (upd (upd (upd (upd (upd (upd (upd (upd (upd (upd (upd (upd (upd (upd (upd (upd (upd (upd (upd (upd (upd (upd (upd (upd (upd (upd (upd (upd (upd (upd (upd (upd (upd (upd (upd (upd (upd (upd t 64 v1) 65 v3) 66 v4) 10 (.pointer (some ⟨h.length, 0, none⟩))) 67 (.pointer (some ⟨h.length, 0, none⟩))) 68 (.int .i64 n8)) 69 (.bool (n8 == 5))) 86 (.pointer (some ⟨h.length, 1, none⟩))) 87 (.int .i64 n29)) 88 (.bool (decide (n29 < 0)))) 89 (.bool (decide (n29 < 0)))) 90 p30.1) 91 p33.1) 92 p34.1) 93 p36.1) 94 (.bool b37)) 99 (t 7)) 100 (.pointer (some ⟨h.length, 1, none⟩))) 101 (.int .i64 n44)) 102 v45) 103 (.int .u64 n47)) 12 (.int .u64 n47)) 104 (.pointer (some ⟨h.length, 0, none⟩))) 105 (.int .i64 n49)) 107 (.bool (n49 == 1))) 106 (.bool (n49 == 1))) 127 (.bool (n49 == 2))) 126 (.bool (n49 == 2))) 146 (.bool (n49 == 3))) 145 (.bool (n49 == 3))) 184 (.bool (n49 == 4))) 183 (.bool (n49 == 4))) 186 (t 5)) 187 (.pointer (some ⟨h.length, 1, none⟩))) 188 (.int .i64 n122)) 189 (.pointer (some ⟨h.length, 3, none⟩))) 190 (.int .u64 n124)) 191 v125) 185 v125) 192 (.int .u64 n128)) 193 (.int .i64 n130)) 17 (.int .u64 n128)) 18 (.int .i64 n130)) 194 (t 7)) 195 (.pointer (some ⟨h.length, 1, none⟩))) 196 (.int .i64 n132)) 197 (.int .u64 n47)) 198 (.pointer (some ⟨h.length, 3, none⟩))) 199 (.int .u64 n134)) 200 (.int .u64 (IntKind.wrap .u64 (n47 + n134)))) 201 v135) 202 v137) 203 (.int .i64 n139)) 204 (.int .i64 (IntKind.wrap .i64 (n139 + 1)))) 205 v140) 206 (.int .u64 n128)) 207 (.int .u64 n47)) 208 (.bool (n128 != n47))) 209 (.bool (n128 != n47))) 210 p142.1) 211 p144.1) 212 (.bool b145)) p144.2
              else
                X0 (upd (upd (upd (upd (upd (upd (upd (upd (upd (upd (upd (upd (upd (upd (upd (upd (upd (upd (upd (upd (upd (upd (upd (upd (upd (upd (upd (upd (upd (upd (upd (upd t 64 v1) 65 v3) 66 v4) 10 (.pointer (some ⟨h.length, 0, none⟩))) 67 (.pointer (some ⟨h.length, 0, none⟩))) 68 (.int .i64 n8)) 69 (.bool (n8 == 5))) 86 (.pointer (some ⟨h.length, 1, none⟩))) 87 (.int .i64 n29)) 88 (.bool (decide (n29 < 0)))) 89 (.bool (decide (n29 < 0)))) 90 p30.1) 91 p33.1) 92 p34.1) 93 p36.1) 94 (.bool b37)) 99 (t 7)) 100 (.pointer (some ⟨h.length, 1, none⟩))) 101 (.int .i64 n44)) 102 v45) 103 (.int .u64 n47)) 12 (.int .u64 n47)) 104 (.pointer (some ⟨h.length, 0, none⟩))) 105 (.int .i64 n49)) 107 (.bool (n49 == 1))) 106 (.bool (n49 == 1))) 127 (.bool (n49 == 2))) 126 (.bool (n49 == 2))) 146 (.bool (n49 == 3))) 145 (.bool (n49 == 3))) 184 (.bool (n49 == 4))) 183 (.bool (n49 == 4))) p36.2
  else
    some (.inr ((.exit 0), ((t 0), (t 4), (t 5), (t 7), (t 8), (t 61), (t 62), (t 63)), h))
theorem Jr10_0_h1 (rc : Rec) (md : Md) (X : Nat → T → Heap → Option (((Value × Value × Value × Value × Value × Value × Value × Value) × Heap) ⊕ (Exit × (Value × Value × Value × Value × Value × Value × Value × Value) × Heap))) (t : T) (h : Heap) : execG Try.prog cfg X rc md 242 (replS (sub (bodyOf Try.prog 10) [1, 1, 1, 1, 1, 1, 1, 0, 1, 0, 0]) [([1, 1, 0, 0, 1, 1, 1, 1, 1], 0)]) (rndK (fun t => (t 0, t 4, t 5, t 7, t 8, t 61, t 62, t 63))) t h = Jr10_0H rc md (X 0) t h := by kernel_rfl
theorem Jr10_0_h2 (rc : Rec) (md : Md) (t : T) (h : Heap) : Jr10_0H rc md (fun t h => J10_0b0 rc md (t 0) (t 4) (t 5) (t 7) (t 8) (t 61) (t 62) (t 63) h) t h = Jr10_0 rc md (t 0) (t 4) (t 5) (t 7) (t 8) (t 61) (t 62) (t 63) h := by unfold Jr10_0H Jr10_0; kernel_rfl
theorem Jr10_0_at (rc : Rec) (md : Md) (t : T) (h : Heap) : exec Try.prog cfg rc md 242 (sub (bodyOf Try.prog 10) [1, 1, 1, 1, 1, 1, 1, 0, 1, 0, 0]) (rndK (fun t => (t 0, t 4, t 5, t 7, t 8, t 61, t 62, t 63))) t h = Jr10_0 rc md (t 0) (t 4) (t 5) (t 7) (t 8) (t 61) (t 62) (t 63) h := by
  rw [exec_holes [([1, 1, 0, 0, 1, 1, 1, 1, 1], 0)] (by kernel_rfl), Jr10_0_h1, show (goX Try.prog cfg rc md 242 (sub (bodyOf Try.prog 10) [1, 1, 1, 1, 1, 1, 1, 0, 1, 0, 0]) [([1, 1, 0, 0, 1, 1, 1, 1, 1], 0)] (rndK (fun t => (t 0, t 4, t 5, t 7, t 8, t 61, t 62, t 63)))) 0 = _ from J10_0b0_cut rc md]
  exact Jr10_0_h2 rc md t h
noncomputable def J10_0 (rc : Rec) (md : Md) (h0 : Heap) (s0 : Value) (s4 : Value) (s5 : Value) (s7 : Value) (s8 : Value) (s61 : Value) (s62 : Value) (s63 : Value) (h : Heap) : Option (Value × Heap) :=
  runL (fun x : (Value × Value × Value × Value × Value × Value × Value × Value) × Heap => Jr10_0 rc md x.1.1 x.1.2.1 x.1.2.2.1 x.1.2.2.2.1 x.1.2.2.2.2.1 x.1.2.2.2.2.2.1 x.1.2.2.2.2.2.2.1 x.1.2.2.2.2.2.2.2 x.2) (fun e (s : Value × Value × Value × Value × Value × Value × Value × Value) h => Jk10_0 rc md h0 e s.1 s.2.1 s.2.2.1 s.2.2.2.1 s.2.2.2.2.1 s.2.2.2.2.2.1 s.2.2.2.2.2.2.1 s.2.2.2.2.2.2.2 h) (s0, s4, s5, s7, s8, s61, s62, s63) h
theorem J10_0_step (rc : Rec) (md : Md) (h0 : Heap) (s0 : Value) (s4 : Value) (s5 : Value) (s7 : Value) (s8 : Value) (s61 : Value) (s62 : Value) (s63 : Value) (h : Heap) : J10_0 rc md h0 s0 s4 s5 s7 s8 s61 s62 s63 h = (Jr10_0 rc md s0 s4 s5 s7 s8 s61 s62 s63 h).bind fun x => match x with
    | .inl (s, h) => J10_0 rc md h0 s.1 s.2.1 s.2.2.1 s.2.2.2.1 s.2.2.2.2.1 s.2.2.2.2.2.1 s.2.2.2.2.2.2.1 s.2.2.2.2.2.2.2 h
    | .inr (e, s, h) => Jk10_0 rc md h0 e s.1 s.2.1 s.2.2.1 s.2.2.2.1 s.2.2.2.2.1 s.2.2.2.2.2.1 s.2.2.2.2.2.2.1 s.2.2.2.2.2.2.2 h := by
  unfold J10_0
  rw [runL_eq]
  refine congrArg (Option.bind _) (funext fun x => ?_)
  rcases x with ⟨s, h⟩ | ⟨e, s, h⟩ <;> rfl
theorem J10_0_cut (rc : Rec) (md : Md) (h0 : Heap) : cut Try.prog cfg rc md 242 (bodyOf Try.prog 10) [1, 1, 1, 1, 1, 1, 1, 0, 1, 0] (retK Try.prog cfg 10 (rsOf Try.prog 10) h0) = fun t h => J10_0 rc md h0 (t 0) (t 4) (t 5) (t 7) (t 8) (t 61) (t 62) (t 63) h := by
  funext t h
  have e : sub (bodyOf Try.prog 10) [1, 1, 1, 1, 1, 1, 1, 0, 1, 0] = .loop (sub (bodyOf Try.prog 10) [1, 1, 1, 1, 1, 1, 1, 0, 1, 0, 0]) := by kernel_rfl
  unfold cut
  rw [e]
  exact loop_eq (by kernel_rfl) (fun t => (t 0, t 4, t 5, t 7, t 8, t 61, t 62, t 63)) (fun x : (Value × Value × Value × Value × Value × Value × Value × Value) × Heap => Jr10_0 rc md x.1.1 x.1.2.1 x.1.2.2.1 x.1.2.2.2.1 x.1.2.2.2.2.1 x.1.2.2.2.2.2.1 x.1.2.2.2.2.2.2.1 x.1.2.2.2.2.2.2.2 x.2) (fun t h => Jr10_0_at rc md t h) (fun e (s : Value × Value × Value × Value × Value × Value × Value × Value) h => Jk10_0 rc md h0 e s.1 s.2.1 s.2.2.1 s.2.2.2.1 s.2.2.2.2.1 s.2.2.2.2.2.1 s.2.2.2.2.2.2.1 s.2.2.2.2.2.2.2 h) (fun e t h => Jk10_0_at rc md h0 e t h) t h
noncomputable def F10 (rc : Rec) (md : Md) (a0 : Int) (a1 : Value) (h0 : Heap) : Option (Value × Heap) :=
  lenS a1 fun v1 =>
  cIn .i64 v1 fun n2 =>
  bif (decide (n2 > 80)) then
    cl (rc md 30 [] h0) fun v3 h4 =>
    cBn v3 fun b5 =>
    some ((.bool b5), h0)
  else
    cl (rc md 31 [(.int .i64 a0)] h0) fun v6 h7 =>
    exT v6 0 fun v8 =>
    exT v6 1 fun v9 =>
    cIn .i64 v9 fun n10 =>
    (bif wantV (.bool (decide (a0 < 0))) false then
    some ((.int .i64 a0), h7)
    else some (undef, h7)).bind fun p11 =>
    (bif wantV (.bool (decide (a0 < 0))) false then
    aBin Try.prog .gtr 3 p11.1 (.int .i64 16384) fun v12 =>
    some (v12, p11.2)
    else some (undef, p11.2)).bind fun p13 =>
    cBn (bif (decide (a0 < 0)) then (.bool true) else p13.1) fun b14 =>
    bif b14 then
      (bif wantV (.bool (n10 == 11)) true then
      some (v8, p13.2)
      else some (undef, p13.2)).bind fun p15 =>
      (bif wantV (.bool (n10 == 11)) true then
      aBin Try.prog .eql 53 p15.1 (.pointer none) fun v16 =>
      some (v16, p15.2)
      else some (undef, p15.2)).bind fun p17 =>
      cBn (bif (n10 == 11) then p17.1 else (.bool false)) fun b18 =>
      (bif wantV (.bool b18) true then
      cl (rc md 30 [] p17.2) fun v19 h20 =>
      cBn v19 fun b21 =>
      some ((.bool b21), h20)
      else some (undef, p17.2)).bind fun p22 =>
      cBn (bif b18 then p22.1 else (.bool false)) fun b23 =>
      some ((.bool b23), h0)
    else
      (bif wantV (.bool (n10 != 0)) false then
      some (v8, p13.2)
      else some (undef, p13.2)).bind fun p24 =>
      (bif wantV (.bool (n10 != 0)) false then
      aBin Try.prog .eql 53 p24.1 (.pointer none) fun v25 =>
      some (v25, p24.2)
      else some (undef, p24.2)).bind fun p26 =>
      cBn (bif (n10 != 0) then (.bool true) else p26.1) fun b27 =>
      (bif wantV (.bool b27) false then
      some (v8, p26.2)
      else some (undef, p26.2)).bind fun p28 =>
      (bif wantV (.bool b27) false then
      cl (rc md 32 [p28.1] p28.2) fun v29 h30 =>
      cIn .i64 v29 fun n31 =>
      some ((.int .i64 n31), h30)
      else some (undef, p28.2)).bind fun p32 =>
      (bif wantV (.bool b27) false then
      some ((.int .i64 a0), p32.2)
      else some (undef, p32.2)).bind fun p33 =>
      (bif wantV (.bool b27) false then
      aBin Try.prog .neq 3 p32.1 p33.1 fun v34 =>
      some (v34, p33.2)
      else some (undef, p33.2)).bind fun p35 =>
      cBn (bif b27 then (.bool true) else p35.1) fun b36 =>
      bif b36 then
        some ((.bool false), h0)
      else
        aMakeSlice Try.prog 57 (.int .i64 a0) (.int .i64 a0) p35.2 fun v37 h38 =>
        let h39 : Heap := h38 ++ [.own [(.int .i64 0), (.int .i64 0), (.int .i64 0), (.int .i64 0), (.int .i64 0)]]
        lenS a1 fun v40 =>
        cIn .i64 v40 fun n41 =>
        J10_0 rc md h0 (.int .i64 a0) (.bool false) v8 v37 (.pointer (some ⟨h38.length, 0, none⟩)) a1 (.int .i64 n41) (.int .i64 0) h39
noncomputable def F10H (rc : Rec) (md : Md) (X0 : T → Heap → Option (Value × Heap)) (a0 : Int) (a1 : Value) (h0 : Heap) : Option (Value × Heap) :=
  lenS a1 fun v1 =>
  cIn .i64 v1 fun n2 =>
  bif (decide (n2 > 80)) then
    cl (rc md 30 [] h0) fun v3 h4 =>
    cBn v3 fun b5 =>
    some ((.bool b5), h0)
  else
    cl (rc md 31 [(.int .i64 a0)] h0) fun v6 h7 =>
    exT v6 0 fun v8 =>
    exT v6 1 fun v9 =>
    cIn .i64 v9 fun n10 =>
    (bif wantV (.bool (decide (a0 < 0))) false then
    some ((.int .i64 a0), h7)
    else some (undef, h7)).bind fun p11 =>
    (bif wantV (.bool (decide (a0 < 0))) false then
    aBin Try.prog .gtr 3 p11.1 (.int .i64 16384) fun v12 =>
    some (v12, p11.2)
    else some (undef, p11.2)).bind fun p13 =>
    cBn (bif (decide (a0 < 0)) then (.bool true) else p13.1) fun b14 =>
    bif b14 then
      (bif wantV (.bool (n10 == 11)) true then
      some (v8, p13.2)
      else some (undef, p13.2)).bind fun p15 =>
      (bif wantV (.bool (n10 == 11)) true then
      aBin Try.prog .eql 53 p15.1 (.pointer none) fun v16 =>
      some (v16, p15.2)
      else some (undef, p15.2)).bind fun p17 =>
      cBn (bif (n10 == 11) then p17.1 else (.bool false)) fun b18 =>
      (bif wantV (.bool b18) true then
      cl (rc md 30 [] p17.2) fun v19 h20 =>
      cBn v19 fun b21 =>
      some ((.bool b21), h20)
      else some (undef, p17.2)).bind fun p22 =>
      cBn (bif b18 then p22.1 else (.bool false)) fun b23 =>
      some ((.bool b23), h0)
    else
      (bif wantV (.bool (n10 != 0)) false then
      some (v8, p13.2)
      else some (undef, p13.2)).bind fun p24 =>
      (bif wantV (.bool (n10 != 0)) false then
      aBin Try.prog .eql 53 p24.1 (.pointer none) fun v25 =>
      some (v25, p24.2)
      else some (undef, p24.2)).bind fun p26 =>
      cBn (bif (n10 != 0) then (.bool true) else p26.1) fun b27 =>
      (bif wantV (.bool b27) false then
      some (v8, p26.2)
      else some (undef, p26.2)).bind fun p28 =>
      (bif wantV (.bool b27) false then
      cl (rc md 32 [p28.1] p28.2) fun v29 h30 =>
      cIn .i64 v29 fun n31 =>
      some ((.int .i64 n31), h30)
      else some (undef, p28.2)).bind fun p32 =>
      (bif wantV (.bool b27) false then
      some ((.int .i64 a0), p32.2)
      else some (undef, p32.2)).bind fun p33 =>
      (bif wantV (.bool b27) false then
      aBin Try.prog .neq 3 p32.1 p33.1 fun v34 =>
      some (v34, p33.2)
      else some (undef, p33.2)).bind fun p35 =>
      cBn (bif b27 then (.bool true) else p35.1) fun b36 =>
      bif b36 then
        some ((.bool false), h0)
      else
        aMakeSlice Try.prog 57 (.int .i64 a0) (.int .i64 a0) p35.2 fun v37 h38 =>
        let h39 : Heap := h38 ++ [.own [(.int .i64 0), (.int .i64 0), (.int .i64 0), (.int .i64 0), (.int .i64 0)]]
        lenS a1 fun v40 =>
        cIn .i64 v40 fun n41 =>
        X0 (upd (upd (upd (upd (upd (upd (upd (upd (upd (upd (upd (upd (upd (upd (upd (upd (upd (upd (upd (upd (upd (upd (upd (upd (upd (upd (upd (upd (upd (upd (upd (upd (upd (upd (upd (upd (args0 [(.int .i64 a0), a1]) 4 (.bool false)) 23 a1) 24 (.int .i64 n2)) 25 (.bool (decide (n2 > 80)))) 28 (.int .i64 a0)) 29 v6) 27 v6) 30 v8) 31 (.int .i64 n10)) 5 v8) 6 (.int .i64 n10)) 32 (.int .i64 a0)) 33 (.bool (decide (a0 < 0)))) 34 (.bool (decide (a0 < 0)))) 35 p11.1) 36 p13.1) 37 (.bool b14)) 47 (.int .i64 n10)) 48 (.bool (n10 != 0))) 49 (.bool (n10 != 0))) 50 p24.1) 51 p26.1) 52 (.bool b27)) 53 (.bool b27)) 54 p28.1) 55 p32.1) 56 p33.1) 57 p35.1) 58 (.bool b36)) 59 (.int .i64 a0)) 60 v37) 7 v37) 8 (.pointer (some ⟨h38.length, 0, none⟩))) 61 a1) 62 (.int .i64 n41)) 63 (.int .i64 0)) h39
theorem F10_h0 (rc : Rec) (md : Md) (a0 : Int) (a1 : Value) (h0 : Heap) : callStep0 Try.prog cfg rc md 10 [(.int .i64 a0), a1] h0 = exec Try.prog cfg rc ⟨h0.length, h0.length⟩ 242 (bodyOf Try.prog 10) (retK Try.prog cfg 10 (rsOf Try.prog 10) h0) (args0 [(.int .i64 a0), a1]) h0 := callStep0_run (by kernel_rfl) (by kernel_rfl) (by kernel_rfl)
theorem F10_h1 (rc : Rec) (md : Md) (X : Nat → T → Heap → Option (Value × Heap)) (a0 : Int) (a1 : Value) (h0 : Heap) : execG Try.prog cfg X rc md 242 (replS (bodyOf Try.prog 10) [([1, 1, 1, 1, 1, 1, 1, 0, 1, 0], 0), ([1, 1, 1, 1, 1, 1, 1, 1, 0, 1, 0], 1), ([1, 1, 1, 1, 1, 1, 1, 1], 2)]) (retK Try.prog cfg 10 (rsOf Try.prog 10) h0) (args0 [(.int .i64 a0), a1]) h0 = F10H rc md (X 0) a0 a1 h0 := by kernel_rfl
theorem F10_h2 (rc : Rec) (md : Md) (a0 : Int) (a1 : Value) (h0 : Heap) : F10H rc md (fun t h => J10_0 rc md h0 (t 0) (t 4) (t 5) (t 7) (t 8) (t 61) (t 62) (t 63) h) a0 a1 h0 = F10 rc md a0 a1 h0 := by unfold F10H F10; kernel_rfl
theorem F10_eq0 (rc : Rec) (md : Md) (a0 : Int) (a1 : Value) (h0 : Heap) : callStep0 Try.prog cfg rc md 10 [(.int .i64 a0), a1] h0 = F10 rc ⟨h0.length, h0.length⟩ a0 a1 h0 := by
  rw [F10_h0, exec_holes [([1, 1, 1, 1, 1, 1, 1, 0, 1, 0], 0), ([1, 1, 1, 1, 1, 1, 1, 1, 0, 1, 0], 1), ([1, 1, 1, 1, 1, 1, 1, 1], 2)] (by kernel_rfl), F10_h1, show (goX Try.prog cfg rc ⟨h0.length, h0.length⟩ 242 (bodyOf Try.prog 10) [([1, 1, 1, 1, 1, 1, 1, 0, 1, 0], 0), ([1, 1, 1, 1, 1, 1, 1, 1, 0, 1, 0], 1), ([1, 1, 1, 1, 1, 1, 1, 1], 2)] (retK Try.prog cfg 10 (rsOf Try.prog 10) h0)) 0 = _ from J10_0_cut rc ⟨h0.length, h0.length⟩ h0]
  exact F10_h2 rc _ a0 a1 h0
theorem F10_eq (rc : Rec) (md : Md) (a0 : Int) (a1 : Value) (h0 : Heap) : callStep Try.prog cfg rc md 10 [(.int .i64 a0), a1] h0 = F10 rc ⟨h0.length, h0.length⟩ a0 a1 h0 := (callStep_ne (by kernel_rfl)).trans (F10_eq0 rc md a0 a1 h0)

/-- tombolo/tombololaw02.CellApart -/
noncomputable def Jk11_0 (rc : Rec) (md : Md) (h0 : Heap) (e : Exit) (s0 : Value) (s4 : Value) (s5 : Value) (s38 : Value) (s39 : Value) (s40 : Value) (h : Heap) : Option (Value × Heap) :=
  match e with
  | .normal =>
    cl (rc md 30 [] h) fun v1 h2 =>
    cBn v1 fun b3 =>
    some ((.bool b3), h0)
  | .exit j =>
    bif Nat.beq j 0 then
      cl (rc md 30 [] h) fun v4 h5 =>
      cBn v4 fun b6 =>
      some ((.bool b6), h0)
    else
      none
  | .ret =>
    fin2 h0 s4
  | .goto l => none
  | .panic ps => none
  | .outgrown => none
theorem Jk11_0_at (rc : Rec) (md : Md) (h0 : Heap) (e : Exit) (t : T) (h : Heap) : kAt Try.prog cfg rc md 124 (bodyOf Try.prog 11) [1, 1, 1, 1, 0, 1, 0] (retK Try.prog cfg 11 (rsOf Try.prog 11) h0) e t h = Jk11_0 rc md h0 e (t 0) (t 4) (t 5) (t 38) (t 39) (t 40) h := by cases e <;> kernel_rfl
noncomputable def Jk11_0b1 (rc : Rec) (md : Md) (e : Exit) (s0 : Value) (s4 : Value) (s5 : Value) (s8 : Value) (s9 : Value) (s38 : Value) (s39 : Value) (s40 : Value) (s80 : Value) (s81 : Value) (h : Heap) : Option (((Value × Value × Value × Value × Value × Value) × Heap) ⊕ (Exit × (Value × Value × Value × Value × Value × Value) × Heap)) :=
  match e with
  | .normal =>
    aBin Try.prog .add 3 s40 (.int .i64 1) fun v1 =>
    some (.inl ((s0, s4, s5, s38, s39, v1), h))
  | .exit j =>
    bif Nat.beq j 3 then
      aBin Try.prog .add 3 s40 (.int .i64 1) fun v2 =>
      some (.inl ((s0, s4, s5, s38, s39, v2), h))
    else
      bif Nat.beq j 1 then
        aBin Try.prog .add 3 s40 (.int .i64 1) fun v3 =>
        some (.inl ((s0, s4, s5, s38, s39, v3), h))
      else
        some (.inr ((.exit j), (s0, s4, s5, s38, s39, s40), h))
  | .ret =>
    some (.inr (.ret, (s0, s4, s5, s38, s39, s40), h))
  | .goto l => some (.inr ((.goto l), (s0, s4, s5, s38, s39, s40), h))
  | .panic ps => some (.inr ((.panic ps), (s0, s4, s5, s38, s39, s40), h))
  | .outgrown => some (.inr (.outgrown, (s0, s4, s5, s38, s39, s40), h))
theorem Jk11_0b1_at (rc : Rec) (md : Md) (e : Exit) (t : T) (h : Heap) : kAt Try.prog cfg rc md 124 (sub (bodyOf Try.prog 11) [1, 1, 1, 1, 0, 1, 0, 0]) [1, 1, 0, 0, 1, 1, 1, 1, 1, 0] (rndK (fun t => (t 0, t 4, t 5, t 38, t 39, t 40))) e t h = Jk11_0b1 rc md e (t 0) (t 4) (t 5) (t 8) (t 9) (t 38) (t 39) (t 40) (t 80) (t 81) h := by cases e <;> kernel_rfl
/-- a round -/
noncomputable def Jr11_0b1 (rc : Rec) (md : Md) (s0 : Value) (s4 : Value) (s5 : Value) (s8 : Value) (s9 : Value) (s38 : Value) (s39 : Value) (s40 : Value) (s80 : Value) (s81 : Value) (h : Heap) : Option (((Value × Value × Value × Value × Value × Value × Value × Value × Value × Value) × Heap) ⊕ (Exit × (Value × Value × Value × Value × Value × Value × Value × Value × Value × Value) × Heap)) :=
  aBin Try.prog .lss 3 s81 s80 fun v1 =>
  cBn v1 fun b2 =>
  bif b2 then
    cl (rc md 37 [s5, s81] h) fun v3 h4 =>
    exT v3 0 fun v5 =>
    cIn .u64 v5 fun n6 =>
    exT v3 1 fun v7 =>
    cIn .i64 v7 fun n8 =>
    cl (rc md 37 [s9, s81] h4) fun v9 h10 =>
    exT v9 0 fun v11 =>
    cIn .u64 v11 fun n12 =>
    exT v9 1 fun v13 =>
    cIn .i64 v13 fun n14 =>
    fA 1 s8 fun v15 =>
    ld1 v15 h10 fun v16 =>
    cIn .i64 v16 fun n17 =>
    aBin Try.prog .neq 3 s81 (.int .i64 n17) fun v18 =>
    (bif wantV v18 true then
    some ((.int .u64 n6), h10)
    else some (undef, h10)).bind fun p19 =>
    (bif wantV v18 true then
    some ((.int .u64 n12), p19.2)
    else some (undef, p19.2)).bind fun p20 =>
    (bif wantV v18 true then
    aBin Try.prog .neq 24 p19.1 p20.1 fun v21 =>
    some (v21, p20.2)
    else some (undef, p20.2)).bind fun p22 =>
    cBn v18 fun q23 =>
    cBn (bif q23 then p22.1 else (.bool false)) fun b24 =>
    (bif wantV (.bool b24) false then
    some (s81, p22.2)
    else some (undef, p22.2)).bind fun p25 =>
    (bif wantV (.bool b24) false then
    fA 1 s8 fun v26 =>
    some (v26, p25.2)
    else some (undef, p25.2)).bind fun p27 =>
    (bif wantV (.bool b24) false then
    ld1 p27.1 p27.2 fun v28 =>
    cIn .i64 v28 fun n29 =>
    some ((.int .i64 n29), p27.2)
    else some (undef, p27.2)).bind fun p30 =>
    (bif wantV (.bool b24) false then
    aBin Try.prog .eql 3 p25.1 p30.1 fun v31 =>
    some (v31, p30.2)
    else some (undef, p30.2)).bind fun p32 =>
    (bif wantV (.bool b24) false then
    some (p32.1, p32.2)
    else some (undef, p32.2)).bind fun p33 =>
    (bif wantV p33.1 true then
    fA 0 s8 fun v34 =>
    some (v34, p33.2)
    else some (undef, p33.2)).bind fun p35 =>
    (bif wantV p33.1 true then
    ld1 p35.1 p35.2 fun v36 =>
    cIn .i64 v36 fun n37 =>
    some ((.int .i64 n37), p35.2)
    else some (undef, p35.2)).bind fun p38 =>
    (bif wantV p33.1 true then
    aBin Try.prog .eql 3 p38.1 (.int .i64 1) fun v39 =>
    some (v39, p38.2)
    else some (undef, p38.2)).bind fun p40 =>
    (bif wantV (.bool b24) false then
    cBn p33.1 fun q41 =>
    cBn (bif q41 then p40.1 else (.bool false)) fun b42 =>
    some ((.bool b42), p40.2)
    else some (undef, p40.2)).bind fun p43 =>
    (bif wantV (.bool b24) false then
    some (p43.1, p43.2)
    else some (undef, p43.2)).bind fun p44 =>
    (bif wantV p44.1 true then
    some ((.int .u64 n6), p44.2)
    else some (undef, p44.2)).bind fun p45 =>
    (bif wantV p44.1 true then
    some ((.int .u64 n12), p45.2)
    else some (undef, p45.2)).bind fun p46 =>
    (bif wantV p44.1 true then
    aBin Try.prog .neq 24 p45.1 p46.1 fun v47 =>
    some (v47, p46.2)
    else some (undef, p46.2)).bind fun p48 =>
    (bif wantV (.bool b24) false then
    cBn p44.1 fun q49 =>
    cBn (bif q49 then p48.1 else (.bool false)) fun b50 =>
    some ((.bool b50), p48.2)
    else some (undef, p48.2)).bind fun p51 =>
    cBn (bif b24 then (.bool true) else p51.1) fun b52 =>
    bif b52 then
      some (.inr (.ret, (s0, (.bool false), s5, s8, s9, s38, s39, s40, s80, s81), p51.2))
    else
      aBin Try.prog .add 3 s81 (.int .i64 1) fun v53 =>
      some (.inl ((s0, s4, s5, s8, s9, s38, s39, s40, s80, v53), p51.2))
  else
    some (.inr ((.exit 3), (s0, s4, s5, s8, s9, s38, s39, s40, s80, s81), h))
theorem Jr11_0b1_at (rc : Rec) (md : Md) (t : T) (h : Heap) : exec Try.prog cfg rc md 124 (sub (bodyOf Try.prog 11) [1, 1, 1, 1, 0, 1, 0, 0, 1, 1, 0, 0, 1, 1, 1, 1, 1, 0, 0]) (rndK (fun t => (t 0, t 4, t 5, t 8, t 9, t 38, t 39, t 40, t 80, t 81))) t h = Jr11_0b1 rc md (t 0) (t 4) (t 5) (t 8) (t 9) (t 38) (t 39) (t 40) (t 80) (t 81) h := by kernel_rfl
noncomputable def J11_0b1 (rc : Rec) (md : Md) (s0 : Value) (s4 : Value) (s5 : Value) (s8 : Value) (s9 : Value) (s38 : Value) (s39 : Value) (s40 : Value) (s80 : Value) (s81 : Value) (h : Heap) : Option (((Value × Value × Value × Value × Value × Value) × Heap) ⊕ (Exit × (Value × Value × Value × Value × Value × Value) × Heap)) :=
  runL (fun x : (Value × Value × Value × Value × Value × Value × Value × Value × Value × Value) × Heap => Jr11_0b1 rc md x.1.1 x.1.2.1 x.1.2.2.1 x.1.2.2.2.1 x.1.2.2.2.2.1 x.1.2.2.2.2.2.1 x.1.2.2.2.2.2.2.1 x.1.2.2.2.2.2.2.2.1 x.1.2.2.2.2.2.2.2.2.1 x.1.2.2.2.2.2.2.2.2.2 x.2) (fun e (s : Value × Value × Value × Value × Value × Value × Value × Value × Value × Value) h => Jk11_0b1 rc md e s.1 s.2.1 s.2.2.1 s.2.2.2.1 s.2.2.2.2.1 s.2.2.2.2.2.1 s.2.2.2.2.2.2.1 s.2.2.2.2.2.2.2.1 s.2.2.2.2.2.2.2.2.1 s.2.2.2.2.2.2.2.2.2 h) (s0, s4, s5, s8, s9, s38, s39, s40, s80, s81) h
theorem J11_0b1_step (rc : Rec) (md : Md) (s0 : Value) (s4 : Value) (s5 : Value) (s8 : Value) (s9 : Value) (s38 : Value) (s39 : Value) (s40 : Value) (s80 : Value) (s81 : Value) (h : Heap) : J11_0b1 rc md s0 s4 s5 s8 s9 s38 s39 s40 s80 s81 h = (Jr11_0b1 rc md s0 s4 s5 s8 s9 s38 s39 s40 s80 s81 h).bind fun x => match x with
    | .inl (s, h) => J11_0b1 rc md s.1 s.2.1 s.2.2.1 s.2.2.2.1 s.2.2.2.2.1 s.2.2.2.2.2.1 s.2.2.2.2.2.2.1 s.2.2.2.2.2.2.2.1 s.2.2.2.2.2.2.2.2.1 s.2.2.2.2.2.2.2.2.2 h
    | .inr (e, s, h) => Jk11_0b1 rc md e s.1 s.2.1 s.2.2.1 s.2.2.2.1 s.2.2.2.2.1 s.2.2.2.2.2.1 s.2.2.2.2.2.2.1 s.2.2.2.2.2.2.2.1 s.2.2.2.2.2.2.2.2.1 s.2.2.2.2.2.2.2.2.2 h := by
  unfold J11_0b1
  rw [runL_eq]
  refine congrArg (Option.bind _) (funext fun x => ?_)
  rcases x with ⟨s, h⟩ | ⟨e, s, h⟩ <;> rfl
theorem J11_0b1_cut (rc : Rec) (md : Md) : cut Try.prog cfg rc md 124 (sub (bodyOf Try.prog 11) [1, 1, 1, 1, 0, 1, 0, 0]) [1, 1, 0, 0, 1, 1, 1, 1, 1, 0] (rndK (fun t => (t 0, t 4, t 5, t 38, t 39, t 40))) = fun t h => J11_0b1 rc md (t 0) (t 4) (t 5) (t 8) (t 9) (t 38) (t 39) (t 40) (t 80) (t 81) h := by
  funext t h
  have e : sub (sub (bodyOf Try.prog 11) [1, 1, 1, 1, 0, 1, 0, 0]) [1, 1, 0, 0, 1, 1, 1, 1, 1, 0] = .loop (sub (bodyOf Try.prog 11) [1, 1, 1, 1, 0, 1, 0, 0, 1, 1, 0, 0, 1, 1, 1, 1, 1, 0, 0]) := by kernel_rfl
  unfold cut
  rw [e]
  exact loop_eq (by kernel_rfl) (fun t => (t 0, t 4, t 5, t 8, t 9, t 38, t 39, t 40, t 80, t 81)) (fun x : (Value × Value × Value × Value × Value × Value × Value × Value × Value × Value) × Heap => Jr11_0b1 rc md x.1.1 x.1.2.1 x.1.2.2.1 x.1.2.2.2.1 x.1.2.2.2.2.1 x.1.2.2.2.2.2.1 x.1.2.2.2.2.2.2.1 x.1.2.2.2.2.2.2.2.1 x.1.2.2.2.2.2.2.2.2.1 x.1.2.2.2.2.2.2.2.2.2 x.2) (fun t h => Jr11_0b1_at rc md t h) (fun e (s : Value × Value × Value × Value × Value × Value × Value × Value × Value × Value) h => Jk11_0b1 rc md e s.1 s.2.1 s.2.2.1 s.2.2.2.1 s.2.2.2.2.1 s.2.2.2.2.2.1 s.2.2.2.2.2.2.1 s.2.2.2.2.2.2.2.1 s.2.2.2.2.2.2.2.2.1 s.2.2.2.2.2.2.2.2.2 h) (fun e t h => Jk11_0b1_at rc md e t h) t h
noncomputable def J11_0b0 (rc : Rec) (md : Md) (s0 : Value) (s4 : Value) (s5 : Value) (s8 : Value) (s9 : Value) (s38 : Value) (s39 : Value) (s40 : Value) (h : Heap) : Option (((Value × Value × Value × Value × Value × Value) × Heap) ⊕ (Exit × (Value × Value × Value × Value × Value × Value) × Heap)) :=
  J11_0b1 rc md s0 s4 s5 s8 s9 s38 s39 s40 s0 (.int .i64 0) h
noncomputable def J11_0b0H (rc : Rec) (md : Md) (X0 : T → Heap → Option (((Value × Value × Value × Value × Value × Value) × Heap) ⊕ (Exit × (Value × Value × Value × Value × Value × Value) × Heap))) (t : T) (h : Heap) : Option (((Value × Value × Value × Value × Value × Value) × Heap) ⊕ (Exit × (Value × Value × Value × Value × Value × Value) × Heap)) :=
  X0 (upd (upd t 80 (t 0)) 81 (.int .i64 0)) h
theorem J11_0b0_h1 (rc : Rec) (md : Md) (X : Nat → T → Heap → Option (((Value × Value × Value × Value × Value × Value) × Heap) ⊕ (Exit × (Value × Value × Value × Value × Value × Value) × Heap))) (t : T) (h : Heap) : execG Try.prog cfg X rc md 124 (sub (replS (sub (bodyOf Try.prog 11) [1, 1, 1, 1, 0, 1, 0, 0]) [([1, 1, 0, 0, 1, 1, 1, 1, 1, 0], 0)]) [1, 1, 0, 0, 1, 1, 1, 1]) (kAtG Try.prog cfg X rc md 124 (replS (sub (bodyOf Try.prog 11) [1, 1, 1, 1, 0, 1, 0, 0]) [([1, 1, 0, 0, 1, 1, 1, 1, 1, 0], 0)]) [1, 1, 0, 0, 1, 1, 1, 1] (rndK (fun t => (t 0, t 4, t 5, t 38, t 39, t 40)))) t h = J11_0b0H rc md (X 0) t h := by kernel_rfl
theorem J11_0b0_h2 (rc : Rec) (md : Md) (t : T) (h : Heap) : J11_0b0H rc md (fun t h => J11_0b1 rc md (t 0) (t 4) (t 5) (t 8) (t 9) (t 38) (t 39) (t 40) (t 80) (t 81) h) t h = J11_0b0 rc md (t 0) (t 4) (t 5) (t 8) (t 9) (t 38) (t 39) (t 40) h := by (unfold J11_0b0H J11_0b0; kernel_rfl)
theorem J11_0b0_at (rc : Rec) (md : Md) (t : T) (h : Heap) : cut Try.prog cfg rc md 124 (sub (bodyOf Try.prog 11) [1, 1, 1, 1, 0, 1, 0, 0]) [1, 1, 0, 0, 1, 1, 1, 1] (rndK (fun t => (t 0, t 4, t 5, t 38, t 39, t 40))) t h = J11_0b0 rc md (t 0) (t 4) (t 5) (t 8) (t 9) (t 38) (t 39) (t 40) h := by
  rw [cut_holes [([1, 1, 0, 0, 1, 1, 1, 1, 1, 0], 0)] [1, 1, 0, 0, 1, 1, 1, 1] (by kernel_rfl), J11_0b0_h1, show (goX Try.prog cfg rc md 124 (sub (bodyOf Try.prog 11) [1, 1, 1, 1, 0, 1, 0, 0]) [([1, 1, 0, 0, 1, 1, 1, 1, 1, 0], 0)] (rndK (fun t => (t 0, t 4, t 5, t 38, t 39, t 40)))) 0 = _ from J11_0b1_cut rc md]
  exact J11_0b0_h2 rc md t h
theorem J11_0b0_cut (rc : Rec) (md : Md) : cut Try.prog cfg rc md 124 (sub (bodyOf Try.prog 11) [1, 1, 1, 1, 0, 1, 0, 0]) [1, 1, 0, 0, 1, 1, 1, 1] (rndK (fun t => (t 0, t 4, t 5, t 38, t 39, t 40))) = fun t h => J11_0b0 rc md (t 0) (t 4) (t 5) (t 8) (t 9) (t 38) (t 39) (t 40) h := funext fun t => funext fun h => J11_0b0_at rc md t h
/-- a round -/
noncomputable def Jr11_0 (rc : Rec) (md : Md) (s0 : Value) (s4 : Value) (s5 : Value) (s38 : Value) (s39 : Value) (s40 : Value) (h : Heap) : Option (((Value × Value × Value × Value × Value × Value) × Heap) ⊕ (Exit × (Value × Value × Value × Value × Value × Value) × Heap)) :=
  aBin Try.prog .lss 3 s40 s39 fun v1 =>
  cBn v1 fun b2 =>
  bif b2 then
    ixSV 4 s38 s40 fun v3 =>
    ldN 4 v3 h fun v4 =>
    let h5 : Heap := h ++ [.own [(.int .i64 0), (.int .i64 0), (.int .u64 0), (.int .u64 0)]]
    st md 4 (.pointer (some ⟨h.length, 0, none⟩)) v4 h5 fun h6 =>
    cl (rc md 33 [s5] h6) fun v7 h8 =>
    aBin Try.prog .eql 53 v7 (.pointer none) fun v9 =>
    cBn v9 fun b10 =>
    bif b10 then
      some (.inr (.ret, (s0, (.bool false), s5, s38, s39, s40), h8))
    else
      ld1 (.pointer (some ⟨h.length, 0, none⟩)) h8 fun v11 =>
      cIn .i64 v11 fun n12 =>
      bif (n12 == 1) then
        ld1 (.pointer (some ⟨h.length, 1, none⟩)) h8 fun v13 =>
        cIn .i64 v13 fun n14 =>
        cl (rc md 37 [s5, (.int .i64 n14)] h8) fun v15 h16 =>
        J11_0b0 rc md s0 s4 s5 (.pointer (some ⟨h.length, 0, none⟩)) v7 s38 s39 s40 h16
      else
        bif (n12 == 2) then
          ld1 (.pointer (some ⟨h.length, 1, none⟩)) h8 fun v17 =>
          cIn .i64 v17 fun n18 =>
          ld1 (.pointer (some ⟨h.length, 3, none⟩)) h8 fun v19 =>
          cIn .u64 v19 fun n20 =>
          cl (rc md 35 [s5, (.int .i64 n18), (.int .u64 n20)] h8) fun v21 h22 =>
          cIn .i64 v21 fun n23 =>
          J11_0b0 rc md s0 s4 s5 (.pointer (some ⟨h.length, 0, none⟩)) v7 s38 s39 s40 h22
        else
          bif (n12 == 3) then
            ld1 (.pointer (some ⟨h.length, 1, none⟩)) h8 fun v24 =>
            cIn .i64 v24 fun n25 =>
            ld1 (.pointer (some ⟨h.length, 2, none⟩)) h8 fun v26 =>
            cIn .u64 v26 fun n27 =>
            ld1 (.pointer (some ⟨h.length, 3, none⟩)) h8 fun v28 =>
            cIn .u64 v28 fun n29 =>
            cl (rc md 38 [s5, (.int .i64 n25), (.int .u64 n27), (.int .u64 n29)] h8) fun v30 h31 =>
            J11_0b0 rc md s0 s4 s5 (.pointer (some ⟨h.length, 0, none⟩)) v7 s38 s39 s40 h31
          else
            ld1 (.pointer (some ⟨h.length, 1, none⟩)) h8 fun v32 =>
            cIn .i64 v32 fun n33 =>
            ld1 (.pointer (some ⟨h.length, 3, none⟩)) h8 fun v34 =>
            cIn .u64 v34 fun n35 =>
            cl (rc md 39 [s5, (.int .i64 n33), (.int .u64 n35)] h8) fun v36 h37 =>
            J11_0b0 rc md s0 s4 s5 (.pointer (some ⟨h.length, 0, none⟩)) v7 s38 s39 s40 h37
  else
    some (.inr ((.exit 0), (s0, s4, s5, s38, s39, s40), h))
noncomputable def Jr11_0H (rc : Rec) (md : Md) (X1 : T → Heap → Option (((Value × Value × Value × Value × Value × Value) × Heap) ⊕ (Exit × (Value × Value × Value × Value × Value × Value) × Heap))) (t : T) (h : Heap) : Option (((Value × Value × Value × Value × Value × Value) × Heap) ⊕ (Exit × (Value × Value × Value × Value × Value × Value) × Heap)) :=
  aBin Try.prog .lss 3 (t 40) (t 39) fun v1 =>
  cBn v1 fun b2 =>
  bif b2 then
    ixSV 4 (t 38) (t 40) fun v3 =>
    ldN 4 v3 h fun v4 =>
    let h5 : Heap := h ++ [.own [(.int .i64 0), (.int .i64 0), (.int .u64 0), (.int .u64 0)]]
    st md 4 (.pointer (some ⟨h.length, 0, none⟩)) v4 h5 fun h6 =>
    cl (rc md 33 [(t 5)] h6) fun v7 h8 =>
    aBin Try.prog .eql 53 v7 (.pointer none) fun v9 =>
    cBn v9 fun b10 =>
    bif b10 then
      some (.inr (.ret, ((t 0), (.bool false), (t 5), (t 38), (t 39), (t 40)), h8))
    else
      ld1 (.pointer (some ⟨h.length, 0, none⟩)) h8 fun v11 =>
      cIn .i64 v11 fun n12 =>
      bif (n12 == 1) then
        ld1 (.pointer (some ⟨h.length, 1, none⟩)) h8 fun v13 =>
        cIn .i64 v13 fun n14 =>
        cl (rc md 37 [(t 5), (.int .i64 n14)] h8) fun v15 h16 =>
        X1 (upd (upd (upd (upd (upd (upd (upd (upd (upd (upd (upd (upd (upd (upd (upd (upd (upd t 41 v1) 42 v3) 43 v4) 8 (.pointer (some ⟨h.length, 0, none⟩))) 44 (t 5)) 45 v7) 9 v7) 46 v7) 47 v9) 48 (.pointer (some ⟨h.length, 0, none⟩))) 49 (.int .i64 n12)) 57 (.bool (n12 == 1))) 56 (.bool (n12 == 1))) 58 (t 5)) 59 (.pointer (some ⟨h.length, 1, none⟩))) 60 (.int .i64 n14)) 61 v15) h16
      else
        bif (n12 == 2) then
          ld1 (.pointer (some ⟨h.length, 1, none⟩)) h8 fun v17 =>
          cIn .i64 v17 fun n18 =>
          ld1 (.pointer (some ⟨h.length, 3, none⟩)) h8 fun v19 =>
          cIn .u64 v19 fun n20 =>
          cl (rc md 35 [(t 5), (.int .i64 n18), (.int .u64 n20)] h8) fun v21 h22 =>
          cIn .i64 v21 fun n23 =>
          X1 (upd (upd (upd (upd (upd (upd (upd (upd (upd (upd (upd (upd (upd (upd (upd (upd (upd (upd (upd (upd (upd t 41 v1) 42 v3) 43 v4) 8 (.pointer (some ⟨h.length, 0, none⟩))) 44 (t 5)) 45 v7) 9 v7) 46 v7) 47 v9) 48 (.pointer (some ⟨h.length, 0, none⟩))) 49 (.int .i64 n12)) 57 (.bool (n12 == 1))) 56 (.bool (n12 == 1))) 63 (.bool (n12 == 2))) 62 (.bool (n12 == 2))) 64 (t 5)) 65 (.pointer (some ⟨h.length, 1, none⟩))) 66 (.int .i64 n18)) 67 (.pointer (some ⟨h.length, 3, none⟩))) 68 (.int .u64 n20)) 69 (.int .i64 n23)) h22
        else
          bif (n12 == 3) then
            ld1 (.pointer (some ⟨h.length, 1, none⟩)) h8 fun v24 =>
            cIn .i64 v24 fun n25 =>
            ld1 (.pointer (some ⟨h.length, 2, none⟩)) h8 fun v26 =>
            cIn .u64 v26 fun n27 =>
            ld1 (.pointer (some ⟨h.length, 3, none⟩)) h8 fun v28 =>
            cIn .u64 v28 fun n29 =>
            cl (rc md 38 [(t 5), (.int .i64 n25), (.int .u64 n27), (.int .u64 n29)] h8) fun v30 h31 =>
            X1 (upd (upd (upd (upd (upd (upd (upd (upd (upd (upd (upd (upd (upd (upd (upd (upd (upd (upd (upd (upd (upd (upd (upd (upd (upd t 41 v1) 42 v3) 43 v4) 8 (.pointer (some ⟨h.length, 0, none⟩))) 44 (t 5)) 45 v7) 9 v7) 46 v7) 47 v9) 48 (.pointer (some ⟨h.length, 0, none⟩))) 49 (.int .i64 n12)) 57 (.bool (n12 == 1))) 56 (.bool (n12 == 1))) 63 (.bool (n12 == 2))) 62 (.bool (n12 == 2))) 71 (.bool (n12 == 3))) 70 (.bool (n12 == 3))) 72 (t 5)) 73 (.pointer (some ⟨h.length, 1, none⟩))) 74 (.int .i64 n25)) 75 (.pointer (some ⟨h.length, 2, none⟩))) 76 (.int .u64 n27)) 77 (.pointer (some ⟨h.length, 3, none⟩))) 78 (.int .u64 n29)) 79 v30) h31
          else
            ld1 (.pointer (some ⟨h.length, 1, none⟩)) h8 fun v32 =>
            cIn .i64 v32 fun n33 =>
            ld1 (.pointer (some ⟨h.length, 3, none⟩)) h8 fun v34 =>
            cIn .u64 v34 fun n35 =>
            cl (rc md 39 [(t 5), (.int .i64 n33), (.int .u64 n35)] h8) fun v36 h37 =>
            X1 (upd (upd (upd (upd (upd (upd (upd (upd (upd (upd (upd (upd (upd (upd (upd (upd (upd (upd (upd (upd (upd (upd (upd t 41 v1) 42 v3) 43 v4) 8 (.pointer (some ⟨h.length, 0, none⟩))) 44 (t 5)) 45 v7) 9 v7) 46 v7) 47 v9) 48 (.pointer (some ⟨h.length, 0, none⟩))) 49 (.int .i64 n12)) 57 (.bool (n12 == 1))) 56 (.bool (n12 == 1))) 63 (.bool (n12 == 2))) 62 (.bool (n12 == 2))) 71 (.bool (n12 == 3))) 70 (.bool (n12 == 3))) 50 (t 5)) 51 (.pointer (some ⟨h.length, 1, none⟩))) 52 (.int .i64 n33)) 53 (.pointer (some ⟨h.length, 3, none⟩))) 54 (.int .u64 n35)) 55 v36) h37
  else
    some (.inr ((.exit 0), ((t 0), (t 4), (t 5), (t 38), (t 39), (t 40)), h))
theorem Jr11_0_h1 (rc : Rec) (md : Md) (X : Nat → T → Heap → Option (((Value × Value × Value × Value × Value × Value) × Heap) ⊕ (Exit × (Value × Value × Value × Value × Value × Value) × Heap))) (t : T) (h : Heap) : execG Try.prog cfg X rc md 124 (replS (sub (bodyOf Try.prog 11) [1, 1, 1, 1, 0, 1, 0, 0]) [([1, 1, 0, 0, 1, 1, 1, 1, 1, 0], 0), ([1, 1, 0, 0, 1, 1, 1, 1], 1)]) (rndK (fun t => (t 0, t 4, t 5, t 38, t 39, t 40))) t h = Jr11_0H rc md (X 1) t h := by kernel_rfl
theorem Jr11_0_h2 (rc : Rec) (md : Md) (t : T) (h : Heap) : Jr11_0H rc md (fun t h => J11_0b0 rc md (t 0) (t 4) (t 5) (t 8) (t 9) (t 38) (t 39) (t 40) h) t h = Jr11_0 rc md (t 0) (t 4) (t 5) (t 38) (t 39) (t 40) h := by unfold Jr11_0H Jr11_0; kernel_rfl
theorem Jr11_0_at (rc : Rec) (md : Md) (t : T) (h : Heap) : exec Try.prog cfg rc md 124 (sub (bodyOf Try.prog 11) [1, 1, 1, 1, 0, 1, 0, 0]) (rndK (fun t => (t 0, t 4, t 5, t 38, t 39, t 40))) t h = Jr11_0 rc md (t 0) (t 4) (t 5) (t 38) (t 39) (t 40) h := by
  rw [exec_holes [([1, 1, 0, 0, 1, 1, 1, 1, 1, 0], 0), ([1, 1, 0, 0, 1, 1, 1, 1], 1)] (by kernel_rfl), Jr11_0_h1, show (goX Try.prog cfg rc md 124 (sub (bodyOf Try.prog 11) [1, 1, 1, 1, 0, 1, 0, 0]) [([1, 1, 0, 0, 1, 1, 1, 1, 1, 0], 0), ([1, 1, 0, 0, 1, 1, 1, 1], 1)] (rndK (fun t => (t 0, t 4, t 5, t 38, t 39, t 40)))) 1 = _ from J11_0b0_cut rc md]
  exact Jr11_0_h2 rc md t h
noncomputable def J11_0 (rc : Rec) (md : Md) (h0 : Heap) (s0 : Value) (s4 : Value) (s5 : Value) (s38 : Value) (s39 : Value) (s40 : Value) (h : Heap) : Option (Value × Heap) :=
  runL (fun x : (Value × Value × Value × Value × Value × Value) × Heap => Jr11_0 rc md x.1.1 x.1.2.1 x.1.2.2.1 x.1.2.2.2.1 x.1.2.2.2.2.1 x.1.2.2.2.2.2 x.2) (fun e (s : Value × Value × Value × Value × Value × Value) h => Jk11_0 rc md h0 e s.1 s.2.1 s.2.2.1 s.2.2.2.1 s.2.2.2.2.1 s.2.2.2.2.2 h) (s0, s4, s5, s38, s39, s40) h
theorem J11_0_step (rc : Rec) (md : Md) (h0 : Heap) (s0 : Value) (s4 : Value) (s5 : Value) (s38 : Value) (s39 : Value) (s40 : Value) (h : Heap) : J11_0 rc md h0 s0 s4 s5 s38 s39 s40 h = (Jr11_0 rc md s0 s4 s5 s38 s39 s40 h).bind fun x => match x with
    | .inl (s, h) => J11_0 rc md h0 s.1 s.2.1 s.2.2.1 s.2.2.2.1 s.2.2.2.2.1 s.2.2.2.2.2 h
    | .inr (e, s, h) => Jk11_0 rc md h0 e s.1 s.2.1 s.2.2.1 s.2.2.2.1 s.2.2.2.2.1 s.2.2.2.2.2 h := by
  unfold J11_0
  rw [runL_eq]
  refine congrArg (Option.bind _) (funext fun x => ?_)
  rcases x with ⟨s, h⟩ | ⟨e, s, h⟩ <;> rfl
theorem J11_0_cut (rc : Rec) (md : Md) (h0 : Heap) : cut Try.prog cfg rc md 124 (bodyOf Try.prog 11) [1, 1, 1, 1, 0, 1, 0] (retK Try.prog cfg 11 (rsOf Try.prog 11) h0) = fun t h => J11_0 rc md h0 (t 0) (t 4) (t 5) (t 38) (t 39) (t 40) h := by
  funext t h
  have e : sub (bodyOf Try.prog 11) [1, 1, 1, 1, 0, 1, 0] = .loop (sub (bodyOf Try.prog 11) [1, 1, 1, 1, 0, 1, 0, 0]) := by kernel_rfl
  unfold cut
  rw [e]
  exact loop_eq (by kernel_rfl) (fun t => (t 0, t 4, t 5, t 38, t 39, t 40)) (fun x : (Value × Value × Value × Value × Value × Value) × Heap => Jr11_0 rc md x.1.1 x.1.2.1 x.1.2.2.1 x.1.2.2.2.1 x.1.2.2.2.2.1 x.1.2.2.2.2.2 x.2) (fun t h => Jr11_0_at rc md t h) (fun e (s : Value × Value × Value × Value × Value × Value) h => Jk11_0 rc md h0 e s.1 s.2.1 s.2.2.1 s.2.2.2.1 s.2.2.2.2.1 s.2.2.2.2.2 h) (fun e t h => Jk11_0_at rc md h0 e t h) t h
noncomputable def F11 (rc : Rec) (md : Md) (a0 : Int) (a1 : Value) (h0 : Heap) : Option (Value × Heap) :=
  lenS a1 fun v1 =>
  cIn .i64 v1 fun n2 =>
  (bif wantV (.bool (decide (n2 > 60))) false then
  some ((.int .i64 a0), h0)
  else some (undef, h0)).bind fun p3 =>
  (bif wantV (.bool (decide (n2 > 60))) false then
  aBin Try.prog .lss 3 p3.1 (.int .i64 0) fun v4 =>
  some (v4, p3.2)
  else some (undef, p3.2)).bind fun p5 =>
  cBn (bif (decide (n2 > 60)) then (.bool true) else p5.1) fun b6 =>
  (bif wantV (.bool b6) false then
  some ((.int .i64 a0), p5.2)
  else some (undef, p5.2)).bind fun p7 =>
  (bif wantV (.bool b6) false then
  aBin Try.prog .gtr 3 p7.1 (.int .i64 40) fun v8 =>
  some (v8, p7.2)
  else some (undef, p7.2)).bind fun p9 =>
  cBn (bif b6 then (.bool true) else p9.1) fun b10 =>
  bif b10 then
    cl (rc md 30 [] p9.2) fun v11 h12 =>
    cBn v11 fun b13 =>
    some ((.bool b13), h0)
  else
    cl (rc md 31 [(.int .i64 a0)] p9.2) fun v14 h15 =>
    exT v14 0 fun v16 =>
    exT v14 1 fun v17 =>
    cIn .i64 v17 fun n18 =>
    (bif wantV (.bool (n18 != 0)) false then
    some (v16, h15)
    else some (undef, h15)).bind fun p19 =>
    (bif wantV (.bool (n18 != 0)) false then
    aBin Try.prog .eql 53 p19.1 (.pointer none) fun v20 =>
    some (v20, p19.2)
    else some (undef, p19.2)).bind fun p21 =>
    cBn (bif (n18 != 0) then (.bool true) else p21.1) fun b22 =>
    bif b22 then
      some ((.bool false), h0)
    else
      lenS a1 fun v23 =>
      cIn .i64 v23 fun n24 =>
      J11_0 rc md h0 (.int .i64 a0) (.bool false) v16 a1 (.int .i64 n24) (.int .i64 0) p21.2
noncomputable def F11H (rc : Rec) (md : Md) (X0 : T → Heap → Option (Value × Heap)) (a0 : Int) (a1 : Value) (h0 : Heap) : Option (Value × Heap) :=
  lenS a1 fun v1 =>
  cIn .i64 v1 fun n2 =>
  (bif wantV (.bool (decide (n2 > 60))) false then
  some ((.int .i64 a0), h0)
  else some (undef, h0)).bind fun p3 =>
  (bif wantV (.bool (decide (n2 > 60))) false then
  aBin Try.prog .lss 3 p3.1 (.int .i64 0) fun v4 =>
  some (v4, p3.2)
  else some (undef, p3.2)).bind fun p5 =>
  cBn (bif (decide (n2 > 60)) then (.bool true) else p5.1) fun b6 =>
  (bif wantV (.bool b6) false then
  some ((.int .i64 a0), p5.2)
  else some (undef, p5.2)).bind fun p7 =>
  (bif wantV (.bool b6) false then
  aBin Try.prog .gtr 3 p7.1 (.int .i64 40) fun v8 =>
  some (v8, p7.2)
  else some (undef, p7.2)).bind fun p9 =>
  cBn (bif b6 then (.bool true) else p9.1) fun b10 =>
  bif b10 then
    cl (rc md 30 [] p9.2) fun v11 h12 =>
    cBn v11 fun b13 =>
    some ((.bool b13), h0)
  else
    cl (rc md 31 [(.int .i64 a0)] p9.2) fun v14 h15 =>
    exT v14 0 fun v16 =>
    exT v14 1 fun v17 =>
    cIn .i64 v17 fun n18 =>
    (bif wantV (.bool (n18 != 0)) false then
    some (v16, h15)
    else some (undef, h15)).bind fun p19 =>
    (bif wantV (.bool (n18 != 0)) false then
    aBin Try.prog .eql 53 p19.1 (.pointer none) fun v20 =>
    some (v20, p19.2)
    else some (undef, p19.2)).bind fun p21 =>
    cBn (bif (n18 != 0) then (.bool true) else p21.1) fun b22 =>
    bif b22 then
      some ((.bool false), h0)
    else
      lenS a1 fun v23 =>
      cIn .i64 v23 fun n24 =>
      X0 (upd (upd (upd (upd (upd (upd (upd (upd (upd (upd (upd (upd (upd (upd (upd (upd (upd (upd (upd (upd (upd (upd (upd (upd (upd (upd (upd (upd (args0 [(.int .i64 a0), a1]) 4 (.bool false)) 15 a1) 16 (.int .i64 n2)) 17 (.bool (decide (n2 > 60)))) 18 (.bool (decide (n2 > 60)))) 19 p3.1) 20 p5.1) 21 (.bool b6)) 22 (.bool b6)) 23 p7.1) 24 p9.1) 25 (.bool b10)) 28 (.int .i64 a0)) 29 v14) 27 v14) 30 v16) 31 (.int .i64 n18)) 5 v16) 6 (.int .i64 n18)) 32 (.int .i64 n18)) 33 (.bool (n18 != 0))) 34 (.bool (n18 != 0))) 35 p19.1) 36 p21.1) 37 (.bool b22)) 38 a1) 39 (.int .i64 n24)) 40 (.int .i64 0)) p21.2
theorem F11_h0 (rc : Rec) (md : Md) (a0 : Int) (a1 : Value) (h0 : Heap) : callStep0 Try.prog cfg rc md 11 [(.int .i64 a0), a1] h0 = exec Try.prog cfg rc ⟨h0.length, h0.length⟩ 124 (bodyOf Try.prog 11) (retK Try.prog cfg 11 (rsOf Try.prog 11) h0) (args0 [(.int .i64 a0), a1]) h0 := callStep0_run (by kernel_rfl) (by kernel_rfl) (by kernel_rfl)
theorem F11_h1 (rc : Rec) (md : Md) (X : Nat → T → Heap → Option (Value × Heap)) (a0 : Int) (a1 : Value) (h0 : Heap) : execG Try.prog cfg X rc md 124 (replS (bodyOf Try.prog 11) [([1, 1, 1, 1, 0, 1, 0], 0)]) (retK Try.prog cfg 11 (rsOf Try.prog 11) h0) (args0 [(.int .i64 a0), a1]) h0 = F11H rc md (X 0) a0 a1 h0 := by kernel_rfl
theorem F11_h2 (rc : Rec) (md : Md) (a0 : Int) (a1 : Value) (h0 : Heap) : F11H rc md (fun t h => J11_0 rc md h0 (t 0) (t 4) (t 5) (t 38) (t 39) (t 40) h) a0 a1 h0 = F11 rc md a0 a1 h0 := by unfold F11H F11; kernel_rfl
theorem F11_eq0 (rc : Rec) (md : Md) (a0 : Int) (a1 : Value) (h0 : Heap) : callStep0 Try.prog cfg rc md 11 [(.int .i64 a0), a1] h0 = F11 rc ⟨h0.length, h0.length⟩ a0 a1 h0 := by
  rw [F11_h0, exec_holes [([1, 1, 1, 1, 0, 1, 0], 0)] (by kernel_rfl), F11_h1, show (goX Try.prog cfg rc ⟨h0.length, h0.length⟩ 124 (bodyOf Try.prog 11) [([1, 1, 1, 1, 0, 1, 0], 0)] (retK Try.prog cfg 11 (rsOf Try.prog 11) h0)) 0 = _ from J11_0_cut rc ⟨h0.length, h0.length⟩ h0]
  exact F11_h2 rc _ a0 a1 h0
theorem F11_eq (rc : Rec) (md : Md) (a0 : Int) (a1 : Value) (h0 : Heap) : callStep Try.prog cfg rc md 11 [(.int .i64 a0), a1] h0 = F11 rc ⟨h0.length, h0.length⟩ a0 a1 h0 := (callStep_ne (by kernel_rfl)).trans (F11_eq0 rc md a0 a1 h0)

/-- tombolo/tombololaw02.CellOnce -/
noncomputable def Jk12_0 (rc : Rec) (md : Md) (h0 : Heap) (e : Exit) (s0 : Value) (s4 : Value) (s5 : Value) (s7 : Value) (s32 : Value) (s33 : Value) (s34 : Value) (h : Heap) : Option (Value × Heap) :=
  match e with
  | .normal =>
    cl (rc md 30 [] h) fun v1 h2 =>
    cBn v1 fun b3 =>
    some ((.bool b3), h0)
  | .exit j =>
    bif Nat.beq j 0 then
      cl (rc md 30 [] h) fun v4 h5 =>
      cBn v4 fun b6 =>
      some ((.bool b6), h0)
    else
      none
  | .ret =>
    fin2 h0 s4
  | .goto l => none
  | .panic ps => none
  | .outgrown => none
theorem Jk12_0_at (rc : Rec) (md : Md) (h0 : Heap) (e : Exit) (t : T) (h : Heap) : kAt Try.prog cfg rc md 57 (bodyOf Try.prog 12) [1, 1, 1, 1, 1, 0, 1, 0] (retK Try.prog cfg 12 (rsOf Try.prog 12) h0) e t h = Jk12_0 rc md h0 e (t 0) (t 4) (t 5) (t 7) (t 32) (t 33) (t 34) h := by cases e <;> kernel_rfl
/-- a round -/
noncomputable def Jr12_0 (rc : Rec) (md : Md) (s0 : Value) (s4 : Value) (s5 : Value) (s7 : Value) (s32 : Value) (s33 : Value) (s34 : Value) (h : Heap) : Option (((Value × Value × Value × Value × Value × Value × Value) × Heap) ⊕ (Exit × (Value × Value × Value × Value × Value × Value × Value) × Heap)) :=
  aBin Try.prog .lss 3 s34 s33 fun v1 =>
  cBn v1 fun b2 =>
  bif b2 then
    ixSV 1 s32 s34 fun v3 =>
    ld1 v3 h fun v4 =>
    cIn .u64 v4 fun n5 =>
    aBin Try.prog .eql 24 (.int .u64 n5) s0 fun v6 =>
    cBn v6 fun b7 =>
    bif b7 then
      aBin Try.prog .add 3 s34 (.int .i64 1) fun v8 =>
      some (.inl ((s0, s4, s5, s7, s32, s33, v8), h))
    else
      cl (rc md 38 [s5, (.int .i64 0), s0, (.int .u64 n5)] h) fun v9 h10 =>
      exT v9 0 fun v11 =>
      cBn v11 fun b12 =>
      exT v9 1 fun v13 =>
      cIn .i64 v13 fun n14 =>
      aBin Try.prog .eql 4 (.bool b12) s7 fun v15 =>
      (bif wantV v15 false then
      some ((.int .i64 n14), h10)
      else some (undef, h10)).bind fun p16 =>
      (bif wantV v15 false then
      aBin Try.prog .neq 25 p16.1 (.int .i64 0) fun v17 =>
      some (v17, p16.2)
      else some (undef, p16.2)).bind fun p18 =>
      cBn v15 fun q19 =>
      cBn (bif q19 then (.bool true) else p18.1) fun b20 =>
      bif b20 then
        some (.inr (.ret, (s0, (.bool false), s5, s7, s32, s33, s34), p18.2))
      else
        aBin Try.prog .add 3 s34 (.int .i64 1) fun v21 =>
        some (.inl ((s0, s4, s5, (.bool true), s32, s33, v21), p18.2))
  else
    some (.inr ((.exit 0), (s0, s4, s5, s7, s32, s33, s34), h))
theorem Jr12_0_at (rc : Rec) (md : Md) (t : T) (h : Heap) : exec Try.prog cfg rc md 57 (sub (bodyOf Try.prog 12) [1, 1, 1, 1, 1, 0, 1, 0, 0]) (rndK (fun t => (t 0, t 4, t 5, t 7, t 32, t 33, t 34))) t h = Jr12_0 rc md (t 0) (t 4) (t 5) (t 7) (t 32) (t 33) (t 34) h := by kernel_rfl
noncomputable def J12_0 (rc : Rec) (md : Md) (h0 : Heap) (s0 : Value) (s4 : Value) (s5 : Value) (s7 : Value) (s32 : Value) (s33 : Value) (s34 : Value) (h : Heap) : Option (Value × Heap) :=
  runL (fun x : (Value × Value × Value × Value × Value × Value × Value) × Heap => Jr12_0 rc md x.1.1 x.1.2.1 x.1.2.2.1 x.1.2.2.2.1 x.1.2.2.2.2.1 x.1.2.2.2.2.2.1 x.1.2.2.2.2.2.2 x.2) (fun e (s : Value × Value × Value × Value × Value × Value × Value) h => Jk12_0 rc md h0 e s.1 s.2.1 s.2.2.1 s.2.2.2.1 s.2.2.2.2.1 s.2.2.2.2.2.1 s.2.2.2.2.2.2 h) (s0, s4, s5, s7, s32, s33, s34) h
theorem J12_0_step (rc : Rec) (md : Md) (h0 : Heap) (s0 : Value) (s4 : Value) (s5 : Value) (s7 : Value) (s32 : Value) (s33 : Value) (s34 : Value) (h : Heap) : J12_0 rc md h0 s0 s4 s5 s7 s32 s33 s34 h = (Jr12_0 rc md s0 s4 s5 s7 s32 s33 s34 h).bind fun x => match x with
    | .inl (s, h) => J12_0 rc md h0 s.1 s.2.1 s.2.2.1 s.2.2.2.1 s.2.2.2.2.1 s.2.2.2.2.2.1 s.2.2.2.2.2.2 h
    | .inr (e, s, h) => Jk12_0 rc md h0 e s.1 s.2.1 s.2.2.1 s.2.2.2.1 s.2.2.2.2.1 s.2.2.2.2.2.1 s.2.2.2.2.2.2 h := by
  unfold J12_0
  rw [runL_eq]
  refine congrArg (Option.bind _) (funext fun x => ?_)
  rcases x with ⟨s, h⟩ | ⟨e, s, h⟩ <;> rfl
theorem J12_0_cut (rc : Rec) (md : Md) (h0 : Heap) : cut Try.prog cfg rc md 57 (bodyOf Try.prog 12) [1, 1, 1, 1, 1, 0, 1, 0] (retK Try.prog cfg 12 (rsOf Try.prog 12) h0) = fun t h => J12_0 rc md h0 (t 0) (t 4) (t 5) (t 7) (t 32) (t 33) (t 34) h := by
  funext t h
  have e : sub (bodyOf Try.prog 12) [1, 1, 1, 1, 1, 0, 1, 0] = .loop (sub (bodyOf Try.prog 12) [1, 1, 1, 1, 1, 0, 1, 0, 0]) := by kernel_rfl
  unfold cut
  rw [e]
  exact loop_eq (by kernel_rfl) (fun t => (t 0, t 4, t 5, t 7, t 32, t 33, t 34)) (fun x : (Value × Value × Value × Value × Value × Value × Value) × Heap => Jr12_0 rc md x.1.1 x.1.2.1 x.1.2.2.1 x.1.2.2.2.1 x.1.2.2.2.2.1 x.1.2.2.2.2.2.1 x.1.2.2.2.2.2.2 x.2) (fun t h => Jr12_0_at rc md t h) (fun e (s : Value × Value × Value × Value × Value × Value × Value) h => Jk12_0 rc md h0 e s.1 s.2.1 s.2.2.1 s.2.2.2.1 s.2.2.2.2.1 s.2.2.2.2.2.1 s.2.2.2.2.2.2 h) (fun e t h => Jk12_0_at rc md h0 e t h) t h
noncomputable def F12 (rc : Rec) (md : Md) (a0 : Int) (a1 : Value) (h0 : Heap) : Option (Value × Heap) :=
  lenS a1 fun v1 =>
  cIn .i64 v1 fun n2 =>
  bif (decide (n2 > 60)) then
    cl (rc md 30 [] h0) fun v3 h4 =>
    cBn v3 fun b5 =>
    some ((.bool b5), h0)
  else
    cl (rc md 31 [(.int .i64 1)] h0) fun v6 h7 =>
    exT v6 0 fun v8 =>
    exT v6 1 fun v9 =>
    cIn .i64 v9 fun n10 =>
    (bif wantV (.bool (n10 != 0)) false then
    some (v8, h7)
    else some (undef, h7)).bind fun p11 =>
    (bif wantV (.bool (n10 != 0)) false then
    aBin Try.prog .eql 53 p11.1 (.pointer none) fun v12 =>
    some (v12, p11.2)
    else some (undef, p11.2)).bind fun p13 =>
    cBn (bif (n10 != 0) then (.bool true) else p13.1) fun b14 =>
    (bif wantV (.bool b14) false then
    some (v8, p13.2)
    else some (undef, p13.2)).bind fun p15 =>
    (bif wantV (.bool b14) false then
    some ((.int .u64 a0), p15.2)
    else some (undef, p15.2)).bind fun p16 =>
    (bif wantV (.bool b14) false then
    cl (rc md 35 [p15.1, (.int .i64 0), p16.1] p16.2) fun v17 h18 =>
    cIn .i64 v17 fun n19 =>
    some ((.int .i64 n19), h18)
    else some (undef, p16.2)).bind fun p20 =>
    (bif wantV (.bool b14) false then
    aBin Try.prog .neq 25 p20.1 (.int .i64 0) fun v21 =>
    some (v21, p20.2)
    else some (undef, p20.2)).bind fun p22 =>
    cBn (bif b14 then (.bool true) else p22.1) fun b23 =>
    bif b23 then
      some ((.bool false), h0)
    else
      lenS a1 fun v24 =>
      cIn .i64 v24 fun n25 =>
      J12_0 rc md h0 (.int .u64 a0) (.bool false) v8 (.bool false) a1 (.int .i64 n25) (.int .i64 0) p22.2
noncomputable def F12H (rc : Rec) (md : Md) (X0 : T → Heap → Option (Value × Heap)) (a0 : Int) (a1 : Value) (h0 : Heap) : Option (Value × Heap) :=
  lenS a1 fun v1 =>
  cIn .i64 v1 fun n2 =>
  bif (decide (n2 > 60)) then
    cl (rc md 30 [] h0) fun v3 h4 =>
    cBn v3 fun b5 =>
    some ((.bool b5), h0)
  else
    cl (rc md 31 [(.int .i64 1)] h0) fun v6 h7 =>
    exT v6 0 fun v8 =>
    exT v6 1 fun v9 =>
    cIn .i64 v9 fun n10 =>
    (bif wantV (.bool (n10 != 0)) false then
    some (v8, h7)
    else some (undef, h7)).bind fun p11 =>
    (bif wantV (.bool (n10 != 0)) false then
    aBin Try.prog .eql 53 p11.1 (.pointer none) fun v12 =>
    some (v12, p11.2)
    else some (undef, p11.2)).bind fun p13 =>
    cBn (bif (n10 != 0) then (.bool true) else p13.1) fun b14 =>
    (bif wantV (.bool b14) false then
    some (v8, p13.2)
    else some (undef, p13.2)).bind fun p15 =>
    (bif wantV (.bool b14) false then
    some ((.int .u64 a0), p15.2)
    else some (undef, p15.2)).bind fun p16 =>
    (bif wantV (.bool b14) false then
    cl (rc md 35 [p15.1, (.int .i64 0), p16.1] p16.2) fun v17 h18 =>
    cIn .i64 v17 fun n19 =>
    some ((.int .i64 n19), h18)
    else some (undef, p16.2)).bind fun p20 =>
    (bif wantV (.bool b14) false then
    aBin Try.prog .neq 25 p20.1 (.int .i64 0) fun v21 =>
    some (v21, p20.2)
    else some (undef, p20.2)).bind fun p22 =>
    cBn (bif b14 then (.bool true) else p22.1) fun b23 =>
    bif b23 then
      some ((.bool false), h0)
    else
      lenS a1 fun v24 =>
      cIn .i64 v24 fun n25 =>
      X0 (upd (upd (upd (upd (upd (upd (upd (upd (upd (upd (upd (upd (upd (upd (upd (upd (upd (upd (upd (upd (upd (upd (upd (upd (upd (upd (args0 [(.int .u64 a0), a1]) 4 (.bool false)) 12 a1) 13 (.int .i64 n2)) 14 (.bool (decide (n2 > 60)))) 17 v6) 16 v6) 18 v8) 19 (.int .i64 n10)) 5 v8) 6 (.int .i64 n10)) 20 (.int .i64 n10)) 21 (.bool (n10 != 0))) 22 (.bool (n10 != 0))) 23 p11.1) 24 p13.1) 25 (.bool b14)) 26 (.bool b14)) 27 p15.1) 28 p16.1) 29 p20.1) 30 p22.1) 31 (.bool b23)) 7 (.bool false)) 32 a1) 33 (.int .i64 n25)) 34 (.int .i64 0)) p22.2
theorem F12_h0 (rc : Rec) (md : Md) (a0 : Int) (a1 : Value) (h0 : Heap) : callStep0 Try.prog cfg rc md 12 [(.int .u64 a0), a1] h0 = exec Try.prog cfg rc ⟨h0.length, h0.length⟩ 57 (bodyOf Try.prog 12) (retK Try.prog cfg 12 (rsOf Try.prog 12) h0) (args0 [(.int .u64 a0), a1]) h0 := callStep0_run (by kernel_rfl) (by kernel_rfl) (by kernel_rfl)
theorem F12_h1 (rc : Rec) (md : Md) (X : Nat → T → Heap → Option (Value × Heap)) (a0 : Int) (a1 : Value) (h0 : Heap) : execG Try.prog cfg X rc md 57 (replS (bodyOf Try.prog 12) [([1, 1, 1, 1, 1, 0, 1, 0], 0)]) (retK Try.prog cfg 12 (rsOf Try.prog 12) h0) (args0 [(.int .u64 a0), a1]) h0 = F12H rc md (X 0) a0 a1 h0 := by kernel_rfl
theorem F12_h2 (rc : Rec) (md : Md) (a0 : Int) (a1 : Value) (h0 : Heap) : F12H rc md (fun t h => J12_0 rc md h0 (t 0) (t 4) (t 5) (t 7) (t 32) (t 33) (t 34) h) a0 a1 h0 = F12 rc md a0 a1 h0 := by unfold F12H F12; kernel_rfl
theorem F12_eq0 (rc : Rec) (md : Md) (a0 : Int) (a1 : Value) (h0 : Heap) : callStep0 Try.prog cfg rc md 12 [(.int .u64 a0), a1] h0 = F12 rc ⟨h0.length, h0.length⟩ a0 a1 h0 := by
  rw [F12_h0, exec_holes [([1, 1, 1, 1, 1, 0, 1, 0], 0)] (by kernel_rfl), F12_h1, show (goX Try.prog cfg rc ⟨h0.length, h0.length⟩ 57 (bodyOf Try.prog 12) [([1, 1, 1, 1, 1, 0, 1, 0], 0)] (retK Try.prog cfg 12 (rsOf Try.prog 12) h0)) 0 = _ from J12_0_cut rc ⟨h0.length, h0.length⟩ h0]
  exact F12_h2 rc _ a0 a1 h0
theorem F12_eq (rc : Rec) (md : Md) (a0 : Int) (a1 : Value) (h0 : Heap) : callStep Try.prog cfg rc md 12 [(.int .u64 a0), a1] h0 = F12 rc ⟨h0.length, h0.length⟩ a0 a1 h0 := (callStep_ne (by kernel_rfl)).trans (F12_eq0 rc md a0 a1 h0)

/-- tombolo/tombololaw02.CellCopies -/
noncomputable def F13 (rc : Rec) (md : Md) (a0 : Int) (a1 : Value) (a2 : Value) (h0 : Heap) : Option (Value × Heap) :=
  lenS a1 fun v1 =>
  cIn .i64 v1 fun n2 =>
  (bif wantV (.bool (decide (n2 > 60))) false then
  some (a2, h0)
  else some (undef, h0)).bind fun p3 =>
  (bif wantV (.bool (decide (n2 > 60))) false then
  lenS p3.1 fun v4 =>
  cIn .i64 v4 fun n5 =>
  some ((.int .i64 n5), p3.2)
  else some (undef, p3.2)).bind fun p6 =>
  (bif wantV (.bool (decide (n2 > 60))) false then
  aBin Try.prog .gtr 3 p6.1 (.int .i64 60) fun v7 =>
  some (v7, p6.2)
  else some (undef, p6.2)).bind fun p8 =>
  cBn (bif (decide (n2 > 60)) then (.bool true) else p8.1) fun b9 =>
  (bif wantV (.bool b9) false then
  some ((.int .i64 a0), p8.2)
  else some (undef, p8.2)).bind fun p10 =>
  (bif wantV (.bool b9) false then
  aBin Try.prog .lss 3 p10.1 (.int .i64 1) fun v11 =>
  some (v11, p10.2)
  else some (undef, p10.2)).bind fun p12 =>
  cBn (bif b9 then (.bool true) else p12.1) fun b13 =>
  (bif wantV (.bool b13) false then
  some ((.int .i64 a0), p12.2)
  else some (undef, p12.2)).bind fun p14 =>
  (bif wantV (.bool b13) false then
  aBin Try.prog .gtr 3 p14.1 (.int .i64 40) fun v15 =>
  some (v15, p14.2)
  else some (undef, p14.2)).bind fun p16 =>
  cBn (bif b13 then (.bool true) else p16.1) fun b17 =>
  bif b17 then
    cl (rc md 30 [] p16.2) fun v18 h19 =>
    cBn v18 fun b20 =>
    some ((.bool b20), h0)
  else
    cl (rc md 31 [(.int .i64 a0)] p16.2) fun v21 h22 =>
    exT v21 0 fun v23 =>
    exT v21 1 fun v24 =>
    cIn .i64 v24 fun n25 =>
    (bif wantV (.bool (n25 != 0)) false then
    some (v23, h22)
    else some (undef, h22)).bind fun p26 =>
    (bif wantV (.bool (n25 != 0)) false then
    aBin Try.prog .eql 53 p26.1 (.pointer none) fun v27 =>
    some (v27, p26.2)
    else some (undef, p26.2)).bind fun p28 =>
    cBn (bif (n25 != 0) then (.bool true) else p28.1) fun b29 =>
    bif b29 then
      some ((.bool false), h0)
    else
      cl (rc md 41 [v23, a1] p28.2) fun v30 h31 =>
      cl (rc md 33 [v23] h31) fun v32 h33 =>
      cl (rc md 33 [v23] h33) fun v34 h35 =>
      aBin Try.prog .eql 53 v32 (.pointer none) fun v36 =>
      (bif wantV v36 false then
      some (v34, h35)
      else some (undef, h35)).bind fun p37 =>
      (bif wantV v36 false then
      aBin Try.prog .eql 53 p37.1 (.pointer none) fun v38 =>
      some (v38, p37.2)
      else some (undef, p37.2)).bind fun p39 =>
      cBn v36 fun q40 =>
      cBn (bif q40 then (.bool true) else p39.1) fun b41 =>
      (bif wantV (.bool b41) false then
      some (v32, p39.2)
      else some (undef, p39.2)).bind fun p42 =>
      (bif wantV (.bool b41) false then
      cl (rc md 40 [p42.1] p42.2) fun v43 h44 =>
      some (v43, h44)
      else some (undef, p42.2)).bind fun p45 =>
      (bif wantV (.bool b41) false then
      some (v23, p45.2)
      else some (undef, p45.2)).bind fun p46 =>
      (bif wantV (.bool b41) false then
      cl (rc md 40 [p46.1] p46.2) fun v47 h48 =>
      some (v47, h48)
      else some (undef, p46.2)).bind fun p49 =>
      (bif wantV (.bool b41) false then
      aBin Try.prog .neq 59 p45.1 p49.1 fun v50 =>
      some (v50, p49.2)
      else some (undef, p49.2)).bind fun p51 =>
      cBn (bif b41 then (.bool true) else p51.1) fun b52 =>
      bif b52 then
        some ((.bool false), h0)
      else
        cl (rc md 41 [v32, a2] p51.2) fun v53 h54 =>
        cl (rc md 34 [v23, v34] h54) fun v55 h56 =>
        cBn v55 fun b57 =>
        (bif wantV (.bool (!b57)) false then
        some (v23, h56)
        else some (undef, h56)).bind fun p58 =>
        (bif wantV (.bool (!b57)) false then
        cl (rc md 40 [p58.1] p58.2) fun v59 h60 =>
        some (v59, h60)
        else some (undef, p58.2)).bind fun p61 =>
        (bif wantV (.bool (!b57)) false then
        some (v34, p61.2)
        else some (undef, p61.2)).bind fun p62 =>
        (bif wantV (.bool (!b57)) false then
        cl (rc md 40 [p62.1] p62.2) fun v63 h64 =>
        some (v63, h64)
        else some (undef, p62.2)).bind fun p65 =>
        (bif wantV (.bool (!b57)) false then
        aBin Try.prog .neq 59 p61.1 p65.1 fun v66 =>
        some (v66, p65.2)
        else some (undef, p65.2)).bind fun p67 =>
        cBn (bif !b57 then (.bool true) else p67.1) fun b68 =>
        bif b68 then
          some ((.bool false), h0)
        else
          cl (rc md 41 [v23, a2] p67.2) fun v69 h70 =>
          cl (rc md 34 [v23, v32] h70) fun v71 h72 =>
          cBn v71 fun b73 =>
          (bif wantV (.bool b73) true then
          some (v23, h72)
          else some (undef, h72)).bind fun p74 =>
          (bif wantV (.bool b73) true then
          cl (rc md 40 [p74.1] p74.2) fun v75 h76 =>
          some (v75, h76)
          else some (undef, p74.2)).bind fun p77 =>
          (bif wantV (.bool b73) true then
          some (v32, p77.2)
          else some (undef, p77.2)).bind fun p78 =>
          (bif wantV (.bool b73) true then
          cl (rc md 40 [p78.1] p78.2) fun v79 h80 =>
          some (v79, h80)
          else some (undef, p78.2)).bind fun p81 =>
          (bif wantV (.bool b73) true then
          aBin Try.prog .eql 59 p77.1 p81.1 fun v82 =>
          some (v82, p81.2)
          else some (undef, p81.2)).bind fun p83 =>
          cBn (bif b73 then p83.1 else (.bool false)) fun b84 =>
          (bif wantV (.bool b84) true then
          cl (rc md 30 [] p83.2) fun v85 h86 =>
          cBn v85 fun b87 =>
          some ((.bool b87), h86)
          else some (undef, p83.2)).bind fun p88 =>
          cBn (bif b84 then p88.1 else (.bool false)) fun b89 =>
          some ((.bool b89), h0)
theorem F13_eq0 (rc : Rec) (md : Md) (a0 : Int) (a1 : Value) (a2 : Value) (h0 : Heap) : callStep0 Try.prog cfg rc md 13 [(.int .i64 a0), a1, a2] h0 = F13 rc ⟨h0.length, h0.length⟩ a0 a1 a2 h0 := by kernel_rfl
theorem F13_eq (rc : Rec) (md : Md) (a0 : Int) (a1 : Value) (a2 : Value) (h0 : Heap) : callStep Try.prog cfg rc md 13 [(.int .i64 a0), a1, a2] h0 = F13 rc ⟨h0.length, h0.length⟩ a0 a1 a2 h0 := (callStep_ne (by kernel_rfl)).trans (F13_eq0 rc md a0 a1 a2 h0)

end Go.Det.Cell
