/- Printed functions. -/
import Derived.Test.YtalelfcdhmfgoaaDetR
import Derived.Test.YtalelfcdhmfgoaaDetT
import Derived.Test.YtalelfcdhmfgoaaDetX
import Derived.Test.YtalelfcdhmfgoaaProg
set_option autoImplicit false
set_option linter.unusedVariables false
set_option linter.unusedSimpArgs false
namespace Go.Det.E
open Go.Proofs Go.Det

def cfg : FuncId → Nat := fun f => bif Nat.beq f 11 || Nat.beq f 16 || Nat.beq f 21 then 2 else bif Nat.beq f 3 || Nat.ble 14 f && Nat.ble f 15 || Nat.ble 17 f && Nat.ble f 18 || Nat.ble 22 f && Nat.ble f 25 || Nat.ble 27 f && Nat.ble f 32 || Nat.ble 34 f && Nat.ble f 35 || Nat.beq f 38 || Nat.ble 40 f && Nat.ble f 42 || Nat.beq f 44 || Nat.beq f 61 then 1 else bif Nat.beq f 2 || Nat.beq f 4 || Nat.beq f 26 || Nat.beq f 33 || Nat.ble 36 f && Nat.ble f 37 || Nat.beq f 39 || Nat.beq f 43 then 3 else 0

noncomputable abbrev C := call Try.prog cfg
/-- (*tombolo/cell.Arena).Copy -/
noncomputable def F6 (rc : Rec) (md : Md) (a0 : Value) (h0 : Heap) : Option (Value × Heap) :=
  bif okNil Try.prog a0 then
  fA 0 a0 fun v1 =>
  ld1 v1 h0 fun v2 =>
  cl (rc md 19 [v2] h0) fun v3 h4 =>
  bif okNil Try.prog a0 then
  fA 1 a0 fun v5 =>
  ldN 5 v5 h4 fun v6 =>
  cLE true (fun hq => ldN 5 v5 hq some) v6 h0 h4 <|
  aBuild Try.prog 59 [(0, v3), (1, v6)] fun v7 =>
  let h8 : Heap := h4 ++ [.own v7.cells.toList]
  some ((.pointer (some ⟨h4.length, 0, none⟩)), h8)
  else none
  else none
theorem F6_eq0 (rc : Rec) (md : Md) (a0 : Value) (h0 : Heap) : callStep0 Try.prog cfg rc md 6 [a0] h0 = F6 rc md a0 h0 := by kernel_rfl
theorem F6_eq (rc : Rec) (md : Md) (a0 : Value) (h0 : Heap) : callStep Try.prog cfg rc md 6 [a0] h0 = F6 rc md a0 h0 := (callStep_ne (by kernel_rfl)).trans (F6_eq0 rc md a0 h0)

/-- tombolo/mem.Over -/
noncomputable def F7 (rc : Rec) (md : Md) (a0 : Value) (h0 : Heap) : Option (Value × Heap) :=
  cl (rc md 6 [a0] h0) fun v1 h2 =>
  aBuild Try.prog 61 [(0, v1)] fun v3 =>
  let h4 : Heap := h2 ++ [.own v3.cells.toList]
  some ((.pointer (some ⟨h2.length, 0, none⟩)), h4)
theorem F7_eq0 (rc : Rec) (md : Md) (a0 : Value) (h0 : Heap) : callStep0 Try.prog cfg rc md 7 [a0] h0 = F7 rc md a0 h0 := by kernel_rfl
theorem F7_eq (rc : Rec) (md : Md) (a0 : Value) (h0 : Heap) : callStep Try.prog cfg rc md 7 [a0] h0 = F7 rc md a0 h0 := (callStep_ne (by kernel_rfl)).trans (F7_eq0 rc md a0 h0)

/-- (*tombolo/mem.Trace).Store -/
noncomputable def F8 (rc : Rec) (md : Md) (a0 : Value) (a1 : Int) (a2 : Int) (h0 : Heap) : Option (Value × Heap) :=
  bif okNil Try.prog a0 then
  fA 0 a0 fun v1 =>
  ld1 v1 h0 fun v2 =>
  cl (rc md 18 [v2, (.int .i64 a1), (.int .u64 a2)] h0) fun v3 h4 =>
  cIn .i64 v3 fun n5 =>
  bif (n5 == 0) then
    bif okNil Try.prog a0 then
    fA 1 a0 fun v6 =>
    ld1 v6 h4 fun v7 =>
    let h8 : Heap := h4 ++ [.own [(.bool true), (.int .i64 a1), (.int .u64 a2)]]
    aBuiltin Try.prog md .append #[30, 30] [v7, (.slice (some ⟨h4.length, 0, none⟩) 1 3)] h8 fun v9 h10 =>
    bif okNil Try.prog a0 then
    fA 1 a0 fun v11 =>
    st md 1 v11 v9 h10 fun h12 =>
    some ((.tuple #[]), h12)
    else none
    else none
  else
    some ((.tuple #[]), h4)
  else none
theorem F8_eq0 (rc : Rec) (md : Md) (a0 : Value) (a1 : Int) (a2 : Int) (h0 : Heap) : callStep0 Try.prog cfg rc md 8 [a0, (.int .i64 a1), (.int .u64 a2)] h0 = F8 rc md a0 a1 a2 h0 := by kernel_rfl
theorem F8_eq (rc : Rec) (md : Md) (a0 : Value) (a1 : Int) (a2 : Int) (h0 : Heap) : callStep Try.prog cfg rc md 8 [a0, (.int .i64 a1), (.int .u64 a2)] h0 = F8 rc md a0 a1 a2 h0 := (callStep_ne (by kernel_rfl)).trans (F8_eq0 rc md a0 a1 a2 h0)

/-- (*tombolo/mem.Trace).Load -/
noncomputable def F9 (rc : Rec) (md : Md) (a0 : Value) (a1 : Int) (h0 : Heap) : Option (Value × Heap) :=
  bif okNil Try.prog a0 then
  fA 0 a0 fun v1 =>
  ld1 v1 h0 fun v2 =>
  cl (rc md 14 [v2, (.int .i64 a1)] h0) fun v3 h4 =>
  exT v3 0 fun v5 =>
  cIn .u64 v5 fun n6 =>
  exT v3 1 fun v7 =>
  cIn .i64 v7 fun n8 =>
  bif (n8 == 0) then
    bif okNil Try.prog a0 then
    fA 1 a0 fun v9 =>
    ld1 v9 h4 fun v10 =>
    let h11 : Heap := h4 ++ [.own [(.bool false), (.int .i64 a1), (.int .u64 n6)]]
    aBuiltin Try.prog md .append #[30, 30] [v10, (.slice (some ⟨h4.length, 0, none⟩) 1 3)] h11 fun v12 h13 =>
    bif okNil Try.prog a0 then
    fA 1 a0 fun v14 =>
    st md 1 v14 v12 h13 fun h15 =>
    some ((.int .u64 n6), h15)
    else none
    else none
  else
    some ((.int .u64 n6), h4)
  else none
theorem F9_eq0 (rc : Rec) (md : Md) (a0 : Value) (a1 : Int) (h0 : Heap) : callStep0 Try.prog cfg rc md 9 [a0, (.int .i64 a1)] h0 = F9 rc md a0 a1 h0 := by kernel_rfl
theorem F9_eq (rc : Rec) (md : Md) (a0 : Value) (a1 : Int) (h0 : Heap) : callStep Try.prog cfg rc md 9 [a0, (.int .i64 a1)] h0 = F9 rc md a0 a1 h0 := (callStep_ne (by kernel_rfl)).trans (F9_eq0 rc md a0 a1 h0)

/-- (*tombolo/mem.Trace).Row -/
noncomputable def F10 (rc : Rec) (md : Md) (a0 : Value) (h0 : Heap) : Option (Value × Heap) :=
  bif okNil Try.prog a0 then
  fA 1 a0 fun v1 =>
  ld1 v1 h0 fun v2 =>
  cl (rc md 20 [v2] h0) fun v3 h4 =>
  some (v3, h4)
  else none
theorem F10_eq0 (rc : Rec) (md : Md) (a0 : Value) (h0 : Heap) : callStep0 Try.prog cfg rc md 10 [a0] h0 = F10 rc md a0 h0 := by kernel_rfl
theorem F10_eq (rc : Rec) (md : Md) (a0 : Value) (h0 : Heap) : callStep Try.prog cfg rc md 10 [a0] h0 = F10 rc md a0 h0 := (callStep_ne (by kernel_rfl)).trans (F10_eq0 rc md a0 h0)

/-- (*tombolo/cell.Arena).Equal -/
noncomputable def F11 (rc : Rec) (md : Md) (a0 : Value) (a1 : Value) (h0 : Heap) : Option (Value × Heap) :=
  bif okNil Try.prog a0 then
  fA 0 a0 fun v1 =>
  ld1 v1 h0 fun v2 =>
  bif okNil Try.prog a1 then
  fA 0 a1 fun v3 =>
  ld1 v3 h0 fun v4 =>
  cl (rc md 21 [v2, v4] h0) fun v5 h6 =>
  cBn v5 fun b7 =>
  some ((.bool b7), h0)
  else none
  else none
theorem F11_eq0 (rc : Rec) (md : Md) (a0 : Value) (a1 : Value) (h0 : Heap) : callStep0 Try.prog cfg rc md 11 [a0, a1] h0 = F11 rc ⟨h0.length, h0.length⟩ a0 a1 h0 := by kernel_rfl
theorem F11_eq (rc : Rec) (md : Md) (a0 : Value) (a1 : Value) (h0 : Heap) : callStep Try.prog cfg rc md 11 [a0, a1] h0 = F11 rc ⟨h0.length, h0.length⟩ a0 a1 h0 := (callStep_ne (by kernel_rfl)).trans (F11_eq0 rc md a0 a1 h0)

/-- (*tombolo/mem.Trace).Changed -/
noncomputable def J12_1 (rc : Rec) (md : Md) (h0 : Heap) (s3 : Value) (h : Heap) : Option (Value × Heap) :=
  cl (rc md 22 [s3] h) fun v1 h2 =>
  cl (rc md 23 [s3] h2) fun v3 h4 =>
  some (v3, h4)
theorem J12_1_at (rc : Rec) (md : Md) (h0 : Heap) (t : T) (h : Heap) : cut Try.prog cfg rc md 27 (bodyOf Try.prog 12) [1, 1, 1] (retK Try.prog cfg 12 (rsOf Try.prog 12) h0) t h = J12_1 rc md h0 (t 3) h := by kernel_rfl
theorem J12_1_cut (rc : Rec) (md : Md) (h0 : Heap) : cut Try.prog cfg rc md 27 (bodyOf Try.prog 12) [1, 1, 1] (retK Try.prog cfg 12 (rsOf Try.prog 12) h0) = fun t h => J12_1 rc md h0 (t 3) h := funext fun t => funext fun h => J12_1_at rc md h0 t h
noncomputable def Jk12_0 (rc : Rec) (md : Md) (h0 : Heap) (e : Exit) (s2 : Value) (s3 : Value) (s9 : Value) (s10 : Value) (s11 : Value) (h : Heap) : Option (Value × Heap) :=
  match e with
  | .normal =>
    J12_1 rc md h0 s3 h
  | .exit j =>
    bif Nat.beq j 0 then
      J12_1 rc md h0 s3 h
    else
      none
  | .ret =>
    some (s2, h)
  | .goto l => none
  | .panic ps => none
  | .outgrown => none
noncomputable def Jk12_0H (rc : Rec) (md : Md) (h0 : Heap) (X1 : T → Heap → Option (Value × Heap)) (e : Exit) (t : T) (h : Heap) : Option (Value × Heap) :=
  match e with
  | .normal =>
    X1 t h
  | .exit j =>
    bif Nat.beq j 0 then
      X1 t h
    else
      none
  | .ret =>
    some ((t 2), h)
  | .goto l => none
  | .panic ps => none
  | .outgrown => none
theorem Jk12_0_h1 (rc : Rec) (md : Md) (h0 : Heap) (X : Nat → T → Heap → Option (Value × Heap)) (e : Exit) (t : T) (h : Heap) : kAtG Try.prog cfg X rc md 27 (replS (bodyOf Try.prog 12) [([1, 1, 1], 1)]) [1, 1, 0, 1, 0] (retK Try.prog cfg 12 (rsOf Try.prog 12) h0) e t h = Jk12_0H rc md h0 (X 1) e t h := by cases e <;> kernel_rfl
theorem Jk12_0_h2 (rc : Rec) (md : Md) (h0 : Heap) (e : Exit) (t : T) (h : Heap) : Jk12_0H rc md h0 (fun t h => J12_1 rc md h0 (t 3) h) e t h = Jk12_0 rc md h0 e (t 2) (t 3) (t 9) (t 10) (t 11) h := by cases e <;> (unfold Jk12_0H Jk12_0; kernel_rfl)
theorem Jk12_0_at (rc : Rec) (md : Md) (h0 : Heap) (e : Exit) (t : T) (h : Heap) : kAt Try.prog cfg rc md 27 (bodyOf Try.prog 12) [1, 1, 0, 1, 0] (retK Try.prog cfg 12 (rsOf Try.prog 12) h0) e t h = Jk12_0 rc md h0 e (t 2) (t 3) (t 9) (t 10) (t 11) h := by
  rw [kAt_holes [([1, 1, 1], 1)] [1, 1, 0, 1, 0] (by kernel_rfl), Jk12_0_h1, show (goX Try.prog cfg rc md 27 (bodyOf Try.prog 12) [([1, 1, 1], 1)] (retK Try.prog cfg 12 (rsOf Try.prog 12) h0)) 1 = _ from J12_1_cut rc md h0]
  exact Jk12_0_h2 rc md h0 e t h
/-- a round -/
noncomputable def Jr12_0 (rc : Rec) (md : Md) (s2 : Value) (s3 : Value) (s9 : Value) (s10 : Value) (s11 : Value) (h : Heap) : Option (((Value × Value × Value × Value × Value) × Heap) ⊕ (Exit × (Value × Value × Value × Value × Value) × Heap)) :=
  aBin Try.prog .lss 3 s11 s10 fun v1 =>
  cBn v1 fun b2 =>
  bif b2 then
    ixSV 3 s9 s11 fun v3 =>
    ldN 3 v3 h fun v4 =>
    let h5 : Heap := h ++ [.own [(.bool false), (.int .i64 0), (.int .u64 0)]]
    st md 3 (.pointer (some ⟨h.length, 0, none⟩)) v4 h5 fun h6 =>
    ld1 (.pointer (some ⟨h.length, 0, none⟩)) h6 fun v7 =>
    cBn v7 fun b8 =>
    bif b8 then
      ld1 (.pointer (some ⟨h.length, 1, none⟩)) h6 fun v9 =>
      cIn .i64 v9 fun n10 =>
      let h11 : Heap := h6 ++ [.own [(.int .i64 n10)]]
      aBuiltin Try.prog md .append #[41, 41] [s3, (.slice (some ⟨h6.length, 0, none⟩) 1 1)] h11 fun v12 h13 =>
      aBin Try.prog .add 3 s11 (.int .i64 1) fun v14 =>
      some (.inl ((s2, v12, s9, s10, v14), h13))
    else
      aBin Try.prog .add 3 s11 (.int .i64 1) fun v15 =>
      some (.inl ((s2, s3, s9, s10, v15), h6))
  else
    some (.inr ((.exit 0), (s2, s3, s9, s10, s11), h))
theorem Jr12_0_at (rc : Rec) (md : Md) (t : T) (h : Heap) : exec Try.prog cfg rc md 27 (sub (bodyOf Try.prog 12) [1, 1, 0, 1, 0, 0]) (rndK (fun t => (t 2, t 3, t 9, t 10, t 11))) t h = Jr12_0 rc md (t 2) (t 3) (t 9) (t 10) (t 11) h := by kernel_rfl
noncomputable def J12_0 (rc : Rec) (md : Md) (h0 : Heap) (s2 : Value) (s3 : Value) (s9 : Value) (s10 : Value) (s11 : Value) (h : Heap) : Option (Value × Heap) :=
  runL (fun x : (Value × Value × Value × Value × Value) × Heap => Jr12_0 rc md x.1.1 x.1.2.1 x.1.2.2.1 x.1.2.2.2.1 x.1.2.2.2.2 x.2) (fun e (s : Value × Value × Value × Value × Value) h => Jk12_0 rc md h0 e s.1 s.2.1 s.2.2.1 s.2.2.2.1 s.2.2.2.2 h) (s2, s3, s9, s10, s11) h
theorem J12_0_step (rc : Rec) (md : Md) (h0 : Heap) (s2 : Value) (s3 : Value) (s9 : Value) (s10 : Value) (s11 : Value) (h : Heap) : J12_0 rc md h0 s2 s3 s9 s10 s11 h = (Jr12_0 rc md s2 s3 s9 s10 s11 h).bind fun x => match x with
    | .inl (s, h) => J12_0 rc md h0 s.1 s.2.1 s.2.2.1 s.2.2.2.1 s.2.2.2.2 h
    | .inr (e, s, h) => Jk12_0 rc md h0 e s.1 s.2.1 s.2.2.1 s.2.2.2.1 s.2.2.2.2 h := by
  unfold J12_0
  rw [runL_eq]
  refine congrArg (Option.bind _) (funext fun x => ?_)
  rcases x with ⟨s, h⟩ | ⟨e, s, h⟩ <;> rfl
theorem J12_0_cut (rc : Rec) (md : Md) (h0 : Heap) : cut Try.prog cfg rc md 27 (bodyOf Try.prog 12) [1, 1, 0, 1, 0] (retK Try.prog cfg 12 (rsOf Try.prog 12) h0) = fun t h => J12_0 rc md h0 (t 2) (t 3) (t 9) (t 10) (t 11) h := by
  funext t h
  have e : sub (bodyOf Try.prog 12) [1, 1, 0, 1, 0] = .loop (sub (bodyOf Try.prog 12) [1, 1, 0, 1, 0, 0]) := by kernel_rfl
  unfold cut
  rw [e]
  exact loop_eq (by kernel_rfl) (fun t => (t 2, t 3, t 9, t 10, t 11)) (fun x : (Value × Value × Value × Value × Value) × Heap => Jr12_0 rc md x.1.1 x.1.2.1 x.1.2.2.1 x.1.2.2.2.1 x.1.2.2.2.2 x.2) (fun t h => Jr12_0_at rc md t h) (fun e (s : Value × Value × Value × Value × Value) h => Jk12_0 rc md h0 e s.1 s.2.1 s.2.2.1 s.2.2.2.1 s.2.2.2.2 h) (fun e t h => Jk12_0_at rc md h0 e t h) t h
noncomputable def F12 (rc : Rec) (md : Md) (a0 : Value) (h0 : Heap) : Option (Value × Heap) :=
  bif okNil Try.prog a0 then
  fA 1 a0 fun v1 =>
  ld1 v1 h0 fun v2 =>
  lenS v2 fun v3 =>
  cIn .i64 v3 fun n4 =>
  J12_0 rc md h0 (.slice none 0 0) (.slice none 0 0) v2 (.int .i64 n4) (.int .i64 0) h0
  else none
noncomputable def F12H (rc : Rec) (md : Md) (X0 : T → Heap → Option (Value × Heap)) (a0 : Value) (h0 : Heap) : Option (Value × Heap) :=
  bif okNil Try.prog a0 then
  fA 1 a0 fun v1 =>
  ld1 v1 h0 fun v2 =>
  lenS v2 fun v3 =>
  cIn .i64 v3 fun n4 =>
  X0 (upd (upd (upd (upd (upd (upd (upd (upd (args0 [a0]) 2 (.slice none 0 0)) 3 (.slice none 0 0)) 6 a0) 7 a0) 8 v1) 9 v2) 10 (.int .i64 n4)) 11 (.int .i64 0)) h0
  else none
theorem F12_h0 (rc : Rec) (md : Md) (a0 : Value) (h0 : Heap) : callStep0 Try.prog cfg rc md 12 [a0] h0 = exec Try.prog cfg rc md 27 (bodyOf Try.prog 12) (retK Try.prog cfg 12 (rsOf Try.prog 12) h0) (args0 [a0]) h0 := callStep0_run (by kernel_rfl) (by kernel_rfl) (by kernel_rfl)
theorem F12_h1 (rc : Rec) (md : Md) (X : Nat → T → Heap → Option (Value × Heap)) (a0 : Value) (h0 : Heap) : execG Try.prog cfg X rc md 27 (replS (bodyOf Try.prog 12) [([1, 1, 0, 1, 0], 0), ([1, 1, 1], 1)]) (retK Try.prog cfg 12 (rsOf Try.prog 12) h0) (args0 [a0]) h0 = F12H rc md (X 0) a0 h0 := by kernel_rfl
theorem F12_h2 (rc : Rec) (md : Md) (a0 : Value) (h0 : Heap) : F12H rc md (fun t h => J12_0 rc md h0 (t 2) (t 3) (t 9) (t 10) (t 11) h) a0 h0 = F12 rc md a0 h0 := by unfold F12H F12; kernel_rfl
theorem F12_eq0 (rc : Rec) (md : Md) (a0 : Value) (h0 : Heap) : callStep0 Try.prog cfg rc md 12 [a0] h0 = F12 rc md a0 h0 := by
  rw [F12_h0, exec_holes [([1, 1, 0, 1, 0], 0), ([1, 1, 1], 1)] (by kernel_rfl), F12_h1, show (goX Try.prog cfg rc md 27 (bodyOf Try.prog 12) [([1, 1, 0, 1, 0], 0), ([1, 1, 1], 1)] (retK Try.prog cfg 12 (rsOf Try.prog 12) h0)) 0 = _ from J12_0_cut rc md h0]
  exact F12_h2 rc _ a0 h0
theorem F12_eq (rc : Rec) (md : Md) (a0 : Value) (h0 : Heap) : callStep Try.prog cfg rc md 12 [a0] h0 = F12 rc md a0 h0 := (callStep_ne (by kernel_rfl)).trans (F12_eq0 rc md a0 h0)

/-- tombolo/cell.New -/
noncomputable def F13 (rc : Rec) (md : Md) (a0 : Int) (h0 : Heap) : Option (Value × Heap) :=
  (bif wantV (.bool (decide (a0 < 0))) false then
  some ((.int .i64 a0), h0)
  else some (undef, h0)).bind fun p1 =>
  (bif wantV (.bool (decide (a0 < 0))) false then
  aBin Try.prog .gtr 3 p1.1 (.int .i64 16384) fun v2 =>
  some (v2, p1.2)
  else some (undef, p1.2)).bind fun p3 =>
  cBn (bif (decide (a0 < 0)) then (.bool true) else p3.1) fun b4 =>
  bif b4 then
    some ((.tuple #[(.pointer none), (.int .i64 11)]), p3.2)
  else
    aMakeSlice Try.prog 22 (.int .i64 a0) (.int .i64 a0) p3.2 fun v5 h6 =>
    aBuild Try.prog 59 [(0, v5)] fun v7 =>
    let h8 : Heap := h6 ++ [.own v7.cells.toList]
    some ((.tuple #[(.pointer (some ⟨h6.length, 0, none⟩)), (.int .i64 0)]), h8)
theorem F13_eq0 (rc : Rec) (md : Md) (a0 : Int) (h0 : Heap) : callStep0 Try.prog cfg rc md 13 [(.int .i64 a0)] h0 = F13 rc md a0 h0 := by kernel_rfl
theorem F13_eq (rc : Rec) (md : Md) (a0 : Int) (h0 : Heap) : callStep Try.prog cfg rc md 13 [(.int .i64 a0)] h0 = F13 rc md a0 h0 := (callStep_ne (by kernel_rfl)).trans (F13_eq0 rc md a0 h0)

/-- (*tombolo/cell.Arena).Load -/
noncomputable def F14 (rc : Rec) (md : Md) (a0 : Value) (a1 : Int) (h0 : Heap) : Option (Value × Heap) :=
  bif okNil Try.prog a0 then
  fA 1 a0 fun v1 =>
  fA 0 v1 fun v2 =>
  cl (rc md 24 [a0, (.int .i64 a1), v2] h0) fun v3 h4 =>
  aBin Try.prog .eql 66 v3 (.pointer none) fun v5 =>
  cBn v5 fun b6 =>
  bif b6 then
    some ((.tuple #[(.int .u64 0), (.int .i64 20)]), List.take h0.length h4)
  else
    bif okNil Try.prog v3 then
    ld1 v3 h4 fun v7 =>
    cIn .u64 v7 fun n8 =>
    some ((.tuple #[(.int .u64 n8), (.int .i64 0)]), List.take h0.length h4)
    else none
  else none
theorem F14_eq0 (rc : Rec) (md : Md) (a0 : Value) (a1 : Int) (h0 : Heap) : callStep0 Try.prog cfg rc md 14 [a0, (.int .i64 a1)] h0 = F14 rc ⟨md.ro, h0.length⟩ a0 a1 h0 := by kernel_rfl
theorem F14_eq (rc : Rec) (md : Md) (a0 : Value) (a1 : Int) (h0 : Heap) : callStep Try.prog cfg rc md 14 [a0, (.int .i64 a1)] h0 = F14 rc ⟨md.ro, h0.length⟩ a0 a1 h0 := (callStep_ne (by kernel_rfl)).trans (F14_eq0 rc md a0 a1 h0)

/-- tombolo/mem.Replay -/
noncomputable def J15_1 (rc : Rec) (md : Md) (h0 : Heap) (s1 : Value) (h : Heap) : Option (Value × Heap) :=
  lenS s1 fun v1 =>
  cIn .i64 v1 fun n2 =>
  some ((.tuple #[(.int .i64 n2), (.bool true)]), List.take h0.length h)
theorem J15_1_at (rc : Rec) (md : Md) (h0 : Heap) (t : T) (h : Heap) : cut Try.prog cfg rc md 36 (bodyOf Try.prog 15) [1, 1] (retK Try.prog cfg 15 (rsOf Try.prog 15) h0) t h = J15_1 rc md h0 (t 1) h := by kernel_rfl
theorem J15_1_cut (rc : Rec) (md : Md) (h0 : Heap) : cut Try.prog cfg rc md 36 (bodyOf Try.prog 15) [1, 1] (retK Try.prog cfg 15 (rsOf Try.prog 15) h0) = fun t h => J15_1 rc md h0 (t 1) h := funext fun t => funext fun h => J15_1_at rc md h0 t h
noncomputable def Jk15_0 (rc : Rec) (md : Md) (h0 : Heap) (e : Exit) (s0 : Value) (s1 : Value) (s4 : Value) (s5 : Value) (s8 : Value) (s9 : Value) (s10 : Value) (h : Heap) : Option (Value × Heap) :=
  match e with
  | .normal =>
    J15_1 rc md h0 s1 h
  | .exit j =>
    bif Nat.beq j 0 then
      J15_1 rc md h0 s1 h
    else
      none
  | .ret =>
    fin1 h0 (.tuple #[s4, s5]) h
  | .goto l => none
  | .panic ps => none
  | .outgrown => none
noncomputable def Jk15_0H (rc : Rec) (md : Md) (h0 : Heap) (X1 : T → Heap → Option (Value × Heap)) (e : Exit) (t : T) (h : Heap) : Option (Value × Heap) :=
  match e with
  | .normal =>
    X1 t h
  | .exit j =>
    bif Nat.beq j 0 then
      X1 t h
    else
      none
  | .ret =>
    fin1 h0 (.tuple #[(t 4), (t 5)]) h
  | .goto l => none
  | .panic ps => none
  | .outgrown => none
theorem Jk15_0_h1 (rc : Rec) (md : Md) (h0 : Heap) (X : Nat → T → Heap → Option (Value × Heap)) (e : Exit) (t : T) (h : Heap) : kAtG Try.prog cfg X rc md 36 (replS (bodyOf Try.prog 15) [([1, 1], 1)]) [1, 0, 1, 0] (retK Try.prog cfg 15 (rsOf Try.prog 15) h0) e t h = Jk15_0H rc md h0 (X 1) e t h := by cases e <;> kernel_rfl
theorem Jk15_0_h2 (rc : Rec) (md : Md) (h0 : Heap) (e : Exit) (t : T) (h : Heap) : Jk15_0H rc md h0 (fun t h => J15_1 rc md h0 (t 1) h) e t h = Jk15_0 rc md h0 e (t 0) (t 1) (t 4) (t 5) (t 8) (t 9) (t 10) h := by cases e <;> (unfold Jk15_0H Jk15_0; kernel_rfl)
theorem Jk15_0_at (rc : Rec) (md : Md) (h0 : Heap) (e : Exit) (t : T) (h : Heap) : kAt Try.prog cfg rc md 36 (bodyOf Try.prog 15) [1, 0, 1, 0] (retK Try.prog cfg 15 (rsOf Try.prog 15) h0) e t h = Jk15_0 rc md h0 e (t 0) (t 1) (t 4) (t 5) (t 8) (t 9) (t 10) h := by
  rw [kAt_holes [([1, 1], 1)] [1, 0, 1, 0] (by kernel_rfl), Jk15_0_h1, show (goX Try.prog cfg rc md 36 (bodyOf Try.prog 15) [([1, 1], 1)] (retK Try.prog cfg 15 (rsOf Try.prog 15) h0)) 1 = _ from J15_1_cut rc md h0]
  exact Jk15_0_h2 rc md h0 e t h
/-- a round -/
noncomputable def Jr15_0 (rc : Rec) (md : Md) (s0 : Value) (s1 : Value) (s4 : Value) (s5 : Value) (s8 : Value) (s9 : Value) (s10 : Value) (h : Heap) : Option (((Value × Value × Value × Value × Value × Value × Value) × Heap) ⊕ (Exit × (Value × Value × Value × Value × Value × Value × Value) × Heap)) :=
  aBin Try.prog .lss 3 s10 s9 fun v1 =>
  cBn v1 fun b2 =>
  bif b2 then
    ixSV 3 s8 s10 fun v3 =>
    ldN 3 v3 h fun v4 =>
    let h5 : Heap := h ++ [.own [(.bool false), (.int .i64 0), (.int .u64 0)]]
    st md 3 (.pointer (some ⟨h.length, 0, none⟩)) v4 h5 fun h6 =>
    ld1 (.pointer (some ⟨h.length, 0, none⟩)) h6 fun v7 =>
    cBn v7 fun b8 =>
    bif b8 then
      ld1 (.pointer (some ⟨h.length, 1, none⟩)) h6 fun v9 =>
      cIn .i64 v9 fun n10 =>
      ld1 (.pointer (some ⟨h.length, 2, none⟩)) h6 fun v11 =>
      cIn .u64 v11 fun n12 =>
      clI Try.prog rc md s0 "Store" [(.int .i64 n10), (.int .u64 n12)] h6 fun v13 h14 =>
      aBin Try.prog .add 3 s10 (.int .i64 1) fun v15 =>
      some (.inl ((s0, s1, s4, s5, s8, s9, v15), h14))
    else
      ld1 (.pointer (some ⟨h.length, 1, none⟩)) h6 fun v16 =>
      cIn .i64 v16 fun n17 =>
      clI Try.prog rc md s0 "Load" [(.int .i64 n17)] h6 fun v18 h19 =>
      cIn .u64 v18 fun n20 =>
      ld1 (.pointer (some ⟨h.length, 2, none⟩)) h19 fun v21 =>
      cIn .u64 v21 fun n22 =>
      cLE true (fun hq => ld1 (.pointer (some ⟨h.length, 2, none⟩)) hq some) (.int .u64 n22) h6 h19 <|
      bif (n20 != n22) then
        some (.inr (.ret, (s0, s1, s10, (.bool false), s8, s9, s10), h19))
      else
        aBin Try.prog .add 3 s10 (.int .i64 1) fun v23 =>
        some (.inl ((s0, s1, s4, s5, s8, s9, v23), h19))
  else
    some (.inr ((.exit 0), (s0, s1, s4, s5, s8, s9, s10), h))
theorem Jr15_0_at (rc : Rec) (md : Md) (t : T) (h : Heap) : exec Try.prog cfg rc md 36 (sub (bodyOf Try.prog 15) [1, 0, 1, 0, 0]) (rndK (fun t => (t 0, t 1, t 4, t 5, t 8, t 9, t 10))) t h = Jr15_0 rc md (t 0) (t 1) (t 4) (t 5) (t 8) (t 9) (t 10) h := by kernel_rfl
noncomputable def J15_0 (rc : Rec) (md : Md) (h0 : Heap) (s0 : Value) (s1 : Value) (s4 : Value) (s5 : Value) (s8 : Value) (s9 : Value) (s10 : Value) (h : Heap) : Option (Value × Heap) :=
  runL (fun x : (Value × Value × Value × Value × Value × Value × Value) × Heap => Jr15_0 rc md x.1.1 x.1.2.1 x.1.2.2.1 x.1.2.2.2.1 x.1.2.2.2.2.1 x.1.2.2.2.2.2.1 x.1.2.2.2.2.2.2 x.2) (fun e (s : Value × Value × Value × Value × Value × Value × Value) h => Jk15_0 rc md h0 e s.1 s.2.1 s.2.2.1 s.2.2.2.1 s.2.2.2.2.1 s.2.2.2.2.2.1 s.2.2.2.2.2.2 h) (s0, s1, s4, s5, s8, s9, s10) h
theorem J15_0_step (rc : Rec) (md : Md) (h0 : Heap) (s0 : Value) (s1 : Value) (s4 : Value) (s5 : Value) (s8 : Value) (s9 : Value) (s10 : Value) (h : Heap) : J15_0 rc md h0 s0 s1 s4 s5 s8 s9 s10 h = (Jr15_0 rc md s0 s1 s4 s5 s8 s9 s10 h).bind fun x => match x with
    | .inl (s, h) => J15_0 rc md h0 s.1 s.2.1 s.2.2.1 s.2.2.2.1 s.2.2.2.2.1 s.2.2.2.2.2.1 s.2.2.2.2.2.2 h
    | .inr (e, s, h) => Jk15_0 rc md h0 e s.1 s.2.1 s.2.2.1 s.2.2.2.1 s.2.2.2.2.1 s.2.2.2.2.2.1 s.2.2.2.2.2.2 h := by
  unfold J15_0
  rw [runL_eq]
  refine congrArg (Option.bind _) (funext fun x => ?_)
  rcases x with ⟨s, h⟩ | ⟨e, s, h⟩ <;> rfl
theorem J15_0_cut (rc : Rec) (md : Md) (h0 : Heap) : cut Try.prog cfg rc md 36 (bodyOf Try.prog 15) [1, 0, 1, 0] (retK Try.prog cfg 15 (rsOf Try.prog 15) h0) = fun t h => J15_0 rc md h0 (t 0) (t 1) (t 4) (t 5) (t 8) (t 9) (t 10) h := by
  funext t h
  have e : sub (bodyOf Try.prog 15) [1, 0, 1, 0] = .loop (sub (bodyOf Try.prog 15) [1, 0, 1, 0, 0]) := by kernel_rfl
  unfold cut
  rw [e]
  exact loop_eq (by kernel_rfl) (fun t => (t 0, t 1, t 4, t 5, t 8, t 9, t 10)) (fun x : (Value × Value × Value × Value × Value × Value × Value) × Heap => Jr15_0 rc md x.1.1 x.1.2.1 x.1.2.2.1 x.1.2.2.2.1 x.1.2.2.2.2.1 x.1.2.2.2.2.2.1 x.1.2.2.2.2.2.2 x.2) (fun t h => Jr15_0_at rc md t h) (fun e (s : Value × Value × Value × Value × Value × Value × Value) h => Jk15_0 rc md h0 e s.1 s.2.1 s.2.2.1 s.2.2.2.1 s.2.2.2.2.1 s.2.2.2.2.2.1 s.2.2.2.2.2.2 h) (fun e t h => Jk15_0_at rc md h0 e t h) t h
noncomputable def F15 (rc : Rec) (md : Md) (a0 : Value) (a1 : Value) (h0 : Heap) : Option (Value × Heap) :=
  lenS a1 fun v1 =>
  cIn .i64 v1 fun n2 =>
  J15_0 rc md h0 a0 a1 (.int .i64 0) (.bool false) a1 (.int .i64 n2) (.int .i64 0) h0
noncomputable def F15H (rc : Rec) (md : Md) (X0 : T → Heap → Option (Value × Heap)) (a0 : Value) (a1 : Value) (h0 : Heap) : Option (Value × Heap) :=
  lenS a1 fun v1 =>
  cIn .i64 v1 fun n2 =>
  X0 (upd (upd (upd (upd (upd (args0 [a0, a1]) 4 (.int .i64 0)) 5 (.bool false)) 8 a1) 9 (.int .i64 n2)) 10 (.int .i64 0)) h0
theorem F15_h0 (rc : Rec) (md : Md) (a0 : Value) (a1 : Value) (h0 : Heap) : callStep0 Try.prog cfg rc md 15 [a0, a1] h0 = exec Try.prog cfg rc ⟨md.ro, h0.length⟩ 36 (bodyOf Try.prog 15) (retK Try.prog cfg 15 (rsOf Try.prog 15) h0) (args0 [a0, a1]) h0 := callStep0_run (by kernel_rfl) (by kernel_rfl) (by kernel_rfl)
theorem F15_h1 (rc : Rec) (md : Md) (X : Nat → T → Heap → Option (Value × Heap)) (a0 : Value) (a1 : Value) (h0 : Heap) : execG Try.prog cfg X rc md 36 (replS (bodyOf Try.prog 15) [([1, 0, 1, 0], 0), ([1, 1], 1)]) (retK Try.prog cfg 15 (rsOf Try.prog 15) h0) (args0 [a0, a1]) h0 = F15H rc md (X 0) a0 a1 h0 := by kernel_rfl
theorem F15_h2 (rc : Rec) (md : Md) (a0 : Value) (a1 : Value) (h0 : Heap) : F15H rc md (fun t h => J15_0 rc md h0 (t 0) (t 1) (t 4) (t 5) (t 8) (t 9) (t 10) h) a0 a1 h0 = F15 rc md a0 a1 h0 := by unfold F15H F15; kernel_rfl
theorem F15_eq0 (rc : Rec) (md : Md) (a0 : Value) (a1 : Value) (h0 : Heap) : callStep0 Try.prog cfg rc md 15 [a0, a1] h0 = F15 rc ⟨md.ro, h0.length⟩ a0 a1 h0 := by
  rw [F15_h0, exec_holes [([1, 0, 1, 0], 0), ([1, 1], 1)] (by kernel_rfl), F15_h1, show (goX Try.prog cfg rc ⟨md.ro, h0.length⟩ 36 (bodyOf Try.prog 15) [([1, 0, 1, 0], 0), ([1, 1], 1)] (retK Try.prog cfg 15 (rsOf Try.prog 15) h0)) 0 = _ from J15_0_cut rc ⟨md.ro, h0.length⟩ h0]
  exact F15_h2 rc _ a0 a1 h0
theorem F15_eq (rc : Rec) (md : Md) (a0 : Value) (a1 : Value) (h0 : Heap) : callStep Try.prog cfg rc md 15 [a0, a1] h0 = F15 rc ⟨md.ro, h0.length⟩ a0 a1 h0 := (callStep_ne (by kernel_rfl)).trans (F15_eq0 rc md a0 a1 h0)

/-- tombolo/mem.Of -/
noncomputable def F16 (rc : Rec) (md : Md) (a0 : Value) (h0 : Heap) : Option (Value × Heap) :=
  let h1 : Heap := h0 ++ [.own [(.pointer none)]]
  aBuild Try.prog 52 [(0, a0)] fun v2 =>
  st md 1 (.pointer (some ⟨h0.length, 0, none⟩)) v2 h1 fun h3 =>
  ldN 1 (.pointer (some ⟨h0.length, 0, none⟩)) h3 fun v4 =>
  fin2 h0 v4
theorem F16_eq0 (rc : Rec) (md : Md) (a0 : Value) (h0 : Heap) : callStep0 Try.prog cfg rc md 16 [a0] h0 = F16 rc ⟨h0.length, h0.length⟩ a0 h0 := by kernel_rfl
theorem F16_eq (rc : Rec) (md : Md) (a0 : Value) (h0 : Heap) : callStep Try.prog cfg rc md 16 [a0] h0 = F16 rc ⟨h0.length, h0.length⟩ a0 h0 := (callStep_ne (by kernel_rfl)).trans (F16_eq0 rc md a0 h0)

/-- (tombolo/mem.Plain).Load -/
noncomputable def F17 (rc : Rec) (md : Md) (a0_0 : Value) (a1 : Int) (h0 : Heap) : Option (Value × Heap) :=
  let h1 : Heap := h0 ++ [.own [a0_0]]
  ld1 (.pointer (some ⟨h0.length, 0, none⟩)) h1 fun v2 =>
  cl (rc md 14 [v2, (.int .i64 a1)] h1) fun v3 h4 =>
  exT v3 0 fun v5 =>
  cIn .u64 v5 fun n6 =>
  exT v3 1 fun v7 =>
  cIn .i64 v7 fun n8 =>
  some ((.int .u64 n6), List.take h0.length h4)
theorem F17_eq0 (rc : Rec) (md : Md) (a0_0 : Value) (a1 : Int) (h0 : Heap) : callStep0 Try.prog cfg rc md 17 [(.agg #[a0_0]), (.int .i64 a1)] h0 = F17 rc ⟨md.ro, h0.length⟩ a0_0 a1 h0 := by kernel_rfl
theorem F17_eq (rc : Rec) (md : Md) (a0_0 : Value) (a1 : Int) (h0 : Heap) : callStep Try.prog cfg rc md 17 [(.agg #[a0_0]), (.int .i64 a1)] h0 = F17 rc ⟨md.ro, h0.length⟩ a0_0 a1 h0 := (callStep_ne (by kernel_rfl)).trans (F17_eq0 rc md a0_0 a1 h0)

/-- (*tombolo/cell.Arena).Store -/
noncomputable def F18 (rc : Rec) (md : Md) (a0 : Value) (a1 : Int) (a2 : Int) (h0 : Heap) : Option (Value × Heap) :=
  bif okNil Try.prog a0 then
  fA 1 a0 fun v1 =>
  fA 1 v1 fun v2 =>
  cl (rc md 24 [a0, (.int .i64 a1), v2] h0) fun v3 h4 =>
  aBin Try.prog .eql 66 v3 (.pointer none) fun v5 =>
  cBn v5 fun b6 =>
  bif b6 then
    some ((.int .i64 20), List.take h0.length h4)
  else
    bif okNil Try.prog v3 then
    st md 1 v3 (.int .u64 a2) h4 fun h7 =>
    some ((.int .i64 0), List.take h0.length h7)
    else none
  else none
theorem F18_eq0 (rc : Rec) (md : Md) (a0 : Value) (a1 : Int) (a2 : Int) (h0 : Heap) : callStep0 Try.prog cfg rc md 18 [a0, (.int .i64 a1), (.int .u64 a2)] h0 = F18 rc ⟨md.ro, h0.length⟩ a0 a1 a2 h0 := by kernel_rfl
theorem F18_eq (rc : Rec) (md : Md) (a0 : Value) (a1 : Int) (a2 : Int) (h0 : Heap) : callStep Try.prog cfg rc md 18 [a0, (.int .i64 a1), (.int .u64 a2)] h0 = F18 rc ⟨md.ro, h0.length⟩ a0 a1 a2 h0 := (callStep_ne (by kernel_rfl)).trans (F18_eq0 rc md a0 a1 a2 h0)

/-- slices.Clone[[]uint64,uint64] -/
noncomputable def F19 (rc : Rec) (md : Md) (a0 : Value) (h0 : Heap) : Option (Value × Heap) :=
  aBin Try.prog .eql 22 a0 (.slice none 0 0) fun v1 =>
  cBn v1 fun b2 =>
  bif b2 then
    some ((.slice none 0 0), h0)
  else
    let h3 : Heap := h0 ++ [.own []]
    aBuiltin Try.prog md .append #[22, 22] [(.slice (some ⟨h0.length, 0, none⟩) 0 1), a0] h3 fun v4 h5 =>
    some (v4, h5)
theorem F19_eq0 (rc : Rec) (md : Md) (a0 : Value) (h0 : Heap) : callStep0 Try.prog cfg rc md 19 [a0] h0 = F19 rc md a0 h0 := by kernel_rfl
theorem F19_eq (rc : Rec) (md : Md) (a0 : Value) (h0 : Heap) : callStep Try.prog cfg rc md 19 [a0] h0 = F19 rc md a0 h0 := (callStep_ne (by kernel_rfl)).trans (F19_eq0 rc md a0 h0)

/-- slices.Clone[[]tombolo/mem.Access,tombolo/mem.Access] -/
noncomputable def F20 (rc : Rec) (md : Md) (a0 : Value) (h0 : Heap) : Option (Value × Heap) :=
  aBin Try.prog .eql 30 a0 (.slice none 0 0) fun v1 =>
  cBn v1 fun b2 =>
  bif b2 then
    some ((.slice none 0 0), h0)
  else
    let h3 : Heap := h0 ++ [.own []]
    aBuiltin Try.prog md .append #[30, 30] [(.slice (some ⟨h0.length, 0, none⟩) 0 3), a0] h3 fun v4 h5 =>
    some (v4, h5)
theorem F20_eq0 (rc : Rec) (md : Md) (a0 : Value) (h0 : Heap) : callStep0 Try.prog cfg rc md 20 [a0] h0 = F20 rc md a0 h0 := by kernel_rfl
theorem F20_eq (rc : Rec) (md : Md) (a0 : Value) (h0 : Heap) : callStep Try.prog cfg rc md 20 [a0] h0 = F20 rc md a0 h0 := (callStep_ne (by kernel_rfl)).trans (F20_eq0 rc md a0 h0)

/-- slices.Equal[[]uint64,uint64] -/
noncomputable def Jk21_0 (rc : Rec) (md : Md) (h0 : Heap) (e : Exit) (s0 : Value) (s1 : Value) (s4 : Value) (s12 : Value) (s13 : Value) (h : Heap) : Option (Value × Heap) :=
  match e with
  | .normal =>
    some ((.bool true), h0)
  | .exit j =>
    bif Nat.beq j 0 then
      some ((.bool true), h0)
    else
      none
  | .ret =>
    fin2 h0 s4
  | .goto l => none
  | .panic ps => none
  | .outgrown => none
theorem Jk21_0_at (rc : Rec) (md : Md) (h0 : Heap) (e : Exit) (t : T) (h : Heap) : kAt Try.prog cfg rc md 26 (bodyOf Try.prog 21) [1, 1, 0, 1, 0] (retK Try.prog cfg 21 (rsOf Try.prog 21) h0) e t h = Jk21_0 rc md h0 e (t 0) (t 1) (t 4) (t 12) (t 13) h := by cases e <;> kernel_rfl
/-- a round -/
noncomputable def Jr21_0 (rc : Rec) (md : Md) (s0 : Value) (s1 : Value) (s4 : Value) (s12 : Value) (s13 : Value) (h : Heap) : Option (((Value × Value × Value × Value × Value) × Heap) ⊕ (Exit × (Value × Value × Value × Value × Value) × Heap)) :=
  aBin Try.prog .lss 3 s13 s12 fun v1 =>
  cBn v1 fun b2 =>
  bif b2 then
    ixSV 1 s0 s13 fun v3 =>
    ld1 v3 h fun v4 =>
    cIn .u64 v4 fun n5 =>
    ixSV 1 s1 s13 fun v6 =>
    ld1 v6 h fun v7 =>
    cIn .u64 v7 fun n8 =>
    bif (n5 != n8) then
      some (.inr (.ret, (s0, s1, (.bool false), s12, s13), h))
    else
      aBin Try.prog .add 3 s13 (.int .i64 1) fun v9 =>
      some (.inl ((s0, s1, s4, s12, v9), h))
  else
    some (.inr ((.exit 0), (s0, s1, s4, s12, s13), h))
theorem Jr21_0_at (rc : Rec) (md : Md) (t : T) (h : Heap) : exec Try.prog cfg rc md 26 (sub (bodyOf Try.prog 21) [1, 1, 0, 1, 0, 0]) (rndK (fun t => (t 0, t 1, t 4, t 12, t 13))) t h = Jr21_0 rc md (t 0) (t 1) (t 4) (t 12) (t 13) h := by kernel_rfl
noncomputable def J21_0 (rc : Rec) (md : Md) (h0 : Heap) (s0 : Value) (s1 : Value) (s4 : Value) (s12 : Value) (s13 : Value) (h : Heap) : Option (Value × Heap) :=
  runL (fun x : (Value × Value × Value × Value × Value) × Heap => Jr21_0 rc md x.1.1 x.1.2.1 x.1.2.2.1 x.1.2.2.2.1 x.1.2.2.2.2 x.2) (fun e (s : Value × Value × Value × Value × Value) h => Jk21_0 rc md h0 e s.1 s.2.1 s.2.2.1 s.2.2.2.1 s.2.2.2.2 h) (s0, s1, s4, s12, s13) h
theorem J21_0_step (rc : Rec) (md : Md) (h0 : Heap) (s0 : Value) (s1 : Value) (s4 : Value) (s12 : Value) (s13 : Value) (h : Heap) : J21_0 rc md h0 s0 s1 s4 s12 s13 h = (Jr21_0 rc md s0 s1 s4 s12 s13 h).bind fun x => match x with
    | .inl (s, h) => J21_0 rc md h0 s.1 s.2.1 s.2.2.1 s.2.2.2.1 s.2.2.2.2 h
    | .inr (e, s, h) => Jk21_0 rc md h0 e s.1 s.2.1 s.2.2.1 s.2.2.2.1 s.2.2.2.2 h := by
  unfold J21_0
  rw [runL_eq]
  refine congrArg (Option.bind _) (funext fun x => ?_)
  rcases x with ⟨s, h⟩ | ⟨e, s, h⟩ <;> rfl
theorem J21_0_cut (rc : Rec) (md : Md) (h0 : Heap) : cut Try.prog cfg rc md 26 (bodyOf Try.prog 21) [1, 1, 0, 1, 0] (retK Try.prog cfg 21 (rsOf Try.prog 21) h0) = fun t h => J21_0 rc md h0 (t 0) (t 1) (t 4) (t 12) (t 13) h := by
  funext t h
  have e : sub (bodyOf Try.prog 21) [1, 1, 0, 1, 0] = .loop (sub (bodyOf Try.prog 21) [1, 1, 0, 1, 0, 0]) := by kernel_rfl
  unfold cut
  rw [e]
  exact loop_eq (by kernel_rfl) (fun t => (t 0, t 1, t 4, t 12, t 13)) (fun x : (Value × Value × Value × Value × Value) × Heap => Jr21_0 rc md x.1.1 x.1.2.1 x.1.2.2.1 x.1.2.2.2.1 x.1.2.2.2.2 x.2) (fun t h => Jr21_0_at rc md t h) (fun e (s : Value × Value × Value × Value × Value) h => Jk21_0 rc md h0 e s.1 s.2.1 s.2.2.1 s.2.2.2.1 s.2.2.2.2 h) (fun e t h => Jk21_0_at rc md h0 e t h) t h
noncomputable def F21 (rc : Rec) (md : Md) (a0 : Value) (a1 : Value) (h0 : Heap) : Option (Value × Heap) :=
  lenS a0 fun v1 =>
  cIn .i64 v1 fun n2 =>
  lenS a1 fun v3 =>
  cIn .i64 v3 fun n4 =>
  bif (n2 != n4) then
    some ((.bool false), h0)
  else
    lenS a0 fun v5 =>
    cIn .i64 v5 fun n6 =>
    J21_0 rc md h0 a0 a1 (.bool false) (.int .i64 n6) (.int .i64 0) h0
noncomputable def F21H (rc : Rec) (md : Md) (X0 : T → Heap → Option (Value × Heap)) (a0 : Value) (a1 : Value) (h0 : Heap) : Option (Value × Heap) :=
  lenS a0 fun v1 =>
  cIn .i64 v1 fun n2 =>
  lenS a1 fun v3 =>
  cIn .i64 v3 fun n4 =>
  bif (n2 != n4) then
    some ((.bool false), h0)
  else
    lenS a0 fun v5 =>
    cIn .i64 v5 fun n6 =>
    X0 (upd (upd (upd (upd (upd (upd (upd (upd (upd (args0 [a0, a1]) 4 (.bool false)) 6 a0) 7 (.int .i64 n2)) 8 a1) 9 (.int .i64 n4)) 10 (.bool (n2 != n4))) 11 a0) 12 (.int .i64 n6)) 13 (.int .i64 0)) h0
theorem F21_h0 (rc : Rec) (md : Md) (a0 : Value) (a1 : Value) (h0 : Heap) : callStep0 Try.prog cfg rc md 21 [a0, a1] h0 = exec Try.prog cfg rc ⟨h0.length, h0.length⟩ 26 (bodyOf Try.prog 21) (retK Try.prog cfg 21 (rsOf Try.prog 21) h0) (args0 [a0, a1]) h0 := callStep0_run (by kernel_rfl) (by kernel_rfl) (by kernel_rfl)
theorem F21_h1 (rc : Rec) (md : Md) (X : Nat → T → Heap → Option (Value × Heap)) (a0 : Value) (a1 : Value) (h0 : Heap) : execG Try.prog cfg X rc md 26 (replS (bodyOf Try.prog 21) [([1, 1, 0, 1, 0], 0)]) (retK Try.prog cfg 21 (rsOf Try.prog 21) h0) (args0 [a0, a1]) h0 = F21H rc md (X 0) a0 a1 h0 := by kernel_rfl
theorem F21_h2 (rc : Rec) (md : Md) (a0 : Value) (a1 : Value) (h0 : Heap) : F21H rc md (fun t h => J21_0 rc md h0 (t 0) (t 1) (t 4) (t 12) (t 13) h) a0 a1 h0 = F21 rc md a0 a1 h0 := by unfold F21H F21; kernel_rfl
theorem F21_eq0 (rc : Rec) (md : Md) (a0 : Value) (a1 : Value) (h0 : Heap) : callStep0 Try.prog cfg rc md 21 [a0, a1] h0 = F21 rc ⟨h0.length, h0.length⟩ a0 a1 h0 := by
  rw [F21_h0, exec_holes [([1, 1, 0, 1, 0], 0)] (by kernel_rfl), F21_h1, show (goX Try.prog cfg rc ⟨h0.length, h0.length⟩ 26 (bodyOf Try.prog 21) [([1, 1, 0, 1, 0], 0)] (retK Try.prog cfg 21 (rsOf Try.prog 21) h0)) 0 = _ from J21_0_cut rc ⟨h0.length, h0.length⟩ h0]
  exact F21_h2 rc _ a0 a1 h0
theorem F21_eq (rc : Rec) (md : Md) (a0 : Value) (a1 : Value) (h0 : Heap) : callStep Try.prog cfg rc md 21 [a0, a1] h0 = F21 rc ⟨h0.length, h0.length⟩ a0 a1 h0 := (callStep_ne (by kernel_rfl)).trans (F21_eq0 rc md a0 a1 h0)

/-- slices.Sort[[]int,int] -/
noncomputable def F22 (rc : Rec) (md : Md) (a0 : Value) (h0 : Heap) : Option (Value × Heap) :=
  lenS a0 fun v1 =>
  cIn .i64 v1 fun n2 =>
  cl (rc md 26 [(.int .u64 (IntKind.wrap .u64 n2))] h0) fun v3 h4 =>
  cIn .i64 v3 fun n5 =>
  cl (rc md 25 [a0, (.int .i64 0), (.int .i64 n2), (.int .i64 n5)] h4) fun v6 h7 =>
  some ((.tuple #[]), List.take h0.length h7)
theorem F22_eq0 (rc : Rec) (md : Md) (a0 : Value) (h0 : Heap) : callStep0 Try.prog cfg rc md 22 [a0] h0 = F22 rc ⟨md.ro, h0.length⟩ a0 h0 := by kernel_rfl
theorem F22_eq (rc : Rec) (md : Md) (a0 : Value) (h0 : Heap) : callStep Try.prog cfg rc md 22 [a0] h0 = F22 rc ⟨md.ro, h0.length⟩ a0 h0 := (callStep_ne (by kernel_rfl)).trans (F22_eq0 rc md a0 h0)

/-- slices.Compact[[]int,int] -/
noncomputable def Jk23_0 (rc : Rec) (md : Md) (h0 : Heap) (e : Exit) (s0 : Value) (s2 : Value) (s3 : Value) (h : Heap) : Option (Value × Heap) :=
  match e with
  | .normal =>
    fin1 h0 s0 h
  | .exit j =>
    bif Nat.beq j 0 then
      fin1 h0 s0 h
    else
      none
  | .ret =>
    fin1 h0 s2 h
  | .goto l => none
  | .panic ps => none
  | .outgrown => none
theorem Jk23_0_at (rc : Rec) (md : Md) (h0 : Heap) (e : Exit) (t : T) (h : Heap) : kAt Try.prog cfg rc md 61 (bodyOf Try.prog 23) [1, 1, 0, 1, 0] (retK Try.prog cfg 23 (rsOf Try.prog 23) h0) e t h = Jk23_0 rc md h0 e (t 0) (t 2) (t 3) h := by cases e <;> kernel_rfl
noncomputable def J23_0b1 (rc : Rec) (md : Md) (s0 : Value) (s3 : Value) (h : Heap) : Option (((Value × Value × Value) × Heap) ⊕ (Exit × (Value × Value × Value) × Heap)) :=
  aSlice Try.prog 41 s0 (some s3) none none fun v1 =>
  aBuiltin Try.prog md .clear #[41] [v1] h fun v2 h3 =>
  aSlice Try.prog 41 s0 none (some s3) none fun v4 =>
  some (.inr (.ret, (s0, v4, s3), h3))
theorem J23_0b1_at (rc : Rec) (md : Md) (t : T) (h : Heap) : cut Try.prog cfg rc md 61 (sub (bodyOf Try.prog 23) [1, 1, 0, 1, 0, 0]) [1, 0, 0, 1, 0, 1, 1] (rndK (fun t => (t 0, t 2, t 3))) t h = J23_0b1 rc md (t 0) (t 3) h := by kernel_rfl
theorem J23_0b1_cut (rc : Rec) (md : Md) : cut Try.prog cfg rc md 61 (sub (bodyOf Try.prog 23) [1, 1, 0, 1, 0, 0]) [1, 0, 0, 1, 0, 1, 1] (rndK (fun t => (t 0, t 2, t 3))) = fun t h => J23_0b1 rc md (t 0) (t 3) h := funext fun t => funext fun h => J23_0b1_at rc md t h
noncomputable def Jk23_0b0 (rc : Rec) (md : Md) (e : Exit) (s0 : Value) (s2 : Value) (s3 : Value) (s4 : Value) (s5 : Value) (h : Heap) : Option (((Value × Value × Value) × Heap) ⊕ (Exit × (Value × Value × Value) × Heap)) :=
  match e with
  | .normal =>
    J23_0b1 rc md s0 s3 h
  | .exit j =>
    bif Nat.beq j 2 then
      J23_0b1 rc md s0 s3 h
    else
      bif Nat.beq j 1 then
        aBin Try.prog .add 3 s3 (.int .i64 1) fun v1 =>
        some (.inl ((s0, s2, v1), h))
      else
        some (.inr ((.exit j), (s0, s2, s3), h))
  | .ret =>
    some (.inr (.ret, (s0, s2, s3), h))
  | .goto l => some (.inr ((.goto l), (s0, s2, s3), h))
  | .panic ps => some (.inr ((.panic ps), (s0, s2, s3), h))
  | .outgrown => some (.inr (.outgrown, (s0, s2, s3), h))
noncomputable def Jk23_0b0H (rc : Rec) (md : Md) (X1 : T → Heap → Option (((Value × Value × Value) × Heap) ⊕ (Exit × (Value × Value × Value) × Heap))) (e : Exit) (t : T) (h : Heap) : Option (((Value × Value × Value) × Heap) ⊕ (Exit × (Value × Value × Value) × Heap)) :=
  match e with
  | .normal =>
    X1 t h
  | .exit j =>
    bif Nat.beq j 2 then
      X1 t h
    else
      bif Nat.beq j 1 then
        aBin Try.prog .add 3 (t 3) (.int .i64 1) fun v1 =>
        some (.inl (((t 0), (t 2), v1), h))
      else
        some (.inr ((.exit j), ((t 0), (t 2), (t 3)), h))
  | .ret =>
    some (.inr (.ret, ((t 0), (t 2), (t 3)), h))
  | .goto l => some (.inr ((.goto l), ((t 0), (t 2), (t 3)), h))
  | .panic ps => some (.inr ((.panic ps), ((t 0), (t 2), (t 3)), h))
  | .outgrown => some (.inr (.outgrown, ((t 0), (t 2), (t 3)), h))
theorem Jk23_0b0_h1 (rc : Rec) (md : Md) (X : Nat → T → Heap → Option (((Value × Value × Value) × Heap) ⊕ (Exit × (Value × Value × Value) × Heap))) (e : Exit) (t : T) (h : Heap) : kAtG Try.prog cfg X rc md 61 (replS (sub (bodyOf Try.prog 23) [1, 1, 0, 1, 0, 0]) [([1, 0, 0, 1, 0, 1, 1], 1)]) [1, 0, 0, 1, 0, 1, 0, 1, 0] (rndK (fun t => (t 0, t 2, t 3))) e t h = Jk23_0b0H rc md (X 1) e t h := by cases e <;> kernel_rfl
theorem Jk23_0b0_h2 (rc : Rec) (md : Md) (e : Exit) (t : T) (h : Heap) : Jk23_0b0H rc md (fun t h => J23_0b1 rc md (t 0) (t 3) h) e t h = Jk23_0b0 rc md e (t 0) (t 2) (t 3) (t 4) (t 5) h := by cases e <;> (unfold Jk23_0b0H Jk23_0b0; kernel_rfl)
theorem Jk23_0b0_at (rc : Rec) (md : Md) (e : Exit) (t : T) (h : Heap) : kAt Try.prog cfg rc md 61 (sub (bodyOf Try.prog 23) [1, 1, 0, 1, 0, 0]) [1, 0, 0, 1, 0, 1, 0, 1, 0] (rndK (fun t => (t 0, t 2, t 3))) e t h = Jk23_0b0 rc md e (t 0) (t 2) (t 3) (t 4) (t 5) h := by
  rw [kAt_holes [([1, 0, 0, 1, 0, 1, 1], 1)] [1, 0, 0, 1, 0, 1, 0, 1, 0] (by kernel_rfl), Jk23_0b0_h1, show (goX Try.prog cfg rc md 61 (sub (bodyOf Try.prog 23) [1, 1, 0, 1, 0, 0]) [([1, 0, 0, 1, 0, 1, 1], 1)] (rndK (fun t => (t 0, t 2, t 3)))) 1 = _ from J23_0b1_cut rc md]
  exact Jk23_0b0_h2 rc md e t h
/-- a round -/
noncomputable def Jr23_0b0 (rc : Rec) (md : Md) (s0 : Value) (s2 : Value) (s3 : Value) (s4 : Value) (s5 : Value) (h : Heap) : Option (((Value × Value × Value × Value × Value) × Heap) ⊕ (Exit × (Value × Value × Value × Value × Value) × Heap)) :=
  lenS s4 fun v1 =>
  cIn .i64 v1 fun n2 =>
  aBin Try.prog .lss 3 s5 (.int .i64 n2) fun v3 =>
  cBn v3 fun b4 =>
  bif b4 then
    ixSV 1 s4 s5 fun v5 =>
    ld1 v5 h fun v6 =>
    cIn .i64 v6 fun n7 =>
    aBin Try.prog .sub 3 s5 (.int .i64 1) fun v8 =>
    ixSV 1 s4 v8 fun v9 =>
    ld1 v9 h fun v10 =>
    cIn .i64 v10 fun n11 =>
    bif (n7 != n11) then
      ixSV 1 s4 s5 fun v12 =>
      ld1 v12 h fun v13 =>
      cIn .i64 v13 fun n14 =>
      ixSV 1 s0 s3 fun v15 =>
      st md 1 v15 (.int .i64 n14) h fun h16 =>
      aBin Try.prog .add 3 s3 (.int .i64 1) fun v17 =>
      aBin Try.prog .add 3 s5 (.int .i64 1) fun v18 =>
      some (.inl ((s0, s2, v17, s4, v18), h16))
    else
      aBin Try.prog .add 3 s5 (.int .i64 1) fun v19 =>
      some (.inl ((s0, s2, s3, s4, v19), h))
  else
    some (.inr ((.exit 2), (s0, s2, s3, s4, s5), h))
theorem Jr23_0b0_at (rc : Rec) (md : Md) (t : T) (h : Heap) : exec Try.prog cfg rc md 61 (sub (bodyOf Try.prog 23) [1, 1, 0, 1, 0, 0, 1, 0, 0, 1, 0, 1, 0, 1, 0, 0]) (rndK (fun t => (t 0, t 2, t 3, t 4, t 5))) t h = Jr23_0b0 rc md (t 0) (t 2) (t 3) (t 4) (t 5) h := by kernel_rfl
noncomputable def J23_0b0 (rc : Rec) (md : Md) (s0 : Value) (s2 : Value) (s3 : Value) (s4 : Value) (s5 : Value) (h : Heap) : Option (((Value × Value × Value) × Heap) ⊕ (Exit × (Value × Value × Value) × Heap)) :=
  runL (fun x : (Value × Value × Value × Value × Value) × Heap => Jr23_0b0 rc md x.1.1 x.1.2.1 x.1.2.2.1 x.1.2.2.2.1 x.1.2.2.2.2 x.2) (fun e (s : Value × Value × Value × Value × Value) h => Jk23_0b0 rc md e s.1 s.2.1 s.2.2.1 s.2.2.2.1 s.2.2.2.2 h) (s0, s2, s3, s4, s5) h
theorem J23_0b0_step (rc : Rec) (md : Md) (s0 : Value) (s2 : Value) (s3 : Value) (s4 : Value) (s5 : Value) (h : Heap) : J23_0b0 rc md s0 s2 s3 s4 s5 h = (Jr23_0b0 rc md s0 s2 s3 s4 s5 h).bind fun x => match x with
    | .inl (s, h) => J23_0b0 rc md s.1 s.2.1 s.2.2.1 s.2.2.2.1 s.2.2.2.2 h
    | .inr (e, s, h) => Jk23_0b0 rc md e s.1 s.2.1 s.2.2.1 s.2.2.2.1 s.2.2.2.2 h := by
  unfold J23_0b0
  rw [runL_eq]
  refine congrArg (Option.bind _) (funext fun x => ?_)
  rcases x with ⟨s, h⟩ | ⟨e, s, h⟩ <;> rfl
theorem J23_0b0_cut (rc : Rec) (md : Md) : cut Try.prog cfg rc md 61 (sub (bodyOf Try.prog 23) [1, 1, 0, 1, 0, 0]) [1, 0, 0, 1, 0, 1, 0, 1, 0] (rndK (fun t => (t 0, t 2, t 3))) = fun t h => J23_0b0 rc md (t 0) (t 2) (t 3) (t 4) (t 5) h := by
  funext t h
  have e : sub (sub (bodyOf Try.prog 23) [1, 1, 0, 1, 0, 0]) [1, 0, 0, 1, 0, 1, 0, 1, 0] = .loop (sub (bodyOf Try.prog 23) [1, 1, 0, 1, 0, 0, 1, 0, 0, 1, 0, 1, 0, 1, 0, 0]) := by kernel_rfl
  unfold cut
  rw [e]
  exact loop_eq (by kernel_rfl) (fun t => (t 0, t 2, t 3, t 4, t 5)) (fun x : (Value × Value × Value × Value × Value) × Heap => Jr23_0b0 rc md x.1.1 x.1.2.1 x.1.2.2.1 x.1.2.2.2.1 x.1.2.2.2.2 x.2) (fun t h => Jr23_0b0_at rc md t h) (fun e (s : Value × Value × Value × Value × Value) h => Jk23_0b0 rc md e s.1 s.2.1 s.2.2.1 s.2.2.2.1 s.2.2.2.2 h) (fun e t h => Jk23_0b0_at rc md e t h) t h
/-- a round -/
noncomputable def Jr23_0 (rc : Rec) (md : Md) (s0 : Value) (s2 : Value) (s3 : Value) (h : Heap) : Option (((Value × Value × Value) × Heap) ⊕ (Exit × (Value × Value × Value) × Heap)) :=
  lenS s0 fun v1 =>
  cIn .i64 v1 fun n2 =>
  aBin Try.prog .lss 3 s3 (.int .i64 n2) fun v3 =>
  cBn v3 fun b4 =>
  bif b4 then
    ixSV 1 s0 s3 fun v5 =>
    ld1 v5 h fun v6 =>
    cIn .i64 v6 fun n7 =>
    aBin Try.prog .sub 3 s3 (.int .i64 1) fun v8 =>
    ixSV 1 s0 v8 fun v9 =>
    ld1 v9 h fun v10 =>
    cIn .i64 v10 fun n11 =>
    bif (n7 == n11) then
      aSlice Try.prog 41 s0 (some s3) none none fun v12 =>
      J23_0b0 rc md s0 s2 s3 v12 (.int .i64 1) h
    else
      aBin Try.prog .add 3 s3 (.int .i64 1) fun v13 =>
      some (.inl ((s0, s2, v13), h))
  else
    some (.inr ((.exit 0), (s0, s2, s3), h))
noncomputable def Jr23_0H (rc : Rec) (md : Md) (X0 : T → Heap → Option (((Value × Value × Value) × Heap) ⊕ (Exit × (Value × Value × Value) × Heap))) (t : T) (h : Heap) : Option (((Value × Value × Value) × Heap) ⊕ (Exit × (Value × Value × Value) × Heap)) :=
  lenS (t 0) fun v1 =>
  cIn .i64 v1 fun n2 =>
  aBin Try.prog .lss 3 (t 3) (.int .i64 n2) fun v3 =>
  cBn v3 fun b4 =>
  bif b4 then
    ixSV 1 (t 0) (t 3) fun v5 =>
    ld1 v5 h fun v6 =>
    cIn .i64 v6 fun n7 =>
    aBin Try.prog .sub 3 (t 3) (.int .i64 1) fun v8 =>
    ixSV 1 (t 0) v8 fun v9 =>
    ld1 v9 h fun v10 =>
    cIn .i64 v10 fun n11 =>
    bif (n7 == n11) then
      aSlice Try.prog 41 (t 0) (some (t 3)) none none fun v12 =>
      X0 (upd (upd (upd (upd (upd (upd (upd (upd (upd (upd (upd (upd (upd (upd (upd (upd (upd (upd (upd t 10 (t 3)) 11 (t 0)) 12 (.int .i64 n2)) 13 v3) 16 (t 0)) 17 (t 3)) 18 v5) 19 (.int .i64 n7)) 20 (t 0)) 21 (t 3)) 22 v8) 23 v9) 24 (.int .i64 n11)) 25 (.bool (n7 == n11))) 26 (t 0)) 27 (t 3)) 28 v12) 4 v12) 5 (.int .i64 1)) h
    else
      aBin Try.prog .add 3 (t 3) (.int .i64 1) fun v13 =>
      some (.inl (((t 0), (t 2), v13), h))
  else
    some (.inr ((.exit 0), ((t 0), (t 2), (t 3)), h))
theorem Jr23_0_h1 (rc : Rec) (md : Md) (X : Nat → T → Heap → Option (((Value × Value × Value) × Heap) ⊕ (Exit × (Value × Value × Value) × Heap))) (t : T) (h : Heap) : execG Try.prog cfg X rc md 61 (replS (sub (bodyOf Try.prog 23) [1, 1, 0, 1, 0, 0]) [([1, 0, 0, 1, 0, 1, 0, 1, 0], 0), ([1, 0, 0, 1, 0, 1, 1], 1)]) (rndK (fun t => (t 0, t 2, t 3))) t h = Jr23_0H rc md (X 0) t h := by kernel_rfl
theorem Jr23_0_h2 (rc : Rec) (md : Md) (t : T) (h : Heap) : Jr23_0H rc md (fun t h => J23_0b0 rc md (t 0) (t 2) (t 3) (t 4) (t 5) h) t h = Jr23_0 rc md (t 0) (t 2) (t 3) h := by unfold Jr23_0H Jr23_0; kernel_rfl
theorem Jr23_0_at (rc : Rec) (md : Md) (t : T) (h : Heap) : exec Try.prog cfg rc md 61 (sub (bodyOf Try.prog 23) [1, 1, 0, 1, 0, 0]) (rndK (fun t => (t 0, t 2, t 3))) t h = Jr23_0 rc md (t 0) (t 2) (t 3) h := by
  rw [exec_holes [([1, 0, 0, 1, 0, 1, 0, 1, 0], 0), ([1, 0, 0, 1, 0, 1, 1], 1)] (by kernel_rfl), Jr23_0_h1, show (goX Try.prog cfg rc md 61 (sub (bodyOf Try.prog 23) [1, 1, 0, 1, 0, 0]) [([1, 0, 0, 1, 0, 1, 0, 1, 0], 0), ([1, 0, 0, 1, 0, 1, 1], 1)] (rndK (fun t => (t 0, t 2, t 3)))) 0 = _ from J23_0b0_cut rc md]
  exact Jr23_0_h2 rc md t h
noncomputable def J23_0 (rc : Rec) (md : Md) (h0 : Heap) (s0 : Value) (s2 : Value) (s3 : Value) (h : Heap) : Option (Value × Heap) :=
  runL (fun x : (Value × Value × Value) × Heap => Jr23_0 rc md x.1.1 x.1.2.1 x.1.2.2 x.2) (fun e (s : Value × Value × Value) h => Jk23_0 rc md h0 e s.1 s.2.1 s.2.2 h) (s0, s2, s3) h
theorem J23_0_step (rc : Rec) (md : Md) (h0 : Heap) (s0 : Value) (s2 : Value) (s3 : Value) (h : Heap) : J23_0 rc md h0 s0 s2 s3 h = (Jr23_0 rc md s0 s2 s3 h).bind fun x => match x with
    | .inl (s, h) => J23_0 rc md h0 s.1 s.2.1 s.2.2 h
    | .inr (e, s, h) => Jk23_0 rc md h0 e s.1 s.2.1 s.2.2 h := by
  unfold J23_0
  rw [runL_eq]
  refine congrArg (Option.bind _) (funext fun x => ?_)
  rcases x with ⟨s, h⟩ | ⟨e, s, h⟩ <;> rfl
theorem J23_0_cut (rc : Rec) (md : Md) (h0 : Heap) : cut Try.prog cfg rc md 61 (bodyOf Try.prog 23) [1, 1, 0, 1, 0] (retK Try.prog cfg 23 (rsOf Try.prog 23) h0) = fun t h => J23_0 rc md h0 (t 0) (t 2) (t 3) h := by
  funext t h
  have e : sub (bodyOf Try.prog 23) [1, 1, 0, 1, 0] = .loop (sub (bodyOf Try.prog 23) [1, 1, 0, 1, 0, 0]) := by kernel_rfl
  unfold cut
  rw [e]
  exact loop_eq (by kernel_rfl) (fun t => (t 0, t 2, t 3)) (fun x : (Value × Value × Value) × Heap => Jr23_0 rc md x.1.1 x.1.2.1 x.1.2.2 x.2) (fun t h => Jr23_0_at rc md t h) (fun e (s : Value × Value × Value) h => Jk23_0 rc md h0 e s.1 s.2.1 s.2.2 h) (fun e t h => Jk23_0_at rc md h0 e t h) t h
noncomputable def F23 (rc : Rec) (md : Md) (a0 : Value) (h0 : Heap) : Option (Value × Heap) :=
  lenS a0 fun v1 =>
  cIn .i64 v1 fun n2 =>
  bif (decide (n2 < 2)) then
    fin1 h0 a0 h0
  else
    J23_0 rc md h0 a0 (.slice none 0 0) (.int .i64 1) h0
noncomputable def F23H (rc : Rec) (md : Md) (X0 : T → Heap → Option (Value × Heap)) (a0 : Value) (h0 : Heap) : Option (Value × Heap) :=
  lenS a0 fun v1 =>
  cIn .i64 v1 fun n2 =>
  bif (decide (n2 < 2)) then
    fin1 h0 a0 h0
  else
    X0 (upd (upd (upd (upd (upd (args0 [a0]) 2 (.slice none 0 0)) 6 a0) 7 (.int .i64 n2)) 8 (.bool (decide (n2 < 2)))) 3 (.int .i64 1)) h0
theorem F23_h0 (rc : Rec) (md : Md) (a0 : Value) (h0 : Heap) : callStep0 Try.prog cfg rc md 23 [a0] h0 = exec Try.prog cfg rc ⟨md.ro, h0.length⟩ 61 (bodyOf Try.prog 23) (retK Try.prog cfg 23 (rsOf Try.prog 23) h0) (args0 [a0]) h0 := callStep0_run (by kernel_rfl) (by kernel_rfl) (by kernel_rfl)
theorem F23_h1 (rc : Rec) (md : Md) (X : Nat → T → Heap → Option (Value × Heap)) (a0 : Value) (h0 : Heap) : execG Try.prog cfg X rc md 61 (replS (bodyOf Try.prog 23) [([1, 1, 0, 1, 0], 0)]) (retK Try.prog cfg 23 (rsOf Try.prog 23) h0) (args0 [a0]) h0 = F23H rc md (X 0) a0 h0 := by kernel_rfl
theorem F23_h2 (rc : Rec) (md : Md) (a0 : Value) (h0 : Heap) : F23H rc md (fun t h => J23_0 rc md h0 (t 0) (t 2) (t 3) h) a0 h0 = F23 rc md a0 h0 := by unfold F23H F23; kernel_rfl
theorem F23_eq0 (rc : Rec) (md : Md) (a0 : Value) (h0 : Heap) : callStep0 Try.prog cfg rc md 23 [a0] h0 = F23 rc ⟨md.ro, h0.length⟩ a0 h0 := by
  rw [F23_h0, exec_holes [([1, 1, 0, 1, 0], 0)] (by kernel_rfl), F23_h1, show (goX Try.prog cfg rc ⟨md.ro, h0.length⟩ 61 (bodyOf Try.prog 23) [([1, 1, 0, 1, 0], 0)] (retK Try.prog cfg 23 (rsOf Try.prog 23) h0)) 0 = _ from J23_0_cut rc ⟨md.ro, h0.length⟩ h0]
  exact F23_h2 rc _ a0 h0
theorem F23_eq (rc : Rec) (md : Md) (a0 : Value) (h0 : Heap) : callStep Try.prog cfg rc md 23 [a0] h0 = F23 rc ⟨md.ro, h0.length⟩ a0 h0 := (callStep_ne (by kernel_rfl)).trans (F23_eq0 rc md a0 h0)

/-- (*tombolo/cell.Arena).at -/
noncomputable def F24 (rc : Rec) (md : Md) (a0 : Value) (a1 : Int) (a2 : Value) (h0 : Heap) : Option (Value × Heap) :=
  (bif wantV (.bool (decide (a1 < 0))) false then
  some ((.int .i64 a1), h0)
  else some (undef, h0)).bind fun p1 =>
  (bif wantV (.bool (decide (a1 < 0))) false then
  some (a0, p1.2)
  else some (undef, p1.2)).bind fun p2 =>
  (bif wantV (.bool (decide (a1 < 0))) false then
  bif okNil Try.prog p2.1 then
  some (p2.1, p2.2)
  else none
  else some (undef, p2.2)).bind fun p3 =>
  (bif wantV (.bool (decide (a1 < 0))) false then
  fA 0 p3.1 fun v4 =>
  some (v4, p3.2)
  else some (undef, p3.2)).bind fun p5 =>
  (bif wantV (.bool (decide (a1 < 0))) false then
  ld1 p5.1 p5.2 fun v6 =>
  some (v6, p5.2)
  else some (undef, p5.2)).bind fun p7 =>
  (bif wantV (.bool (decide (a1 < 0))) false then
  lenS p7.1 fun v8 =>
  cIn .i64 v8 fun n9 =>
  some ((.int .i64 n9), p7.2)
  else some (undef, p7.2)).bind fun p10 =>
  (bif wantV (.bool (decide (a1 < 0))) false then
  aBin Try.prog .geq 3 p1.1 p10.1 fun v11 =>
  some (v11, p10.2)
  else some (undef, p10.2)).bind fun p12 =>
  cBn (bif (decide (a1 < 0)) then (.bool true) else p12.1) fun b13 =>
  bif b13 then
    some ((.pointer none), List.take h0.length p12.2)
  else
    bif okNil Try.prog a2 then
    ld1 a2 p12.2 fun v14 =>
    cIn .i64 v14 fun n15 =>
    bif okNil Try.prog a2 then
    st md 1 a2 (.int .i64 (IntKind.wrap .i64 (n15 + 1))) p12.2 fun h16 =>
    bif okNil Try.prog a0 then
    fA 0 a0 fun v17 =>
    ld1 v17 h16 fun v18 =>
    ixS 1 v18 a1 fun v19 =>
    fin1 h0 v19 h16
    else none
    else none
    else none
theorem F24_eq0 (rc : Rec) (md : Md) (a0 : Value) (a1 : Int) (a2 : Value) (h0 : Heap) : callStep0 Try.prog cfg rc md 24 [a0, (.int .i64 a1), a2] h0 = F24 rc ⟨md.ro, h0.length⟩ a0 a1 a2 h0 := by kernel_rfl
theorem F24_eq (rc : Rec) (md : Md) (a0 : Value) (a1 : Int) (a2 : Value) (h0 : Heap) : callStep Try.prog cfg rc md 24 [a0, (.int .i64 a1), a2] h0 = F24 rc ⟨md.ro, h0.length⟩ a0 a1 a2 h0 := (callStep_ne (by kernel_rfl)).trans (F24_eq0 rc md a0 a1 a2 h0)

/-- slices.pdqsortOrdered[int] -/
noncomputable def Jk25_0 (rc : Rec) (md : Md) (h0 : Heap) (e : Exit) (s0 : Value) (s1 : Value) (s2 : Value) (s3 : Value) (s8 : Value) (s9 : Value) (h : Heap) : Option (Value × Heap) :=
  match e with
  | .normal =>
    some ((.tuple #[]), List.take h0.length h)
  | .exit j =>
    bif Nat.beq j 0 then
      some ((.tuple #[]), List.take h0.length h)
    else
      none
  | .ret =>
    some ((.tuple #[]), List.take h0.length h)
  | .goto l => none
  | .panic ps => none
  | .outgrown => none
theorem Jk25_0_at (rc : Rec) (md : Md) (h0 : Heap) (e : Exit) (t : T) (h : Heap) : kAt Try.prog cfg rc md 134 (bodyOf Try.prog 25) [1, 1, 0] (retK Try.prog cfg 25 (rsOf Try.prog 25) h0) e t h = Jk25_0 rc md h0 e (t 0) (t 1) (t 2) (t 3) (t 8) (t 9) h := by cases e <;> kernel_rfl
noncomputable def J25_0b2 (rc : Rec) (md : Md) (s0 : Value) (s1 : Value) (s2 : Value) (s3 : Value) (s8 : Value) (s9 : Value) (s10 : Value) (s11 : Value) (h : Heap) : Option (((Value × Value × Value × Value × Value × Value) × Heap) ⊕ (Exit × (Value × Value × Value × Value × Value × Value) × Heap)) :=
  aBin Try.prog .gtr 3 s1 (.int .i64 0) fun v1 =>
  (bif wantV v1 true then
  some (s0, h)
  else some (undef, h)).bind fun p2 =>
  (bif wantV v1 true then
  some (s1, p2.2)
  else some (undef, p2.2)).bind fun p3 =>
  (bif wantV v1 true then
  aBin Try.prog .sub 3 p3.1 (.int .i64 1) fun v4 =>
  some (v4, p3.2)
  else some (undef, p3.2)).bind fun p5 =>
  (bif wantV v1 true then
  ixSV 1 p2.1 p5.1 fun v6 =>
  some (v6, p5.2)
  else some (undef, p5.2)).bind fun p7 =>
  (bif wantV v1 true then
  ld1 p7.1 p7.2 fun v8 =>
  cIn .i64 v8 fun n9 =>
  some ((.int .i64 n9), p7.2)
  else some (undef, p7.2)).bind fun p10 =>
  (bif wantV v1 true then
  some (s0, p10.2)
  else some (undef, p10.2)).bind fun p11 =>
  (bif wantV v1 true then
  some (s11, p11.2)
  else some (undef, p11.2)).bind fun p12 =>
  (bif wantV v1 true then
  ixSV 1 p11.1 p12.1 fun v13 =>
  some (v13, p12.2)
  else some (undef, p12.2)).bind fun p14 =>
  (bif wantV v1 true then
  ld1 p14.1 p14.2 fun v15 =>
  cIn .i64 v15 fun n16 =>
  some ((.int .i64 n16), p14.2)
  else some (undef, p14.2)).bind fun p17 =>
  (bif wantV v1 true then
  cl (rc md 33 [p10.1, p17.1] p17.2) fun v18 h19 =>
  cBn v18 fun b20 =>
  some ((.bool b20), h19)
  else some (undef, p17.2)).bind fun p21 =>
  (bif wantV v1 true then
  aUn .not p21.1 fun v22 =>
  some (v22, p21.2)
  else some (undef, p21.2)).bind fun p23 =>
  cBn v1 fun q24 =>
  cBn (bif q24 then p23.1 else (.bool false)) fun b25 =>
  bif b25 then
    cl (rc md 34 [s0, s1, s2, s11] p23.2) fun v26 h27 =>
    cIn .i64 v26 fun n28 =>
    some (.inl ((s0, (.int .i64 n28), s2, s3, s8, s9), h27))
  else
    cl (rc md 35 [s0, s1, s2, s11] p23.2) fun v29 h30 =>
    exT v29 0 fun v31 =>
    cIn .i64 v31 fun n32 =>
    exT v29 1 fun v33 =>
    cBn v33 fun b34 =>
    aBin Try.prog .sub 3 (.int .i64 n32) s1 fun v35 =>
    aBin Try.prog .sub 3 s2 (.int .i64 n32) fun v36 =>
    aBin Try.prog .quo 3 s10 (.int .i64 8) fun v37 =>
    aBin Try.prog .lss 3 v35 v36 fun v38 =>
    cBn v38 fun b39 =>
    bif b39 then
      aBin Try.prog .geq 3 v35 v37 fun v40 =>
      cl (rc md 25 [s0, s1, (.int .i64 n32), s3] h30) fun v41 h42 =>
      some (.inl ((s0, (.int .i64 (IntKind.wrap .i64 (n32 + 1))), s2, s3, v40, (.bool b34)), h42))
    else
      aBin Try.prog .geq 3 v36 v37 fun v43 =>
      cl (rc md 25 [s0, (.int .i64 (IntKind.wrap .i64 (n32 + 1))), s2, s3] h30) fun v44 h45 =>
      some (.inl ((s0, s1, (.int .i64 n32), s3, v43, (.bool b34)), h45))
theorem J25_0b2_at (rc : Rec) (md : Md) (t : T) (h : Heap) : cut Try.prog cfg rc md 134 (sub (bodyOf Try.prog 25) [1, 1, 0, 0]) [0, 1, 1, 1, 1, 1, 1, 1] (rndK (fun t => (t 0, t 1, t 2, t 3, t 8, t 9))) t h = J25_0b2 rc md (t 0) (t 1) (t 2) (t 3) (t 8) (t 9) (t 10) (t 11) h := by kernel_rfl
theorem J25_0b2_cut (rc : Rec) (md : Md) : cut Try.prog cfg rc md 134 (sub (bodyOf Try.prog 25) [1, 1, 0, 0]) [0, 1, 1, 1, 1, 1, 1, 1] (rndK (fun t => (t 0, t 1, t 2, t 3, t 8, t 9))) = fun t h => J25_0b2 rc md (t 0) (t 1) (t 2) (t 3) (t 8) (t 9) (t 10) (t 11) h := funext fun t => funext fun h => J25_0b2_at rc md t h
noncomputable def J25_0b1 (rc : Rec) (md : Md) (s0 : Value) (s1 : Value) (s2 : Value) (s3 : Value) (s8 : Value) (s9 : Value) (s10 : Value) (s11 : Value) (s12 : Value) (h : Heap) : Option (((Value × Value × Value × Value × Value × Value) × Heap) ⊕ (Exit × (Value × Value × Value × Value × Value × Value) × Heap)) :=
  (bif wantV s8 true then
  some (s9, h)
  else some (undef, h)).bind fun p1 =>
  cBn s8 fun q2 =>
  cBn (bif q2 then p1.1 else (.bool false)) fun b3 =>
  (bif wantV (.bool b3) true then
  some (s12, p1.2)
  else some (undef, p1.2)).bind fun p4 =>
  (bif wantV (.bool b3) true then
  aBin Try.prog .eql 75 p4.1 (.int .i64 1) fun v5 =>
  some (v5, p4.2)
  else some (undef, p4.2)).bind fun p6 =>
  cBn (bif b3 then p6.1 else (.bool false)) fun b7 =>
  bif b7 then
    cl (rc md 32 [s0, s1, s2] p6.2) fun v8 h9 =>
    cBn v8 fun b10 =>
    bif b10 then
      some (.inr (.ret, (s0, s1, s2, s3, s8, s9), h9))
    else
      J25_0b2 rc md s0 s1 s2 s3 s8 s9 s10 s11 h9
  else
    J25_0b2 rc md s0 s1 s2 s3 s8 s9 s10 s11 p6.2
noncomputable def J25_0b1H (rc : Rec) (md : Md) (X0 : T → Heap → Option (((Value × Value × Value × Value × Value × Value) × Heap) ⊕ (Exit × (Value × Value × Value × Value × Value × Value) × Heap))) (t : T) (h : Heap) : Option (((Value × Value × Value × Value × Value × Value) × Heap) ⊕ (Exit × (Value × Value × Value × Value × Value × Value) × Heap)) :=
  (bif wantV (t 8) true then
  some ((t 9), h)
  else some (undef, h)).bind fun p1 =>
  cBn (t 8) fun q2 =>
  cBn (bif q2 then p1.1 else (.bool false)) fun b3 =>
  (bif wantV (.bool b3) true then
  some ((t 12), p1.2)
  else some (undef, p1.2)).bind fun p4 =>
  (bif wantV (.bool b3) true then
  aBin Try.prog .eql 75 p4.1 (.int .i64 1) fun v5 =>
  some (v5, p4.2)
  else some (undef, p4.2)).bind fun p6 =>
  cBn (bif b3 then p6.1 else (.bool false)) fun b7 =>
  bif b7 then
    cl (rc md 32 [(t 0), (t 1), (t 2)] p6.2) fun v8 h9 =>
    cBn v8 fun b10 =>
    bif b10 then
      some (.inr (.ret, ((t 0), (t 1), (t 2), (t 3), (t 8), (t 9)), h9))
    else
      X0 (upd (upd (upd (upd (upd (upd (upd (upd (upd (upd (upd (upd t 61 (t 8)) 62 (t 8)) 63 p1.1) 64 (.bool b3)) 65 (.bool b3)) 66 p4.1) 67 p6.1) 68 (.bool b7)) 69 (t 0)) 70 (t 1)) 71 (t 2)) 72 (.bool b10)) h9
  else
    X0 (upd (upd (upd (upd (upd (upd (upd (upd t 61 (t 8)) 62 (t 8)) 63 p1.1) 64 (.bool b3)) 65 (.bool b3)) 66 p4.1) 67 p6.1) 68 (.bool b7)) p6.2
theorem J25_0b1_h1 (rc : Rec) (md : Md) (X : Nat → T → Heap → Option (((Value × Value × Value × Value × Value × Value) × Heap) ⊕ (Exit × (Value × Value × Value × Value × Value × Value) × Heap))) (t : T) (h : Heap) : execG Try.prog cfg X rc md 134 (sub (replS (sub (bodyOf Try.prog 25) [1, 1, 0, 0]) [([0, 1, 1, 1, 1, 1, 1, 1], 0)]) [0, 1, 1, 1, 1, 1, 1]) (kAtG Try.prog cfg X rc md 134 (replS (sub (bodyOf Try.prog 25) [1, 1, 0, 0]) [([0, 1, 1, 1, 1, 1, 1, 1], 0)]) [0, 1, 1, 1, 1, 1, 1] (rndK (fun t => (t 0, t 1, t 2, t 3, t 8, t 9)))) t h = J25_0b1H rc md (X 0) t h := by kernel_rfl
theorem J25_0b1_h2 (rc : Rec) (md : Md) (t : T) (h : Heap) : J25_0b1H rc md (fun t h => J25_0b2 rc md (t 0) (t 1) (t 2) (t 3) (t 8) (t 9) (t 10) (t 11) h) t h = J25_0b1 rc md (t 0) (t 1) (t 2) (t 3) (t 8) (t 9) (t 10) (t 11) (t 12) h := by (unfold J25_0b1H J25_0b1; kernel_rfl)
theorem J25_0b1_at (rc : Rec) (md : Md) (t : T) (h : Heap) : cut Try.prog cfg rc md 134 (sub (bodyOf Try.prog 25) [1, 1, 0, 0]) [0, 1, 1, 1, 1, 1, 1] (rndK (fun t => (t 0, t 1, t 2, t 3, t 8, t 9))) t h = J25_0b1 rc md (t 0) (t 1) (t 2) (t 3) (t 8) (t 9) (t 10) (t 11) (t 12) h := by
  rw [cut_holes [([0, 1, 1, 1, 1, 1, 1, 1], 0)] [0, 1, 1, 1, 1, 1, 1] (by kernel_rfl), J25_0b1_h1, show (goX Try.prog cfg rc md 134 (sub (bodyOf Try.prog 25) [1, 1, 0, 0]) [([0, 1, 1, 1, 1, 1, 1, 1], 0)] (rndK (fun t => (t 0, t 1, t 2, t 3, t 8, t 9)))) 0 = _ from J25_0b2_cut rc md]
  exact J25_0b1_h2 rc md t h
theorem J25_0b1_cut (rc : Rec) (md : Md) : cut Try.prog cfg rc md 134 (sub (bodyOf Try.prog 25) [1, 1, 0, 0]) [0, 1, 1, 1, 1, 1, 1] (rndK (fun t => (t 0, t 1, t 2, t 3, t 8, t 9))) = fun t h => J25_0b1 rc md (t 0) (t 1) (t 2) (t 3) (t 8) (t 9) (t 10) (t 11) (t 12) h := funext fun t => funext fun h => J25_0b1_at rc md t h
noncomputable def J25_0b0 (rc : Rec) (md : Md) (s0 : Value) (s1 : Value) (s2 : Value) (s3 : Value) (s8 : Value) (s9 : Value) (s10 : Value) (h : Heap) : Option (((Value × Value × Value × Value × Value × Value) × Heap) ⊕ (Exit × (Value × Value × Value × Value × Value × Value) × Heap)) :=
  cl (rc md 30 [s0, s1, s2] h) fun v1 h2 =>
  exT v1 0 fun v3 =>
  cIn .i64 v3 fun n4 =>
  exT v1 1 fun v5 =>
  cIn .i64 v5 fun n6 =>
  bif (n6 == 2) then
    cl (rc md 31 [s0, s1, s2] h2) fun v7 h8 =>
    aBin Try.prog .sub 3 s2 (.int .i64 1) fun v9 =>
    aBin Try.prog .sub 3 (.int .i64 n4) s1 fun v10 =>
    aBin Try.prog .sub 3 v9 v10 fun v11 =>
    J25_0b1 rc md s0 s1 s2 s3 s8 s9 s10 v11 (.int .i64 1) h8
  else
    J25_0b1 rc md s0 s1 s2 s3 s8 s9 s10 (.int .i64 n4) (.int .i64 n6) h2
noncomputable def J25_0b0H (rc : Rec) (md : Md) (X1 : T → Heap → Option (((Value × Value × Value × Value × Value × Value) × Heap) ⊕ (Exit × (Value × Value × Value × Value × Value × Value) × Heap))) (t : T) (h : Heap) : Option (((Value × Value × Value × Value × Value × Value) × Heap) ⊕ (Exit × (Value × Value × Value × Value × Value × Value) × Heap)) :=
  cl (rc md 30 [(t 0), (t 1), (t 2)] h) fun v1 h2 =>
  exT v1 0 fun v3 =>
  cIn .i64 v3 fun n4 =>
  exT v1 1 fun v5 =>
  cIn .i64 v5 fun n6 =>
  bif (n6 == 2) then
    cl (rc md 31 [(t 0), (t 1), (t 2)] h2) fun v7 h8 =>
    aBin Try.prog .sub 3 (t 2) (.int .i64 1) fun v9 =>
    aBin Try.prog .sub 3 (.int .i64 n4) (t 1) fun v10 =>
    aBin Try.prog .sub 3 v9 v10 fun v11 =>
    X1 (upd (upd (upd (upd (upd (upd (upd (upd (upd (upd (upd (upd (upd (upd (upd (upd (upd (upd (upd (upd (upd (upd (upd t 43 (t 0)) 44 (t 1)) 45 (t 2)) 46 v1) 42 v1) 47 (.int .i64 n4)) 48 (.int .i64 n6)) 11 (.int .i64 n4)) 12 (.int .i64 n6)) 49 (.int .i64 n6)) 50 (.bool (n6 == 2))) 51 (t 0)) 52 (t 1)) 53 (t 2)) 54 v7) 55 (t 2)) 56 v9) 57 (.int .i64 n4)) 58 (t 1)) 59 v10) 60 v11) 11 v11) 12 (.int .i64 1)) h8
  else
    X1 (upd (upd (upd (upd (upd (upd (upd (upd (upd (upd (upd t 43 (t 0)) 44 (t 1)) 45 (t 2)) 46 v1) 42 v1) 47 (.int .i64 n4)) 48 (.int .i64 n6)) 11 (.int .i64 n4)) 12 (.int .i64 n6)) 49 (.int .i64 n6)) 50 (.bool (n6 == 2))) h2
theorem J25_0b0_h1 (rc : Rec) (md : Md) (X : Nat → T → Heap → Option (((Value × Value × Value × Value × Value × Value) × Heap) ⊕ (Exit × (Value × Value × Value × Value × Value × Value) × Heap))) (t : T) (h : Heap) : execG Try.prog cfg X rc md 134 (sub (replS (sub (bodyOf Try.prog 25) [1, 1, 0, 0]) [([0, 1, 1, 1, 1, 1, 1, 1], 0), ([0, 1, 1, 1, 1, 1, 1], 1)]) [0, 1, 1, 1, 1]) (kAtG Try.prog cfg X rc md 134 (replS (sub (bodyOf Try.prog 25) [1, 1, 0, 0]) [([0, 1, 1, 1, 1, 1, 1, 1], 0), ([0, 1, 1, 1, 1, 1, 1], 1)]) [0, 1, 1, 1, 1] (rndK (fun t => (t 0, t 1, t 2, t 3, t 8, t 9)))) t h = J25_0b0H rc md (X 1) t h := by kernel_rfl
theorem J25_0b0_h2 (rc : Rec) (md : Md) (t : T) (h : Heap) : J25_0b0H rc md (fun t h => J25_0b1 rc md (t 0) (t 1) (t 2) (t 3) (t 8) (t 9) (t 10) (t 11) (t 12) h) t h = J25_0b0 rc md (t 0) (t 1) (t 2) (t 3) (t 8) (t 9) (t 10) h := by (unfold J25_0b0H J25_0b0; kernel_rfl)
theorem J25_0b0_at (rc : Rec) (md : Md) (t : T) (h : Heap) : cut Try.prog cfg rc md 134 (sub (bodyOf Try.prog 25) [1, 1, 0, 0]) [0, 1, 1, 1, 1] (rndK (fun t => (t 0, t 1, t 2, t 3, t 8, t 9))) t h = J25_0b0 rc md (t 0) (t 1) (t 2) (t 3) (t 8) (t 9) (t 10) h := by
  rw [cut_holes [([0, 1, 1, 1, 1, 1, 1, 1], 0), ([0, 1, 1, 1, 1, 1, 1], 1)] [0, 1, 1, 1, 1] (by kernel_rfl), J25_0b0_h1, show (goX Try.prog cfg rc md 134 (sub (bodyOf Try.prog 25) [1, 1, 0, 0]) [([0, 1, 1, 1, 1, 1, 1, 1], 0), ([0, 1, 1, 1, 1, 1, 1], 1)] (rndK (fun t => (t 0, t 1, t 2, t 3, t 8, t 9)))) 1 = _ from J25_0b1_cut rc md]
  exact J25_0b0_h2 rc md t h
theorem J25_0b0_cut (rc : Rec) (md : Md) : cut Try.prog cfg rc md 134 (sub (bodyOf Try.prog 25) [1, 1, 0, 0]) [0, 1, 1, 1, 1] (rndK (fun t => (t 0, t 1, t 2, t 3, t 8, t 9))) = fun t h => J25_0b0 rc md (t 0) (t 1) (t 2) (t 3) (t 8) (t 9) (t 10) h := funext fun t => funext fun h => J25_0b0_at rc md t h
/-- a round -/
noncomputable def Jr25_0 (rc : Rec) (md : Md) (s0 : Value) (s1 : Value) (s2 : Value) (s3 : Value) (s8 : Value) (s9 : Value) (h : Heap) : Option (((Value × Value × Value × Value × Value × Value) × Heap) ⊕ (Exit × (Value × Value × Value × Value × Value × Value) × Heap)) :=
  aBin Try.prog .sub 3 s2 s1 fun v1 =>
  aBin Try.prog .leq 3 v1 (.int .i64 12) fun v2 =>
  cBn v2 fun b3 =>
  bif b3 then
    cl (rc md 27 [s0, s1, s2] h) fun v4 h5 =>
    some (.inr (.ret, (s0, s1, s2, s3, s8, s9), h5))
  else
    aBin Try.prog .eql 3 s3 (.int .i64 0) fun v6 =>
    cBn v6 fun b7 =>
    bif b7 then
      cl (rc md 28 [s0, s1, s2] h) fun v8 h9 =>
      some (.inr (.ret, (s0, s1, s2, s3, s8, s9), h9))
    else
      aUn .not s8 fun v10 =>
      cBn v10 fun b11 =>
      bif b11 then
        cl (rc md 29 [s0, s1, s2] h) fun v12 h13 =>
        aBin Try.prog .sub 3 s3 (.int .i64 1) fun v14 =>
        J25_0b0 rc md s0 s1 s2 v14 s8 s9 v1 h13
      else
        J25_0b0 rc md s0 s1 s2 s3 s8 s9 v1 h
noncomputable def Jr25_0H (rc : Rec) (md : Md) (X2 : T → Heap → Option (((Value × Value × Value × Value × Value × Value) × Heap) ⊕ (Exit × (Value × Value × Value × Value × Value × Value) × Heap))) (t : T) (h : Heap) : Option (((Value × Value × Value × Value × Value × Value) × Heap) ⊕ (Exit × (Value × Value × Value × Value × Value × Value) × Heap)) :=
  aBin Try.prog .sub 3 (t 2) (t 1) fun v1 =>
  aBin Try.prog .leq 3 v1 (.int .i64 12) fun v2 =>
  cBn v2 fun b3 =>
  bif b3 then
    cl (rc md 27 [(t 0), (t 1), (t 2)] h) fun v4 h5 =>
    some (.inr (.ret, ((t 0), (t 1), (t 2), (t 3), (t 8), (t 9)), h5))
  else
    aBin Try.prog .eql 3 (t 3) (.int .i64 0) fun v6 =>
    cBn v6 fun b7 =>
    bif b7 then
      cl (rc md 28 [(t 0), (t 1), (t 2)] h) fun v8 h9 =>
      some (.inr (.ret, ((t 0), (t 1), (t 2), (t 3), (t 8), (t 9)), h9))
    else
      aUn .not (t 8) fun v10 =>
      cBn v10 fun b11 =>
      bif b11 then
        cl (rc md 29 [(t 0), (t 1), (t 2)] h) fun v12 h13 =>
        aBin Try.prog .sub 3 (t 3) (.int .i64 1) fun v14 =>
        X2 (upd (upd (upd (upd (upd (upd (upd (upd (upd (upd (upd (upd (upd (upd (upd (upd (upd t 19 (t 2)) 20 (t 1)) 21 v1) 10 v1) 22 v1) 23 v2) 28 (t 3)) 29 v6) 34 (t 8)) 35 v10) 36 (t 0)) 37 (t 1)) 38 (t 2)) 39 v12) 40 (t 3)) 41 v14) 3 v14) h13
      else
        X2 (upd (upd (upd (upd (upd (upd (upd (upd (upd (upd t 19 (t 2)) 20 (t 1)) 21 v1) 10 v1) 22 v1) 23 v2) 28 (t 3)) 29 v6) 34 (t 8)) 35 v10) h
theorem Jr25_0_h1 (rc : Rec) (md : Md) (X : Nat → T → Heap → Option (((Value × Value × Value × Value × Value × Value) × Heap) ⊕ (Exit × (Value × Value × Value × Value × Value × Value) × Heap))) (t : T) (h : Heap) : execG Try.prog cfg X rc md 134 (replS (sub (bodyOf Try.prog 25) [1, 1, 0, 0]) [([0, 1, 1, 1, 1, 1, 1, 1], 0), ([0, 1, 1, 1, 1, 1, 1], 1), ([0, 1, 1, 1, 1], 2)]) (rndK (fun t => (t 0, t 1, t 2, t 3, t 8, t 9))) t h = Jr25_0H rc md (X 2) t h := by kernel_rfl
theorem Jr25_0_h2 (rc : Rec) (md : Md) (t : T) (h : Heap) : Jr25_0H rc md (fun t h => J25_0b0 rc md (t 0) (t 1) (t 2) (t 3) (t 8) (t 9) (t 10) h) t h = Jr25_0 rc md (t 0) (t 1) (t 2) (t 3) (t 8) (t 9) h := by unfold Jr25_0H Jr25_0; kernel_rfl
theorem Jr25_0_at (rc : Rec) (md : Md) (t : T) (h : Heap) : exec Try.prog cfg rc md 134 (sub (bodyOf Try.prog 25) [1, 1, 0, 0]) (rndK (fun t => (t 0, t 1, t 2, t 3, t 8, t 9))) t h = Jr25_0 rc md (t 0) (t 1) (t 2) (t 3) (t 8) (t 9) h := by
  rw [exec_holes [([0, 1, 1, 1, 1, 1, 1, 1], 0), ([0, 1, 1, 1, 1, 1, 1], 1), ([0, 1, 1, 1, 1], 2)] (by kernel_rfl), Jr25_0_h1, show (goX Try.prog cfg rc md 134 (sub (bodyOf Try.prog 25) [1, 1, 0, 0]) [([0, 1, 1, 1, 1, 1, 1, 1], 0), ([0, 1, 1, 1, 1, 1, 1], 1), ([0, 1, 1, 1, 1], 2)] (rndK (fun t => (t 0, t 1, t 2, t 3, t 8, t 9)))) 2 = _ from J25_0b0_cut rc md]
  exact Jr25_0_h2 rc md t h
noncomputable def J25_0 (rc : Rec) (md : Md) (h0 : Heap) (s0 : Value) (s1 : Value) (s2 : Value) (s3 : Value) (s8 : Value) (s9 : Value) (h : Heap) : Option (Value × Heap) :=
  runL (fun x : (Value × Value × Value × Value × Value × Value) × Heap => Jr25_0 rc md x.1.1 x.1.2.1 x.1.2.2.1 x.1.2.2.2.1 x.1.2.2.2.2.1 x.1.2.2.2.2.2 x.2) (fun e (s : Value × Value × Value × Value × Value × Value) h => Jk25_0 rc md h0 e s.1 s.2.1 s.2.2.1 s.2.2.2.1 s.2.2.2.2.1 s.2.2.2.2.2 h) (s0, s1, s2, s3, s8, s9) h
theorem J25_0_step (rc : Rec) (md : Md) (h0 : Heap) (s0 : Value) (s1 : Value) (s2 : Value) (s3 : Value) (s8 : Value) (s9 : Value) (h : Heap) : J25_0 rc md h0 s0 s1 s2 s3 s8 s9 h = (Jr25_0 rc md s0 s1 s2 s3 s8 s9 h).bind fun x => match x with
    | .inl (s, h) => J25_0 rc md h0 s.1 s.2.1 s.2.2.1 s.2.2.2.1 s.2.2.2.2.1 s.2.2.2.2.2 h
    | .inr (e, s, h) => Jk25_0 rc md h0 e s.1 s.2.1 s.2.2.1 s.2.2.2.1 s.2.2.2.2.1 s.2.2.2.2.2 h := by
  unfold J25_0
  rw [runL_eq]
  refine congrArg (Option.bind _) (funext fun x => ?_)
  rcases x with ⟨s, h⟩ | ⟨e, s, h⟩ <;> rfl
theorem J25_0_cut (rc : Rec) (md : Md) (h0 : Heap) : cut Try.prog cfg rc md 134 (bodyOf Try.prog 25) [1, 1, 0] (retK Try.prog cfg 25 (rsOf Try.prog 25) h0) = fun t h => J25_0 rc md h0 (t 0) (t 1) (t 2) (t 3) (t 8) (t 9) h := by
  funext t h
  have e : sub (bodyOf Try.prog 25) [1, 1, 0] = .loop (sub (bodyOf Try.prog 25) [1, 1, 0, 0]) := by kernel_rfl
  unfold cut
  rw [e]
  exact loop_eq (by kernel_rfl) (fun t => (t 0, t 1, t 2, t 3, t 8, t 9)) (fun x : (Value × Value × Value × Value × Value × Value) × Heap => Jr25_0 rc md x.1.1 x.1.2.1 x.1.2.2.1 x.1.2.2.2.1 x.1.2.2.2.2.1 x.1.2.2.2.2.2 x.2) (fun t h => Jr25_0_at rc md t h) (fun e (s : Value × Value × Value × Value × Value × Value) h => Jk25_0 rc md h0 e s.1 s.2.1 s.2.2.1 s.2.2.2.1 s.2.2.2.2.1 s.2.2.2.2.2 h) (fun e t h => Jk25_0_at rc md h0 e t h) t h
noncomputable def F25 (rc : Rec) (md : Md) (a0 : Value) (a1 : Int) (a2 : Int) (a3 : Int) (h0 : Heap) : Option (Value × Heap) :=
  J25_0 rc md h0 a0 (.int .i64 a1) (.int .i64 a2) (.int .i64 a3) (.bool true) (.bool true) h0
noncomputable def F25H (rc : Rec) (md : Md) (X0 : T → Heap → Option (Value × Heap)) (a0 : Value) (a1 : Int) (a2 : Int) (a3 : Int) (h0 : Heap) : Option (Value × Heap) :=
  X0 (upd (upd (args0 [a0, (.int .i64 a1), (.int .i64 a2), (.int .i64 a3)]) 8 (.bool true)) 9 (.bool true)) h0
theorem F25_h0 (rc : Rec) (md : Md) (a0 : Value) (a1 : Int) (a2 : Int) (a3 : Int) (h0 : Heap) : callStep0 Try.prog cfg rc md 25 [a0, (.int .i64 a1), (.int .i64 a2), (.int .i64 a3)] h0 = exec Try.prog cfg rc ⟨md.ro, h0.length⟩ 134 (bodyOf Try.prog 25) (retK Try.prog cfg 25 (rsOf Try.prog 25) h0) (args0 [a0, (.int .i64 a1), (.int .i64 a2), (.int .i64 a3)]) h0 := callStep0_run (by kernel_rfl) (by kernel_rfl) (by kernel_rfl)
theorem F25_h1 (rc : Rec) (md : Md) (X : Nat → T → Heap → Option (Value × Heap)) (a0 : Value) (a1 : Int) (a2 : Int) (a3 : Int) (h0 : Heap) : execG Try.prog cfg X rc md 134 (replS (bodyOf Try.prog 25) [([1, 1, 0], 0)]) (retK Try.prog cfg 25 (rsOf Try.prog 25) h0) (args0 [a0, (.int .i64 a1), (.int .i64 a2), (.int .i64 a3)]) h0 = F25H rc md (X 0) a0 a1 a2 a3 h0 := by kernel_rfl
theorem F25_h2 (rc : Rec) (md : Md) (a0 : Value) (a1 : Int) (a2 : Int) (a3 : Int) (h0 : Heap) : F25H rc md (fun t h => J25_0 rc md h0 (t 0) (t 1) (t 2) (t 3) (t 8) (t 9) h) a0 a1 a2 a3 h0 = F25 rc md a0 a1 a2 a3 h0 := by unfold F25H F25; kernel_rfl
theorem F25_eq0 (rc : Rec) (md : Md) (a0 : Value) (a1 : Int) (a2 : Int) (a3 : Int) (h0 : Heap) : callStep0 Try.prog cfg rc md 25 [a0, (.int .i64 a1), (.int .i64 a2), (.int .i64 a3)] h0 = F25 rc ⟨md.ro, h0.length⟩ a0 a1 a2 a3 h0 := by
  rw [F25_h0, exec_holes [([1, 1, 0], 0)] (by kernel_rfl), F25_h1, show (goX Try.prog cfg rc ⟨md.ro, h0.length⟩ 134 (bodyOf Try.prog 25) [([1, 1, 0], 0)] (retK Try.prog cfg 25 (rsOf Try.prog 25) h0)) 0 = _ from J25_0_cut rc ⟨md.ro, h0.length⟩ h0]
  exact F25_h2 rc _ a0 a1 a2 a3 h0
theorem F25_eq (rc : Rec) (md : Md) (a0 : Value) (a1 : Int) (a2 : Int) (a3 : Int) (h0 : Heap) : callStep Try.prog cfg rc md 25 [a0, (.int .i64 a1), (.int .i64 a2), (.int .i64 a3)] h0 = F25 rc ⟨md.ro, h0.length⟩ a0 a1 a2 a3 h0 := (callStep_ne (by kernel_rfl)).trans (F25_eq0 rc md a0 a1 a2 a3 h0)

/-- math/bits.Len -/
noncomputable def F26 (rc : Rec) (md : Md) (a0 : Int) (h0 : Heap) : Option (Value × Heap) :=
  cl (rc md 37 [(.int .u64 a0)] h0) fun v1 h2 =>
  cIn .i64 v1 fun n3 =>
  some ((.int .i64 n3), h0)
theorem F26_eq0 (rc : Rec) (md : Md) (a0 : Int) (h0 : Heap) : callStep0 Try.prog cfg rc md 26 [(.int .u64 a0)] h0 = F26 rc ⟨h0.length, h0.length⟩ a0 h0 := by kernel_rfl
theorem F26_eq (rc : Rec) (md : Md) (a0 : Int) (h0 : Heap) : callStep Try.prog cfg rc md 26 [(.int .u64 a0)] h0 = alone h0 (F26 rc ⟨0, 0⟩ a0 []) := by
  have e : callStep Try.prog cfg rc md 26 [(.int .u64 a0)] h0 = alone h0 (callStep0 Try.prog cfg rc ⟨0, 0⟩ 26 [(.int .u64 a0)] []) := by kernel_rfl
  rw [e, F26_eq0]; rfl

/-- slices.insertionSortOrdered[int] -/
noncomputable def Jk27_0 (rc : Rec) (md : Md) (h0 : Heap) (e : Exit) (s0 : Value) (s1 : Value) (s2 : Value) (s6 : Value) (h : Heap) : Option (Value × Heap) :=
  match e with
  | .normal =>
    some ((.tuple #[]), List.take h0.length h)
  | .exit j =>
    bif Nat.beq j 0 then
      some ((.tuple #[]), List.take h0.length h)
    else
      none
  | .ret =>
    some ((.tuple #[]), List.take h0.length h)
  | .goto l => none
  | .panic ps => none
  | .outgrown => none
theorem Jk27_0_at (rc : Rec) (md : Md) (h0 : Heap) (e : Exit) (t : T) (h : Heap) : kAt Try.prog cfg rc md 49 (bodyOf Try.prog 27) [1, 0] (retK Try.prog cfg 27 (rsOf Try.prog 27) h0) e t h = Jk27_0 rc md h0 e (t 0) (t 1) (t 2) (t 6) h := by cases e <;> kernel_rfl
noncomputable def Jk27_0b0 (rc : Rec) (md : Md) (e : Exit) (s0 : Value) (s1 : Value) (s2 : Value) (s6 : Value) (s7 : Value) (h : Heap) : Option (((Value × Value × Value × Value) × Heap) ⊕ (Exit × (Value × Value × Value × Value) × Heap)) :=
  match e with
  | .normal =>
    aBin Try.prog .add 3 s6 (.int .i64 1) fun v1 =>
    some (.inl ((s0, s1, s2, v1), h))
  | .exit j =>
    bif Nat.beq j 2 then
      aBin Try.prog .add 3 s6 (.int .i64 1) fun v2 =>
      some (.inl ((s0, s1, s2, v2), h))
    else
      bif Nat.beq j 1 then
        aBin Try.prog .add 3 s6 (.int .i64 1) fun v3 =>
        some (.inl ((s0, s1, s2, v3), h))
      else
        some (.inr ((.exit j), (s0, s1, s2, s6), h))
  | .ret =>
    some (.inr (.ret, (s0, s1, s2, s6), h))
  | .goto l => some (.inr ((.goto l), (s0, s1, s2, s6), h))
  | .panic ps => some (.inr ((.panic ps), (s0, s1, s2, s6), h))
  | .outgrown => some (.inr (.outgrown, (s0, s1, s2, s6), h))
theorem Jk27_0b0_at (rc : Rec) (md : Md) (e : Exit) (t : T) (h : Heap) : kAt Try.prog cfg rc md 49 (sub (bodyOf Try.prog 27) [1, 0, 0]) [1, 0, 0, 1, 0] (rndK (fun t => (t 0, t 1, t 2, t 6))) e t h = Jk27_0b0 rc md e (t 0) (t 1) (t 2) (t 6) (t 7) h := by cases e <;> kernel_rfl
/-- a round -/
noncomputable def Jr27_0b0 (rc : Rec) (md : Md) (s0 : Value) (s1 : Value) (s2 : Value) (s6 : Value) (s7 : Value) (h : Heap) : Option (((Value × Value × Value × Value × Value) × Heap) ⊕ (Exit × (Value × Value × Value × Value × Value) × Heap)) :=
  aBin Try.prog .gtr 3 s7 s1 fun v1 =>
  (bif wantV v1 true then
  some (s0, h)
  else some (undef, h)).bind fun p2 =>
  (bif wantV v1 true then
  some (s7, p2.2)
  else some (undef, p2.2)).bind fun p3 =>
  (bif wantV v1 true then
  ixSV 1 p2.1 p3.1 fun v4 =>
  some (v4, p3.2)
  else some (undef, p3.2)).bind fun p5 =>
  (bif wantV v1 true then
  ld1 p5.1 p5.2 fun v6 =>
  cIn .i64 v6 fun n7 =>
  some ((.int .i64 n7), p5.2)
  else some (undef, p5.2)).bind fun p8 =>
  (bif wantV v1 true then
  some (s0, p8.2)
  else some (undef, p8.2)).bind fun p9 =>
  (bif wantV v1 true then
  some (s7, p9.2)
  else some (undef, p9.2)).bind fun p10 =>
  (bif wantV v1 true then
  aBin Try.prog .sub 3 p10.1 (.int .i64 1) fun v11 =>
  some (v11, p10.2)
  else some (undef, p10.2)).bind fun p12 =>
  (bif wantV v1 true then
  ixSV 1 p9.1 p12.1 fun v13 =>
  some (v13, p12.2)
  else some (undef, p12.2)).bind fun p14 =>
  (bif wantV v1 true then
  ld1 p14.1 p14.2 fun v15 =>
  cIn .i64 v15 fun n16 =>
  some ((.int .i64 n16), p14.2)
  else some (undef, p14.2)).bind fun p17 =>
  (bif wantV v1 true then
  cl (rc md 33 [p8.1, p17.1] p17.2) fun v18 h19 =>
  cBn v18 fun b20 =>
  some ((.bool b20), h19)
  else some (undef, p17.2)).bind fun p21 =>
  cBn v1 fun q22 =>
  cBn (bif q22 then p21.1 else (.bool false)) fun b23 =>
  bif b23 then
    aBin Try.prog .sub 3 s7 (.int .i64 1) fun v24 =>
    aBin Try.prog .sub 3 s7 (.int .i64 1) fun v25 =>
    ixSV 1 s0 v25 fun v26 =>
    ld1 v26 p21.2 fun v27 =>
    cIn .i64 v27 fun n28 =>
    ixSV 1 s0 s7 fun v29 =>
    ld1 v29 p21.2 fun v30 =>
    cIn .i64 v30 fun n31 =>
    ixSV 1 s0 s7 fun v32 =>
    st md 1 v32 (.int .i64 n28) p21.2 fun h33 =>
    ixSV 1 s0 v24 fun v34 =>
    st md 1 v34 (.int .i64 n31) h33 fun h35 =>
    aBin Try.prog .sub 3 s7 (.int .i64 1) fun v36 =>
    some (.inl ((s0, s1, s2, s6, v36), h35))
  else
    some (.inr ((.exit 2), (s0, s1, s2, s6, s7), p21.2))
theorem Jr27_0b0_at (rc : Rec) (md : Md) (t : T) (h : Heap) : exec Try.prog cfg rc md 49 (sub (bodyOf Try.prog 27) [1, 0, 0, 1, 0, 0, 1, 0, 0]) (rndK (fun t => (t 0, t 1, t 2, t 6, t 7))) t h = Jr27_0b0 rc md (t 0) (t 1) (t 2) (t 6) (t 7) h := by kernel_rfl
noncomputable def J27_0b0 (rc : Rec) (md : Md) (s0 : Value) (s1 : Value) (s2 : Value) (s6 : Value) (s7 : Value) (h : Heap) : Option (((Value × Value × Value × Value) × Heap) ⊕ (Exit × (Value × Value × Value × Value) × Heap)) :=
  runL (fun x : (Value × Value × Value × Value × Value) × Heap => Jr27_0b0 rc md x.1.1 x.1.2.1 x.1.2.2.1 x.1.2.2.2.1 x.1.2.2.2.2 x.2) (fun e (s : Value × Value × Value × Value × Value) h => Jk27_0b0 rc md e s.1 s.2.1 s.2.2.1 s.2.2.2.1 s.2.2.2.2 h) (s0, s1, s2, s6, s7) h
theorem J27_0b0_step (rc : Rec) (md : Md) (s0 : Value) (s1 : Value) (s2 : Value) (s6 : Value) (s7 : Value) (h : Heap) : J27_0b0 rc md s0 s1 s2 s6 s7 h = (Jr27_0b0 rc md s0 s1 s2 s6 s7 h).bind fun x => match x with
    | .inl (s, h) => J27_0b0 rc md s.1 s.2.1 s.2.2.1 s.2.2.2.1 s.2.2.2.2 h
    | .inr (e, s, h) => Jk27_0b0 rc md e s.1 s.2.1 s.2.2.1 s.2.2.2.1 s.2.2.2.2 h := by
  unfold J27_0b0
  rw [runL_eq]
  refine congrArg (Option.bind _) (funext fun x => ?_)
  rcases x with ⟨s, h⟩ | ⟨e, s, h⟩ <;> rfl
theorem J27_0b0_cut (rc : Rec) (md : Md) : cut Try.prog cfg rc md 49 (sub (bodyOf Try.prog 27) [1, 0, 0]) [1, 0, 0, 1, 0] (rndK (fun t => (t 0, t 1, t 2, t 6))) = fun t h => J27_0b0 rc md (t 0) (t 1) (t 2) (t 6) (t 7) h := by
  funext t h
  have e : sub (sub (bodyOf Try.prog 27) [1, 0, 0]) [1, 0, 0, 1, 0] = .loop (sub (bodyOf Try.prog 27) [1, 0, 0, 1, 0, 0, 1, 0, 0]) := by kernel_rfl
  unfold cut
  rw [e]
  exact loop_eq (by kernel_rfl) (fun t => (t 0, t 1, t 2, t 6, t 7)) (fun x : (Value × Value × Value × Value × Value) × Heap => Jr27_0b0 rc md x.1.1 x.1.2.1 x.1.2.2.1 x.1.2.2.2.1 x.1.2.2.2.2 x.2) (fun t h => Jr27_0b0_at rc md t h) (fun e (s : Value × Value × Value × Value × Value) h => Jk27_0b0 rc md e s.1 s.2.1 s.2.2.1 s.2.2.2.1 s.2.2.2.2 h) (fun e t h => Jk27_0b0_at rc md e t h) t h
/-- a round -/
noncomputable def Jr27_0 (rc : Rec) (md : Md) (s0 : Value) (s1 : Value) (s2 : Value) (s6 : Value) (h : Heap) : Option (((Value × Value × Value × Value) × Heap) ⊕ (Exit × (Value × Value × Value × Value) × Heap)) :=
  aBin Try.prog .lss 3 s6 s2 fun v1 =>
  cBn v1 fun b2 =>
  bif b2 then
    J27_0b0 rc md s0 s1 s2 s6 s6 h
  else
    some (.inr ((.exit 0), (s0, s1, s2, s6), h))
noncomputable def Jr27_0H (rc : Rec) (md : Md) (X0 : T → Heap → Option (((Value × Value × Value × Value) × Heap) ⊕ (Exit × (Value × Value × Value × Value) × Heap))) (t : T) (h : Heap) : Option (((Value × Value × Value × Value) × Heap) ⊕ (Exit × (Value × Value × Value × Value) × Heap)) :=
  aBin Try.prog .lss 3 (t 6) (t 2) fun v1 =>
  cBn v1 fun b2 =>
  bif b2 then
    X0 (upd (upd (upd (upd (upd t 10 (t 6)) 11 (t 2)) 12 v1) 15 (t 6)) 7 (t 6)) h
  else
    some (.inr ((.exit 0), ((t 0), (t 1), (t 2), (t 6)), h))
theorem Jr27_0_h1 (rc : Rec) (md : Md) (X : Nat → T → Heap → Option (((Value × Value × Value × Value) × Heap) ⊕ (Exit × (Value × Value × Value × Value) × Heap))) (t : T) (h : Heap) : execG Try.prog cfg X rc md 49 (replS (sub (bodyOf Try.prog 27) [1, 0, 0]) [([1, 0, 0, 1, 0], 0)]) (rndK (fun t => (t 0, t 1, t 2, t 6))) t h = Jr27_0H rc md (X 0) t h := by kernel_rfl
theorem Jr27_0_h2 (rc : Rec) (md : Md) (t : T) (h : Heap) : Jr27_0H rc md (fun t h => J27_0b0 rc md (t 0) (t 1) (t 2) (t 6) (t 7) h) t h = Jr27_0 rc md (t 0) (t 1) (t 2) (t 6) h := by unfold Jr27_0H Jr27_0; kernel_rfl
theorem Jr27_0_at (rc : Rec) (md : Md) (t : T) (h : Heap) : exec Try.prog cfg rc md 49 (sub (bodyOf Try.prog 27) [1, 0, 0]) (rndK (fun t => (t 0, t 1, t 2, t 6))) t h = Jr27_0 rc md (t 0) (t 1) (t 2) (t 6) h := by
  rw [exec_holes [([1, 0, 0, 1, 0], 0)] (by kernel_rfl), Jr27_0_h1, show (goX Try.prog cfg rc md 49 (sub (bodyOf Try.prog 27) [1, 0, 0]) [([1, 0, 0, 1, 0], 0)] (rndK (fun t => (t 0, t 1, t 2, t 6)))) 0 = _ from J27_0b0_cut rc md]
  exact Jr27_0_h2 rc md t h
noncomputable def J27_0 (rc : Rec) (md : Md) (h0 : Heap) (s0 : Value) (s1 : Value) (s2 : Value) (s6 : Value) (h : Heap) : Option (Value × Heap) :=
  runL (fun x : (Value × Value × Value × Value) × Heap => Jr27_0 rc md x.1.1 x.1.2.1 x.1.2.2.1 x.1.2.2.2 x.2) (fun e (s : Value × Value × Value × Value) h => Jk27_0 rc md h0 e s.1 s.2.1 s.2.2.1 s.2.2.2 h) (s0, s1, s2, s6) h
theorem J27_0_step (rc : Rec) (md : Md) (h0 : Heap) (s0 : Value) (s1 : Value) (s2 : Value) (s6 : Value) (h : Heap) : J27_0 rc md h0 s0 s1 s2 s6 h = (Jr27_0 rc md s0 s1 s2 s6 h).bind fun x => match x with
    | .inl (s, h) => J27_0 rc md h0 s.1 s.2.1 s.2.2.1 s.2.2.2 h
    | .inr (e, s, h) => Jk27_0 rc md h0 e s.1 s.2.1 s.2.2.1 s.2.2.2 h := by
  unfold J27_0
  rw [runL_eq]
  refine congrArg (Option.bind _) (funext fun x => ?_)
  rcases x with ⟨s, h⟩ | ⟨e, s, h⟩ <;> rfl
theorem J27_0_cut (rc : Rec) (md : Md) (h0 : Heap) : cut Try.prog cfg rc md 49 (bodyOf Try.prog 27) [1, 0] (retK Try.prog cfg 27 (rsOf Try.prog 27) h0) = fun t h => J27_0 rc md h0 (t 0) (t 1) (t 2) (t 6) h := by
  funext t h
  have e : sub (bodyOf Try.prog 27) [1, 0] = .loop (sub (bodyOf Try.prog 27) [1, 0, 0]) := by kernel_rfl
  unfold cut
  rw [e]
  exact loop_eq (by kernel_rfl) (fun t => (t 0, t 1, t 2, t 6)) (fun x : (Value × Value × Value × Value) × Heap => Jr27_0 rc md x.1.1 x.1.2.1 x.1.2.2.1 x.1.2.2.2 x.2) (fun t h => Jr27_0_at rc md t h) (fun e (s : Value × Value × Value × Value) h => Jk27_0 rc md h0 e s.1 s.2.1 s.2.2.1 s.2.2.2 h) (fun e t h => Jk27_0_at rc md h0 e t h) t h
noncomputable def F27 (rc : Rec) (md : Md) (a0 : Value) (a1 : Int) (a2 : Int) (h0 : Heap) : Option (Value × Heap) :=
  J27_0 rc md h0 a0 (.int .i64 a1) (.int .i64 a2) (.int .i64 (IntKind.wrap .i64 (a1 + 1))) h0
noncomputable def F27H (rc : Rec) (md : Md) (X0 : T → Heap → Option (Value × Heap)) (a0 : Value) (a1 : Int) (a2 : Int) (h0 : Heap) : Option (Value × Heap) :=
  X0 (upd (upd (upd (args0 [a0, (.int .i64 a1), (.int .i64 a2)]) 8 (.int .i64 a1)) 9 (.int .i64 (IntKind.wrap .i64 (a1 + 1)))) 6 (.int .i64 (IntKind.wrap .i64 (a1 + 1)))) h0
theorem F27_h0 (rc : Rec) (md : Md) (a0 : Value) (a1 : Int) (a2 : Int) (h0 : Heap) : callStep0 Try.prog cfg rc md 27 [a0, (.int .i64 a1), (.int .i64 a2)] h0 = exec Try.prog cfg rc ⟨md.ro, h0.length⟩ 49 (bodyOf Try.prog 27) (retK Try.prog cfg 27 (rsOf Try.prog 27) h0) (args0 [a0, (.int .i64 a1), (.int .i64 a2)]) h0 := callStep0_run (by kernel_rfl) (by kernel_rfl) (by kernel_rfl)
theorem F27_h1 (rc : Rec) (md : Md) (X : Nat → T → Heap → Option (Value × Heap)) (a0 : Value) (a1 : Int) (a2 : Int) (h0 : Heap) : execG Try.prog cfg X rc md 49 (replS (bodyOf Try.prog 27) [([1, 0], 0)]) (retK Try.prog cfg 27 (rsOf Try.prog 27) h0) (args0 [a0, (.int .i64 a1), (.int .i64 a2)]) h0 = F27H rc md (X 0) a0 a1 a2 h0 := by kernel_rfl
theorem F27_h2 (rc : Rec) (md : Md) (a0 : Value) (a1 : Int) (a2 : Int) (h0 : Heap) : F27H rc md (fun t h => J27_0 rc md h0 (t 0) (t 1) (t 2) (t 6) h) a0 a1 a2 h0 = F27 rc md a0 a1 a2 h0 := by unfold F27H F27; kernel_rfl
theorem F27_eq0 (rc : Rec) (md : Md) (a0 : Value) (a1 : Int) (a2 : Int) (h0 : Heap) : callStep0 Try.prog cfg rc md 27 [a0, (.int .i64 a1), (.int .i64 a2)] h0 = F27 rc ⟨md.ro, h0.length⟩ a0 a1 a2 h0 := by
  rw [F27_h0, exec_holes [([1, 0], 0)] (by kernel_rfl), F27_h1, show (goX Try.prog cfg rc ⟨md.ro, h0.length⟩ 49 (bodyOf Try.prog 27) [([1, 0], 0)] (retK Try.prog cfg 27 (rsOf Try.prog 27) h0)) 0 = _ from J27_0_cut rc ⟨md.ro, h0.length⟩ h0]
  exact F27_h2 rc _ a0 a1 a2 h0
theorem F27_eq (rc : Rec) (md : Md) (a0 : Value) (a1 : Int) (a2 : Int) (h0 : Heap) : callStep Try.prog cfg rc md 27 [a0, (.int .i64 a1), (.int .i64 a2)] h0 = F27 rc ⟨md.ro, h0.length⟩ a0 a1 a2 h0 := (callStep_ne (by kernel_rfl)).trans (F27_eq0 rc md a0 a1 a2 h0)

/-- slices.heapSortOrdered[int] -/
noncomputable def Jk28_2 (rc : Rec) (md : Md) (h0 : Heap) (e : Exit) (s0 : Value) (s6 : Value) (s7 : Value) (s10 : Value) (h : Heap) : Option (Value × Heap) :=
  match e with
  | .normal =>
    some ((.tuple #[]), List.take h0.length h)
  | .exit j =>
    bif Nat.beq j 2 then
      some ((.tuple #[]), List.take h0.length h)
    else
      none
  | .ret =>
    some ((.tuple #[]), List.take h0.length h)
  | .goto l => none
  | .panic ps => none
  | .outgrown => none
theorem Jk28_2_at (rc : Rec) (md : Md) (h0 : Heap) (e : Exit) (t : T) (h : Heap) : kAt Try.prog cfg rc md 56 (bodyOf Try.prog 28) [1, 1, 1, 1, 1, 0] (retK Try.prog cfg 28 (rsOf Try.prog 28) h0) e t h = Jk28_2 rc md h0 e (t 0) (t 6) (t 7) (t 10) h := by cases e <;> kernel_rfl
/-- a round -/
noncomputable def Jr28_2 (rc : Rec) (md : Md) (s0 : Value) (s6 : Value) (s7 : Value) (s10 : Value) (h : Heap) : Option (((Value × Value × Value × Value) × Heap) ⊕ (Exit × (Value × Value × Value × Value) × Heap)) :=
  aBin Try.prog .geq 3 s10 (.int .i64 0) fun v1 =>
  cBn v1 fun b2 =>
  bif b2 then
    aBin Try.prog .add 3 s6 s10 fun v3 =>
    aBin Try.prog .add 3 s6 s10 fun v4 =>
    ixSV 1 s0 v4 fun v5 =>
    ld1 v5 h fun v6 =>
    cIn .i64 v6 fun n7 =>
    ixSV 1 s0 s6 fun v8 =>
    ld1 v8 h fun v9 =>
    cIn .i64 v9 fun n10 =>
    ixSV 1 s0 s6 fun v11 =>
    st md 1 v11 (.int .i64 n7) h fun h12 =>
    ixSV 1 s0 v3 fun v13 =>
    st md 1 v13 (.int .i64 n10) h12 fun h14 =>
    cl (rc md 38 [s0, s7, s10, s6] h14) fun v15 h16 =>
    aBin Try.prog .sub 3 s10 (.int .i64 1) fun v17 =>
    some (.inl ((s0, s6, s7, v17), h16))
  else
    some (.inr ((.exit 2), (s0, s6, s7, s10), h))
theorem Jr28_2_at (rc : Rec) (md : Md) (t : T) (h : Heap) : exec Try.prog cfg rc md 56 (sub (bodyOf Try.prog 28) [1, 1, 1, 1, 1, 0, 0]) (rndK (fun t => (t 0, t 6, t 7, t 10))) t h = Jr28_2 rc md (t 0) (t 6) (t 7) (t 10) h := by kernel_rfl
noncomputable def J28_2 (rc : Rec) (md : Md) (h0 : Heap) (s0 : Value) (s6 : Value) (s7 : Value) (s10 : Value) (h : Heap) : Option (Value × Heap) :=
  runL (fun x : (Value × Value × Value × Value) × Heap => Jr28_2 rc md x.1.1 x.1.2.1 x.1.2.2.1 x.1.2.2.2 x.2) (fun e (s : Value × Value × Value × Value) h => Jk28_2 rc md h0 e s.1 s.2.1 s.2.2.1 s.2.2.2 h) (s0, s6, s7, s10) h
theorem J28_2_step (rc : Rec) (md : Md) (h0 : Heap) (s0 : Value) (s6 : Value) (s7 : Value) (s10 : Value) (h : Heap) : J28_2 rc md h0 s0 s6 s7 s10 h = (Jr28_2 rc md s0 s6 s7 s10 h).bind fun x => match x with
    | .inl (s, h) => J28_2 rc md h0 s.1 s.2.1 s.2.2.1 s.2.2.2 h
    | .inr (e, s, h) => Jk28_2 rc md h0 e s.1 s.2.1 s.2.2.1 s.2.2.2 h := by
  unfold J28_2
  rw [runL_eq]
  refine congrArg (Option.bind _) (funext fun x => ?_)
  rcases x with ⟨s, h⟩ | ⟨e, s, h⟩ <;> rfl
theorem J28_2_cut (rc : Rec) (md : Md) (h0 : Heap) : cut Try.prog cfg rc md 56 (bodyOf Try.prog 28) [1, 1, 1, 1, 1, 0] (retK Try.prog cfg 28 (rsOf Try.prog 28) h0) = fun t h => J28_2 rc md h0 (t 0) (t 6) (t 7) (t 10) h := by
  funext t h
  have e : sub (bodyOf Try.prog 28) [1, 1, 1, 1, 1, 0] = .loop (sub (bodyOf Try.prog 28) [1, 1, 1, 1, 1, 0, 0]) := by kernel_rfl
  unfold cut
  rw [e]
  exact loop_eq (by kernel_rfl) (fun t => (t 0, t 6, t 7, t 10)) (fun x : (Value × Value × Value × Value) × Heap => Jr28_2 rc md x.1.1 x.1.2.1 x.1.2.2.1 x.1.2.2.2 x.2) (fun t h => Jr28_2_at rc md t h) (fun e (s : Value × Value × Value × Value) h => Jk28_2 rc md h0 e s.1 s.2.1 s.2.2.1 s.2.2.2 h) (fun e t h => Jk28_2_at rc md h0 e t h) t h
noncomputable def J28_1 (rc : Rec) (md : Md) (h0 : Heap) (s0 : Value) (s6 : Value) (s7 : Value) (s8 : Value) (h : Heap) : Option (Value × Heap) :=
  aBin Try.prog .sub 3 s8 (.int .i64 1) fun v1 =>
  J28_2 rc md h0 s0 s6 s7 v1 h
noncomputable def J28_1H (rc : Rec) (md : Md) (h0 : Heap) (X1 : T → Heap → Option (Value × Heap)) (t : T) (h : Heap) : Option (Value × Heap) :=
  aBin Try.prog .sub 3 (t 8) (.int .i64 1) fun v1 =>
  X1 (upd (upd (upd t 27 (t 8)) 28 v1) 10 v1) h
theorem J28_1_h1 (rc : Rec) (md : Md) (h0 : Heap) (X : Nat → T → Heap → Option (Value × Heap)) (t : T) (h : Heap) : execG Try.prog cfg X rc md 56 (sub (replS (bodyOf Try.prog 28) [([1, 1, 1, 0, 1, 0], 0), ([1, 1, 1, 1, 1, 0], 1)]) [1, 1, 1, 1]) (kAtG Try.prog cfg X rc md 56 (replS (bodyOf Try.prog 28) [([1, 1, 1, 0, 1, 0], 0), ([1, 1, 1, 1, 1, 0], 1)]) [1, 1, 1, 1] (retK Try.prog cfg 28 (rsOf Try.prog 28) h0)) t h = J28_1H rc md h0 (X 1) t h := by kernel_rfl
theorem J28_1_h2 (rc : Rec) (md : Md) (h0 : Heap) (t : T) (h : Heap) : J28_1H rc md h0 (fun t h => J28_2 rc md h0 (t 0) (t 6) (t 7) (t 10) h) t h = J28_1 rc md h0 (t 0) (t 6) (t 7) (t 8) h := by (unfold J28_1H J28_1; kernel_rfl)
theorem J28_1_at (rc : Rec) (md : Md) (h0 : Heap) (t : T) (h : Heap) : cut Try.prog cfg rc md 56 (bodyOf Try.prog 28) [1, 1, 1, 1] (retK Try.prog cfg 28 (rsOf Try.prog 28) h0) t h = J28_1 rc md h0 (t 0) (t 6) (t 7) (t 8) h := by
  rw [cut_holes [([1, 1, 1, 0, 1, 0], 0), ([1, 1, 1, 1, 1, 0], 1)] [1, 1, 1, 1] (by kernel_rfl), J28_1_h1, show (goX Try.prog cfg rc md 56 (bodyOf Try.prog 28) [([1, 1, 1, 0, 1, 0], 0), ([1, 1, 1, 1, 1, 0], 1)] (retK Try.prog cfg 28 (rsOf Try.prog 28) h0)) 1 = _ from J28_2_cut rc md h0]
  exact J28_1_h2 rc md h0 t h
theorem J28_1_cut (rc : Rec) (md : Md) (h0 : Heap) : cut Try.prog cfg rc md 56 (bodyOf Try.prog 28) [1, 1, 1, 1] (retK Try.prog cfg 28 (rsOf Try.prog 28) h0) = fun t h => J28_1 rc md h0 (t 0) (t 6) (t 7) (t 8) h := funext fun t => funext fun h => J28_1_at rc md h0 t h
noncomputable def Jk28_0 (rc : Rec) (md : Md) (h0 : Heap) (e : Exit) (s0 : Value) (s6 : Value) (s7 : Value) (s8 : Value) (s9 : Value) (h : Heap) : Option (Value × Heap) :=
  match e with
  | .normal =>
    J28_1 rc md h0 s0 s6 s7 s8 h
  | .exit j =>
    bif Nat.beq j 0 then
      J28_1 rc md h0 s0 s6 s7 s8 h
    else
      none
  | .ret =>
    some ((.tuple #[]), List.take h0.length h)
  | .goto l => none
  | .panic ps => none
  | .outgrown => none
noncomputable def Jk28_0H (rc : Rec) (md : Md) (h0 : Heap) (X2 : T → Heap → Option (Value × Heap)) (e : Exit) (t : T) (h : Heap) : Option (Value × Heap) :=
  match e with
  | .normal =>
    X2 t h
  | .exit j =>
    bif Nat.beq j 0 then
      X2 t h
    else
      none
  | .ret =>
    some ((.tuple #[]), List.take h0.length h)
  | .goto l => none
  | .panic ps => none
  | .outgrown => none
theorem Jk28_0_h1 (rc : Rec) (md : Md) (h0 : Heap) (X : Nat → T → Heap → Option (Value × Heap)) (e : Exit) (t : T) (h : Heap) : kAtG Try.prog cfg X rc md 56 (replS (bodyOf Try.prog 28) [([1, 1, 1, 1, 1, 0], 1), ([1, 1, 1, 1], 2)]) [1, 1, 1, 0, 1, 0] (retK Try.prog cfg 28 (rsOf Try.prog 28) h0) e t h = Jk28_0H rc md h0 (X 2) e t h := by cases e <;> kernel_rfl
theorem Jk28_0_h2 (rc : Rec) (md : Md) (h0 : Heap) (e : Exit) (t : T) (h : Heap) : Jk28_0H rc md h0 (fun t h => J28_1 rc md h0 (t 0) (t 6) (t 7) (t 8) h) e t h = Jk28_0 rc md h0 e (t 0) (t 6) (t 7) (t 8) (t 9) h := by cases e <;> (unfold Jk28_0H Jk28_0; kernel_rfl)
theorem Jk28_0_at (rc : Rec) (md : Md) (h0 : Heap) (e : Exit) (t : T) (h : Heap) : kAt Try.prog cfg rc md 56 (bodyOf Try.prog 28) [1, 1, 1, 0, 1, 0] (retK Try.prog cfg 28 (rsOf Try.prog 28) h0) e t h = Jk28_0 rc md h0 e (t 0) (t 6) (t 7) (t 8) (t 9) h := by
  rw [kAt_holes [([1, 1, 1, 1, 1, 0], 1), ([1, 1, 1, 1], 2)] [1, 1, 1, 0, 1, 0] (by kernel_rfl), Jk28_0_h1, show (goX Try.prog cfg rc md 56 (bodyOf Try.prog 28) [([1, 1, 1, 1, 1, 0], 1), ([1, 1, 1, 1], 2)] (retK Try.prog cfg 28 (rsOf Try.prog 28) h0)) 2 = _ from J28_1_cut rc md h0]
  exact Jk28_0_h2 rc md h0 e t h
/-- a round -/
noncomputable def Jr28_0 (rc : Rec) (md : Md) (s0 : Value) (s6 : Value) (s7 : Value) (s8 : Value) (s9 : Value) (h : Heap) : Option (((Value × Value × Value × Value × Value) × Heap) ⊕ (Exit × (Value × Value × Value × Value × Value) × Heap)) :=
  aBin Try.prog .geq 3 s9 (.int .i64 0) fun v1 =>
  cBn v1 fun b2 =>
  bif b2 then
    cl (rc md 38 [s0, s9, s8, s6] h) fun v3 h4 =>
    aBin Try.prog .sub 3 s9 (.int .i64 1) fun v5 =>
    some (.inl ((s0, s6, s7, s8, v5), h4))
  else
    some (.inr ((.exit 0), (s0, s6, s7, s8, s9), h))
theorem Jr28_0_at (rc : Rec) (md : Md) (t : T) (h : Heap) : exec Try.prog cfg rc md 56 (sub (bodyOf Try.prog 28) [1, 1, 1, 0, 1, 0, 0]) (rndK (fun t => (t 0, t 6, t 7, t 8, t 9))) t h = Jr28_0 rc md (t 0) (t 6) (t 7) (t 8) (t 9) h := by kernel_rfl
noncomputable def J28_0 (rc : Rec) (md : Md) (h0 : Heap) (s0 : Value) (s6 : Value) (s7 : Value) (s8 : Value) (s9 : Value) (h : Heap) : Option (Value × Heap) :=
  runL (fun x : (Value × Value × Value × Value × Value) × Heap => Jr28_0 rc md x.1.1 x.1.2.1 x.1.2.2.1 x.1.2.2.2.1 x.1.2.2.2.2 x.2) (fun e (s : Value × Value × Value × Value × Value) h => Jk28_0 rc md h0 e s.1 s.2.1 s.2.2.1 s.2.2.2.1 s.2.2.2.2 h) (s0, s6, s7, s8, s9) h
theorem J28_0_step (rc : Rec) (md : Md) (h0 : Heap) (s0 : Value) (s6 : Value) (s7 : Value) (s8 : Value) (s9 : Value) (h : Heap) : J28_0 rc md h0 s0 s6 s7 s8 s9 h = (Jr28_0 rc md s0 s6 s7 s8 s9 h).bind fun x => match x with
    | .inl (s, h) => J28_0 rc md h0 s.1 s.2.1 s.2.2.1 s.2.2.2.1 s.2.2.2.2 h
    | .inr (e, s, h) => Jk28_0 rc md h0 e s.1 s.2.1 s.2.2.1 s.2.2.2.1 s.2.2.2.2 h := by
  unfold J28_0
  rw [runL_eq]
  refine congrArg (Option.bind _) (funext fun x => ?_)
  rcases x with ⟨s, h⟩ | ⟨e, s, h⟩ <;> rfl
theorem J28_0_cut (rc : Rec) (md : Md) (h0 : Heap) : cut Try.prog cfg rc md 56 (bodyOf Try.prog 28) [1, 1, 1, 0, 1, 0] (retK Try.prog cfg 28 (rsOf Try.prog 28) h0) = fun t h => J28_0 rc md h0 (t 0) (t 6) (t 7) (t 8) (t 9) h := by
  funext t h
  have e : sub (bodyOf Try.prog 28) [1, 1, 1, 0, 1, 0] = .loop (sub (bodyOf Try.prog 28) [1, 1, 1, 0, 1, 0, 0]) := by kernel_rfl
  unfold cut
  rw [e]
  exact loop_eq (by kernel_rfl) (fun t => (t 0, t 6, t 7, t 8, t 9)) (fun x : (Value × Value × Value × Value × Value) × Heap => Jr28_0 rc md x.1.1 x.1.2.1 x.1.2.2.1 x.1.2.2.2.1 x.1.2.2.2.2 x.2) (fun t h => Jr28_0_at rc md t h) (fun e (s : Value × Value × Value × Value × Value) h => Jk28_0 rc md h0 e s.1 s.2.1 s.2.2.1 s.2.2.2.1 s.2.2.2.2 h) (fun e t h => Jk28_0_at rc md h0 e t h) t h
noncomputable def F28 (rc : Rec) (md : Md) (a0 : Value) (a1 : Int) (a2 : Int) (h0 : Heap) : Option (Value × Heap) :=
  J28_0 rc md h0 a0 (.int .i64 a1) (.int .i64 0) (.int .i64 (IntKind.wrap .i64 (a2 - a1))) (.int .i64 (IntKind.wrap .i64 (Int.tdiv (IntKind.wrap .i64 ((IntKind.wrap .i64 (a2 - a1)) - 1)) 2))) h0
noncomputable def F28H (rc : Rec) (md : Md) (X0 : T → Heap → Option (Value × Heap)) (a0 : Value) (a1 : Int) (a2 : Int) (h0 : Heap) : Option (Value × Heap) :=
  X0 (upd (upd (upd (upd (upd (upd (upd (upd (upd (upd (upd (args0 [a0, (.int .i64 a1), (.int .i64 a2)]) 11 (.int .i64 a1)) 6 (.int .i64 a1)) 7 (.int .i64 0)) 12 (.int .i64 a2)) 13 (.int .i64 a1)) 14 (.int .i64 (IntKind.wrap .i64 (a2 - a1)))) 8 (.int .i64 (IntKind.wrap .i64 (a2 - a1)))) 15 (.int .i64 (IntKind.wrap .i64 (a2 - a1)))) 16 (.int .i64 (IntKind.wrap .i64 ((IntKind.wrap .i64 (a2 - a1)) - 1)))) 17 (.int .i64 (IntKind.wrap .i64 (Int.tdiv (IntKind.wrap .i64 ((IntKind.wrap .i64 (a2 - a1)) - 1)) 2)))) 9 (.int .i64 (IntKind.wrap .i64 (Int.tdiv (IntKind.wrap .i64 ((IntKind.wrap .i64 (a2 - a1)) - 1)) 2)))) h0
theorem F28_h0 (rc : Rec) (md : Md) (a0 : Value) (a1 : Int) (a2 : Int) (h0 : Heap) : callStep0 Try.prog cfg rc md 28 [a0, (.int .i64 a1), (.int .i64 a2)] h0 = exec Try.prog cfg rc ⟨md.ro, h0.length⟩ 56 (bodyOf Try.prog 28) (retK Try.prog cfg 28 (rsOf Try.prog 28) h0) (args0 [a0, (.int .i64 a1), (.int .i64 a2)]) h0 := callStep0_run (by kernel_rfl) (by kernel_rfl) (by kernel_rfl)
theorem F28_h1 (rc : Rec) (md : Md) (X : Nat → T → Heap → Option (Value × Heap)) (a0 : Value) (a1 : Int) (a2 : Int) (h0 : Heap) : execG Try.prog cfg X rc md 56 (replS (bodyOf Try.prog 28) [([1, 1, 1, 0, 1, 0], 0), ([1, 1, 1, 1, 1, 0], 1), ([1, 1, 1, 1], 2)]) (retK Try.prog cfg 28 (rsOf Try.prog 28) h0) (args0 [a0, (.int .i64 a1), (.int .i64 a2)]) h0 = F28H rc md (X 0) a0 a1 a2 h0 := by kernel_rfl
theorem F28_h2 (rc : Rec) (md : Md) (a0 : Value) (a1 : Int) (a2 : Int) (h0 : Heap) : F28H rc md (fun t h => J28_0 rc md h0 (t 0) (t 6) (t 7) (t 8) (t 9) h) a0 a1 a2 h0 = F28 rc md a0 a1 a2 h0 := by unfold F28H F28; kernel_rfl
theorem F28_eq0 (rc : Rec) (md : Md) (a0 : Value) (a1 : Int) (a2 : Int) (h0 : Heap) : callStep0 Try.prog cfg rc md 28 [a0, (.int .i64 a1), (.int .i64 a2)] h0 = F28 rc ⟨md.ro, h0.length⟩ a0 a1 a2 h0 := by
  rw [F28_h0, exec_holes [([1, 1, 1, 0, 1, 0], 0), ([1, 1, 1, 1, 1, 0], 1), ([1, 1, 1, 1], 2)] (by kernel_rfl), F28_h1, show (goX Try.prog cfg rc ⟨md.ro, h0.length⟩ 56 (bodyOf Try.prog 28) [([1, 1, 1, 0, 1, 0], 0), ([1, 1, 1, 1, 1, 0], 1), ([1, 1, 1, 1], 2)] (retK Try.prog cfg 28 (rsOf Try.prog 28) h0)) 0 = _ from J28_0_cut rc ⟨md.ro, h0.length⟩ h0]
  exact F28_h2 rc _ a0 a1 a2 h0
theorem F28_eq (rc : Rec) (md : Md) (a0 : Value) (a1 : Int) (a2 : Int) (h0 : Heap) : callStep Try.prog cfg rc md 28 [a0, (.int .i64 a1), (.int .i64 a2)] h0 = F28 rc ⟨md.ro, h0.length⟩ a0 a1 a2 h0 := (callStep_ne (by kernel_rfl)).trans (F28_eq0 rc md a0 a1 a2 h0)

/-- slices.breakPatternsOrdered[int] -/
noncomputable def Jk29_0 (rc : Rec) (md : Md) (h0 : Heap) (e : Exit) (s0 : Value) (s1 : Value) (s6 : Value) (s7 : Value) (s8 : Value) (s9 : Value) (h : Heap) : Option (Value × Heap) :=
  match e with
  | .normal =>
    some ((.tuple #[]), List.take h0.length h)
  | .exit j =>
    bif Nat.beq j 0 then
      some ((.tuple #[]), List.take h0.length h)
    else
      none
  | .ret =>
    some ((.tuple #[]), List.take h0.length h)
  | .goto l => none
  | .panic ps => none
  | .outgrown => none
theorem Jk29_0_at (rc : Rec) (md : Md) (h0 : Heap) (e : Exit) (t : T) (h : Heap) : kAt Try.prog cfg rc md 65 (bodyOf Try.prog 29) [1, 1, 0, 1, 1, 1, 0] (retK Try.prog cfg 29 (rsOf Try.prog 29) h0) e t h = Jk29_0 rc md h0 e (t 0) (t 1) (t 6) (t 7) (t 8) (t 9) h := by cases e <;> kernel_rfl
noncomputable def J29_0b0 (rc : Rec) (md : Md) (s0 : Value) (s1 : Value) (s6 : Value) (s7 : Value) (s8 : Value) (s9 : Value) (s10 : Value) (h : Heap) : Option (((Value × Value × Value × Value × Value × Value) × Heap) ⊕ (Exit × (Value × Value × Value × Value × Value × Value) × Heap)) :=
  aBin Try.prog .add 3 s1 s10 fun v1 =>
  aBin Try.prog .add 3 s1 s10 fun v2 =>
  ixSV 1 s0 v2 fun v3 =>
  ld1 v3 h fun v4 =>
  cIn .i64 v4 fun n5 =>
  ixSV 1 s0 s9 fun v6 =>
  ld1 v6 h fun v7 =>
  cIn .i64 v7 fun n8 =>
  ixSV 1 s0 s9 fun v9 =>
  st md 1 v9 (.int .i64 n5) h fun h10 =>
  ixSV 1 s0 v1 fun v11 =>
  st md 1 v11 (.int .i64 n8) h10 fun h12 =>
  aBin Try.prog .add 3 s9 (.int .i64 1) fun v13 =>
  some (.inl ((s0, s1, s6, s7, s8, v13), h12))
theorem J29_0b0_at (rc : Rec) (md : Md) (t : T) (h : Heap) : cut Try.prog cfg rc md 65 (sub (bodyOf Try.prog 29) [1, 1, 0, 1, 1, 1, 0, 0]) [1, 0, 0, 1, 1] (rndK (fun t => (t 0, t 1, t 6, t 7, t 8, t 9))) t h = J29_0b0 rc md (t 0) (t 1) (t 6) (t 7) (t 8) (t 9) (t 10) h := by kernel_rfl
theorem J29_0b0_cut (rc : Rec) (md : Md) : cut Try.prog cfg rc md 65 (sub (bodyOf Try.prog 29) [1, 1, 0, 1, 1, 1, 0, 0]) [1, 0, 0, 1, 1] (rndK (fun t => (t 0, t 1, t 6, t 7, t 8, t 9))) = fun t h => J29_0b0 rc md (t 0) (t 1) (t 6) (t 7) (t 8) (t 9) (t 10) h := funext fun t => funext fun h => J29_0b0_at rc md t h
/-- a round -/
noncomputable def Jr29_0 (rc : Rec) (md : Md) (s0 : Value) (s1 : Value) (s6 : Value) (s7 : Value) (s8 : Value) (s9 : Value) (h : Heap) : Option (((Value × Value × Value × Value × Value × Value) × Heap) ⊕ (Exit × (Value × Value × Value × Value × Value × Value) × Heap)) :=
  aBin Try.prog .quo 3 s6 (.int .i64 4) fun v1 =>
  aBin Try.prog .mul 3 v1 (.int .i64 2) fun v2 =>
  aBin Try.prog .add 3 s1 v2 fun v3 =>
  aBin Try.prog .add 3 v3 (.int .i64 1) fun v4 =>
  aBin Try.prog .leq 3 s9 v4 fun v5 =>
  cBn v5 fun b6 =>
  bif b6 then
    cl (rc md 40 [s7] h) fun v7 h8 =>
    cIn .u64 v7 fun n9 =>
    aBin Try.prog .sub 73 s8 (.int .u64 1) fun v10 =>
    aBin Try.prog .and 73 (.int .u64 n9) v10 fun v11 =>
    aConv Try.prog 73 3 v11 fun v12 =>
    aBin Try.prog .geq 3 v12 s6 fun v13 =>
    cBn v13 fun b14 =>
    bif b14 then
      aBin Try.prog .sub 3 v12 s6 fun v15 =>
      J29_0b0 rc md s0 s1 s6 s7 s8 s9 v15 h8
    else
      J29_0b0 rc md s0 s1 s6 s7 s8 s9 v12 h8
  else
    some (.inr ((.exit 0), (s0, s1, s6, s7, s8, s9), h))
noncomputable def Jr29_0H (rc : Rec) (md : Md) (X0 : T → Heap → Option (((Value × Value × Value × Value × Value × Value) × Heap) ⊕ (Exit × (Value × Value × Value × Value × Value × Value) × Heap))) (t : T) (h : Heap) : Option (((Value × Value × Value × Value × Value × Value) × Heap) ⊕ (Exit × (Value × Value × Value × Value × Value × Value) × Heap)) :=
  aBin Try.prog .quo 3 (t 6) (.int .i64 4) fun v1 =>
  aBin Try.prog .mul 3 v1 (.int .i64 2) fun v2 =>
  aBin Try.prog .add 3 (t 1) v2 fun v3 =>
  aBin Try.prog .add 3 v3 (.int .i64 1) fun v4 =>
  aBin Try.prog .leq 3 (t 9) v4 fun v5 =>
  cBn v5 fun b6 =>
  bif b6 then
    cl (rc md 40 [(t 7)] h) fun v7 h8 =>
    cIn .u64 v7 fun n9 =>
    aBin Try.prog .sub 73 (t 8) (.int .u64 1) fun v10 =>
    aBin Try.prog .and 73 (.int .u64 n9) v10 fun v11 =>
    aConv Try.prog 73 3 v11 fun v12 =>
    aBin Try.prog .geq 3 v12 (t 6) fun v13 =>
    cBn v13 fun b14 =>
    bif b14 then
      aBin Try.prog .sub 3 v12 (t 6) fun v15 =>
      X0 (upd (upd (upd (upd (upd (upd (upd (upd (upd (upd (upd (upd (upd (upd (upd (upd (upd (upd (upd (upd (upd t 26 (t 9)) 27 (t 1)) 28 (t 6)) 29 v1) 30 v2) 31 v3) 32 v4) 33 v5) 36 (.int .u64 n9)) 37 (t 8)) 38 v10) 39 v11) 40 v12) 10 v12) 41 v12) 42 (t 6)) 43 v13) 44 v12) 45 (t 6)) 46 v15) 10 v15) h8
    else
      X0 (upd (upd (upd (upd (upd (upd (upd (upd (upd (upd (upd (upd (upd (upd (upd (upd (upd t 26 (t 9)) 27 (t 1)) 28 (t 6)) 29 v1) 30 v2) 31 v3) 32 v4) 33 v5) 36 (.int .u64 n9)) 37 (t 8)) 38 v10) 39 v11) 40 v12) 10 v12) 41 v12) 42 (t 6)) 43 v13) h8
  else
    some (.inr ((.exit 0), ((t 0), (t 1), (t 6), (t 7), (t 8), (t 9)), h))
theorem Jr29_0_h1 (rc : Rec) (md : Md) (X : Nat → T → Heap → Option (((Value × Value × Value × Value × Value × Value) × Heap) ⊕ (Exit × (Value × Value × Value × Value × Value × Value) × Heap))) (t : T) (h : Heap) : execG Try.prog cfg X rc md 65 (replS (sub (bodyOf Try.prog 29) [1, 1, 0, 1, 1, 1, 0, 0]) [([1, 0, 0, 1, 1], 0)]) (rndK (fun t => (t 0, t 1, t 6, t 7, t 8, t 9))) t h = Jr29_0H rc md (X 0) t h := by kernel_rfl
theorem Jr29_0_h2 (rc : Rec) (md : Md) (t : T) (h : Heap) : Jr29_0H rc md (fun t h => J29_0b0 rc md (t 0) (t 1) (t 6) (t 7) (t 8) (t 9) (t 10) h) t h = Jr29_0 rc md (t 0) (t 1) (t 6) (t 7) (t 8) (t 9) h := by unfold Jr29_0H Jr29_0; kernel_rfl
theorem Jr29_0_at (rc : Rec) (md : Md) (t : T) (h : Heap) : exec Try.prog cfg rc md 65 (sub (bodyOf Try.prog 29) [1, 1, 0, 1, 1, 1, 0, 0]) (rndK (fun t => (t 0, t 1, t 6, t 7, t 8, t 9))) t h = Jr29_0 rc md (t 0) (t 1) (t 6) (t 7) (t 8) (t 9) h := by
  rw [exec_holes [([1, 0, 0, 1, 1], 0)] (by kernel_rfl), Jr29_0_h1, show (goX Try.prog cfg rc md 65 (sub (bodyOf Try.prog 29) [1, 1, 0, 1, 1, 1, 0, 0]) [([1, 0, 0, 1, 1], 0)] (rndK (fun t => (t 0, t 1, t 6, t 7, t 8, t 9)))) 0 = _ from J29_0b0_cut rc md]
  exact Jr29_0_h2 rc md t h
noncomputable def J29_0 (rc : Rec) (md : Md) (h0 : Heap) (s0 : Value) (s1 : Value) (s6 : Value) (s7 : Value) (s8 : Value) (s9 : Value) (h : Heap) : Option (Value × Heap) :=
  runL (fun x : (Value × Value × Value × Value × Value × Value) × Heap => Jr29_0 rc md x.1.1 x.1.2.1 x.1.2.2.1 x.1.2.2.2.1 x.1.2.2.2.2.1 x.1.2.2.2.2.2 x.2) (fun e (s : Value × Value × Value × Value × Value × Value) h => Jk29_0 rc md h0 e s.1 s.2.1 s.2.2.1 s.2.2.2.1 s.2.2.2.2.1 s.2.2.2.2.2 h) (s0, s1, s6, s7, s8, s9) h
theorem J29_0_step (rc : Rec) (md : Md) (h0 : Heap) (s0 : Value) (s1 : Value) (s6 : Value) (s7 : Value) (s8 : Value) (s9 : Value) (h : Heap) : J29_0 rc md h0 s0 s1 s6 s7 s8 s9 h = (Jr29_0 rc md s0 s1 s6 s7 s8 s9 h).bind fun x => match x with
    | .inl (s, h) => J29_0 rc md h0 s.1 s.2.1 s.2.2.1 s.2.2.2.1 s.2.2.2.2.1 s.2.2.2.2.2 h
    | .inr (e, s, h) => Jk29_0 rc md h0 e s.1 s.2.1 s.2.2.1 s.2.2.2.1 s.2.2.2.2.1 s.2.2.2.2.2 h := by
  unfold J29_0
  rw [runL_eq]
  refine congrArg (Option.bind _) (funext fun x => ?_)
  rcases x with ⟨s, h⟩ | ⟨e, s, h⟩ <;> rfl
theorem J29_0_cut (rc : Rec) (md : Md) (h0 : Heap) : cut Try.prog cfg rc md 65 (bodyOf Try.prog 29) [1, 1, 0, 1, 1, 1, 0] (retK Try.prog cfg 29 (rsOf Try.prog 29) h0) = fun t h => J29_0 rc md h0 (t 0) (t 1) (t 6) (t 7) (t 8) (t 9) h := by
  funext t h
  have e : sub (bodyOf Try.prog 29) [1, 1, 0, 1, 1, 1, 0] = .loop (sub (bodyOf Try.prog 29) [1, 1, 0, 1, 1, 1, 0, 0]) := by kernel_rfl
  unfold cut
  rw [e]
  exact loop_eq (by kernel_rfl) (fun t => (t 0, t 1, t 6, t 7, t 8, t 9)) (fun x : (Value × Value × Value × Value × Value × Value) × Heap => Jr29_0 rc md x.1.1 x.1.2.1 x.1.2.2.1 x.1.2.2.2.1 x.1.2.2.2.2.1 x.1.2.2.2.2.2 x.2) (fun t h => Jr29_0_at rc md t h) (fun e (s : Value × Value × Value × Value × Value × Value) h => Jk29_0 rc md h0 e s.1 s.2.1 s.2.2.1 s.2.2.2.1 s.2.2.2.2.1 s.2.2.2.2.2 h) (fun e t h => Jk29_0_at rc md h0 e t h) t h
noncomputable def F29 (rc : Rec) (md : Md) (a0 : Value) (a1 : Int) (a2 : Int) (h0 : Heap) : Option (Value × Heap) :=
  bif (decide ((IntKind.wrap .i64 (a2 - a1)) ≥ 8)) then
    let h1 : Heap := h0 ++ [.own [(.int .u64 0)]]
    st md 1 (.pointer (some ⟨h0.length, 0, none⟩)) (.int .u64 (IntKind.wrap .u64 (IntKind.wrap .i64 (a2 - a1)))) h1 fun h2 =>
    cl (rc md 39 [(.int .i64 (IntKind.wrap .i64 (a2 - a1)))] h2) fun v3 h4 =>
    cIn .u64 v3 fun n5 =>
    J29_0 rc md h0 a0 (.int .i64 a1) (.int .i64 (IntKind.wrap .i64 (a2 - a1))) (.pointer (some ⟨h0.length, 0, none⟩)) (.int .u64 n5) (.int .i64 (IntKind.wrap .i64 ((IntKind.wrap .i64 (a1 + (IntKind.wrap .i64 ((IntKind.wrap .i64 (Int.tdiv (IntKind.wrap .i64 (a2 - a1)) 4)) * 2)))) - 1))) h4
  else
    some ((.tuple #[]), List.take h0.length h0)
noncomputable def F29H (rc : Rec) (md : Md) (X0 : T → Heap → Option (Value × Heap)) (a0 : Value) (a1 : Int) (a2 : Int) (h0 : Heap) : Option (Value × Heap) :=
  bif (decide ((IntKind.wrap .i64 (a2 - a1)) ≥ 8)) then
    let h1 : Heap := h0 ++ [.own [(.int .u64 0)]]
    st md 1 (.pointer (some ⟨h0.length, 0, none⟩)) (.int .u64 (IntKind.wrap .u64 (IntKind.wrap .i64 (a2 - a1)))) h1 fun h2 =>
    cl (rc md 39 [(.int .i64 (IntKind.wrap .i64 (a2 - a1)))] h2) fun v3 h4 =>
    cIn .u64 v3 fun n5 =>
    X0 (upd (upd (upd (upd (upd (upd (upd (upd (upd (upd (upd (upd (upd (upd (upd (upd (upd (upd (upd (args0 [a0, (.int .i64 a1), (.int .i64 a2)]) 11 (.int .i64 a2)) 12 (.int .i64 a1)) 13 (.int .i64 (IntKind.wrap .i64 (a2 - a1)))) 6 (.int .i64 (IntKind.wrap .i64 (a2 - a1)))) 14 (.int .i64 (IntKind.wrap .i64 (a2 - a1)))) 15 (.bool (decide ((IntKind.wrap .i64 (a2 - a1)) ≥ 8)))) 16 (.int .i64 (IntKind.wrap .i64 (a2 - a1)))) 17 (.int .u64 (IntKind.wrap .u64 (IntKind.wrap .i64 (a2 - a1))))) 7 (.pointer (some ⟨h0.length, 0, none⟩))) 18 (.int .i64 (IntKind.wrap .i64 (a2 - a1)))) 19 (.int .u64 n5)) 8 (.int .u64 n5)) 20 (.int .i64 a1)) 21 (.int .i64 (IntKind.wrap .i64 (a2 - a1)))) 22 (.int .i64 (IntKind.wrap .i64 (Int.tdiv (IntKind.wrap .i64 (a2 - a1)) 4)))) 23 (.int .i64 (IntKind.wrap .i64 ((IntKind.wrap .i64 (Int.tdiv (IntKind.wrap .i64 (a2 - a1)) 4)) * 2)))) 24 (.int .i64 (IntKind.wrap .i64 (a1 + (IntKind.wrap .i64 ((IntKind.wrap .i64 (Int.tdiv (IntKind.wrap .i64 (a2 - a1)) 4)) * 2)))))) 25 (.int .i64 (IntKind.wrap .i64 ((IntKind.wrap .i64 (a1 + (IntKind.wrap .i64 ((IntKind.wrap .i64 (Int.tdiv (IntKind.wrap .i64 (a2 - a1)) 4)) * 2)))) - 1)))) 9 (.int .i64 (IntKind.wrap .i64 ((IntKind.wrap .i64 (a1 + (IntKind.wrap .i64 ((IntKind.wrap .i64 (Int.tdiv (IntKind.wrap .i64 (a2 - a1)) 4)) * 2)))) - 1)))) h4
  else
    some ((.tuple #[]), List.take h0.length h0)
theorem F29_h0 (rc : Rec) (md : Md) (a0 : Value) (a1 : Int) (a2 : Int) (h0 : Heap) : callStep0 Try.prog cfg rc md 29 [a0, (.int .i64 a1), (.int .i64 a2)] h0 = exec Try.prog cfg rc ⟨md.ro, h0.length⟩ 65 (bodyOf Try.prog 29) (retK Try.prog cfg 29 (rsOf Try.prog 29) h0) (args0 [a0, (.int .i64 a1), (.int .i64 a2)]) h0 := callStep0_run (by kernel_rfl) (by kernel_rfl) (by kernel_rfl)
theorem F29_h1 (rc : Rec) (md : Md) (X : Nat → T → Heap → Option (Value × Heap)) (a0 : Value) (a1 : Int) (a2 : Int) (h0 : Heap) : execG Try.prog cfg X rc md 65 (replS (bodyOf Try.prog 29) [([1, 1, 0, 1, 1, 1, 0], 0)]) (retK Try.prog cfg 29 (rsOf Try.prog 29) h0) (args0 [a0, (.int .i64 a1), (.int .i64 a2)]) h0 = F29H rc md (X 0) a0 a1 a2 h0 := by kernel_rfl
theorem F29_h2 (rc : Rec) (md : Md) (a0 : Value) (a1 : Int) (a2 : Int) (h0 : Heap) : F29H rc md (fun t h => J29_0 rc md h0 (t 0) (t 1) (t 6) (t 7) (t 8) (t 9) h) a0 a1 a2 h0 = F29 rc md a0 a1 a2 h0 := by unfold F29H F29; kernel_rfl
theorem F29_eq0 (rc : Rec) (md : Md) (a0 : Value) (a1 : Int) (a2 : Int) (h0 : Heap) : callStep0 Try.prog cfg rc md 29 [a0, (.int .i64 a1), (.int .i64 a2)] h0 = F29 rc ⟨md.ro, h0.length⟩ a0 a1 a2 h0 := by
  rw [F29_h0, exec_holes [([1, 1, 0, 1, 1, 1, 0], 0)] (by kernel_rfl), F29_h1, show (goX Try.prog cfg rc ⟨md.ro, h0.length⟩ 65 (bodyOf Try.prog 29) [([1, 1, 0, 1, 1, 1, 0], 0)] (retK Try.prog cfg 29 (rsOf Try.prog 29) h0)) 0 = _ from J29_0_cut rc ⟨md.ro, h0.length⟩ h0]
  exact F29_h2 rc _ a0 a1 a2 h0
theorem F29_eq (rc : Rec) (md : Md) (a0 : Value) (a1 : Int) (a2 : Int) (h0 : Heap) : callStep Try.prog cfg rc md 29 [a0, (.int .i64 a1), (.int .i64 a2)] h0 = F29 rc ⟨md.ro, h0.length⟩ a0 a1 a2 h0 := (callStep_ne (by kernel_rfl)).trans (F29_eq0 rc md a0 a1 a2 h0)

/-- slices.choosePivotOrdered[int] -/
noncomputable def J30_1 (rc : Rec) (md : Md) (h0 : Heap) (s9 : Value) (s11 : Value) (h : Heap) : Option (Value × Heap) :=
  ld1 s9 h fun v1 =>
  cIn .i64 v1 fun n2 =>
  bif (n2 == 0) then
    fin1 h0 (.tuple #[s11, (.int .i64 1)]) h
  else
    bif (n2 == 12) then
      fin1 h0 (.tuple #[s11, (.int .i64 2)]) h
    else
      fin1 h0 (.tuple #[s11, (.int .i64 0)]) h
theorem J30_1_at (rc : Rec) (md : Md) (h0 : Heap) (t : T) (h : Heap) : cut Try.prog cfg rc md 57 (bodyOf Try.prog 30) [1, 1, 1, 1, 1, 1, 1] (retK Try.prog cfg 30 (rsOf Try.prog 30) h0) t h = J30_1 rc md h0 (t 9) (t 11) h := by kernel_rfl
theorem J30_1_cut (rc : Rec) (md : Md) (h0 : Heap) : cut Try.prog cfg rc md 57 (bodyOf Try.prog 30) [1, 1, 1, 1, 1, 1, 1] (retK Try.prog cfg 30 (rsOf Try.prog 30) h0) = fun t h => J30_1 rc md h0 (t 9) (t 11) h := funext fun t => funext fun h => J30_1_at rc md h0 t h
noncomputable def J30_0 (rc : Rec) (md : Md) (h0 : Heap) (s0 : Value) (s9 : Value) (s10 : Value) (s11 : Value) (s12 : Value) (h : Heap) : Option (Value × Heap) :=
  cl (rc md 42 [s0, s10, s11, s12, s9] h) fun v1 h2 =>
  cIn .i64 v1 fun n3 =>
  J30_1 rc md h0 s9 (.int .i64 n3) h2
noncomputable def J30_0H (rc : Rec) (md : Md) (h0 : Heap) (X1 : T → Heap → Option (Value × Heap)) (t : T) (h : Heap) : Option (Value × Heap) :=
  cl (rc md 42 [(t 0), (t 10), (t 11), (t 12), (t 9)] h) fun v1 h2 =>
  cIn .i64 v1 fun n3 =>
  X1 (upd (upd (upd (upd (upd (upd t 44 (t 0)) 45 (t 10)) 46 (t 11)) 47 (t 12)) 48 (.int .i64 n3)) 11 (.int .i64 n3)) h2
theorem J30_0_h1 (rc : Rec) (md : Md) (h0 : Heap) (X : Nat → T → Heap → Option (Value × Heap)) (t : T) (h : Heap) : execG Try.prog cfg X rc md 57 (sub (replS (bodyOf Try.prog 30) [([1, 1, 1, 1, 1, 1, 1], 1)]) [1, 1, 1, 1, 1, 1, 0, 1, 0, 1]) (kAtG Try.prog cfg X rc md 57 (replS (bodyOf Try.prog 30) [([1, 1, 1, 1, 1, 1, 1], 1)]) [1, 1, 1, 1, 1, 1, 0, 1, 0, 1] (retK Try.prog cfg 30 (rsOf Try.prog 30) h0)) t h = J30_0H rc md h0 (X 1) t h := by kernel_rfl
theorem J30_0_h2 (rc : Rec) (md : Md) (h0 : Heap) (t : T) (h : Heap) : J30_0H rc md h0 (fun t h => J30_1 rc md h0 (t 9) (t 11) h) t h = J30_0 rc md h0 (t 0) (t 9) (t 10) (t 11) (t 12) h := by (unfold J30_0H J30_0; kernel_rfl)
theorem J30_0_at (rc : Rec) (md : Md) (h0 : Heap) (t : T) (h : Heap) : cut Try.prog cfg rc md 57 (bodyOf Try.prog 30) [1, 1, 1, 1, 1, 1, 0, 1, 0, 1] (retK Try.prog cfg 30 (rsOf Try.prog 30) h0) t h = J30_0 rc md h0 (t 0) (t 9) (t 10) (t 11) (t 12) h := by
  rw [cut_holes [([1, 1, 1, 1, 1, 1, 1], 1)] [1, 1, 1, 1, 1, 1, 0, 1, 0, 1] (by kernel_rfl), J30_0_h1, show (goX Try.prog cfg rc md 57 (bodyOf Try.prog 30) [([1, 1, 1, 1, 1, 1, 1], 1)] (retK Try.prog cfg 30 (rsOf Try.prog 30) h0)) 1 = _ from J30_1_cut rc md h0]
  exact J30_0_h2 rc md h0 t h
theorem J30_0_cut (rc : Rec) (md : Md) (h0 : Heap) : cut Try.prog cfg rc md 57 (bodyOf Try.prog 30) [1, 1, 1, 1, 1, 1, 0, 1, 0, 1] (retK Try.prog cfg 30 (rsOf Try.prog 30) h0) = fun t h => J30_0 rc md h0 (t 0) (t 9) (t 10) (t 11) (t 12) h := funext fun t => funext fun h => J30_0_at rc md h0 t h
noncomputable def F30 (rc : Rec) (md : Md) (a0 : Value) (a1 : Int) (a2 : Int) (h0 : Heap) : Option (Value × Heap) :=
  let h1 : Heap := h0 ++ [.own [(.int .i64 0)]]
  bif (decide ((IntKind.wrap .i64 (a2 - a1)) ≥ 8)) then
    bif (decide ((IntKind.wrap .i64 (a2 - a1)) ≥ 50)) then
      cl (rc md 41 [a0, (.int .i64 (IntKind.wrap .i64 (a1 + (IntKind.wrap .i64 ((IntKind.wrap .i64 (Int.tdiv (IntKind.wrap .i64 (a2 - a1)) 4)) * 1))))), (.pointer (some ⟨h0.length, 0, none⟩))] h1) fun v2 h3 =>
      cIn .i64 v2 fun n4 =>
      cl (rc md 41 [a0, (.int .i64 (IntKind.wrap .i64 (a1 + (IntKind.wrap .i64 ((IntKind.wrap .i64 (Int.tdiv (IntKind.wrap .i64 (a2 - a1)) 4)) * 2))))), (.pointer (some ⟨h0.length, 0, none⟩))] h3) fun v5 h6 =>
      cIn .i64 v5 fun n7 =>
      cl (rc md 41 [a0, (.int .i64 (IntKind.wrap .i64 (a1 + (IntKind.wrap .i64 ((IntKind.wrap .i64 (Int.tdiv (IntKind.wrap .i64 (a2 - a1)) 4)) * 3))))), (.pointer (some ⟨h0.length, 0, none⟩))] h6) fun v8 h9 =>
      cIn .i64 v8 fun n10 =>
      J30_0 rc md h0 a0 (.pointer (some ⟨h0.length, 0, none⟩)) (.int .i64 n4) (.int .i64 n7) (.int .i64 n10) h9
    else
      J30_0 rc md h0 a0 (.pointer (some ⟨h0.length, 0, none⟩)) (.int .i64 (IntKind.wrap .i64 (a1 + (IntKind.wrap .i64 ((IntKind.wrap .i64 (Int.tdiv (IntKind.wrap .i64 (a2 - a1)) 4)) * 1))))) (.int .i64 (IntKind.wrap .i64 (a1 + (IntKind.wrap .i64 ((IntKind.wrap .i64 (Int.tdiv (IntKind.wrap .i64 (a2 - a1)) 4)) * 2))))) (.int .i64 (IntKind.wrap .i64 (a1 + (IntKind.wrap .i64 ((IntKind.wrap .i64 (Int.tdiv (IntKind.wrap .i64 (a2 - a1)) 4)) * 3))))) h1
  else
    J30_1 rc md h0 (.pointer (some ⟨h0.length, 0, none⟩)) (.int .i64 (IntKind.wrap .i64 (a1 + (IntKind.wrap .i64 ((IntKind.wrap .i64 (Int.tdiv (IntKind.wrap .i64 (a2 - a1)) 4)) * 2))))) h1
noncomputable def F30H (rc : Rec) (md : Md) (X0 : T → Heap → Option (Value × Heap)) (X1 : T → Heap → Option (Value × Heap)) (a0 : Value) (a1 : Int) (a2 : Int) (h0 : Heap) : Option (Value × Heap) :=
  let h1 : Heap := h0 ++ [.own [(.int .i64 0)]]
  bif (decide ((IntKind.wrap .i64 (a2 - a1)) ≥ 8)) then
    bif (decide ((IntKind.wrap .i64 (a2 - a1)) ≥ 50)) then
      cl (rc md 41 [a0, (.int .i64 (IntKind.wrap .i64 (a1 + (IntKind.wrap .i64 ((IntKind.wrap .i64 (Int.tdiv (IntKind.wrap .i64 (a2 - a1)) 4)) * 1))))), (.pointer (some ⟨h0.length, 0, none⟩))] h1) fun v2 h3 =>
      cIn .i64 v2 fun n4 =>
      cl (rc md 41 [a0, (.int .i64 (IntKind.wrap .i64 (a1 + (IntKind.wrap .i64 ((IntKind.wrap .i64 (Int.tdiv (IntKind.wrap .i64 (a2 - a1)) 4)) * 2))))), (.pointer (some ⟨h0.length, 0, none⟩))] h3) fun v5 h6 =>
      cIn .i64 v5 fun n7 =>
      cl (rc md 41 [a0, (.int .i64 (IntKind.wrap .i64 (a1 + (IntKind.wrap .i64 ((IntKind.wrap .i64 (Int.tdiv (IntKind.wrap .i64 (a2 - a1)) 4)) * 3))))), (.pointer (some ⟨h0.length, 0, none⟩))] h6) fun v8 h9 =>
      cIn .i64 v8 fun n10 =>
      X0 (upd (upd (upd (upd (upd (upd (upd (upd (upd (upd (upd (upd (upd (upd (upd (upd (upd (upd (upd (upd (upd (upd (upd (upd (upd (upd (upd (upd (upd (upd (upd (upd (upd (upd (upd (upd (upd (upd (upd (upd (upd (args0 [a0, (.int .i64 a1), (.int .i64 a2)]) 6 (.int .i64 0)) 7 (.int .i64 0)) 13 (.int .i64 a2)) 14 (.int .i64 a1)) 15 (.int .i64 (IntKind.wrap .i64 (a2 - a1)))) 8 (.int .i64 (IntKind.wrap .i64 (a2 - a1)))) 9 (.pointer (some ⟨h0.length, 0, none⟩))) 16 (.int .i64 a1)) 17 (.int .i64 (IntKind.wrap .i64 (a2 - a1)))) 18 (.int .i64 (IntKind.wrap .i64 (Int.tdiv (IntKind.wrap .i64 (a2 - a1)) 4)))) 19 (.int .i64 (IntKind.wrap .i64 ((IntKind.wrap .i64 (Int.tdiv (IntKind.wrap .i64 (a2 - a1)) 4)) * 1)))) 20 (.int .i64 (IntKind.wrap .i64 (a1 + (IntKind.wrap .i64 ((IntKind.wrap .i64 (Int.tdiv (IntKind.wrap .i64 (a2 - a1)) 4)) * 1)))))) 10 (.int .i64 (IntKind.wrap .i64 (a1 + (IntKind.wrap .i64 ((IntKind.wrap .i64 (Int.tdiv (IntKind.wrap .i64 (a2 - a1)) 4)) * 1)))))) 21 (.int .i64 a1)) 22 (.int .i64 (IntKind.wrap .i64 (a2 - a1)))) 23 (.int .i64 (IntKind.wrap .i64 (Int.tdiv (IntKind.wrap .i64 (a2 - a1)) 4)))) 24 (.int .i64 (IntKind.wrap .i64 ((IntKind.wrap .i64 (Int.tdiv (IntKind.wrap .i64 (a2 - a1)) 4)) * 2)))) 25 (.int .i64 (IntKind.wrap .i64 (a1 + (IntKind.wrap .i64 ((IntKind.wrap .i64 (Int.tdiv (IntKind.wrap .i64 (a2 - a1)) 4)) * 2)))))) 11 (.int .i64 (IntKind.wrap .i64 (a1 + (IntKind.wrap .i64 ((IntKind.wrap .i64 (Int.tdiv (IntKind.wrap .i64 (a2 - a1)) 4)) * 2)))))) 26 (.int .i64 a1)) 27 (.int .i64 (IntKind.wrap .i64 (a2 - a1)))) 28 (.int .i64 (IntKind.wrap .i64 (Int.tdiv (IntKind.wrap .i64 (a2 - a1)) 4)))) 29 (.int .i64 (IntKind.wrap .i64 ((IntKind.wrap .i64 (Int.tdiv (IntKind.wrap .i64 (a2 - a1)) 4)) * 3)))) 30 (.int .i64 (IntKind.wrap .i64 (a1 + (IntKind.wrap .i64 ((IntKind.wrap .i64 (Int.tdiv (IntKind.wrap .i64 (a2 - a1)) 4)) * 3)))))) 12 (.int .i64 (IntKind.wrap .i64 (a1 + (IntKind.wrap .i64 ((IntKind.wrap .i64 (Int.tdiv (IntKind.wrap .i64 (a2 - a1)) 4)) * 3)))))) 31 (.int .i64 (IntKind.wrap .i64 (a2 - a1)))) 32 (.bool (decide ((IntKind.wrap .i64 (a2 - a1)) ≥ 8)))) 33 (.int .i64 (IntKind.wrap .i64 (a2 - a1)))) 34 (.bool (decide ((IntKind.wrap .i64 (a2 - a1)) ≥ 50)))) 35 a0) 36 (.int .i64 (IntKind.wrap .i64 (a1 + (IntKind.wrap .i64 ((IntKind.wrap .i64 (Int.tdiv (IntKind.wrap .i64 (a2 - a1)) 4)) * 1)))))) 37 (.int .i64 n4)) 10 (.int .i64 n4)) 38 a0) 39 (.int .i64 (IntKind.wrap .i64 (a1 + (IntKind.wrap .i64 ((IntKind.wrap .i64 (Int.tdiv (IntKind.wrap .i64 (a2 - a1)) 4)) * 2)))))) 40 (.int .i64 n7)) 11 (.int .i64 n7)) 41 a0) 42 (.int .i64 (IntKind.wrap .i64 (a1 + (IntKind.wrap .i64 ((IntKind.wrap .i64 (Int.tdiv (IntKind.wrap .i64 (a2 - a1)) 4)) * 3)))))) 43 (.int .i64 n10)) 12 (.int .i64 n10)) h9
    else
      X0 (upd (upd (upd (upd (upd (upd (upd (upd (upd (upd (upd (upd (upd (upd (upd (upd (upd (upd (upd (upd (upd (upd (upd (upd (upd (upd (upd (upd (upd (args0 [a0, (.int .i64 a1), (.int .i64 a2)]) 6 (.int .i64 0)) 7 (.int .i64 0)) 13 (.int .i64 a2)) 14 (.int .i64 a1)) 15 (.int .i64 (IntKind.wrap .i64 (a2 - a1)))) 8 (.int .i64 (IntKind.wrap .i64 (a2 - a1)))) 9 (.pointer (some ⟨h0.length, 0, none⟩))) 16 (.int .i64 a1)) 17 (.int .i64 (IntKind.wrap .i64 (a2 - a1)))) 18 (.int .i64 (IntKind.wrap .i64 (Int.tdiv (IntKind.wrap .i64 (a2 - a1)) 4)))) 19 (.int .i64 (IntKind.wrap .i64 ((IntKind.wrap .i64 (Int.tdiv (IntKind.wrap .i64 (a2 - a1)) 4)) * 1)))) 20 (.int .i64 (IntKind.wrap .i64 (a1 + (IntKind.wrap .i64 ((IntKind.wrap .i64 (Int.tdiv (IntKind.wrap .i64 (a2 - a1)) 4)) * 1)))))) 10 (.int .i64 (IntKind.wrap .i64 (a1 + (IntKind.wrap .i64 ((IntKind.wrap .i64 (Int.tdiv (IntKind.wrap .i64 (a2 - a1)) 4)) * 1)))))) 21 (.int .i64 a1)) 22 (.int .i64 (IntKind.wrap .i64 (a2 - a1)))) 23 (.int .i64 (IntKind.wrap .i64 (Int.tdiv (IntKind.wrap .i64 (a2 - a1)) 4)))) 24 (.int .i64 (IntKind.wrap .i64 ((IntKind.wrap .i64 (Int.tdiv (IntKind.wrap .i64 (a2 - a1)) 4)) * 2)))) 25 (.int .i64 (IntKind.wrap .i64 (a1 + (IntKind.wrap .i64 ((IntKind.wrap .i64 (Int.tdiv (IntKind.wrap .i64 (a2 - a1)) 4)) * 2)))))) 11 (.int .i64 (IntKind.wrap .i64 (a1 + (IntKind.wrap .i64 ((IntKind.wrap .i64 (Int.tdiv (IntKind.wrap .i64 (a2 - a1)) 4)) * 2)))))) 26 (.int .i64 a1)) 27 (.int .i64 (IntKind.wrap .i64 (a2 - a1)))) 28 (.int .i64 (IntKind.wrap .i64 (Int.tdiv (IntKind.wrap .i64 (a2 - a1)) 4)))) 29 (.int .i64 (IntKind.wrap .i64 ((IntKind.wrap .i64 (Int.tdiv (IntKind.wrap .i64 (a2 - a1)) 4)) * 3)))) 30 (.int .i64 (IntKind.wrap .i64 (a1 + (IntKind.wrap .i64 ((IntKind.wrap .i64 (Int.tdiv (IntKind.wrap .i64 (a2 - a1)) 4)) * 3)))))) 12 (.int .i64 (IntKind.wrap .i64 (a1 + (IntKind.wrap .i64 ((IntKind.wrap .i64 (Int.tdiv (IntKind.wrap .i64 (a2 - a1)) 4)) * 3)))))) 31 (.int .i64 (IntKind.wrap .i64 (a2 - a1)))) 32 (.bool (decide ((IntKind.wrap .i64 (a2 - a1)) ≥ 8)))) 33 (.int .i64 (IntKind.wrap .i64 (a2 - a1)))) 34 (.bool (decide ((IntKind.wrap .i64 (a2 - a1)) ≥ 50)))) h1
  else
    X1 (upd (upd (upd (upd (upd (upd (upd (upd (upd (upd (upd (upd (upd (upd (upd (upd (upd (upd (upd (upd (upd (upd (upd (upd (upd (upd (upd (args0 [a0, (.int .i64 a1), (.int .i64 a2)]) 6 (.int .i64 0)) 7 (.int .i64 0)) 13 (.int .i64 a2)) 14 (.int .i64 a1)) 15 (.int .i64 (IntKind.wrap .i64 (a2 - a1)))) 8 (.int .i64 (IntKind.wrap .i64 (a2 - a1)))) 9 (.pointer (some ⟨h0.length, 0, none⟩))) 16 (.int .i64 a1)) 17 (.int .i64 (IntKind.wrap .i64 (a2 - a1)))) 18 (.int .i64 (IntKind.wrap .i64 (Int.tdiv (IntKind.wrap .i64 (a2 - a1)) 4)))) 19 (.int .i64 (IntKind.wrap .i64 ((IntKind.wrap .i64 (Int.tdiv (IntKind.wrap .i64 (a2 - a1)) 4)) * 1)))) 20 (.int .i64 (IntKind.wrap .i64 (a1 + (IntKind.wrap .i64 ((IntKind.wrap .i64 (Int.tdiv (IntKind.wrap .i64 (a2 - a1)) 4)) * 1)))))) 10 (.int .i64 (IntKind.wrap .i64 (a1 + (IntKind.wrap .i64 ((IntKind.wrap .i64 (Int.tdiv (IntKind.wrap .i64 (a2 - a1)) 4)) * 1)))))) 21 (.int .i64 a1)) 22 (.int .i64 (IntKind.wrap .i64 (a2 - a1)))) 23 (.int .i64 (IntKind.wrap .i64 (Int.tdiv (IntKind.wrap .i64 (a2 - a1)) 4)))) 24 (.int .i64 (IntKind.wrap .i64 ((IntKind.wrap .i64 (Int.tdiv (IntKind.wrap .i64 (a2 - a1)) 4)) * 2)))) 25 (.int .i64 (IntKind.wrap .i64 (a1 + (IntKind.wrap .i64 ((IntKind.wrap .i64 (Int.tdiv (IntKind.wrap .i64 (a2 - a1)) 4)) * 2)))))) 11 (.int .i64 (IntKind.wrap .i64 (a1 + (IntKind.wrap .i64 ((IntKind.wrap .i64 (Int.tdiv (IntKind.wrap .i64 (a2 - a1)) 4)) * 2)))))) 26 (.int .i64 a1)) 27 (.int .i64 (IntKind.wrap .i64 (a2 - a1)))) 28 (.int .i64 (IntKind.wrap .i64 (Int.tdiv (IntKind.wrap .i64 (a2 - a1)) 4)))) 29 (.int .i64 (IntKind.wrap .i64 ((IntKind.wrap .i64 (Int.tdiv (IntKind.wrap .i64 (a2 - a1)) 4)) * 3)))) 30 (.int .i64 (IntKind.wrap .i64 (a1 + (IntKind.wrap .i64 ((IntKind.wrap .i64 (Int.tdiv (IntKind.wrap .i64 (a2 - a1)) 4)) * 3)))))) 12 (.int .i64 (IntKind.wrap .i64 (a1 + (IntKind.wrap .i64 ((IntKind.wrap .i64 (Int.tdiv (IntKind.wrap .i64 (a2 - a1)) 4)) * 3)))))) 31 (.int .i64 (IntKind.wrap .i64 (a2 - a1)))) 32 (.bool (decide ((IntKind.wrap .i64 (a2 - a1)) ≥ 8)))) h1
theorem F30_h0 (rc : Rec) (md : Md) (a0 : Value) (a1 : Int) (a2 : Int) (h0 : Heap) : callStep0 Try.prog cfg rc md 30 [a0, (.int .i64 a1), (.int .i64 a2)] h0 = exec Try.prog cfg rc ⟨md.ro, h0.length⟩ 57 (bodyOf Try.prog 30) (retK Try.prog cfg 30 (rsOf Try.prog 30) h0) (args0 [a0, (.int .i64 a1), (.int .i64 a2)]) h0 := callStep0_run (by kernel_rfl) (by kernel_rfl) (by kernel_rfl)
theorem F30_h1 (rc : Rec) (md : Md) (X : Nat → T → Heap → Option (Value × Heap)) (a0 : Value) (a1 : Int) (a2 : Int) (h0 : Heap) : execG Try.prog cfg X rc md 57 (replS (bodyOf Try.prog 30) [([1, 1, 1, 1, 1, 1, 0, 1, 0, 1], 0), ([1, 1, 1, 1, 1, 1, 1], 1)]) (retK Try.prog cfg 30 (rsOf Try.prog 30) h0) (args0 [a0, (.int .i64 a1), (.int .i64 a2)]) h0 = F30H rc md (X 0) (X 1) a0 a1 a2 h0 := by kernel_rfl
theorem F30_h2 (rc : Rec) (md : Md) (a0 : Value) (a1 : Int) (a2 : Int) (h0 : Heap) : F30H rc md (fun t h => J30_0 rc md h0 (t 0) (t 9) (t 10) (t 11) (t 12) h) (fun t h => J30_1 rc md h0 (t 9) (t 11) h) a0 a1 a2 h0 = F30 rc md a0 a1 a2 h0 := by unfold F30H F30; kernel_rfl
theorem F30_eq0 (rc : Rec) (md : Md) (a0 : Value) (a1 : Int) (a2 : Int) (h0 : Heap) : callStep0 Try.prog cfg rc md 30 [a0, (.int .i64 a1), (.int .i64 a2)] h0 = F30 rc ⟨md.ro, h0.length⟩ a0 a1 a2 h0 := by
  rw [F30_h0, exec_holes [([1, 1, 1, 1, 1, 1, 0, 1, 0, 1], 0), ([1, 1, 1, 1, 1, 1, 1], 1)] (by kernel_rfl), F30_h1, show (goX Try.prog cfg rc ⟨md.ro, h0.length⟩ 57 (bodyOf Try.prog 30) [([1, 1, 1, 1, 1, 1, 0, 1, 0, 1], 0), ([1, 1, 1, 1, 1, 1, 1], 1)] (retK Try.prog cfg 30 (rsOf Try.prog 30) h0)) 0 = _ from J30_0_cut rc ⟨md.ro, h0.length⟩ h0, show (goX Try.prog cfg rc ⟨md.ro, h0.length⟩ 57 (bodyOf Try.prog 30) [([1, 1, 1, 1, 1, 1, 0, 1, 0, 1], 0), ([1, 1, 1, 1, 1, 1, 1], 1)] (retK Try.prog cfg 30 (rsOf Try.prog 30) h0)) 1 = _ from J30_1_cut rc ⟨md.ro, h0.length⟩ h0]
  exact F30_h2 rc _ a0 a1 a2 h0
theorem F30_eq (rc : Rec) (md : Md) (a0 : Value) (a1 : Int) (a2 : Int) (h0 : Heap) : callStep Try.prog cfg rc md 30 [a0, (.int .i64 a1), (.int .i64 a2)] h0 = F30 rc ⟨md.ro, h0.length⟩ a0 a1 a2 h0 := (callStep_ne (by kernel_rfl)).trans (F30_eq0 rc md a0 a1 a2 h0)

/-- slices.reverseRangeOrdered[int] -/
noncomputable def Jk31_0 (rc : Rec) (md : Md) (h0 : Heap) (e : Exit) (s0 : Value) (s6 : Value) (s7 : Value) (h : Heap) : Option (Value × Heap) :=
  match e with
  | .normal =>
    some ((.tuple #[]), List.take h0.length h)
  | .exit j =>
    bif Nat.beq j 0 then
      some ((.tuple #[]), List.take h0.length h)
    else
      none
  | .ret =>
    some ((.tuple #[]), List.take h0.length h)
  | .goto l => none
  | .panic ps => none
  | .outgrown => none
theorem Jk31_0_at (rc : Rec) (md : Md) (h0 : Heap) (e : Exit) (t : T) (h : Heap) : kAt Try.prog cfg rc md 32 (bodyOf Try.prog 31) [1, 1, 0] (retK Try.prog cfg 31 (rsOf Try.prog 31) h0) e t h = Jk31_0 rc md h0 e (t 0) (t 6) (t 7) h := by cases e <;> kernel_rfl
/-- a round -/
noncomputable def Jr31_0 (rc : Rec) (md : Md) (s0 : Value) (s6 : Value) (s7 : Value) (h : Heap) : Option (((Value × Value × Value) × Heap) ⊕ (Exit × (Value × Value × Value) × Heap)) :=
  aBin Try.prog .lss 3 s6 s7 fun v1 =>
  cBn v1 fun b2 =>
  bif b2 then
    ixSV 1 s0 s7 fun v3 =>
    ld1 v3 h fun v4 =>
    cIn .i64 v4 fun n5 =>
    ixSV 1 s0 s6 fun v6 =>
    ld1 v6 h fun v7 =>
    cIn .i64 v7 fun n8 =>
    ixSV 1 s0 s6 fun v9 =>
    st md 1 v9 (.int .i64 n5) h fun h10 =>
    ixSV 1 s0 s7 fun v11 =>
    st md 1 v11 (.int .i64 n8) h10 fun h12 =>
    aBin Try.prog .add 3 s6 (.int .i64 1) fun v13 =>
    aBin Try.prog .sub 3 s7 (.int .i64 1) fun v14 =>
    some (.inl ((s0, v13, v14), h12))
  else
    some (.inr ((.exit 0), (s0, s6, s7), h))
theorem Jr31_0_at (rc : Rec) (md : Md) (t : T) (h : Heap) : exec Try.prog cfg rc md 32 (sub (bodyOf Try.prog 31) [1, 1, 0, 0]) (rndK (fun t => (t 0, t 6, t 7))) t h = Jr31_0 rc md (t 0) (t 6) (t 7) h := by kernel_rfl
noncomputable def J31_0 (rc : Rec) (md : Md) (h0 : Heap) (s0 : Value) (s6 : Value) (s7 : Value) (h : Heap) : Option (Value × Heap) :=
  runL (fun x : (Value × Value × Value) × Heap => Jr31_0 rc md x.1.1 x.1.2.1 x.1.2.2 x.2) (fun e (s : Value × Value × Value) h => Jk31_0 rc md h0 e s.1 s.2.1 s.2.2 h) (s0, s6, s7) h
theorem J31_0_step (rc : Rec) (md : Md) (h0 : Heap) (s0 : Value) (s6 : Value) (s7 : Value) (h : Heap) : J31_0 rc md h0 s0 s6 s7 h = (Jr31_0 rc md s0 s6 s7 h).bind fun x => match x with
    | .inl (s, h) => J31_0 rc md h0 s.1 s.2.1 s.2.2 h
    | .inr (e, s, h) => Jk31_0 rc md h0 e s.1 s.2.1 s.2.2 h := by
  unfold J31_0
  rw [runL_eq]
  refine congrArg (Option.bind _) (funext fun x => ?_)
  rcases x with ⟨s, h⟩ | ⟨e, s, h⟩ <;> rfl
theorem J31_0_cut (rc : Rec) (md : Md) (h0 : Heap) : cut Try.prog cfg rc md 32 (bodyOf Try.prog 31) [1, 1, 0] (retK Try.prog cfg 31 (rsOf Try.prog 31) h0) = fun t h => J31_0 rc md h0 (t 0) (t 6) (t 7) h := by
  funext t h
  have e : sub (bodyOf Try.prog 31) [1, 1, 0] = .loop (sub (bodyOf Try.prog 31) [1, 1, 0, 0]) := by kernel_rfl
  unfold cut
  rw [e]
  exact loop_eq (by kernel_rfl) (fun t => (t 0, t 6, t 7)) (fun x : (Value × Value × Value) × Heap => Jr31_0 rc md x.1.1 x.1.2.1 x.1.2.2 x.2) (fun t h => Jr31_0_at rc md t h) (fun e (s : Value × Value × Value) h => Jk31_0 rc md h0 e s.1 s.2.1 s.2.2 h) (fun e t h => Jk31_0_at rc md h0 e t h) t h
noncomputable def F31 (rc : Rec) (md : Md) (a0 : Value) (a1 : Int) (a2 : Int) (h0 : Heap) : Option (Value × Heap) :=
  J31_0 rc md h0 a0 (.int .i64 a1) (.int .i64 (IntKind.wrap .i64 (a2 - 1))) h0
noncomputable def F31H (rc : Rec) (md : Md) (X0 : T → Heap → Option (Value × Heap)) (a0 : Value) (a1 : Int) (a2 : Int) (h0 : Heap) : Option (Value × Heap) :=
  X0 (upd (upd (upd (upd (upd (args0 [a0, (.int .i64 a1), (.int .i64 a2)]) 8 (.int .i64 a1)) 6 (.int .i64 a1)) 9 (.int .i64 a2)) 10 (.int .i64 (IntKind.wrap .i64 (a2 - 1)))) 7 (.int .i64 (IntKind.wrap .i64 (a2 - 1)))) h0
theorem F31_h0 (rc : Rec) (md : Md) (a0 : Value) (a1 : Int) (a2 : Int) (h0 : Heap) : callStep0 Try.prog cfg rc md 31 [a0, (.int .i64 a1), (.int .i64 a2)] h0 = exec Try.prog cfg rc ⟨md.ro, h0.length⟩ 32 (bodyOf Try.prog 31) (retK Try.prog cfg 31 (rsOf Try.prog 31) h0) (args0 [a0, (.int .i64 a1), (.int .i64 a2)]) h0 := callStep0_run (by kernel_rfl) (by kernel_rfl) (by kernel_rfl)
theorem F31_h1 (rc : Rec) (md : Md) (X : Nat → T → Heap → Option (Value × Heap)) (a0 : Value) (a1 : Int) (a2 : Int) (h0 : Heap) : execG Try.prog cfg X rc md 32 (replS (bodyOf Try.prog 31) [([1, 1, 0], 0)]) (retK Try.prog cfg 31 (rsOf Try.prog 31) h0) (args0 [a0, (.int .i64 a1), (.int .i64 a2)]) h0 = F31H rc md (X 0) a0 a1 a2 h0 := by kernel_rfl
theorem F31_h2 (rc : Rec) (md : Md) (a0 : Value) (a1 : Int) (a2 : Int) (h0 : Heap) : F31H rc md (fun t h => J31_0 rc md h0 (t 0) (t 6) (t 7) h) a0 a1 a2 h0 = F31 rc md a0 a1 a2 h0 := by unfold F31H F31; kernel_rfl
theorem F31_eq0 (rc : Rec) (md : Md) (a0 : Value) (a1 : Int) (a2 : Int) (h0 : Heap) : callStep0 Try.prog cfg rc md 31 [a0, (.int .i64 a1), (.int .i64 a2)] h0 = F31 rc ⟨md.ro, h0.length⟩ a0 a1 a2 h0 := by
  rw [F31_h0, exec_holes [([1, 1, 0], 0)] (by kernel_rfl), F31_h1, show (goX Try.prog cfg rc ⟨md.ro, h0.length⟩ 32 (bodyOf Try.prog 31) [([1, 1, 0], 0)] (retK Try.prog cfg 31 (rsOf Try.prog 31) h0)) 0 = _ from J31_0_cut rc ⟨md.ro, h0.length⟩ h0]
  exact F31_h2 rc _ a0 a1 a2 h0
theorem F31_eq (rc : Rec) (md : Md) (a0 : Value) (a1 : Int) (a2 : Int) (h0 : Heap) : callStep Try.prog cfg rc md 31 [a0, (.int .i64 a1), (.int .i64 a2)] h0 = F31 rc ⟨md.ro, h0.length⟩ a0 a1 a2 h0 := (callStep_ne (by kernel_rfl)).trans (F31_eq0 rc md a0 a1 a2 h0)

/-- slices.partialInsertionSortOrdered[int] -/
noncomputable def Jk32_0 (rc : Rec) (md : Md) (h0 : Heap) (e : Exit) (s0 : Value) (s1 : Value) (s2 : Value) (s6 : Value) (s7 : Value) (s8 : Value) (h : Heap) : Option (Value × Heap) :=
  match e with
  | .normal =>
    some ((.bool false), List.take h0.length h)
  | .exit j =>
    bif Nat.beq j 0 then
      some ((.bool false), List.take h0.length h)
    else
      none
  | .ret =>
    fin1 h0 s6 h
  | .goto l => none
  | .panic ps => none
  | .outgrown => none
theorem Jk32_0_at (rc : Rec) (md : Md) (h0 : Heap) (e : Exit) (t : T) (h : Heap) : kAt Try.prog cfg rc md 133 (bodyOf Try.prog 32) [1, 1, 0, 1, 0] (retK Try.prog cfg 32 (rsOf Try.prog 32) h0) e t h = Jk32_0 rc md h0 e (t 0) (t 1) (t 2) (t 6) (t 7) (t 8) h := by cases e <;> kernel_rfl
noncomputable def Jk32_0b4 (rc : Rec) (md : Md) (e : Exit) (s0 : Value) (s1 : Value) (s2 : Value) (s6 : Value) (s7 : Value) (s8 : Value) (s10 : Value) (h : Heap) : Option (((Value × Value × Value × Value × Value × Value) × Heap) ⊕ (Exit × (Value × Value × Value × Value × Value × Value) × Heap)) :=
  match e with
  | .normal =>
    aBin Try.prog .add 3 s8 (.int .i64 1) fun v1 =>
    some (.inl ((s0, s1, s2, s6, s7, v1), h))
  | .exit j =>
    bif Nat.beq j 6 then
      aBin Try.prog .add 3 s8 (.int .i64 1) fun v2 =>
      some (.inl ((s0, s1, s2, s6, s7, v2), h))
    else
      bif Nat.beq j 1 then
        aBin Try.prog .add 3 s8 (.int .i64 1) fun v3 =>
        some (.inl ((s0, s1, s2, s6, s7, v3), h))
      else
        some (.inr ((.exit j), (s0, s1, s2, s6, s7, s8), h))
  | .ret =>
    some (.inr (.ret, (s0, s1, s2, s6, s7, s8), h))
  | .goto l => some (.inr ((.goto l), (s0, s1, s2, s6, s7, s8), h))
  | .panic ps => some (.inr ((.panic ps), (s0, s1, s2, s6, s7, s8), h))
  | .outgrown => some (.inr (.outgrown, (s0, s1, s2, s6, s7, s8), h))
theorem Jk32_0b4_at (rc : Rec) (md : Md) (e : Exit) (t : T) (h : Heap) : kAt Try.prog cfg rc md 133 (sub (bodyOf Try.prog 32) [1, 1, 0, 1, 0, 0]) [1, 0, 0, 1, 1, 1, 1, 1, 1, 0, 1, 0] (rndK (fun t => (t 0, t 1, t 2, t 6, t 7, t 8))) e t h = Jk32_0b4 rc md e (t 0) (t 1) (t 2) (t 6) (t 7) (t 8) (t 10) h := by cases e <;> kernel_rfl
/-- a round -/
noncomputable def Jr32_0b4 (rc : Rec) (md : Md) (s0 : Value) (s1 : Value) (s2 : Value) (s6 : Value) (s7 : Value) (s8 : Value) (s10 : Value) (h : Heap) : Option (((Value × Value × Value × Value × Value × Value × Value) × Heap) ⊕ (Exit × (Value × Value × Value × Value × Value × Value × Value) × Heap)) :=
  aBin Try.prog .lss 3 s10 s2 fun v1 =>
  cBn v1 fun b2 =>
  bif b2 then
    ixSV 1 s0 s10 fun v3 =>
    ld1 v3 h fun v4 =>
    cIn .i64 v4 fun n5 =>
    aBin Try.prog .sub 3 s10 (.int .i64 1) fun v6 =>
    ixSV 1 s0 v6 fun v7 =>
    ld1 v7 h fun v8 =>
    cIn .i64 v8 fun n9 =>
    cl (rc md 33 [(.int .i64 n5), (.int .i64 n9)] h) fun v10 h11 =>
    cBn v10 fun b12 =>
    bif !b12 then
      some (.inr ((.exit 6), (s0, s1, s2, s6, s7, s8, s10), h11))
    else
      aBin Try.prog .sub 3 s10 (.int .i64 1) fun v13 =>
      aBin Try.prog .sub 3 s10 (.int .i64 1) fun v14 =>
      ixSV 1 s0 v14 fun v15 =>
      ld1 v15 h11 fun v16 =>
      cIn .i64 v16 fun n17 =>
      ixSV 1 s0 s10 fun v18 =>
      ld1 v18 h11 fun v19 =>
      cIn .i64 v19 fun n20 =>
      ixSV 1 s0 s10 fun v21 =>
      st md 1 v21 (.int .i64 n17) h11 fun h22 =>
      ixSV 1 s0 v13 fun v23 =>
      st md 1 v23 (.int .i64 n20) h22 fun h24 =>
      aBin Try.prog .add 3 s10 (.int .i64 1) fun v25 =>
      some (.inl ((s0, s1, s2, s6, s7, s8, v25), h24))
  else
    some (.inr ((.exit 6), (s0, s1, s2, s6, s7, s8, s10), h))
theorem Jr32_0b4_at (rc : Rec) (md : Md) (t : T) (h : Heap) : exec Try.prog cfg rc md 133 (sub (bodyOf Try.prog 32) [1, 1, 0, 1, 0, 0, 1, 0, 0, 1, 1, 1, 1, 1, 1, 0, 1, 0, 0]) (rndK (fun t => (t 0, t 1, t 2, t 6, t 7, t 8, t 10))) t h = Jr32_0b4 rc md (t 0) (t 1) (t 2) (t 6) (t 7) (t 8) (t 10) h := by kernel_rfl
noncomputable def J32_0b4 (rc : Rec) (md : Md) (s0 : Value) (s1 : Value) (s2 : Value) (s6 : Value) (s7 : Value) (s8 : Value) (s10 : Value) (h : Heap) : Option (((Value × Value × Value × Value × Value × Value) × Heap) ⊕ (Exit × (Value × Value × Value × Value × Value × Value) × Heap)) :=
  runL (fun x : (Value × Value × Value × Value × Value × Value × Value) × Heap => Jr32_0b4 rc md x.1.1 x.1.2.1 x.1.2.2.1 x.1.2.2.2.1 x.1.2.2.2.2.1 x.1.2.2.2.2.2.1 x.1.2.2.2.2.2.2 x.2) (fun e (s : Value × Value × Value × Value × Value × Value × Value) h => Jk32_0b4 rc md e s.1 s.2.1 s.2.2.1 s.2.2.2.1 s.2.2.2.2.1 s.2.2.2.2.2.1 s.2.2.2.2.2.2 h) (s0, s1, s2, s6, s7, s8, s10) h
theorem J32_0b4_step (rc : Rec) (md : Md) (s0 : Value) (s1 : Value) (s2 : Value) (s6 : Value) (s7 : Value) (s8 : Value) (s10 : Value) (h : Heap) : J32_0b4 rc md s0 s1 s2 s6 s7 s8 s10 h = (Jr32_0b4 rc md s0 s1 s2 s6 s7 s8 s10 h).bind fun x => match x with
    | .inl (s, h) => J32_0b4 rc md s.1 s.2.1 s.2.2.1 s.2.2.2.1 s.2.2.2.2.1 s.2.2.2.2.2.1 s.2.2.2.2.2.2 h
    | .inr (e, s, h) => Jk32_0b4 rc md e s.1 s.2.1 s.2.2.1 s.2.2.2.1 s.2.2.2.2.1 s.2.2.2.2.2.1 s.2.2.2.2.2.2 h := by
  unfold J32_0b4
  rw [runL_eq]
  refine congrArg (Option.bind _) (funext fun x => ?_)
  rcases x with ⟨s, h⟩ | ⟨e, s, h⟩ <;> rfl
theorem J32_0b4_cut (rc : Rec) (md : Md) : cut Try.prog cfg rc md 133 (sub (bodyOf Try.prog 32) [1, 1, 0, 1, 0, 0]) [1, 0, 0, 1, 1, 1, 1, 1, 1, 0, 1, 0] (rndK (fun t => (t 0, t 1, t 2, t 6, t 7, t 8))) = fun t h => J32_0b4 rc md (t 0) (t 1) (t 2) (t 6) (t 7) (t 8) (t 10) h := by
  funext t h
  have e : sub (sub (bodyOf Try.prog 32) [1, 1, 0, 1, 0, 0]) [1, 0, 0, 1, 1, 1, 1, 1, 1, 0, 1, 0] = .loop (sub (bodyOf Try.prog 32) [1, 1, 0, 1, 0, 0, 1, 0, 0, 1, 1, 1, 1, 1, 1, 0, 1, 0, 0]) := by kernel_rfl
  unfold cut
  rw [e]
  exact loop_eq (by kernel_rfl) (fun t => (t 0, t 1, t 2, t 6, t 7, t 8, t 10)) (fun x : (Value × Value × Value × Value × Value × Value × Value) × Heap => Jr32_0b4 rc md x.1.1 x.1.2.1 x.1.2.2.1 x.1.2.2.2.1 x.1.2.2.2.2.1 x.1.2.2.2.2.2.1 x.1.2.2.2.2.2.2 x.2) (fun t h => Jr32_0b4_at rc md t h) (fun e (s : Value × Value × Value × Value × Value × Value × Value) h => Jk32_0b4 rc md e s.1 s.2.1 s.2.2.1 s.2.2.2.1 s.2.2.2.2.1 s.2.2.2.2.2.1 s.2.2.2.2.2.2 h) (fun e t h => Jk32_0b4_at rc md e t h) t h
noncomputable def J32_0b3 (rc : Rec) (md : Md) (s0 : Value) (s1 : Value) (s2 : Value) (s6 : Value) (s7 : Value) (s8 : Value) (h : Heap) : Option (((Value × Value × Value × Value × Value × Value) × Heap) ⊕ (Exit × (Value × Value × Value × Value × Value × Value) × Heap)) :=
  aBin Try.prog .sub 3 s2 s7 fun v1 =>
  aBin Try.prog .geq 3 v1 (.int .i64 2) fun v2 =>
  cBn v2 fun b3 =>
  bif b3 then
    aBin Try.prog .add 3 s7 (.int .i64 1) fun v4 =>
    J32_0b4 rc md s0 s1 s2 s6 s7 s8 v4 h
  else
    aBin Try.prog .add 3 s8 (.int .i64 1) fun v5 =>
    some (.inl ((s0, s1, s2, s6, s7, v5), h))
noncomputable def J32_0b3H (rc : Rec) (md : Md) (X2 : T → Heap → Option (((Value × Value × Value × Value × Value × Value) × Heap) ⊕ (Exit × (Value × Value × Value × Value × Value × Value) × Heap))) (t : T) (h : Heap) : Option (((Value × Value × Value × Value × Value × Value) × Heap) ⊕ (Exit × (Value × Value × Value × Value × Value × Value) × Heap)) :=
  aBin Try.prog .sub 3 (t 2) (t 7) fun v1 =>
  aBin Try.prog .geq 3 v1 (.int .i64 2) fun v2 =>
  cBn v2 fun b3 =>
  bif b3 then
    aBin Try.prog .add 3 (t 7) (.int .i64 1) fun v4 =>
    X2 (upd (upd (upd (upd (upd (upd (upd t 95 (t 2)) 96 (t 7)) 97 v1) 98 v2) 99 (t 7)) 100 v4) 10 v4) h
  else
    aBin Try.prog .add 3 (t 8) (.int .i64 1) fun v5 =>
    some (.inl (((t 0), (t 1), (t 2), (t 6), (t 7), v5), h))
theorem J32_0b3_h1 (rc : Rec) (md : Md) (X : Nat → T → Heap → Option (((Value × Value × Value × Value × Value × Value) × Heap) ⊕ (Exit × (Value × Value × Value × Value × Value × Value) × Heap))) (t : T) (h : Heap) : execG Try.prog cfg X rc md 133 (sub (replS (sub (bodyOf Try.prog 32) [1, 1, 0, 1, 0, 0]) [([1, 0, 0, 0, 0], 0), ([1, 0, 0, 1, 1, 1, 1, 0, 1, 0, 1, 0], 1), ([1, 0, 0, 1, 1, 1, 1, 1, 1, 0, 1, 0], 2)]) [1, 0, 0, 1, 1, 1, 1, 1]) (kAtG Try.prog cfg X rc md 133 (replS (sub (bodyOf Try.prog 32) [1, 1, 0, 1, 0, 0]) [([1, 0, 0, 0, 0], 0), ([1, 0, 0, 1, 1, 1, 1, 0, 1, 0, 1, 0], 1), ([1, 0, 0, 1, 1, 1, 1, 1, 1, 0, 1, 0], 2)]) [1, 0, 0, 1, 1, 1, 1, 1] (rndK (fun t => (t 0, t 1, t 2, t 6, t 7, t 8)))) t h = J32_0b3H rc md (X 2) t h := by kernel_rfl
theorem J32_0b3_h2 (rc : Rec) (md : Md) (t : T) (h : Heap) : J32_0b3H rc md (fun t h => J32_0b4 rc md (t 0) (t 1) (t 2) (t 6) (t 7) (t 8) (t 10) h) t h = J32_0b3 rc md (t 0) (t 1) (t 2) (t 6) (t 7) (t 8) h := by (unfold J32_0b3H J32_0b3; kernel_rfl)
theorem J32_0b3_at (rc : Rec) (md : Md) (t : T) (h : Heap) : cut Try.prog cfg rc md 133 (sub (bodyOf Try.prog 32) [1, 1, 0, 1, 0, 0]) [1, 0, 0, 1, 1, 1, 1, 1] (rndK (fun t => (t 0, t 1, t 2, t 6, t 7, t 8))) t h = J32_0b3 rc md (t 0) (t 1) (t 2) (t 6) (t 7) (t 8) h := by
  rw [cut_holes [([1, 0, 0, 0, 0], 0), ([1, 0, 0, 1, 1, 1, 1, 0, 1, 0, 1, 0], 1), ([1, 0, 0, 1, 1, 1, 1, 1, 1, 0, 1, 0], 2)] [1, 0, 0, 1, 1, 1, 1, 1] (by kernel_rfl), J32_0b3_h1, show (goX Try.prog cfg rc md 133 (sub (bodyOf Try.prog 32) [1, 1, 0, 1, 0, 0]) [([1, 0, 0, 0, 0], 0), ([1, 0, 0, 1, 1, 1, 1, 0, 1, 0, 1, 0], 1), ([1, 0, 0, 1, 1, 1, 1, 1, 1, 0, 1, 0], 2)] (rndK (fun t => (t 0, t 1, t 2, t 6, t 7, t 8)))) 2 = _ from J32_0b4_cut rc md]
  exact J32_0b3_h2 rc md t h
theorem J32_0b3_cut (rc : Rec) (md : Md) : cut Try.prog cfg rc md 133 (sub (bodyOf Try.prog 32) [1, 1, 0, 1, 0, 0]) [1, 0, 0, 1, 1, 1, 1, 1] (rndK (fun t => (t 0, t 1, t 2, t 6, t 7, t 8))) = fun t h => J32_0b3 rc md (t 0) (t 1) (t 2) (t 6) (t 7) (t 8) h := funext fun t => funext fun h => J32_0b3_at rc md t h
noncomputable def Jk32_0b2 (rc : Rec) (md : Md) (e : Exit) (s0 : Value) (s1 : Value) (s2 : Value) (s6 : Value) (s7 : Value) (s8 : Value) (s9 : Value) (h : Heap) : Option (((Value × Value × Value × Value × Value × Value) × Heap) ⊕ (Exit × (Value × Value × Value × Value × Value × Value) × Heap)) :=
  match e with
  | .normal =>
    J32_0b3 rc md s0 s1 s2 s6 s7 s8 h
  | .exit j =>
    bif Nat.beq j 4 then
      J32_0b3 rc md s0 s1 s2 s6 s7 s8 h
    else
      bif Nat.beq j 1 then
        aBin Try.prog .add 3 s8 (.int .i64 1) fun v1 =>
        some (.inl ((s0, s1, s2, s6, s7, v1), h))
      else
        some (.inr ((.exit j), (s0, s1, s2, s6, s7, s8), h))
  | .ret =>
    some (.inr (.ret, (s0, s1, s2, s6, s7, s8), h))
  | .goto l => some (.inr ((.goto l), (s0, s1, s2, s6, s7, s8), h))
  | .panic ps => some (.inr ((.panic ps), (s0, s1, s2, s6, s7, s8), h))
  | .outgrown => some (.inr (.outgrown, (s0, s1, s2, s6, s7, s8), h))
noncomputable def Jk32_0b2H (rc : Rec) (md : Md) (X3 : T → Heap → Option (((Value × Value × Value × Value × Value × Value) × Heap) ⊕ (Exit × (Value × Value × Value × Value × Value × Value) × Heap))) (e : Exit) (t : T) (h : Heap) : Option (((Value × Value × Value × Value × Value × Value) × Heap) ⊕ (Exit × (Value × Value × Value × Value × Value × Value) × Heap)) :=
  match e with
  | .normal =>
    X3 t h
  | .exit j =>
    bif Nat.beq j 4 then
      X3 t h
    else
      bif Nat.beq j 1 then
        aBin Try.prog .add 3 (t 8) (.int .i64 1) fun v1 =>
        some (.inl (((t 0), (t 1), (t 2), (t 6), (t 7), v1), h))
      else
        some (.inr ((.exit j), ((t 0), (t 1), (t 2), (t 6), (t 7), (t 8)), h))
  | .ret =>
    some (.inr (.ret, ((t 0), (t 1), (t 2), (t 6), (t 7), (t 8)), h))
  | .goto l => some (.inr ((.goto l), ((t 0), (t 1), (t 2), (t 6), (t 7), (t 8)), h))
  | .panic ps => some (.inr ((.panic ps), ((t 0), (t 1), (t 2), (t 6), (t 7), (t 8)), h))
  | .outgrown => some (.inr (.outgrown, ((t 0), (t 1), (t 2), (t 6), (t 7), (t 8)), h))
theorem Jk32_0b2_h1 (rc : Rec) (md : Md) (X : Nat → T → Heap → Option (((Value × Value × Value × Value × Value × Value) × Heap) ⊕ (Exit × (Value × Value × Value × Value × Value × Value) × Heap))) (e : Exit) (t : T) (h : Heap) : kAtG Try.prog cfg X rc md 133 (replS (sub (bodyOf Try.prog 32) [1, 1, 0, 1, 0, 0]) [([1, 0, 0, 0, 0], 0), ([1, 0, 0, 1, 1, 1, 1, 1, 1, 0, 1, 0], 2), ([1, 0, 0, 1, 1, 1, 1, 1], 3)]) [1, 0, 0, 1, 1, 1, 1, 0, 1, 0, 1, 0] (rndK (fun t => (t 0, t 1, t 2, t 6, t 7, t 8))) e t h = Jk32_0b2H rc md (X 3) e t h := by cases e <;> kernel_rfl
theorem Jk32_0b2_h2 (rc : Rec) (md : Md) (e : Exit) (t : T) (h : Heap) : Jk32_0b2H rc md (fun t h => J32_0b3 rc md (t 0) (t 1) (t 2) (t 6) (t 7) (t 8) h) e t h = Jk32_0b2 rc md e (t 0) (t 1) (t 2) (t 6) (t 7) (t 8) (t 9) h := by cases e <;> (unfold Jk32_0b2H Jk32_0b2; kernel_rfl)
theorem Jk32_0b2_at (rc : Rec) (md : Md) (e : Exit) (t : T) (h : Heap) : kAt Try.prog cfg rc md 133 (sub (bodyOf Try.prog 32) [1, 1, 0, 1, 0, 0]) [1, 0, 0, 1, 1, 1, 1, 0, 1, 0, 1, 0] (rndK (fun t => (t 0, t 1, t 2, t 6, t 7, t 8))) e t h = Jk32_0b2 rc md e (t 0) (t 1) (t 2) (t 6) (t 7) (t 8) (t 9) h := by
  rw [kAt_holes [([1, 0, 0, 0, 0], 0), ([1, 0, 0, 1, 1, 1, 1, 1, 1, 0, 1, 0], 2), ([1, 0, 0, 1, 1, 1, 1, 1], 3)] [1, 0, 0, 1, 1, 1, 1, 0, 1, 0, 1, 0] (by kernel_rfl), Jk32_0b2_h1, show (goX Try.prog cfg rc md 133 (sub (bodyOf Try.prog 32) [1, 1, 0, 1, 0, 0]) [([1, 0, 0, 0, 0], 0), ([1, 0, 0, 1, 1, 1, 1, 1, 1, 0, 1, 0], 2), ([1, 0, 0, 1, 1, 1, 1, 1], 3)] (rndK (fun t => (t 0, t 1, t 2, t 6, t 7, t 8)))) 3 = _ from J32_0b3_cut rc md]
  exact Jk32_0b2_h2 rc md e t h
/-- a round -/
noncomputable def Jr32_0b2 (rc : Rec) (md : Md) (s0 : Value) (s1 : Value) (s2 : Value) (s6 : Value) (s7 : Value) (s8 : Value) (s9 : Value) (h : Heap) : Option (((Value × Value × Value × Value × Value × Value × Value) × Heap) ⊕ (Exit × (Value × Value × Value × Value × Value × Value × Value) × Heap)) :=
  aBin Try.prog .geq 3 s9 (.int .i64 1) fun v1 =>
  cBn v1 fun b2 =>
  bif b2 then
    ixSV 1 s0 s9 fun v3 =>
    ld1 v3 h fun v4 =>
    cIn .i64 v4 fun n5 =>
    aBin Try.prog .sub 3 s9 (.int .i64 1) fun v6 =>
    ixSV 1 s0 v6 fun v7 =>
    ld1 v7 h fun v8 =>
    cIn .i64 v8 fun n9 =>
    cl (rc md 33 [(.int .i64 n5), (.int .i64 n9)] h) fun v10 h11 =>
    cBn v10 fun b12 =>
    bif !b12 then
      some (.inr ((.exit 4), (s0, s1, s2, s6, s7, s8, s9), h11))
    else
      aBin Try.prog .sub 3 s9 (.int .i64 1) fun v13 =>
      aBin Try.prog .sub 3 s9 (.int .i64 1) fun v14 =>
      ixSV 1 s0 v14 fun v15 =>
      ld1 v15 h11 fun v16 =>
      cIn .i64 v16 fun n17 =>
      ixSV 1 s0 s9 fun v18 =>
      ld1 v18 h11 fun v19 =>
      cIn .i64 v19 fun n20 =>
      ixSV 1 s0 s9 fun v21 =>
      st md 1 v21 (.int .i64 n17) h11 fun h22 =>
      ixSV 1 s0 v13 fun v23 =>
      st md 1 v23 (.int .i64 n20) h22 fun h24 =>
      aBin Try.prog .sub 3 s9 (.int .i64 1) fun v25 =>
      some (.inl ((s0, s1, s2, s6, s7, s8, v25), h24))
  else
    some (.inr ((.exit 4), (s0, s1, s2, s6, s7, s8, s9), h))
theorem Jr32_0b2_at (rc : Rec) (md : Md) (t : T) (h : Heap) : exec Try.prog cfg rc md 133 (sub (bodyOf Try.prog 32) [1, 1, 0, 1, 0, 0, 1, 0, 0, 1, 1, 1, 1, 0, 1, 0, 1, 0, 0]) (rndK (fun t => (t 0, t 1, t 2, t 6, t 7, t 8, t 9))) t h = Jr32_0b2 rc md (t 0) (t 1) (t 2) (t 6) (t 7) (t 8) (t 9) h := by kernel_rfl
noncomputable def J32_0b2 (rc : Rec) (md : Md) (s0 : Value) (s1 : Value) (s2 : Value) (s6 : Value) (s7 : Value) (s8 : Value) (s9 : Value) (h : Heap) : Option (((Value × Value × Value × Value × Value × Value) × Heap) ⊕ (Exit × (Value × Value × Value × Value × Value × Value) × Heap)) :=
  runL (fun x : (Value × Value × Value × Value × Value × Value × Value) × Heap => Jr32_0b2 rc md x.1.1 x.1.2.1 x.1.2.2.1 x.1.2.2.2.1 x.1.2.2.2.2.1 x.1.2.2.2.2.2.1 x.1.2.2.2.2.2.2 x.2) (fun e (s : Value × Value × Value × Value × Value × Value × Value) h => Jk32_0b2 rc md e s.1 s.2.1 s.2.2.1 s.2.2.2.1 s.2.2.2.2.1 s.2.2.2.2.2.1 s.2.2.2.2.2.2 h) (s0, s1, s2, s6, s7, s8, s9) h
theorem J32_0b2_step (rc : Rec) (md : Md) (s0 : Value) (s1 : Value) (s2 : Value) (s6 : Value) (s7 : Value) (s8 : Value) (s9 : Value) (h : Heap) : J32_0b2 rc md s0 s1 s2 s6 s7 s8 s9 h = (Jr32_0b2 rc md s0 s1 s2 s6 s7 s8 s9 h).bind fun x => match x with
    | .inl (s, h) => J32_0b2 rc md s.1 s.2.1 s.2.2.1 s.2.2.2.1 s.2.2.2.2.1 s.2.2.2.2.2.1 s.2.2.2.2.2.2 h
    | .inr (e, s, h) => Jk32_0b2 rc md e s.1 s.2.1 s.2.2.1 s.2.2.2.1 s.2.2.2.2.1 s.2.2.2.2.2.1 s.2.2.2.2.2.2 h := by
  unfold J32_0b2
  rw [runL_eq]
  refine congrArg (Option.bind _) (funext fun x => ?_)
  rcases x with ⟨s, h⟩ | ⟨e, s, h⟩ <;> rfl
theorem J32_0b2_cut (rc : Rec) (md : Md) : cut Try.prog cfg rc md 133 (sub (bodyOf Try.prog 32) [1, 1, 0, 1, 0, 0]) [1, 0, 0, 1, 1, 1, 1, 0, 1, 0, 1, 0] (rndK (fun t => (t 0, t 1, t 2, t 6, t 7, t 8))) = fun t h => J32_0b2 rc md (t 0) (t 1) (t 2) (t 6) (t 7) (t 8) (t 9) h := by
  funext t h
  have e : sub (sub (bodyOf Try.prog 32) [1, 1, 0, 1, 0, 0]) [1, 0, 0, 1, 1, 1, 1, 0, 1, 0, 1, 0] = .loop (sub (bodyOf Try.prog 32) [1, 1, 0, 1, 0, 0, 1, 0, 0, 1, 1, 1, 1, 0, 1, 0, 1, 0, 0]) := by kernel_rfl
  unfold cut
  rw [e]
  exact loop_eq (by kernel_rfl) (fun t => (t 0, t 1, t 2, t 6, t 7, t 8, t 9)) (fun x : (Value × Value × Value × Value × Value × Value × Value) × Heap => Jr32_0b2 rc md x.1.1 x.1.2.1 x.1.2.2.1 x.1.2.2.2.1 x.1.2.2.2.2.1 x.1.2.2.2.2.2.1 x.1.2.2.2.2.2.2 x.2) (fun t h => Jr32_0b2_at rc md t h) (fun e (s : Value × Value × Value × Value × Value × Value × Value) h => Jk32_0b2 rc md e s.1 s.2.1 s.2.2.1 s.2.2.2.1 s.2.2.2.2.1 s.2.2.2.2.2.1 s.2.2.2.2.2.2 h) (fun e t h => Jk32_0b2_at rc md e t h) t h
noncomputable def J32_0b1 (rc : Rec) (md : Md) (s0 : Value) (s1 : Value) (s2 : Value) (s6 : Value) (s7 : Value) (s8 : Value) (h : Heap) : Option (((Value × Value × Value × Value × Value × Value) × Heap) ⊕ (Exit × (Value × Value × Value × Value × Value × Value) × Heap)) :=
  aBin Try.prog .eql 3 s7 s2 fun v1 =>
  cBn v1 fun b2 =>
  bif b2 then
    some (.inr (.ret, (s0, s1, s2, (.bool true), s7, s8), h))
  else
    aBin Try.prog .sub 3 s2 s1 fun v3 =>
    aBin Try.prog .lss 3 v3 (.int .i64 50) fun v4 =>
    cBn v4 fun b5 =>
    bif b5 then
      some (.inr (.ret, (s0, s1, s2, (.bool false), s7, s8), h))
    else
      aBin Try.prog .sub 3 s7 (.int .i64 1) fun v6 =>
      aBin Try.prog .sub 3 s7 (.int .i64 1) fun v7 =>
      ixSV 1 s0 v7 fun v8 =>
      ld1 v8 h fun v9 =>
      cIn .i64 v9 fun n10 =>
      ixSV 1 s0 s7 fun v11 =>
      ld1 v11 h fun v12 =>
      cIn .i64 v12 fun n13 =>
      ixSV 1 s0 s7 fun v14 =>
      st md 1 v14 (.int .i64 n10) h fun h15 =>
      ixSV 1 s0 v6 fun v16 =>
      st md 1 v16 (.int .i64 n13) h15 fun h17 =>
      aBin Try.prog .sub 3 s7 s1 fun v18 =>
      aBin Try.prog .geq 3 v18 (.int .i64 2) fun v19 =>
      cBn v19 fun b20 =>
      bif b20 then
        aBin Try.prog .sub 3 s7 (.int .i64 1) fun v21 =>
        J32_0b2 rc md s0 s1 s2 s6 s7 s8 v21 h17
      else
        J32_0b3 rc md s0 s1 s2 s6 s7 s8 h17
noncomputable def J32_0b1H (rc : Rec) (md : Md) (X1 : T → Heap → Option (((Value × Value × Value × Value × Value × Value) × Heap) ⊕ (Exit × (Value × Value × Value × Value × Value × Value) × Heap))) (X3 : T → Heap → Option (((Value × Value × Value × Value × Value × Value) × Heap) ⊕ (Exit × (Value × Value × Value × Value × Value × Value) × Heap))) (t : T) (h : Heap) : Option (((Value × Value × Value × Value × Value × Value) × Heap) ⊕ (Exit × (Value × Value × Value × Value × Value × Value) × Heap)) :=
  aBin Try.prog .eql 3 (t 7) (t 2) fun v1 =>
  cBn v1 fun b2 =>
  bif b2 then
    some (.inr (.ret, ((t 0), (t 1), (t 2), (.bool true), (t 7), (t 8)), h))
  else
    aBin Try.prog .sub 3 (t 2) (t 1) fun v3 =>
    aBin Try.prog .lss 3 v3 (.int .i64 50) fun v4 =>
    cBn v4 fun b5 =>
    bif b5 then
      some (.inr (.ret, ((t 0), (t 1), (t 2), (.bool false), (t 7), (t 8)), h))
    else
      aBin Try.prog .sub 3 (t 7) (.int .i64 1) fun v6 =>
      aBin Try.prog .sub 3 (t 7) (.int .i64 1) fun v7 =>
      ixSV 1 (t 0) v7 fun v8 =>
      ld1 v8 h fun v9 =>
      cIn .i64 v9 fun n10 =>
      ixSV 1 (t 0) (t 7) fun v11 =>
      ld1 v11 h fun v12 =>
      cIn .i64 v12 fun n13 =>
      ixSV 1 (t 0) (t 7) fun v14 =>
      st md 1 v14 (.int .i64 n10) h fun h15 =>
      ixSV 1 (t 0) v6 fun v16 =>
      st md 1 v16 (.int .i64 n13) h15 fun h17 =>
      aBin Try.prog .sub 3 (t 7) (t 1) fun v18 =>
      aBin Try.prog .geq 3 v18 (.int .i64 2) fun v19 =>
      cBn v19 fun b20 =>
      bif b20 then
        aBin Try.prog .sub 3 (t 7) (.int .i64 1) fun v21 =>
        X1 (upd (upd (upd (upd (upd (upd (upd (upd (upd (upd (upd (upd (upd (upd (upd (upd (upd (upd (upd (upd (upd (upd (upd (upd (upd (upd (upd (upd (upd (upd t 35 (t 7)) 36 (t 2)) 37 v1) 38 (t 2)) 39 (t 1)) 40 v3) 41 v4) 42 (t 0)) 43 (t 7)) 44 (t 0)) 45 (t 7)) 46 v6) 47 (t 0)) 48 (t 7)) 49 v7) 50 v8) 51 (.int .i64 n10)) 52 (t 0)) 53 (t 7)) 54 v11) 55 (.int .i64 n13)) 56 v14) 57 v16) 58 (t 7)) 59 (t 1)) 60 v18) 61 v19) 62 (t 7)) 63 v21) 9 v21) h17
      else
        X3 (upd (upd (upd (upd (upd (upd (upd (upd (upd (upd (upd (upd (upd (upd (upd (upd (upd (upd (upd (upd (upd (upd (upd (upd (upd (upd (upd t 35 (t 7)) 36 (t 2)) 37 v1) 38 (t 2)) 39 (t 1)) 40 v3) 41 v4) 42 (t 0)) 43 (t 7)) 44 (t 0)) 45 (t 7)) 46 v6) 47 (t 0)) 48 (t 7)) 49 v7) 50 v8) 51 (.int .i64 n10)) 52 (t 0)) 53 (t 7)) 54 v11) 55 (.int .i64 n13)) 56 v14) 57 v16) 58 (t 7)) 59 (t 1)) 60 v18) 61 v19) h17
theorem J32_0b1_h1 (rc : Rec) (md : Md) (X : Nat → T → Heap → Option (((Value × Value × Value × Value × Value × Value) × Heap) ⊕ (Exit × (Value × Value × Value × Value × Value × Value) × Heap))) (t : T) (h : Heap) : execG Try.prog cfg X rc md 133 (sub (replS (sub (bodyOf Try.prog 32) [1, 1, 0, 1, 0, 0]) [([1, 0, 0, 0, 0], 0), ([1, 0, 0, 1, 1, 1, 1, 0, 1, 0, 1, 0], 1), ([1, 0, 0, 1, 1, 1, 1, 1, 1, 0, 1, 0], 2), ([1, 0, 0, 1, 1, 1, 1, 1], 3)]) [1, 0, 0, 1]) (kAtG Try.prog cfg X rc md 133 (replS (sub (bodyOf Try.prog 32) [1, 1, 0, 1, 0, 0]) [([1, 0, 0, 0, 0], 0), ([1, 0, 0, 1, 1, 1, 1, 0, 1, 0, 1, 0], 1), ([1, 0, 0, 1, 1, 1, 1, 1, 1, 0, 1, 0], 2), ([1, 0, 0, 1, 1, 1, 1, 1], 3)]) [1, 0, 0, 1] (rndK (fun t => (t 0, t 1, t 2, t 6, t 7, t 8)))) t h = J32_0b1H rc md (X 1) (X 3) t h := by kernel_rfl
theorem J32_0b1_h2 (rc : Rec) (md : Md) (t : T) (h : Heap) : J32_0b1H rc md (fun t h => J32_0b2 rc md (t 0) (t 1) (t 2) (t 6) (t 7) (t 8) (t 9) h) (fun t h => J32_0b3 rc md (t 0) (t 1) (t 2) (t 6) (t 7) (t 8) h) t h = J32_0b1 rc md (t 0) (t 1) (t 2) (t 6) (t 7) (t 8) h := by (unfold J32_0b1H J32_0b1; kernel_rfl)
theorem J32_0b1_at (rc : Rec) (md : Md) (t : T) (h : Heap) : cut Try.prog cfg rc md 133 (sub (bodyOf Try.prog 32) [1, 1, 0, 1, 0, 0]) [1, 0, 0, 1] (rndK (fun t => (t 0, t 1, t 2, t 6, t 7, t 8))) t h = J32_0b1 rc md (t 0) (t 1) (t 2) (t 6) (t 7) (t 8) h := by
  rw [cut_holes [([1, 0, 0, 0, 0], 0), ([1, 0, 0, 1, 1, 1, 1, 0, 1, 0, 1, 0], 1), ([1, 0, 0, 1, 1, 1, 1, 1, 1, 0, 1, 0], 2), ([1, 0, 0, 1, 1, 1, 1, 1], 3)] [1, 0, 0, 1] (by kernel_rfl), J32_0b1_h1, show (goX Try.prog cfg rc md 133 (sub (bodyOf Try.prog 32) [1, 1, 0, 1, 0, 0]) [([1, 0, 0, 0, 0], 0), ([1, 0, 0, 1, 1, 1, 1, 0, 1, 0, 1, 0], 1), ([1, 0, 0, 1, 1, 1, 1, 1, 1, 0, 1, 0], 2), ([1, 0, 0, 1, 1, 1, 1, 1], 3)] (rndK (fun t => (t 0, t 1, t 2, t 6, t 7, t 8)))) 1 = _ from J32_0b2_cut rc md, show (goX Try.prog cfg rc md 133 (sub (bodyOf Try.prog 32) [1, 1, 0, 1, 0, 0]) [([1, 0, 0, 0, 0], 0), ([1, 0, 0, 1, 1, 1, 1, 0, 1, 0, 1, 0], 1), ([1, 0, 0, 1, 1, 1, 1, 1, 1, 0, 1, 0], 2), ([1, 0, 0, 1, 1, 1, 1, 1], 3)] (rndK (fun t => (t 0, t 1, t 2, t 6, t 7, t 8)))) 3 = _ from J32_0b3_cut rc md]
  exact J32_0b1_h2 rc md t h
theorem J32_0b1_cut (rc : Rec) (md : Md) : cut Try.prog cfg rc md 133 (sub (bodyOf Try.prog 32) [1, 1, 0, 1, 0, 0]) [1, 0, 0, 1] (rndK (fun t => (t 0, t 1, t 2, t 6, t 7, t 8))) = fun t h => J32_0b1 rc md (t 0) (t 1) (t 2) (t 6) (t 7) (t 8) h := funext fun t => funext fun h => J32_0b1_at rc md t h
noncomputable def Jk32_0b0 (rc : Rec) (md : Md) (e : Exit) (s0 : Value) (s1 : Value) (s2 : Value) (s6 : Value) (s7 : Value) (s8 : Value) (h : Heap) : Option (((Value × Value × Value × Value × Value × Value) × Heap) ⊕ (Exit × (Value × Value × Value × Value × Value × Value) × Heap)) :=
  match e with
  | .normal =>
    J32_0b1 rc md s0 s1 s2 s6 s7 s8 h
  | .exit j =>
    bif Nat.beq j 2 then
      J32_0b1 rc md s0 s1 s2 s6 s7 s8 h
    else
      bif Nat.beq j 1 then
        aBin Try.prog .add 3 s8 (.int .i64 1) fun v1 =>
        some (.inl ((s0, s1, s2, s6, s7, v1), h))
      else
        some (.inr ((.exit j), (s0, s1, s2, s6, s7, s8), h))
  | .ret =>
    some (.inr (.ret, (s0, s1, s2, s6, s7, s8), h))
  | .goto l => some (.inr ((.goto l), (s0, s1, s2, s6, s7, s8), h))
  | .panic ps => some (.inr ((.panic ps), (s0, s1, s2, s6, s7, s8), h))
  | .outgrown => some (.inr (.outgrown, (s0, s1, s2, s6, s7, s8), h))
noncomputable def Jk32_0b0H (rc : Rec) (md : Md) (X4 : T → Heap → Option (((Value × Value × Value × Value × Value × Value) × Heap) ⊕ (Exit × (Value × Value × Value × Value × Value × Value) × Heap))) (e : Exit) (t : T) (h : Heap) : Option (((Value × Value × Value × Value × Value × Value) × Heap) ⊕ (Exit × (Value × Value × Value × Value × Value × Value) × Heap)) :=
  match e with
  | .normal =>
    X4 t h
  | .exit j =>
    bif Nat.beq j 2 then
      X4 t h
    else
      bif Nat.beq j 1 then
        aBin Try.prog .add 3 (t 8) (.int .i64 1) fun v1 =>
        some (.inl (((t 0), (t 1), (t 2), (t 6), (t 7), v1), h))
      else
        some (.inr ((.exit j), ((t 0), (t 1), (t 2), (t 6), (t 7), (t 8)), h))
  | .ret =>
    some (.inr (.ret, ((t 0), (t 1), (t 2), (t 6), (t 7), (t 8)), h))
  | .goto l => some (.inr ((.goto l), ((t 0), (t 1), (t 2), (t 6), (t 7), (t 8)), h))
  | .panic ps => some (.inr ((.panic ps), ((t 0), (t 1), (t 2), (t 6), (t 7), (t 8)), h))
  | .outgrown => some (.inr (.outgrown, ((t 0), (t 1), (t 2), (t 6), (t 7), (t 8)), h))
theorem Jk32_0b0_h1 (rc : Rec) (md : Md) (X : Nat → T → Heap → Option (((Value × Value × Value × Value × Value × Value) × Heap) ⊕ (Exit × (Value × Value × Value × Value × Value × Value) × Heap))) (e : Exit) (t : T) (h : Heap) : kAtG Try.prog cfg X rc md 133 (replS (sub (bodyOf Try.prog 32) [1, 1, 0, 1, 0, 0]) [([1, 0, 0, 1, 1, 1, 1, 0, 1, 0, 1, 0], 1), ([1, 0, 0, 1, 1, 1, 1, 1, 1, 0, 1, 0], 2), ([1, 0, 0, 1, 1, 1, 1, 1], 3), ([1, 0, 0, 1], 4)]) [1, 0, 0, 0, 0] (rndK (fun t => (t 0, t 1, t 2, t 6, t 7, t 8))) e t h = Jk32_0b0H rc md (X 4) e t h := by cases e <;> kernel_rfl
theorem Jk32_0b0_h2 (rc : Rec) (md : Md) (e : Exit) (t : T) (h : Heap) : Jk32_0b0H rc md (fun t h => J32_0b1 rc md (t 0) (t 1) (t 2) (t 6) (t 7) (t 8) h) e t h = Jk32_0b0 rc md e (t 0) (t 1) (t 2) (t 6) (t 7) (t 8) h := by cases e <;> (unfold Jk32_0b0H Jk32_0b0; kernel_rfl)
theorem Jk32_0b0_at (rc : Rec) (md : Md) (e : Exit) (t : T) (h : Heap) : kAt Try.prog cfg rc md 133 (sub (bodyOf Try.prog 32) [1, 1, 0, 1, 0, 0]) [1, 0, 0, 0, 0] (rndK (fun t => (t 0, t 1, t 2, t 6, t 7, t 8))) e t h = Jk32_0b0 rc md e (t 0) (t 1) (t 2) (t 6) (t 7) (t 8) h := by
  rw [kAt_holes [([1, 0, 0, 1, 1, 1, 1, 0, 1, 0, 1, 0], 1), ([1, 0, 0, 1, 1, 1, 1, 1, 1, 0, 1, 0], 2), ([1, 0, 0, 1, 1, 1, 1, 1], 3), ([1, 0, 0, 1], 4)] [1, 0, 0, 0, 0] (by kernel_rfl), Jk32_0b0_h1, show (goX Try.prog cfg rc md 133 (sub (bodyOf Try.prog 32) [1, 1, 0, 1, 0, 0]) [([1, 0, 0, 1, 1, 1, 1, 0, 1, 0, 1, 0], 1), ([1, 0, 0, 1, 1, 1, 1, 1, 1, 0, 1, 0], 2), ([1, 0, 0, 1, 1, 1, 1, 1], 3), ([1, 0, 0, 1], 4)] (rndK (fun t => (t 0, t 1, t 2, t 6, t 7, t 8)))) 4 = _ from J32_0b1_cut rc md]
  exact Jk32_0b0_h2 rc md e t h
/-- a round -/
noncomputable def Jr32_0b0 (rc : Rec) (md : Md) (s0 : Value) (s1 : Value) (s2 : Value) (s6 : Value) (s7 : Value) (s8 : Value) (h : Heap) : Option (((Value × Value × Value × Value × Value × Value) × Heap) ⊕ (Exit × (Value × Value × Value × Value × Value × Value) × Heap)) :=
  aBin Try.prog .lss 3 s7 s2 fun v1 =>
  (bif wantV v1 true then
  some (s0, h)
  else some (undef, h)).bind fun p2 =>
  (bif wantV v1 true then
  some (s7, p2.2)
  else some (undef, p2.2)).bind fun p3 =>
  (bif wantV v1 true then
  ixSV 1 p2.1 p3.1 fun v4 =>
  some (v4, p3.2)
  else some (undef, p3.2)).bind fun p5 =>
  (bif wantV v1 true then
  ld1 p5.1 p5.2 fun v6 =>
  cIn .i64 v6 fun n7 =>
  some ((.int .i64 n7), p5.2)
  else some (undef, p5.2)).bind fun p8 =>
  (bif wantV v1 true then
  some (s0, p8.2)
  else some (undef, p8.2)).bind fun p9 =>
  (bif wantV v1 true then
  some (s7, p9.2)
  else some (undef, p9.2)).bind fun p10 =>
  (bif wantV v1 true then
  aBin Try.prog .sub 3 p10.1 (.int .i64 1) fun v11 =>
  some (v11, p10.2)
  else some (undef, p10.2)).bind fun p12 =>
  (bif wantV v1 true then
  ixSV 1 p9.1 p12.1 fun v13 =>
  some (v13, p12.2)
  else some (undef, p12.2)).bind fun p14 =>
  (bif wantV v1 true then
  ld1 p14.1 p14.2 fun v15 =>
  cIn .i64 v15 fun n16 =>
  some ((.int .i64 n16), p14.2)
  else some (undef, p14.2)).bind fun p17 =>
  (bif wantV v1 true then
  cl (rc md 33 [p8.1, p17.1] p17.2) fun v18 h19 =>
  cBn v18 fun b20 =>
  some ((.bool b20), h19)
  else some (undef, p17.2)).bind fun p21 =>
  (bif wantV v1 true then
  aUn .not p21.1 fun v22 =>
  some (v22, p21.2)
  else some (undef, p21.2)).bind fun p23 =>
  cBn v1 fun q24 =>
  cBn (bif q24 then p23.1 else (.bool false)) fun b25 =>
  bif b25 then
    aBin Try.prog .add 3 s7 (.int .i64 1) fun v26 =>
    some (.inl ((s0, s1, s2, s6, v26, s8), p23.2))
  else
    some (.inr ((.exit 2), (s0, s1, s2, s6, s7, s8), p23.2))
theorem Jr32_0b0_at (rc : Rec) (md : Md) (t : T) (h : Heap) : exec Try.prog cfg rc md 133 (sub (bodyOf Try.prog 32) [1, 1, 0, 1, 0, 0, 1, 0, 0, 0, 0, 0]) (rndK (fun t => (t 0, t 1, t 2, t 6, t 7, t 8))) t h = Jr32_0b0 rc md (t 0) (t 1) (t 2) (t 6) (t 7) (t 8) h := by kernel_rfl
noncomputable def J32_0b0 (rc : Rec) (md : Md) (s0 : Value) (s1 : Value) (s2 : Value) (s6 : Value) (s7 : Value) (s8 : Value) (h : Heap) : Option (((Value × Value × Value × Value × Value × Value) × Heap) ⊕ (Exit × (Value × Value × Value × Value × Value × Value) × Heap)) :=
  runL (fun x : (Value × Value × Value × Value × Value × Value) × Heap => Jr32_0b0 rc md x.1.1 x.1.2.1 x.1.2.2.1 x.1.2.2.2.1 x.1.2.2.2.2.1 x.1.2.2.2.2.2 x.2) (fun e (s : Value × Value × Value × Value × Value × Value) h => Jk32_0b0 rc md e s.1 s.2.1 s.2.2.1 s.2.2.2.1 s.2.2.2.2.1 s.2.2.2.2.2 h) (s0, s1, s2, s6, s7, s8) h
theorem J32_0b0_step (rc : Rec) (md : Md) (s0 : Value) (s1 : Value) (s2 : Value) (s6 : Value) (s7 : Value) (s8 : Value) (h : Heap) : J32_0b0 rc md s0 s1 s2 s6 s7 s8 h = (Jr32_0b0 rc md s0 s1 s2 s6 s7 s8 h).bind fun x => match x with
    | .inl (s, h) => J32_0b0 rc md s.1 s.2.1 s.2.2.1 s.2.2.2.1 s.2.2.2.2.1 s.2.2.2.2.2 h
    | .inr (e, s, h) => Jk32_0b0 rc md e s.1 s.2.1 s.2.2.1 s.2.2.2.1 s.2.2.2.2.1 s.2.2.2.2.2 h := by
  unfold J32_0b0
  rw [runL_eq]
  refine congrArg (Option.bind _) (funext fun x => ?_)
  rcases x with ⟨s, h⟩ | ⟨e, s, h⟩ <;> rfl
theorem J32_0b0_cut (rc : Rec) (md : Md) : cut Try.prog cfg rc md 133 (sub (bodyOf Try.prog 32) [1, 1, 0, 1, 0, 0]) [1, 0, 0, 0, 0] (rndK (fun t => (t 0, t 1, t 2, t 6, t 7, t 8))) = fun t h => J32_0b0 rc md (t 0) (t 1) (t 2) (t 6) (t 7) (t 8) h := by
  funext t h
  have e : sub (sub (bodyOf Try.prog 32) [1, 1, 0, 1, 0, 0]) [1, 0, 0, 0, 0] = .loop (sub (bodyOf Try.prog 32) [1, 1, 0, 1, 0, 0, 1, 0, 0, 0, 0, 0]) := by kernel_rfl
  unfold cut
  rw [e]
  exact loop_eq (by kernel_rfl) (fun t => (t 0, t 1, t 2, t 6, t 7, t 8)) (fun x : (Value × Value × Value × Value × Value × Value) × Heap => Jr32_0b0 rc md x.1.1 x.1.2.1 x.1.2.2.1 x.1.2.2.2.1 x.1.2.2.2.2.1 x.1.2.2.2.2.2 x.2) (fun t h => Jr32_0b0_at rc md t h) (fun e (s : Value × Value × Value × Value × Value × Value) h => Jk32_0b0 rc md e s.1 s.2.1 s.2.2.1 s.2.2.2.1 s.2.2.2.2.1 s.2.2.2.2.2 h) (fun e t h => Jk32_0b0_at rc md e t h) t h
/-- a round -/
noncomputable def Jr32_0 (rc : Rec) (md : Md) (s0 : Value) (s1 : Value) (s2 : Value) (s6 : Value) (s7 : Value) (s8 : Value) (h : Heap) : Option (((Value × Value × Value × Value × Value × Value) × Heap) ⊕ (Exit × (Value × Value × Value × Value × Value × Value) × Heap)) :=
  aBin Try.prog .lss 3 s8 (.int .i64 5) fun v1 =>
  cBn v1 fun b2 =>
  bif b2 then
    J32_0b0 rc md s0 s1 s2 s6 s7 s8 h
  else
    some (.inr ((.exit 0), (s0, s1, s2, s6, s7, s8), h))
noncomputable def Jr32_0H (rc : Rec) (md : Md) (X0 : T → Heap → Option (((Value × Value × Value × Value × Value × Value) × Heap) ⊕ (Exit × (Value × Value × Value × Value × Value × Value) × Heap))) (t : T) (h : Heap) : Option (((Value × Value × Value × Value × Value × Value) × Heap) ⊕ (Exit × (Value × Value × Value × Value × Value × Value) × Heap)) :=
  aBin Try.prog .lss 3 (t 8) (.int .i64 5) fun v1 =>
  cBn v1 fun b2 =>
  bif b2 then
    X0 (upd (upd t 13 (t 8)) 14 v1) h
  else
    some (.inr ((.exit 0), ((t 0), (t 1), (t 2), (t 6), (t 7), (t 8)), h))
theorem Jr32_0_h1 (rc : Rec) (md : Md) (X : Nat → T → Heap → Option (((Value × Value × Value × Value × Value × Value) × Heap) ⊕ (Exit × (Value × Value × Value × Value × Value × Value) × Heap))) (t : T) (h : Heap) : execG Try.prog cfg X rc md 133 (replS (sub (bodyOf Try.prog 32) [1, 1, 0, 1, 0, 0]) [([1, 0, 0, 0, 0], 0), ([1, 0, 0, 1, 1, 1, 1, 0, 1, 0, 1, 0], 1), ([1, 0, 0, 1, 1, 1, 1, 1, 1, 0, 1, 0], 2), ([1, 0, 0, 1, 1, 1, 1, 1], 3), ([1, 0, 0, 1], 4)]) (rndK (fun t => (t 0, t 1, t 2, t 6, t 7, t 8))) t h = Jr32_0H rc md (X 0) t h := by kernel_rfl
theorem Jr32_0_h2 (rc : Rec) (md : Md) (t : T) (h : Heap) : Jr32_0H rc md (fun t h => J32_0b0 rc md (t 0) (t 1) (t 2) (t 6) (t 7) (t 8) h) t h = Jr32_0 rc md (t 0) (t 1) (t 2) (t 6) (t 7) (t 8) h := by unfold Jr32_0H Jr32_0; kernel_rfl
theorem Jr32_0_at (rc : Rec) (md : Md) (t : T) (h : Heap) : exec Try.prog cfg rc md 133 (sub (bodyOf Try.prog 32) [1, 1, 0, 1, 0, 0]) (rndK (fun t => (t 0, t 1, t 2, t 6, t 7, t 8))) t h = Jr32_0 rc md (t 0) (t 1) (t 2) (t 6) (t 7) (t 8) h := by
  rw [exec_holes [([1, 0, 0, 0, 0], 0), ([1, 0, 0, 1, 1, 1, 1, 0, 1, 0, 1, 0], 1), ([1, 0, 0, 1, 1, 1, 1, 1, 1, 0, 1, 0], 2), ([1, 0, 0, 1, 1, 1, 1, 1], 3), ([1, 0, 0, 1], 4)] (by kernel_rfl), Jr32_0_h1, show (goX Try.prog cfg rc md 133 (sub (bodyOf Try.prog 32) [1, 1, 0, 1, 0, 0]) [([1, 0, 0, 0, 0], 0), ([1, 0, 0, 1, 1, 1, 1, 0, 1, 0, 1, 0], 1), ([1, 0, 0, 1, 1, 1, 1, 1, 1, 0, 1, 0], 2), ([1, 0, 0, 1, 1, 1, 1, 1], 3), ([1, 0, 0, 1], 4)] (rndK (fun t => (t 0, t 1, t 2, t 6, t 7, t 8)))) 0 = _ from J32_0b0_cut rc md]
  exact Jr32_0_h2 rc md t h
noncomputable def J32_0 (rc : Rec) (md : Md) (h0 : Heap) (s0 : Value) (s1 : Value) (s2 : Value) (s6 : Value) (s7 : Value) (s8 : Value) (h : Heap) : Option (Value × Heap) :=
  runL (fun x : (Value × Value × Value × Value × Value × Value) × Heap => Jr32_0 rc md x.1.1 x.1.2.1 x.1.2.2.1 x.1.2.2.2.1 x.1.2.2.2.2.1 x.1.2.2.2.2.2 x.2) (fun e (s : Value × Value × Value × Value × Value × Value) h => Jk32_0 rc md h0 e s.1 s.2.1 s.2.2.1 s.2.2.2.1 s.2.2.2.2.1 s.2.2.2.2.2 h) (s0, s1, s2, s6, s7, s8) h
theorem J32_0_step (rc : Rec) (md : Md) (h0 : Heap) (s0 : Value) (s1 : Value) (s2 : Value) (s6 : Value) (s7 : Value) (s8 : Value) (h : Heap) : J32_0 rc md h0 s0 s1 s2 s6 s7 s8 h = (Jr32_0 rc md s0 s1 s2 s6 s7 s8 h).bind fun x => match x with
    | .inl (s, h) => J32_0 rc md h0 s.1 s.2.1 s.2.2.1 s.2.2.2.1 s.2.2.2.2.1 s.2.2.2.2.2 h
    | .inr (e, s, h) => Jk32_0 rc md h0 e s.1 s.2.1 s.2.2.1 s.2.2.2.1 s.2.2.2.2.1 s.2.2.2.2.2 h := by
  unfold J32_0
  rw [runL_eq]
  refine congrArg (Option.bind _) (funext fun x => ?_)
  rcases x with ⟨s, h⟩ | ⟨e, s, h⟩ <;> rfl
theorem J32_0_cut (rc : Rec) (md : Md) (h0 : Heap) : cut Try.prog cfg rc md 133 (bodyOf Try.prog 32) [1, 1, 0, 1, 0] (retK Try.prog cfg 32 (rsOf Try.prog 32) h0) = fun t h => J32_0 rc md h0 (t 0) (t 1) (t 2) (t 6) (t 7) (t 8) h := by
  funext t h
  have e : sub (bodyOf Try.prog 32) [1, 1, 0, 1, 0] = .loop (sub (bodyOf Try.prog 32) [1, 1, 0, 1, 0, 0]) := by kernel_rfl
  unfold cut
  rw [e]
  exact loop_eq (by kernel_rfl) (fun t => (t 0, t 1, t 2, t 6, t 7, t 8)) (fun x : (Value × Value × Value × Value × Value × Value) × Heap => Jr32_0 rc md x.1.1 x.1.2.1 x.1.2.2.1 x.1.2.2.2.1 x.1.2.2.2.2.1 x.1.2.2.2.2.2 x.2) (fun t h => Jr32_0_at rc md t h) (fun e (s : Value × Value × Value × Value × Value × Value) h => Jk32_0 rc md h0 e s.1 s.2.1 s.2.2.1 s.2.2.2.1 s.2.2.2.2.1 s.2.2.2.2.2 h) (fun e t h => Jk32_0_at rc md h0 e t h) t h
noncomputable def F32 (rc : Rec) (md : Md) (a0 : Value) (a1 : Int) (a2 : Int) (h0 : Heap) : Option (Value × Heap) :=
  J32_0 rc md h0 a0 (.int .i64 a1) (.int .i64 a2) (.bool false) (.int .i64 (IntKind.wrap .i64 (a1 + 1))) (.int .i64 0) h0
noncomputable def F32H (rc : Rec) (md : Md) (X0 : T → Heap → Option (Value × Heap)) (a0 : Value) (a1 : Int) (a2 : Int) (h0 : Heap) : Option (Value × Heap) :=
  X0 (upd (upd (upd (upd (upd (args0 [a0, (.int .i64 a1), (.int .i64 a2)]) 6 (.bool false)) 11 (.int .i64 a1)) 12 (.int .i64 (IntKind.wrap .i64 (a1 + 1)))) 7 (.int .i64 (IntKind.wrap .i64 (a1 + 1)))) 8 (.int .i64 0)) h0
theorem F32_h0 (rc : Rec) (md : Md) (a0 : Value) (a1 : Int) (a2 : Int) (h0 : Heap) : callStep0 Try.prog cfg rc md 32 [a0, (.int .i64 a1), (.int .i64 a2)] h0 = exec Try.prog cfg rc ⟨md.ro, h0.length⟩ 133 (bodyOf Try.prog 32) (retK Try.prog cfg 32 (rsOf Try.prog 32) h0) (args0 [a0, (.int .i64 a1), (.int .i64 a2)]) h0 := callStep0_run (by kernel_rfl) (by kernel_rfl) (by kernel_rfl)
theorem F32_h1 (rc : Rec) (md : Md) (X : Nat → T → Heap → Option (Value × Heap)) (a0 : Value) (a1 : Int) (a2 : Int) (h0 : Heap) : execG Try.prog cfg X rc md 133 (replS (bodyOf Try.prog 32) [([1, 1, 0, 1, 0], 0)]) (retK Try.prog cfg 32 (rsOf Try.prog 32) h0) (args0 [a0, (.int .i64 a1), (.int .i64 a2)]) h0 = F32H rc md (X 0) a0 a1 a2 h0 := by kernel_rfl
theorem F32_h2 (rc : Rec) (md : Md) (a0 : Value) (a1 : Int) (a2 : Int) (h0 : Heap) : F32H rc md (fun t h => J32_0 rc md h0 (t 0) (t 1) (t 2) (t 6) (t 7) (t 8) h) a0 a1 a2 h0 = F32 rc md a0 a1 a2 h0 := by unfold F32H F32; kernel_rfl
theorem F32_eq0 (rc : Rec) (md : Md) (a0 : Value) (a1 : Int) (a2 : Int) (h0 : Heap) : callStep0 Try.prog cfg rc md 32 [a0, (.int .i64 a1), (.int .i64 a2)] h0 = F32 rc ⟨md.ro, h0.length⟩ a0 a1 a2 h0 := by
  rw [F32_h0, exec_holes [([1, 1, 0, 1, 0], 0)] (by kernel_rfl), F32_h1, show (goX Try.prog cfg rc ⟨md.ro, h0.length⟩ 133 (bodyOf Try.prog 32) [([1, 1, 0, 1, 0], 0)] (retK Try.prog cfg 32 (rsOf Try.prog 32) h0)) 0 = _ from J32_0_cut rc ⟨md.ro, h0.length⟩ h0]
  exact F32_h2 rc _ a0 a1 a2 h0
theorem F32_eq (rc : Rec) (md : Md) (a0 : Value) (a1 : Int) (a2 : Int) (h0 : Heap) : callStep Try.prog cfg rc md 32 [a0, (.int .i64 a1), (.int .i64 a2)] h0 = F32 rc ⟨md.ro, h0.length⟩ a0 a1 a2 h0 := (callStep_ne (by kernel_rfl)).trans (F32_eq0 rc md a0 a1 a2 h0)

/-- cmp.Less[int] -/
noncomputable def F33 (rc : Rec) (md : Md) (a0 : Int) (a1 : Int) (h0 : Heap) : Option (Value × Heap) :=
  cl (rc md 43 [(.int .i64 a0)] h0) fun v1 h2 =>
  cBn v1 fun b3 =>
  (bif wantV (.bool b3) true then
  some ((.int .i64 a1), h2)
  else some (undef, h2)).bind fun p4 =>
  (bif wantV (.bool b3) true then
  cl (rc md 43 [p4.1] p4.2) fun v5 h6 =>
  cBn v5 fun b7 =>
  some ((.bool b7), h6)
  else some (undef, p4.2)).bind fun p8 =>
  (bif wantV (.bool b3) true then
  aUn .not p8.1 fun v9 =>
  some (v9, p8.2)
  else some (undef, p8.2)).bind fun p10 =>
  cBn (bif b3 then p10.1 else (.bool false)) fun b11 =>
  (bif wantV (.bool b11) false then
  some ((.int .i64 a0), p10.2)
  else some (undef, p10.2)).bind fun p12 =>
  (bif wantV (.bool b11) false then
  some ((.int .i64 a1), p12.2)
  else some (undef, p12.2)).bind fun p13 =>
  (bif wantV (.bool b11) false then
  aBin Try.prog .lss 3 p12.1 p13.1 fun v14 =>
  some (v14, p13.2)
  else some (undef, p13.2)).bind fun p15 =>
  cBn (bif b11 then (.bool true) else p15.1) fun b16 =>
  some ((.bool b16), h0)
theorem F33_eq0 (rc : Rec) (md : Md) (a0 : Int) (a1 : Int) (h0 : Heap) : callStep0 Try.prog cfg rc md 33 [(.int .i64 a0), (.int .i64 a1)] h0 = F33 rc ⟨h0.length, h0.length⟩ a0 a1 h0 := by kernel_rfl
theorem F33_eq (rc : Rec) (md : Md) (a0 : Int) (a1 : Int) (h0 : Heap) : callStep Try.prog cfg rc md 33 [(.int .i64 a0), (.int .i64 a1)] h0 = alone h0 (F33 rc ⟨0, 0⟩ a0 a1 []) := by
  have e : callStep Try.prog cfg rc md 33 [(.int .i64 a0), (.int .i64 a1)] h0 = alone h0 (callStep0 Try.prog cfg rc ⟨0, 0⟩ 33 [(.int .i64 a0), (.int .i64 a1)] []) := by kernel_rfl
  rw [e, F33_eq0]; rfl

/-- slices.partitionEqualOrdered[int] -/
noncomputable def Jk34_0 (rc : Rec) (md : Md) (h0 : Heap) (e : Exit) (s0 : Value) (s1 : Value) (s8 : Value) (s9 : Value) (s10 : Value) (h : Heap) : Option (Value × Heap) :=
  match e with
  | .normal =>
    fin1 h0 s9 h
  | .exit j =>
    bif Nat.beq j 0 then
      fin1 h0 s9 h
    else
      none
  | .ret =>
    fin1 h0 s8 h
  | .goto l => none
  | .panic ps => none
  | .outgrown => none
theorem Jk34_0_at (rc : Rec) (md : Md) (h0 : Heap) (e : Exit) (t : T) (h : Heap) : kAt Try.prog cfg rc md 84 (bodyOf Try.prog 34) [1, 1, 1, 0, 0] (retK Try.prog cfg 34 (rsOf Try.prog 34) h0) e t h = Jk34_0 rc md h0 e (t 0) (t 1) (t 8) (t 9) (t 10) h := by cases e <;> kernel_rfl
noncomputable def J34_0b3 (rc : Rec) (md : Md) (s0 : Value) (s1 : Value) (s8 : Value) (s9 : Value) (s10 : Value) (h : Heap) : Option (((Value × Value × Value × Value × Value) × Heap) ⊕ (Exit × (Value × Value × Value × Value × Value) × Heap)) :=
  aBin Try.prog .gtr 3 s9 s10 fun v1 =>
  cBn v1 fun b2 =>
  bif b2 then
    some (.inr ((.exit 0), (s0, s1, s8, s9, s10), h))
  else
    ixSV 1 s0 s10 fun v3 =>
    ld1 v3 h fun v4 =>
    cIn .i64 v4 fun n5 =>
    ixSV 1 s0 s9 fun v6 =>
    ld1 v6 h fun v7 =>
    cIn .i64 v7 fun n8 =>
    ixSV 1 s0 s9 fun v9 =>
    st md 1 v9 (.int .i64 n5) h fun h10 =>
    ixSV 1 s0 s10 fun v11 =>
    st md 1 v11 (.int .i64 n8) h10 fun h12 =>
    aBin Try.prog .add 3 s9 (.int .i64 1) fun v13 =>
    aBin Try.prog .sub 3 s10 (.int .i64 1) fun v14 =>
    some (.inl ((s0, s1, s8, v13, v14), h12))
theorem J34_0b3_at (rc : Rec) (md : Md) (t : T) (h : Heap) : cut Try.prog cfg rc md 84 (sub (bodyOf Try.prog 34) [1, 1, 1, 0, 0, 0]) [0, 1, 1] (rndK (fun t => (t 0, t 1, t 8, t 9, t 10))) t h = J34_0b3 rc md (t 0) (t 1) (t 8) (t 9) (t 10) h := by kernel_rfl
theorem J34_0b3_cut (rc : Rec) (md : Md) : cut Try.prog cfg rc md 84 (sub (bodyOf Try.prog 34) [1, 1, 1, 0, 0, 0]) [0, 1, 1] (rndK (fun t => (t 0, t 1, t 8, t 9, t 10))) = fun t h => J34_0b3 rc md (t 0) (t 1) (t 8) (t 9) (t 10) h := funext fun t => funext fun h => J34_0b3_at rc md t h
noncomputable def Jk34_0b2 (rc : Rec) (md : Md) (e : Exit) (s0 : Value) (s1 : Value) (s8 : Value) (s9 : Value) (s10 : Value) (h : Heap) : Option (((Value × Value × Value × Value × Value) × Heap) ⊕ (Exit × (Value × Value × Value × Value × Value) × Heap)) :=
  match e with
  | .normal =>
    J34_0b3 rc md s0 s1 s8 s9 s10 h
  | .exit j =>
    bif Nat.beq j 4 then
      J34_0b3 rc md s0 s1 s8 s9 s10 h
    else
      bif Nat.beq j 1 then
        some (.inl ((s0, s1, s8, s9, s10), h))
      else
        some (.inr ((.exit j), (s0, s1, s8, s9, s10), h))
  | .ret =>
    some (.inr (.ret, (s0, s1, s8, s9, s10), h))
  | .goto l => some (.inr ((.goto l), (s0, s1, s8, s9, s10), h))
  | .panic ps => some (.inr ((.panic ps), (s0, s1, s8, s9, s10), h))
  | .outgrown => some (.inr (.outgrown, (s0, s1, s8, s9, s10), h))
noncomputable def Jk34_0b2H (rc : Rec) (md : Md) (X2 : T → Heap → Option (((Value × Value × Value × Value × Value) × Heap) ⊕ (Exit × (Value × Value × Value × Value × Value) × Heap))) (e : Exit) (t : T) (h : Heap) : Option (((Value × Value × Value × Value × Value) × Heap) ⊕ (Exit × (Value × Value × Value × Value × Value) × Heap)) :=
  match e with
  | .normal =>
    X2 t h
  | .exit j =>
    bif Nat.beq j 4 then
      X2 t h
    else
      bif Nat.beq j 1 then
        some (.inl (((t 0), (t 1), (t 8), (t 9), (t 10)), h))
      else
        some (.inr ((.exit j), ((t 0), (t 1), (t 8), (t 9), (t 10)), h))
  | .ret =>
    some (.inr (.ret, ((t 0), (t 1), (t 8), (t 9), (t 10)), h))
  | .goto l => some (.inr ((.goto l), ((t 0), (t 1), (t 8), (t 9), (t 10)), h))
  | .panic ps => some (.inr ((.panic ps), ((t 0), (t 1), (t 8), (t 9), (t 10)), h))
  | .outgrown => some (.inr (.outgrown, ((t 0), (t 1), (t 8), (t 9), (t 10)), h))
theorem Jk34_0b2_h1 (rc : Rec) (md : Md) (X : Nat → T → Heap → Option (((Value × Value × Value × Value × Value) × Heap) ⊕ (Exit × (Value × Value × Value × Value × Value) × Heap))) (e : Exit) (t : T) (h : Heap) : kAtG Try.prog cfg X rc md 84 (replS (sub (bodyOf Try.prog 34) [1, 1, 1, 0, 0, 0]) [([0, 0, 0], 0), ([0, 1, 1], 2)]) [0, 1, 0, 0] (rndK (fun t => (t 0, t 1, t 8, t 9, t 10))) e t h = Jk34_0b2H rc md (X 2) e t h := by cases e <;> kernel_rfl
theorem Jk34_0b2_h2 (rc : Rec) (md : Md) (e : Exit) (t : T) (h : Heap) : Jk34_0b2H rc md (fun t h => J34_0b3 rc md (t 0) (t 1) (t 8) (t 9) (t 10) h) e t h = Jk34_0b2 rc md e (t 0) (t 1) (t 8) (t 9) (t 10) h := by cases e <;> (unfold Jk34_0b2H Jk34_0b2; kernel_rfl)
theorem Jk34_0b2_at (rc : Rec) (md : Md) (e : Exit) (t : T) (h : Heap) : kAt Try.prog cfg rc md 84 (sub (bodyOf Try.prog 34) [1, 1, 1, 0, 0, 0]) [0, 1, 0, 0] (rndK (fun t => (t 0, t 1, t 8, t 9, t 10))) e t h = Jk34_0b2 rc md e (t 0) (t 1) (t 8) (t 9) (t 10) h := by
  rw [kAt_holes [([0, 0, 0], 0), ([0, 1, 1], 2)] [0, 1, 0, 0] (by kernel_rfl), Jk34_0b2_h1, show (goX Try.prog cfg rc md 84 (sub (bodyOf Try.prog 34) [1, 1, 1, 0, 0, 0]) [([0, 0, 0], 0), ([0, 1, 1], 2)] (rndK (fun t => (t 0, t 1, t 8, t 9, t 10)))) 2 = _ from J34_0b3_cut rc md]
  exact Jk34_0b2_h2 rc md e t h
/-- a round -/
noncomputable def Jr34_0b2 (rc : Rec) (md : Md) (s0 : Value) (s1 : Value) (s8 : Value) (s9 : Value) (s10 : Value) (h : Heap) : Option (((Value × Value × Value × Value × Value) × Heap) ⊕ (Exit × (Value × Value × Value × Value × Value) × Heap)) :=
  aBin Try.prog .leq 3 s9 s10 fun v1 =>
  (bif wantV v1 true then
  some (s0, h)
  else some (undef, h)).bind fun p2 =>
  (bif wantV v1 true then
  some (s1, p2.2)
  else some (undef, p2.2)).bind fun p3 =>
  (bif wantV v1 true then
  ixSV 1 p2.1 p3.1 fun v4 =>
  some (v4, p3.2)
  else some (undef, p3.2)).bind fun p5 =>
  (bif wantV v1 true then
  ld1 p5.1 p5.2 fun v6 =>
  cIn .i64 v6 fun n7 =>
  some ((.int .i64 n7), p5.2)
  else some (undef, p5.2)).bind fun p8 =>
  (bif wantV v1 true then
  some (s0, p8.2)
  else some (undef, p8.2)).bind fun p9 =>
  (bif wantV v1 true then
  some (s10, p9.2)
  else some (undef, p9.2)).bind fun p10 =>
  (bif wantV v1 true then
  ixSV 1 p9.1 p10.1 fun v11 =>
  some (v11, p10.2)
  else some (undef, p10.2)).bind fun p12 =>
  (bif wantV v1 true then
  ld1 p12.1 p12.2 fun v13 =>
  cIn .i64 v13 fun n14 =>
  some ((.int .i64 n14), p12.2)
  else some (undef, p12.2)).bind fun p15 =>
  (bif wantV v1 true then
  cl (rc md 33 [p8.1, p15.1] p15.2) fun v16 h17 =>
  cBn v16 fun b18 =>
  some ((.bool b18), h17)
  else some (undef, p15.2)).bind fun p19 =>
  cBn v1 fun q20 =>
  cBn (bif q20 then p19.1 else (.bool false)) fun b21 =>
  bif b21 then
    aBin Try.prog .sub 3 s10 (.int .i64 1) fun v22 =>
    some (.inl ((s0, s1, s8, s9, v22), p19.2))
  else
    some (.inr ((.exit 4), (s0, s1, s8, s9, s10), p19.2))
theorem Jr34_0b2_at (rc : Rec) (md : Md) (t : T) (h : Heap) : exec Try.prog cfg rc md 84 (sub (bodyOf Try.prog 34) [1, 1, 1, 0, 0, 0, 0, 1, 0, 0, 0]) (rndK (fun t => (t 0, t 1, t 8, t 9, t 10))) t h = Jr34_0b2 rc md (t 0) (t 1) (t 8) (t 9) (t 10) h := by kernel_rfl
noncomputable def J34_0b2 (rc : Rec) (md : Md) (s0 : Value) (s1 : Value) (s8 : Value) (s9 : Value) (s10 : Value) (h : Heap) : Option (((Value × Value × Value × Value × Value) × Heap) ⊕ (Exit × (Value × Value × Value × Value × Value) × Heap)) :=
  runL (fun x : (Value × Value × Value × Value × Value) × Heap => Jr34_0b2 rc md x.1.1 x.1.2.1 x.1.2.2.1 x.1.2.2.2.1 x.1.2.2.2.2 x.2) (fun e (s : Value × Value × Value × Value × Value) h => Jk34_0b2 rc md e s.1 s.2.1 s.2.2.1 s.2.2.2.1 s.2.2.2.2 h) (s0, s1, s8, s9, s10) h
theorem J34_0b2_step (rc : Rec) (md : Md) (s0 : Value) (s1 : Value) (s8 : Value) (s9 : Value) (s10 : Value) (h : Heap) : J34_0b2 rc md s0 s1 s8 s9 s10 h = (Jr34_0b2 rc md s0 s1 s8 s9 s10 h).bind fun x => match x with
    | .inl (s, h) => J34_0b2 rc md s.1 s.2.1 s.2.2.1 s.2.2.2.1 s.2.2.2.2 h
    | .inr (e, s, h) => Jk34_0b2 rc md e s.1 s.2.1 s.2.2.1 s.2.2.2.1 s.2.2.2.2 h := by
  unfold J34_0b2
  rw [runL_eq]
  refine congrArg (Option.bind _) (funext fun x => ?_)
  rcases x with ⟨s, h⟩ | ⟨e, s, h⟩ <;> rfl
theorem J34_0b2_cut (rc : Rec) (md : Md) : cut Try.prog cfg rc md 84 (sub (bodyOf Try.prog 34) [1, 1, 1, 0, 0, 0]) [0, 1, 0, 0] (rndK (fun t => (t 0, t 1, t 8, t 9, t 10))) = fun t h => J34_0b2 rc md (t 0) (t 1) (t 8) (t 9) (t 10) h := by
  funext t h
  have e : sub (sub (bodyOf Try.prog 34) [1, 1, 1, 0, 0, 0]) [0, 1, 0, 0] = .loop (sub (bodyOf Try.prog 34) [1, 1, 1, 0, 0, 0, 0, 1, 0, 0, 0]) := by kernel_rfl
  unfold cut
  rw [e]
  exact loop_eq (by kernel_rfl) (fun t => (t 0, t 1, t 8, t 9, t 10)) (fun x : (Value × Value × Value × Value × Value) × Heap => Jr34_0b2 rc md x.1.1 x.1.2.1 x.1.2.2.1 x.1.2.2.2.1 x.1.2.2.2.2 x.2) (fun t h => Jr34_0b2_at rc md t h) (fun e (s : Value × Value × Value × Value × Value) h => Jk34_0b2 rc md e s.1 s.2.1 s.2.2.1 s.2.2.2.1 s.2.2.2.2 h) (fun e t h => Jk34_0b2_at rc md e t h) t h
noncomputable def J34_0b1 (rc : Rec) (md : Md) (s0 : Value) (s1 : Value) (s8 : Value) (s9 : Value) (s10 : Value) (h : Heap) : Option (((Value × Value × Value × Value × Value) × Heap) ⊕ (Exit × (Value × Value × Value × Value × Value) × Heap)) :=
  J34_0b2 rc md s0 s1 s8 s9 s10 h
noncomputable def J34_0b1H (rc : Rec) (md : Md) (X1 : T → Heap → Option (((Value × Value × Value × Value × Value) × Heap) ⊕ (Exit × (Value × Value × Value × Value × Value) × Heap))) (t : T) (h : Heap) : Option (((Value × Value × Value × Value × Value) × Heap) ⊕ (Exit × (Value × Value × Value × Value × Value) × Heap)) :=
  X1 t h
theorem J34_0b1_h1 (rc : Rec) (md : Md) (X : Nat → T → Heap → Option (((Value × Value × Value × Value × Value) × Heap) ⊕ (Exit × (Value × Value × Value × Value × Value) × Heap))) (t : T) (h : Heap) : execG Try.prog cfg X rc md 84 (sub (replS (sub (bodyOf Try.prog 34) [1, 1, 1, 0, 0, 0]) [([0, 0, 0], 0), ([0, 1, 0, 0], 1), ([0, 1, 1], 2)]) [0, 1]) (kAtG Try.prog cfg X rc md 84 (replS (sub (bodyOf Try.prog 34) [1, 1, 1, 0, 0, 0]) [([0, 0, 0], 0), ([0, 1, 0, 0], 1), ([0, 1, 1], 2)]) [0, 1] (rndK (fun t => (t 0, t 1, t 8, t 9, t 10)))) t h = J34_0b1H rc md (X 1) t h := by kernel_rfl
theorem J34_0b1_h2 (rc : Rec) (md : Md) (t : T) (h : Heap) : J34_0b1H rc md (fun t h => J34_0b2 rc md (t 0) (t 1) (t 8) (t 9) (t 10) h) t h = J34_0b1 rc md (t 0) (t 1) (t 8) (t 9) (t 10) h := by (unfold J34_0b1H J34_0b1; kernel_rfl)
theorem J34_0b1_at (rc : Rec) (md : Md) (t : T) (h : Heap) : cut Try.prog cfg rc md 84 (sub (bodyOf Try.prog 34) [1, 1, 1, 0, 0, 0]) [0, 1] (rndK (fun t => (t 0, t 1, t 8, t 9, t 10))) t h = J34_0b1 rc md (t 0) (t 1) (t 8) (t 9) (t 10) h := by
  rw [cut_holes [([0, 0, 0], 0), ([0, 1, 0, 0], 1), ([0, 1, 1], 2)] [0, 1] (by kernel_rfl), J34_0b1_h1, show (goX Try.prog cfg rc md 84 (sub (bodyOf Try.prog 34) [1, 1, 1, 0, 0, 0]) [([0, 0, 0], 0), ([0, 1, 0, 0], 1), ([0, 1, 1], 2)] (rndK (fun t => (t 0, t 1, t 8, t 9, t 10)))) 1 = _ from J34_0b2_cut rc md]
  exact J34_0b1_h2 rc md t h
theorem J34_0b1_cut (rc : Rec) (md : Md) : cut Try.prog cfg rc md 84 (sub (bodyOf Try.prog 34) [1, 1, 1, 0, 0, 0]) [0, 1] (rndK (fun t => (t 0, t 1, t 8, t 9, t 10))) = fun t h => J34_0b1 rc md (t 0) (t 1) (t 8) (t 9) (t 10) h := funext fun t => funext fun h => J34_0b1_at rc md t h
noncomputable def Jk34_0b0 (rc : Rec) (md : Md) (e : Exit) (s0 : Value) (s1 : Value) (s8 : Value) (s9 : Value) (s10 : Value) (h : Heap) : Option (((Value × Value × Value × Value × Value) × Heap) ⊕ (Exit × (Value × Value × Value × Value × Value) × Heap)) :=
  match e with
  | .normal =>
    J34_0b1 rc md s0 s1 s8 s9 s10 h
  | .exit j =>
    bif Nat.beq j 2 then
      J34_0b1 rc md s0 s1 s8 s9 s10 h
    else
      bif Nat.beq j 1 then
        some (.inl ((s0, s1, s8, s9, s10), h))
      else
        some (.inr ((.exit j), (s0, s1, s8, s9, s10), h))
  | .ret =>
    some (.inr (.ret, (s0, s1, s8, s9, s10), h))
  | .goto l => some (.inr ((.goto l), (s0, s1, s8, s9, s10), h))
  | .panic ps => some (.inr ((.panic ps), (s0, s1, s8, s9, s10), h))
  | .outgrown => some (.inr (.outgrown, (s0, s1, s8, s9, s10), h))
noncomputable def Jk34_0b0H (rc : Rec) (md : Md) (X3 : T → Heap → Option (((Value × Value × Value × Value × Value) × Heap) ⊕ (Exit × (Value × Value × Value × Value × Value) × Heap))) (e : Exit) (t : T) (h : Heap) : Option (((Value × Value × Value × Value × Value) × Heap) ⊕ (Exit × (Value × Value × Value × Value × Value) × Heap)) :=
  match e with
  | .normal =>
    X3 t h
  | .exit j =>
    bif Nat.beq j 2 then
      X3 t h
    else
      bif Nat.beq j 1 then
        some (.inl (((t 0), (t 1), (t 8), (t 9), (t 10)), h))
      else
        some (.inr ((.exit j), ((t 0), (t 1), (t 8), (t 9), (t 10)), h))
  | .ret =>
    some (.inr (.ret, ((t 0), (t 1), (t 8), (t 9), (t 10)), h))
  | .goto l => some (.inr ((.goto l), ((t 0), (t 1), (t 8), (t 9), (t 10)), h))
  | .panic ps => some (.inr ((.panic ps), ((t 0), (t 1), (t 8), (t 9), (t 10)), h))
  | .outgrown => some (.inr (.outgrown, ((t 0), (t 1), (t 8), (t 9), (t 10)), h))
theorem Jk34_0b0_h1 (rc : Rec) (md : Md) (X : Nat → T → Heap → Option (((Value × Value × Value × Value × Value) × Heap) ⊕ (Exit × (Value × Value × Value × Value × Value) × Heap))) (e : Exit) (t : T) (h : Heap) : kAtG Try.prog cfg X rc md 84 (replS (sub (bodyOf Try.prog 34) [1, 1, 1, 0, 0, 0]) [([0, 1, 0, 0], 1), ([0, 1, 1], 2), ([0, 1], 3)]) [0, 0, 0] (rndK (fun t => (t 0, t 1, t 8, t 9, t 10))) e t h = Jk34_0b0H rc md (X 3) e t h := by cases e <;> kernel_rfl
theorem Jk34_0b0_h2 (rc : Rec) (md : Md) (e : Exit) (t : T) (h : Heap) : Jk34_0b0H rc md (fun t h => J34_0b1 rc md (t 0) (t 1) (t 8) (t 9) (t 10) h) e t h = Jk34_0b0 rc md e (t 0) (t 1) (t 8) (t 9) (t 10) h := by cases e <;> (unfold Jk34_0b0H Jk34_0b0; kernel_rfl)
theorem Jk34_0b0_at (rc : Rec) (md : Md) (e : Exit) (t : T) (h : Heap) : kAt Try.prog cfg rc md 84 (sub (bodyOf Try.prog 34) [1, 1, 1, 0, 0, 0]) [0, 0, 0] (rndK (fun t => (t 0, t 1, t 8, t 9, t 10))) e t h = Jk34_0b0 rc md e (t 0) (t 1) (t 8) (t 9) (t 10) h := by
  rw [kAt_holes [([0, 1, 0, 0], 1), ([0, 1, 1], 2), ([0, 1], 3)] [0, 0, 0] (by kernel_rfl), Jk34_0b0_h1, show (goX Try.prog cfg rc md 84 (sub (bodyOf Try.prog 34) [1, 1, 1, 0, 0, 0]) [([0, 1, 0, 0], 1), ([0, 1, 1], 2), ([0, 1], 3)] (rndK (fun t => (t 0, t 1, t 8, t 9, t 10)))) 3 = _ from J34_0b1_cut rc md]
  exact Jk34_0b0_h2 rc md e t h
/-- a round -/
noncomputable def Jr34_0b0 (rc : Rec) (md : Md) (s0 : Value) (s1 : Value) (s8 : Value) (s9 : Value) (s10 : Value) (h : Heap) : Option (((Value × Value × Value × Value × Value) × Heap) ⊕ (Exit × (Value × Value × Value × Value × Value) × Heap)) :=
  aBin Try.prog .leq 3 s9 s10 fun v1 =>
  (bif wantV v1 true then
  some (s0, h)
  else some (undef, h)).bind fun p2 =>
  (bif wantV v1 true then
  some (s1, p2.2)
  else some (undef, p2.2)).bind fun p3 =>
  (bif wantV v1 true then
  ixSV 1 p2.1 p3.1 fun v4 =>
  some (v4, p3.2)
  else some (undef, p3.2)).bind fun p5 =>
  (bif wantV v1 true then
  ld1 p5.1 p5.2 fun v6 =>
  cIn .i64 v6 fun n7 =>
  some ((.int .i64 n7), p5.2)
  else some (undef, p5.2)).bind fun p8 =>
  (bif wantV v1 true then
  some (s0, p8.2)
  else some (undef, p8.2)).bind fun p9 =>
  (bif wantV v1 true then
  some (s9, p9.2)
  else some (undef, p9.2)).bind fun p10 =>
  (bif wantV v1 true then
  ixSV 1 p9.1 p10.1 fun v11 =>
  some (v11, p10.2)
  else some (undef, p10.2)).bind fun p12 =>
  (bif wantV v1 true then
  ld1 p12.1 p12.2 fun v13 =>
  cIn .i64 v13 fun n14 =>
  some ((.int .i64 n14), p12.2)
  else some (undef, p12.2)).bind fun p15 =>
  (bif wantV v1 true then
  cl (rc md 33 [p8.1, p15.1] p15.2) fun v16 h17 =>
  cBn v16 fun b18 =>
  some ((.bool b18), h17)
  else some (undef, p15.2)).bind fun p19 =>
  (bif wantV v1 true then
  aUn .not p19.1 fun v20 =>
  some (v20, p19.2)
  else some (undef, p19.2)).bind fun p21 =>
  cBn v1 fun q22 =>
  cBn (bif q22 then p21.1 else (.bool false)) fun b23 =>
  bif b23 then
    aBin Try.prog .add 3 s9 (.int .i64 1) fun v24 =>
    some (.inl ((s0, s1, s8, v24, s10), p21.2))
  else
    some (.inr ((.exit 2), (s0, s1, s8, s9, s10), p21.2))
theorem Jr34_0b0_at (rc : Rec) (md : Md) (t : T) (h : Heap) : exec Try.prog cfg rc md 84 (sub (bodyOf Try.prog 34) [1, 1, 1, 0, 0, 0, 0, 0, 0, 0]) (rndK (fun t => (t 0, t 1, t 8, t 9, t 10))) t h = Jr34_0b0 rc md (t 0) (t 1) (t 8) (t 9) (t 10) h := by kernel_rfl
noncomputable def J34_0b0 (rc : Rec) (md : Md) (s0 : Value) (s1 : Value) (s8 : Value) (s9 : Value) (s10 : Value) (h : Heap) : Option (((Value × Value × Value × Value × Value) × Heap) ⊕ (Exit × (Value × Value × Value × Value × Value) × Heap)) :=
  runL (fun x : (Value × Value × Value × Value × Value) × Heap => Jr34_0b0 rc md x.1.1 x.1.2.1 x.1.2.2.1 x.1.2.2.2.1 x.1.2.2.2.2 x.2) (fun e (s : Value × Value × Value × Value × Value) h => Jk34_0b0 rc md e s.1 s.2.1 s.2.2.1 s.2.2.2.1 s.2.2.2.2 h) (s0, s1, s8, s9, s10) h
theorem J34_0b0_step (rc : Rec) (md : Md) (s0 : Value) (s1 : Value) (s8 : Value) (s9 : Value) (s10 : Value) (h : Heap) : J34_0b0 rc md s0 s1 s8 s9 s10 h = (Jr34_0b0 rc md s0 s1 s8 s9 s10 h).bind fun x => match x with
    | .inl (s, h) => J34_0b0 rc md s.1 s.2.1 s.2.2.1 s.2.2.2.1 s.2.2.2.2 h
    | .inr (e, s, h) => Jk34_0b0 rc md e s.1 s.2.1 s.2.2.1 s.2.2.2.1 s.2.2.2.2 h := by
  unfold J34_0b0
  rw [runL_eq]
  refine congrArg (Option.bind _) (funext fun x => ?_)
  rcases x with ⟨s, h⟩ | ⟨e, s, h⟩ <;> rfl
theorem J34_0b0_cut (rc : Rec) (md : Md) : cut Try.prog cfg rc md 84 (sub (bodyOf Try.prog 34) [1, 1, 1, 0, 0, 0]) [0, 0, 0] (rndK (fun t => (t 0, t 1, t 8, t 9, t 10))) = fun t h => J34_0b0 rc md (t 0) (t 1) (t 8) (t 9) (t 10) h := by
  funext t h
  have e : sub (sub (bodyOf Try.prog 34) [1, 1, 1, 0, 0, 0]) [0, 0, 0] = .loop (sub (bodyOf Try.prog 34) [1, 1, 1, 0, 0, 0, 0, 0, 0, 0]) := by kernel_rfl
  unfold cut
  rw [e]
  exact loop_eq (by kernel_rfl) (fun t => (t 0, t 1, t 8, t 9, t 10)) (fun x : (Value × Value × Value × Value × Value) × Heap => Jr34_0b0 rc md x.1.1 x.1.2.1 x.1.2.2.1 x.1.2.2.2.1 x.1.2.2.2.2 x.2) (fun t h => Jr34_0b0_at rc md t h) (fun e (s : Value × Value × Value × Value × Value) h => Jk34_0b0 rc md e s.1 s.2.1 s.2.2.1 s.2.2.2.1 s.2.2.2.2 h) (fun e t h => Jk34_0b0_at rc md e t h) t h
/-- a round -/
noncomputable def Jr34_0 (rc : Rec) (md : Md) (s0 : Value) (s1 : Value) (s8 : Value) (s9 : Value) (s10 : Value) (h : Heap) : Option (((Value × Value × Value × Value × Value) × Heap) ⊕ (Exit × (Value × Value × Value × Value × Value) × Heap)) :=
  J34_0b0 rc md s0 s1 s8 s9 s10 h
noncomputable def Jr34_0H (rc : Rec) (md : Md) (X0 : T → Heap → Option (((Value × Value × Value × Value × Value) × Heap) ⊕ (Exit × (Value × Value × Value × Value × Value) × Heap))) (t : T) (h : Heap) : Option (((Value × Value × Value × Value × Value) × Heap) ⊕ (Exit × (Value × Value × Value × Value × Value) × Heap)) :=
  X0 t h
theorem Jr34_0_h1 (rc : Rec) (md : Md) (X : Nat → T → Heap → Option (((Value × Value × Value × Value × Value) × Heap) ⊕ (Exit × (Value × Value × Value × Value × Value) × Heap))) (t : T) (h : Heap) : execG Try.prog cfg X rc md 84 (replS (sub (bodyOf Try.prog 34) [1, 1, 1, 0, 0, 0]) [([0, 0, 0], 0), ([0, 1, 0, 0], 1), ([0, 1, 1], 2), ([0, 1], 3)]) (rndK (fun t => (t 0, t 1, t 8, t 9, t 10))) t h = Jr34_0H rc md (X 0) t h := by kernel_rfl
theorem Jr34_0_h2 (rc : Rec) (md : Md) (t : T) (h : Heap) : Jr34_0H rc md (fun t h => J34_0b0 rc md (t 0) (t 1) (t 8) (t 9) (t 10) h) t h = Jr34_0 rc md (t 0) (t 1) (t 8) (t 9) (t 10) h := by unfold Jr34_0H Jr34_0; kernel_rfl
theorem Jr34_0_at (rc : Rec) (md : Md) (t : T) (h : Heap) : exec Try.prog cfg rc md 84 (sub (bodyOf Try.prog 34) [1, 1, 1, 0, 0, 0]) (rndK (fun t => (t 0, t 1, t 8, t 9, t 10))) t h = Jr34_0 rc md (t 0) (t 1) (t 8) (t 9) (t 10) h := by
  rw [exec_holes [([0, 0, 0], 0), ([0, 1, 0, 0], 1), ([0, 1, 1], 2), ([0, 1], 3)] (by kernel_rfl), Jr34_0_h1, show (goX Try.prog cfg rc md 84 (sub (bodyOf Try.prog 34) [1, 1, 1, 0, 0, 0]) [([0, 0, 0], 0), ([0, 1, 0, 0], 1), ([0, 1, 1], 2), ([0, 1], 3)] (rndK (fun t => (t 0, t 1, t 8, t 9, t 10)))) 0 = _ from J34_0b0_cut rc md]
  exact Jr34_0_h2 rc md t h
noncomputable def J34_0 (rc : Rec) (md : Md) (h0 : Heap) (s0 : Value) (s1 : Value) (s8 : Value) (s9 : Value) (s10 : Value) (h : Heap) : Option (Value × Heap) :=
  runL (fun x : (Value × Value × Value × Value × Value) × Heap => Jr34_0 rc md x.1.1 x.1.2.1 x.1.2.2.1 x.1.2.2.2.1 x.1.2.2.2.2 x.2) (fun e (s : Value × Value × Value × Value × Value) h => Jk34_0 rc md h0 e s.1 s.2.1 s.2.2.1 s.2.2.2.1 s.2.2.2.2 h) (s0, s1, s8, s9, s10) h
theorem J34_0_step (rc : Rec) (md : Md) (h0 : Heap) (s0 : Value) (s1 : Value) (s8 : Value) (s9 : Value) (s10 : Value) (h : Heap) : J34_0 rc md h0 s0 s1 s8 s9 s10 h = (Jr34_0 rc md s0 s1 s8 s9 s10 h).bind fun x => match x with
    | .inl (s, h) => J34_0 rc md h0 s.1 s.2.1 s.2.2.1 s.2.2.2.1 s.2.2.2.2 h
    | .inr (e, s, h) => Jk34_0 rc md h0 e s.1 s.2.1 s.2.2.1 s.2.2.2.1 s.2.2.2.2 h := by
  unfold J34_0
  rw [runL_eq]
  refine congrArg (Option.bind _) (funext fun x => ?_)
  rcases x with ⟨s, h⟩ | ⟨e, s, h⟩ <;> rfl
theorem J34_0_cut (rc : Rec) (md : Md) (h0 : Heap) : cut Try.prog cfg rc md 84 (bodyOf Try.prog 34) [1, 1, 1, 0, 0] (retK Try.prog cfg 34 (rsOf Try.prog 34) h0) = fun t h => J34_0 rc md h0 (t 0) (t 1) (t 8) (t 9) (t 10) h := by
  funext t h
  have e : sub (bodyOf Try.prog 34) [1, 1, 1, 0, 0] = .loop (sub (bodyOf Try.prog 34) [1, 1, 1, 0, 0, 0]) := by kernel_rfl
  unfold cut
  rw [e]
  exact loop_eq (by kernel_rfl) (fun t => (t 0, t 1, t 8, t 9, t 10)) (fun x : (Value × Value × Value × Value × Value) × Heap => Jr34_0 rc md x.1.1 x.1.2.1 x.1.2.2.1 x.1.2.2.2.1 x.1.2.2.2.2 x.2) (fun t h => Jr34_0_at rc md t h) (fun e (s : Value × Value × Value × Value × Value) h => Jk34_0 rc md h0 e s.1 s.2.1 s.2.2.1 s.2.2.2.1 s.2.2.2.2 h) (fun e t h => Jk34_0_at rc md h0 e t h) t h
noncomputable def F34 (rc : Rec) (md : Md) (a0 : Value) (a1 : Int) (a2 : Int) (a3 : Int) (h0 : Heap) : Option (Value × Heap) :=
  ixS 1 a0 a3 fun v1 =>
  ld1 v1 h0 fun v2 =>
  cIn .i64 v2 fun n3 =>
  ixS 1 a0 a1 fun v4 =>
  ld1 v4 h0 fun v5 =>
  cIn .i64 v5 fun n6 =>
  ixS 1 a0 a1 fun v7 =>
  st md 1 v7 (.int .i64 n3) h0 fun h8 =>
  ixS 1 a0 a3 fun v9 =>
  st md 1 v9 (.int .i64 n6) h8 fun h10 =>
  J34_0 rc md h0 a0 (.int .i64 a1) (.int .i64 0) (.int .i64 (IntKind.wrap .i64 (a1 + 1))) (.int .i64 (IntKind.wrap .i64 (a2 - 1))) h10
noncomputable def F34H (rc : Rec) (md : Md) (X0 : T → Heap → Option (Value × Heap)) (a0 : Value) (a1 : Int) (a2 : Int) (a3 : Int) (h0 : Heap) : Option (Value × Heap) :=
  ixS 1 a0 a3 fun v1 =>
  ld1 v1 h0 fun v2 =>
  cIn .i64 v2 fun n3 =>
  ixS 1 a0 a1 fun v4 =>
  ld1 v4 h0 fun v5 =>
  cIn .i64 v5 fun n6 =>
  ixS 1 a0 a1 fun v7 =>
  st md 1 v7 (.int .i64 n3) h0 fun h8 =>
  ixS 1 a0 a3 fun v9 =>
  st md 1 v9 (.int .i64 n6) h8 fun h10 =>
  X0 (upd (upd (upd (upd (upd (upd (upd (upd (upd (upd (upd (upd (upd (upd (upd (upd (upd (upd (upd (upd (upd (args0 [a0, (.int .i64 a1), (.int .i64 a2), (.int .i64 a3)]) 8 (.int .i64 0)) 11 a0) 12 (.int .i64 a1)) 13 a0) 14 (.int .i64 a3)) 15 a0) 16 (.int .i64 a3)) 17 v1) 18 (.int .i64 n3)) 19 a0) 20 (.int .i64 a1)) 21 v4) 22 (.int .i64 n6)) 23 v7) 24 v9) 25 (.int .i64 a1)) 26 (.int .i64 (IntKind.wrap .i64 (a1 + 1)))) 27 (.int .i64 a2)) 28 (.int .i64 (IntKind.wrap .i64 (a2 - 1)))) 9 (.int .i64 (IntKind.wrap .i64 (a1 + 1)))) 10 (.int .i64 (IntKind.wrap .i64 (a2 - 1)))) h10
theorem F34_h0 (rc : Rec) (md : Md) (a0 : Value) (a1 : Int) (a2 : Int) (a3 : Int) (h0 : Heap) : callStep0 Try.prog cfg rc md 34 [a0, (.int .i64 a1), (.int .i64 a2), (.int .i64 a3)] h0 = exec Try.prog cfg rc ⟨md.ro, h0.length⟩ 84 (bodyOf Try.prog 34) (retK Try.prog cfg 34 (rsOf Try.prog 34) h0) (args0 [a0, (.int .i64 a1), (.int .i64 a2), (.int .i64 a3)]) h0 := callStep0_run (by kernel_rfl) (by kernel_rfl) (by kernel_rfl)
theorem F34_h1 (rc : Rec) (md : Md) (X : Nat → T → Heap → Option (Value × Heap)) (a0 : Value) (a1 : Int) (a2 : Int) (a3 : Int) (h0 : Heap) : execG Try.prog cfg X rc md 84 (replS (bodyOf Try.prog 34) [([1, 1, 1, 0, 0], 0)]) (retK Try.prog cfg 34 (rsOf Try.prog 34) h0) (args0 [a0, (.int .i64 a1), (.int .i64 a2), (.int .i64 a3)]) h0 = F34H rc md (X 0) a0 a1 a2 a3 h0 := by kernel_rfl
theorem F34_h2 (rc : Rec) (md : Md) (a0 : Value) (a1 : Int) (a2 : Int) (a3 : Int) (h0 : Heap) : F34H rc md (fun t h => J34_0 rc md h0 (t 0) (t 1) (t 8) (t 9) (t 10) h) a0 a1 a2 a3 h0 = F34 rc md a0 a1 a2 a3 h0 := by unfold F34H F34; kernel_rfl
theorem F34_eq0 (rc : Rec) (md : Md) (a0 : Value) (a1 : Int) (a2 : Int) (a3 : Int) (h0 : Heap) : callStep0 Try.prog cfg rc md 34 [a0, (.int .i64 a1), (.int .i64 a2), (.int .i64 a3)] h0 = F34 rc ⟨md.ro, h0.length⟩ a0 a1 a2 a3 h0 := by
  rw [F34_h0, exec_holes [([1, 1, 1, 0, 0], 0)] (by kernel_rfl), F34_h1, show (goX Try.prog cfg rc ⟨md.ro, h0.length⟩ 84 (bodyOf Try.prog 34) [([1, 1, 1, 0, 0], 0)] (retK Try.prog cfg 34 (rsOf Try.prog 34) h0)) 0 = _ from J34_0_cut rc ⟨md.ro, h0.length⟩ h0]
  exact F34_h2 rc _ a0 a1 a2 a3 h0
theorem F34_eq (rc : Rec) (md : Md) (a0 : Value) (a1 : Int) (a2 : Int) (a3 : Int) (h0 : Heap) : callStep Try.prog cfg rc md 34 [a0, (.int .i64 a1), (.int .i64 a2), (.int .i64 a3)] h0 = F34 rc ⟨md.ro, h0.length⟩ a0 a1 a2 a3 h0 := (callStep_ne (by kernel_rfl)).trans (F34_eq0 rc md a0 a1 a2 a3 h0)

/-- slices.partitionOrdered[int] -/
noncomputable def J35_5 (rc : Rec) (md : Md) (h0 : Heap) (s0 : Value) (s1 : Value) (s11 : Value) (h : Heap) : Option (Value × Heap) :=
  ixSV 1 s0 s1 fun v1 =>
  ld1 v1 h fun v2 =>
  cIn .i64 v2 fun n3 =>
  ixSV 1 s0 s11 fun v4 =>
  ld1 v4 h fun v5 =>
  cIn .i64 v5 fun n6 =>
  ixSV 1 s0 s11 fun v7 =>
  st md 1 v7 (.int .i64 n3) h fun h8 =>
  ixSV 1 s0 s1 fun v9 =>
  st md 1 v9 (.int .i64 n6) h8 fun h10 =>
  fin1 h0 (.tuple #[s11, (.bool false)]) h10
theorem J35_5_at (rc : Rec) (md : Md) (h0 : Heap) (t : T) (h : Heap) : cut Try.prog cfg rc md 168 (bodyOf Try.prog 35) [1, 1, 1, 1, 1, 1, 1, 1, 1, 1] (retK Try.prog cfg 35 (rsOf Try.prog 35) h0) t h = J35_5 rc md h0 (t 0) (t 1) (t 11) h := by kernel_rfl
theorem J35_5_cut (rc : Rec) (md : Md) (h0 : Heap) : cut Try.prog cfg rc md 168 (bodyOf Try.prog 35) [1, 1, 1, 1, 1, 1, 1, 1, 1, 1] (retK Try.prog cfg 35 (rsOf Try.prog 35) h0) = fun t h => J35_5 rc md h0 (t 0) (t 1) (t 11) h := funext fun t => funext fun h => J35_5_at rc md h0 t h
noncomputable def Jk35_4 (rc : Rec) (md : Md) (h0 : Heap) (e : Exit) (s0 : Value) (s1 : Value) (s8 : Value) (s9 : Value) (s10 : Value) (s11 : Value) (h : Heap) : Option (Value × Heap) :=
  match e with
  | .normal =>
    J35_5 rc md h0 s0 s1 s11 h
  | .exit j =>
    bif Nat.beq j 4 then
      J35_5 rc md h0 s0 s1 s11 h
    else
      none
  | .ret =>
    fin1 h0 (.tuple #[s8, s9]) h
  | .goto l => none
  | .panic ps => none
  | .outgrown => none
noncomputable def Jk35_4H (rc : Rec) (md : Md) (h0 : Heap) (X3 : T → Heap → Option (Value × Heap)) (e : Exit) (t : T) (h : Heap) : Option (Value × Heap) :=
  match e with
  | .normal =>
    X3 t h
  | .exit j =>
    bif Nat.beq j 4 then
      X3 t h
    else
      none
  | .ret =>
    fin1 h0 (.tuple #[(t 8), (t 9)]) h
  | .goto l => none
  | .panic ps => none
  | .outgrown => none
theorem Jk35_4_h1 (rc : Rec) (md : Md) (h0 : Heap) (X : Nat → T → Heap → Option (Value × Heap)) (e : Exit) (t : T) (h : Heap) : kAtG Try.prog cfg X rc md 168 (replS (bodyOf Try.prog 35) [([1, 1, 1, 0, 0], 0), ([1, 1, 1, 1, 0, 0], 1), ([1, 1, 1, 1, 1, 1, 1, 1, 1, 1], 3)]) [1, 1, 1, 1, 1, 1, 1, 1, 1, 0, 0] (retK Try.prog cfg 35 (rsOf Try.prog 35) h0) e t h = Jk35_4H rc md h0 (X 3) e t h := by cases e <;> kernel_rfl
theorem Jk35_4_h2 (rc : Rec) (md : Md) (h0 : Heap) (e : Exit) (t : T) (h : Heap) : Jk35_4H rc md h0 (fun t h => J35_5 rc md h0 (t 0) (t 1) (t 11) h) e t h = Jk35_4 rc md h0 e (t 0) (t 1) (t 8) (t 9) (t 10) (t 11) h := by cases e <;> (unfold Jk35_4H Jk35_4; kernel_rfl)
theorem Jk35_4_at (rc : Rec) (md : Md) (h0 : Heap) (e : Exit) (t : T) (h : Heap) : kAt Try.prog cfg rc md 168 (bodyOf Try.prog 35) [1, 1, 1, 1, 1, 1, 1, 1, 1, 0, 0] (retK Try.prog cfg 35 (rsOf Try.prog 35) h0) e t h = Jk35_4 rc md h0 e (t 0) (t 1) (t 8) (t 9) (t 10) (t 11) h := by
  rw [kAt_holes [([1, 1, 1, 0, 0], 0), ([1, 1, 1, 1, 0, 0], 1), ([1, 1, 1, 1, 1, 1, 1, 1, 1, 1], 3)] [1, 1, 1, 1, 1, 1, 1, 1, 1, 0, 0] (by kernel_rfl), Jk35_4_h1, show (goX Try.prog cfg rc md 168 (bodyOf Try.prog 35) [([1, 1, 1, 0, 0], 0), ([1, 1, 1, 1, 0, 0], 1), ([1, 1, 1, 1, 1, 1, 1, 1, 1, 1], 3)] (retK Try.prog cfg 35 (rsOf Try.prog 35) h0)) 3 = _ from J35_5_cut rc md h0]
  exact Jk35_4_h2 rc md h0 e t h
noncomputable def J35_4b3 (rc : Rec) (md : Md) (s0 : Value) (s1 : Value) (s8 : Value) (s9 : Value) (s10 : Value) (s11 : Value) (h : Heap) : Option (((Value × Value × Value × Value × Value × Value) × Heap) ⊕ (Exit × (Value × Value × Value × Value × Value × Value) × Heap)) :=
  aBin Try.prog .gtr 3 s10 s11 fun v1 =>
  cBn v1 fun b2 =>
  bif b2 then
    some (.inr ((.exit 4), (s0, s1, s8, s9, s10, s11), h))
  else
    ixSV 1 s0 s11 fun v3 =>
    ld1 v3 h fun v4 =>
    cIn .i64 v4 fun n5 =>
    ixSV 1 s0 s10 fun v6 =>
    ld1 v6 h fun v7 =>
    cIn .i64 v7 fun n8 =>
    ixSV 1 s0 s10 fun v9 =>
    st md 1 v9 (.int .i64 n5) h fun h10 =>
    ixSV 1 s0 s11 fun v11 =>
    st md 1 v11 (.int .i64 n8) h10 fun h12 =>
    aBin Try.prog .add 3 s10 (.int .i64 1) fun v13 =>
    aBin Try.prog .sub 3 s11 (.int .i64 1) fun v14 =>
    some (.inl ((s0, s1, s8, s9, v13, v14), h12))
theorem J35_4b3_at (rc : Rec) (md : Md) (t : T) (h : Heap) : cut Try.prog cfg rc md 168 (sub (bodyOf Try.prog 35) [1, 1, 1, 1, 1, 1, 1, 1, 1, 0, 0, 0]) [0, 1, 1] (rndK (fun t => (t 0, t 1, t 8, t 9, t 10, t 11))) t h = J35_4b3 rc md (t 0) (t 1) (t 8) (t 9) (t 10) (t 11) h := by kernel_rfl
theorem J35_4b3_cut (rc : Rec) (md : Md) : cut Try.prog cfg rc md 168 (sub (bodyOf Try.prog 35) [1, 1, 1, 1, 1, 1, 1, 1, 1, 0, 0, 0]) [0, 1, 1] (rndK (fun t => (t 0, t 1, t 8, t 9, t 10, t 11))) = fun t h => J35_4b3 rc md (t 0) (t 1) (t 8) (t 9) (t 10) (t 11) h := funext fun t => funext fun h => J35_4b3_at rc md t h
noncomputable def Jk35_4b2 (rc : Rec) (md : Md) (e : Exit) (s0 : Value) (s1 : Value) (s8 : Value) (s9 : Value) (s10 : Value) (s11 : Value) (h : Heap) : Option (((Value × Value × Value × Value × Value × Value) × Heap) ⊕ (Exit × (Value × Value × Value × Value × Value × Value) × Heap)) :=
  match e with
  | .normal =>
    J35_4b3 rc md s0 s1 s8 s9 s10 s11 h
  | .exit j =>
    bif Nat.beq j 8 then
      J35_4b3 rc md s0 s1 s8 s9 s10 s11 h
    else
      bif Nat.beq j 5 then
        some (.inl ((s0, s1, s8, s9, s10, s11), h))
      else
        some (.inr ((.exit j), (s0, s1, s8, s9, s10, s11), h))
  | .ret =>
    some (.inr (.ret, (s0, s1, s8, s9, s10, s11), h))
  | .goto l => some (.inr ((.goto l), (s0, s1, s8, s9, s10, s11), h))
  | .panic ps => some (.inr ((.panic ps), (s0, s1, s8, s9, s10, s11), h))
  | .outgrown => some (.inr (.outgrown, (s0, s1, s8, s9, s10, s11), h))
noncomputable def Jk35_4b2H (rc : Rec) (md : Md) (X2 : T → Heap → Option (((Value × Value × Value × Value × Value × Value) × Heap) ⊕ (Exit × (Value × Value × Value × Value × Value × Value) × Heap))) (e : Exit) (t : T) (h : Heap) : Option (((Value × Value × Value × Value × Value × Value) × Heap) ⊕ (Exit × (Value × Value × Value × Value × Value × Value) × Heap)) :=
  match e with
  | .normal =>
    X2 t h
  | .exit j =>
    bif Nat.beq j 8 then
      X2 t h
    else
      bif Nat.beq j 5 then
        some (.inl (((t 0), (t 1), (t 8), (t 9), (t 10), (t 11)), h))
      else
        some (.inr ((.exit j), ((t 0), (t 1), (t 8), (t 9), (t 10), (t 11)), h))
  | .ret =>
    some (.inr (.ret, ((t 0), (t 1), (t 8), (t 9), (t 10), (t 11)), h))
  | .goto l => some (.inr ((.goto l), ((t 0), (t 1), (t 8), (t 9), (t 10), (t 11)), h))
  | .panic ps => some (.inr ((.panic ps), ((t 0), (t 1), (t 8), (t 9), (t 10), (t 11)), h))
  | .outgrown => some (.inr (.outgrown, ((t 0), (t 1), (t 8), (t 9), (t 10), (t 11)), h))
theorem Jk35_4b2_h1 (rc : Rec) (md : Md) (X : Nat → T → Heap → Option (((Value × Value × Value × Value × Value × Value) × Heap) ⊕ (Exit × (Value × Value × Value × Value × Value × Value) × Heap))) (e : Exit) (t : T) (h : Heap) : kAtG Try.prog cfg X rc md 168 (replS (sub (bodyOf Try.prog 35) [1, 1, 1, 1, 1, 1, 1, 1, 1, 0, 0, 0]) [([0, 0, 0], 0), ([0, 1, 1], 2)]) [0, 1, 0, 0] (rndK (fun t => (t 0, t 1, t 8, t 9, t 10, t 11))) e t h = Jk35_4b2H rc md (X 2) e t h := by cases e <;> kernel_rfl
theorem Jk35_4b2_h2 (rc : Rec) (md : Md) (e : Exit) (t : T) (h : Heap) : Jk35_4b2H rc md (fun t h => J35_4b3 rc md (t 0) (t 1) (t 8) (t 9) (t 10) (t 11) h) e t h = Jk35_4b2 rc md e (t 0) (t 1) (t 8) (t 9) (t 10) (t 11) h := by cases e <;> (unfold Jk35_4b2H Jk35_4b2; kernel_rfl)
theorem Jk35_4b2_at (rc : Rec) (md : Md) (e : Exit) (t : T) (h : Heap) : kAt Try.prog cfg rc md 168 (sub (bodyOf Try.prog 35) [1, 1, 1, 1, 1, 1, 1, 1, 1, 0, 0, 0]) [0, 1, 0, 0] (rndK (fun t => (t 0, t 1, t 8, t 9, t 10, t 11))) e t h = Jk35_4b2 rc md e (t 0) (t 1) (t 8) (t 9) (t 10) (t 11) h := by
  rw [kAt_holes [([0, 0, 0], 0), ([0, 1, 1], 2)] [0, 1, 0, 0] (by kernel_rfl), Jk35_4b2_h1, show (goX Try.prog cfg rc md 168 (sub (bodyOf Try.prog 35) [1, 1, 1, 1, 1, 1, 1, 1, 1, 0, 0, 0]) [([0, 0, 0], 0), ([0, 1, 1], 2)] (rndK (fun t => (t 0, t 1, t 8, t 9, t 10, t 11)))) 2 = _ from J35_4b3_cut rc md]
  exact Jk35_4b2_h2 rc md e t h
/-- a round -/
noncomputable def Jr35_4b2 (rc : Rec) (md : Md) (s0 : Value) (s1 : Value) (s8 : Value) (s9 : Value) (s10 : Value) (s11 : Value) (h : Heap) : Option (((Value × Value × Value × Value × Value × Value) × Heap) ⊕ (Exit × (Value × Value × Value × Value × Value × Value) × Heap)) :=
  aBin Try.prog .leq 3 s10 s11 fun v1 =>
  (bif wantV v1 true then
  some (s0, h)
  else some (undef, h)).bind fun p2 =>
  (bif wantV v1 true then
  some (s11, p2.2)
  else some (undef, p2.2)).bind fun p3 =>
  (bif wantV v1 true then
  ixSV 1 p2.1 p3.1 fun v4 =>
  some (v4, p3.2)
  else some (undef, p3.2)).bind fun p5 =>
  (bif wantV v1 true then
  ld1 p5.1 p5.2 fun v6 =>
  cIn .i64 v6 fun n7 =>
  some ((.int .i64 n7), p5.2)
  else some (undef, p5.2)).bind fun p8 =>
  (bif wantV v1 true then
  some (s0, p8.2)
  else some (undef, p8.2)).bind fun p9 =>
  (bif wantV v1 true then
  some (s1, p9.2)
  else some (undef, p9.2)).bind fun p10 =>
  (bif wantV v1 true then
  ixSV 1 p9.1 p10.1 fun v11 =>
  some (v11, p10.2)
  else some (undef, p10.2)).bind fun p12 =>
  (bif wantV v1 true then
  ld1 p12.1 p12.2 fun v13 =>
  cIn .i64 v13 fun n14 =>
  some ((.int .i64 n14), p12.2)
  else some (undef, p12.2)).bind fun p15 =>
  (bif wantV v1 true then
  cl (rc md 33 [p8.1, p15.1] p15.2) fun v16 h17 =>
  cBn v16 fun b18 =>
  some ((.bool b18), h17)
  else some (undef, p15.2)).bind fun p19 =>
  (bif wantV v1 true then
  aUn .not p19.1 fun v20 =>
  some (v20, p19.2)
  else some (undef, p19.2)).bind fun p21 =>
  cBn v1 fun q22 =>
  cBn (bif q22 then p21.1 else (.bool false)) fun b23 =>
  bif b23 then
    aBin Try.prog .sub 3 s11 (.int .i64 1) fun v24 =>
    some (.inl ((s0, s1, s8, s9, s10, v24), p21.2))
  else
    some (.inr ((.exit 8), (s0, s1, s8, s9, s10, s11), p21.2))
theorem Jr35_4b2_at (rc : Rec) (md : Md) (t : T) (h : Heap) : exec Try.prog cfg rc md 168 (sub (bodyOf Try.prog 35) [1, 1, 1, 1, 1, 1, 1, 1, 1, 0, 0, 0, 0, 1, 0, 0, 0]) (rndK (fun t => (t 0, t 1, t 8, t 9, t 10, t 11))) t h = Jr35_4b2 rc md (t 0) (t 1) (t 8) (t 9) (t 10) (t 11) h := by kernel_rfl
noncomputable def J35_4b2 (rc : Rec) (md : Md) (s0 : Value) (s1 : Value) (s8 : Value) (s9 : Value) (s10 : Value) (s11 : Value) (h : Heap) : Option (((Value × Value × Value × Value × Value × Value) × Heap) ⊕ (Exit × (Value × Value × Value × Value × Value × Value) × Heap)) :=
  runL (fun x : (Value × Value × Value × Value × Value × Value) × Heap => Jr35_4b2 rc md x.1.1 x.1.2.1 x.1.2.2.1 x.1.2.2.2.1 x.1.2.2.2.2.1 x.1.2.2.2.2.2 x.2) (fun e (s : Value × Value × Value × Value × Value × Value) h => Jk35_4b2 rc md e s.1 s.2.1 s.2.2.1 s.2.2.2.1 s.2.2.2.2.1 s.2.2.2.2.2 h) (s0, s1, s8, s9, s10, s11) h
theorem J35_4b2_step (rc : Rec) (md : Md) (s0 : Value) (s1 : Value) (s8 : Value) (s9 : Value) (s10 : Value) (s11 : Value) (h : Heap) : J35_4b2 rc md s0 s1 s8 s9 s10 s11 h = (Jr35_4b2 rc md s0 s1 s8 s9 s10 s11 h).bind fun x => match x with
    | .inl (s, h) => J35_4b2 rc md s.1 s.2.1 s.2.2.1 s.2.2.2.1 s.2.2.2.2.1 s.2.2.2.2.2 h
    | .inr (e, s, h) => Jk35_4b2 rc md e s.1 s.2.1 s.2.2.1 s.2.2.2.1 s.2.2.2.2.1 s.2.2.2.2.2 h := by
  unfold J35_4b2
  rw [runL_eq]
  refine congrArg (Option.bind _) (funext fun x => ?_)
  rcases x with ⟨s, h⟩ | ⟨e, s, h⟩ <;> rfl
theorem J35_4b2_cut (rc : Rec) (md : Md) : cut Try.prog cfg rc md 168 (sub (bodyOf Try.prog 35) [1, 1, 1, 1, 1, 1, 1, 1, 1, 0, 0, 0]) [0, 1, 0, 0] (rndK (fun t => (t 0, t 1, t 8, t 9, t 10, t 11))) = fun t h => J35_4b2 rc md (t 0) (t 1) (t 8) (t 9) (t 10) (t 11) h := by
  funext t h
  have e : sub (sub (bodyOf Try.prog 35) [1, 1, 1, 1, 1, 1, 1, 1, 1, 0, 0, 0]) [0, 1, 0, 0] = .loop (sub (bodyOf Try.prog 35) [1, 1, 1, 1, 1, 1, 1, 1, 1, 0, 0, 0, 0, 1, 0, 0, 0]) := by kernel_rfl
  unfold cut
  rw [e]
  exact loop_eq (by kernel_rfl) (fun t => (t 0, t 1, t 8, t 9, t 10, t 11)) (fun x : (Value × Value × Value × Value × Value × Value) × Heap => Jr35_4b2 rc md x.1.1 x.1.2.1 x.1.2.2.1 x.1.2.2.2.1 x.1.2.2.2.2.1 x.1.2.2.2.2.2 x.2) (fun t h => Jr35_4b2_at rc md t h) (fun e (s : Value × Value × Value × Value × Value × Value) h => Jk35_4b2 rc md e s.1 s.2.1 s.2.2.1 s.2.2.2.1 s.2.2.2.2.1 s.2.2.2.2.2 h) (fun e t h => Jk35_4b2_at rc md e t h) t h
noncomputable def J35_4b1 (rc : Rec) (md : Md) (s0 : Value) (s1 : Value) (s8 : Value) (s9 : Value) (s10 : Value) (s11 : Value) (h : Heap) : Option (((Value × Value × Value × Value × Value × Value) × Heap) ⊕ (Exit × (Value × Value × Value × Value × Value × Value) × Heap)) :=
  J35_4b2 rc md s0 s1 s8 s9 s10 s11 h
noncomputable def J35_4b1H (rc : Rec) (md : Md) (X1 : T → Heap → Option (((Value × Value × Value × Value × Value × Value) × Heap) ⊕ (Exit × (Value × Value × Value × Value × Value × Value) × Heap))) (t : T) (h : Heap) : Option (((Value × Value × Value × Value × Value × Value) × Heap) ⊕ (Exit × (Value × Value × Value × Value × Value × Value) × Heap)) :=
  X1 t h
theorem J35_4b1_h1 (rc : Rec) (md : Md) (X : Nat → T → Heap → Option (((Value × Value × Value × Value × Value × Value) × Heap) ⊕ (Exit × (Value × Value × Value × Value × Value × Value) × Heap))) (t : T) (h : Heap) : execG Try.prog cfg X rc md 168 (sub (replS (sub (bodyOf Try.prog 35) [1, 1, 1, 1, 1, 1, 1, 1, 1, 0, 0, 0]) [([0, 0, 0], 0), ([0, 1, 0, 0], 1), ([0, 1, 1], 2)]) [0, 1]) (kAtG Try.prog cfg X rc md 168 (replS (sub (bodyOf Try.prog 35) [1, 1, 1, 1, 1, 1, 1, 1, 1, 0, 0, 0]) [([0, 0, 0], 0), ([0, 1, 0, 0], 1), ([0, 1, 1], 2)]) [0, 1] (rndK (fun t => (t 0, t 1, t 8, t 9, t 10, t 11)))) t h = J35_4b1H rc md (X 1) t h := by kernel_rfl
theorem J35_4b1_h2 (rc : Rec) (md : Md) (t : T) (h : Heap) : J35_4b1H rc md (fun t h => J35_4b2 rc md (t 0) (t 1) (t 8) (t 9) (t 10) (t 11) h) t h = J35_4b1 rc md (t 0) (t 1) (t 8) (t 9) (t 10) (t 11) h := by (unfold J35_4b1H J35_4b1; kernel_rfl)
theorem J35_4b1_at (rc : Rec) (md : Md) (t : T) (h : Heap) : cut Try.prog cfg rc md 168 (sub (bodyOf Try.prog 35) [1, 1, 1, 1, 1, 1, 1, 1, 1, 0, 0, 0]) [0, 1] (rndK (fun t => (t 0, t 1, t 8, t 9, t 10, t 11))) t h = J35_4b1 rc md (t 0) (t 1) (t 8) (t 9) (t 10) (t 11) h := by
  rw [cut_holes [([0, 0, 0], 0), ([0, 1, 0, 0], 1), ([0, 1, 1], 2)] [0, 1] (by kernel_rfl), J35_4b1_h1, show (goX Try.prog cfg rc md 168 (sub (bodyOf Try.prog 35) [1, 1, 1, 1, 1, 1, 1, 1, 1, 0, 0, 0]) [([0, 0, 0], 0), ([0, 1, 0, 0], 1), ([0, 1, 1], 2)] (rndK (fun t => (t 0, t 1, t 8, t 9, t 10, t 11)))) 1 = _ from J35_4b2_cut rc md]
  exact J35_4b1_h2 rc md t h
theorem J35_4b1_cut (rc : Rec) (md : Md) : cut Try.prog cfg rc md 168 (sub (bodyOf Try.prog 35) [1, 1, 1, 1, 1, 1, 1, 1, 1, 0, 0, 0]) [0, 1] (rndK (fun t => (t 0, t 1, t 8, t 9, t 10, t 11))) = fun t h => J35_4b1 rc md (t 0) (t 1) (t 8) (t 9) (t 10) (t 11) h := funext fun t => funext fun h => J35_4b1_at rc md t h
noncomputable def Jk35_4b0 (rc : Rec) (md : Md) (e : Exit) (s0 : Value) (s1 : Value) (s8 : Value) (s9 : Value) (s10 : Value) (s11 : Value) (h : Heap) : Option (((Value × Value × Value × Value × Value × Value) × Heap) ⊕ (Exit × (Value × Value × Value × Value × Value × Value) × Heap)) :=
  match e with
  | .normal =>
    J35_4b1 rc md s0 s1 s8 s9 s10 s11 h
  | .exit j =>
    bif Nat.beq j 6 then
      J35_4b1 rc md s0 s1 s8 s9 s10 s11 h
    else
      bif Nat.beq j 5 then
        some (.inl ((s0, s1, s8, s9, s10, s11), h))
      else
        some (.inr ((.exit j), (s0, s1, s8, s9, s10, s11), h))
  | .ret =>
    some (.inr (.ret, (s0, s1, s8, s9, s10, s11), h))
  | .goto l => some (.inr ((.goto l), (s0, s1, s8, s9, s10, s11), h))
  | .panic ps => some (.inr ((.panic ps), (s0, s1, s8, s9, s10, s11), h))
  | .outgrown => some (.inr (.outgrown, (s0, s1, s8, s9, s10, s11), h))
noncomputable def Jk35_4b0H (rc : Rec) (md : Md) (X3 : T → Heap → Option (((Value × Value × Value × Value × Value × Value) × Heap) ⊕ (Exit × (Value × Value × Value × Value × Value × Value) × Heap))) (e : Exit) (t : T) (h : Heap) : Option (((Value × Value × Value × Value × Value × Value) × Heap) ⊕ (Exit × (Value × Value × Value × Value × Value × Value) × Heap)) :=
  match e with
  | .normal =>
    X3 t h
  | .exit j =>
    bif Nat.beq j 6 then
      X3 t h
    else
      bif Nat.beq j 5 then
        some (.inl (((t 0), (t 1), (t 8), (t 9), (t 10), (t 11)), h))
      else
        some (.inr ((.exit j), ((t 0), (t 1), (t 8), (t 9), (t 10), (t 11)), h))
  | .ret =>
    some (.inr (.ret, ((t 0), (t 1), (t 8), (t 9), (t 10), (t 11)), h))
  | .goto l => some (.inr ((.goto l), ((t 0), (t 1), (t 8), (t 9), (t 10), (t 11)), h))
  | .panic ps => some (.inr ((.panic ps), ((t 0), (t 1), (t 8), (t 9), (t 10), (t 11)), h))
  | .outgrown => some (.inr (.outgrown, ((t 0), (t 1), (t 8), (t 9), (t 10), (t 11)), h))
theorem Jk35_4b0_h1 (rc : Rec) (md : Md) (X : Nat → T → Heap → Option (((Value × Value × Value × Value × Value × Value) × Heap) ⊕ (Exit × (Value × Value × Value × Value × Value × Value) × Heap))) (e : Exit) (t : T) (h : Heap) : kAtG Try.prog cfg X rc md 168 (replS (sub (bodyOf Try.prog 35) [1, 1, 1, 1, 1, 1, 1, 1, 1, 0, 0, 0]) [([0, 1, 0, 0], 1), ([0, 1, 1], 2), ([0, 1], 3)]) [0, 0, 0] (rndK (fun t => (t 0, t 1, t 8, t 9, t 10, t 11))) e t h = Jk35_4b0H rc md (X 3) e t h := by cases e <;> kernel_rfl
theorem Jk35_4b0_h2 (rc : Rec) (md : Md) (e : Exit) (t : T) (h : Heap) : Jk35_4b0H rc md (fun t h => J35_4b1 rc md (t 0) (t 1) (t 8) (t 9) (t 10) (t 11) h) e t h = Jk35_4b0 rc md e (t 0) (t 1) (t 8) (t 9) (t 10) (t 11) h := by cases e <;> (unfold Jk35_4b0H Jk35_4b0; kernel_rfl)
theorem Jk35_4b0_at (rc : Rec) (md : Md) (e : Exit) (t : T) (h : Heap) : kAt Try.prog cfg rc md 168 (sub (bodyOf Try.prog 35) [1, 1, 1, 1, 1, 1, 1, 1, 1, 0, 0, 0]) [0, 0, 0] (rndK (fun t => (t 0, t 1, t 8, t 9, t 10, t 11))) e t h = Jk35_4b0 rc md e (t 0) (t 1) (t 8) (t 9) (t 10) (t 11) h := by
  rw [kAt_holes [([0, 1, 0, 0], 1), ([0, 1, 1], 2), ([0, 1], 3)] [0, 0, 0] (by kernel_rfl), Jk35_4b0_h1, show (goX Try.prog cfg rc md 168 (sub (bodyOf Try.prog 35) [1, 1, 1, 1, 1, 1, 1, 1, 1, 0, 0, 0]) [([0, 1, 0, 0], 1), ([0, 1, 1], 2), ([0, 1], 3)] (rndK (fun t => (t 0, t 1, t 8, t 9, t 10, t 11)))) 3 = _ from J35_4b1_cut rc md]
  exact Jk35_4b0_h2 rc md e t h
/-- a round -/
noncomputable def Jr35_4b0 (rc : Rec) (md : Md) (s0 : Value) (s1 : Value) (s8 : Value) (s9 : Value) (s10 : Value) (s11 : Value) (h : Heap) : Option (((Value × Value × Value × Value × Value × Value) × Heap) ⊕ (Exit × (Value × Value × Value × Value × Value × Value) × Heap)) :=
  aBin Try.prog .leq 3 s10 s11 fun v1 =>
  (bif wantV v1 true then
  some (s0, h)
  else some (undef, h)).bind fun p2 =>
  (bif wantV v1 true then
  some (s10, p2.2)
  else some (undef, p2.2)).bind fun p3 =>
  (bif wantV v1 true then
  ixSV 1 p2.1 p3.1 fun v4 =>
  some (v4, p3.2)
  else some (undef, p3.2)).bind fun p5 =>
  (bif wantV v1 true then
  ld1 p5.1 p5.2 fun v6 =>
  cIn .i64 v6 fun n7 =>
  some ((.int .i64 n7), p5.2)
  else some (undef, p5.2)).bind fun p8 =>
  (bif wantV v1 true then
  some (s0, p8.2)
  else some (undef, p8.2)).bind fun p9 =>
  (bif wantV v1 true then
  some (s1, p9.2)
  else some (undef, p9.2)).bind fun p10 =>
  (bif wantV v1 true then
  ixSV 1 p9.1 p10.1 fun v11 =>
  some (v11, p10.2)
  else some (undef, p10.2)).bind fun p12 =>
  (bif wantV v1 true then
  ld1 p12.1 p12.2 fun v13 =>
  cIn .i64 v13 fun n14 =>
  some ((.int .i64 n14), p12.2)
  else some (undef, p12.2)).bind fun p15 =>
  (bif wantV v1 true then
  cl (rc md 33 [p8.1, p15.1] p15.2) fun v16 h17 =>
  cBn v16 fun b18 =>
  some ((.bool b18), h17)
  else some (undef, p15.2)).bind fun p19 =>
  cBn v1 fun q20 =>
  cBn (bif q20 then p19.1 else (.bool false)) fun b21 =>
  bif b21 then
    aBin Try.prog .add 3 s10 (.int .i64 1) fun v22 =>
    some (.inl ((s0, s1, s8, s9, v22, s11), p19.2))
  else
    some (.inr ((.exit 6), (s0, s1, s8, s9, s10, s11), p19.2))
theorem Jr35_4b0_at (rc : Rec) (md : Md) (t : T) (h : Heap) : exec Try.prog cfg rc md 168 (sub (bodyOf Try.prog 35) [1, 1, 1, 1, 1, 1, 1, 1, 1, 0, 0, 0, 0, 0, 0, 0]) (rndK (fun t => (t 0, t 1, t 8, t 9, t 10, t 11))) t h = Jr35_4b0 rc md (t 0) (t 1) (t 8) (t 9) (t 10) (t 11) h := by kernel_rfl
noncomputable def J35_4b0 (rc : Rec) (md : Md) (s0 : Value) (s1 : Value) (s8 : Value) (s9 : Value) (s10 : Value) (s11 : Value) (h : Heap) : Option (((Value × Value × Value × Value × Value × Value) × Heap) ⊕ (Exit × (Value × Value × Value × Value × Value × Value) × Heap)) :=
  runL (fun x : (Value × Value × Value × Value × Value × Value) × Heap => Jr35_4b0 rc md x.1.1 x.1.2.1 x.1.2.2.1 x.1.2.2.2.1 x.1.2.2.2.2.1 x.1.2.2.2.2.2 x.2) (fun e (s : Value × Value × Value × Value × Value × Value) h => Jk35_4b0 rc md e s.1 s.2.1 s.2.2.1 s.2.2.2.1 s.2.2.2.2.1 s.2.2.2.2.2 h) (s0, s1, s8, s9, s10, s11) h
theorem J35_4b0_step (rc : Rec) (md : Md) (s0 : Value) (s1 : Value) (s8 : Value) (s9 : Value) (s10 : Value) (s11 : Value) (h : Heap) : J35_4b0 rc md s0 s1 s8 s9 s10 s11 h = (Jr35_4b0 rc md s0 s1 s8 s9 s10 s11 h).bind fun x => match x with
    | .inl (s, h) => J35_4b0 rc md s.1 s.2.1 s.2.2.1 s.2.2.2.1 s.2.2.2.2.1 s.2.2.2.2.2 h
    | .inr (e, s, h) => Jk35_4b0 rc md e s.1 s.2.1 s.2.2.1 s.2.2.2.1 s.2.2.2.2.1 s.2.2.2.2.2 h := by
  unfold J35_4b0
  rw [runL_eq]
  refine congrArg (Option.bind _) (funext fun x => ?_)
  rcases x with ⟨s, h⟩ | ⟨e, s, h⟩ <;> rfl
theorem J35_4b0_cut (rc : Rec) (md : Md) : cut Try.prog cfg rc md 168 (sub (bodyOf Try.prog 35) [1, 1, 1, 1, 1, 1, 1, 1, 1, 0, 0, 0]) [0, 0, 0] (rndK (fun t => (t 0, t 1, t 8, t 9, t 10, t 11))) = fun t h => J35_4b0 rc md (t 0) (t 1) (t 8) (t 9) (t 10) (t 11) h := by
  funext t h
  have e : sub (sub (bodyOf Try.prog 35) [1, 1, 1, 1, 1, 1, 1, 1, 1, 0, 0, 0]) [0, 0, 0] = .loop (sub (bodyOf Try.prog 35) [1, 1, 1, 1, 1, 1, 1, 1, 1, 0, 0, 0, 0, 0, 0, 0]) := by kernel_rfl
  unfold cut
  rw [e]
  exact loop_eq (by kernel_rfl) (fun t => (t 0, t 1, t 8, t 9, t 10, t 11)) (fun x : (Value × Value × Value × Value × Value × Value) × Heap => Jr35_4b0 rc md x.1.1 x.1.2.1 x.1.2.2.1 x.1.2.2.2.1 x.1.2.2.2.2.1 x.1.2.2.2.2.2 x.2) (fun t h => Jr35_4b0_at rc md t h) (fun e (s : Value × Value × Value × Value × Value × Value) h => Jk35_4b0 rc md e s.1 s.2.1 s.2.2.1 s.2.2.2.1 s.2.2.2.2.1 s.2.2.2.2.2 h) (fun e t h => Jk35_4b0_at rc md e t h) t h
/-- a round -/
noncomputable def Jr35_4 (rc : Rec) (md : Md) (s0 : Value) (s1 : Value) (s8 : Value) (s9 : Value) (s10 : Value) (s11 : Value) (h : Heap) : Option (((Value × Value × Value × Value × Value × Value) × Heap) ⊕ (Exit × (Value × Value × Value × Value × Value × Value) × Heap)) :=
  J35_4b0 rc md s0 s1 s8 s9 s10 s11 h
noncomputable def Jr35_4H (rc : Rec) (md : Md) (X0 : T → Heap → Option (((Value × Value × Value × Value × Value × Value) × Heap) ⊕ (Exit × (Value × Value × Value × Value × Value × Value) × Heap))) (t : T) (h : Heap) : Option (((Value × Value × Value × Value × Value × Value) × Heap) ⊕ (Exit × (Value × Value × Value × Value × Value × Value) × Heap)) :=
  X0 t h
theorem Jr35_4_h1 (rc : Rec) (md : Md) (X : Nat → T → Heap → Option (((Value × Value × Value × Value × Value × Value) × Heap) ⊕ (Exit × (Value × Value × Value × Value × Value × Value) × Heap))) (t : T) (h : Heap) : execG Try.prog cfg X rc md 168 (replS (sub (bodyOf Try.prog 35) [1, 1, 1, 1, 1, 1, 1, 1, 1, 0, 0, 0]) [([0, 0, 0], 0), ([0, 1, 0, 0], 1), ([0, 1, 1], 2), ([0, 1], 3)]) (rndK (fun t => (t 0, t 1, t 8, t 9, t 10, t 11))) t h = Jr35_4H rc md (X 0) t h := by kernel_rfl
theorem Jr35_4_h2 (rc : Rec) (md : Md) (t : T) (h : Heap) : Jr35_4H rc md (fun t h => J35_4b0 rc md (t 0) (t 1) (t 8) (t 9) (t 10) (t 11) h) t h = Jr35_4 rc md (t 0) (t 1) (t 8) (t 9) (t 10) (t 11) h := by unfold Jr35_4H Jr35_4; kernel_rfl
theorem Jr35_4_at (rc : Rec) (md : Md) (t : T) (h : Heap) : exec Try.prog cfg rc md 168 (sub (bodyOf Try.prog 35) [1, 1, 1, 1, 1, 1, 1, 1, 1, 0, 0, 0]) (rndK (fun t => (t 0, t 1, t 8, t 9, t 10, t 11))) t h = Jr35_4 rc md (t 0) (t 1) (t 8) (t 9) (t 10) (t 11) h := by
  rw [exec_holes [([0, 0, 0], 0), ([0, 1, 0, 0], 1), ([0, 1, 1], 2), ([0, 1], 3)] (by kernel_rfl), Jr35_4_h1, show (goX Try.prog cfg rc md 168 (sub (bodyOf Try.prog 35) [1, 1, 1, 1, 1, 1, 1, 1, 1, 0, 0, 0]) [([0, 0, 0], 0), ([0, 1, 0, 0], 1), ([0, 1, 1], 2), ([0, 1], 3)] (rndK (fun t => (t 0, t 1, t 8, t 9, t 10, t 11)))) 0 = _ from J35_4b0_cut rc md]
  exact Jr35_4_h2 rc md t h
noncomputable def J35_4 (rc : Rec) (md : Md) (h0 : Heap) (s0 : Value) (s1 : Value) (s8 : Value) (s9 : Value) (s10 : Value) (s11 : Value) (h : Heap) : Option (Value × Heap) :=
  runL (fun x : (Value × Value × Value × Value × Value × Value) × Heap => Jr35_4 rc md x.1.1 x.1.2.1 x.1.2.2.1 x.1.2.2.2.1 x.1.2.2.2.2.1 x.1.2.2.2.2.2 x.2) (fun e (s : Value × Value × Value × Value × Value × Value) h => Jk35_4 rc md h0 e s.1 s.2.1 s.2.2.1 s.2.2.2.1 s.2.2.2.2.1 s.2.2.2.2.2 h) (s0, s1, s8, s9, s10, s11) h
theorem J35_4_step (rc : Rec) (md : Md) (h0 : Heap) (s0 : Value) (s1 : Value) (s8 : Value) (s9 : Value) (s10 : Value) (s11 : Value) (h : Heap) : J35_4 rc md h0 s0 s1 s8 s9 s10 s11 h = (Jr35_4 rc md s0 s1 s8 s9 s10 s11 h).bind fun x => match x with
    | .inl (s, h) => J35_4 rc md h0 s.1 s.2.1 s.2.2.1 s.2.2.2.1 s.2.2.2.2.1 s.2.2.2.2.2 h
    | .inr (e, s, h) => Jk35_4 rc md h0 e s.1 s.2.1 s.2.2.1 s.2.2.2.1 s.2.2.2.2.1 s.2.2.2.2.2 h := by
  unfold J35_4
  rw [runL_eq]
  refine congrArg (Option.bind _) (funext fun x => ?_)
  rcases x with ⟨s, h⟩ | ⟨e, s, h⟩ <;> rfl
theorem J35_4_cut (rc : Rec) (md : Md) (h0 : Heap) : cut Try.prog cfg rc md 168 (bodyOf Try.prog 35) [1, 1, 1, 1, 1, 1, 1, 1, 1, 0, 0] (retK Try.prog cfg 35 (rsOf Try.prog 35) h0) = fun t h => J35_4 rc md h0 (t 0) (t 1) (t 8) (t 9) (t 10) (t 11) h := by
  funext t h
  have e : sub (bodyOf Try.prog 35) [1, 1, 1, 1, 1, 1, 1, 1, 1, 0, 0] = .loop (sub (bodyOf Try.prog 35) [1, 1, 1, 1, 1, 1, 1, 1, 1, 0, 0, 0]) := by kernel_rfl
  unfold cut
  rw [e]
  exact loop_eq (by kernel_rfl) (fun t => (t 0, t 1, t 8, t 9, t 10, t 11)) (fun x : (Value × Value × Value × Value × Value × Value) × Heap => Jr35_4 rc md x.1.1 x.1.2.1 x.1.2.2.1 x.1.2.2.2.1 x.1.2.2.2.2.1 x.1.2.2.2.2.2 x.2) (fun t h => Jr35_4_at rc md t h) (fun e (s : Value × Value × Value × Value × Value × Value) h => Jk35_4 rc md h0 e s.1 s.2.1 s.2.2.1 s.2.2.2.1 s.2.2.2.2.1 s.2.2.2.2.2 h) (fun e t h => Jk35_4_at rc md h0 e t h) t h
noncomputable def J35_3 (rc : Rec) (md : Md) (h0 : Heap) (s0 : Value) (s1 : Value) (s8 : Value) (s9 : Value) (s10 : Value) (s11 : Value) (h : Heap) : Option (Value × Heap) :=
  aBin Try.prog .gtr 3 s10 s11 fun v1 =>
  cBn v1 fun b2 =>
  bif b2 then
    ixSV 1 s0 s1 fun v3 =>
    ld1 v3 h fun v4 =>
    cIn .i64 v4 fun n5 =>
    ixSV 1 s0 s11 fun v6 =>
    ld1 v6 h fun v7 =>
    cIn .i64 v7 fun n8 =>
    ixSV 1 s0 s11 fun v9 =>
    st md 1 v9 (.int .i64 n5) h fun h10 =>
    ixSV 1 s0 s1 fun v11 =>
    st md 1 v11 (.int .i64 n8) h10 fun h12 =>
    fin1 h0 (.tuple #[s11, (.bool true)]) h12
  else
    ixSV 1 s0 s11 fun v13 =>
    ld1 v13 h fun v14 =>
    cIn .i64 v14 fun n15 =>
    ixSV 1 s0 s10 fun v16 =>
    ld1 v16 h fun v17 =>
    cIn .i64 v17 fun n18 =>
    ixSV 1 s0 s10 fun v19 =>
    st md 1 v19 (.int .i64 n15) h fun h20 =>
    ixSV 1 s0 s11 fun v21 =>
    st md 1 v21 (.int .i64 n18) h20 fun h22 =>
    aBin Try.prog .add 3 s10 (.int .i64 1) fun v23 =>
    aBin Try.prog .sub 3 s11 (.int .i64 1) fun v24 =>
    J35_4 rc md h0 s0 s1 s8 s9 v23 v24 h22
noncomputable def J35_3H (rc : Rec) (md : Md) (h0 : Heap) (X2 : T → Heap → Option (Value × Heap)) (t : T) (h : Heap) : Option (Value × Heap) :=
  aBin Try.prog .gtr 3 (t 10) (t 11) fun v1 =>
  cBn v1 fun b2 =>
  bif b2 then
    ixSV 1 (t 0) (t 1) fun v3 =>
    ld1 v3 h fun v4 =>
    cIn .i64 v4 fun n5 =>
    ixSV 1 (t 0) (t 11) fun v6 =>
    ld1 v6 h fun v7 =>
    cIn .i64 v7 fun n8 =>
    ixSV 1 (t 0) (t 11) fun v9 =>
    st md 1 v9 (.int .i64 n5) h fun h10 =>
    ixSV 1 (t 0) (t 1) fun v11 =>
    st md 1 v11 (.int .i64 n8) h10 fun h12 =>
    fin1 h0 (.tuple #[(t 11), (.bool true)]) h12
  else
    ixSV 1 (t 0) (t 11) fun v13 =>
    ld1 v13 h fun v14 =>
    cIn .i64 v14 fun n15 =>
    ixSV 1 (t 0) (t 10) fun v16 =>
    ld1 v16 h fun v17 =>
    cIn .i64 v17 fun n18 =>
    ixSV 1 (t 0) (t 10) fun v19 =>
    st md 1 v19 (.int .i64 n15) h fun h20 =>
    ixSV 1 (t 0) (t 11) fun v21 =>
    st md 1 v21 (.int .i64 n18) h20 fun h22 =>
    aBin Try.prog .add 3 (t 10) (.int .i64 1) fun v23 =>
    aBin Try.prog .sub 3 (t 11) (.int .i64 1) fun v24 =>
    X2 (upd (upd (upd (upd (upd (upd (upd (upd (upd (upd (upd (upd (upd (upd (upd (upd (upd (upd (upd (upd (upd (upd (upd t 63 (t 10)) 64 (t 11)) 65 v1) 81 (t 0)) 82 (t 10)) 83 (t 0)) 84 (t 11)) 85 (t 0)) 86 (t 11)) 87 v13) 88 (.int .i64 n15)) 89 (t 0)) 90 (t 10)) 91 v16) 92 (.int .i64 n18)) 93 v19) 94 v21) 95 (t 10)) 96 v23) 10 v23) 97 (t 11)) 98 v24) 11 v24) h22
theorem J35_3_h1 (rc : Rec) (md : Md) (h0 : Heap) (X : Nat → T → Heap → Option (Value × Heap)) (t : T) (h : Heap) : execG Try.prog cfg X rc md 168 (sub (replS (bodyOf Try.prog 35) [([1, 1, 1, 0, 0], 0), ([1, 1, 1, 1, 0, 0], 1), ([1, 1, 1, 1, 1, 1, 1, 1, 1, 0, 0], 2), ([1, 1, 1, 1, 1, 1, 1, 1, 1, 1], 3)]) [1, 1, 1, 1, 1]) (kAtG Try.prog cfg X rc md 168 (replS (bodyOf Try.prog 35) [([1, 1, 1, 0, 0], 0), ([1, 1, 1, 1, 0, 0], 1), ([1, 1, 1, 1, 1, 1, 1, 1, 1, 0, 0], 2), ([1, 1, 1, 1, 1, 1, 1, 1, 1, 1], 3)]) [1, 1, 1, 1, 1] (retK Try.prog cfg 35 (rsOf Try.prog 35) h0)) t h = J35_3H rc md h0 (X 2) t h := by kernel_rfl
theorem J35_3_h2 (rc : Rec) (md : Md) (h0 : Heap) (t : T) (h : Heap) : J35_3H rc md h0 (fun t h => J35_4 rc md h0 (t 0) (t 1) (t 8) (t 9) (t 10) (t 11) h) t h = J35_3 rc md h0 (t 0) (t 1) (t 8) (t 9) (t 10) (t 11) h := by (unfold J35_3H J35_3; kernel_rfl)
theorem J35_3_at (rc : Rec) (md : Md) (h0 : Heap) (t : T) (h : Heap) : cut Try.prog cfg rc md 168 (bodyOf Try.prog 35) [1, 1, 1, 1, 1] (retK Try.prog cfg 35 (rsOf Try.prog 35) h0) t h = J35_3 rc md h0 (t 0) (t 1) (t 8) (t 9) (t 10) (t 11) h := by
  rw [cut_holes [([1, 1, 1, 0, 0], 0), ([1, 1, 1, 1, 0, 0], 1), ([1, 1, 1, 1, 1, 1, 1, 1, 1, 0, 0], 2), ([1, 1, 1, 1, 1, 1, 1, 1, 1, 1], 3)] [1, 1, 1, 1, 1] (by kernel_rfl), J35_3_h1, show (goX Try.prog cfg rc md 168 (bodyOf Try.prog 35) [([1, 1, 1, 0, 0], 0), ([1, 1, 1, 1, 0, 0], 1), ([1, 1, 1, 1, 1, 1, 1, 1, 1, 0, 0], 2), ([1, 1, 1, 1, 1, 1, 1, 1, 1, 1], 3)] (retK Try.prog cfg 35 (rsOf Try.prog 35) h0)) 2 = _ from J35_4_cut rc md h0]
  exact J35_3_h2 rc md h0 t h
theorem J35_3_cut (rc : Rec) (md : Md) (h0 : Heap) : cut Try.prog cfg rc md 168 (bodyOf Try.prog 35) [1, 1, 1, 1, 1] (retK Try.prog cfg 35 (rsOf Try.prog 35) h0) = fun t h => J35_3 rc md h0 (t 0) (t 1) (t 8) (t 9) (t 10) (t 11) h := funext fun t => funext fun h => J35_3_at rc md h0 t h
noncomputable def Jk35_2 (rc : Rec) (md : Md) (h0 : Heap) (e : Exit) (s0 : Value) (s1 : Value) (s8 : Value) (s9 : Value) (s10 : Value) (s11 : Value) (h : Heap) : Option (Value × Heap) :=
  match e with
  | .normal =>
    J35_3 rc md h0 s0 s1 s8 s9 s10 s11 h
  | .exit j =>
    bif Nat.beq j 2 then
      J35_3 rc md h0 s0 s1 s8 s9 s10 s11 h
    else
      none
  | .ret =>
    fin1 h0 (.tuple #[s8, s9]) h
  | .goto l => none
  | .panic ps => none
  | .outgrown => none
noncomputable def Jk35_2H (rc : Rec) (md : Md) (h0 : Heap) (X4 : T → Heap → Option (Value × Heap)) (e : Exit) (t : T) (h : Heap) : Option (Value × Heap) :=
  match e with
  | .normal =>
    X4 t h
  | .exit j =>
    bif Nat.beq j 2 then
      X4 t h
    else
      none
  | .ret =>
    fin1 h0 (.tuple #[(t 8), (t 9)]) h
  | .goto l => none
  | .panic ps => none
  | .outgrown => none
theorem Jk35_2_h1 (rc : Rec) (md : Md) (h0 : Heap) (X : Nat → T → Heap → Option (Value × Heap)) (e : Exit) (t : T) (h : Heap) : kAtG Try.prog cfg X rc md 168 (replS (bodyOf Try.prog 35) [([1, 1, 1, 0, 0], 0), ([1, 1, 1, 1, 1, 1, 1, 1, 1, 0, 0], 2), ([1, 1, 1, 1, 1, 1, 1, 1, 1, 1], 3), ([1, 1, 1, 1, 1], 4)]) [1, 1, 1, 1, 0, 0] (retK Try.prog cfg 35 (rsOf Try.prog 35) h0) e t h = Jk35_2H rc md h0 (X 4) e t h := by cases e <;> kernel_rfl
theorem Jk35_2_h2 (rc : Rec) (md : Md) (h0 : Heap) (e : Exit) (t : T) (h : Heap) : Jk35_2H rc md h0 (fun t h => J35_3 rc md h0 (t 0) (t 1) (t 8) (t 9) (t 10) (t 11) h) e t h = Jk35_2 rc md h0 e (t 0) (t 1) (t 8) (t 9) (t 10) (t 11) h := by cases e <;> (unfold Jk35_2H Jk35_2; kernel_rfl)
theorem Jk35_2_at (rc : Rec) (md : Md) (h0 : Heap) (e : Exit) (t : T) (h : Heap) : kAt Try.prog cfg rc md 168 (bodyOf Try.prog 35) [1, 1, 1, 1, 0, 0] (retK Try.prog cfg 35 (rsOf Try.prog 35) h0) e t h = Jk35_2 rc md h0 e (t 0) (t 1) (t 8) (t 9) (t 10) (t 11) h := by
  rw [kAt_holes [([1, 1, 1, 0, 0], 0), ([1, 1, 1, 1, 1, 1, 1, 1, 1, 0, 0], 2), ([1, 1, 1, 1, 1, 1, 1, 1, 1, 1], 3), ([1, 1, 1, 1, 1], 4)] [1, 1, 1, 1, 0, 0] (by kernel_rfl), Jk35_2_h1, show (goX Try.prog cfg rc md 168 (bodyOf Try.prog 35) [([1, 1, 1, 0, 0], 0), ([1, 1, 1, 1, 1, 1, 1, 1, 1, 0, 0], 2), ([1, 1, 1, 1, 1, 1, 1, 1, 1, 1], 3), ([1, 1, 1, 1, 1], 4)] (retK Try.prog cfg 35 (rsOf Try.prog 35) h0)) 4 = _ from J35_3_cut rc md h0]
  exact Jk35_2_h2 rc md h0 e t h
/-- a round -/
noncomputable def Jr35_2 (rc : Rec) (md : Md) (s0 : Value) (s1 : Value) (s8 : Value) (s9 : Value) (s10 : Value) (s11 : Value) (h : Heap) : Option (((Value × Value × Value × Value × Value × Value) × Heap) ⊕ (Exit × (Value × Value × Value × Value × Value × Value) × Heap)) :=
  aBin Try.prog .leq 3 s10 s11 fun v1 =>
  (bif wantV v1 true then
  some (s0, h)
  else some (undef, h)).bind fun p2 =>
  (bif wantV v1 true then
  some (s11, p2.2)
  else some (undef, p2.2)).bind fun p3 =>
  (bif wantV v1 true then
  ixSV 1 p2.1 p3.1 fun v4 =>
  some (v4, p3.2)
  else some (undef, p3.2)).bind fun p5 =>
  (bif wantV v1 true then
  ld1 p5.1 p5.2 fun v6 =>
  cIn .i64 v6 fun n7 =>
  some ((.int .i64 n7), p5.2)
  else some (undef, p5.2)).bind fun p8 =>
  (bif wantV v1 true then
  some (s0, p8.2)
  else some (undef, p8.2)).bind fun p9 =>
  (bif wantV v1 true then
  some (s1, p9.2)
  else some (undef, p9.2)).bind fun p10 =>
  (bif wantV v1 true then
  ixSV 1 p9.1 p10.1 fun v11 =>
  some (v11, p10.2)
  else some (undef, p10.2)).bind fun p12 =>
  (bif wantV v1 true then
  ld1 p12.1 p12.2 fun v13 =>
  cIn .i64 v13 fun n14 =>
  some ((.int .i64 n14), p12.2)
  else some (undef, p12.2)).bind fun p15 =>
  (bif wantV v1 true then
  cl (rc md 33 [p8.1, p15.1] p15.2) fun v16 h17 =>
  cBn v16 fun b18 =>
  some ((.bool b18), h17)
  else some (undef, p15.2)).bind fun p19 =>
  (bif wantV v1 true then
  aUn .not p19.1 fun v20 =>
  some (v20, p19.2)
  else some (undef, p19.2)).bind fun p21 =>
  cBn v1 fun q22 =>
  cBn (bif q22 then p21.1 else (.bool false)) fun b23 =>
  bif b23 then
    aBin Try.prog .sub 3 s11 (.int .i64 1) fun v24 =>
    some (.inl ((s0, s1, s8, s9, s10, v24), p21.2))
  else
    some (.inr ((.exit 2), (s0, s1, s8, s9, s10, s11), p21.2))
theorem Jr35_2_at (rc : Rec) (md : Md) (t : T) (h : Heap) : exec Try.prog cfg rc md 168 (sub (bodyOf Try.prog 35) [1, 1, 1, 1, 0, 0, 0]) (rndK (fun t => (t 0, t 1, t 8, t 9, t 10, t 11))) t h = Jr35_2 rc md (t 0) (t 1) (t 8) (t 9) (t 10) (t 11) h := by kernel_rfl
noncomputable def J35_2 (rc : Rec) (md : Md) (h0 : Heap) (s0 : Value) (s1 : Value) (s8 : Value) (s9 : Value) (s10 : Value) (s11 : Value) (h : Heap) : Option (Value × Heap) :=
  runL (fun x : (Value × Value × Value × Value × Value × Value) × Heap => Jr35_2 rc md x.1.1 x.1.2.1 x.1.2.2.1 x.1.2.2.2.1 x.1.2.2.2.2.1 x.1.2.2.2.2.2 x.2) (fun e (s : Value × Value × Value × Value × Value × Value) h => Jk35_2 rc md h0 e s.1 s.2.1 s.2.2.1 s.2.2.2.1 s.2.2.2.2.1 s.2.2.2.2.2 h) (s0, s1, s8, s9, s10, s11) h
theorem J35_2_step (rc : Rec) (md : Md) (h0 : Heap) (s0 : Value) (s1 : Value) (s8 : Value) (s9 : Value) (s10 : Value) (s11 : Value) (h : Heap) : J35_2 rc md h0 s0 s1 s8 s9 s10 s11 h = (Jr35_2 rc md s0 s1 s8 s9 s10 s11 h).bind fun x => match x with
    | .inl (s, h) => J35_2 rc md h0 s.1 s.2.1 s.2.2.1 s.2.2.2.1 s.2.2.2.2.1 s.2.2.2.2.2 h
    | .inr (e, s, h) => Jk35_2 rc md h0 e s.1 s.2.1 s.2.2.1 s.2.2.2.1 s.2.2.2.2.1 s.2.2.2.2.2 h := by
  unfold J35_2
  rw [runL_eq]
  refine congrArg (Option.bind _) (funext fun x => ?_)
  rcases x with ⟨s, h⟩ | ⟨e, s, h⟩ <;> rfl
theorem J35_2_cut (rc : Rec) (md : Md) (h0 : Heap) : cut Try.prog cfg rc md 168 (bodyOf Try.prog 35) [1, 1, 1, 1, 0, 0] (retK Try.prog cfg 35 (rsOf Try.prog 35) h0) = fun t h => J35_2 rc md h0 (t 0) (t 1) (t 8) (t 9) (t 10) (t 11) h := by
  funext t h
  have e : sub (bodyOf Try.prog 35) [1, 1, 1, 1, 0, 0] = .loop (sub (bodyOf Try.prog 35) [1, 1, 1, 1, 0, 0, 0]) := by kernel_rfl
  unfold cut
  rw [e]
  exact loop_eq (by kernel_rfl) (fun t => (t 0, t 1, t 8, t 9, t 10, t 11)) (fun x : (Value × Value × Value × Value × Value × Value) × Heap => Jr35_2 rc md x.1.1 x.1.2.1 x.1.2.2.1 x.1.2.2.2.1 x.1.2.2.2.2.1 x.1.2.2.2.2.2 x.2) (fun t h => Jr35_2_at rc md t h) (fun e (s : Value × Value × Value × Value × Value × Value) h => Jk35_2 rc md h0 e s.1 s.2.1 s.2.2.1 s.2.2.2.1 s.2.2.2.2.1 s.2.2.2.2.2 h) (fun e t h => Jk35_2_at rc md h0 e t h) t h
noncomputable def J35_1 (rc : Rec) (md : Md) (h0 : Heap) (s0 : Value) (s1 : Value) (s8 : Value) (s9 : Value) (s10 : Value) (s11 : Value) (h : Heap) : Option (Value × Heap) :=
  J35_2 rc md h0 s0 s1 s8 s9 s10 s11 h
noncomputable def J35_1H (rc : Rec) (md : Md) (h0 : Heap) (X1 : T → Heap → Option (Value × Heap)) (t : T) (h : Heap) : Option (Value × Heap) :=
  X1 t h
theorem J35_1_h1 (rc : Rec) (md : Md) (h0 : Heap) (X : Nat → T → Heap → Option (Value × Heap)) (t : T) (h : Heap) : execG Try.prog cfg X rc md 168 (sub (replS (bodyOf Try.prog 35) [([1, 1, 1, 0, 0], 0), ([1, 1, 1, 1, 0, 0], 1), ([1, 1, 1, 1, 1, 1, 1, 1, 1, 0, 0], 2), ([1, 1, 1, 1, 1, 1, 1, 1, 1, 1], 3), ([1, 1, 1, 1, 1], 4)]) [1, 1, 1, 1]) (kAtG Try.prog cfg X rc md 168 (replS (bodyOf Try.prog 35) [([1, 1, 1, 0, 0], 0), ([1, 1, 1, 1, 0, 0], 1), ([1, 1, 1, 1, 1, 1, 1, 1, 1, 0, 0], 2), ([1, 1, 1, 1, 1, 1, 1, 1, 1, 1], 3), ([1, 1, 1, 1, 1], 4)]) [1, 1, 1, 1] (retK Try.prog cfg 35 (rsOf Try.prog 35) h0)) t h = J35_1H rc md h0 (X 1) t h := by kernel_rfl
theorem J35_1_h2 (rc : Rec) (md : Md) (h0 : Heap) (t : T) (h : Heap) : J35_1H rc md h0 (fun t h => J35_2 rc md h0 (t 0) (t 1) (t 8) (t 9) (t 10) (t 11) h) t h = J35_1 rc md h0 (t 0) (t 1) (t 8) (t 9) (t 10) (t 11) h := by (unfold J35_1H J35_1; kernel_rfl)
theorem J35_1_at (rc : Rec) (md : Md) (h0 : Heap) (t : T) (h : Heap) : cut Try.prog cfg rc md 168 (bodyOf Try.prog 35) [1, 1, 1, 1] (retK Try.prog cfg 35 (rsOf Try.prog 35) h0) t h = J35_1 rc md h0 (t 0) (t 1) (t 8) (t 9) (t 10) (t 11) h := by
  rw [cut_holes [([1, 1, 1, 0, 0], 0), ([1, 1, 1, 1, 0, 0], 1), ([1, 1, 1, 1, 1, 1, 1, 1, 1, 0, 0], 2), ([1, 1, 1, 1, 1, 1, 1, 1, 1, 1], 3), ([1, 1, 1, 1, 1], 4)] [1, 1, 1, 1] (by kernel_rfl), J35_1_h1, show (goX Try.prog cfg rc md 168 (bodyOf Try.prog 35) [([1, 1, 1, 0, 0], 0), ([1, 1, 1, 1, 0, 0], 1), ([1, 1, 1, 1, 1, 1, 1, 1, 1, 0, 0], 2), ([1, 1, 1, 1, 1, 1, 1, 1, 1, 1], 3), ([1, 1, 1, 1, 1], 4)] (retK Try.prog cfg 35 (rsOf Try.prog 35) h0)) 1 = _ from J35_2_cut rc md h0]
  exact J35_1_h2 rc md h0 t h
theorem J35_1_cut (rc : Rec) (md : Md) (h0 : Heap) : cut Try.prog cfg rc md 168 (bodyOf Try.prog 35) [1, 1, 1, 1] (retK Try.prog cfg 35 (rsOf Try.prog 35) h0) = fun t h => J35_1 rc md h0 (t 0) (t 1) (t 8) (t 9) (t 10) (t 11) h := funext fun t => funext fun h => J35_1_at rc md h0 t h
noncomputable def Jk35_0 (rc : Rec) (md : Md) (h0 : Heap) (e : Exit) (s0 : Value) (s1 : Value) (s8 : Value) (s9 : Value) (s10 : Value) (s11 : Value) (h : Heap) : Option (Value × Heap) :=
  match e with
  | .normal =>
    J35_1 rc md h0 s0 s1 s8 s9 s10 s11 h
  | .exit j =>
    bif Nat.beq j 0 then
      J35_1 rc md h0 s0 s1 s8 s9 s10 s11 h
    else
      none
  | .ret =>
    fin1 h0 (.tuple #[s8, s9]) h
  | .goto l => none
  | .panic ps => none
  | .outgrown => none
noncomputable def Jk35_0H (rc : Rec) (md : Md) (h0 : Heap) (X5 : T → Heap → Option (Value × Heap)) (e : Exit) (t : T) (h : Heap) : Option (Value × Heap) :=
  match e with
  | .normal =>
    X5 t h
  | .exit j =>
    bif Nat.beq j 0 then
      X5 t h
    else
      none
  | .ret =>
    fin1 h0 (.tuple #[(t 8), (t 9)]) h
  | .goto l => none
  | .panic ps => none
  | .outgrown => none
theorem Jk35_0_h1 (rc : Rec) (md : Md) (h0 : Heap) (X : Nat → T → Heap → Option (Value × Heap)) (e : Exit) (t : T) (h : Heap) : kAtG Try.prog cfg X rc md 168 (replS (bodyOf Try.prog 35) [([1, 1, 1, 1, 0, 0], 1), ([1, 1, 1, 1, 1, 1, 1, 1, 1, 0, 0], 2), ([1, 1, 1, 1, 1, 1, 1, 1, 1, 1], 3), ([1, 1, 1, 1, 1], 4), ([1, 1, 1, 1], 5)]) [1, 1, 1, 0, 0] (retK Try.prog cfg 35 (rsOf Try.prog 35) h0) e t h = Jk35_0H rc md h0 (X 5) e t h := by cases e <;> kernel_rfl
theorem Jk35_0_h2 (rc : Rec) (md : Md) (h0 : Heap) (e : Exit) (t : T) (h : Heap) : Jk35_0H rc md h0 (fun t h => J35_1 rc md h0 (t 0) (t 1) (t 8) (t 9) (t 10) (t 11) h) e t h = Jk35_0 rc md h0 e (t 0) (t 1) (t 8) (t 9) (t 10) (t 11) h := by cases e <;> (unfold Jk35_0H Jk35_0; kernel_rfl)
theorem Jk35_0_at (rc : Rec) (md : Md) (h0 : Heap) (e : Exit) (t : T) (h : Heap) : kAt Try.prog cfg rc md 168 (bodyOf Try.prog 35) [1, 1, 1, 0, 0] (retK Try.prog cfg 35 (rsOf Try.prog 35) h0) e t h = Jk35_0 rc md h0 e (t 0) (t 1) (t 8) (t 9) (t 10) (t 11) h := by
  rw [kAt_holes [([1, 1, 1, 1, 0, 0], 1), ([1, 1, 1, 1, 1, 1, 1, 1, 1, 0, 0], 2), ([1, 1, 1, 1, 1, 1, 1, 1, 1, 1], 3), ([1, 1, 1, 1, 1], 4), ([1, 1, 1, 1], 5)] [1, 1, 1, 0, 0] (by kernel_rfl), Jk35_0_h1, show (goX Try.prog cfg rc md 168 (bodyOf Try.prog 35) [([1, 1, 1, 1, 0, 0], 1), ([1, 1, 1, 1, 1, 1, 1, 1, 1, 0, 0], 2), ([1, 1, 1, 1, 1, 1, 1, 1, 1, 1], 3), ([1, 1, 1, 1, 1], 4), ([1, 1, 1, 1], 5)] (retK Try.prog cfg 35 (rsOf Try.prog 35) h0)) 5 = _ from J35_1_cut rc md h0]
  exact Jk35_0_h2 rc md h0 e t h
/-- a round -/
noncomputable def Jr35_0 (rc : Rec) (md : Md) (s0 : Value) (s1 : Value) (s8 : Value) (s9 : Value) (s10 : Value) (s11 : Value) (h : Heap) : Option (((Value × Value × Value × Value × Value × Value) × Heap) ⊕ (Exit × (Value × Value × Value × Value × Value × Value) × Heap)) :=
  aBin Try.prog .leq 3 s10 s11 fun v1 =>
  (bif wantV v1 true then
  some (s0, h)
  else some (undef, h)).bind fun p2 =>
  (bif wantV v1 true then
  some (s10, p2.2)
  else some (undef, p2.2)).bind fun p3 =>
  (bif wantV v1 true then
  ixSV 1 p2.1 p3.1 fun v4 =>
  some (v4, p3.2)
  else some (undef, p3.2)).bind fun p5 =>
  (bif wantV v1 true then
  ld1 p5.1 p5.2 fun v6 =>
  cIn .i64 v6 fun n7 =>
  some ((.int .i64 n7), p5.2)
  else some (undef, p5.2)).bind fun p8 =>
  (bif wantV v1 true then
  some (s0, p8.2)
  else some (undef, p8.2)).bind fun p9 =>
  (bif wantV v1 true then
  some (s1, p9.2)
  else some (undef, p9.2)).bind fun p10 =>
  (bif wantV v1 true then
  ixSV 1 p9.1 p10.1 fun v11 =>
  some (v11, p10.2)
  else some (undef, p10.2)).bind fun p12 =>
  (bif wantV v1 true then
  ld1 p12.1 p12.2 fun v13 =>
  cIn .i64 v13 fun n14 =>
  some ((.int .i64 n14), p12.2)
  else some (undef, p12.2)).bind fun p15 =>
  (bif wantV v1 true then
  cl (rc md 33 [p8.1, p15.1] p15.2) fun v16 h17 =>
  cBn v16 fun b18 =>
  some ((.bool b18), h17)
  else some (undef, p15.2)).bind fun p19 =>
  cBn v1 fun q20 =>
  cBn (bif q20 then p19.1 else (.bool false)) fun b21 =>
  bif b21 then
    aBin Try.prog .add 3 s10 (.int .i64 1) fun v22 =>
    some (.inl ((s0, s1, s8, s9, v22, s11), p19.2))
  else
    some (.inr ((.exit 0), (s0, s1, s8, s9, s10, s11), p19.2))
theorem Jr35_0_at (rc : Rec) (md : Md) (t : T) (h : Heap) : exec Try.prog cfg rc md 168 (sub (bodyOf Try.prog 35) [1, 1, 1, 0, 0, 0]) (rndK (fun t => (t 0, t 1, t 8, t 9, t 10, t 11))) t h = Jr35_0 rc md (t 0) (t 1) (t 8) (t 9) (t 10) (t 11) h := by kernel_rfl
noncomputable def J35_0 (rc : Rec) (md : Md) (h0 : Heap) (s0 : Value) (s1 : Value) (s8 : Value) (s9 : Value) (s10 : Value) (s11 : Value) (h : Heap) : Option (Value × Heap) :=
  runL (fun x : (Value × Value × Value × Value × Value × Value) × Heap => Jr35_0 rc md x.1.1 x.1.2.1 x.1.2.2.1 x.1.2.2.2.1 x.1.2.2.2.2.1 x.1.2.2.2.2.2 x.2) (fun e (s : Value × Value × Value × Value × Value × Value) h => Jk35_0 rc md h0 e s.1 s.2.1 s.2.2.1 s.2.2.2.1 s.2.2.2.2.1 s.2.2.2.2.2 h) (s0, s1, s8, s9, s10, s11) h
theorem J35_0_step (rc : Rec) (md : Md) (h0 : Heap) (s0 : Value) (s1 : Value) (s8 : Value) (s9 : Value) (s10 : Value) (s11 : Value) (h : Heap) : J35_0 rc md h0 s0 s1 s8 s9 s10 s11 h = (Jr35_0 rc md s0 s1 s8 s9 s10 s11 h).bind fun x => match x with
    | .inl (s, h) => J35_0 rc md h0 s.1 s.2.1 s.2.2.1 s.2.2.2.1 s.2.2.2.2.1 s.2.2.2.2.2 h
    | .inr (e, s, h) => Jk35_0 rc md h0 e s.1 s.2.1 s.2.2.1 s.2.2.2.1 s.2.2.2.2.1 s.2.2.2.2.2 h := by
  unfold J35_0
  rw [runL_eq]
  refine congrArg (Option.bind _) (funext fun x => ?_)
  rcases x with ⟨s, h⟩ | ⟨e, s, h⟩ <;> rfl
theorem J35_0_cut (rc : Rec) (md : Md) (h0 : Heap) : cut Try.prog cfg rc md 168 (bodyOf Try.prog 35) [1, 1, 1, 0, 0] (retK Try.prog cfg 35 (rsOf Try.prog 35) h0) = fun t h => J35_0 rc md h0 (t 0) (t 1) (t 8) (t 9) (t 10) (t 11) h := by
  funext t h
  have e : sub (bodyOf Try.prog 35) [1, 1, 1, 0, 0] = .loop (sub (bodyOf Try.prog 35) [1, 1, 1, 0, 0, 0]) := by kernel_rfl
  unfold cut
  rw [e]
  exact loop_eq (by kernel_rfl) (fun t => (t 0, t 1, t 8, t 9, t 10, t 11)) (fun x : (Value × Value × Value × Value × Value × Value) × Heap => Jr35_0 rc md x.1.1 x.1.2.1 x.1.2.2.1 x.1.2.2.2.1 x.1.2.2.2.2.1 x.1.2.2.2.2.2 x.2) (fun t h => Jr35_0_at rc md t h) (fun e (s : Value × Value × Value × Value × Value × Value) h => Jk35_0 rc md h0 e s.1 s.2.1 s.2.2.1 s.2.2.2.1 s.2.2.2.2.1 s.2.2.2.2.2 h) (fun e t h => Jk35_0_at rc md h0 e t h) t h
noncomputable def F35 (rc : Rec) (md : Md) (a0 : Value) (a1 : Int) (a2 : Int) (a3 : Int) (h0 : Heap) : Option (Value × Heap) :=
  ixS 1 a0 a3 fun v1 =>
  ld1 v1 h0 fun v2 =>
  cIn .i64 v2 fun n3 =>
  ixS 1 a0 a1 fun v4 =>
  ld1 v4 h0 fun v5 =>
  cIn .i64 v5 fun n6 =>
  ixS 1 a0 a1 fun v7 =>
  st md 1 v7 (.int .i64 n3) h0 fun h8 =>
  ixS 1 a0 a3 fun v9 =>
  st md 1 v9 (.int .i64 n6) h8 fun h10 =>
  J35_0 rc md h0 a0 (.int .i64 a1) (.int .i64 0) (.bool false) (.int .i64 (IntKind.wrap .i64 (a1 + 1))) (.int .i64 (IntKind.wrap .i64 (a2 - 1))) h10
noncomputable def F35H (rc : Rec) (md : Md) (X0 : T → Heap → Option (Value × Heap)) (a0 : Value) (a1 : Int) (a2 : Int) (a3 : Int) (h0 : Heap) : Option (Value × Heap) :=
  ixS 1 a0 a3 fun v1 =>
  ld1 v1 h0 fun v2 =>
  cIn .i64 v2 fun n3 =>
  ixS 1 a0 a1 fun v4 =>
  ld1 v4 h0 fun v5 =>
  cIn .i64 v5 fun n6 =>
  ixS 1 a0 a1 fun v7 =>
  st md 1 v7 (.int .i64 n3) h0 fun h8 =>
  ixS 1 a0 a3 fun v9 =>
  st md 1 v9 (.int .i64 n6) h8 fun h10 =>
  X0 (upd (upd (upd (upd (upd (upd (upd (upd (upd (upd (upd (upd (upd (upd (upd (upd (upd (upd (upd (upd (upd (upd (args0 [a0, (.int .i64 a1), (.int .i64 a2), (.int .i64 a3)]) 8 (.int .i64 0)) 9 (.bool false)) 12 a0) 13 (.int .i64 a1)) 14 a0) 15 (.int .i64 a3)) 16 a0) 17 (.int .i64 a3)) 18 v1) 19 (.int .i64 n3)) 20 a0) 21 (.int .i64 a1)) 22 v4) 23 (.int .i64 n6)) 24 v7) 25 v9) 26 (.int .i64 a1)) 27 (.int .i64 (IntKind.wrap .i64 (a1 + 1)))) 28 (.int .i64 a2)) 29 (.int .i64 (IntKind.wrap .i64 (a2 - 1)))) 10 (.int .i64 (IntKind.wrap .i64 (a1 + 1)))) 11 (.int .i64 (IntKind.wrap .i64 (a2 - 1)))) h10
theorem F35_h0 (rc : Rec) (md : Md) (a0 : Value) (a1 : Int) (a2 : Int) (a3 : Int) (h0 : Heap) : callStep0 Try.prog cfg rc md 35 [a0, (.int .i64 a1), (.int .i64 a2), (.int .i64 a3)] h0 = exec Try.prog cfg rc ⟨md.ro, h0.length⟩ 168 (bodyOf Try.prog 35) (retK Try.prog cfg 35 (rsOf Try.prog 35) h0) (args0 [a0, (.int .i64 a1), (.int .i64 a2), (.int .i64 a3)]) h0 := callStep0_run (by kernel_rfl) (by kernel_rfl) (by kernel_rfl)
theorem F35_h1 (rc : Rec) (md : Md) (X : Nat → T → Heap → Option (Value × Heap)) (a0 : Value) (a1 : Int) (a2 : Int) (a3 : Int) (h0 : Heap) : execG Try.prog cfg X rc md 168 (replS (bodyOf Try.prog 35) [([1, 1, 1, 0, 0], 0), ([1, 1, 1, 1, 0, 0], 1), ([1, 1, 1, 1, 1, 1, 1, 1, 1, 0, 0], 2), ([1, 1, 1, 1, 1, 1, 1, 1, 1, 1], 3), ([1, 1, 1, 1, 1], 4), ([1, 1, 1, 1], 5)]) (retK Try.prog cfg 35 (rsOf Try.prog 35) h0) (args0 [a0, (.int .i64 a1), (.int .i64 a2), (.int .i64 a3)]) h0 = F35H rc md (X 0) a0 a1 a2 a3 h0 := by kernel_rfl
theorem F35_h2 (rc : Rec) (md : Md) (a0 : Value) (a1 : Int) (a2 : Int) (a3 : Int) (h0 : Heap) : F35H rc md (fun t h => J35_0 rc md h0 (t 0) (t 1) (t 8) (t 9) (t 10) (t 11) h) a0 a1 a2 a3 h0 = F35 rc md a0 a1 a2 a3 h0 := by unfold F35H F35; kernel_rfl
theorem F35_eq0 (rc : Rec) (md : Md) (a0 : Value) (a1 : Int) (a2 : Int) (a3 : Int) (h0 : Heap) : callStep0 Try.prog cfg rc md 35 [a0, (.int .i64 a1), (.int .i64 a2), (.int .i64 a3)] h0 = F35 rc ⟨md.ro, h0.length⟩ a0 a1 a2 a3 h0 := by
  rw [F35_h0, exec_holes [([1, 1, 1, 0, 0], 0), ([1, 1, 1, 1, 0, 0], 1), ([1, 1, 1, 1, 1, 1, 1, 1, 1, 0, 0], 2), ([1, 1, 1, 1, 1, 1, 1, 1, 1, 1], 3), ([1, 1, 1, 1, 1], 4), ([1, 1, 1, 1], 5)] (by kernel_rfl), F35_h1, show (goX Try.prog cfg rc ⟨md.ro, h0.length⟩ 168 (bodyOf Try.prog 35) [([1, 1, 1, 0, 0], 0), ([1, 1, 1, 1, 0, 0], 1), ([1, 1, 1, 1, 1, 1, 1, 1, 1, 0, 0], 2), ([1, 1, 1, 1, 1, 1, 1, 1, 1, 1], 3), ([1, 1, 1, 1, 1], 4), ([1, 1, 1, 1], 5)] (retK Try.prog cfg 35 (rsOf Try.prog 35) h0)) 0 = _ from J35_0_cut rc ⟨md.ro, h0.length⟩ h0]
  exact F35_h2 rc _ a0 a1 a2 a3 h0
theorem F35_eq (rc : Rec) (md : Md) (a0 : Value) (a1 : Int) (a2 : Int) (a3 : Int) (h0 : Heap) : callStep Try.prog cfg rc md 35 [a0, (.int .i64 a1), (.int .i64 a2), (.int .i64 a3)] h0 = F35 rc ⟨md.ro, h0.length⟩ a0 a1 a2 a3 h0 := (callStep_ne (by kernel_rfl)).trans (F35_eq0 rc md a0 a1 a2 a3 h0)

/-- math/bits.Len32 -/
noncomputable def J36_1 (rc : Rec) (md : Md) (h0 : Heap) (s0 : Value) (s2 : Value) (h : Heap) : Option (Value × Heap) :=
  aConv Try.prog 83 5 s0 fun v1 =>
  aIndex Try.prog 9 (.string ⟨#[0, 1, 2, 2, 3, 3, 3, 3, 4, 4, 4, 4, 4, 4, 4, 4, 5, 5, 5, 5, 5, 5, 5, 5, 5, 5, 5, 5, 5, 5, 5, 5, 6, 6, 6, 6, 6, 6, 6, 6, 6, 6, 6, 6, 6, 6, 6, 6, 6, 6, 6, 6, 6, 6, 6, 6, 6, 6, 6, 6, 6, 6, 6, 6, 7, 7, 7, 7, 7, 7, 7, 7, 7, 7, 7, 7, 7, 7, 7, 7, 7, 7, 7, 7, 7, 7, 7, 7, 7, 7, 7, 7, 7, 7, 7, 7, 7, 7, 7, 7, 7, 7, 7, 7, 7, 7, 7, 7, 7, 7, 7, 7, 7, 7, 7, 7, 7, 7, 7, 7, 7, 7, 7, 7, 7, 7, 7, 7, 8, 8, 8, 8, 8, 8, 8, 8, 8, 8, 8, 8, 8, 8, 8, 8, 8, 8, 8, 8, 8, 8, 8, 8, 8, 8, 8, 8, 8, 8, 8, 8, 8, 8, 8, 8, 8, 8, 8, 8, 8, 8, 8, 8, 8, 8, 8, 8, 8, 8, 8, 8, 8, 8, 8, 8, 8, 8, 8, 8, 8, 8, 8, 8, 8, 8, 8, 8, 8, 8, 8, 8, 8, 8, 8, 8, 8, 8, 8, 8, 8, 8, 8, 8, 8, 8, 8, 8, 8, 8, 8, 8, 8, 8, 8, 8, 8, 8, 8, 8, 8, 8, 8, 8, 8, 8, 8, 8, 8, 8, 8, 8, 8, 8, 8, 8, 8, 8, 8, 8, 8, 8, 8, 8, 8, 8, 8, 8]⟩) v1 fun v2 =>
  cIn .u8 v2 fun n3 =>
  aBin Try.prog .add 3 s2 (.int .i64 (IntKind.wrap .i64 n3)) fun v4 =>
  fin2 h0 v4
theorem J36_1_at (rc : Rec) (md : Md) (h0 : Heap) (t : T) (h : Heap) : cut Try.prog cfg rc md 19 (bodyOf Try.prog 36) [1, 1, 1] (retK Try.prog cfg 36 (rsOf Try.prog 36) h0) t h = J36_1 rc md h0 (t 0) (t 2) h := by kernel_rfl
theorem J36_1_cut (rc : Rec) (md : Md) (h0 : Heap) : cut Try.prog cfg rc md 19 (bodyOf Try.prog 36) [1, 1, 1] (retK Try.prog cfg 36 (rsOf Try.prog 36) h0) = fun t h => J36_1 rc md h0 (t 0) (t 2) h := funext fun t => funext fun h => J36_1_at rc md h0 t h
noncomputable def J36_0 (rc : Rec) (md : Md) (h0 : Heap) (s0 : Value) (s2 : Value) (h : Heap) : Option (Value × Heap) :=
  aBin Try.prog .geq 83 s0 (.int .u32 256) fun v1 =>
  cBn v1 fun b2 =>
  bif b2 then
    aBin Try.prog .shr 83 s0 (.int .u64 8) fun v3 =>
    aBin Try.prog .add 3 s2 (.int .i64 8) fun v4 =>
    J36_1 rc md h0 v3 v4 h
  else
    J36_1 rc md h0 s0 s2 h
noncomputable def J36_0H (rc : Rec) (md : Md) (h0 : Heap) (X0 : T → Heap → Option (Value × Heap)) (t : T) (h : Heap) : Option (Value × Heap) :=
  aBin Try.prog .geq 83 (t 0) (.int .u32 256) fun v1 =>
  cBn v1 fun b2 =>
  bif b2 then
    aBin Try.prog .shr 83 (t 0) (.int .u64 8) fun v3 =>
    aBin Try.prog .add 3 (t 2) (.int .i64 8) fun v4 =>
    X0 (upd (upd (upd (upd (upd (upd (upd (upd t 7 (t 0)) 8 v1) 9 (t 0)) 10 v3) 0 v3) 11 (t 2)) 12 v4) 2 v4) h
  else
    X0 (upd (upd t 7 (t 0)) 8 v1) h
theorem J36_0_h1 (rc : Rec) (md : Md) (h0 : Heap) (X : Nat → T → Heap → Option (Value × Heap)) (t : T) (h : Heap) : execG Try.prog cfg X rc md 19 (sub (replS (bodyOf Try.prog 36) [([1, 1, 1], 0)]) [1, 1]) (kAtG Try.prog cfg X rc md 19 (replS (bodyOf Try.prog 36) [([1, 1, 1], 0)]) [1, 1] (retK Try.prog cfg 36 (rsOf Try.prog 36) h0)) t h = J36_0H rc md h0 (X 0) t h := by kernel_rfl
theorem J36_0_h2 (rc : Rec) (md : Md) (h0 : Heap) (t : T) (h : Heap) : J36_0H rc md h0 (fun t h => J36_1 rc md h0 (t 0) (t 2) h) t h = J36_0 rc md h0 (t 0) (t 2) h := by (unfold J36_0H J36_0; kernel_rfl)
theorem J36_0_at (rc : Rec) (md : Md) (h0 : Heap) (t : T) (h : Heap) : cut Try.prog cfg rc md 19 (bodyOf Try.prog 36) [1, 1] (retK Try.prog cfg 36 (rsOf Try.prog 36) h0) t h = J36_0 rc md h0 (t 0) (t 2) h := by
  rw [cut_holes [([1, 1, 1], 0)] [1, 1] (by kernel_rfl), J36_0_h1, show (goX Try.prog cfg rc md 19 (bodyOf Try.prog 36) [([1, 1, 1], 0)] (retK Try.prog cfg 36 (rsOf Try.prog 36) h0)) 0 = _ from J36_1_cut rc md h0]
  exact J36_0_h2 rc md h0 t h
theorem J36_0_cut (rc : Rec) (md : Md) (h0 : Heap) : cut Try.prog cfg rc md 19 (bodyOf Try.prog 36) [1, 1] (retK Try.prog cfg 36 (rsOf Try.prog 36) h0) = fun t h => J36_0 rc md h0 (t 0) (t 2) h := funext fun t => funext fun h => J36_0_at rc md h0 t h
noncomputable def F36 (rc : Rec) (md : Md) (a0 : Int) (h0 : Heap) : Option (Value × Heap) :=
  bif (decide (a0 ≥ 65536)) then
    J36_0 rc md h0 (.int .u32 (Int.fdiv a0 (2 ^ 16))) (.int .i64 16) h0
  else
    J36_0 rc md h0 (.int .u32 a0) (.int .i64 0) h0
noncomputable def F36H (rc : Rec) (md : Md) (X1 : T → Heap → Option (Value × Heap)) (a0 : Int) (h0 : Heap) : Option (Value × Heap) :=
  bif (decide (a0 ≥ 65536)) then
    X1 (upd (upd (upd (upd (upd (upd (upd (args0 [(.int .u32 a0)]) 2 (.int .i64 0)) 3 (.int .u32 a0)) 4 (.bool (decide (a0 ≥ 65536)))) 5 (.int .u32 a0)) 6 (.int .u32 (Int.fdiv a0 (2 ^ 16)))) 0 (.int .u32 (Int.fdiv a0 (2 ^ 16)))) 2 (.int .i64 16)) h0
  else
    X1 (upd (upd (upd (args0 [(.int .u32 a0)]) 2 (.int .i64 0)) 3 (.int .u32 a0)) 4 (.bool (decide (a0 ≥ 65536)))) h0
theorem F36_h0 (rc : Rec) (md : Md) (a0 : Int) (h0 : Heap) : callStep0 Try.prog cfg rc md 36 [(.int .u32 a0)] h0 = exec Try.prog cfg rc ⟨h0.length, h0.length⟩ 19 (bodyOf Try.prog 36) (retK Try.prog cfg 36 (rsOf Try.prog 36) h0) (args0 [(.int .u32 a0)]) h0 := callStep0_run (by kernel_rfl) (by kernel_rfl) (by kernel_rfl)
theorem F36_h1 (rc : Rec) (md : Md) (X : Nat → T → Heap → Option (Value × Heap)) (a0 : Int) (h0 : Heap) : execG Try.prog cfg X rc md 19 (replS (bodyOf Try.prog 36) [([1, 1, 1], 0), ([1, 1], 1)]) (retK Try.prog cfg 36 (rsOf Try.prog 36) h0) (args0 [(.int .u32 a0)]) h0 = F36H rc md (X 1) a0 h0 := by kernel_rfl
theorem F36_h2 (rc : Rec) (md : Md) (a0 : Int) (h0 : Heap) : F36H rc md (fun t h => J36_0 rc md h0 (t 0) (t 2) h) a0 h0 = F36 rc md a0 h0 := by unfold F36H F36; kernel_rfl
theorem F36_eq0 (rc : Rec) (md : Md) (a0 : Int) (h0 : Heap) : callStep0 Try.prog cfg rc md 36 [(.int .u32 a0)] h0 = F36 rc ⟨h0.length, h0.length⟩ a0 h0 := by
  rw [F36_h0, exec_holes [([1, 1, 1], 0), ([1, 1], 1)] (by kernel_rfl), F36_h1, show (goX Try.prog cfg rc ⟨h0.length, h0.length⟩ 19 (bodyOf Try.prog 36) [([1, 1, 1], 0), ([1, 1], 1)] (retK Try.prog cfg 36 (rsOf Try.prog 36) h0)) 1 = _ from J36_0_cut rc ⟨h0.length, h0.length⟩ h0]
  exact F36_h2 rc _ a0 h0
theorem F36_eq (rc : Rec) (md : Md) (a0 : Int) (h0 : Heap) : callStep Try.prog cfg rc md 36 [(.int .u32 a0)] h0 = alone h0 (F36 rc ⟨0, 0⟩ a0 []) := by
  have e : callStep Try.prog cfg rc md 36 [(.int .u32 a0)] h0 = alone h0 (callStep0 Try.prog cfg rc ⟨0, 0⟩ 36 [(.int .u32 a0)] []) := by kernel_rfl
  rw [e, F36_eq0]; rfl

/-- math/bits.Len64 -/
noncomputable def J37_2 (rc : Rec) (md : Md) (h0 : Heap) (s0 : Value) (s2 : Value) (h : Heap) : Option (Value × Heap) :=
  aConv Try.prog 32 5 s0 fun v1 =>
  aIndex Try.prog 9 (.string ⟨#[0, 1, 2, 2, 3, 3, 3, 3, 4, 4, 4, 4, 4, 4, 4, 4, 5, 5, 5, 5, 5, 5, 5, 5, 5, 5, 5, 5, 5, 5, 5, 5, 6, 6, 6, 6, 6, 6, 6, 6, 6, 6, 6, 6, 6, 6, 6, 6, 6, 6, 6, 6, 6, 6, 6, 6, 6, 6, 6, 6, 6, 6, 6, 6, 7, 7, 7, 7, 7, 7, 7, 7, 7, 7, 7, 7, 7, 7, 7, 7, 7, 7, 7, 7, 7, 7, 7, 7, 7, 7, 7, 7, 7, 7, 7, 7, 7, 7, 7, 7, 7, 7, 7, 7, 7, 7, 7, 7, 7, 7, 7, 7, 7, 7, 7, 7, 7, 7, 7, 7, 7, 7, 7, 7, 7, 7, 7, 7, 8, 8, 8, 8, 8, 8, 8, 8, 8, 8, 8, 8, 8, 8, 8, 8, 8, 8, 8, 8, 8, 8, 8, 8, 8, 8, 8, 8, 8, 8, 8, 8, 8, 8, 8, 8, 8, 8, 8, 8, 8, 8, 8, 8, 8, 8, 8, 8, 8, 8, 8, 8, 8, 8, 8, 8, 8, 8, 8, 8, 8, 8, 8, 8, 8, 8, 8, 8, 8, 8, 8, 8, 8, 8, 8, 8, 8, 8, 8, 8, 8, 8, 8, 8, 8, 8, 8, 8, 8, 8, 8, 8, 8, 8, 8, 8, 8, 8, 8, 8, 8, 8, 8, 8, 8, 8, 8, 8, 8, 8, 8, 8, 8, 8, 8, 8, 8, 8, 8, 8, 8, 8, 8, 8, 8, 8, 8, 8]⟩) v1 fun v2 =>
  cIn .u8 v2 fun n3 =>
  aBin Try.prog .add 3 s2 (.int .i64 (IntKind.wrap .i64 n3)) fun v4 =>
  fin2 h0 v4
theorem J37_2_at (rc : Rec) (md : Md) (h0 : Heap) (t : T) (h : Heap) : cut Try.prog cfg rc md 25 (bodyOf Try.prog 37) [1, 1, 1, 1] (retK Try.prog cfg 37 (rsOf Try.prog 37) h0) t h = J37_2 rc md h0 (t 0) (t 2) h := by kernel_rfl
theorem J37_2_cut (rc : Rec) (md : Md) (h0 : Heap) : cut Try.prog cfg rc md 25 (bodyOf Try.prog 37) [1, 1, 1, 1] (retK Try.prog cfg 37 (rsOf Try.prog 37) h0) = fun t h => J37_2 rc md h0 (t 0) (t 2) h := funext fun t => funext fun h => J37_2_at rc md h0 t h
noncomputable def J37_1 (rc : Rec) (md : Md) (h0 : Heap) (s0 : Value) (s2 : Value) (h : Heap) : Option (Value × Heap) :=
  aBin Try.prog .geq 32 s0 (.int .u64 256) fun v1 =>
  cBn v1 fun b2 =>
  bif b2 then
    aBin Try.prog .shr 32 s0 (.int .u64 8) fun v3 =>
    aBin Try.prog .add 3 s2 (.int .i64 8) fun v4 =>
    J37_2 rc md h0 v3 v4 h
  else
    J37_2 rc md h0 s0 s2 h
noncomputable def J37_1H (rc : Rec) (md : Md) (h0 : Heap) (X0 : T → Heap → Option (Value × Heap)) (t : T) (h : Heap) : Option (Value × Heap) :=
  aBin Try.prog .geq 32 (t 0) (.int .u64 256) fun v1 =>
  cBn v1 fun b2 =>
  bif b2 then
    aBin Try.prog .shr 32 (t 0) (.int .u64 8) fun v3 =>
    aBin Try.prog .add 3 (t 2) (.int .i64 8) fun v4 =>
    X0 (upd (upd (upd (upd (upd (upd (upd (upd t 13 (t 0)) 14 v1) 15 (t 0)) 16 v3) 0 v3) 17 (t 2)) 18 v4) 2 v4) h
  else
    X0 (upd (upd t 13 (t 0)) 14 v1) h
theorem J37_1_h1 (rc : Rec) (md : Md) (h0 : Heap) (X : Nat → T → Heap → Option (Value × Heap)) (t : T) (h : Heap) : execG Try.prog cfg X rc md 25 (sub (replS (bodyOf Try.prog 37) [([1, 1, 1, 1], 0)]) [1, 1, 1]) (kAtG Try.prog cfg X rc md 25 (replS (bodyOf Try.prog 37) [([1, 1, 1, 1], 0)]) [1, 1, 1] (retK Try.prog cfg 37 (rsOf Try.prog 37) h0)) t h = J37_1H rc md h0 (X 0) t h := by kernel_rfl
theorem J37_1_h2 (rc : Rec) (md : Md) (h0 : Heap) (t : T) (h : Heap) : J37_1H rc md h0 (fun t h => J37_2 rc md h0 (t 0) (t 2) h) t h = J37_1 rc md h0 (t 0) (t 2) h := by (unfold J37_1H J37_1; kernel_rfl)
theorem J37_1_at (rc : Rec) (md : Md) (h0 : Heap) (t : T) (h : Heap) : cut Try.prog cfg rc md 25 (bodyOf Try.prog 37) [1, 1, 1] (retK Try.prog cfg 37 (rsOf Try.prog 37) h0) t h = J37_1 rc md h0 (t 0) (t 2) h := by
  rw [cut_holes [([1, 1, 1, 1], 0)] [1, 1, 1] (by kernel_rfl), J37_1_h1, show (goX Try.prog cfg rc md 25 (bodyOf Try.prog 37) [([1, 1, 1, 1], 0)] (retK Try.prog cfg 37 (rsOf Try.prog 37) h0)) 0 = _ from J37_2_cut rc md h0]
  exact J37_1_h2 rc md h0 t h
theorem J37_1_cut (rc : Rec) (md : Md) (h0 : Heap) : cut Try.prog cfg rc md 25 (bodyOf Try.prog 37) [1, 1, 1] (retK Try.prog cfg 37 (rsOf Try.prog 37) h0) = fun t h => J37_1 rc md h0 (t 0) (t 2) h := funext fun t => funext fun h => J37_1_at rc md h0 t h
noncomputable def J37_0 (rc : Rec) (md : Md) (h0 : Heap) (s0 : Value) (s2 : Value) (h : Heap) : Option (Value × Heap) :=
  aBin Try.prog .geq 32 s0 (.int .u64 65536) fun v1 =>
  cBn v1 fun b2 =>
  bif b2 then
    aBin Try.prog .shr 32 s0 (.int .u64 16) fun v3 =>
    aBin Try.prog .add 3 s2 (.int .i64 16) fun v4 =>
    J37_1 rc md h0 v3 v4 h
  else
    J37_1 rc md h0 s0 s2 h
noncomputable def J37_0H (rc : Rec) (md : Md) (h0 : Heap) (X1 : T → Heap → Option (Value × Heap)) (t : T) (h : Heap) : Option (Value × Heap) :=
  aBin Try.prog .geq 32 (t 0) (.int .u64 65536) fun v1 =>
  cBn v1 fun b2 =>
  bif b2 then
    aBin Try.prog .shr 32 (t 0) (.int .u64 16) fun v3 =>
    aBin Try.prog .add 3 (t 2) (.int .i64 16) fun v4 =>
    X1 (upd (upd (upd (upd (upd (upd (upd (upd t 7 (t 0)) 8 v1) 9 (t 0)) 10 v3) 0 v3) 11 (t 2)) 12 v4) 2 v4) h
  else
    X1 (upd (upd t 7 (t 0)) 8 v1) h
theorem J37_0_h1 (rc : Rec) (md : Md) (h0 : Heap) (X : Nat → T → Heap → Option (Value × Heap)) (t : T) (h : Heap) : execG Try.prog cfg X rc md 25 (sub (replS (bodyOf Try.prog 37) [([1, 1, 1, 1], 0), ([1, 1, 1], 1)]) [1, 1]) (kAtG Try.prog cfg X rc md 25 (replS (bodyOf Try.prog 37) [([1, 1, 1, 1], 0), ([1, 1, 1], 1)]) [1, 1] (retK Try.prog cfg 37 (rsOf Try.prog 37) h0)) t h = J37_0H rc md h0 (X 1) t h := by kernel_rfl
theorem J37_0_h2 (rc : Rec) (md : Md) (h0 : Heap) (t : T) (h : Heap) : J37_0H rc md h0 (fun t h => J37_1 rc md h0 (t 0) (t 2) h) t h = J37_0 rc md h0 (t 0) (t 2) h := by (unfold J37_0H J37_0; kernel_rfl)
theorem J37_0_at (rc : Rec) (md : Md) (h0 : Heap) (t : T) (h : Heap) : cut Try.prog cfg rc md 25 (bodyOf Try.prog 37) [1, 1] (retK Try.prog cfg 37 (rsOf Try.prog 37) h0) t h = J37_0 rc md h0 (t 0) (t 2) h := by
  rw [cut_holes [([1, 1, 1, 1], 0), ([1, 1, 1], 1)] [1, 1] (by kernel_rfl), J37_0_h1, show (goX Try.prog cfg rc md 25 (bodyOf Try.prog 37) [([1, 1, 1, 1], 0), ([1, 1, 1], 1)] (retK Try.prog cfg 37 (rsOf Try.prog 37) h0)) 1 = _ from J37_1_cut rc md h0]
  exact J37_0_h2 rc md h0 t h
theorem J37_0_cut (rc : Rec) (md : Md) (h0 : Heap) : cut Try.prog cfg rc md 25 (bodyOf Try.prog 37) [1, 1] (retK Try.prog cfg 37 (rsOf Try.prog 37) h0) = fun t h => J37_0 rc md h0 (t 0) (t 2) h := funext fun t => funext fun h => J37_0_at rc md h0 t h
noncomputable def F37 (rc : Rec) (md : Md) (a0 : Int) (h0 : Heap) : Option (Value × Heap) :=
  bif (decide (a0 ≥ 4294967296)) then
    J37_0 rc md h0 (.int .u64 (Int.fdiv a0 (2 ^ 32))) (.int .i64 32) h0
  else
    J37_0 rc md h0 (.int .u64 a0) (.int .i64 0) h0
noncomputable def F37H (rc : Rec) (md : Md) (X2 : T → Heap → Option (Value × Heap)) (a0 : Int) (h0 : Heap) : Option (Value × Heap) :=
  bif (decide (a0 ≥ 4294967296)) then
    X2 (upd (upd (upd (upd (upd (upd (upd (args0 [(.int .u64 a0)]) 2 (.int .i64 0)) 3 (.int .u64 a0)) 4 (.bool (decide (a0 ≥ 4294967296)))) 5 (.int .u64 a0)) 6 (.int .u64 (Int.fdiv a0 (2 ^ 32)))) 0 (.int .u64 (Int.fdiv a0 (2 ^ 32)))) 2 (.int .i64 32)) h0
  else
    X2 (upd (upd (upd (args0 [(.int .u64 a0)]) 2 (.int .i64 0)) 3 (.int .u64 a0)) 4 (.bool (decide (a0 ≥ 4294967296)))) h0
theorem F37_h0 (rc : Rec) (md : Md) (a0 : Int) (h0 : Heap) : callStep0 Try.prog cfg rc md 37 [(.int .u64 a0)] h0 = exec Try.prog cfg rc ⟨h0.length, h0.length⟩ 25 (bodyOf Try.prog 37) (retK Try.prog cfg 37 (rsOf Try.prog 37) h0) (args0 [(.int .u64 a0)]) h0 := callStep0_run (by kernel_rfl) (by kernel_rfl) (by kernel_rfl)
theorem F37_h1 (rc : Rec) (md : Md) (X : Nat → T → Heap → Option (Value × Heap)) (a0 : Int) (h0 : Heap) : execG Try.prog cfg X rc md 25 (replS (bodyOf Try.prog 37) [([1, 1, 1, 1], 0), ([1, 1, 1], 1), ([1, 1], 2)]) (retK Try.prog cfg 37 (rsOf Try.prog 37) h0) (args0 [(.int .u64 a0)]) h0 = F37H rc md (X 2) a0 h0 := by kernel_rfl
theorem F37_h2 (rc : Rec) (md : Md) (a0 : Int) (h0 : Heap) : F37H rc md (fun t h => J37_0 rc md h0 (t 0) (t 2) h) a0 h0 = F37 rc md a0 h0 := by unfold F37H F37; kernel_rfl
theorem F37_eq0 (rc : Rec) (md : Md) (a0 : Int) (h0 : Heap) : callStep0 Try.prog cfg rc md 37 [(.int .u64 a0)] h0 = F37 rc ⟨h0.length, h0.length⟩ a0 h0 := by
  rw [F37_h0, exec_holes [([1, 1, 1, 1], 0), ([1, 1, 1], 1), ([1, 1], 2)] (by kernel_rfl), F37_h1, show (goX Try.prog cfg rc ⟨h0.length, h0.length⟩ 25 (bodyOf Try.prog 37) [([1, 1, 1, 1], 0), ([1, 1, 1], 1), ([1, 1], 2)] (retK Try.prog cfg 37 (rsOf Try.prog 37) h0)) 2 = _ from J37_0_cut rc ⟨h0.length, h0.length⟩ h0]
  exact F37_h2 rc _ a0 h0
theorem F37_eq (rc : Rec) (md : Md) (a0 : Int) (h0 : Heap) : callStep Try.prog cfg rc md 37 [(.int .u64 a0)] h0 = alone h0 (F37 rc ⟨0, 0⟩ a0 []) := by
  have e : callStep Try.prog cfg rc md 37 [(.int .u64 a0)] h0 = alone h0 (callStep0 Try.prog cfg rc ⟨0, 0⟩ 37 [(.int .u64 a0)] []) := by kernel_rfl
  rw [e, F37_eq0]; rfl

/-- slices.siftDownOrdered[int] -/
noncomputable def Jk38_0 (rc : Rec) (md : Md) (h0 : Heap) (e : Exit) (s0 : Value) (s2 : Value) (s3 : Value) (s8 : Value) (h : Heap) : Option (Value × Heap) :=
  match e with
  | .normal =>
    some ((.tuple #[]), List.take h0.length h)
  | .exit j =>
    bif Nat.beq j 0 then
      some ((.tuple #[]), List.take h0.length h)
    else
      none
  | .ret =>
    some ((.tuple #[]), List.take h0.length h)
  | .goto l => none
  | .panic ps => none
  | .outgrown => none
theorem Jk38_0_at (rc : Rec) (md : Md) (h0 : Heap) (e : Exit) (t : T) (h : Heap) : kAt Try.prog cfg rc md 76 (bodyOf Try.prog 38) [1, 0] (retK Try.prog cfg 38 (rsOf Try.prog 38) h0) e t h = Jk38_0 rc md h0 e (t 0) (t 2) (t 3) (t 8) h := by cases e <;> kernel_rfl
noncomputable def J38_0b0 (rc : Rec) (md : Md) (s0 : Value) (s2 : Value) (s3 : Value) (s8 : Value) (s9 : Value) (h : Heap) : Option (((Value × Value × Value × Value) × Heap) ⊕ (Exit × (Value × Value × Value × Value) × Heap)) :=
  aBin Try.prog .add 3 s3 s8 fun v1 =>
  ixSV 1 s0 v1 fun v2 =>
  ld1 v2 h fun v3 =>
  cIn .i64 v3 fun n4 =>
  aBin Try.prog .add 3 s3 s9 fun v5 =>
  ixSV 1 s0 v5 fun v6 =>
  ld1 v6 h fun v7 =>
  cIn .i64 v7 fun n8 =>
  cl (rc md 33 [(.int .i64 n4), (.int .i64 n8)] h) fun v9 h10 =>
  cBn v9 fun b11 =>
  bif !b11 then
    some (.inr (.ret, (s0, s2, s3, s8), h10))
  else
    aBin Try.prog .add 3 s3 s8 fun v12 =>
    aBin Try.prog .add 3 s3 s9 fun v13 =>
    aBin Try.prog .add 3 s3 s9 fun v14 =>
    ixSV 1 s0 v14 fun v15 =>
    ld1 v15 h10 fun v16 =>
    cIn .i64 v16 fun n17 =>
    aBin Try.prog .add 3 s3 s8 fun v18 =>
    ixSV 1 s0 v18 fun v19 =>
    ld1 v19 h10 fun v20 =>
    cIn .i64 v20 fun n21 =>
    ixSV 1 s0 v12 fun v22 =>
    st md 1 v22 (.int .i64 n17) h10 fun h23 =>
    ixSV 1 s0 v13 fun v24 =>
    st md 1 v24 (.int .i64 n21) h23 fun h25 =>
    some (.inl ((s0, s2, s3, s9), h25))
theorem J38_0b0_at (rc : Rec) (md : Md) (t : T) (h : Heap) : cut Try.prog cfg rc md 76 (sub (bodyOf Try.prog 38) [1, 0, 0]) [0, 1, 1, 1] (rndK (fun t => (t 0, t 2, t 3, t 8))) t h = J38_0b0 rc md (t 0) (t 2) (t 3) (t 8) (t 9) h := by kernel_rfl
theorem J38_0b0_cut (rc : Rec) (md : Md) : cut Try.prog cfg rc md 76 (sub (bodyOf Try.prog 38) [1, 0, 0]) [0, 1, 1, 1] (rndK (fun t => (t 0, t 2, t 3, t 8))) = fun t h => J38_0b0 rc md (t 0) (t 2) (t 3) (t 8) (t 9) h := funext fun t => funext fun h => J38_0b0_at rc md t h
/-- a round -/
noncomputable def Jr38_0 (rc : Rec) (md : Md) (s0 : Value) (s2 : Value) (s3 : Value) (s8 : Value) (h : Heap) : Option (((Value × Value × Value × Value) × Heap) ⊕ (Exit × (Value × Value × Value × Value) × Heap)) :=
  aBin Try.prog .mul 3 (.int .i64 2) s8 fun v1 =>
  aBin Try.prog .add 3 v1 (.int .i64 1) fun v2 =>
  aBin Try.prog .geq 3 v2 s2 fun v3 =>
  cBn v3 fun b4 =>
  bif b4 then
    some (.inr ((.exit 0), (s0, s2, s3, s8), h))
  else
    aBin Try.prog .add 3 v2 (.int .i64 1) fun v5 =>
    aBin Try.prog .lss 3 v5 s2 fun v6 =>
    (bif wantV v6 true then
    some (s0, h)
    else some (undef, h)).bind fun p7 =>
    (bif wantV v6 true then
    some (s3, p7.2)
    else some (undef, p7.2)).bind fun p8 =>
    (bif wantV v6 true then
    some (v2, p8.2)
    else some (undef, p8.2)).bind fun p9 =>
    (bif wantV v6 true then
    aBin Try.prog .add 3 p8.1 p9.1 fun v10 =>
    some (v10, p9.2)
    else some (undef, p9.2)).bind fun p11 =>
    (bif wantV v6 true then
    ixSV 1 p7.1 p11.1 fun v12 =>
    some (v12, p11.2)
    else some (undef, p11.2)).bind fun p13 =>
    (bif wantV v6 true then
    ld1 p13.1 p13.2 fun v14 =>
    cIn .i64 v14 fun n15 =>
    some ((.int .i64 n15), p13.2)
    else some (undef, p13.2)).bind fun p16 =>
    (bif wantV v6 true then
    some (s0, p16.2)
    else some (undef, p16.2)).bind fun p17 =>
    (bif wantV v6 true then
    some (s3, p17.2)
    else some (undef, p17.2)).bind fun p18 =>
    (bif wantV v6 true then
    some (v2, p18.2)
    else some (undef, p18.2)).bind fun p19 =>
    (bif wantV v6 true then
    aBin Try.prog .add 3 p18.1 p19.1 fun v20 =>
    some (v20, p19.2)
    else some (undef, p19.2)).bind fun p21 =>
    (bif wantV v6 true then
    aBin Try.prog .add 3 p21.1 (.int .i64 1) fun v22 =>
    some (v22, p21.2)
    else some (undef, p21.2)).bind fun p23 =>
    (bif wantV v6 true then
    ixSV 1 p17.1 p23.1 fun v24 =>
    some (v24, p23.2)
    else some (undef, p23.2)).bind fun p25 =>
    (bif wantV v6 true then
    ld1 p25.1 p25.2 fun v26 =>
    cIn .i64 v26 fun n27 =>
    some ((.int .i64 n27), p25.2)
    else some (undef, p25.2)).bind fun p28 =>
    (bif wantV v6 true then
    cl (rc md 33 [p16.1, p28.1] p28.2) fun v29 h30 =>
    cBn v29 fun b31 =>
    some ((.bool b31), h30)
    else some (undef, p28.2)).bind fun p32 =>
    cBn v6 fun q33 =>
    cBn (bif q33 then p32.1 else (.bool false)) fun b34 =>
    bif b34 then
      aBin Try.prog .add 3 v2 (.int .i64 1) fun v35 =>
      J38_0b0 rc md s0 s2 s3 s8 v35 p32.2
    else
      J38_0b0 rc md s0 s2 s3 s8 v2 p32.2
noncomputable def Jr38_0H (rc : Rec) (md : Md) (X0 : T → Heap → Option (((Value × Value × Value × Value) × Heap) ⊕ (Exit × (Value × Value × Value × Value) × Heap))) (t : T) (h : Heap) : Option (((Value × Value × Value × Value) × Heap) ⊕ (Exit × (Value × Value × Value × Value) × Heap)) :=
  aBin Try.prog .mul 3 (.int .i64 2) (t 8) fun v1 =>
  aBin Try.prog .add 3 v1 (.int .i64 1) fun v2 =>
  aBin Try.prog .geq 3 v2 (t 2) fun v3 =>
  cBn v3 fun b4 =>
  bif b4 then
    some (.inr ((.exit 0), ((t 0), (t 2), (t 3), (t 8)), h))
  else
    aBin Try.prog .add 3 v2 (.int .i64 1) fun v5 =>
    aBin Try.prog .lss 3 v5 (t 2) fun v6 =>
    (bif wantV v6 true then
    some ((t 0), h)
    else some (undef, h)).bind fun p7 =>
    (bif wantV v6 true then
    some ((t 3), p7.2)
    else some (undef, p7.2)).bind fun p8 =>
    (bif wantV v6 true then
    some (v2, p8.2)
    else some (undef, p8.2)).bind fun p9 =>
    (bif wantV v6 true then
    aBin Try.prog .add 3 p8.1 p9.1 fun v10 =>
    some (v10, p9.2)
    else some (undef, p9.2)).bind fun p11 =>
    (bif wantV v6 true then
    ixSV 1 p7.1 p11.1 fun v12 =>
    some (v12, p11.2)
    else some (undef, p11.2)).bind fun p13 =>
    (bif wantV v6 true then
    ld1 p13.1 p13.2 fun v14 =>
    cIn .i64 v14 fun n15 =>
    some ((.int .i64 n15), p13.2)
    else some (undef, p13.2)).bind fun p16 =>
    (bif wantV v6 true then
    some ((t 0), p16.2)
    else some (undef, p16.2)).bind fun p17 =>
    (bif wantV v6 true then
    some ((t 3), p17.2)
    else some (undef, p17.2)).bind fun p18 =>
    (bif wantV v6 true then
    some (v2, p18.2)
    else some (undef, p18.2)).bind fun p19 =>
    (bif wantV v6 true then
    aBin Try.prog .add 3 p18.1 p19.1 fun v20 =>
    some (v20, p19.2)
    else some (undef, p19.2)).bind fun p21 =>
    (bif wantV v6 true then
    aBin Try.prog .add 3 p21.1 (.int .i64 1) fun v22 =>
    some (v22, p21.2)
    else some (undef, p21.2)).bind fun p23 =>
    (bif wantV v6 true then
    ixSV 1 p17.1 p23.1 fun v24 =>
    some (v24, p23.2)
    else some (undef, p23.2)).bind fun p25 =>
    (bif wantV v6 true then
    ld1 p25.1 p25.2 fun v26 =>
    cIn .i64 v26 fun n27 =>
    some ((.int .i64 n27), p25.2)
    else some (undef, p25.2)).bind fun p28 =>
    (bif wantV v6 true then
    cl (rc md 33 [p16.1, p28.1] p28.2) fun v29 h30 =>
    cBn v29 fun b31 =>
    some ((.bool b31), h30)
    else some (undef, p28.2)).bind fun p32 =>
    cBn v6 fun q33 =>
    cBn (bif q33 then p32.1 else (.bool false)) fun b34 =>
    bif b34 then
      aBin Try.prog .add 3 v2 (.int .i64 1) fun v35 =>
      X0 (upd (upd (upd (upd (upd (upd (upd (upd (upd (upd (upd (upd (upd (upd (upd (upd (upd (upd (upd (upd (upd (upd (upd (upd (upd (upd (upd (upd (upd (upd t 11 (t 8)) 12 v1) 13 v2) 9 v2) 14 v2) 15 (t 2)) 16 v3) 17 v2) 18 v5) 19 (t 2)) 20 v6) 21 v6) 22 p7.1) 23 p8.1) 24 p9.1) 25 p11.1) 26 p13.1) 27 p16.1) 28 p17.1) 29 p18.1) 30 p19.1) 31 p21.1) 32 p23.1) 33 p25.1) 34 p28.1) 35 p32.1) 36 (.bool b34)) 37 v2) 38 v35) 9 v35) p32.2
    else
      X0 (upd (upd (upd (upd (upd (upd (upd (upd (upd (upd (upd (upd (upd (upd (upd (upd (upd (upd (upd (upd (upd (upd (upd (upd (upd (upd (upd t 11 (t 8)) 12 v1) 13 v2) 9 v2) 14 v2) 15 (t 2)) 16 v3) 17 v2) 18 v5) 19 (t 2)) 20 v6) 21 v6) 22 p7.1) 23 p8.1) 24 p9.1) 25 p11.1) 26 p13.1) 27 p16.1) 28 p17.1) 29 p18.1) 30 p19.1) 31 p21.1) 32 p23.1) 33 p25.1) 34 p28.1) 35 p32.1) 36 (.bool b34)) p32.2
theorem Jr38_0_h1 (rc : Rec) (md : Md) (X : Nat → T → Heap → Option (((Value × Value × Value × Value) × Heap) ⊕ (Exit × (Value × Value × Value × Value) × Heap))) (t : T) (h : Heap) : execG Try.prog cfg X rc md 76 (replS (sub (bodyOf Try.prog 38) [1, 0, 0]) [([0, 1, 1, 1], 0)]) (rndK (fun t => (t 0, t 2, t 3, t 8))) t h = Jr38_0H rc md (X 0) t h := by kernel_rfl
theorem Jr38_0_h2 (rc : Rec) (md : Md) (t : T) (h : Heap) : Jr38_0H rc md (fun t h => J38_0b0 rc md (t 0) (t 2) (t 3) (t 8) (t 9) h) t h = Jr38_0 rc md (t 0) (t 2) (t 3) (t 8) h := by unfold Jr38_0H Jr38_0; kernel_rfl
theorem Jr38_0_at (rc : Rec) (md : Md) (t : T) (h : Heap) : exec Try.prog cfg rc md 76 (sub (bodyOf Try.prog 38) [1, 0, 0]) (rndK (fun t => (t 0, t 2, t 3, t 8))) t h = Jr38_0 rc md (t 0) (t 2) (t 3) (t 8) h := by
  rw [exec_holes [([0, 1, 1, 1], 0)] (by kernel_rfl), Jr38_0_h1, show (goX Try.prog cfg rc md 76 (sub (bodyOf Try.prog 38) [1, 0, 0]) [([0, 1, 1, 1], 0)] (rndK (fun t => (t 0, t 2, t 3, t 8)))) 0 = _ from J38_0b0_cut rc md]
  exact Jr38_0_h2 rc md t h
noncomputable def J38_0 (rc : Rec) (md : Md) (h0 : Heap) (s0 : Value) (s2 : Value) (s3 : Value) (s8 : Value) (h : Heap) : Option (Value × Heap) :=
  runL (fun x : (Value × Value × Value × Value) × Heap => Jr38_0 rc md x.1.1 x.1.2.1 x.1.2.2.1 x.1.2.2.2 x.2) (fun e (s : Value × Value × Value × Value) h => Jk38_0 rc md h0 e s.1 s.2.1 s.2.2.1 s.2.2.2 h) (s0, s2, s3, s8) h
theorem J38_0_step (rc : Rec) (md : Md) (h0 : Heap) (s0 : Value) (s2 : Value) (s3 : Value) (s8 : Value) (h : Heap) : J38_0 rc md h0 s0 s2 s3 s8 h = (Jr38_0 rc md s0 s2 s3 s8 h).bind fun x => match x with
    | .inl (s, h) => J38_0 rc md h0 s.1 s.2.1 s.2.2.1 s.2.2.2 h
    | .inr (e, s, h) => Jk38_0 rc md h0 e s.1 s.2.1 s.2.2.1 s.2.2.2 h := by
  unfold J38_0
  rw [runL_eq]
  refine congrArg (Option.bind _) (funext fun x => ?_)
  rcases x with ⟨s, h⟩ | ⟨e, s, h⟩ <;> rfl
theorem J38_0_cut (rc : Rec) (md : Md) (h0 : Heap) : cut Try.prog cfg rc md 76 (bodyOf Try.prog 38) [1, 0] (retK Try.prog cfg 38 (rsOf Try.prog 38) h0) = fun t h => J38_0 rc md h0 (t 0) (t 2) (t 3) (t 8) h := by
  funext t h
  have e : sub (bodyOf Try.prog 38) [1, 0] = .loop (sub (bodyOf Try.prog 38) [1, 0, 0]) := by kernel_rfl
  unfold cut
  rw [e]
  exact loop_eq (by kernel_rfl) (fun t => (t 0, t 2, t 3, t 8)) (fun x : (Value × Value × Value × Value) × Heap => Jr38_0 rc md x.1.1 x.1.2.1 x.1.2.2.1 x.1.2.2.2 x.2) (fun t h => Jr38_0_at rc md t h) (fun e (s : Value × Value × Value × Value) h => Jk38_0 rc md h0 e s.1 s.2.1 s.2.2.1 s.2.2.2 h) (fun e t h => Jk38_0_at rc md h0 e t h) t h
noncomputable def F38 (rc : Rec) (md : Md) (a0 : Value) (a1 : Int) (a2 : Int) (a3 : Int) (h0 : Heap) : Option (Value × Heap) :=
  J38_0 rc md h0 a0 (.int .i64 a2) (.int .i64 a3) (.int .i64 a1) h0
noncomputable def F38H (rc : Rec) (md : Md) (X0 : T → Heap → Option (Value × Heap)) (a0 : Value) (a1 : Int) (a2 : Int) (a3 : Int) (h0 : Heap) : Option (Value × Heap) :=
  X0 (upd (upd (args0 [a0, (.int .i64 a1), (.int .i64 a2), (.int .i64 a3)]) 10 (.int .i64 a1)) 8 (.int .i64 a1)) h0
theorem F38_h0 (rc : Rec) (md : Md) (a0 : Value) (a1 : Int) (a2 : Int) (a3 : Int) (h0 : Heap) : callStep0 Try.prog cfg rc md 38 [a0, (.int .i64 a1), (.int .i64 a2), (.int .i64 a3)] h0 = exec Try.prog cfg rc ⟨md.ro, h0.length⟩ 76 (bodyOf Try.prog 38) (retK Try.prog cfg 38 (rsOf Try.prog 38) h0) (args0 [a0, (.int .i64 a1), (.int .i64 a2), (.int .i64 a3)]) h0 := callStep0_run (by kernel_rfl) (by kernel_rfl) (by kernel_rfl)
theorem F38_h1 (rc : Rec) (md : Md) (X : Nat → T → Heap → Option (Value × Heap)) (a0 : Value) (a1 : Int) (a2 : Int) (a3 : Int) (h0 : Heap) : execG Try.prog cfg X rc md 76 (replS (bodyOf Try.prog 38) [([1, 0], 0)]) (retK Try.prog cfg 38 (rsOf Try.prog 38) h0) (args0 [a0, (.int .i64 a1), (.int .i64 a2), (.int .i64 a3)]) h0 = F38H rc md (X 0) a0 a1 a2 a3 h0 := by kernel_rfl
theorem F38_h2 (rc : Rec) (md : Md) (a0 : Value) (a1 : Int) (a2 : Int) (a3 : Int) (h0 : Heap) : F38H rc md (fun t h => J38_0 rc md h0 (t 0) (t 2) (t 3) (t 8) h) a0 a1 a2 a3 h0 = F38 rc md a0 a1 a2 a3 h0 := by unfold F38H F38; kernel_rfl
theorem F38_eq0 (rc : Rec) (md : Md) (a0 : Value) (a1 : Int) (a2 : Int) (a3 : Int) (h0 : Heap) : callStep0 Try.prog cfg rc md 38 [a0, (.int .i64 a1), (.int .i64 a2), (.int .i64 a3)] h0 = F38 rc ⟨md.ro, h0.length⟩ a0 a1 a2 a3 h0 := by
  rw [F38_h0, exec_holes [([1, 0], 0)] (by kernel_rfl), F38_h1, show (goX Try.prog cfg rc ⟨md.ro, h0.length⟩ 76 (bodyOf Try.prog 38) [([1, 0], 0)] (retK Try.prog cfg 38 (rsOf Try.prog 38) h0)) 0 = _ from J38_0_cut rc ⟨md.ro, h0.length⟩ h0]
  exact F38_h2 rc _ a0 a1 a2 a3 h0
theorem F38_eq (rc : Rec) (md : Md) (a0 : Value) (a1 : Int) (a2 : Int) (a3 : Int) (h0 : Heap) : callStep Try.prog cfg rc md 38 [a0, (.int .i64 a1), (.int .i64 a2), (.int .i64 a3)] h0 = F38 rc ⟨md.ro, h0.length⟩ a0 a1 a2 a3 h0 := (callStep_ne (by kernel_rfl)).trans (F38_eq0 rc md a0 a1 a2 a3 h0)

/-- slices.nextPowerOfTwo -/
noncomputable def F39 (rc : Rec) (md : Md) (a0 : Int) (h0 : Heap) : Option (Value × Heap) :=
  cl (rc md 26 [(.int .u64 (IntKind.wrap .u64 a0))] h0) fun v1 h2 =>
  cIn .i64 v1 fun n3 =>
  shI .shl 1 n3 .u64 fun v4 =>
  fin2 h0 v4
theorem F39_eq0 (rc : Rec) (md : Md) (a0 : Int) (h0 : Heap) : callStep0 Try.prog cfg rc md 39 [(.int .i64 a0)] h0 = F39 rc ⟨h0.length, h0.length⟩ a0 h0 := by kernel_rfl
theorem F39_eq (rc : Rec) (md : Md) (a0 : Int) (h0 : Heap) : callStep Try.prog cfg rc md 39 [(.int .i64 a0)] h0 = alone h0 (F39 rc ⟨0, 0⟩ a0 []) := by
  have e : callStep Try.prog cfg rc md 39 [(.int .i64 a0)] h0 = alone h0 (callStep0 Try.prog cfg rc ⟨0, 0⟩ 39 [(.int .i64 a0)] []) := by kernel_rfl
  rw [e, F39_eq0]; rfl

/-- (*slices.xorshift).Next -/
noncomputable def F40 (rc : Rec) (md : Md) (a0 : Value) (h0 : Heap) : Option (Value × Heap) :=
  bif okNil Try.prog a0 then
  ld1 a0 h0 fun v1 =>
  cIn .u64 v1 fun n2 =>
  bif okNil Try.prog a0 then
  ld1 a0 h0 fun v3 =>
  cIn .u64 v3 fun n4 =>
  bif okNil Try.prog a0 then
  st md 1 a0 (.int .u64 (bXor .u64 n2 (IntKind.wrap .u64 (n4 * 2 ^ 13)))) h0 fun h5 =>
  bif okNil Try.prog a0 then
  ld1 a0 h5 fun v6 =>
  cIn .u64 v6 fun n7 =>
  bif okNil Try.prog a0 then
  ld1 a0 h5 fun v8 =>
  cIn .u64 v8 fun n9 =>
  bif okNil Try.prog a0 then
  st md 1 a0 (.int .u64 (bXor .u64 n7 (Int.fdiv n9 (2 ^ 7)))) h5 fun h10 =>
  bif okNil Try.prog a0 then
  ld1 a0 h10 fun v11 =>
  cIn .u64 v11 fun n12 =>
  bif okNil Try.prog a0 then
  ld1 a0 h10 fun v13 =>
  cIn .u64 v13 fun n14 =>
  bif okNil Try.prog a0 then
  st md 1 a0 (.int .u64 (bXor .u64 n12 (IntKind.wrap .u64 (n14 * 2 ^ 17)))) h10 fun h15 =>
  bif okNil Try.prog a0 then
  ld1 a0 h15 fun v16 =>
  cIn .u64 v16 fun n17 =>
  some ((.int .u64 n17), List.take h0.length h15)
  else none
  else none
  else none
  else none
  else none
  else none
  else none
  else none
  else none
  else none
theorem F40_eq0 (rc : Rec) (md : Md) (a0 : Value) (h0 : Heap) : callStep0 Try.prog cfg rc md 40 [a0] h0 = F40 rc ⟨md.ro, h0.length⟩ a0 h0 := by kernel_rfl
theorem F40_eq (rc : Rec) (md : Md) (a0 : Value) (h0 : Heap) : callStep Try.prog cfg rc md 40 [a0] h0 = F40 rc ⟨md.ro, h0.length⟩ a0 h0 := (callStep_ne (by kernel_rfl)).trans (F40_eq0 rc md a0 h0)

/-- slices.medianAdjacentOrdered[int] -/
noncomputable def F41 (rc : Rec) (md : Md) (a0 : Value) (a1 : Int) (a2 : Value) (h0 : Heap) : Option (Value × Heap) :=
  cl (rc md 42 [a0, (.int .i64 (IntKind.wrap .i64 (a1 - 1))), (.int .i64 a1), (.int .i64 (IntKind.wrap .i64 (a1 + 1))), a2] h0) fun v1 h2 =>
  cIn .i64 v1 fun n3 =>
  some ((.int .i64 n3), List.take h0.length h2)
theorem F41_eq0 (rc : Rec) (md : Md) (a0 : Value) (a1 : Int) (a2 : Value) (h0 : Heap) : callStep0 Try.prog cfg rc md 41 [a0, (.int .i64 a1), a2] h0 = F41 rc ⟨md.ro, h0.length⟩ a0 a1 a2 h0 := by kernel_rfl
theorem F41_eq (rc : Rec) (md : Md) (a0 : Value) (a1 : Int) (a2 : Value) (h0 : Heap) : callStep Try.prog cfg rc md 41 [a0, (.int .i64 a1), a2] h0 = F41 rc ⟨md.ro, h0.length⟩ a0 a1 a2 h0 := (callStep_ne (by kernel_rfl)).trans (F41_eq0 rc md a0 a1 a2 h0)

/-- slices.medianOrdered[int] -/
noncomputable def F42 (rc : Rec) (md : Md) (a0 : Value) (a1 : Int) (a2 : Int) (a3 : Int) (a4 : Value) (h0 : Heap) : Option (Value × Heap) :=
  cl (rc md 44 [a0, (.int .i64 a1), (.int .i64 a2), a4] h0) fun v1 h2 =>
  exT v1 0 fun v3 =>
  cIn .i64 v3 fun n4 =>
  exT v1 1 fun v5 =>
  cIn .i64 v5 fun n6 =>
  cl (rc md 44 [a0, (.int .i64 n6), (.int .i64 a3), a4] h2) fun v7 h8 =>
  exT v7 0 fun v9 =>
  cIn .i64 v9 fun n10 =>
  exT v7 1 fun v11 =>
  cIn .i64 v11 fun n12 =>
  cl (rc md 44 [a0, (.int .i64 n4), (.int .i64 n10), a4] h8) fun v13 h14 =>
  exT v13 0 fun v15 =>
  cIn .i64 v15 fun n16 =>
  exT v13 1 fun v17 =>
  cIn .i64 v17 fun n18 =>
  some ((.int .i64 n18), List.take h0.length h14)
theorem F42_eq0 (rc : Rec) (md : Md) (a0 : Value) (a1 : Int) (a2 : Int) (a3 : Int) (a4 : Value) (h0 : Heap) : callStep0 Try.prog cfg rc md 42 [a0, (.int .i64 a1), (.int .i64 a2), (.int .i64 a3), a4] h0 = F42 rc ⟨md.ro, h0.length⟩ a0 a1 a2 a3 a4 h0 := by kernel_rfl
theorem F42_eq (rc : Rec) (md : Md) (a0 : Value) (a1 : Int) (a2 : Int) (a3 : Int) (a4 : Value) (h0 : Heap) : callStep Try.prog cfg rc md 42 [a0, (.int .i64 a1), (.int .i64 a2), (.int .i64 a3), a4] h0 = F42 rc ⟨md.ro, h0.length⟩ a0 a1 a2 a3 a4 h0 := (callStep_ne (by kernel_rfl)).trans (F42_eq0 rc md a0 a1 a2 a3 a4 h0)

/-- cmp.isNaN[int] -/
noncomputable def F43 (rc : Rec) (md : Md) (a0 : Int) (h0 : Heap) : Option (Value × Heap) :=
  some ((.bool (a0 != a0)), h0)
theorem F43_eq0 (rc : Rec) (md : Md) (a0 : Int) (h0 : Heap) : callStep0 Try.prog cfg rc md 43 [(.int .i64 a0)] h0 = F43 rc ⟨h0.length, h0.length⟩ a0 h0 := by kernel_rfl
theorem F43_eq (rc : Rec) (md : Md) (a0 : Int) (h0 : Heap) : callStep Try.prog cfg rc md 43 [(.int .i64 a0)] h0 = alone h0 (F43 rc ⟨0, 0⟩ a0 []) := by
  have e : callStep Try.prog cfg rc md 43 [(.int .i64 a0)] h0 = alone h0 (callStep0 Try.prog cfg rc ⟨0, 0⟩ 43 [(.int .i64 a0)] []) := by kernel_rfl
  rw [e, F43_eq0]; rfl

/-- slices.order2Ordered[int] -/
noncomputable def F44 (rc : Rec) (md : Md) (a0 : Value) (a1 : Int) (a2 : Int) (a3 : Value) (h0 : Heap) : Option (Value × Heap) :=
  ixS 1 a0 a2 fun v1 =>
  ld1 v1 h0 fun v2 =>
  cIn .i64 v2 fun n3 =>
  ixS 1 a0 a1 fun v4 =>
  ld1 v4 h0 fun v5 =>
  cIn .i64 v5 fun n6 =>
  cl (rc md 33 [(.int .i64 n3), (.int .i64 n6)] h0) fun v7 h8 =>
  cBn v7 fun b9 =>
  bif b9 then
    bif okNil Try.prog a3 then
    ld1 a3 h8 fun v10 =>
    cIn .i64 v10 fun n11 =>
    bif okNil Try.prog a3 then
    st md 1 a3 (.int .i64 (IntKind.wrap .i64 (n11 + 1))) h8 fun h12 =>
    some ((.tuple #[(.int .i64 a2), (.int .i64 a1)]), List.take h0.length h12)
    else none
    else none
  else
    some ((.tuple #[(.int .i64 a1), (.int .i64 a2)]), List.take h0.length h8)
theorem F44_eq0 (rc : Rec) (md : Md) (a0 : Value) (a1 : Int) (a2 : Int) (a3 : Value) (h0 : Heap) : callStep0 Try.prog cfg rc md 44 [a0, (.int .i64 a1), (.int .i64 a2), a3] h0 = F44 rc ⟨md.ro, h0.length⟩ a0 a1 a2 a3 h0 := by kernel_rfl
theorem F44_eq (rc : Rec) (md : Md) (a0 : Value) (a1 : Int) (a2 : Int) (a3 : Value) (h0 : Heap) : callStep Try.prog cfg rc md 44 [a0, (.int .i64 a1), (.int .i64 a2), a3] h0 = F44 rc ⟨md.ro, h0.length⟩ a0 a1 a2 a3 h0 := (callStep_ne (by kernel_rfl)).trans (F44_eq0 rc md a0 a1 a2 a3 h0)

/-- (tombolo/mem.Plain).Store -/
noncomputable def F61 (rc : Rec) (md : Md) (a0_0 : Value) (a1 : Int) (a2 : Int) (h0 : Heap) : Option (Value × Heap) :=
  let h1 : Heap := h0 ++ [.own [a0_0]]
  ld1 (.pointer (some ⟨h0.length, 0, none⟩)) h1 fun v2 =>
  cl (rc md 18 [v2, (.int .i64 a1), (.int .u64 a2)] h1) fun v3 h4 =>
  cIn .i64 v3 fun n5 =>
  some ((.tuple #[]), List.take h0.length h4)
theorem F61_eq0 (rc : Rec) (md : Md) (a0_0 : Value) (a1 : Int) (a2 : Int) (h0 : Heap) : callStep0 Try.prog cfg rc md 61 [(.agg #[a0_0]), (.int .i64 a1), (.int .u64 a2)] h0 = F61 rc ⟨md.ro, h0.length⟩ a0_0 a1 a2 h0 := by kernel_rfl
theorem F61_eq (rc : Rec) (md : Md) (a0_0 : Value) (a1 : Int) (a2 : Int) (h0 : Heap) : callStep Try.prog cfg rc md 61 [(.agg #[a0_0]), (.int .i64 a1), (.int .u64 a2)] h0 = F61 rc ⟨md.ro, h0.length⟩ a0_0 a1 a2 h0 := (callStep_ne (by kernel_rfl)).trans (F61_eq0 rc md a0_0 a1 a2 h0)

end Go.Det.E
