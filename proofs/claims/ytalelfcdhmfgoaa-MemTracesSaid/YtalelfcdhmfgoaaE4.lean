/- Printed functions. -/
import Derived.Test.YtalelfcdhmfgoaaE1
import Derived.Test.YtalelfcdhmfgoaaDetT
import Derived.Test.YtalelfcdhmfgoaaDetX
import Derived.Test.YtalelfcdhmfgoaaProg
set_option autoImplicit false
set_option linter.unusedVariables false
set_option linter.unusedSimpArgs false
namespace Go.Det.E
open Go.Proofs Go.Det

/-- tombolo/tombololaw06.MemTraces -/
noncomputable def J3_5 (rc : Rec) (md : Md) (h0 : Heap) (s10 : Value) (s17 : Value) (h : Heap) : Option (Value × Heap) :=
  aBuiltin Try.prog md .len #[31] [s10] h fun v2 h3 =>
  cIn .i64 v2 fun n4 =>
  aBin Try.prog .eql 3 s17 (.int .i64 n4) fun v5 =>
  (bif wantV v5 true then
  cl (rc md 4 [] h3) fun v6 h7 =>
  cBn v6 fun b8 =>
  some ((.bool b8), h7)
  else some (undef, h3)).bind fun p9 =>
  cBn v5 fun q10 =>
  cBn (bif q10 then p9.1 else (.bool false)) fun b11 =>
  some ((.bool b11), List.take h0.length p9.2)
theorem J3_5_at (rc : Rec) (md : Md) (h0 : Heap) (t : T) (h : Heap) : cut Try.prog cfg rc md 175 (bodyOf Try.prog 3) [1, 1, 1, 1, 1, 1, 1, 1, 1, 1, 1, 1, 1, 1, 1, 1] (retK Try.prog cfg 3 (rsOf Try.prog 3) h0) t h = J3_5 rc md h0 (t 10) (t 17) h := by kernel_rfl
theorem J3_5_cut (rc : Rec) (md : Md) (h0 : Heap) : cut Try.prog cfg rc md 175 (bodyOf Try.prog 3) [1, 1, 1, 1, 1, 1, 1, 1, 1, 1, 1, 1, 1, 1, 1, 1] (retK Try.prog cfg 3 (rsOf Try.prog 3) h0) = fun t h => J3_5 rc md h0 (t 10) (t 17) h := funext fun t => funext fun h => J3_5_at rc md h0 t h
noncomputable def Jk3_4 (rc : Rec) (md : Md) (h0 : Heap) (e : Exit) (s4 : Value) (s10 : Value) (s16 : Value) (s17 : Value) (s149 : Value) (s150 : Value) (s151 : Value) (h : Heap) : Option (Value × Heap) :=
  match e with
  | .normal =>
    J3_5 rc md h0 s10 s17 h
  | .exit j =>
    bif Nat.beq j 5 then
      J3_5 rc md h0 s10 s17 h
    else
      none
  | .ret =>
    fin1 h0 s4 h
  | .goto l => none
  | .panic ps => none
  | .outgrown => none
noncomputable def Jk3_4H (rc : Rec) (md : Md) (h0 : Heap) (X3 : T → Heap → Option (Value × Heap)) (e : Exit) (t : T) (h : Heap) : Option (Value × Heap) :=
  match e with
  | .normal =>
    X3 t h
  | .exit j =>
    bif Nat.beq j 5 then
      X3 t h
    else
      none
  | .ret =>
    fin1 h0 (t 4) h
  | .goto l => none
  | .panic ps => none
  | .outgrown => none
theorem Jk3_4_h1 (rc : Rec) (md : Md) (h0 : Heap) (X : Nat → T → Heap → Option (Value × Heap)) (e : Exit) (t : T) (h : Heap) : kAtG Try.prog cfg X rc md 175 (replS (bodyOf Try.prog 3) [([1, 1, 1, 1, 1, 1, 1, 1, 1, 1, 0, 1, 0], 0), ([1, 1, 1, 1, 1, 1, 1, 1, 1, 1, 1, 1, 1, 0, 1, 0], 1), ([1, 1, 1, 1, 1, 1, 1, 1, 1, 1, 1, 1, 1, 1, 1, 1], 3)]) [1, 1, 1, 1, 1, 1, 1, 1, 1, 1, 1, 1, 1, 1, 1, 0, 1, 0] (retK Try.prog cfg 3 (rsOf Try.prog 3) h0) e t h = Jk3_4H rc md h0 (X 3) e t h := by cases e <;> kernel_rfl
theorem Jk3_4_h2 (rc : Rec) (md : Md) (h0 : Heap) (e : Exit) (t : T) (h : Heap) : Jk3_4H rc md h0 (fun t h => J3_5 rc md h0 (t 10) (t 17) h) e t h = Jk3_4 rc md h0 e (t 4) (t 10) (t 16) (t 17) (t 149) (t 150) (t 151) h := by cases e <;> (unfold Jk3_4H Jk3_4; kernel_rfl)
theorem Jk3_4_at (rc : Rec) (md : Md) (h0 : Heap) (e : Exit) (t : T) (h : Heap) : kAt Try.prog cfg rc md 175 (bodyOf Try.prog 3) [1, 1, 1, 1, 1, 1, 1, 1, 1, 1, 1, 1, 1, 1, 1, 0, 1, 0] (retK Try.prog cfg 3 (rsOf Try.prog 3) h0) e t h = Jk3_4 rc md h0 e (t 4) (t 10) (t 16) (t 17) (t 149) (t 150) (t 151) h := by
  rw [kAt_holes [([1, 1, 1, 1, 1, 1, 1, 1, 1, 1, 0, 1, 0], 0), ([1, 1, 1, 1, 1, 1, 1, 1, 1, 1, 1, 1, 1, 0, 1, 0], 1), ([1, 1, 1, 1, 1, 1, 1, 1, 1, 1, 1, 1, 1, 1, 1, 1], 3)] [1, 1, 1, 1, 1, 1, 1, 1, 1, 1, 1, 1, 1, 1, 1, 0, 1, 0] (by kernel_rfl), Jk3_4_h1, show (goX Try.prog cfg rc md 175 (bodyOf Try.prog 3) [([1, 1, 1, 1, 1, 1, 1, 1, 1, 1, 0, 1, 0], 0), ([1, 1, 1, 1, 1, 1, 1, 1, 1, 1, 1, 1, 1, 0, 1, 0], 1), ([1, 1, 1, 1, 1, 1, 1, 1, 1, 1, 1, 1, 1, 1, 1, 1], 3)] (retK Try.prog cfg 3 (rsOf Try.prog 3) h0)) 3 = _ from J3_5_cut rc md h0]
  exact Jk3_4_h2 rc md h0 e t h
/-- a round -/
noncomputable def Jr3_4 (rc : Rec) (md : Md) (s4 : Value) (s10 : Value) (s16 : Value) (s17 : Value) (s149 : Value) (s150 : Value) (s151 : Value) (h : Heap) : Option (((Value × Value × Value × Value × Value × Value × Value) × Heap) ⊕ (Exit × (Value × Value × Value × Value × Value × Value × Value) × Heap)) :=
  aBin Try.prog .lss 3 s151 s150 fun v1 =>
  cBn v1 fun b2 =>
  bif b2 then
    ixSV 1 s149 s151 fun v3 =>
    ld1 v3 h fun v4 =>
    cIn .i64 v4 fun n5 =>
    aBin Try.prog .leq 3 (.int .i64 n5) s16 fun v6 =>
    (bif wantV v6 false then
    some (s10, h)
    else some (undef, h)).bind fun p7 =>
    (bif wantV v6 false then
    some ((.int .i64 n5), p7.2)
    else some (undef, p7.2)).bind fun p8 =>
    (bif wantV v6 false then
    aLookup Try.prog 31 p7.1 p8.1 false p8.2 fun v9 =>
    cBn v9 fun b10 =>
    some ((.bool b10), p8.2)
    else some (undef, p8.2)).bind fun p11 =>
    (bif wantV v6 false then
    aUn .not p11.1 fun v12 =>
    some (v12, p11.2)
    else some (undef, p11.2)).bind fun p13 =>
    cBn v6 fun q14 =>
    cBn (bif q14 then (.bool true) else p13.1) fun b15 =>
    bif b15 then
      some (.inr (.ret, ((.bool false), s10, s16, s17, s149, s150, s151), p13.2))
    else
      aBin Try.prog .add 3 s17 (.int .i64 1) fun v16 =>
      aBin Try.prog .add 3 s151 (.int .i64 1) fun v17 =>
      some (.inl ((s4, s10, (.int .i64 n5), v16, s149, s150, v17), p13.2))
  else
    some (.inr ((.exit 5), (s4, s10, s16, s17, s149, s150, s151), h))
theorem Jr3_4_at (rc : Rec) (md : Md) (t : T) (h : Heap) : exec Try.prog cfg rc md 175 (sub (bodyOf Try.prog 3) [1, 1, 1, 1, 1, 1, 1, 1, 1, 1, 1, 1, 1, 1, 1, 0, 1, 0, 0]) (rndK (fun t => (t 4, t 10, t 16, t 17, t 149, t 150, t 151))) t h = Jr3_4 rc md (t 4) (t 10) (t 16) (t 17) (t 149) (t 150) (t 151) h := by kernel_rfl
noncomputable def J3_4 (rc : Rec) (md : Md) (h0 : Heap) (s4 : Value) (s10 : Value) (s16 : Value) (s17 : Value) (s149 : Value) (s150 : Value) (s151 : Value) (h : Heap) : Option (Value × Heap) :=
  runL (fun x : (Value × Value × Value × Value × Value × Value × Value) × Heap => Jr3_4 rc md x.1.1 x.1.2.1 x.1.2.2.1 x.1.2.2.2.1 x.1.2.2.2.2.1 x.1.2.2.2.2.2.1 x.1.2.2.2.2.2.2 x.2) (fun e (s : Value × Value × Value × Value × Value × Value × Value) h => Jk3_4 rc md h0 e s.1 s.2.1 s.2.2.1 s.2.2.2.1 s.2.2.2.2.1 s.2.2.2.2.2.1 s.2.2.2.2.2.2 h) (s4, s10, s16, s17, s149, s150, s151) h
theorem J3_4_step (rc : Rec) (md : Md) (h0 : Heap) (s4 : Value) (s10 : Value) (s16 : Value) (s17 : Value) (s149 : Value) (s150 : Value) (s151 : Value) (h : Heap) : J3_4 rc md h0 s4 s10 s16 s17 s149 s150 s151 h = (Jr3_4 rc md s4 s10 s16 s17 s149 s150 s151 h).bind fun x => match x with
    | .inl (s, h) => J3_4 rc md h0 s.1 s.2.1 s.2.2.1 s.2.2.2.1 s.2.2.2.2.1 s.2.2.2.2.2.1 s.2.2.2.2.2.2 h
    | .inr (e, s, h) => Jk3_4 rc md h0 e s.1 s.2.1 s.2.2.1 s.2.2.2.1 s.2.2.2.2.1 s.2.2.2.2.2.1 s.2.2.2.2.2.2 h := by
  unfold J3_4
  rw [runL_eq]
  refine congrArg (Option.bind _) (funext fun x => ?_)
  rcases x with ⟨s, h⟩ | ⟨e, s, h⟩ <;> rfl
theorem J3_4_cut (rc : Rec) (md : Md) (h0 : Heap) : cut Try.prog cfg rc md 175 (bodyOf Try.prog 3) [1, 1, 1, 1, 1, 1, 1, 1, 1, 1, 1, 1, 1, 1, 1, 0, 1, 0] (retK Try.prog cfg 3 (rsOf Try.prog 3) h0) = fun t h => J3_4 rc md h0 (t 4) (t 10) (t 16) (t 17) (t 149) (t 150) (t 151) h := by
  funext t h
  have e : sub (bodyOf Try.prog 3) [1, 1, 1, 1, 1, 1, 1, 1, 1, 1, 1, 1, 1, 1, 1, 0, 1, 0] = .loop (sub (bodyOf Try.prog 3) [1, 1, 1, 1, 1, 1, 1, 1, 1, 1, 1, 1, 1, 1, 1, 0, 1, 0, 0]) := by kernel_rfl
  unfold cut
  rw [e]
  exact loop_eq (by kernel_rfl) (fun t => (t 4, t 10, t 16, t 17, t 149, t 150, t 151)) (fun x : (Value × Value × Value × Value × Value × Value × Value) × Heap => Jr3_4 rc md x.1.1 x.1.2.1 x.1.2.2.1 x.1.2.2.2.1 x.1.2.2.2.2.1 x.1.2.2.2.2.2.1 x.1.2.2.2.2.2.2 x.2) (fun t h => Jr3_4_at rc md t h) (fun e (s : Value × Value × Value × Value × Value × Value × Value) h => Jk3_4 rc md h0 e s.1 s.2.1 s.2.2.1 s.2.2.2.1 s.2.2.2.2.1 s.2.2.2.2.2.1 s.2.2.2.2.2.2 h) (fun e t h => Jk3_4_at rc md h0 e t h) t h
noncomputable def J3_3 (rc : Rec) (md : Md) (h0 : Heap) (s4 : Value) (s7 : Value) (s10 : Value) (h : Heap) : Option (Value × Heap) :=
  cl (rc md 12 [s7] h) fun v1 h2 =>
  lenS v1 fun v3 =>
  cIn .i64 v3 fun n4 =>
  J3_4 rc md h0 s4 s10 (.int .i64 (-1)) (.int .i64 0) v1 (.int .i64 n4) (.int .i64 0) h2
noncomputable def J3_3H (rc : Rec) (md : Md) (h0 : Heap) (X2 : T → Heap → Option (Value × Heap)) (t : T) (h : Heap) : Option (Value × Heap) :=
  cl (rc md 12 [(t 7)] h) fun v1 h2 =>
  lenS v1 fun v3 =>
  cIn .i64 v3 fun n4 =>
  X2 (upd (upd (upd (upd (upd (upd t 16 (.int .i64 (-1))) 17 (.int .i64 0)) 148 (t 7)) 149 v1) 150 (.int .i64 n4)) 151 (.int .i64 0)) h2
theorem J3_3_h1 (rc : Rec) (md : Md) (h0 : Heap) (X : Nat → T → Heap → Option (Value × Heap)) (t : T) (h : Heap) : execG Try.prog cfg X rc md 175 (sub (replS (bodyOf Try.prog 3) [([1, 1, 1, 1, 1, 1, 1, 1, 1, 1, 0, 1, 0], 0), ([1, 1, 1, 1, 1, 1, 1, 1, 1, 1, 1, 1, 1, 0, 1, 0], 1), ([1, 1, 1, 1, 1, 1, 1, 1, 1, 1, 1, 1, 1, 1, 1, 0, 1, 0], 2), ([1, 1, 1, 1, 1, 1, 1, 1, 1, 1, 1, 1, 1, 1, 1, 1], 3)]) [1, 1, 1, 1, 1, 1, 1, 1, 1, 1, 1, 1, 1, 1]) (kAtG Try.prog cfg X rc md 175 (replS (bodyOf Try.prog 3) [([1, 1, 1, 1, 1, 1, 1, 1, 1, 1, 0, 1, 0], 0), ([1, 1, 1, 1, 1, 1, 1, 1, 1, 1, 1, 1, 1, 0, 1, 0], 1), ([1, 1, 1, 1, 1, 1, 1, 1, 1, 1, 1, 1, 1, 1, 1, 0, 1, 0], 2), ([1, 1, 1, 1, 1, 1, 1, 1, 1, 1, 1, 1, 1, 1, 1, 1], 3)]) [1, 1, 1, 1, 1, 1, 1, 1, 1, 1, 1, 1, 1, 1] (retK Try.prog cfg 3 (rsOf Try.prog 3) h0)) t h = J3_3H rc md h0 (X 2) t h := by kernel_rfl
theorem J3_3_h2 (rc : Rec) (md : Md) (h0 : Heap) (t : T) (h : Heap) : J3_3H rc md h0 (fun t h => J3_4 rc md h0 (t 4) (t 10) (t 16) (t 17) (t 149) (t 150) (t 151) h) t h = J3_3 rc md h0 (t 4) (t 7) (t 10) h := by (unfold J3_3H J3_3; kernel_rfl)
theorem J3_3_at (rc : Rec) (md : Md) (h0 : Heap) (t : T) (h : Heap) : cut Try.prog cfg rc md 175 (bodyOf Try.prog 3) [1, 1, 1, 1, 1, 1, 1, 1, 1, 1, 1, 1, 1, 1] (retK Try.prog cfg 3 (rsOf Try.prog 3) h0) t h = J3_3 rc md h0 (t 4) (t 7) (t 10) h := by
  rw [cut_holes [([1, 1, 1, 1, 1, 1, 1, 1, 1, 1, 0, 1, 0], 0), ([1, 1, 1, 1, 1, 1, 1, 1, 1, 1, 1, 1, 1, 0, 1, 0], 1), ([1, 1, 1, 1, 1, 1, 1, 1, 1, 1, 1, 1, 1, 1, 1, 0, 1, 0], 2), ([1, 1, 1, 1, 1, 1, 1, 1, 1, 1, 1, 1, 1, 1, 1, 1], 3)] [1, 1, 1, 1, 1, 1, 1, 1, 1, 1, 1, 1, 1, 1] (by kernel_rfl), J3_3_h1, show (goX Try.prog cfg rc md 175 (bodyOf Try.prog 3) [([1, 1, 1, 1, 1, 1, 1, 1, 1, 1, 0, 1, 0], 0), ([1, 1, 1, 1, 1, 1, 1, 1, 1, 1, 1, 1, 1, 0, 1, 0], 1), ([1, 1, 1, 1, 1, 1, 1, 1, 1, 1, 1, 1, 1, 1, 1, 0, 1, 0], 2), ([1, 1, 1, 1, 1, 1, 1, 1, 1, 1, 1, 1, 1, 1, 1, 1], 3)] (retK Try.prog cfg 3 (rsOf Try.prog 3) h0)) 2 = _ from J3_4_cut rc md h0]
  exact J3_3_h2 rc md h0 t h
theorem J3_3_cut (rc : Rec) (md : Md) (h0 : Heap) : cut Try.prog cfg rc md 175 (bodyOf Try.prog 3) [1, 1, 1, 1, 1, 1, 1, 1, 1, 1, 1, 1, 1, 1] (retK Try.prog cfg 3 (rsOf Try.prog 3) h0) = fun t h => J3_3 rc md h0 (t 4) (t 7) (t 10) h := funext fun t => funext fun h => J3_3_at rc md h0 t h
noncomputable def Jk3_2 (rc : Rec) (md : Md) (h0 : Heap) (e : Exit) (s4 : Value) (s7 : Value) (s9 : Value) (s10 : Value) (s14 : Value) (s134 : Value) (s135 : Value) (h : Heap) : Option (Value × Heap) :=
  match e with
  | .normal =>
    J3_3 rc md h0 s4 s7 s10 h
  | .exit j =>
    bif Nat.beq j 3 then
      J3_3 rc md h0 s4 s7 s10 h
    else
      none
  | .ret =>
    fin1 h0 s4 h
  | .goto l => none
  | .panic ps => none
  | .outgrown => none
noncomputable def Jk3_2H (rc : Rec) (md : Md) (h0 : Heap) (X4 : T → Heap → Option (Value × Heap)) (e : Exit) (t : T) (h : Heap) : Option (Value × Heap) :=
  match e with
  | .normal =>
    X4 t h
  | .exit j =>
    bif Nat.beq j 3 then
      X4 t h
    else
      none
  | .ret =>
    fin1 h0 (t 4) h
  | .goto l => none
  | .panic ps => none
  | .outgrown => none
theorem Jk3_2_h1 (rc : Rec) (md : Md) (h0 : Heap) (X : Nat → T → Heap → Option (Value × Heap)) (e : Exit) (t : T) (h : Heap) : kAtG Try.prog cfg X rc md 175 (replS (bodyOf Try.prog 3) [([1, 1, 1, 1, 1, 1, 1, 1, 1, 1, 0, 1, 0], 0), ([1, 1, 1, 1, 1, 1, 1, 1, 1, 1, 1, 1, 1, 1, 1, 0, 1, 0], 2), ([1, 1, 1, 1, 1, 1, 1, 1, 1, 1, 1, 1, 1, 1, 1, 1], 3), ([1, 1, 1, 1, 1, 1, 1, 1, 1, 1, 1, 1, 1, 1], 4)]) [1, 1, 1, 1, 1, 1, 1, 1, 1, 1, 1, 1, 1, 0, 1, 0] (retK Try.prog cfg 3 (rsOf Try.prog 3) h0) e t h = Jk3_2H rc md h0 (X 4) e t h := by cases e <;> kernel_rfl
theorem Jk3_2_h2 (rc : Rec) (md : Md) (h0 : Heap) (e : Exit) (t : T) (h : Heap) : Jk3_2H rc md h0 (fun t h => J3_3 rc md h0 (t 4) (t 7) (t 10) h) e t h = Jk3_2 rc md h0 e (t 4) (t 7) (t 9) (t 10) (t 14) (t 134) (t 135) h := by cases e <;> (unfold Jk3_2H Jk3_2; kernel_rfl)
theorem Jk3_2_at (rc : Rec) (md : Md) (h0 : Heap) (e : Exit) (t : T) (h : Heap) : kAt Try.prog cfg rc md 175 (bodyOf Try.prog 3) [1, 1, 1, 1, 1, 1, 1, 1, 1, 1, 1, 1, 1, 0, 1, 0] (retK Try.prog cfg 3 (rsOf Try.prog 3) h0) e t h = Jk3_2 rc md h0 e (t 4) (t 7) (t 9) (t 10) (t 14) (t 134) (t 135) h := by
  rw [kAt_holes [([1, 1, 1, 1, 1, 1, 1, 1, 1, 1, 0, 1, 0], 0), ([1, 1, 1, 1, 1, 1, 1, 1, 1, 1, 1, 1, 1, 1, 1, 0, 1, 0], 2), ([1, 1, 1, 1, 1, 1, 1, 1, 1, 1, 1, 1, 1, 1, 1, 1], 3), ([1, 1, 1, 1, 1, 1, 1, 1, 1, 1, 1, 1, 1, 1], 4)] [1, 1, 1, 1, 1, 1, 1, 1, 1, 1, 1, 1, 1, 0, 1, 0] (by kernel_rfl), Jk3_2_h1, show (goX Try.prog cfg rc md 175 (bodyOf Try.prog 3) [([1, 1, 1, 1, 1, 1, 1, 1, 1, 1, 0, 1, 0], 0), ([1, 1, 1, 1, 1, 1, 1, 1, 1, 1, 1, 1, 1, 1, 1, 0, 1, 0], 2), ([1, 1, 1, 1, 1, 1, 1, 1, 1, 1, 1, 1, 1, 1, 1, 1], 3), ([1, 1, 1, 1, 1, 1, 1, 1, 1, 1, 1, 1, 1, 1], 4)] (retK Try.prog cfg 3 (rsOf Try.prog 3) h0)) 4 = _ from J3_3_cut rc md h0]
  exact Jk3_2_h2 rc md h0 e t h
/-- a round -/
noncomputable def Jr3_2 (rc : Rec) (md : Md) (s4 : Value) (s7 : Value) (s9 : Value) (s10 : Value) (s14 : Value) (s134 : Value) (s135 : Value) (h : Heap) : Option (((Value × Value × Value × Value × Value × Value × Value) × Heap) ⊕ (Exit × (Value × Value × Value × Value × Value × Value × Value) × Heap)) :=
  aBin Try.prog .lss 3 s135 s134 fun v1 =>
  cBn v1 fun b2 =>
  bif b2 then
    ixSV 3 s14 s135 fun v3 =>
    ldN 3 v3 h fun v4 =>
    ixSV 3 s9 s135 fun v5 =>
    ldN 3 v5 h fun v6 =>
    aBin Try.prog .neq 37 v4 v6 fun v7 =>
    cBn v7 fun b8 =>
    bif b8 then
      some (.inr (.ret, ((.bool false), s7, s9, s10, s14, s134, s135), h))
    else
      aBin Try.prog .add 3 s135 (.int .i64 1) fun v9 =>
      some (.inl ((s4, s7, s9, s10, s14, s134, v9), h))
  else
    some (.inr ((.exit 3), (s4, s7, s9, s10, s14, s134, s135), h))
theorem Jr3_2_at (rc : Rec) (md : Md) (t : T) (h : Heap) : exec Try.prog cfg rc md 175 (sub (bodyOf Try.prog 3) [1, 1, 1, 1, 1, 1, 1, 1, 1, 1, 1, 1, 1, 0, 1, 0, 0]) (rndK (fun t => (t 4, t 7, t 9, t 10, t 14, t 134, t 135))) t h = Jr3_2 rc md (t 4) (t 7) (t 9) (t 10) (t 14) (t 134) (t 135) h := by kernel_rfl
noncomputable def J3_2 (rc : Rec) (md : Md) (h0 : Heap) (s4 : Value) (s7 : Value) (s9 : Value) (s10 : Value) (s14 : Value) (s134 : Value) (s135 : Value) (h : Heap) : Option (Value × Heap) :=
  runL (fun x : (Value × Value × Value × Value × Value × Value × Value) × Heap => Jr3_2 rc md x.1.1 x.1.2.1 x.1.2.2.1 x.1.2.2.2.1 x.1.2.2.2.2.1 x.1.2.2.2.2.2.1 x.1.2.2.2.2.2.2 x.2) (fun e (s : Value × Value × Value × Value × Value × Value × Value) h => Jk3_2 rc md h0 e s.1 s.2.1 s.2.2.1 s.2.2.2.1 s.2.2.2.2.1 s.2.2.2.2.2.1 s.2.2.2.2.2.2 h) (s4, s7, s9, s10, s14, s134, s135) h
theorem J3_2_step (rc : Rec) (md : Md) (h0 : Heap) (s4 : Value) (s7 : Value) (s9 : Value) (s10 : Value) (s14 : Value) (s134 : Value) (s135 : Value) (h : Heap) : J3_2 rc md h0 s4 s7 s9 s10 s14 s134 s135 h = (Jr3_2 rc md s4 s7 s9 s10 s14 s134 s135 h).bind fun x => match x with
    | .inl (s, h) => J3_2 rc md h0 s.1 s.2.1 s.2.2.1 s.2.2.2.1 s.2.2.2.2.1 s.2.2.2.2.2.1 s.2.2.2.2.2.2 h
    | .inr (e, s, h) => Jk3_2 rc md h0 e s.1 s.2.1 s.2.2.1 s.2.2.2.1 s.2.2.2.2.1 s.2.2.2.2.2.1 s.2.2.2.2.2.2 h := by
  unfold J3_2
  rw [runL_eq]
  refine congrArg (Option.bind _) (funext fun x => ?_)
  rcases x with ⟨s, h⟩ | ⟨e, s, h⟩ <;> rfl
theorem J3_2_cut (rc : Rec) (md : Md) (h0 : Heap) : cut Try.prog cfg rc md 175 (bodyOf Try.prog 3) [1, 1, 1, 1, 1, 1, 1, 1, 1, 1, 1, 1, 1, 0, 1, 0] (retK Try.prog cfg 3 (rsOf Try.prog 3) h0) = fun t h => J3_2 rc md h0 (t 4) (t 7) (t 9) (t 10) (t 14) (t 134) (t 135) h := by
  funext t h
  have e : sub (bodyOf Try.prog 3) [1, 1, 1, 1, 1, 1, 1, 1, 1, 1, 1, 1, 1, 0, 1, 0] = .loop (sub (bodyOf Try.prog 3) [1, 1, 1, 1, 1, 1, 1, 1, 1, 1, 1, 1, 1, 0, 1, 0, 0]) := by kernel_rfl
  unfold cut
  rw [e]
  exact loop_eq (by kernel_rfl) (fun t => (t 4, t 7, t 9, t 10, t 14, t 134, t 135)) (fun x : (Value × Value × Value × Value × Value × Value × Value) × Heap => Jr3_2 rc md x.1.1 x.1.2.1 x.1.2.2.1 x.1.2.2.2.1 x.1.2.2.2.2.1 x.1.2.2.2.2.2.1 x.1.2.2.2.2.2.2 x.2) (fun t h => Jr3_2_at rc md t h) (fun e (s : Value × Value × Value × Value × Value × Value × Value) h => Jk3_2 rc md h0 e s.1 s.2.1 s.2.2.1 s.2.2.2.1 s.2.2.2.2.1 s.2.2.2.2.2.1 s.2.2.2.2.2.2 h) (fun e t h => Jk3_2_at rc md h0 e t h) t h
noncomputable def J3_1 (rc : Rec) (md : Md) (h0 : Heap) (s4 : Value) (s5 : Value) (s6 : Value) (s7 : Value) (s9 : Value) (s10 : Value) (h : Heap) : Option (Value × Heap) :=
  cl (rc md 10 [s7] h) fun v1 h2 =>
  lenS v1 fun v3 =>
  cIn .i64 v3 fun n4 =>
  lenS s9 fun v5 =>
  cIn .i64 v5 fun n6 =>
  (bif wantV (.bool (n4 != n6)) false then
  some (s6, h2)
  else some (undef, h2)).bind fun p7 =>
  (bif wantV (.bool (n4 != n6)) false then
  aBin Try.prog .eql 25 p7.1 (.pointer none) fun v8 =>
  some (v8, p7.2)
  else some (undef, p7.2)).bind fun p9 =>
  cBn (bif (n4 != n6) then (.bool true) else p9.1) fun b10 =>
  (bif wantV (.bool b10) false then
  some (s6, p9.2)
  else some (undef, p9.2)).bind fun p11 =>
  (bif wantV (.bool b10) false then
  some (s5, p11.2)
  else some (undef, p11.2)).bind fun p12 =>
  (bif wantV (.bool b10) false then
  cl (rc md 11 [p11.1, p12.1] p12.2) fun v13 h14 =>
  cBn v13 fun b15 =>
  some ((.bool b15), h14)
  else some (undef, p12.2)).bind fun p16 =>
  (bif wantV (.bool b10) false then
  aUn .not p16.1 fun v17 =>
  some (v17, p16.2)
  else some (undef, p16.2)).bind fun p18 =>
  cBn (bif b10 then (.bool true) else p18.1) fun b19 =>
  bif b19 then
    some ((.bool false), List.take h0.length p18.2)
  else
    lenS s9 fun v20 =>
    cIn .i64 v20 fun n21 =>
    J3_2 rc md h0 s4 s7 s9 s10 v1 (.int .i64 n21) (.int .i64 0) p18.2
noncomputable def J3_1H (rc : Rec) (md : Md) (h0 : Heap) (X1 : T → Heap → Option (Value × Heap)) (t : T) (h : Heap) : Option (Value × Heap) :=
  cl (rc md 10 [(t 7)] h) fun v1 h2 =>
  lenS v1 fun v3 =>
  cIn .i64 v3 fun n4 =>
  lenS (t 9) fun v5 =>
  cIn .i64 v5 fun n6 =>
  (bif wantV (.bool (n4 != n6)) false then
  some ((t 6), h2)
  else some (undef, h2)).bind fun p7 =>
  (bif wantV (.bool (n4 != n6)) false then
  aBin Try.prog .eql 25 p7.1 (.pointer none) fun v8 =>
  some (v8, p7.2)
  else some (undef, p7.2)).bind fun p9 =>
  cBn (bif (n4 != n6) then (.bool true) else p9.1) fun b10 =>
  (bif wantV (.bool b10) false then
  some ((t 6), p9.2)
  else some (undef, p9.2)).bind fun p11 =>
  (bif wantV (.bool b10) false then
  some ((t 5), p11.2)
  else some (undef, p11.2)).bind fun p12 =>
  (bif wantV (.bool b10) false then
  cl (rc md 11 [p11.1, p12.1] p12.2) fun v13 h14 =>
  cBn v13 fun b15 =>
  some ((.bool b15), h14)
  else some (undef, p12.2)).bind fun p16 =>
  (bif wantV (.bool b10) false then
  aUn .not p16.1 fun v17 =>
  some (v17, p16.2)
  else some (undef, p16.2)).bind fun p18 =>
  cBn (bif b10 then (.bool true) else p18.1) fun b19 =>
  bif b19 then
    some ((.bool false), List.take h0.length p18.2)
  else
    lenS (t 9) fun v20 =>
    cIn .i64 v20 fun n21 =>
    X1 (upd (upd (upd (upd (upd (upd (upd (upd (upd (upd (upd (upd (upd (upd (upd (upd (upd (upd (upd (upd (upd t 116 (t 7)) 117 v1) 14 v1) 118 v1) 119 (.int .i64 n4)) 120 (t 9)) 121 (.int .i64 n6)) 122 (.bool (n4 != n6))) 123 (.bool (n4 != n6))) 124 p7.1) 125 p9.1) 126 (.bool b10)) 127 (.bool b10)) 128 p11.1) 129 p12.1) 130 p16.1) 131 p18.1) 132 (.bool b19)) 133 (t 9)) 134 (.int .i64 n21)) 135 (.int .i64 0)) p18.2
theorem J3_1_h1 (rc : Rec) (md : Md) (h0 : Heap) (X : Nat → T → Heap → Option (Value × Heap)) (t : T) (h : Heap) : execG Try.prog cfg X rc md 175 (sub (replS (bodyOf Try.prog 3) [([1, 1, 1, 1, 1, 1, 1, 1, 1, 1, 0, 1, 0], 0), ([1, 1, 1, 1, 1, 1, 1, 1, 1, 1, 1, 1, 1, 0, 1, 0], 1), ([1, 1, 1, 1, 1, 1, 1, 1, 1, 1, 1, 1, 1, 1, 1, 0, 1, 0], 2), ([1, 1, 1, 1, 1, 1, 1, 1, 1, 1, 1, 1, 1, 1, 1, 1], 3), ([1, 1, 1, 1, 1, 1, 1, 1, 1, 1, 1, 1, 1, 1], 4)]) [1, 1, 1, 1, 1, 1, 1, 1, 1, 1, 1]) (kAtG Try.prog cfg X rc md 175 (replS (bodyOf Try.prog 3) [([1, 1, 1, 1, 1, 1, 1, 1, 1, 1, 0, 1, 0], 0), ([1, 1, 1, 1, 1, 1, 1, 1, 1, 1, 1, 1, 1, 0, 1, 0], 1), ([1, 1, 1, 1, 1, 1, 1, 1, 1, 1, 1, 1, 1, 1, 1, 0, 1, 0], 2), ([1, 1, 1, 1, 1, 1, 1, 1, 1, 1, 1, 1, 1, 1, 1, 1], 3), ([1, 1, 1, 1, 1, 1, 1, 1, 1, 1, 1, 1, 1, 1], 4)]) [1, 1, 1, 1, 1, 1, 1, 1, 1, 1, 1] (retK Try.prog cfg 3 (rsOf Try.prog 3) h0)) t h = J3_1H rc md h0 (X 1) t h := by kernel_rfl
theorem J3_1_h2 (rc : Rec) (md : Md) (h0 : Heap) (t : T) (h : Heap) : J3_1H rc md h0 (fun t h => J3_2 rc md h0 (t 4) (t 7) (t 9) (t 10) (t 14) (t 134) (t 135) h) t h = J3_1 rc md h0 (t 4) (t 5) (t 6) (t 7) (t 9) (t 10) h := by (unfold J3_1H J3_1; kernel_rfl)
theorem J3_1_at (rc : Rec) (md : Md) (h0 : Heap) (t : T) (h : Heap) : cut Try.prog cfg rc md 175 (bodyOf Try.prog 3) [1, 1, 1, 1, 1, 1, 1, 1, 1, 1, 1] (retK Try.prog cfg 3 (rsOf Try.prog 3) h0) t h = J3_1 rc md h0 (t 4) (t 5) (t 6) (t 7) (t 9) (t 10) h := by
  rw [cut_holes [([1, 1, 1, 1, 1, 1, 1, 1, 1, 1, 0, 1, 0], 0), ([1, 1, 1, 1, 1, 1, 1, 1, 1, 1, 1, 1, 1, 0, 1, 0], 1), ([1, 1, 1, 1, 1, 1, 1, 1, 1, 1, 1, 1, 1, 1, 1, 0, 1, 0], 2), ([1, 1, 1, 1, 1, 1, 1, 1, 1, 1, 1, 1, 1, 1, 1, 1], 3), ([1, 1, 1, 1, 1, 1, 1, 1, 1, 1, 1, 1, 1, 1], 4)] [1, 1, 1, 1, 1, 1, 1, 1, 1, 1, 1] (by kernel_rfl), J3_1_h1, show (goX Try.prog cfg rc md 175 (bodyOf Try.prog 3) [([1, 1, 1, 1, 1, 1, 1, 1, 1, 1, 0, 1, 0], 0), ([1, 1, 1, 1, 1, 1, 1, 1, 1, 1, 1, 1, 1, 0, 1, 0], 1), ([1, 1, 1, 1, 1, 1, 1, 1, 1, 1, 1, 1, 1, 1, 1, 0, 1, 0], 2), ([1, 1, 1, 1, 1, 1, 1, 1, 1, 1, 1, 1, 1, 1, 1, 1], 3), ([1, 1, 1, 1, 1, 1, 1, 1, 1, 1, 1, 1, 1, 1], 4)] (retK Try.prog cfg 3 (rsOf Try.prog 3) h0)) 1 = _ from J3_2_cut rc md h0]
  exact J3_1_h2 rc md h0 t h
theorem J3_1_cut (rc : Rec) (md : Md) (h0 : Heap) : cut Try.prog cfg rc md 175 (bodyOf Try.prog 3) [1, 1, 1, 1, 1, 1, 1, 1, 1, 1, 1] (retK Try.prog cfg 3 (rsOf Try.prog 3) h0) = fun t h => J3_1 rc md h0 (t 4) (t 5) (t 6) (t 7) (t 9) (t 10) h := funext fun t => funext fun h => J3_1_at rc md h0 t h
noncomputable def Jk3_0 (rc : Rec) (md : Md) (h0 : Heap) (e : Exit) (s4 : Value) (s5 : Value) (s6 : Value) (s7 : Value) (s8 : Value) (s9 : Value) (s10 : Value) (s43 : Value) (s44 : Value) (s45 : Value) (h : Heap) : Option (Value × Heap) :=
  match e with
  | .normal =>
    J3_1 rc md h0 s4 s5 s6 s7 s9 s10 h
  | .exit j =>
    bif Nat.beq j 0 then
      J3_1 rc md h0 s4 s5 s6 s7 s9 s10 h
    else
      none
  | .ret =>
    fin1 h0 s4 h
  | .goto l => none
  | .panic ps => none
  | .outgrown => none
noncomputable def Jk3_0H (rc : Rec) (md : Md) (h0 : Heap) (X5 : T → Heap → Option (Value × Heap)) (e : Exit) (t : T) (h : Heap) : Option (Value × Heap) :=
  match e with
  | .normal =>
    X5 t h
  | .exit j =>
    bif Nat.beq j 0 then
      X5 t h
    else
      none
  | .ret =>
    fin1 h0 (t 4) h
  | .goto l => none
  | .panic ps => none
  | .outgrown => none
theorem Jk3_0_h1 (rc : Rec) (md : Md) (h0 : Heap) (X : Nat → T → Heap → Option (Value × Heap)) (e : Exit) (t : T) (h : Heap) : kAtG Try.prog cfg X rc md 175 (replS (bodyOf Try.prog 3) [([1, 1, 1, 1, 1, 1, 1, 1, 1, 1, 1, 1, 1, 0, 1, 0], 1), ([1, 1, 1, 1, 1, 1, 1, 1, 1, 1, 1, 1, 1, 1, 1, 0, 1, 0], 2), ([1, 1, 1, 1, 1, 1, 1, 1, 1, 1, 1, 1, 1, 1, 1, 1], 3), ([1, 1, 1, 1, 1, 1, 1, 1, 1, 1, 1, 1, 1, 1], 4), ([1, 1, 1, 1, 1, 1, 1, 1, 1, 1, 1], 5)]) [1, 1, 1, 1, 1, 1, 1, 1, 1, 1, 0, 1, 0] (retK Try.prog cfg 3 (rsOf Try.prog 3) h0) e t h = Jk3_0H rc md h0 (X 5) e t h := by cases e <;> kernel_rfl
theorem Jk3_0_h2 (rc : Rec) (md : Md) (h0 : Heap) (e : Exit) (t : T) (h : Heap) : Jk3_0H rc md h0 (fun t h => J3_1 rc md h0 (t 4) (t 5) (t 6) (t 7) (t 9) (t 10) h) e t h = Jk3_0 rc md h0 e (t 4) (t 5) (t 6) (t 7) (t 8) (t 9) (t 10) (t 43) (t 44) (t 45) h := by cases e <;> (unfold Jk3_0H Jk3_0; kernel_rfl)
theorem Jk3_0_at (rc : Rec) (md : Md) (h0 : Heap) (e : Exit) (t : T) (h : Heap) : kAt Try.prog cfg rc md 175 (bodyOf Try.prog 3) [1, 1, 1, 1, 1, 1, 1, 1, 1, 1, 0, 1, 0] (retK Try.prog cfg 3 (rsOf Try.prog 3) h0) e t h = Jk3_0 rc md h0 e (t 4) (t 5) (t 6) (t 7) (t 8) (t 9) (t 10) (t 43) (t 44) (t 45) h := by
  rw [kAt_holes [([1, 1, 1, 1, 1, 1, 1, 1, 1, 1, 1, 1, 1, 0, 1, 0], 1), ([1, 1, 1, 1, 1, 1, 1, 1, 1, 1, 1, 1, 1, 1, 1, 0, 1, 0], 2), ([1, 1, 1, 1, 1, 1, 1, 1, 1, 1, 1, 1, 1, 1, 1, 1], 3), ([1, 1, 1, 1, 1, 1, 1, 1, 1, 1, 1, 1, 1, 1], 4), ([1, 1, 1, 1, 1, 1, 1, 1, 1, 1, 1], 5)] [1, 1, 1, 1, 1, 1, 1, 1, 1, 1, 0, 1, 0] (by kernel_rfl), Jk3_0_h1, show (goX Try.prog cfg rc md 175 (bodyOf Try.prog 3) [([1, 1, 1, 1, 1, 1, 1, 1, 1, 1, 1, 1, 1, 0, 1, 0], 1), ([1, 1, 1, 1, 1, 1, 1, 1, 1, 1, 1, 1, 1, 1, 1, 0, 1, 0], 2), ([1, 1, 1, 1, 1, 1, 1, 1, 1, 1, 1, 1, 1, 1, 1, 1], 3), ([1, 1, 1, 1, 1, 1, 1, 1, 1, 1, 1, 1, 1, 1], 4), ([1, 1, 1, 1, 1, 1, 1, 1, 1, 1, 1], 5)] (retK Try.prog cfg 3 (rsOf Try.prog 3) h0)) 5 = _ from J3_1_cut rc md h0]
  exact Jk3_0_h2 rc md h0 e t h
/-- a round -/
noncomputable def Jr3_0 (rc : Rec) (md : Md) (s4 : Value) (s5 : Value) (s6 : Value) (s7 : Value) (s8 : Value) (s9 : Value) (s10 : Value) (s43 : Value) (s44 : Value) (s45 : Value) (h : Heap) : Option (((Value × Value × Value × Value × Value × Value × Value × Value × Value × Value) × Heap) ⊕ (Exit × (Value × Value × Value × Value × Value × Value × Value × Value × Value × Value) × Heap)) :=
  aBin Try.prog .lss 3 s45 s44 fun v1 =>
  cBn v1 fun b2 =>
  bif b2 then
    ixSV 3 s43 s45 fun v3 =>
    ldN 3 v3 h fun v4 =>
    let h5 : Heap := h ++ [.own [(.bool false), (.int .i64 0), (.int .u64 0)]]
    st md 3 (.pointer (some ⟨h.length, 0, none⟩)) v4 h5 fun h6 =>
    ld1 (.pointer (some ⟨h.length, 1, none⟩)) h6 fun v7 =>
    cIn .i64 v7 fun n8 =>
    (bif wantV (.bool (decide (n8 ≥ 0))) true then
    some ((.pointer (some ⟨h.length, 1, none⟩)), h6)
    else some (undef, h6)).bind fun p9 =>
    (bif wantV (.bool (decide (n8 ≥ 0))) true then
    ld1 p9.1 p9.2 fun v10 =>
    cIn .i64 v10 fun n11 =>
    some ((.int .i64 n11), p9.2)
    else some (undef, p9.2)).bind fun p12 =>
    (bif wantV (.bool (decide (n8 ≥ 0))) true then
    some (s8, p12.2)
    else some (undef, p12.2)).bind fun p13 =>
    (bif wantV (.bool (decide (n8 ≥ 0))) true then
    lenS p13.1 fun v14 =>
    cIn .i64 v14 fun n15 =>
    some ((.int .i64 n15), p13.2)
    else some (undef, p13.2)).bind fun p16 =>
    (bif wantV (.bool (decide (n8 ≥ 0))) true then
    aBin Try.prog .lss 3 p12.1 p16.1 fun v17 =>
    some (v17, p16.2)
    else some (undef, p16.2)).bind fun p18 =>
    cBn (bif (decide (n8 ≥ 0)) then p18.1 else (.bool false)) fun b19 =>
    ld1 (.pointer (some ⟨h.length, 0, none⟩)) p18.2 fun v20 =>
    cBn v20 fun b21 =>
    bif b21 then
      ld1 (.pointer (some ⟨h.length, 1, none⟩)) p18.2 fun v22 =>
      cIn .i64 v22 fun n23 =>
      ld1 (.pointer (some ⟨h.length, 2, none⟩)) p18.2 fun v24 =>
      cIn .u64 v24 fun n25 =>
      cl (rc md 8 [s7, (.int .i64 n23), (.int .u64 n25)] p18.2) fun v26 h27 =>
      bif b19 then
        ld1 (.pointer (some ⟨h.length, 1, none⟩)) h27 fun v28 =>
        cIn .i64 v28 fun n29 =>
        ld1 (.pointer (some ⟨h.length, 2, none⟩)) h27 fun v30 =>
        cIn .u64 v30 fun n31 =>
        ixS 1 s8 n29 fun v32 =>
        st md 1 v32 (.int .u64 n31) h27 fun h33 =>
        ld1 (.pointer (some ⟨h.length, 1, none⟩)) h33 fun v34 =>
        cIn .i64 v34 fun n35 =>
        aMapPut Try.prog md 31 s10 (.int .i64 n35) (.bool true) h33 fun h36 =>
        ld1 (.pointer (some ⟨h.length, 1, none⟩)) h36 fun v37 =>
        cIn .i64 v37 fun n38 =>
        ld1 (.pointer (some ⟨h.length, 2, none⟩)) h36 fun v39 =>
        cIn .u64 v39 fun n40 =>
        let h41 : Heap := h36 ++ [.own [(.bool true), (.int .i64 n38), (.int .u64 n40)]]
        aBuiltin Try.prog md .append #[30, 30] [s9, (.slice (some ⟨h36.length, 0, none⟩) 1 3)] h41 fun v42 h43 =>
        aBin Try.prog .add 3 s45 (.int .i64 1) fun v44 =>
        some (.inl ((s4, s5, s6, s7, s8, v42, s10, s43, s44, v44), h43))
      else
        aBin Try.prog .add 3 s45 (.int .i64 1) fun v45 =>
        some (.inl ((s4, s5, s6, s7, s8, s9, s10, s43, s44, v45), h27))
    else
      bif !b19 then
        ld1 (.pointer (some ⟨h.length, 1, none⟩)) p18.2 fun v46 =>
        cIn .i64 v46 fun n47 =>
        cl (rc md 9 [s7, (.int .i64 n47)] p18.2) fun v48 h49 =>
        cIn .u64 v48 fun n50 =>
        bif (n50 != 0) then
          some (.inr (.ret, ((.bool false), s5, s6, s7, s8, s9, s10, s43, s44, s45), h49))
        else
          aBin Try.prog .add 3 s45 (.int .i64 1) fun v51 =>
          some (.inl ((s4, s5, s6, s7, s8, s9, s10, s43, s44, v51), h49))
      else
        ld1 (.pointer (some ⟨h.length, 1, none⟩)) p18.2 fun v52 =>
        cIn .i64 v52 fun n53 =>
        cl (rc md 9 [s7, (.int .i64 n53)] p18.2) fun v54 h55 =>
        cIn .u64 v54 fun n56 =>
        ld1 (.pointer (some ⟨h.length, 1, none⟩)) h55 fun v57 =>
        cIn .i64 v57 fun n58 =>
        cLE true (fun hq => ld1 (.pointer (some ⟨h.length, 1, none⟩)) hq some) (.int .i64 n58) p18.2 h55 <|
        ixS 1 s8 n58 fun v59 =>
        ld1 v59 h55 fun v60 =>
        cIn .u64 v60 fun n61 =>
        cLE true (fun hq => ld1 v59 hq some) (.int .u64 n61) p18.2 h55 <|
        bif (n56 != n61) then
          some (.inr (.ret, ((.bool false), s5, s6, s7, s8, s9, s10, s43, s44, s45), h55))
        else
          ld1 (.pointer (some ⟨h.length, 1, none⟩)) h55 fun v62 =>
          cIn .i64 v62 fun n63 =>
          ld1 (.pointer (some ⟨h.length, 1, none⟩)) h55 fun v64 =>
          cIn .i64 v64 fun n65 =>
          ixS 1 s8 n65 fun v66 =>
          ld1 v66 h55 fun v67 =>
          cIn .u64 v67 fun n68 =>
          let h69 : Heap := h55 ++ [.own [(.bool false), (.int .i64 n63), (.int .u64 n68)]]
          aBuiltin Try.prog md .append #[30, 30] [s9, (.slice (some ⟨h55.length, 0, none⟩) 1 3)] h69 fun v70 h71 =>
          aBin Try.prog .add 3 s45 (.int .i64 1) fun v72 =>
          some (.inl ((s4, s5, s6, s7, s8, v70, s10, s43, s44, v72), h71))
  else
    some (.inr ((.exit 0), (s4, s5, s6, s7, s8, s9, s10, s43, s44, s45), h))
theorem Jr3_0_at (rc : Rec) (md : Md) (t : T) (h : Heap) : exec Try.prog cfg rc md 175 (sub (bodyOf Try.prog 3) [1, 1, 1, 1, 1, 1, 1, 1, 1, 1, 0, 1, 0, 0]) (rndK (fun t => (t 4, t 5, t 6, t 7, t 8, t 9, t 10, t 43, t 44, t 45))) t h = Jr3_0 rc md (t 4) (t 5) (t 6) (t 7) (t 8) (t 9) (t 10) (t 43) (t 44) (t 45) h := by kernel_rfl
noncomputable def J3_0 (rc : Rec) (md : Md) (h0 : Heap) (s4 : Value) (s5 : Value) (s6 : Value) (s7 : Value) (s8 : Value) (s9 : Value) (s10 : Value) (s43 : Value) (s44 : Value) (s45 : Value) (h : Heap) : Option (Value × Heap) :=
  runL (fun x : (Value × Value × Value × Value × Value × Value × Value × Value × Value × Value) × Heap => Jr3_0 rc md x.1.1 x.1.2.1 x.1.2.2.1 x.1.2.2.2.1 x.1.2.2.2.2.1 x.1.2.2.2.2.2.1 x.1.2.2.2.2.2.2.1 x.1.2.2.2.2.2.2.2.1 x.1.2.2.2.2.2.2.2.2.1 x.1.2.2.2.2.2.2.2.2.2 x.2) (fun e (s : Value × Value × Value × Value × Value × Value × Value × Value × Value × Value) h => Jk3_0 rc md h0 e s.1 s.2.1 s.2.2.1 s.2.2.2.1 s.2.2.2.2.1 s.2.2.2.2.2.1 s.2.2.2.2.2.2.1 s.2.2.2.2.2.2.2.1 s.2.2.2.2.2.2.2.2.1 s.2.2.2.2.2.2.2.2.2 h) (s4, s5, s6, s7, s8, s9, s10, s43, s44, s45) h
theorem J3_0_step (rc : Rec) (md : Md) (h0 : Heap) (s4 : Value) (s5 : Value) (s6 : Value) (s7 : Value) (s8 : Value) (s9 : Value) (s10 : Value) (s43 : Value) (s44 : Value) (s45 : Value) (h : Heap) : J3_0 rc md h0 s4 s5 s6 s7 s8 s9 s10 s43 s44 s45 h = (Jr3_0 rc md s4 s5 s6 s7 s8 s9 s10 s43 s44 s45 h).bind fun x => match x with
    | .inl (s, h) => J3_0 rc md h0 s.1 s.2.1 s.2.2.1 s.2.2.2.1 s.2.2.2.2.1 s.2.2.2.2.2.1 s.2.2.2.2.2.2.1 s.2.2.2.2.2.2.2.1 s.2.2.2.2.2.2.2.2.1 s.2.2.2.2.2.2.2.2.2 h
    | .inr (e, s, h) => Jk3_0 rc md h0 e s.1 s.2.1 s.2.2.1 s.2.2.2.1 s.2.2.2.2.1 s.2.2.2.2.2.1 s.2.2.2.2.2.2.1 s.2.2.2.2.2.2.2.1 s.2.2.2.2.2.2.2.2.1 s.2.2.2.2.2.2.2.2.2 h := by
  unfold J3_0
  rw [runL_eq]
  refine congrArg (Option.bind _) (funext fun x => ?_)
  rcases x with ⟨s, h⟩ | ⟨e, s, h⟩ <;> rfl
theorem J3_0_cut (rc : Rec) (md : Md) (h0 : Heap) : cut Try.prog cfg rc md 175 (bodyOf Try.prog 3) [1, 1, 1, 1, 1, 1, 1, 1, 1, 1, 0, 1, 0] (retK Try.prog cfg 3 (rsOf Try.prog 3) h0) = fun t h => J3_0 rc md h0 (t 4) (t 5) (t 6) (t 7) (t 8) (t 9) (t 10) (t 43) (t 44) (t 45) h := by
  funext t h
  have e : sub (bodyOf Try.prog 3) [1, 1, 1, 1, 1, 1, 1, 1, 1, 1, 0, 1, 0] = .loop (sub (bodyOf Try.prog 3) [1, 1, 1, 1, 1, 1, 1, 1, 1, 1, 0, 1, 0, 0]) := by kernel_rfl
  unfold cut
  rw [e]
  exact loop_eq (by kernel_rfl) (fun t => (t 4, t 5, t 6, t 7, t 8, t 9, t 10, t 43, t 44, t 45)) (fun x : (Value × Value × Value × Value × Value × Value × Value × Value × Value × Value) × Heap => Jr3_0 rc md x.1.1 x.1.2.1 x.1.2.2.1 x.1.2.2.2.1 x.1.2.2.2.2.1 x.1.2.2.2.2.2.1 x.1.2.2.2.2.2.2.1 x.1.2.2.2.2.2.2.2.1 x.1.2.2.2.2.2.2.2.2.1 x.1.2.2.2.2.2.2.2.2.2 x.2) (fun t h => Jr3_0_at rc md t h) (fun e (s : Value × Value × Value × Value × Value × Value × Value × Value × Value × Value) h => Jk3_0 rc md h0 e s.1 s.2.1 s.2.2.1 s.2.2.2.1 s.2.2.2.2.1 s.2.2.2.2.2.1 s.2.2.2.2.2.2.1 s.2.2.2.2.2.2.2.1 s.2.2.2.2.2.2.2.2.1 s.2.2.2.2.2.2.2.2.2 h) (fun e t h => Jk3_0_at rc md h0 e t h) t h
noncomputable def F3 (rc : Rec) (md : Md) (a0 : Value) (a1 : Value) (h0 : Heap) : Option (Value × Heap) :=
  lenS a0 fun v1 =>
  cIn .i64 v1 fun n2 =>
  (bif wantV (.bool (decide (n2 > 60))) false then
  some (a1, h0)
  else some (undef, h0)).bind fun p3 =>
  (bif wantV (.bool (decide (n2 > 60))) false then
  lenS p3.1 fun v4 =>
  cIn .i64 v4 fun n5 =>
  some ((.int .i64 n5), p3.2)
  else some (undef, p3.2)).bind fun p6 =>
  (bif wantV (.bool (decide (n2 > 60))) false then
  aBin Try.prog .gtr 3 p6.1 (.int .i64 80) fun v7 =>
  some (v7, p6.2)
  else some (undef, p6.2)).bind fun p8 =>
  cBn (bif (decide (n2 > 60)) then (.bool true) else p8.1) fun b9 =>
  bif b9 then
    cl (rc md 4 [] p8.2) fun v10 h11 =>
    cBn v10 fun b12 =>
    some ((.bool b12), List.take h0.length h11)
  else
    cl (rc md 5 [a0] p8.2) fun v13 h14 =>
    aBin Try.prog .eql 25 v13 (.pointer none) fun v15 =>
    cBn v15 fun b16 =>
    bif b16 then
      some ((.bool false), List.take h0.length h14)
    else
      cl (rc md 6 [v13] h14) fun v17 h18 =>
      cl (rc md 7 [v13] h18) fun v19 h20 =>
      aBin Try.prog .eql 28 v19 (.pointer none) fun v21 =>
      cBn v21 fun b22 =>
      bif b22 then
        some ((.bool false), List.take h0.length h20)
      else
        let h23 : Heap := h20 ++ [.own []]
        aBuiltin Try.prog md .append #[22, 22] [(.slice (some ⟨h20.length, 0, none⟩) 0 1), a0] h23 fun v24 h25 =>
        aMakeMap Try.prog 31 h25 fun v26 h27 =>
        lenS a1 fun v28 =>
        cIn .i64 v28 fun n29 =>
        J3_0 rc md h0 (.bool false) v13 v17 v19 v24 (.slice none 0 0) v26 a1 (.int .i64 n29) (.int .i64 0) h27
noncomputable def F3H (rc : Rec) (md : Md) (X0 : T → Heap → Option (Value × Heap)) (a0 : Value) (a1 : Value) (h0 : Heap) : Option (Value × Heap) :=
  lenS a0 fun v1 =>
  cIn .i64 v1 fun n2 =>
  (bif wantV (.bool (decide (n2 > 60))) false then
  some (a1, h0)
  else some (undef, h0)).bind fun p3 =>
  (bif wantV (.bool (decide (n2 > 60))) false then
  lenS p3.1 fun v4 =>
  cIn .i64 v4 fun n5 =>
  some ((.int .i64 n5), p3.2)
  else some (undef, p3.2)).bind fun p6 =>
  (bif wantV (.bool (decide (n2 > 60))) false then
  aBin Try.prog .gtr 3 p6.1 (.int .i64 80) fun v7 =>
  some (v7, p6.2)
  else some (undef, p6.2)).bind fun p8 =>
  cBn (bif (decide (n2 > 60)) then (.bool true) else p8.1) fun b9 =>
  bif b9 then
    cl (rc md 4 [] p8.2) fun v10 h11 =>
    cBn v10 fun b12 =>
    some ((.bool b12), List.take h0.length h11)
  else
    cl (rc md 5 [a0] p8.2) fun v13 h14 =>
    aBin Try.prog .eql 25 v13 (.pointer none) fun v15 =>
    cBn v15 fun b16 =>
    bif b16 then
      some ((.bool false), List.take h0.length h14)
    else
      cl (rc md 6 [v13] h14) fun v17 h18 =>
      cl (rc md 7 [v13] h18) fun v19 h20 =>
      aBin Try.prog .eql 28 v19 (.pointer none) fun v21 =>
      cBn v21 fun b22 =>
      bif b22 then
        some ((.bool false), List.take h0.length h20)
      else
        let h23 : Heap := h20 ++ [.own []]
        aBuiltin Try.prog md .append #[22, 22] [(.slice (some ⟨h20.length, 0, none⟩) 0 1), a0] h23 fun v24 h25 =>
        aMakeMap Try.prog 31 h25 fun v26 h27 =>
        lenS a1 fun v28 =>
        cIn .i64 v28 fun n29 =>
        X0 (upd (upd (upd (upd (upd (upd (upd (upd (upd (upd (upd (upd (upd (upd (upd (upd (upd (upd (upd (upd (upd (upd (upd (upd (upd (upd (upd (upd (upd (upd (upd (upd (args0 [a0, a1]) 4 (.bool false)) 20 a0) 21 (.int .i64 n2)) 22 (.bool (decide (n2 > 60)))) 23 (.bool (decide (n2 > 60)))) 24 p3.1) 25 p6.1) 26 p8.1) 27 (.bool b9)) 29 a0) 30 v13) 5 v13) 31 v13) 32 v15) 33 v13) 34 v17) 6 v17) 35 v13) 36 v19) 7 v19) 37 v19) 38 v21) 39 (.slice (some ⟨h20.length, 0, none⟩) 0 1)) 40 a0) 41 v24) 8 v24) 9 (.slice none 0 0)) 42 v26) 10 v26) 43 a1) 44 (.int .i64 n29)) 45 (.int .i64 0)) h27
theorem F3_h0 (rc : Rec) (md : Md) (a0 : Value) (a1 : Value) (h0 : Heap) : callStep0 Try.prog cfg rc md 3 [a0, a1] h0 = exec Try.prog cfg rc ⟨md.ro, h0.length⟩ 175 (bodyOf Try.prog 3) (retK Try.prog cfg 3 (rsOf Try.prog 3) h0) (args0 [a0, a1]) h0 := callStep0_run (by kernel_rfl) (by kernel_rfl) (by kernel_rfl)
theorem F3_h1 (rc : Rec) (md : Md) (X : Nat → T → Heap → Option (Value × Heap)) (a0 : Value) (a1 : Value) (h0 : Heap) : execG Try.prog cfg X rc md 175 (replS (bodyOf Try.prog 3) [([1, 1, 1, 1, 1, 1, 1, 1, 1, 1, 0, 1, 0], 0), ([1, 1, 1, 1, 1, 1, 1, 1, 1, 1, 1, 1, 1, 0, 1, 0], 1), ([1, 1, 1, 1, 1, 1, 1, 1, 1, 1, 1, 1, 1, 1, 1, 0, 1, 0], 2), ([1, 1, 1, 1, 1, 1, 1, 1, 1, 1, 1, 1, 1, 1, 1, 1], 3), ([1, 1, 1, 1, 1, 1, 1, 1, 1, 1, 1, 1, 1, 1], 4), ([1, 1, 1, 1, 1, 1, 1, 1, 1, 1, 1], 5)]) (retK Try.prog cfg 3 (rsOf Try.prog 3) h0) (args0 [a0, a1]) h0 = F3H rc md (X 0) a0 a1 h0 := by kernel_rfl
theorem F3_h2 (rc : Rec) (md : Md) (a0 : Value) (a1 : Value) (h0 : Heap) : F3H rc md (fun t h => J3_0 rc md h0 (t 4) (t 5) (t 6) (t 7) (t 8) (t 9) (t 10) (t 43) (t 44) (t 45) h) a0 a1 h0 = F3 rc md a0 a1 h0 := by unfold F3H F3; kernel_rfl
theorem F3_eq0 (rc : Rec) (md : Md) (a0 : Value) (a1 : Value) (h0 : Heap) : callStep0 Try.prog cfg rc md 3 [a0, a1] h0 = F3 rc ⟨md.ro, h0.length⟩ a0 a1 h0 := by
  rw [F3_h0, exec_holes [([1, 1, 1, 1, 1, 1, 1, 1, 1, 1, 0, 1, 0], 0), ([1, 1, 1, 1, 1, 1, 1, 1, 1, 1, 1, 1, 1, 0, 1, 0], 1), ([1, 1, 1, 1, 1, 1, 1, 1, 1, 1, 1, 1, 1, 1, 1, 0, 1, 0], 2), ([1, 1, 1, 1, 1, 1, 1, 1, 1, 1, 1, 1, 1, 1, 1, 1], 3), ([1, 1, 1, 1, 1, 1, 1, 1, 1, 1, 1, 1, 1, 1], 4), ([1, 1, 1, 1, 1, 1, 1, 1, 1, 1, 1], 5)] (by kernel_rfl), F3_h1, show (goX Try.prog cfg rc ⟨md.ro, h0.length⟩ 175 (bodyOf Try.prog 3) [([1, 1, 1, 1, 1, 1, 1, 1, 1, 1, 0, 1, 0], 0), ([1, 1, 1, 1, 1, 1, 1, 1, 1, 1, 1, 1, 1, 0, 1, 0], 1), ([1, 1, 1, 1, 1, 1, 1, 1, 1, 1, 1, 1, 1, 1, 1, 0, 1, 0], 2), ([1, 1, 1, 1, 1, 1, 1, 1, 1, 1, 1, 1, 1, 1, 1, 1], 3), ([1, 1, 1, 1, 1, 1, 1, 1, 1, 1, 1, 1, 1, 1], 4), ([1, 1, 1, 1, 1, 1, 1, 1, 1, 1, 1], 5)] (retK Try.prog cfg 3 (rsOf Try.prog 3) h0)) 0 = _ from J3_0_cut rc ⟨md.ro, h0.length⟩ h0]
  exact F3_h2 rc _ a0 a1 h0
theorem F3_eq (rc : Rec) (md : Md) (a0 : Value) (a1 : Value) (h0 : Heap) : callStep Try.prog cfg rc md 3 [a0, a1] h0 = F3 rc ⟨md.ro, h0.length⟩ a0 a1 h0 := (callStep_ne (by kernel_rfl)).trans (F3_eq0 rc md a0 a1 h0)

/-- tombolo/tombololaw06.begun -/
noncomputable def Jk5_0 (rc : Rec) (md : Md) (h0 : Heap) (e : Exit) (s2 : Value) (s3 : Value) (s19 : Value) (s20 : Value) (s21 : Value) (h : Heap) : Option (Value × Heap) :=
  match e with
  | .normal =>
    some (s3, h)
  | .exit j =>
    bif Nat.beq j 0 then
      some (s3, h)
    else
      none
  | .ret =>
    some (s2, h)
  | .goto l => none
  | .panic ps => none
  | .outgrown => none
theorem Jk5_0_at (rc : Rec) (md : Md) (h0 : Heap) (e : Exit) (t : T) (h : Heap) : kAt Try.prog cfg rc md 33 (bodyOf Try.prog 5) [1, 1, 1, 0, 1, 0] (retK Try.prog cfg 5 (rsOf Try.prog 5) h0) e t h = Jk5_0 rc md h0 e (t 2) (t 3) (t 19) (t 20) (t 21) h := by cases e <;> kernel_rfl
/-- a round -/
noncomputable def Jr5_0 (rc : Rec) (md : Md) (s2 : Value) (s3 : Value) (s19 : Value) (s20 : Value) (s21 : Value) (h : Heap) : Option (((Value × Value × Value × Value × Value) × Heap) ⊕ (Exit × (Value × Value × Value × Value × Value) × Heap)) :=
  aBin Try.prog .lss 3 s21 s20 fun v1 =>
  cBn v1 fun b2 =>
  bif b2 then
    ixSV 1 s19 s21 fun v3 =>
    ld1 v3 h fun v4 =>
    cIn .u64 v4 fun n5 =>
    cl (rc md 18 [s3, s21, (.int .u64 n5)] h) fun v6 h7 =>
    cIn .i64 v6 fun n8 =>
    bif (n8 != 0) then
      some (.inr (.ret, ((.pointer none), s3, s19, s20, s21), h7))
    else
      aBin Try.prog .add 3 s21 (.int .i64 1) fun v9 =>
      some (.inl ((s2, s3, s19, s20, v9), h7))
  else
    some (.inr ((.exit 0), (s2, s3, s19, s20, s21), h))
theorem Jr5_0_at (rc : Rec) (md : Md) (t : T) (h : Heap) : exec Try.prog cfg rc md 33 (sub (bodyOf Try.prog 5) [1, 1, 1, 0, 1, 0, 0]) (rndK (fun t => (t 2, t 3, t 19, t 20, t 21))) t h = Jr5_0 rc md (t 2) (t 3) (t 19) (t 20) (t 21) h := by kernel_rfl
noncomputable def J5_0 (rc : Rec) (md : Md) (h0 : Heap) (s2 : Value) (s3 : Value) (s19 : Value) (s20 : Value) (s21 : Value) (h : Heap) : Option (Value × Heap) :=
  runL (fun x : (Value × Value × Value × Value × Value) × Heap => Jr5_0 rc md x.1.1 x.1.2.1 x.1.2.2.1 x.1.2.2.2.1 x.1.2.2.2.2 x.2) (fun e (s : Value × Value × Value × Value × Value) h => Jk5_0 rc md h0 e s.1 s.2.1 s.2.2.1 s.2.2.2.1 s.2.2.2.2 h) (s2, s3, s19, s20, s21) h
theorem J5_0_step (rc : Rec) (md : Md) (h0 : Heap) (s2 : Value) (s3 : Value) (s19 : Value) (s20 : Value) (s21 : Value) (h : Heap) : J5_0 rc md h0 s2 s3 s19 s20 s21 h = (Jr5_0 rc md s2 s3 s19 s20 s21 h).bind fun x => match x with
    | .inl (s, h) => J5_0 rc md h0 s.1 s.2.1 s.2.2.1 s.2.2.2.1 s.2.2.2.2 h
    | .inr (e, s, h) => Jk5_0 rc md h0 e s.1 s.2.1 s.2.2.1 s.2.2.2.1 s.2.2.2.2 h := by
  unfold J5_0
  rw [runL_eq]
  refine congrArg (Option.bind _) (funext fun x => ?_)
  rcases x with ⟨s, h⟩ | ⟨e, s, h⟩ <;> rfl
theorem J5_0_cut (rc : Rec) (md : Md) (h0 : Heap) : cut Try.prog cfg rc md 33 (bodyOf Try.prog 5) [1, 1, 1, 0, 1, 0] (retK Try.prog cfg 5 (rsOf Try.prog 5) h0) = fun t h => J5_0 rc md h0 (t 2) (t 3) (t 19) (t 20) (t 21) h := by
  funext t h
  have e : sub (bodyOf Try.prog 5) [1, 1, 1, 0, 1, 0] = .loop (sub (bodyOf Try.prog 5) [1, 1, 1, 0, 1, 0, 0]) := by kernel_rfl
  unfold cut
  rw [e]
  exact loop_eq (by kernel_rfl) (fun t => (t 2, t 3, t 19, t 20, t 21)) (fun x : (Value × Value × Value × Value × Value) × Heap => Jr5_0 rc md x.1.1 x.1.2.1 x.1.2.2.1 x.1.2.2.2.1 x.1.2.2.2.2 x.2) (fun t h => Jr5_0_at rc md t h) (fun e (s : Value × Value × Value × Value × Value) h => Jk5_0 rc md h0 e s.1 s.2.1 s.2.2.1 s.2.2.2.1 s.2.2.2.2 h) (fun e t h => Jk5_0_at rc md h0 e t h) t h
noncomputable def F5 (rc : Rec) (md : Md) (a0 : Value) (h0 : Heap) : Option (Value × Heap) :=
  lenS a0 fun v1 =>
  cIn .i64 v1 fun n2 =>
  cl (rc md 13 [(.int .i64 n2)] h0) fun v3 h4 =>
  exT v3 0 fun v5 =>
  exT v3 1 fun v6 =>
  cIn .i64 v6 fun n7 =>
  (bif wantV (.bool (n7 != 0)) false then
  some (v5, h4)
  else some (undef, h4)).bind fun p8 =>
  (bif wantV (.bool (n7 != 0)) false then
  aBin Try.prog .eql 25 p8.1 (.pointer none) fun v9 =>
  some (v9, p8.2)
  else some (undef, p8.2)).bind fun p10 =>
  cBn (bif (n7 != 0) then (.bool true) else p10.1) fun b11 =>
  bif b11 then
    some ((.pointer none), p10.2)
  else
    lenS a0 fun v12 =>
    cIn .i64 v12 fun n13 =>
    J5_0 rc md h0 (.pointer none) v5 a0 (.int .i64 n13) (.int .i64 0) p10.2
noncomputable def F5H (rc : Rec) (md : Md) (X0 : T → Heap → Option (Value × Heap)) (a0 : Value) (h0 : Heap) : Option (Value × Heap) :=
  lenS a0 fun v1 =>
  cIn .i64 v1 fun n2 =>
  cl (rc md 13 [(.int .i64 n2)] h0) fun v3 h4 =>
  exT v3 0 fun v5 =>
  exT v3 1 fun v6 =>
  cIn .i64 v6 fun n7 =>
  (bif wantV (.bool (n7 != 0)) false then
  some (v5, h4)
  else some (undef, h4)).bind fun p8 =>
  (bif wantV (.bool (n7 != 0)) false then
  aBin Try.prog .eql 25 p8.1 (.pointer none) fun v9 =>
  some (v9, p8.2)
  else some (undef, p8.2)).bind fun p10 =>
  cBn (bif (n7 != 0) then (.bool true) else p10.1) fun b11 =>
  bif b11 then
    some ((.pointer none), p10.2)
  else
    lenS a0 fun v12 =>
    cIn .i64 v12 fun n13 =>
    X0 (upd (upd (upd (upd (upd (upd (upd (upd (upd (upd (upd (upd (upd (upd (upd (upd (upd (upd (args0 [a0]) 2 (.pointer none)) 8 a0) 9 (.int .i64 n2)) 10 v3) 7 v3) 11 v5) 12 (.int .i64 n7)) 3 v5) 4 (.int .i64 n7)) 13 (.int .i64 n7)) 14 (.bool (n7 != 0))) 15 (.bool (n7 != 0))) 16 p8.1) 17 p10.1) 18 (.bool b11)) 19 a0) 20 (.int .i64 n13)) 21 (.int .i64 0)) p10.2
theorem F5_h0 (rc : Rec) (md : Md) (a0 : Value) (h0 : Heap) : callStep0 Try.prog cfg rc md 5 [a0] h0 = exec Try.prog cfg rc md 33 (bodyOf Try.prog 5) (retK Try.prog cfg 5 (rsOf Try.prog 5) h0) (args0 [a0]) h0 := callStep0_run (by kernel_rfl) (by kernel_rfl) (by kernel_rfl)
theorem F5_h1 (rc : Rec) (md : Md) (X : Nat → T → Heap → Option (Value × Heap)) (a0 : Value) (h0 : Heap) : execG Try.prog cfg X rc md 33 (replS (bodyOf Try.prog 5) [([1, 1, 1, 0, 1, 0], 0)]) (retK Try.prog cfg 5 (rsOf Try.prog 5) h0) (args0 [a0]) h0 = F5H rc md (X 0) a0 h0 := by kernel_rfl
theorem F5_h2 (rc : Rec) (md : Md) (a0 : Value) (h0 : Heap) : F5H rc md (fun t h => J5_0 rc md h0 (t 2) (t 3) (t 19) (t 20) (t 21) h) a0 h0 = F5 rc md a0 h0 := by unfold F5H F5; kernel_rfl
theorem F5_eq0 (rc : Rec) (md : Md) (a0 : Value) (h0 : Heap) : callStep0 Try.prog cfg rc md 5 [a0] h0 = F5 rc md a0 h0 := by
  rw [F5_h0, exec_holes [([1, 1, 1, 0, 1, 0], 0)] (by kernel_rfl), F5_h1, show (goX Try.prog cfg rc md 33 (bodyOf Try.prog 5) [([1, 1, 1, 0, 1, 0], 0)] (retK Try.prog cfg 5 (rsOf Try.prog 5) h0)) 0 = _ from J5_0_cut rc md h0]
  exact F5_h2 rc _ a0 h0
theorem F5_eq (rc : Rec) (md : Md) (a0 : Value) (h0 : Heap) : callStep Try.prog cfg rc md 5 [a0] h0 = F5 rc md a0 h0 := (callStep_ne (by kernel_rfl)).trans (F5_eq0 rc md a0 h0)

end Go.Det.E
