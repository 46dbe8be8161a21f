/- Printed functions. -/
import Derived.Test.YtodeenahpoobkaaE7
import Derived.Test.YtodeenahpoobkaaDetT
import Derived.Test.YtodeenahpoobkaaDetX
import Derived.Test.YtodeenahpoobkaaProg
set_option autoImplicit false
set_option linter.unusedVariables false
set_option linter.unusedSimpArgs false
namespace Go.Det.E
open Go.Proofs Go.Det

/-- tombolo/tombololaw10.TourJoins -/
noncomputable def Jk9_2 (rc : Rec) (md : Md) (h0 : Heap) (e : Exit) (s1 : Value) (s2 : Value) (s3 : Value) (s35 : Value) (s36 : Value) (s37 : Value) (h : Heap) : Option (Value × Heap) :=
  match e with
  | .normal =>
    cl (rc md 32 [] h) fun v1 h2 =>
    cBn v1 fun b3 =>
    some ((.bool b3), List.take h0.length h2)
  | .exit j =>
    bif Nat.beq j 2 then
      cl (rc md 32 [] h) fun v4 h5 =>
      cBn v4 fun b6 =>
      some ((.bool b6), List.take h0.length h5)
    else
      none
  | .ret =>
    fin1 h0 s2 h
  | .goto l => none
  | .panic ps => none
  | .outgrown => none
theorem Jk9_2_at (rc : Rec) (md : Md) (h0 : Heap) (e : Exit) (t : T) (h : Heap) : kAt Try.prog cfg rc md 84 (bodyOf Try.prog 9) [1, 1, 1, 1, 1, 0, 1, 0] (retK Try.prog cfg 9 (rsOf Try.prog 9) h0) e t h = Jk9_2 rc md h0 e (t 1) (t 2) (t 3) (t 35) (t 36) (t 37) h := by cases e <;> kernel_rfl
noncomputable def Jk9_2b0 (rc : Rec) (md : Md) (e : Exit) (s1 : Value) (s2 : Value) (s3 : Value) (s6 : Value) (s7 : Value) (s35 : Value) (s36 : Value) (s37 : Value) (s44 : Value) (s45 : Value) (h : Heap) : Option (((Value × Value × Value × Value × Value × Value) × Heap) ⊕ (Exit × (Value × Value × Value × Value × Value × Value) × Heap)) :=
  match e with
  | .normal =>
    aBin Try.prog .add 3 s37 (.int .i64 1) fun v1 =>
    some (.inl ((s1, s2, s3, s35, s36, v1), h))
  | .exit j =>
    bif Nat.beq j 4 then
      aBin Try.prog .add 3 s37 (.int .i64 1) fun v2 =>
      some (.inl ((s1, s2, s3, s35, s36, v2), h))
    else
      bif Nat.beq j 3 then
        aBin Try.prog .add 3 s37 (.int .i64 1) fun v3 =>
        some (.inl ((s1, s2, s3, s35, s36, v3), h))
      else
        some (.inr ((.exit j), (s1, s2, s3, s35, s36, s37), h))
  | .ret =>
    some (.inr (.ret, (s1, s2, s3, s35, s36, s37), h))
  | .goto l => some (.inr ((.goto l), (s1, s2, s3, s35, s36, s37), h))
  | .panic ps => some (.inr ((.panic ps), (s1, s2, s3, s35, s36, s37), h))
  | .outgrown => some (.inr (.outgrown, (s1, s2, s3, s35, s36, s37), h))
theorem Jk9_2b0_at (rc : Rec) (md : Md) (e : Exit) (t : T) (h : Heap) : kAt Try.prog cfg rc md 84 (sub (bodyOf Try.prog 9) [1, 1, 1, 1, 1, 0, 1, 0, 0]) [1, 1, 0, 0, 1, 1, 0] (rndK (fun t => (t 1, t 2, t 3, t 35, t 36, t 37))) e t h = Jk9_2b0 rc md e (t 1) (t 2) (t 3) (t 6) (t 7) (t 35) (t 36) (t 37) (t 44) (t 45) h := by cases e <;> kernel_rfl
noncomputable def J9_2b0b1 (rc : Rec) (md : Md) (s1 : Value) (s2 : Value) (s3 : Value) (s6 : Value) (s7 : Value) (s8 : Value) (s9 : Value) (s35 : Value) (s36 : Value) (s37 : Value) (s44 : Value) (s45 : Value) (h : Heap) : Option (((Value × Value × Value × Value × Value × Value × Value × Value × Value × Value) × Heap) ⊕ (Exit × (Value × Value × Value × Value × Value × Value × Value × Value × Value × Value) × Heap)) :=
  bif okNil Try.prog s3 then
  fA 3 s3 fun v1 =>
  ldN 6 v1 h fun v2 =>
  cl (rc md 39 [v2, s6, s8] h) fun v3 h4 =>
  cIn .i64 v3 fun n5 =>
  aBin Try.prog .neq 3 (.int .i64 n5) s9 fun v6 =>
  cBn v6 fun b7 =>
  bif b7 then
    some (.inr (.ret, (s1, (.bool false), s3, s6, s7, s35, s36, s37, s44, s45), h4))
  else
    aBin Try.prog .add 3 s45 (.int .i64 1) fun v8 =>
    some (.inl ((s1, s2, s3, s6, s7, s35, s36, s37, s44, v8), h4))
  else none
theorem J9_2b0b1_at (rc : Rec) (md : Md) (t : T) (h : Heap) : cut Try.prog cfg rc md 84 (sub (bodyOf Try.prog 9) [1, 1, 1, 1, 1, 0, 1, 0, 0, 1, 1, 0, 0, 1, 1, 0, 0]) [1, 1, 0, 0, 1, 1, 1] (rndK (fun t => (t 1, t 2, t 3, t 6, t 7, t 35, t 36, t 37, t 44, t 45))) t h = J9_2b0b1 rc md (t 1) (t 2) (t 3) (t 6) (t 7) (t 8) (t 9) (t 35) (t 36) (t 37) (t 44) (t 45) h := by kernel_rfl
theorem J9_2b0b1_cut (rc : Rec) (md : Md) : cut Try.prog cfg rc md 84 (sub (bodyOf Try.prog 9) [1, 1, 1, 1, 1, 0, 1, 0, 0, 1, 1, 0, 0, 1, 1, 0, 0]) [1, 1, 0, 0, 1, 1, 1] (rndK (fun t => (t 1, t 2, t 3, t 6, t 7, t 35, t 36, t 37, t 44, t 45))) = fun t h => J9_2b0b1 rc md (t 1) (t 2) (t 3) (t 6) (t 7) (t 8) (t 9) (t 35) (t 36) (t 37) (t 44) (t 45) h := funext fun t => funext fun h => J9_2b0b1_at rc md t h
noncomputable def Jk9_2b0b0 (rc : Rec) (md : Md) (e : Exit) (s1 : Value) (s2 : Value) (s3 : Value) (s6 : Value) (s7 : Value) (s8 : Value) (s9 : Value) (s35 : Value) (s36 : Value) (s37 : Value) (s44 : Value) (s45 : Value) (s50 : Value) (s51 : Value) (h : Heap) : Option (((Value × Value × Value × Value × Value × Value × Value × Value × Value × Value) × Heap) ⊕ (Exit × (Value × Value × Value × Value × Value × Value × Value × Value × Value × Value) × Heap)) :=
  match e with
  | .normal =>
    J9_2b0b1 rc md s1 s2 s3 s6 s7 s8 s9 s35 s36 s37 s44 s45 h
  | .exit j =>
    bif Nat.beq j 6 then
      J9_2b0b1 rc md s1 s2 s3 s6 s7 s8 s9 s35 s36 s37 s44 s45 h
    else
      bif Nat.beq j 5 then
        aBin Try.prog .add 3 s45 (.int .i64 1) fun v1 =>
        some (.inl ((s1, s2, s3, s6, s7, s35, s36, s37, s44, v1), h))
      else
        some (.inr ((.exit j), (s1, s2, s3, s6, s7, s35, s36, s37, s44, s45), h))
  | .ret =>
    some (.inr (.ret, (s1, s2, s3, s6, s7, s35, s36, s37, s44, s45), h))
  | .goto l => some (.inr ((.goto l), (s1, s2, s3, s6, s7, s35, s36, s37, s44, s45), h))
  | .panic ps => some (.inr ((.panic ps), (s1, s2, s3, s6, s7, s35, s36, s37, s44, s45), h))
  | .outgrown => some (.inr (.outgrown, (s1, s2, s3, s6, s7, s35, s36, s37, s44, s45), h))
noncomputable def Jk9_2b0b0H (rc : Rec) (md : Md) (X1 : T → Heap → Option (((Value × Value × Value × Value × Value × Value × Value × Value × Value × Value) × Heap) ⊕ (Exit × (Value × Value × Value × Value × Value × Value × Value × Value × Value × Value) × Heap))) (e : Exit) (t : T) (h : Heap) : Option (((Value × Value × Value × Value × Value × Value × Value × Value × Value × Value) × Heap) ⊕ (Exit × (Value × Value × Value × Value × Value × Value × Value × Value × Value × Value) × Heap)) :=
  match e with
  | .normal =>
    X1 t h
  | .exit j =>
    bif Nat.beq j 6 then
      X1 t h
    else
      bif Nat.beq j 5 then
        aBin Try.prog .add 3 (t 45) (.int .i64 1) fun v1 =>
        some (.inl (((t 1), (t 2), (t 3), (t 6), (t 7), (t 35), (t 36), (t 37), (t 44), v1), h))
      else
        some (.inr ((.exit j), ((t 1), (t 2), (t 3), (t 6), (t 7), (t 35), (t 36), (t 37), (t 44), (t 45)), h))
  | .ret =>
    some (.inr (.ret, ((t 1), (t 2), (t 3), (t 6), (t 7), (t 35), (t 36), (t 37), (t 44), (t 45)), h))
  | .goto l => some (.inr ((.goto l), ((t 1), (t 2), (t 3), (t 6), (t 7), (t 35), (t 36), (t 37), (t 44), (t 45)), h))
  | .panic ps => some (.inr ((.panic ps), ((t 1), (t 2), (t 3), (t 6), (t 7), (t 35), (t 36), (t 37), (t 44), (t 45)), h))
  | .outgrown => some (.inr (.outgrown, ((t 1), (t 2), (t 3), (t 6), (t 7), (t 35), (t 36), (t 37), (t 44), (t 45)), h))
theorem Jk9_2b0b0_h1 (rc : Rec) (md : Md) (X : Nat → T → Heap → Option (((Value × Value × Value × Value × Value × Value × Value × Value × Value × Value) × Heap) ⊕ (Exit × (Value × Value × Value × Value × Value × Value × Value × Value × Value × Value) × Heap))) (e : Exit) (t : T) (h : Heap) : kAtG Try.prog cfg X rc md 84 (replS (sub (bodyOf Try.prog 9) [1, 1, 1, 1, 1, 0, 1, 0, 0, 1, 1, 0, 0, 1, 1, 0, 0]) [([1, 1, 0, 0, 1, 1, 1], 1)]) [1, 1, 0, 0, 1, 1, 0, 1, 0] (rndK (fun t => (t 1, t 2, t 3, t 6, t 7, t 35, t 36, t 37, t 44, t 45))) e t h = Jk9_2b0b0H rc md (X 1) e t h := by cases e <;> kernel_rfl
theorem Jk9_2b0b0_h2 (rc : Rec) (md : Md) (e : Exit) (t : T) (h : Heap) : Jk9_2b0b0H rc md (fun t h => J9_2b0b1 rc md (t 1) (t 2) (t 3) (t 6) (t 7) (t 8) (t 9) (t 35) (t 36) (t 37) (t 44) (t 45) h) e t h = Jk9_2b0b0 rc md e (t 1) (t 2) (t 3) (t 6) (t 7) (t 8) (t 9) (t 35) (t 36) (t 37) (t 44) (t 45) (t 50) (t 51) h := by cases e <;> (unfold Jk9_2b0b0H Jk9_2b0b0; kernel_rfl)
theorem Jk9_2b0b0_at (rc : Rec) (md : Md) (e : Exit) (t : T) (h : Heap) : kAt Try.prog cfg rc md 84 (sub (bodyOf Try.prog 9) [1, 1, 1, 1, 1, 0, 1, 0, 0, 1, 1, 0, 0, 1, 1, 0, 0]) [1, 1, 0, 0, 1, 1, 0, 1, 0] (rndK (fun t => (t 1, t 2, t 3, t 6, t 7, t 35, t 36, t 37, t 44, t 45))) e t h = Jk9_2b0b0 rc md e (t 1) (t 2) (t 3) (t 6) (t 7) (t 8) (t 9) (t 35) (t 36) (t 37) (t 44) (t 45) (t 50) (t 51) h := by
  rw [kAt_holes [([1, 1, 0, 0, 1, 1, 1], 1)] [1, 1, 0, 0, 1, 1, 0, 1, 0] (by kernel_rfl), Jk9_2b0b0_h1, show (goX Try.prog cfg rc md 84 (sub (bodyOf Try.prog 9) [1, 1, 1, 1, 1, 0, 1, 0, 0, 1, 1, 0, 0, 1, 1, 0, 0]) [([1, 1, 0, 0, 1, 1, 1], 1)] (rndK (fun t => (t 1, t 2, t 3, t 6, t 7, t 35, t 36, t 37, t 44, t 45)))) 1 = _ from J9_2b0b1_cut rc md]
  exact Jk9_2b0b0_h2 rc md e t h
noncomputable def J9_2b0b0b0 (rc : Rec) (md : Md) (s1 : Value) (s2 : Value) (s3 : Value) (s6 : Value) (s7 : Value) (s8 : Value) (s9 : Value) (s10 : Value) (s11 : Value) (s35 : Value) (s36 : Value) (s37 : Value) (s44 : Value) (s45 : Value) (s50 : Value) (s51 : Value) (h : Heap) : Option (((Value × Value × Value × Value × Value × Value × Value × Value × Value × Value × Value × Value × Value × Value) × Heap) ⊕ (Exit × (Value × Value × Value × Value × Value × Value × Value × Value × Value × Value × Value × Value × Value × Value) × Heap)) :=
  bif okNil Try.prog s3 then
  fA 3 s3 fun v1 =>
  ldN 6 v1 h fun v2 =>
  cl (rc md 38 [v2, s6, s8, s10] h) fun v3 h4 =>
  cBn v3 fun b5 =>
  aBin Try.prog .neq 4 (.bool b5) s11 fun v6 =>
  cBn v6 fun b7 =>
  bif b7 then
    some (.inr (.ret, (s1, (.bool false), s3, s6, s7, s8, s9, s35, s36, s37, s44, s45, s50, s51), h4))
  else
    aBin Try.prog .add 3 s51 (.int .i64 1) fun v8 =>
    some (.inl ((s1, s2, s3, s6, s7, s8, s9, s35, s36, s37, s44, s45, s50, v8), h4))
  else none
theorem J9_2b0b0b0_at (rc : Rec) (md : Md) (t : T) (h : Heap) : cut Try.prog cfg rc md 84 (sub (bodyOf Try.prog 9) [1, 1, 1, 1, 1, 0, 1, 0, 0, 1, 1, 0, 0, 1, 1, 0, 0, 1, 1, 0, 0, 1, 1, 0, 1, 0, 0]) [1, 1, 0, 0, 1, 1, 1] (rndK (fun t => (t 1, t 2, t 3, t 6, t 7, t 8, t 9, t 35, t 36, t 37, t 44, t 45, t 50, t 51))) t h = J9_2b0b0b0 rc md (t 1) (t 2) (t 3) (t 6) (t 7) (t 8) (t 9) (t 10) (t 11) (t 35) (t 36) (t 37) (t 44) (t 45) (t 50) (t 51) h := by kernel_rfl
theorem J9_2b0b0b0_cut (rc : Rec) (md : Md) : cut Try.prog cfg rc md 84 (sub (bodyOf Try.prog 9) [1, 1, 1, 1, 1, 0, 1, 0, 0, 1, 1, 0, 0, 1, 1, 0, 0, 1, 1, 0, 0, 1, 1, 0, 1, 0, 0]) [1, 1, 0, 0, 1, 1, 1] (rndK (fun t => (t 1, t 2, t 3, t 6, t 7, t 8, t 9, t 35, t 36, t 37, t 44, t 45, t 50, t 51))) = fun t h => J9_2b0b0b0 rc md (t 1) (t 2) (t 3) (t 6) (t 7) (t 8) (t 9) (t 10) (t 11) (t 35) (t 36) (t 37) (t 44) (t 45) (t 50) (t 51) h := funext fun t => funext fun h => J9_2b0b0b0_at rc md t h
/-- a round -/
noncomputable def Jr9_2b0b0 (rc : Rec) (md : Md) (s1 : Value) (s2 : Value) (s3 : Value) (s6 : Value) (s7 : Value) (s8 : Value) (s9 : Value) (s35 : Value) (s36 : Value) (s37 : Value) (s44 : Value) (s45 : Value) (s50 : Value) (s51 : Value) (h : Heap) : Option (((Value × Value × Value × Value × Value × Value × Value × Value × Value × Value × Value × Value × Value × Value) × Heap) ⊕ (Exit × (Value × Value × Value × Value × Value × Value × Value × Value × Value × Value × Value × Value × Value × Value) × Heap)) :=
  aBin Try.prog .lss 3 s51 s50 fun v1 =>
  cBn v1 fun b2 =>
  bif b2 then
    cl (rc md 37 [s7, s8, s51] h) fun v3 h4 =>
    cBn v3 fun b5 =>
    bif b5 then
      aBin Try.prog .add 3 s9 (.int .i64 1) fun v6 =>
      J9_2b0b0b0 rc md s1 s2 s3 s6 s7 s8 v6 s51 (.bool b5) s35 s36 s37 s44 s45 s50 s51 h4
    else
      J9_2b0b0b0 rc md s1 s2 s3 s6 s7 s8 s9 s51 (.bool b5) s35 s36 s37 s44 s45 s50 s51 h4
  else
    some (.inr ((.exit 6), (s1, s2, s3, s6, s7, s8, s9, s35, s36, s37, s44, s45, s50, s51), h))
noncomputable def Jr9_2b0b0H (rc : Rec) (md : Md) (X0 : T → Heap → Option (((Value × Value × Value × Value × Value × Value × Value × Value × Value × Value × Value × Value × Value × Value) × Heap) ⊕ (Exit × (Value × Value × Value × Value × Value × Value × Value × Value × Value × Value × Value × Value × Value × Value) × Heap))) (t : T) (h : Heap) : Option (((Value × Value × Value × Value × Value × Value × Value × Value × Value × Value × Value × Value × Value × Value) × Heap) ⊕ (Exit × (Value × Value × Value × Value × Value × Value × Value × Value × Value × Value × Value × Value × Value × Value) × Heap)) :=
  aBin Try.prog .lss 3 (t 51) (t 50) fun v1 =>
  cBn v1 fun b2 =>
  bif b2 then
    cl (rc md 37 [(t 7), (t 8), (t 51)] h) fun v3 h4 =>
    cBn v3 fun b5 =>
    bif b5 then
      aBin Try.prog .add 3 (t 9) (.int .i64 1) fun v6 =>
      X0 (upd (upd (upd (upd (upd (upd (upd (upd (upd (upd (upd (upd t 52 v1) 53 (t 51)) 10 (t 51)) 54 (t 7)) 55 (t 8)) 56 (t 51)) 57 (.bool b5)) 11 (.bool b5)) 58 (.bool b5)) 59 (t 9)) 60 v6) 9 v6) h4
    else
      X0 (upd (upd (upd (upd (upd (upd (upd (upd (upd t 52 v1) 53 (t 51)) 10 (t 51)) 54 (t 7)) 55 (t 8)) 56 (t 51)) 57 (.bool b5)) 11 (.bool b5)) 58 (.bool b5)) h4
  else
    some (.inr ((.exit 6), ((t 1), (t 2), (t 3), (t 6), (t 7), (t 8), (t 9), (t 35), (t 36), (t 37), (t 44), (t 45), (t 50), (t 51)), h))
theorem Jr9_2b0b0_h1 (rc : Rec) (md : Md) (X : Nat → T → Heap → Option (((Value × Value × Value × Value × Value × Value × Value × Value × Value × Value × Value × Value × Value × Value) × Heap) ⊕ (Exit × (Value × Value × Value × Value × Value × Value × Value × Value × Value × Value × Value × Value × Value × Value) × Heap))) (t : T) (h : Heap) : execG Try.prog cfg X rc md 84 (replS (sub (bodyOf Try.prog 9) [1, 1, 1, 1, 1, 0, 1, 0, 0, 1, 1, 0, 0, 1, 1, 0, 0, 1, 1, 0, 0, 1, 1, 0, 1, 0, 0]) [([1, 1, 0, 0, 1, 1, 1], 0)]) (rndK (fun t => (t 1, t 2, t 3, t 6, t 7, t 8, t 9, t 35, t 36, t 37, t 44, t 45, t 50, t 51))) t h = Jr9_2b0b0H rc md (X 0) t h := by kernel_rfl
theorem Jr9_2b0b0_h2 (rc : Rec) (md : Md) (t : T) (h : Heap) : Jr9_2b0b0H rc md (fun t h => J9_2b0b0b0 rc md (t 1) (t 2) (t 3) (t 6) (t 7) (t 8) (t 9) (t 10) (t 11) (t 35) (t 36) (t 37) (t 44) (t 45) (t 50) (t 51) h) t h = Jr9_2b0b0 rc md (t 1) (t 2) (t 3) (t 6) (t 7) (t 8) (t 9) (t 35) (t 36) (t 37) (t 44) (t 45) (t 50) (t 51) h := by unfold Jr9_2b0b0H Jr9_2b0b0; kernel_rfl
theorem Jr9_2b0b0_at (rc : Rec) (md : Md) (t : T) (h : Heap) : exec Try.prog cfg rc md 84 (sub (bodyOf Try.prog 9) [1, 1, 1, 1, 1, 0, 1, 0, 0, 1, 1, 0, 0, 1, 1, 0, 0, 1, 1, 0, 0, 1, 1, 0, 1, 0, 0]) (rndK (fun t => (t 1, t 2, t 3, t 6, t 7, t 8, t 9, t 35, t 36, t 37, t 44, t 45, t 50, t 51))) t h = Jr9_2b0b0 rc md (t 1) (t 2) (t 3) (t 6) (t 7) (t 8) (t 9) (t 35) (t 36) (t 37) (t 44) (t 45) (t 50) (t 51) h := by
  rw [exec_holes [([1, 1, 0, 0, 1, 1, 1], 0)] (by kernel_rfl), Jr9_2b0b0_h1, show (goX Try.prog cfg rc md 84 (sub (bodyOf Try.prog 9) [1, 1, 1, 1, 1, 0, 1, 0, 0, 1, 1, 0, 0, 1, 1, 0, 0, 1, 1, 0, 0, 1, 1, 0, 1, 0, 0]) [([1, 1, 0, 0, 1, 1, 1], 0)] (rndK (fun t => (t 1, t 2, t 3, t 6, t 7, t 8, t 9, t 35, t 36, t 37, t 44, t 45, t 50, t 51)))) 0 = _ from J9_2b0b0b0_cut rc md]
  exact Jr9_2b0b0_h2 rc md t h
noncomputable def J9_2b0b0 (rc : Rec) (md : Md) (s1 : Value) (s2 : Value) (s3 : Value) (s6 : Value) (s7 : Value) (s8 : Value) (s9 : Value) (s35 : Value) (s36 : Value) (s37 : Value) (s44 : Value) (s45 : Value) (s50 : Value) (s51 : Value) (h : Heap) : Option (((Value × Value × Value × Value × Value × Value × Value × Value × Value × Value) × Heap) ⊕ (Exit × (Value × Value × Value × Value × Value × Value × Value × Value × Value × Value) × Heap)) :=
  runL (fun x : (Value × Value × Value × Value × Value × Value × Value × Value × Value × Value × Value × Value × Value × Value) × Heap => Jr9_2b0b0 rc md x.1.1 x.1.2.1 x.1.2.2.1 x.1.2.2.2.1 x.1.2.2.2.2.1 x.1.2.2.2.2.2.1 x.1.2.2.2.2.2.2.1 x.1.2.2.2.2.2.2.2.1 x.1.2.2.2.2.2.2.2.2.1 x.1.2.2.2.2.2.2.2.2.2.1 x.1.2.2.2.2.2.2.2.2.2.2.1 x.1.2.2.2.2.2.2.2.2.2.2.2.1 x.1.2.2.2.2.2.2.2.2.2.2.2.2.1 x.1.2.2.2.2.2.2.2.2.2.2.2.2.2 x.2) (fun e (s : Value × Value × Value × Value × Value × Value × Value × Value × Value × Value × Value × Value × Value × Value) h => Jk9_2b0b0 rc md e s.1 s.2.1 s.2.2.1 s.2.2.2.1 s.2.2.2.2.1 s.2.2.2.2.2.1 s.2.2.2.2.2.2.1 s.2.2.2.2.2.2.2.1 s.2.2.2.2.2.2.2.2.1 s.2.2.2.2.2.2.2.2.2.1 s.2.2.2.2.2.2.2.2.2.2.1 s.2.2.2.2.2.2.2.2.2.2.2.1 s.2.2.2.2.2.2.2.2.2.2.2.2.1 s.2.2.2.2.2.2.2.2.2.2.2.2.2 h) (s1, s2, s3, s6, s7, s8, s9, s35, s36, s37, s44, s45, s50, s51) h
theorem J9_2b0b0_step (rc : Rec) (md : Md) (s1 : Value) (s2 : Value) (s3 : Value) (s6 : Value) (s7 : Value) (s8 : Value) (s9 : Value) (s35 : Value) (s36 : Value) (s37 : Value) (s44 : Value) (s45 : Value) (s50 : Value) (s51 : Value) (h : Heap) : J9_2b0b0 rc md s1 s2 s3 s6 s7 s8 s9 s35 s36 s37 s44 s45 s50 s51 h = (Jr9_2b0b0 rc md s1 s2 s3 s6 s7 s8 s9 s35 s36 s37 s44 s45 s50 s51 h).bind fun x => match x with
    | .inl (s, h) => J9_2b0b0 rc md s.1 s.2.1 s.2.2.1 s.2.2.2.1 s.2.2.2.2.1 s.2.2.2.2.2.1 s.2.2.2.2.2.2.1 s.2.2.2.2.2.2.2.1 s.2.2.2.2.2.2.2.2.1 s.2.2.2.2.2.2.2.2.2.1 s.2.2.2.2.2.2.2.2.2.2.1 s.2.2.2.2.2.2.2.2.2.2.2.1 s.2.2.2.2.2.2.2.2.2.2.2.2.1 s.2.2.2.2.2.2.2.2.2.2.2.2.2 h
    | .inr (e, s, h) => Jk9_2b0b0 rc md e s.1 s.2.1 s.2.2.1 s.2.2.2.1 s.2.2.2.2.1 s.2.2.2.2.2.1 s.2.2.2.2.2.2.1 s.2.2.2.2.2.2.2.1 s.2.2.2.2.2.2.2.2.1 s.2.2.2.2.2.2.2.2.2.1 s.2.2.2.2.2.2.2.2.2.2.1 s.2.2.2.2.2.2.2.2.2.2.2.1 s.2.2.2.2.2.2.2.2.2.2.2.2.1 s.2.2.2.2.2.2.2.2.2.2.2.2.2 h := by
  unfold J9_2b0b0
  rw [runL_eq]
  refine congrArg (Option.bind _) (funext fun x => ?_)
  rcases x with ⟨s, h⟩ | ⟨e, s, h⟩ <;> rfl
theorem J9_2b0b0_cut (rc : Rec) (md : Md) : cut Try.prog cfg rc md 84 (sub (bodyOf Try.prog 9) [1, 1, 1, 1, 1, 0, 1, 0, 0, 1, 1, 0, 0, 1, 1, 0, 0]) [1, 1, 0, 0, 1, 1, 0, 1, 0] (rndK (fun t => (t 1, t 2, t 3, t 6, t 7, t 35, t 36, t 37, t 44, t 45))) = fun t h => J9_2b0b0 rc md (t 1) (t 2) (t 3) (t 6) (t 7) (t 8) (t 9) (t 35) (t 36) (t 37) (t 44) (t 45) (t 50) (t 51) h := by
  funext t h
  have e : sub (sub (bodyOf Try.prog 9) [1, 1, 1, 1, 1, 0, 1, 0, 0, 1, 1, 0, 0, 1, 1, 0, 0]) [1, 1, 0, 0, 1, 1, 0, 1, 0] = .loop (sub (bodyOf Try.prog 9) [1, 1, 1, 1, 1, 0, 1, 0, 0, 1, 1, 0, 0, 1, 1, 0, 0, 1, 1, 0, 0, 1, 1, 0, 1, 0, 0]) := by kernel_rfl
  unfold cut
  rw [e]
  exact loop_eq (by kernel_rfl) (fun t => (t 1, t 2, t 3, t 6, t 7, t 8, t 9, t 35, t 36, t 37, t 44, t 45, t 50, t 51)) (fun x : (Value × Value × Value × Value × Value × Value × Value × Value × Value × Value × Value × Value × Value × Value) × Heap => Jr9_2b0b0 rc md x.1.1 x.1.2.1 x.1.2.2.1 x.1.2.2.2.1 x.1.2.2.2.2.1 x.1.2.2.2.2.2.1 x.1.2.2.2.2.2.2.1 x.1.2.2.2.2.2.2.2.1 x.1.2.2.2.2.2.2.2.2.1 x.1.2.2.2.2.2.2.2.2.2.1 x.1.2.2.2.2.2.2.2.2.2.2.1 x.1.2.2.2.2.2.2.2.2.2.2.2.1 x.1.2.2.2.2.2.2.2.2.2.2.2.2.1 x.1.2.2.2.2.2.2.2.2.2.2.2.2.2 x.2) (fun t h => Jr9_2b0b0_at rc md t h) (fun e (s : Value × Value × Value × Value × Value × Value × Value × Value × Value × Value × Value × Value × Value × Value) h => Jk9_2b0b0 rc md e s.1 s.2.1 s.2.2.1 s.2.2.2.1 s.2.2.2.2.1 s.2.2.2.2.2.1 s.2.2.2.2.2.2.1 s.2.2.2.2.2.2.2.1 s.2.2.2.2.2.2.2.2.1 s.2.2.2.2.2.2.2.2.2.1 s.2.2.2.2.2.2.2.2.2.2.1 s.2.2.2.2.2.2.2.2.2.2.2.1 s.2.2.2.2.2.2.2.2.2.2.2.2.1 s.2.2.2.2.2.2.2.2.2.2.2.2.2 h) (fun e t h => Jk9_2b0b0_at rc md e t h) t h
/-- a round -/
noncomputable def Jr9_2b0 (rc : Rec) (md : Md) (s1 : Value) (s2 : Value) (s3 : Value) (s6 : Value) (s7 : Value) (s35 : Value) (s36 : Value) (s37 : Value) (s44 : Value) (s45 : Value) (h : Heap) : Option (((Value × Value × Value × Value × Value × Value × Value × Value × Value × Value) × Heap) ⊕ (Exit × (Value × Value × Value × Value × Value × Value × Value × Value × Value × Value) × Heap)) :=
  aBin Try.prog .lss 3 s45 s44 fun v1 =>
  cBn v1 fun b2 =>
  bif b2 then
    fA 0 s1 fun v3 =>
    fA 0 v3 fun v4 =>
    ld1 v4 h fun v5 =>
    cIn .i64 v5 fun n6 =>
    J9_2b0b0 rc md s1 s2 s3 s6 s7 s45 (.int .i64 0) s35 s36 s37 s44 s45 (.int .i64 n6) (.int .i64 0) h
  else
    some (.inr ((.exit 4), (s1, s2, s3, s6, s7, s35, s36, s37, s44, s45), h))
noncomputable def Jr9_2b0H (rc : Rec) (md : Md) (X0 : T → Heap → Option (((Value × Value × Value × Value × Value × Value × Value × Value × Value × Value) × Heap) ⊕ (Exit × (Value × Value × Value × Value × Value × Value × Value × Value × Value × Value) × Heap))) (t : T) (h : Heap) : Option (((Value × Value × Value × Value × Value × Value × Value × Value × Value × Value) × Heap) ⊕ (Exit × (Value × Value × Value × Value × Value × Value × Value × Value × Value × Value) × Heap)) :=
  aBin Try.prog .lss 3 (t 45) (t 44) fun v1 =>
  cBn v1 fun b2 =>
  bif b2 then
    fA 0 (t 1) fun v3 =>
    fA 0 v3 fun v4 =>
    ld1 v4 h fun v5 =>
    cIn .i64 v5 fun n6 =>
    X0 (upd (upd (upd (upd (upd (upd (upd (upd t 46 v1) 47 (t 45)) 8 (t 45)) 9 (.int .i64 0)) 48 v3) 49 v4) 50 (.int .i64 n6)) 51 (.int .i64 0)) h
  else
    some (.inr ((.exit 4), ((t 1), (t 2), (t 3), (t 6), (t 7), (t 35), (t 36), (t 37), (t 44), (t 45)), h))
theorem Jr9_2b0_h1 (rc : Rec) (md : Md) (X : Nat → T → Heap → Option (((Value × Value × Value × Value × Value × Value × Value × Value × Value × Value) × Heap) ⊕ (Exit × (Value × Value × Value × Value × Value × Value × Value × Value × Value × Value) × Heap))) (t : T) (h : Heap) : execG Try.prog cfg X rc md 84 (replS (sub (bodyOf Try.prog 9) [1, 1, 1, 1, 1, 0, 1, 0, 0, 1, 1, 0, 0, 1, 1, 0, 0]) [([1, 1, 0, 0, 1, 1, 0, 1, 0], 0), ([1, 1, 0, 0, 1, 1, 1], 1)]) (rndK (fun t => (t 1, t 2, t 3, t 6, t 7, t 35, t 36, t 37, t 44, t 45))) t h = Jr9_2b0H rc md (X 0) t h := by kernel_rfl
theorem Jr9_2b0_h2 (rc : Rec) (md : Md) (t : T) (h : Heap) : Jr9_2b0H rc md (fun t h => J9_2b0b0 rc md (t 1) (t 2) (t 3) (t 6) (t 7) (t 8) (t 9) (t 35) (t 36) (t 37) (t 44) (t 45) (t 50) (t 51) h) t h = Jr9_2b0 rc md (t 1) (t 2) (t 3) (t 6) (t 7) (t 35) (t 36) (t 37) (t 44) (t 45) h := by unfold Jr9_2b0H Jr9_2b0; kernel_rfl
theorem Jr9_2b0_at (rc : Rec) (md : Md) (t : T) (h : Heap) : exec Try.prog cfg rc md 84 (sub (bodyOf Try.prog 9) [1, 1, 1, 1, 1, 0, 1, 0, 0, 1, 1, 0, 0, 1, 1, 0, 0]) (rndK (fun t => (t 1, t 2, t 3, t 6, t 7, t 35, t 36, t 37, t 44, t 45))) t h = Jr9_2b0 rc md (t 1) (t 2) (t 3) (t 6) (t 7) (t 35) (t 36) (t 37) (t 44) (t 45) h := by
  rw [exec_holes [([1, 1, 0, 0, 1, 1, 0, 1, 0], 0), ([1, 1, 0, 0, 1, 1, 1], 1)] (by kernel_rfl), Jr9_2b0_h1, show (goX Try.prog cfg rc md 84 (sub (bodyOf Try.prog 9) [1, 1, 1, 1, 1, 0, 1, 0, 0, 1, 1, 0, 0, 1, 1, 0, 0]) [([1, 1, 0, 0, 1, 1, 0, 1, 0], 0), ([1, 1, 0, 0, 1, 1, 1], 1)] (rndK (fun t => (t 1, t 2, t 3, t 6, t 7, t 35, t 36, t 37, t 44, t 45)))) 0 = _ from J9_2b0b0_cut rc md]
  exact Jr9_2b0_h2 rc md t h
noncomputable def J9_2b0 (rc : Rec) (md : Md) (s1 : Value) (s2 : Value) (s3 : Value) (s6 : Value) (s7 : Value) (s35 : Value) (s36 : Value) (s37 : Value) (s44 : Value) (s45 : Value) (h : Heap) : Option (((Value × Value × Value × Value × Value × Value) × Heap) ⊕ (Exit × (Value × Value × Value × Value × Value × Value) × Heap)) :=
  runL (fun x : (Value × Value × Value × Value × Value × Value × Value × Value × Value × Value) × Heap => Jr9_2b0 rc md x.1.1 x.1.2.1 x.1.2.2.1 x.1.2.2.2.1 x.1.2.2.2.2.1 x.1.2.2.2.2.2.1 x.1.2.2.2.2.2.2.1 x.1.2.2.2.2.2.2.2.1 x.1.2.2.2.2.2.2.2.2.1 x.1.2.2.2.2.2.2.2.2.2 x.2) (fun e (s : Value × Value × Value × Value × Value × Value × Value × Value × Value × Value) h => Jk9_2b0 rc md e s.1 s.2.1 s.2.2.1 s.2.2.2.1 s.2.2.2.2.1 s.2.2.2.2.2.1 s.2.2.2.2.2.2.1 s.2.2.2.2.2.2.2.1 s.2.2.2.2.2.2.2.2.1 s.2.2.2.2.2.2.2.2.2 h) (s1, s2, s3, s6, s7, s35, s36, s37, s44, s45) h
theorem J9_2b0_step (rc : Rec) (md : Md) (s1 : Value) (s2 : Value) (s3 : Value) (s6 : Value) (s7 : Value) (s35 : Value) (s36 : Value) (s37 : Value) (s44 : Value) (s45 : Value) (h : Heap) : J9_2b0 rc md s1 s2 s3 s6 s7 s35 s36 s37 s44 s45 h = (Jr9_2b0 rc md s1 s2 s3 s6 s7 s35 s36 s37 s44 s45 h).bind fun x => match x with
    | .inl (s, h) => J9_2b0 rc md s.1 s.2.1 s.2.2.1 s.2.2.2.1 s.2.2.2.2.1 s.2.2.2.2.2.1 s.2.2.2.2.2.2.1 s.2.2.2.2.2.2.2.1 s.2.2.2.2.2.2.2.2.1 s.2.2.2.2.2.2.2.2.2 h
    | .inr (e, s, h) => Jk9_2b0 rc md e s.1 s.2.1 s.2.2.1 s.2.2.2.1 s.2.2.2.2.1 s.2.2.2.2.2.1 s.2.2.2.2.2.2.1 s.2.2.2.2.2.2.2.1 s.2.2.2.2.2.2.2.2.1 s.2.2.2.2.2.2.2.2.2 h := by
  unfold J9_2b0
  rw [runL_eq]
  refine congrArg (Option.bind _) (funext fun x => ?_)
  rcases x with ⟨s, h⟩ | ⟨e, s, h⟩ <;> rfl
theorem J9_2b0_cut (rc : Rec) (md : Md) : cut Try.prog cfg rc md 84 (sub (bodyOf Try.prog 9) [1, 1, 1, 1, 1, 0, 1, 0, 0]) [1, 1, 0, 0, 1, 1, 0] (rndK (fun t => (t 1, t 2, t 3, t 35, t 36, t 37))) = fun t h => J9_2b0 rc md (t 1) (t 2) (t 3) (t 6) (t 7) (t 35) (t 36) (t 37) (t 44) (t 45) h := by
  funext t h
  have e : sub (sub (bodyOf Try.prog 9) [1, 1, 1, 1, 1, 0, 1, 0, 0]) [1, 1, 0, 0, 1, 1, 0] = .loop (sub (bodyOf Try.prog 9) [1, 1, 1, 1, 1, 0, 1, 0, 0, 1, 1, 0, 0, 1, 1, 0, 0]) := by kernel_rfl
  unfold cut
  rw [e]
  exact loop_eq (by kernel_rfl) (fun t => (t 1, t 2, t 3, t 6, t 7, t 35, t 36, t 37, t 44, t 45)) (fun x : (Value × Value × Value × Value × Value × Value × Value × Value × Value × Value) × Heap => Jr9_2b0 rc md x.1.1 x.1.2.1 x.1.2.2.1 x.1.2.2.2.1 x.1.2.2.2.2.1 x.1.2.2.2.2.2.1 x.1.2.2.2.2.2.2.1 x.1.2.2.2.2.2.2.2.1 x.1.2.2.2.2.2.2.2.2.1 x.1.2.2.2.2.2.2.2.2.2 x.2) (fun t h => Jr9_2b0_at rc md t h) (fun e (s : Value × Value × Value × Value × Value × Value × Value × Value × Value × Value) h => Jk9_2b0 rc md e s.1 s.2.1 s.2.2.1 s.2.2.2.1 s.2.2.2.2.1 s.2.2.2.2.2.1 s.2.2.2.2.2.2.1 s.2.2.2.2.2.2.2.1 s.2.2.2.2.2.2.2.2.1 s.2.2.2.2.2.2.2.2.2 h) (fun e t h => Jk9_2b0_at rc md e t h) t h
/-- a round -/
noncomputable def Jr9_2 (rc : Rec) (md : Md) (s1 : Value) (s2 : Value) (s3 : Value) (s35 : Value) (s36 : Value) (s37 : Value) (h : Heap) : Option (((Value × Value × Value × Value × Value × Value) × Heap) ⊕ (Exit × (Value × Value × Value × Value × Value × Value) × Heap)) :=
  aBin Try.prog .lss 3 s37 s36 fun v1 =>
  cBn v1 fun b2 =>
  bif b2 then
    ixSV 1 s35 s37 fun v3 =>
    ld1 v3 h fun v4 =>
    fA 0 s1 fun v5 =>
    fA 0 v5 fun v6 =>
    ld1 v6 h fun v7 =>
    cIn .i64 v7 fun n8 =>
    J9_2b0 rc md s1 s2 s3 s37 v4 s35 s36 s37 (.int .i64 n8) (.int .i64 0) h
  else
    some (.inr ((.exit 2), (s1, s2, s3, s35, s36, s37), h))
noncomputable def Jr9_2H (rc : Rec) (md : Md) (X0 : T → Heap → Option (((Value × Value × Value × Value × Value × Value) × Heap) ⊕ (Exit × (Value × Value × Value × Value × Value × Value) × Heap))) (t : T) (h : Heap) : Option (((Value × Value × Value × Value × Value × Value) × Heap) ⊕ (Exit × (Value × Value × Value × Value × Value × Value) × Heap)) :=
  aBin Try.prog .lss 3 (t 37) (t 36) fun v1 =>
  cBn v1 fun b2 =>
  bif b2 then
    ixSV 1 (t 35) (t 37) fun v3 =>
    ld1 v3 h fun v4 =>
    fA 0 (t 1) fun v5 =>
    fA 0 v5 fun v6 =>
    ld1 v6 h fun v7 =>
    cIn .i64 v7 fun n8 =>
    X0 (upd (upd (upd (upd (upd (upd (upd (upd (upd (upd t 38 v1) 39 (t 37)) 40 v3) 41 v4) 6 (t 37)) 7 v4) 42 v5) 43 v6) 44 (.int .i64 n8)) 45 (.int .i64 0)) h
  else
    some (.inr ((.exit 2), ((t 1), (t 2), (t 3), (t 35), (t 36), (t 37)), h))
theorem Jr9_2_h1 (rc : Rec) (md : Md) (X : Nat → T → Heap → Option (((Value × Value × Value × Value × Value × Value) × Heap) ⊕ (Exit × (Value × Value × Value × Value × Value × Value) × Heap))) (t : T) (h : Heap) : execG Try.prog cfg X rc md 84 (replS (sub (bodyOf Try.prog 9) [1, 1, 1, 1, 1, 0, 1, 0, 0]) [([1, 1, 0, 0, 1, 1, 0], 0)]) (rndK (fun t => (t 1, t 2, t 3, t 35, t 36, t 37))) t h = Jr9_2H rc md (X 0) t h := by kernel_rfl
theorem Jr9_2_h2 (rc : Rec) (md : Md) (t : T) (h : Heap) : Jr9_2H rc md (fun t h => J9_2b0 rc md (t 1) (t 2) (t 3) (t 6) (t 7) (t 35) (t 36) (t 37) (t 44) (t 45) h) t h = Jr9_2 rc md (t 1) (t 2) (t 3) (t 35) (t 36) (t 37) h := by unfold Jr9_2H Jr9_2; kernel_rfl
theorem Jr9_2_at (rc : Rec) (md : Md) (t : T) (h : Heap) : exec Try.prog cfg rc md 84 (sub (bodyOf Try.prog 9) [1, 1, 1, 1, 1, 0, 1, 0, 0]) (rndK (fun t => (t 1, t 2, t 3, t 35, t 36, t 37))) t h = Jr9_2 rc md (t 1) (t 2) (t 3) (t 35) (t 36) (t 37) h := by
  rw [exec_holes [([1, 1, 0, 0, 1, 1, 0], 0)] (by kernel_rfl), Jr9_2_h1, show (goX Try.prog cfg rc md 84 (sub (bodyOf Try.prog 9) [1, 1, 1, 1, 1, 0, 1, 0, 0]) [([1, 1, 0, 0, 1, 1, 0], 0)] (rndK (fun t => (t 1, t 2, t 3, t 35, t 36, t 37)))) 0 = _ from J9_2b0_cut rc md]
  exact Jr9_2_h2 rc md t h
noncomputable def J9_2 (rc : Rec) (md : Md) (h0 : Heap) (s1 : Value) (s2 : Value) (s3 : Value) (s35 : Value) (s36 : Value) (s37 : Value) (h : Heap) : Option (Value × Heap) :=
  runL (fun x : (Value × Value × Value × Value × Value × Value) × Heap => Jr9_2 rc md x.1.1 x.1.2.1 x.1.2.2.1 x.1.2.2.2.1 x.1.2.2.2.2.1 x.1.2.2.2.2.2 x.2) (fun e (s : Value × Value × Value × Value × Value × Value) h => Jk9_2 rc md h0 e s.1 s.2.1 s.2.2.1 s.2.2.2.1 s.2.2.2.2.1 s.2.2.2.2.2 h) (s1, s2, s3, s35, s36, s37) h
theorem J9_2_step (rc : Rec) (md : Md) (h0 : Heap) (s1 : Value) (s2 : Value) (s3 : Value) (s35 : Value) (s36 : Value) (s37 : Value) (h : Heap) : J9_2 rc md h0 s1 s2 s3 s35 s36 s37 h = (Jr9_2 rc md s1 s2 s3 s35 s36 s37 h).bind fun x => match x with
    | .inl (s, h) => J9_2 rc md h0 s.1 s.2.1 s.2.2.1 s.2.2.2.1 s.2.2.2.2.1 s.2.2.2.2.2 h
    | .inr (e, s, h) => Jk9_2 rc md h0 e s.1 s.2.1 s.2.2.1 s.2.2.2.1 s.2.2.2.2.1 s.2.2.2.2.2 h := by
  unfold J9_2
  rw [runL_eq]
  refine congrArg (Option.bind _) (funext fun x => ?_)
  rcases x with ⟨s, h⟩ | ⟨e, s, h⟩ <;> rfl
theorem J9_2_cut (rc : Rec) (md : Md) (h0 : Heap) : cut Try.prog cfg rc md 84 (bodyOf Try.prog 9) [1, 1, 1, 1, 1, 0, 1, 0] (retK Try.prog cfg 9 (rsOf Try.prog 9) h0) = fun t h => J9_2 rc md h0 (t 1) (t 2) (t 3) (t 35) (t 36) (t 37) h := by
  funext t h
  have e : sub (bodyOf Try.prog 9) [1, 1, 1, 1, 1, 0, 1, 0] = .loop (sub (bodyOf Try.prog 9) [1, 1, 1, 1, 1, 0, 1, 0, 0]) := by kernel_rfl
  unfold cut
  rw [e]
  exact loop_eq (by kernel_rfl) (fun t => (t 1, t 2, t 3, t 35, t 36, t 37)) (fun x : (Value × Value × Value × Value × Value × Value) × Heap => Jr9_2 rc md x.1.1 x.1.2.1 x.1.2.2.1 x.1.2.2.2.1 x.1.2.2.2.2.1 x.1.2.2.2.2.2 x.2) (fun t h => Jr9_2_at rc md t h) (fun e (s : Value × Value × Value × Value × Value × Value) h => Jk9_2 rc md h0 e s.1 s.2.1 s.2.2.1 s.2.2.2.1 s.2.2.2.2.1 s.2.2.2.2.2 h) (fun e t h => Jk9_2_at rc md h0 e t h) t h
noncomputable def J9_1 (rc : Rec) (md : Md) (h0 : Heap) (s1 : Value) (s2 : Value) (s3 : Value) (h : Heap) : Option (Value × Heap) :=
  bif okNil Try.prog s3 then
  fA 10 s3 fun v1 =>
  ld1 v1 h fun v2 =>
  lenS v2 fun v3 =>
  cIn .i64 v3 fun n4 =>
  J9_2 rc md h0 s1 s2 s3 v2 (.int .i64 n4) (.int .i64 0) h
  else none
noncomputable def J9_1H (rc : Rec) (md : Md) (h0 : Heap) (X1 : T → Heap → Option (Value × Heap)) (t : T) (h : Heap) : Option (Value × Heap) :=
  bif okNil Try.prog (t 3) then
  fA 10 (t 3) fun v1 =>
  ld1 v1 h fun v2 =>
  lenS v2 fun v3 =>
  cIn .i64 v3 fun n4 =>
  X1 (upd (upd (upd (upd (upd (upd t 32 (t 3)) 33 (t 3)) 34 v1) 35 v2) 36 (.int .i64 n4)) 37 (.int .i64 0)) h
  else none
theorem J9_1_h1 (rc : Rec) (md : Md) (h0 : Heap) (X : Nat → T → Heap → Option (Value × Heap)) (t : T) (h : Heap) : execG Try.prog cfg X rc md 84 (sub (replS (bodyOf Try.prog 9) [([1, 1, 1, 1, 0, 1, 0], 0), ([1, 1, 1, 1, 1, 0, 1, 0], 1)]) [1, 1, 1, 1, 1]) (kAtG Try.prog cfg X rc md 84 (replS (bodyOf Try.prog 9) [([1, 1, 1, 1, 0, 1, 0], 0), ([1, 1, 1, 1, 1, 0, 1, 0], 1)]) [1, 1, 1, 1, 1] (retK Try.prog cfg 9 (rsOf Try.prog 9) h0)) t h = J9_1H rc md h0 (X 1) t h := by kernel_rfl
theorem J9_1_h2 (rc : Rec) (md : Md) (h0 : Heap) (t : T) (h : Heap) : J9_1H rc md h0 (fun t h => J9_2 rc md h0 (t 1) (t 2) (t 3) (t 35) (t 36) (t 37) h) t h = J9_1 rc md h0 (t 1) (t 2) (t 3) h := by (unfold J9_1H J9_1; kernel_rfl)
theorem J9_1_at (rc : Rec) (md : Md) (h0 : Heap) (t : T) (h : Heap) : cut Try.prog cfg rc md 84 (bodyOf Try.prog 9) [1, 1, 1, 1, 1] (retK Try.prog cfg 9 (rsOf Try.prog 9) h0) t h = J9_1 rc md h0 (t 1) (t 2) (t 3) h := by
  rw [cut_holes [([1, 1, 1, 1, 0, 1, 0], 0), ([1, 1, 1, 1, 1, 0, 1, 0], 1)] [1, 1, 1, 1, 1] (by kernel_rfl), J9_1_h1, show (goX Try.prog cfg rc md 84 (bodyOf Try.prog 9) [([1, 1, 1, 1, 0, 1, 0], 0), ([1, 1, 1, 1, 1, 0, 1, 0], 1)] (retK Try.prog cfg 9 (rsOf Try.prog 9) h0)) 1 = _ from J9_2_cut rc md h0]
  exact J9_1_h2 rc md h0 t h
theorem J9_1_cut (rc : Rec) (md : Md) (h0 : Heap) : cut Try.prog cfg rc md 84 (bodyOf Try.prog 9) [1, 1, 1, 1, 1] (retK Try.prog cfg 9 (rsOf Try.prog 9) h0) = fun t h => J9_1 rc md h0 (t 1) (t 2) (t 3) h := funext fun t => funext fun h => J9_1_at rc md h0 t h
noncomputable def Jk9_0 (rc : Rec) (md : Md) (h0 : Heap) (e : Exit) (s1 : Value) (s2 : Value) (s3 : Value) (s21 : Value) (s22 : Value) (s23 : Value) (h : Heap) : Option (Value × Heap) :=
  match e with
  | .normal =>
    J9_1 rc md h0 s1 s2 s3 h
  | .exit j =>
    bif Nat.beq j 0 then
      J9_1 rc md h0 s1 s2 s3 h
    else
      none
  | .ret =>
    fin1 h0 s2 h
  | .goto l => none
  | .panic ps => none
  | .outgrown => none
noncomputable def Jk9_0H (rc : Rec) (md : Md) (h0 : Heap) (X2 : T → Heap → Option (Value × Heap)) (e : Exit) (t : T) (h : Heap) : Option (Value × Heap) :=
  match e with
  | .normal =>
    X2 t h
  | .exit j =>
    bif Nat.beq j 0 then
      X2 t h
    else
      none
  | .ret =>
    fin1 h0 (t 2) h
  | .goto l => none
  | .panic ps => none
  | .outgrown => none
theorem Jk9_0_h1 (rc : Rec) (md : Md) (h0 : Heap) (X : Nat → T → Heap → Option (Value × Heap)) (e : Exit) (t : T) (h : Heap) : kAtG Try.prog cfg X rc md 84 (replS (bodyOf Try.prog 9) [([1, 1, 1, 1, 1, 0, 1, 0], 1), ([1, 1, 1, 1, 1], 2)]) [1, 1, 1, 1, 0, 1, 0] (retK Try.prog cfg 9 (rsOf Try.prog 9) h0) e t h = Jk9_0H rc md h0 (X 2) e t h := by cases e <;> kernel_rfl
theorem Jk9_0_h2 (rc : Rec) (md : Md) (h0 : Heap) (e : Exit) (t : T) (h : Heap) : Jk9_0H rc md h0 (fun t h => J9_1 rc md h0 (t 1) (t 2) (t 3) h) e t h = Jk9_0 rc md h0 e (t 1) (t 2) (t 3) (t 21) (t 22) (t 23) h := by cases e <;> (unfold Jk9_0H Jk9_0; kernel_rfl)
theorem Jk9_0_at (rc : Rec) (md : Md) (h0 : Heap) (e : Exit) (t : T) (h : Heap) : kAt Try.prog cfg rc md 84 (bodyOf Try.prog 9) [1, 1, 1, 1, 0, 1, 0] (retK Try.prog cfg 9 (rsOf Try.prog 9) h0) e t h = Jk9_0 rc md h0 e (t 1) (t 2) (t 3) (t 21) (t 22) (t 23) h := by
  rw [kAt_holes [([1, 1, 1, 1, 1, 0, 1, 0], 1), ([1, 1, 1, 1, 1], 2)] [1, 1, 1, 1, 0, 1, 0] (by kernel_rfl), Jk9_0_h1, show (goX Try.prog cfg rc md 84 (bodyOf Try.prog 9) [([1, 1, 1, 1, 1, 0, 1, 0], 1), ([1, 1, 1, 1, 1], 2)] (retK Try.prog cfg 9 (rsOf Try.prog 9) h0)) 2 = _ from J9_1_cut rc md h0]
  exact Jk9_0_h2 rc md h0 e t h
/-- a round -/
noncomputable def Jr9_0 (rc : Rec) (md : Md) (s1 : Value) (s2 : Value) (s3 : Value) (s21 : Value) (s22 : Value) (s23 : Value) (h : Heap) : Option (((Value × Value × Value × Value × Value × Value) × Heap) ⊕ (Exit × (Value × Value × Value × Value × Value × Value) × Heap)) :=
  aBin Try.prog .lss 3 s23 s22 fun v1 =>
  cBn v1 fun b2 =>
  bif b2 then
    ixSV 5 s21 s23 fun v3 =>
    ldN 5 v3 h fun v4 =>
    let h5 : Heap := h ++ [.own [(.int .i64 0), (.int .i64 0), (.int .i64 0), (.int .i64 0), (.int .i64 0)]]
    st md 5 (.pointer (some ⟨h.length, 0, none⟩)) v4 h5 fun h6 =>
    ldN 5 (.pointer (some ⟨h.length, 0, none⟩)) h6 fun v7 =>
    cl (rc md 34 [s3, v7] h6) fun v8 h9 =>
    cBn v8 fun b10 =>
    bif !b10 then
      some (.inr (.ret, (s1, (.bool false), s3, s21, s22, s23), h9))
    else
      aBin Try.prog .add 3 s23 (.int .i64 1) fun v11 =>
      some (.inl ((s1, s2, s3, s21, s22, v11), h9))
  else
    some (.inr ((.exit 0), (s1, s2, s3, s21, s22, s23), h))
theorem Jr9_0_at (rc : Rec) (md : Md) (t : T) (h : Heap) : exec Try.prog cfg rc md 84 (sub (bodyOf Try.prog 9) [1, 1, 1, 1, 0, 1, 0, 0]) (rndK (fun t => (t 1, t 2, t 3, t 21, t 22, t 23))) t h = Jr9_0 rc md (t 1) (t 2) (t 3) (t 21) (t 22) (t 23) h := by kernel_rfl
noncomputable def J9_0 (rc : Rec) (md : Md) (h0 : Heap) (s1 : Value) (s2 : Value) (s3 : Value) (s21 : Value) (s22 : Value) (s23 : Value) (h : Heap) : Option (Value × Heap) :=
  runL (fun x : (Value × Value × Value × Value × Value × Value) × Heap => Jr9_0 rc md x.1.1 x.1.2.1 x.1.2.2.1 x.1.2.2.2.1 x.1.2.2.2.2.1 x.1.2.2.2.2.2 x.2) (fun e (s : Value × Value × Value × Value × Value × Value) h => Jk9_0 rc md h0 e s.1 s.2.1 s.2.2.1 s.2.2.2.1 s.2.2.2.2.1 s.2.2.2.2.2 h) (s1, s2, s3, s21, s22, s23) h
theorem J9_0_step (rc : Rec) (md : Md) (h0 : Heap) (s1 : Value) (s2 : Value) (s3 : Value) (s21 : Value) (s22 : Value) (s23 : Value) (h : Heap) : J9_0 rc md h0 s1 s2 s3 s21 s22 s23 h = (Jr9_0 rc md s1 s2 s3 s21 s22 s23 h).bind fun x => match x with
    | .inl (s, h) => J9_0 rc md h0 s.1 s.2.1 s.2.2.1 s.2.2.2.1 s.2.2.2.2.1 s.2.2.2.2.2 h
    | .inr (e, s, h) => Jk9_0 rc md h0 e s.1 s.2.1 s.2.2.1 s.2.2.2.1 s.2.2.2.2.1 s.2.2.2.2.2 h := by
  unfold J9_0
  rw [runL_eq]
  refine congrArg (Option.bind _) (funext fun x => ?_)
  rcases x with ⟨s, h⟩ | ⟨e, s, h⟩ <;> rfl
theorem J9_0_cut (rc : Rec) (md : Md) (h0 : Heap) : cut Try.prog cfg rc md 84 (bodyOf Try.prog 9) [1, 1, 1, 1, 0, 1, 0] (retK Try.prog cfg 9 (rsOf Try.prog 9) h0) = fun t h => J9_0 rc md h0 (t 1) (t 2) (t 3) (t 21) (t 22) (t 23) h := by
  funext t h
  have e : sub (bodyOf Try.prog 9) [1, 1, 1, 1, 0, 1, 0] = .loop (sub (bodyOf Try.prog 9) [1, 1, 1, 1, 0, 1, 0, 0]) := by kernel_rfl
  unfold cut
  rw [e]
  exact loop_eq (by kernel_rfl) (fun t => (t 1, t 2, t 3, t 21, t 22, t 23)) (fun x : (Value × Value × Value × Value × Value × Value) × Heap => Jr9_0 rc md x.1.1 x.1.2.1 x.1.2.2.1 x.1.2.2.2.1 x.1.2.2.2.2.1 x.1.2.2.2.2.2 x.2) (fun t h => Jr9_0_at rc md t h) (fun e (s : Value × Value × Value × Value × Value × Value) h => Jk9_0 rc md h0 e s.1 s.2.1 s.2.2.1 s.2.2.2.1 s.2.2.2.2.1 s.2.2.2.2.2 h) (fun e t h => Jk9_0_at rc md h0 e t h) t h
noncomputable def F9 (rc : Rec) (md : Md) (a0_0 : Int) (a0_1 : Int) (a0_2 : Int) (a0_3 : Value) (a0_4 : Value) (h0 : Heap) : Option (Value × Heap) :=
  let h1 : Heap := h0 ++ [.own [(.int .i64 a0_0), (.int .i64 a0_1), (.int .i64 a0_2), a0_3, a0_4]]
  ldN 5 (.pointer (some ⟨h0.length, 0, none⟩)) h1 fun v2 =>
  cl (rc md 31 [v2] h1) fun v3 h4 =>
  cBn v3 fun b5 =>
  bif !b5 then
    cl (rc md 32 [] h4) fun v6 h7 =>
    cBn v6 fun b8 =>
    some ((.bool b8), List.take h0.length h7)
  else
    ldN 5 (.pointer (some ⟨h0.length, 0, none⟩)) h4 fun v9 =>
    cl (rc md 33 [v9] h4) fun v10 h11 =>
    aBin Try.prog .eql 68 v10 (.pointer none) fun v12 =>
    cBn v12 fun b13 =>
    bif b13 then
      some ((.bool false), List.take h0.length h11)
    else
      ld1 (.pointer (some ⟨h0.length, 4, none⟩)) h11 fun v14 =>
      lenS v14 fun v15 =>
      cIn .i64 v15 fun n16 =>
      J9_0 rc md h0 (.pointer (some ⟨h0.length, 0, none⟩)) (.bool false) v10 v14 (.int .i64 n16) (.int .i64 0) h11
noncomputable def F9H (rc : Rec) (md : Md) (X0 : T → Heap → Option (Value × Heap)) (a0_0 : Int) (a0_1 : Int) (a0_2 : Int) (a0_3 : Value) (a0_4 : Value) (h0 : Heap) : Option (Value × Heap) :=
  let h1 : Heap := h0 ++ [.own [(.int .i64 a0_0), (.int .i64 a0_1), (.int .i64 a0_2), a0_3, a0_4]]
  ldN 5 (.pointer (some ⟨h0.length, 0, none⟩)) h1 fun v2 =>
  cl (rc md 31 [v2] h1) fun v3 h4 =>
  cBn v3 fun b5 =>
  bif !b5 then
    cl (rc md 32 [] h4) fun v6 h7 =>
    cBn v6 fun b8 =>
    some ((.bool b8), List.take h0.length h7)
  else
    ldN 5 (.pointer (some ⟨h0.length, 0, none⟩)) h4 fun v9 =>
    cl (rc md 33 [v9] h4) fun v10 h11 =>
    aBin Try.prog .eql 68 v10 (.pointer none) fun v12 =>
    cBn v12 fun b13 =>
    bif b13 then
      some ((.bool false), List.take h0.length h11)
    else
      ld1 (.pointer (some ⟨h0.length, 4, none⟩)) h11 fun v14 =>
      lenS v14 fun v15 =>
      cIn .i64 v15 fun n16 =>
      X0 (upd (upd (upd (upd (upd (upd (upd (upd (upd (upd (upd (upd (upd (upd (args0 [(.agg #[(.int .i64 a0_0), (.int .i64 a0_1), (.int .i64 a0_2), a0_3, a0_4])]) 1 (.pointer (some ⟨h0.length, 0, none⟩))) 2 (.bool false)) 12 v2) 13 (.bool b5)) 14 (.bool (!b5))) 16 v9) 17 v10) 3 v10) 18 v10) 19 v12) 20 (.pointer (some ⟨h0.length, 4, none⟩))) 21 v14) 22 (.int .i64 n16)) 23 (.int .i64 0)) h11
theorem F9_h0 (rc : Rec) (md : Md) (a0_0 : Int) (a0_1 : Int) (a0_2 : Int) (a0_3 : Value) (a0_4 : Value) (h0 : Heap) : callStep0 Try.prog cfg rc md 9 [(.agg #[(.int .i64 a0_0), (.int .i64 a0_1), (.int .i64 a0_2), a0_3, a0_4])] h0 = exec Try.prog cfg rc ⟨md.ro, h0.length⟩ 84 (bodyOf Try.prog 9) (retK Try.prog cfg 9 (rsOf Try.prog 9) h0) (args0 [(.agg #[(.int .i64 a0_0), (.int .i64 a0_1), (.int .i64 a0_2), a0_3, a0_4])]) h0 := callStep0_run (by kernel_rfl) (by kernel_rfl) (by kernel_rfl)
theorem F9_h1 (rc : Rec) (md : Md) (X : Nat → T → Heap → Option (Value × Heap)) (a0_0 : Int) (a0_1 : Int) (a0_2 : Int) (a0_3 : Value) (a0_4 : Value) (h0 : Heap) : execG Try.prog cfg X rc md 84 (replS (bodyOf Try.prog 9) [([1, 1, 1, 1, 0, 1, 0], 0), ([1, 1, 1, 1, 1, 0, 1, 0], 1), ([1, 1, 1, 1, 1], 2)]) (retK Try.prog cfg 9 (rsOf Try.prog 9) h0) (args0 [(.agg #[(.int .i64 a0_0), (.int .i64 a0_1), (.int .i64 a0_2), a0_3, a0_4])]) h0 = F9H rc md (X 0) a0_0 a0_1 a0_2 a0_3 a0_4 h0 := by kernel_rfl
theorem F9_h2 (rc : Rec) (md : Md) (a0_0 : Int) (a0_1 : Int) (a0_2 : Int) (a0_3 : Value) (a0_4 : Value) (h0 : Heap) : F9H rc md (fun t h => J9_0 rc md h0 (t 1) (t 2) (t 3) (t 21) (t 22) (t 23) h) a0_0 a0_1 a0_2 a0_3 a0_4 h0 = F9 rc md a0_0 a0_1 a0_2 a0_3 a0_4 h0 := by unfold F9H F9; kernel_rfl
theorem F9_eq0 (rc : Rec) (md : Md) (a0_0 : Int) (a0_1 : Int) (a0_2 : Int) (a0_3 : Value) (a0_4 : Value) (h0 : Heap) : callStep0 Try.prog cfg rc md 9 [(.agg #[(.int .i64 a0_0), (.int .i64 a0_1), (.int .i64 a0_2), a0_3, a0_4])] h0 = F9 rc ⟨md.ro, h0.length⟩ a0_0 a0_1 a0_2 a0_3 a0_4 h0 := by
  rw [F9_h0, exec_holes [([1, 1, 1, 1, 0, 1, 0], 0), ([1, 1, 1, 1, 1, 0, 1, 0], 1), ([1, 1, 1, 1, 1], 2)] (by kernel_rfl), F9_h1, show (goX Try.prog cfg rc ⟨md.ro, h0.length⟩ 84 (bodyOf Try.prog 9) [([1, 1, 1, 1, 0, 1, 0], 0), ([1, 1, 1, 1, 1, 0, 1, 0], 1), ([1, 1, 1, 1, 1], 2)] (retK Try.prog cfg 9 (rsOf Try.prog 9) h0)) 0 = _ from J9_0_cut rc ⟨md.ro, h0.length⟩ h0]
  exact F9_h2 rc _ a0_0 a0_1 a0_2 a0_3 a0_4 h0
theorem F9_eq (rc : Rec) (md : Md) (a0_0 : Int) (a0_1 : Int) (a0_2 : Int) (a0_3 : Value) (a0_4 : Value) (h0 : Heap) : callStep Try.prog cfg rc md 9 [(.agg #[(.int .i64 a0_0), (.int .i64 a0_1), (.int .i64 a0_2), a0_3, a0_4])] h0 = F9 rc ⟨md.ro, h0.length⟩ a0_0 a0_1 a0_2 a0_3 a0_4 h0 := (callStep_ne (by kernel_rfl)).trans (F9_eq0 rc md a0_0 a0_1 a0_2 a0_3 a0_4 h0)

end Go.Det.E
