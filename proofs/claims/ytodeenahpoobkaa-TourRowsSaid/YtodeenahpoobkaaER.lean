/- Printed functions. -/
import Derived.Test.YtodeenahpoobkaaE7
import Derived.Test.YtodeenahpoobkaaDetT
import Derived.Test.YtodeenahpoobkaaDetX
import Derived.Test.YtodeenahpoobkaaProg
set_option autoImplicit false
set_option linter.unusedVariables false
set_option linter.unusedSimpArgs false
namespace Go.Det.E
open Go.Proofs Go.Det

/-- tombolo/tombololaw10.TourRows -/
noncomputable def Jk10_2 (rc : Rec) (md : Md) (h0 : Heap) (e : Exit) (s1 : Value) (s2 : Value) (s3 : Value) (s43 : Value) (s44 : Value) (s45 : Value) (h : Heap) : Option (Value × Heap) :=
  match e with
  | .normal =>
    cl (rc md 32 [] h) fun v1 h2 =>
    cBn v1 fun b3 =>
    some ((.bool b3), List.take h0.length h2)
  | .exit j =>
    bif Nat.beq j 2 then
      cl (rc md 32 [] h) fun v4 h5 =>
      cBn v4 fun b6 =>
      some ((.bool b6), List.take h0.length h5)
    else
      none
  | .ret =>
    fin1 h0 s2 h
  | .goto l => none
  | .panic ps => none
  | .outgrown => none
theorem Jk10_2_at (rc : Rec) (md : Md) (h0 : Heap) (e : Exit) (t : T) (h : Heap) : kAt Try.prog cfg rc md 133 (bodyOf Try.prog 10) [1, 1, 1, 1, 1, 0, 1, 0] (retK Try.prog cfg 10 (rsOf Try.prog 10) h0) e t h = Jk10_2 rc md h0 e (t 1) (t 2) (t 3) (t 43) (t 44) (t 45) h := by cases e <;> kernel_rfl
noncomputable def Jk10_2b0 (rc : Rec) (md : Md) (e : Exit) (s1 : Value) (s2 : Value) (s3 : Value) (s6 : Value) (s7 : Value) (s43 : Value) (s44 : Value) (s45 : Value) (s50 : Value) (s51 : Value) (s52 : Value) (h : Heap) : Option (((Value × Value × Value × Value × Value × Value) × Heap) ⊕ (Exit × (Value × Value × Value × Value × Value × Value) × Heap)) :=
  match e with
  | .normal =>
    aBin Try.prog .add 3 s45 (.int .i64 1) fun v1 =>
    some (.inl ((s1, s2, s3, s43, s44, v1), h))
  | .exit j =>
    bif Nat.beq j 4 then
      aBin Try.prog .add 3 s45 (.int .i64 1) fun v2 =>
      some (.inl ((s1, s2, s3, s43, s44, v2), h))
    else
      bif Nat.beq j 3 then
        aBin Try.prog .add 3 s45 (.int .i64 1) fun v3 =>
        some (.inl ((s1, s2, s3, s43, s44, v3), h))
      else
        some (.inr ((.exit j), (s1, s2, s3, s43, s44, s45), h))
  | .ret =>
    some (.inr (.ret, (s1, s2, s3, s43, s44, s45), h))
  | .goto l => some (.inr ((.goto l), (s1, s2, s3, s43, s44, s45), h))
  | .panic ps => some (.inr ((.panic ps), (s1, s2, s3, s43, s44, s45), h))
  | .outgrown => some (.inr (.outgrown, (s1, s2, s3, s43, s44, s45), h))
theorem Jk10_2b0_at (rc : Rec) (md : Md) (e : Exit) (t : T) (h : Heap) : kAt Try.prog cfg rc md 133 (sub (bodyOf Try.prog 10) [1, 1, 1, 1, 1, 0, 1, 0, 0]) [1, 1, 0, 0, 1, 1, 0] (rndK (fun t => (t 1, t 2, t 3, t 43, t 44, t 45))) e t h = Jk10_2b0 rc md e (t 1) (t 2) (t 3) (t 6) (t 7) (t 43) (t 44) (t 45) (t 50) (t 51) (t 52) h := by cases e <;> kernel_rfl
noncomputable def J10_2b0b1 (rc : Rec) (md : Md) (s1 : Value) (s2 : Value) (s3 : Value) (s6 : Value) (s7 : Value) (s15 : Value) (s43 : Value) (s44 : Value) (s45 : Value) (s50 : Value) (s51 : Value) (s52 : Value) (h : Heap) : Option (((Value × Value × Value × Value × Value × Value × Value × Value × Value × Value × Value) × Heap) ⊕ (Exit × (Value × Value × Value × Value × Value × Value × Value × Value × Value × Value × Value) × Heap)) :=
  aBin Try.prog .lss 3 s15 (.int .i64 0) fun v1 =>
  cBn v1 fun b2 =>
  bif b2 then
    some (.inr (.ret, (s1, (.bool false), s3, s6, s7, s43, s44, s45, s50, s51, s52), h))
  else
    aBin Try.prog .add 3 s52 (.int .i64 1) fun v3 =>
    some (.inl ((s1, s2, s3, s6, s7, s43, s44, s45, s50, s51, v3), h))
theorem J10_2b0b1_at (rc : Rec) (md : Md) (t : T) (h : Heap) : cut Try.prog cfg rc md 133 (sub (bodyOf Try.prog 10) [1, 1, 1, 1, 1, 0, 1, 0, 0, 1, 1, 0, 0, 1, 1, 0, 0]) [1, 1, 0, 0, 1, 1, 1, 1, 1, 1, 1, 1] (rndK (fun t => (t 1, t 2, t 3, t 6, t 7, t 43, t 44, t 45, t 50, t 51, t 52))) t h = J10_2b0b1 rc md (t 1) (t 2) (t 3) (t 6) (t 7) (t 15) (t 43) (t 44) (t 45) (t 50) (t 51) (t 52) h := by kernel_rfl
theorem J10_2b0b1_cut (rc : Rec) (md : Md) : cut Try.prog cfg rc md 133 (sub (bodyOf Try.prog 10) [1, 1, 1, 1, 1, 0, 1, 0, 0, 1, 1, 0, 0, 1, 1, 0, 0]) [1, 1, 0, 0, 1, 1, 1, 1, 1, 1, 1, 1] (rndK (fun t => (t 1, t 2, t 3, t 6, t 7, t 43, t 44, t 45, t 50, t 51, t 52))) = fun t h => J10_2b0b1 rc md (t 1) (t 2) (t 3) (t 6) (t 7) (t 15) (t 43) (t 44) (t 45) (t 50) (t 51) (t 52) h := funext fun t => funext fun h => J10_2b0b1_at rc md t h
noncomputable def Jk10_2b0b0 (rc : Rec) (md : Md) (e : Exit) (s1 : Value) (s2 : Value) (s3 : Value) (s6 : Value) (s7 : Value) (s9 : Value) (s14 : Value) (s15 : Value) (s43 : Value) (s44 : Value) (s45 : Value) (s50 : Value) (s51 : Value) (s52 : Value) (s96 : Value) (s97 : Value) (s98 : Value) (h : Heap) : Option (((Value × Value × Value × Value × Value × Value × Value × Value × Value × Value × Value) × Heap) ⊕ (Exit × (Value × Value × Value × Value × Value × Value × Value × Value × Value × Value × Value) × Heap)) :=
  match e with
  | .normal =>
    J10_2b0b1 rc md s1 s2 s3 s6 s7 s15 s43 s44 s45 s50 s51 s52 h
  | .exit j =>
    bif Nat.beq j 6 then
      J10_2b0b1 rc md s1 s2 s3 s6 s7 s15 s43 s44 s45 s50 s51 s52 h
    else
      bif Nat.beq j 5 then
        aBin Try.prog .add 3 s52 (.int .i64 1) fun v1 =>
        some (.inl ((s1, s2, s3, s6, s7, s43, s44, s45, s50, s51, v1), h))
      else
        some (.inr ((.exit j), (s1, s2, s3, s6, s7, s43, s44, s45, s50, s51, s52), h))
  | .ret =>
    some (.inr (.ret, (s1, s2, s3, s6, s7, s43, s44, s45, s50, s51, s52), h))
  | .goto l => some (.inr ((.goto l), (s1, s2, s3, s6, s7, s43, s44, s45, s50, s51, s52), h))
  | .panic ps => some (.inr ((.panic ps), (s1, s2, s3, s6, s7, s43, s44, s45, s50, s51, s52), h))
  | .outgrown => some (.inr (.outgrown, (s1, s2, s3, s6, s7, s43, s44, s45, s50, s51, s52), h))
noncomputable def Jk10_2b0b0H (rc : Rec) (md : Md) (X1 : T → Heap → Option (((Value × Value × Value × Value × Value × Value × Value × Value × Value × Value × Value) × Heap) ⊕ (Exit × (Value × Value × Value × Value × Value × Value × Value × Value × Value × Value × Value) × Heap))) (e : Exit) (t : T) (h : Heap) : Option (((Value × Value × Value × Value × Value × Value × Value × Value × Value × Value × Value) × Heap) ⊕ (Exit × (Value × Value × Value × Value × Value × Value × Value × Value × Value × Value × Value) × Heap)) :=
  match e with
  | .normal =>
    X1 t h
  | .exit j =>
    bif Nat.beq j 6 then
      X1 t h
    else
      bif Nat.beq j 5 then
        aBin Try.prog .add 3 (t 52) (.int .i64 1) fun v1 =>
        some (.inl (((t 1), (t 2), (t 3), (t 6), (t 7), (t 43), (t 44), (t 45), (t 50), (t 51), v1), h))
      else
        some (.inr ((.exit j), ((t 1), (t 2), (t 3), (t 6), (t 7), (t 43), (t 44), (t 45), (t 50), (t 51), (t 52)), h))
  | .ret =>
    some (.inr (.ret, ((t 1), (t 2), (t 3), (t 6), (t 7), (t 43), (t 44), (t 45), (t 50), (t 51), (t 52)), h))
  | .goto l => some (.inr ((.goto l), ((t 1), (t 2), (t 3), (t 6), (t 7), (t 43), (t 44), (t 45), (t 50), (t 51), (t 52)), h))
  | .panic ps => some (.inr ((.panic ps), ((t 1), (t 2), (t 3), (t 6), (t 7), (t 43), (t 44), (t 45), (t 50), (t 51), (t 52)), h))
  | .outgrown => some (.inr (.outgrown, ((t 1), (t 2), (t 3), (t 6), (t 7), (t 43), (t 44), (t 45), (t 50), (t 51), (t 52)), h))
theorem Jk10_2b0b0_h1 (rc : Rec) (md : Md) (X : Nat → T → Heap → Option (((Value × Value × Value × Value × Value × Value × Value × Value × Value × Value × Value) × Heap) ⊕ (Exit × (Value × Value × Value × Value × Value × Value × Value × Value × Value × Value × Value) × Heap))) (e : Exit) (t : T) (h : Heap) : kAtG Try.prog cfg X rc md 133 (replS (sub (bodyOf Try.prog 10) [1, 1, 1, 1, 1, 0, 1, 0, 0, 1, 1, 0, 0, 1, 1, 0, 0]) [([1, 1, 0, 0, 1, 1, 1, 1, 1, 1, 1, 1], 1)]) [1, 1, 0, 0, 1, 1, 1, 1, 1, 1, 1, 0, 1, 0] (rndK (fun t => (t 1, t 2, t 3, t 6, t 7, t 43, t 44, t 45, t 50, t 51, t 52))) e t h = Jk10_2b0b0H rc md (X 1) e t h := by cases e <;> kernel_rfl
theorem Jk10_2b0b0_h2 (rc : Rec) (md : Md) (e : Exit) (t : T) (h : Heap) : Jk10_2b0b0H rc md (fun t h => J10_2b0b1 rc md (t 1) (t 2) (t 3) (t 6) (t 7) (t 15) (t 43) (t 44) (t 45) (t 50) (t 51) (t 52) h) e t h = Jk10_2b0b0 rc md e (t 1) (t 2) (t 3) (t 6) (t 7) (t 9) (t 14) (t 15) (t 43) (t 44) (t 45) (t 50) (t 51) (t 52) (t 96) (t 97) (t 98) h := by cases e <;> (unfold Jk10_2b0b0H Jk10_2b0b0; kernel_rfl)
theorem Jk10_2b0b0_at (rc : Rec) (md : Md) (e : Exit) (t : T) (h : Heap) : kAt Try.prog cfg rc md 133 (sub (bodyOf Try.prog 10) [1, 1, 1, 1, 1, 0, 1, 0, 0, 1, 1, 0, 0, 1, 1, 0, 0]) [1, 1, 0, 0, 1, 1, 1, 1, 1, 1, 1, 0, 1, 0] (rndK (fun t => (t 1, t 2, t 3, t 6, t 7, t 43, t 44, t 45, t 50, t 51, t 52))) e t h = Jk10_2b0b0 rc md e (t 1) (t 2) (t 3) (t 6) (t 7) (t 9) (t 14) (t 15) (t 43) (t 44) (t 45) (t 50) (t 51) (t 52) (t 96) (t 97) (t 98) h := by
  rw [kAt_holes [([1, 1, 0, 0, 1, 1, 1, 1, 1, 1, 1, 1], 1)] [1, 1, 0, 0, 1, 1, 1, 1, 1, 1, 1, 0, 1, 0] (by kernel_rfl), Jk10_2b0b0_h1, show (goX Try.prog cfg rc md 133 (sub (bodyOf Try.prog 10) [1, 1, 1, 1, 1, 0, 1, 0, 0, 1, 1, 0, 0, 1, 1, 0, 0]) [([1, 1, 0, 0, 1, 1, 1, 1, 1, 1, 1, 1], 1)] (rndK (fun t => (t 1, t 2, t 3, t 6, t 7, t 43, t 44, t 45, t 50, t 51, t 52)))) 1 = _ from J10_2b0b1_cut rc md]
  exact Jk10_2b0b0_h2 rc md e t h
noncomputable def J10_2b0b0b0 (rc : Rec) (md : Md) (s1 : Value) (s2 : Value) (s3 : Value) (s6 : Value) (s7 : Value) (s9 : Value) (s14 : Value) (s15 : Value) (s18 : Value) (s43 : Value) (s44 : Value) (s45 : Value) (s50 : Value) (s51 : Value) (s52 : Value) (s96 : Value) (s97 : Value) (s98 : Value) (h : Heap) : Option (((Value × Value × Value × Value × Value × Value × Value × Value × Value × Value × Value × Value × Value × Value × Value × Value × Value) × Heap) ⊕ (Exit × (Value × Value × Value × Value × Value × Value × Value × Value × Value × Value × Value × Value × Value × Value × Value × Value × Value) × Heap)) :=
  fA 2 s18 fun v1 =>
  ld1 v1 h fun v2 =>
  cIn .i64 v2 fun n3 =>
  ixAV 2 1 s9 s15 fun v4 =>
  ld1 v4 h fun v5 =>
  cIn .i64 v5 fun n6 =>
  cl (rc md 37 [s14, (.int .i64 n3), (.int .i64 n6)] h) fun v7 h8 =>
  cBn v7 fun b9 =>
  bif !b9 then
    some (.inr (.ret, (s1, (.bool false), s3, s6, s7, s9, s14, s15, s43, s44, s45, s50, s51, s52, s96, s97, s98), h8))
  else
    aBin Try.prog .add 3 s98 (.int .i64 1) fun v10 =>
    some (.inl ((s1, s2, s3, s6, s7, s9, s14, s15, s43, s44, s45, s50, s51, s52, s96, s97, v10), h8))
theorem J10_2b0b0b0_at (rc : Rec) (md : Md) (t : T) (h : Heap) : cut Try.prog cfg rc md 133 (sub (bodyOf Try.prog 10) [1, 1, 1, 1, 1, 0, 1, 0, 0, 1, 1, 0, 0, 1, 1, 0, 0, 1, 1, 0, 0, 1, 1, 1, 1, 1, 1, 1, 0, 1, 0, 0]) [1, 1, 0, 0, 1, 1, 1, 1] (rndK (fun t => (t 1, t 2, t 3, t 6, t 7, t 9, t 14, t 15, t 43, t 44, t 45, t 50, t 51, t 52, t 96, t 97, t 98))) t h = J10_2b0b0b0 rc md (t 1) (t 2) (t 3) (t 6) (t 7) (t 9) (t 14) (t 15) (t 18) (t 43) (t 44) (t 45) (t 50) (t 51) (t 52) (t 96) (t 97) (t 98) h := by kernel_rfl
theorem J10_2b0b0b0_cut (rc : Rec) (md : Md) : cut Try.prog cfg rc md 133 (sub (bodyOf Try.prog 10) [1, 1, 1, 1, 1, 0, 1, 0, 0, 1, 1, 0, 0, 1, 1, 0, 0, 1, 1, 0, 0, 1, 1, 1, 1, 1, 1, 1, 0, 1, 0, 0]) [1, 1, 0, 0, 1, 1, 1, 1] (rndK (fun t => (t 1, t 2, t 3, t 6, t 7, t 9, t 14, t 15, t 43, t 44, t 45, t 50, t 51, t 52, t 96, t 97, t 98))) = fun t h => J10_2b0b0b0 rc md (t 1) (t 2) (t 3) (t 6) (t 7) (t 9) (t 14) (t 15) (t 18) (t 43) (t 44) (t 45) (t 50) (t 51) (t 52) (t 96) (t 97) (t 98) h := funext fun t => funext fun h => J10_2b0b0b0_at rc md t h
/-- a round -/
noncomputable def Jr10_2b0b0 (rc : Rec) (md : Md) (s1 : Value) (s2 : Value) (s3 : Value) (s6 : Value) (s7 : Value) (s9 : Value) (s14 : Value) (s15 : Value) (s43 : Value) (s44 : Value) (s45 : Value) (s50 : Value) (s51 : Value) (s52 : Value) (s96 : Value) (s97 : Value) (s98 : Value) (h : Heap) : Option (((Value × Value × Value × Value × Value × Value × Value × Value × Value × Value × Value × Value × Value × Value × Value × Value × Value) × Heap) ⊕ (Exit × (Value × Value × Value × Value × Value × Value × Value × Value × Value × Value × Value × Value × Value × Value × Value × Value × Value) × Heap)) :=
  aBin Try.prog .lss 3 s98 s97 fun v1 =>
  cBn v1 fun b2 =>
  bif b2 then
    ixSV 1 s96 s98 fun v3 =>
    ld1 v3 h fun v4 =>
    cIn .i64 v4 fun n5 =>
    fA 0 s1 fun v6 =>
    ldN 3 v6 h fun v7 =>
    cl (rc md 42 [v7, (.int .i64 n5)] h) fun v8 h9 =>
    exT v8 0 fun v10 =>
    exT v8 1 fun v11 =>
    cBn v11 fun b12 =>
    let h13 : Heap := h9 ++ [.own [(.bool false), (.int .i64 0), (.int .i64 0), (.int .i64 0), (.int .i64 0)]]
    st md 5 (.pointer (some ⟨h9.length, 0, none⟩)) v10 h13 fun h14 =>
    ld1 (.pointer (some ⟨h9.length, 0, none⟩)) h14 fun v15 =>
    cBn v15 fun b16 =>
    bif b16 then
      aBin Try.prog .add 3 s98 (.int .i64 1) fun v17 =>
      some (.inl ((s1, s2, s3, s6, s7, s9, s14, s15, s43, s44, s45, s50, s51, s52, s96, s97, v17), h14))
    else
      aBin Try.prog .lss 3 s15 (.int .i64 0) fun v18 =>
      cBn v18 fun b19 =>
      bif b19 then
        ld1 (.pointer (some ⟨h9.length, 2, none⟩)) h14 fun v20 =>
        cIn .i64 v20 fun n21 =>
        ixA 2 1 s9 1 fun v22 =>
        ld1 v22 h14 fun v23 =>
        cIn .i64 v23 fun n24 =>
        cl (rc md 37 [s14, (.int .i64 n21), (.int .i64 n24)] h14) fun v25 h26 =>
        cBn v25 fun b27 =>
        bif b27 then
          J10_2b0b0b0 rc md s1 s2 s3 s6 s7 s9 s14 (.int .i64 1) (.pointer (some ⟨h9.length, 0, none⟩)) s43 s44 s45 s50 s51 s52 s96 s97 s98 h26
        else
          J10_2b0b0b0 rc md s1 s2 s3 s6 s7 s9 s14 (.int .i64 0) (.pointer (some ⟨h9.length, 0, none⟩)) s43 s44 s45 s50 s51 s52 s96 s97 s98 h26
      else
        J10_2b0b0b0 rc md s1 s2 s3 s6 s7 s9 s14 s15 (.pointer (some ⟨h9.length, 0, none⟩)) s43 s44 s45 s50 s51 s52 s96 s97 s98 h14
  else
    some (.inr ((.exit 6), (s1, s2, s3, s6, s7, s9, s14, s15, s43, s44, s45, s50, s51, s52, s96, s97, s98), h))
noncomputable def Jr10_2b0b0H (rc : Rec) (md : Md) (X0 : T → Heap → Option (((Value × Value × Value × Value × Value × Value × Value × Value × Value × Value × Value × Value × Value × Value × Value × Value × Value) × Heap) ⊕ (Exit × (Value × Value × Value × Value × Value × Value × Value × Value × Value × Value × Value × Value × Value × Value × Value × Value × Value) × Heap))) (t : T) (h : Heap) : Option (((Value × Value × Value × Value × Value × Value × Value × Value × Value × Value × Value × Value × Value × Value × Value × Value × Value) × Heap) ⊕ (Exit × (Value × Value × Value × Value × Value × Value × Value × Value × Value × Value × Value × Value × Value × Value × Value × Value × Value) × Heap)) :=
  aBin Try.prog .lss 3 (t 98) (t 97) fun v1 =>
  cBn v1 fun b2 =>
  bif b2 then
    ixSV 1 (t 96) (t 98) fun v3 =>
    ld1 v3 h fun v4 =>
    cIn .i64 v4 fun n5 =>
    fA 0 (t 1) fun v6 =>
    ldN 3 v6 h fun v7 =>
    cl (rc md 42 [v7, (.int .i64 n5)] h) fun v8 h9 =>
    exT v8 0 fun v10 =>
    exT v8 1 fun v11 =>
    cBn v11 fun b12 =>
    let h13 : Heap := h9 ++ [.own [(.bool false), (.int .i64 0), (.int .i64 0), (.int .i64 0), (.int .i64 0)]]
    st md 5 (.pointer (some ⟨h9.length, 0, none⟩)) v10 h13 fun h14 =>
    ld1 (.pointer (some ⟨h9.length, 0, none⟩)) h14 fun v15 =>
    cBn v15 fun b16 =>
    bif b16 then
      aBin Try.prog .add 3 (t 98) (.int .i64 1) fun v17 =>
      some (.inl (((t 1), (t 2), (t 3), (t 6), (t 7), (t 9), (t 14), (t 15), (t 43), (t 44), (t 45), (t 50), (t 51), (t 52), (t 96), (t 97), v17), h14))
    else
      aBin Try.prog .lss 3 (t 15) (.int .i64 0) fun v18 =>
      cBn v18 fun b19 =>
      bif b19 then
        ld1 (.pointer (some ⟨h9.length, 2, none⟩)) h14 fun v20 =>
        cIn .i64 v20 fun n21 =>
        ixA 2 1 (t 9) 1 fun v22 =>
        ld1 v22 h14 fun v23 =>
        cIn .i64 v23 fun n24 =>
        cl (rc md 37 [(t 14), (.int .i64 n21), (.int .i64 n24)] h14) fun v25 h26 =>
        cBn v25 fun b27 =>
        bif b27 then
          X0 (upd (upd (upd (upd (upd (upd (upd (upd (upd (upd (upd (upd (upd (upd (upd (upd (upd (upd (upd (upd (upd (upd (upd (upd (upd t 99 v1) 100 v3) 101 (.int .i64 n5)) 17 (.int .i64 n5)) 103 v6) 104 v7) 105 (.int .i64 n5)) 106 v8) 102 v8) 107 v10) 108 (.bool b12)) 18 (.pointer (some ⟨h9.length, 0, none⟩))) 19 (.bool b12)) 109 (.pointer (some ⟨h9.length, 0, none⟩))) 110 (.bool b16)) 111 (t 15)) 112 v18) 15 (.int .i64 0)) 113 (t 14)) 114 (.pointer (some ⟨h9.length, 2, none⟩))) 115 (.int .i64 n21)) 116 v22) 117 (.int .i64 n24)) 118 (.bool b27)) 15 (.int .i64 1)) h26
        else
          X0 (upd (upd (upd (upd (upd (upd (upd (upd (upd (upd (upd (upd (upd (upd (upd (upd (upd (upd (upd (upd (upd (upd (upd (upd t 99 v1) 100 v3) 101 (.int .i64 n5)) 17 (.int .i64 n5)) 103 v6) 104 v7) 105 (.int .i64 n5)) 106 v8) 102 v8) 107 v10) 108 (.bool b12)) 18 (.pointer (some ⟨h9.length, 0, none⟩))) 19 (.bool b12)) 109 (.pointer (some ⟨h9.length, 0, none⟩))) 110 (.bool b16)) 111 (t 15)) 112 v18) 15 (.int .i64 0)) 113 (t 14)) 114 (.pointer (some ⟨h9.length, 2, none⟩))) 115 (.int .i64 n21)) 116 v22) 117 (.int .i64 n24)) 118 (.bool b27)) h26
      else
        X0 (upd (upd (upd (upd (upd (upd (upd (upd (upd (upd (upd (upd (upd (upd (upd (upd (upd t 99 v1) 100 v3) 101 (.int .i64 n5)) 17 (.int .i64 n5)) 103 v6) 104 v7) 105 (.int .i64 n5)) 106 v8) 102 v8) 107 v10) 108 (.bool b12)) 18 (.pointer (some ⟨h9.length, 0, none⟩))) 19 (.bool b12)) 109 (.pointer (some ⟨h9.length, 0, none⟩))) 110 (.bool b16)) 111 (t 15)) 112 v18) h14
  else
    some (.inr ((.exit 6), ((t 1), (t 2), (t 3), (t 6), (t 7), (t 9), (t 14), (t 15), (t 43), (t 44), (t 45), (t 50), (t 51), (t 52), (t 96), (t 97), (t 98)), h))
theorem Jr10_2b0b0_h1 (rc : Rec) (md : Md) (X : Nat → T → Heap → Option (((Value × Value × Value × Value × Value × Value × Value × Value × Value × Value × Value × Value × Value × Value × Value × Value × Value) × Heap) ⊕ (Exit × (Value × Value × Value × Value × Value × Value × Value × Value × Value × Value × Value × Value × Value × Value × Value × Value × Value) × Heap))) (t : T) (h : Heap) : execG Try.prog cfg X rc md 133 (replS (sub (bodyOf Try.prog 10) [1, 1, 1, 1, 1, 0, 1, 0, 0, 1, 1, 0, 0, 1, 1, 0, 0, 1, 1, 0, 0, 1, 1, 1, 1, 1, 1, 1, 0, 1, 0, 0]) [([1, 1, 0, 0, 1, 1, 1, 1], 0)]) (rndK (fun t => (t 1, t 2, t 3, t 6, t 7, t 9, t 14, t 15, t 43, t 44, t 45, t 50, t 51, t 52, t 96, t 97, t 98))) t h = Jr10_2b0b0H rc md (X 0) t h := by kernel_rfl
theorem Jr10_2b0b0_h2 (rc : Rec) (md : Md) (t : T) (h : Heap) : Jr10_2b0b0H rc md (fun t h => J10_2b0b0b0 rc md (t 1) (t 2) (t 3) (t 6) (t 7) (t 9) (t 14) (t 15) (t 18) (t 43) (t 44) (t 45) (t 50) (t 51) (t 52) (t 96) (t 97) (t 98) h) t h = Jr10_2b0b0 rc md (t 1) (t 2) (t 3) (t 6) (t 7) (t 9) (t 14) (t 15) (t 43) (t 44) (t 45) (t 50) (t 51) (t 52) (t 96) (t 97) (t 98) h := by unfold Jr10_2b0b0H Jr10_2b0b0; kernel_rfl
theorem Jr10_2b0b0_at (rc : Rec) (md : Md) (t : T) (h : Heap) : exec Try.prog cfg rc md 133 (sub (bodyOf Try.prog 10) [1, 1, 1, 1, 1, 0, 1, 0, 0, 1, 1, 0, 0, 1, 1, 0, 0, 1, 1, 0, 0, 1, 1, 1, 1, 1, 1, 1, 0, 1, 0, 0]) (rndK (fun t => (t 1, t 2, t 3, t 6, t 7, t 9, t 14, t 15, t 43, t 44, t 45, t 50, t 51, t 52, t 96, t 97, t 98))) t h = Jr10_2b0b0 rc md (t 1) (t 2) (t 3) (t 6) (t 7) (t 9) (t 14) (t 15) (t 43) (t 44) (t 45) (t 50) (t 51) (t 52) (t 96) (t 97) (t 98) h := by
  rw [exec_holes [([1, 1, 0, 0, 1, 1, 1, 1], 0)] (by kernel_rfl), Jr10_2b0b0_h1, show (goX Try.prog cfg rc md 133 (sub (bodyOf Try.prog 10) [1, 1, 1, 1, 1, 0, 1, 0, 0, 1, 1, 0, 0, 1, 1, 0, 0, 1, 1, 0, 0, 1, 1, 1, 1, 1, 1, 1, 0, 1, 0, 0]) [([1, 1, 0, 0, 1, 1, 1, 1], 0)] (rndK (fun t => (t 1, t 2, t 3, t 6, t 7, t 9, t 14, t 15, t 43, t 44, t 45, t 50, t 51, t 52, t 96, t 97, t 98)))) 0 = _ from J10_2b0b0b0_cut rc md]
  exact Jr10_2b0b0_h2 rc md t h
noncomputable def J10_2b0b0 (rc : Rec) (md : Md) (s1 : Value) (s2 : Value) (s3 : Value) (s6 : Value) (s7 : Value) (s9 : Value) (s14 : Value) (s15 : Value) (s43 : Value) (s44 : Value) (s45 : Value) (s50 : Value) (s51 : Value) (s52 : Value) (s96 : Value) (s97 : Value) (s98 : Value) (h : Heap) : Option (((Value × Value × Value × Value × Value × Value × Value × Value × Value × Value × Value) × Heap) ⊕ (Exit × (Value × Value × Value × Value × Value × Value × Value × Value × Value × Value × Value) × Heap)) :=
  runL (fun x : (Value × Value × Value × Value × Value × Value × Value × Value × Value × Value × Value × Value × Value × Value × Value × Value × Value) × Heap => Jr10_2b0b0 rc md x.1.1 x.1.2.1 x.1.2.2.1 x.1.2.2.2.1 x.1.2.2.2.2.1 x.1.2.2.2.2.2.1 x.1.2.2.2.2.2.2.1 x.1.2.2.2.2.2.2.2.1 x.1.2.2.2.2.2.2.2.2.1 x.1.2.2.2.2.2.2.2.2.2.1 x.1.2.2.2.2.2.2.2.2.2.2.1 x.1.2.2.2.2.2.2.2.2.2.2.2.1 x.1.2.2.2.2.2.2.2.2.2.2.2.2.1 x.1.2.2.2.2.2.2.2.2.2.2.2.2.2.1 x.1.2.2.2.2.2.2.2.2.2.2.2.2.2.2.1 x.1.2.2.2.2.2.2.2.2.2.2.2.2.2.2.2.1 x.1.2.2.2.2.2.2.2.2.2.2.2.2.2.2.2.2 x.2) (fun e (s : Value × Value × Value × Value × Value × Value × Value × Value × Value × Value × Value × Value × Value × Value × Value × Value × Value) h => Jk10_2b0b0 rc md e s.1 s.2.1 s.2.2.1 s.2.2.2.1 s.2.2.2.2.1 s.2.2.2.2.2.1 s.2.2.2.2.2.2.1 s.2.2.2.2.2.2.2.1 s.2.2.2.2.2.2.2.2.1 s.2.2.2.2.2.2.2.2.2.1 s.2.2.2.2.2.2.2.2.2.2.1 s.2.2.2.2.2.2.2.2.2.2.2.1 s.2.2.2.2.2.2.2.2.2.2.2.2.1 s.2.2.2.2.2.2.2.2.2.2.2.2.2.1 s.2.2.2.2.2.2.2.2.2.2.2.2.2.2.1 s.2.2.2.2.2.2.2.2.2.2.2.2.2.2.2.1 s.2.2.2.2.2.2.2.2.2.2.2.2.2.2.2.2 h) (s1, s2, s3, s6, s7, s9, s14, s15, s43, s44, s45, s50, s51, s52, s96, s97, s98) h
theorem J10_2b0b0_step (rc : Rec) (md : Md) (s1 : Value) (s2 : Value) (s3 : Value) (s6 : Value) (s7 : Value) (s9 : Value) (s14 : Value) (s15 : Value) (s43 : Value) (s44 : Value) (s45 : Value) (s50 : Value) (s51 : Value) (s52 : Value) (s96 : Value) (s97 : Value) (s98 : Value) (h : Heap) : J10_2b0b0 rc md s1 s2 s3 s6 s7 s9 s14 s15 s43 s44 s45 s50 s51 s52 s96 s97 s98 h = (Jr10_2b0b0 rc md s1 s2 s3 s6 s7 s9 s14 s15 s43 s44 s45 s50 s51 s52 s96 s97 s98 h).bind fun x => match x with
    | .inl (s, h) => J10_2b0b0 rc md s.1 s.2.1 s.2.2.1 s.2.2.2.1 s.2.2.2.2.1 s.2.2.2.2.2.1 s.2.2.2.2.2.2.1 s.2.2.2.2.2.2.2.1 s.2.2.2.2.2.2.2.2.1 s.2.2.2.2.2.2.2.2.2.1 s.2.2.2.2.2.2.2.2.2.2.1 s.2.2.2.2.2.2.2.2.2.2.2.1 s.2.2.2.2.2.2.2.2.2.2.2.2.1 s.2.2.2.2.2.2.2.2.2.2.2.2.2.1 s.2.2.2.2.2.2.2.2.2.2.2.2.2.2.1 s.2.2.2.2.2.2.2.2.2.2.2.2.2.2.2.1 s.2.2.2.2.2.2.2.2.2.2.2.2.2.2.2.2 h
    | .inr (e, s, h) => Jk10_2b0b0 rc md e s.1 s.2.1 s.2.2.1 s.2.2.2.1 s.2.2.2.2.1 s.2.2.2.2.2.1 s.2.2.2.2.2.2.1 s.2.2.2.2.2.2.2.1 s.2.2.2.2.2.2.2.2.1 s.2.2.2.2.2.2.2.2.2.1 s.2.2.2.2.2.2.2.2.2.2.1 s.2.2.2.2.2.2.2.2.2.2.2.1 s.2.2.2.2.2.2.2.2.2.2.2.2.1 s.2.2.2.2.2.2.2.2.2.2.2.2.2.1 s.2.2.2.2.2.2.2.2.2.2.2.2.2.2.1 s.2.2.2.2.2.2.2.2.2.2.2.2.2.2.2.1 s.2.2.2.2.2.2.2.2.2.2.2.2.2.2.2.2 h := by
  unfold J10_2b0b0
  rw [runL_eq]
  refine congrArg (Option.bind _) (funext fun x => ?_)
  rcases x with ⟨s, h⟩ | ⟨e, s, h⟩ <;> rfl
theorem J10_2b0b0_cut (rc : Rec) (md : Md) : cut Try.prog cfg rc md 133 (sub (bodyOf Try.prog 10) [1, 1, 1, 1, 1, 0, 1, 0, 0, 1, 1, 0, 0, 1, 1, 0, 0]) [1, 1, 0, 0, 1, 1, 1, 1, 1, 1, 1, 0, 1, 0] (rndK (fun t => (t 1, t 2, t 3, t 6, t 7, t 43, t 44, t 45, t 50, t 51, t 52))) = fun t h => J10_2b0b0 rc md (t 1) (t 2) (t 3) (t 6) (t 7) (t 9) (t 14) (t 15) (t 43) (t 44) (t 45) (t 50) (t 51) (t 52) (t 96) (t 97) (t 98) h := by
  funext t h
  have e : sub (sub (bodyOf Try.prog 10) [1, 1, 1, 1, 1, 0, 1, 0, 0, 1, 1, 0, 0, 1, 1, 0, 0]) [1, 1, 0, 0, 1, 1, 1, 1, 1, 1, 1, 0, 1, 0] = .loop (sub (bodyOf Try.prog 10) [1, 1, 1, 1, 1, 0, 1, 0, 0, 1, 1, 0, 0, 1, 1, 0, 0, 1, 1, 0, 0, 1, 1, 1, 1, 1, 1, 1, 0, 1, 0, 0]) := by kernel_rfl
  unfold cut
  rw [e]
  exact loop_eq (by kernel_rfl) (fun t => (t 1, t 2, t 3, t 6, t 7, t 9, t 14, t 15, t 43, t 44, t 45, t 50, t 51, t 52, t 96, t 97, t 98)) (fun x : (Value × Value × Value × Value × Value × Value × Value × Value × Value × Value × Value × Value × Value × Value × Value × Value × Value) × Heap => Jr10_2b0b0 rc md x.1.1 x.1.2.1 x.1.2.2.1 x.1.2.2.2.1 x.1.2.2.2.2.1 x.1.2.2.2.2.2.1 x.1.2.2.2.2.2.2.1 x.1.2.2.2.2.2.2.2.1 x.1.2.2.2.2.2.2.2.2.1 x.1.2.2.2.2.2.2.2.2.2.1 x.1.2.2.2.2.2.2.2.2.2.2.1 x.1.2.2.2.2.2.2.2.2.2.2.2.1 x.1.2.2.2.2.2.2.2.2.2.2.2.2.1 x.1.2.2.2.2.2.2.2.2.2.2.2.2.2.1 x.1.2.2.2.2.2.2.2.2.2.2.2.2.2.2.1 x.1.2.2.2.2.2.2.2.2.2.2.2.2.2.2.2.1 x.1.2.2.2.2.2.2.2.2.2.2.2.2.2.2.2.2 x.2) (fun t h => Jr10_2b0b0_at rc md t h) (fun e (s : Value × Value × Value × Value × Value × Value × Value × Value × Value × Value × Value × Value × Value × Value × Value × Value × Value) h => Jk10_2b0b0 rc md e s.1 s.2.1 s.2.2.1 s.2.2.2.1 s.2.2.2.2.1 s.2.2.2.2.2.1 s.2.2.2.2.2.2.1 s.2.2.2.2.2.2.2.1 s.2.2.2.2.2.2.2.2.1 s.2.2.2.2.2.2.2.2.2.1 s.2.2.2.2.2.2.2.2.2.2.1 s.2.2.2.2.2.2.2.2.2.2.2.1 s.2.2.2.2.2.2.2.2.2.2.2.2.1 s.2.2.2.2.2.2.2.2.2.2.2.2.2.1 s.2.2.2.2.2.2.2.2.2.2.2.2.2.2.1 s.2.2.2.2.2.2.2.2.2.2.2.2.2.2.2.1 s.2.2.2.2.2.2.2.2.2.2.2.2.2.2.2.2 h) (fun e t h => Jk10_2b0b0_at rc md e t h) t h
/-- a round -/
noncomputable def Jr10_2b0 (rc : Rec) (md : Md) (s1 : Value) (s2 : Value) (s3 : Value) (s6 : Value) (s7 : Value) (s43 : Value) (s44 : Value) (s45 : Value) (s50 : Value) (s51 : Value) (s52 : Value) (h : Heap) : Option (((Value × Value × Value × Value × Value × Value × Value × Value × Value × Value × Value) × Heap) ⊕ (Exit × (Value × Value × Value × Value × Value × Value × Value × Value × Value × Value × Value) × Heap)) :=
  aBin Try.prog .lss 3 s52 s51 fun v1 =>
  cBn v1 fun b2 =>
  bif b2 then
    ixSV 2 s50 s52 fun v3 =>
    ldN 2 v3 h fun v4 =>
    let h5 : Heap := h ++ [.own [(.int .i64 0), (.int .i64 0)]]
    st md 2 (.pointer (some ⟨h.length, 0, none⟩)) v4 h5 fun h6 =>
    ixA 2 1 (.pointer (some ⟨h.length, 0, none⟩)) 0 fun v7 =>
    ld1 v7 h6 fun v8 =>
    cIn .i64 v8 fun n9 =>
    bif (decide (n9 < 0)) then
      aBin Try.prog .add 3 s52 (.int .i64 1) fun v10 =>
      some (.inl ((s1, s2, s3, s6, s7, s43, s44, s45, s50, s51, v10), h6))
    else
      fA 0 s1 fun v11 =>
      ldN 3 v11 h6 fun v12 =>
      cl (rc md 40 [v12, s52, s6, (.int .i64 0)] h6) fun v13 h14 =>
      cIn .i64 v13 fun n15 =>
      fA 0 s1 fun v16 =>
      ldN 3 v16 h14 fun v17 =>
      cl (rc md 40 [v17, s52, s6, (.int .i64 1)] h14) fun v18 h19 =>
      cIn .i64 v18 fun n20 =>
      bif okNil Try.prog s3 then
      fA 3 s3 fun v21 =>
      fA 0 v21 fun v22 =>
      ldN 6 v22 h19 fun v23 =>
      bif okNil Try.prog s3 then
      fA 3 s3 fun v24 =>
      fA 0 v24 fun v25 =>
      ldN 6 v25 h19 fun v26 =>
      cl (rc md 21 [v26, (.int .i64 n15)] h19) fun v27 h28 =>
      cIn .i64 v27 fun n29 =>
      cLE true (fun hq => ldN 6 v22 hq some) v23 h19 h28 <|
      cl (rc md 20 [v23, (.int .i64 n29)] h28) fun v30 h31 =>
      cl (rc md 41 [v30, (.int .i64 n15), (.int .i64 n20)] h31) fun v32 h33 =>
      exT v32 0 fun v34 =>
      exT v32 1 fun v35 =>
      let h36 : Heap := h33 ++ [.own []]
      aBuiltin Try.prog md .append #[81, 81] [(.slice (some ⟨h33.length, 0, none⟩) 0 2), s7] h36 fun v37 h38 =>
      ixSV 2 v37 s52 fun v39 =>
      st md 2 v39 (.agg #[(.int .i64 (-1)), (.int .i64 (-1))]) h38 fun h40 =>
      lenS v34 fun v41 =>
      cIn .i64 v41 fun n42 =>
      J10_2b0b0 rc md s1 s2 s3 s6 s7 (.pointer (some ⟨h.length, 0, none⟩)) v37 (.int .i64 (-1)) s43 s44 s45 s50 s51 s52 v34 (.int .i64 n42) (.int .i64 0) h40
      else none
      else none
  else
    some (.inr ((.exit 4), (s1, s2, s3, s6, s7, s43, s44, s45, s50, s51, s52), h))
noncomputable def Jr10_2b0H (rc : Rec) (md : Md) (X0 : T → Heap → Option (((Value × Value × Value × Value × Value × Value × Value × Value × Value × Value × Value) × Heap) ⊕ (Exit × (Value × Value × Value × Value × Value × Value × Value × Value × Value × Value × Value) × Heap))) (t : T) (h : Heap) : Option (((Value × Value × Value × Value × Value × Value × Value × Value × Value × Value × Value) × Heap) ⊕ (Exit × (Value × Value × Value × Value × Value × Value × Value × Value × Value × Value × Value) × Heap)) :=
  aBin Try.prog .lss 3 (t 52) (t 51) fun v1 =>
  cBn v1 fun b2 =>
  bif b2 then
    ixSV 2 (t 50) (t 52) fun v3 =>
    ldN 2 v3 h fun v4 =>
    let h5 : Heap := h ++ [.own [(.int .i64 0), (.int .i64 0)]]
    st md 2 (.pointer (some ⟨h.length, 0, none⟩)) v4 h5 fun h6 =>
    ixA 2 1 (.pointer (some ⟨h.length, 0, none⟩)) 0 fun v7 =>
    ld1 v7 h6 fun v8 =>
    cIn .i64 v8 fun n9 =>
    bif (decide (n9 < 0)) then
      aBin Try.prog .add 3 (t 52) (.int .i64 1) fun v10 =>
      some (.inl (((t 1), (t 2), (t 3), (t 6), (t 7), (t 43), (t 44), (t 45), (t 50), (t 51), v10), h6))
    else
      fA 0 (t 1) fun v11 =>
      ldN 3 v11 h6 fun v12 =>
      cl (rc md 40 [v12, (t 52), (t 6), (.int .i64 0)] h6) fun v13 h14 =>
      cIn .i64 v13 fun n15 =>
      fA 0 (t 1) fun v16 =>
      ldN 3 v16 h14 fun v17 =>
      cl (rc md 40 [v17, (t 52), (t 6), (.int .i64 1)] h14) fun v18 h19 =>
      cIn .i64 v18 fun n20 =>
      bif okNil Try.prog (t 3) then
      fA 3 (t 3) fun v21 =>
      fA 0 v21 fun v22 =>
      ldN 6 v22 h19 fun v23 =>
      bif okNil Try.prog (t 3) then
      fA 3 (t 3) fun v24 =>
      fA 0 v24 fun v25 =>
      ldN 6 v25 h19 fun v26 =>
      cl (rc md 21 [v26, (.int .i64 n15)] h19) fun v27 h28 =>
      cIn .i64 v27 fun n29 =>
      cLE true (fun hq => ldN 6 v22 hq some) v23 h19 h28 <|
      cl (rc md 20 [v23, (.int .i64 n29)] h28) fun v30 h31 =>
      cl (rc md 41 [v30, (.int .i64 n15), (.int .i64 n20)] h31) fun v32 h33 =>
      exT v32 0 fun v34 =>
      exT v32 1 fun v35 =>
      let h36 : Heap := h33 ++ [.own []]
      aBuiltin Try.prog md .append #[81, 81] [(.slice (some ⟨h33.length, 0, none⟩) 0 2), (t 7)] h36 fun v37 h38 =>
      ixSV 2 v37 (t 52) fun v39 =>
      st md 2 v39 (.agg #[(.int .i64 (-1)), (.int .i64 (-1))]) h38 fun h40 =>
      lenS v34 fun v41 =>
      cIn .i64 v41 fun n42 =>
      X0 (upd (upd (upd (upd (upd (upd (upd (upd (upd (upd (upd (upd (upd (upd (upd (upd (upd (upd (upd (upd (upd (upd (upd (upd (upd (upd (upd (upd (upd (upd (upd (upd (upd (upd (upd (upd (upd (upd (upd (upd (upd (upd (upd (upd (upd (upd (upd (upd (upd (upd (upd (upd (upd (upd t 53 v1) 54 (t 52)) 55 v3) 56 v4) 9 (.pointer (some ⟨h.length, 0, none⟩))) 8 (t 52)) 57 v7) 58 (.int .i64 n9)) 59 (.bool (decide (n9 < 0)))) 60 v11) 61 v12) 62 (t 52)) 63 (t 6)) 64 (.int .i64 n15)) 65 v16) 66 v17) 67 (t 52)) 68 (t 6)) 69 (.int .i64 n20)) 10 (.int .i64 n15)) 11 (.int .i64 n20)) 71 (t 3)) 72 (t 3)) 73 v21) 74 v22) 75 v23) 76 (t 3)) 77 (t 3)) 78 v24) 79 v25) 80 v26) 81 (.int .i64 n15)) 82 (.int .i64 n29)) 83 v30) 84 (.int .i64 n15)) 85 (.int .i64 n20)) 86 v32) 70 v32) 87 v34) 88 v35) 12 v34) 13 v35) 89 (.slice (some ⟨h33.length, 0, none⟩) 0 2)) 90 (t 7)) 91 v37) 14 v37) 92 v37) 93 (t 52)) 94 (.agg #[(.int .i64 (-1)), (.int .i64 (-1))])) 95 v39) 15 (.int .i64 (-1))) 96 v34) 97 (.int .i64 n42)) 98 (.int .i64 0)) h40
      else none
      else none
  else
    some (.inr ((.exit 4), ((t 1), (t 2), (t 3), (t 6), (t 7), (t 43), (t 44), (t 45), (t 50), (t 51), (t 52)), h))
theorem Jr10_2b0_h1 (rc : Rec) (md : Md) (X : Nat → T → Heap → Option (((Value × Value × Value × Value × Value × Value × Value × Value × Value × Value × Value) × Heap) ⊕ (Exit × (Value × Value × Value × Value × Value × Value × Value × Value × Value × Value × Value) × Heap))) (t : T) (h : Heap) : execG Try.prog cfg X rc md 133 (replS (sub (bodyOf Try.prog 10) [1, 1, 1, 1, 1, 0, 1, 0, 0, 1, 1, 0, 0, 1, 1, 0, 0]) [([1, 1, 0, 0, 1, 1, 1, 1, 1, 1, 1, 0, 1, 0], 0), ([1, 1, 0, 0, 1, 1, 1, 1, 1, 1, 1, 1], 1)]) (rndK (fun t => (t 1, t 2, t 3, t 6, t 7, t 43, t 44, t 45, t 50, t 51, t 52))) t h = Jr10_2b0H rc md (X 0) t h := by kernel_rfl
theorem Jr10_2b0_h2 (rc : Rec) (md : Md) (t : T) (h : Heap) : Jr10_2b0H rc md (fun t h => J10_2b0b0 rc md (t 1) (t 2) (t 3) (t 6) (t 7) (t 9) (t 14) (t 15) (t 43) (t 44) (t 45) (t 50) (t 51) (t 52) (t 96) (t 97) (t 98) h) t h = Jr10_2b0 rc md (t 1) (t 2) (t 3) (t 6) (t 7) (t 43) (t 44) (t 45) (t 50) (t 51) (t 52) h := by unfold Jr10_2b0H Jr10_2b0; kernel_rfl
theorem Jr10_2b0_at (rc : Rec) (md : Md) (t : T) (h : Heap) : exec Try.prog cfg rc md 133 (sub (bodyOf Try.prog 10) [1, 1, 1, 1, 1, 0, 1, 0, 0, 1, 1, 0, 0, 1, 1, 0, 0]) (rndK (fun t => (t 1, t 2, t 3, t 6, t 7, t 43, t 44, t 45, t 50, t 51, t 52))) t h = Jr10_2b0 rc md (t 1) (t 2) (t 3) (t 6) (t 7) (t 43) (t 44) (t 45) (t 50) (t 51) (t 52) h := by
  rw [exec_holes [([1, 1, 0, 0, 1, 1, 1, 1, 1, 1, 1, 0, 1, 0], 0), ([1, 1, 0, 0, 1, 1, 1, 1, 1, 1, 1, 1], 1)] (by kernel_rfl), Jr10_2b0_h1, show (goX Try.prog cfg rc md 133 (sub (bodyOf Try.prog 10) [1, 1, 1, 1, 1, 0, 1, 0, 0, 1, 1, 0, 0, 1, 1, 0, 0]) [([1, 1, 0, 0, 1, 1, 1, 1, 1, 1, 1, 0, 1, 0], 0), ([1, 1, 0, 0, 1, 1, 1, 1, 1, 1, 1, 1], 1)] (rndK (fun t => (t 1, t 2, t 3, t 6, t 7, t 43, t 44, t 45, t 50, t 51, t 52)))) 0 = _ from J10_2b0b0_cut rc md]
  exact Jr10_2b0_h2 rc md t h
noncomputable def J10_2b0 (rc : Rec) (md : Md) (s1 : Value) (s2 : Value) (s3 : Value) (s6 : Value) (s7 : Value) (s43 : Value) (s44 : Value) (s45 : Value) (s50 : Value) (s51 : Value) (s52 : Value) (h : Heap) : Option (((Value × Value × Value × Value × Value × Value) × Heap) ⊕ (Exit × (Value × Value × Value × Value × Value × Value) × Heap)) :=
  runL (fun x : (Value × Value × Value × Value × Value × Value × Value × Value × Value × Value × Value) × Heap => Jr10_2b0 rc md x.1.1 x.1.2.1 x.1.2.2.1 x.1.2.2.2.1 x.1.2.2.2.2.1 x.1.2.2.2.2.2.1 x.1.2.2.2.2.2.2.1 x.1.2.2.2.2.2.2.2.1 x.1.2.2.2.2.2.2.2.2.1 x.1.2.2.2.2.2.2.2.2.2.1 x.1.2.2.2.2.2.2.2.2.2.2 x.2) (fun e (s : Value × Value × Value × Value × Value × Value × Value × Value × Value × Value × Value) h => Jk10_2b0 rc md e s.1 s.2.1 s.2.2.1 s.2.2.2.1 s.2.2.2.2.1 s.2.2.2.2.2.1 s.2.2.2.2.2.2.1 s.2.2.2.2.2.2.2.1 s.2.2.2.2.2.2.2.2.1 s.2.2.2.2.2.2.2.2.2.1 s.2.2.2.2.2.2.2.2.2.2 h) (s1, s2, s3, s6, s7, s43, s44, s45, s50, s51, s52) h
theorem J10_2b0_step (rc : Rec) (md : Md) (s1 : Value) (s2 : Value) (s3 : Value) (s6 : Value) (s7 : Value) (s43 : Value) (s44 : Value) (s45 : Value) (s50 : Value) (s51 : Value) (s52 : Value) (h : Heap) : J10_2b0 rc md s1 s2 s3 s6 s7 s43 s44 s45 s50 s51 s52 h = (Jr10_2b0 rc md s1 s2 s3 s6 s7 s43 s44 s45 s50 s51 s52 h).bind fun x => match x with
    | .inl (s, h) => J10_2b0 rc md s.1 s.2.1 s.2.2.1 s.2.2.2.1 s.2.2.2.2.1 s.2.2.2.2.2.1 s.2.2.2.2.2.2.1 s.2.2.2.2.2.2.2.1 s.2.2.2.2.2.2.2.2.1 s.2.2.2.2.2.2.2.2.2.1 s.2.2.2.2.2.2.2.2.2.2 h
    | .inr (e, s, h) => Jk10_2b0 rc md e s.1 s.2.1 s.2.2.1 s.2.2.2.1 s.2.2.2.2.1 s.2.2.2.2.2.1 s.2.2.2.2.2.2.1 s.2.2.2.2.2.2.2.1 s.2.2.2.2.2.2.2.2.1 s.2.2.2.2.2.2.2.2.2.1 s.2.2.2.2.2.2.2.2.2.2 h := by
  unfold J10_2b0
  rw [runL_eq]
  refine congrArg (Option.bind _) (funext fun x => ?_)
  rcases x with ⟨s, h⟩ | ⟨e, s, h⟩ <;> rfl
theorem J10_2b0_cut (rc : Rec) (md : Md) : cut Try.prog cfg rc md 133 (sub (bodyOf Try.prog 10) [1, 1, 1, 1, 1, 0, 1, 0, 0]) [1, 1, 0, 0, 1, 1, 0] (rndK (fun t => (t 1, t 2, t 3, t 43, t 44, t 45))) = fun t h => J10_2b0 rc md (t 1) (t 2) (t 3) (t 6) (t 7) (t 43) (t 44) (t 45) (t 50) (t 51) (t 52) h := by
  funext t h
  have e : sub (sub (bodyOf Try.prog 10) [1, 1, 1, 1, 1, 0, 1, 0, 0]) [1, 1, 0, 0, 1, 1, 0] = .loop (sub (bodyOf Try.prog 10) [1, 1, 1, 1, 1, 0, 1, 0, 0, 1, 1, 0, 0, 1, 1, 0, 0]) := by kernel_rfl
  unfold cut
  rw [e]
  exact loop_eq (by kernel_rfl) (fun t => (t 1, t 2, t 3, t 6, t 7, t 43, t 44, t 45, t 50, t 51, t 52)) (fun x : (Value × Value × Value × Value × Value × Value × Value × Value × Value × Value × Value) × Heap => Jr10_2b0 rc md x.1.1 x.1.2.1 x.1.2.2.1 x.1.2.2.2.1 x.1.2.2.2.2.1 x.1.2.2.2.2.2.1 x.1.2.2.2.2.2.2.1 x.1.2.2.2.2.2.2.2.1 x.1.2.2.2.2.2.2.2.2.1 x.1.2.2.2.2.2.2.2.2.2.1 x.1.2.2.2.2.2.2.2.2.2.2 x.2) (fun t h => Jr10_2b0_at rc md t h) (fun e (s : Value × Value × Value × Value × Value × Value × Value × Value × Value × Value × Value) h => Jk10_2b0 rc md e s.1 s.2.1 s.2.2.1 s.2.2.2.1 s.2.2.2.2.1 s.2.2.2.2.2.1 s.2.2.2.2.2.2.1 s.2.2.2.2.2.2.2.1 s.2.2.2.2.2.2.2.2.1 s.2.2.2.2.2.2.2.2.2.1 s.2.2.2.2.2.2.2.2.2.2 h) (fun e t h => Jk10_2b0_at rc md e t h) t h
/-- a round -/
noncomputable def Jr10_2 (rc : Rec) (md : Md) (s1 : Value) (s2 : Value) (s3 : Value) (s43 : Value) (s44 : Value) (s45 : Value) (h : Heap) : Option (((Value × Value × Value × Value × Value × Value) × Heap) ⊕ (Exit × (Value × Value × Value × Value × Value × Value) × Heap)) :=
  aBin Try.prog .lss 3 s45 s44 fun v1 =>
  cBn v1 fun b2 =>
  bif b2 then
    ixSV 1 s43 s45 fun v3 =>
    ld1 v3 h fun v4 =>
    lenS v4 fun v5 =>
    cIn .i64 v5 fun n6 =>
    J10_2b0 rc md s1 s2 s3 s45 v4 s43 s44 s45 v4 (.int .i64 n6) (.int .i64 0) h
  else
    some (.inr ((.exit 2), (s1, s2, s3, s43, s44, s45), h))
noncomputable def Jr10_2H (rc : Rec) (md : Md) (X0 : T → Heap → Option (((Value × Value × Value × Value × Value × Value) × Heap) ⊕ (Exit × (Value × Value × Value × Value × Value × Value) × Heap))) (t : T) (h : Heap) : Option (((Value × Value × Value × Value × Value × Value) × Heap) ⊕ (Exit × (Value × Value × Value × Value × Value × Value) × Heap)) :=
  aBin Try.prog .lss 3 (t 45) (t 44) fun v1 =>
  cBn v1 fun b2 =>
  bif b2 then
    ixSV 1 (t 43) (t 45) fun v3 =>
    ld1 v3 h fun v4 =>
    lenS v4 fun v5 =>
    cIn .i64 v5 fun n6 =>
    X0 (upd (upd (upd (upd (upd (upd (upd (upd (upd t 46 v1) 47 (t 45)) 48 v3) 49 v4) 6 (t 45)) 7 v4) 50 v4) 51 (.int .i64 n6)) 52 (.int .i64 0)) h
  else
    some (.inr ((.exit 2), ((t 1), (t 2), (t 3), (t 43), (t 44), (t 45)), h))
theorem Jr10_2_h1 (rc : Rec) (md : Md) (X : Nat → T → Heap → Option (((Value × Value × Value × Value × Value × Value) × Heap) ⊕ (Exit × (Value × Value × Value × Value × Value × Value) × Heap))) (t : T) (h : Heap) : execG Try.prog cfg X rc md 133 (replS (sub (bodyOf Try.prog 10) [1, 1, 1, 1, 1, 0, 1, 0, 0]) [([1, 1, 0, 0, 1, 1, 0], 0)]) (rndK (fun t => (t 1, t 2, t 3, t 43, t 44, t 45))) t h = Jr10_2H rc md (X 0) t h := by kernel_rfl
theorem Jr10_2_h2 (rc : Rec) (md : Md) (t : T) (h : Heap) : Jr10_2H rc md (fun t h => J10_2b0 rc md (t 1) (t 2) (t 3) (t 6) (t 7) (t 43) (t 44) (t 45) (t 50) (t 51) (t 52) h) t h = Jr10_2 rc md (t 1) (t 2) (t 3) (t 43) (t 44) (t 45) h := by unfold Jr10_2H Jr10_2; kernel_rfl
theorem Jr10_2_at (rc : Rec) (md : Md) (t : T) (h : Heap) : exec Try.prog cfg rc md 133 (sub (bodyOf Try.prog 10) [1, 1, 1, 1, 1, 0, 1, 0, 0]) (rndK (fun t => (t 1, t 2, t 3, t 43, t 44, t 45))) t h = Jr10_2 rc md (t 1) (t 2) (t 3) (t 43) (t 44) (t 45) h := by
  rw [exec_holes [([1, 1, 0, 0, 1, 1, 0], 0)] (by kernel_rfl), Jr10_2_h1, show (goX Try.prog cfg rc md 133 (sub (bodyOf Try.prog 10) [1, 1, 1, 1, 1, 0, 1, 0, 0]) [([1, 1, 0, 0, 1, 1, 0], 0)] (rndK (fun t => (t 1, t 2, t 3, t 43, t 44, t 45)))) 0 = _ from J10_2b0_cut rc md]
  exact Jr10_2_h2 rc md t h
noncomputable def J10_2 (rc : Rec) (md : Md) (h0 : Heap) (s1 : Value) (s2 : Value) (s3 : Value) (s43 : Value) (s44 : Value) (s45 : Value) (h : Heap) : Option (Value × Heap) :=
  runL (fun x : (Value × Value × Value × Value × Value × Value) × Heap => Jr10_2 rc md x.1.1 x.1.2.1 x.1.2.2.1 x.1.2.2.2.1 x.1.2.2.2.2.1 x.1.2.2.2.2.2 x.2) (fun e (s : Value × Value × Value × Value × Value × Value) h => Jk10_2 rc md h0 e s.1 s.2.1 s.2.2.1 s.2.2.2.1 s.2.2.2.2.1 s.2.2.2.2.2 h) (s1, s2, s3, s43, s44, s45) h
theorem J10_2_step (rc : Rec) (md : Md) (h0 : Heap) (s1 : Value) (s2 : Value) (s3 : Value) (s43 : Value) (s44 : Value) (s45 : Value) (h : Heap) : J10_2 rc md h0 s1 s2 s3 s43 s44 s45 h = (Jr10_2 rc md s1 s2 s3 s43 s44 s45 h).bind fun x => match x with
    | .inl (s, h) => J10_2 rc md h0 s.1 s.2.1 s.2.2.1 s.2.2.2.1 s.2.2.2.2.1 s.2.2.2.2.2 h
    | .inr (e, s, h) => Jk10_2 rc md h0 e s.1 s.2.1 s.2.2.1 s.2.2.2.1 s.2.2.2.2.1 s.2.2.2.2.2 h := by
  unfold J10_2
  rw [runL_eq]
  refine congrArg (Option.bind _) (funext fun x => ?_)
  rcases x with ⟨s, h⟩ | ⟨e, s, h⟩ <;> rfl
theorem J10_2_cut (rc : Rec) (md : Md) (h0 : Heap) : cut Try.prog cfg rc md 133 (bodyOf Try.prog 10) [1, 1, 1, 1, 1, 0, 1, 0] (retK Try.prog cfg 10 (rsOf Try.prog 10) h0) = fun t h => J10_2 rc md h0 (t 1) (t 2) (t 3) (t 43) (t 44) (t 45) h := by
  funext t h
  have e : sub (bodyOf Try.prog 10) [1, 1, 1, 1, 1, 0, 1, 0] = .loop (sub (bodyOf Try.prog 10) [1, 1, 1, 1, 1, 0, 1, 0, 0]) := by kernel_rfl
  unfold cut
  rw [e]
  exact loop_eq (by kernel_rfl) (fun t => (t 1, t 2, t 3, t 43, t 44, t 45)) (fun x : (Value × Value × Value × Value × Value × Value) × Heap => Jr10_2 rc md x.1.1 x.1.2.1 x.1.2.2.1 x.1.2.2.2.1 x.1.2.2.2.2.1 x.1.2.2.2.2.2 x.2) (fun t h => Jr10_2_at rc md t h) (fun e (s : Value × Value × Value × Value × Value × Value) h => Jk10_2 rc md h0 e s.1 s.2.1 s.2.2.1 s.2.2.2.1 s.2.2.2.2.1 s.2.2.2.2.2 h) (fun e t h => Jk10_2_at rc md h0 e t h) t h
noncomputable def J10_1 (rc : Rec) (md : Md) (h0 : Heap) (s1 : Value) (s2 : Value) (s3 : Value) (h : Heap) : Option (Value × Heap) :=
  bif okNil Try.prog s3 then
  fA 10 s3 fun v1 =>
  ld1 v1 h fun v2 =>
  lenS v2 fun v3 =>
  cIn .i64 v3 fun n4 =>
  J10_2 rc md h0 s1 s2 s3 v2 (.int .i64 n4) (.int .i64 0) h
  else none
noncomputable def J10_1H (rc : Rec) (md : Md) (h0 : Heap) (X1 : T → Heap → Option (Value × Heap)) (t : T) (h : Heap) : Option (Value × Heap) :=
  bif okNil Try.prog (t 3) then
  fA 10 (t 3) fun v1 =>
  ld1 v1 h fun v2 =>
  lenS v2 fun v3 =>
  cIn .i64 v3 fun n4 =>
  X1 (upd (upd (upd (upd (upd (upd t 40 (t 3)) 41 (t 3)) 42 v1) 43 v2) 44 (.int .i64 n4)) 45 (.int .i64 0)) h
  else none
theorem J10_1_h1 (rc : Rec) (md : Md) (h0 : Heap) (X : Nat → T → Heap → Option (Value × Heap)) (t : T) (h : Heap) : execG Try.prog cfg X rc md 133 (sub (replS (bodyOf Try.prog 10) [([1, 1, 1, 1, 0, 1, 0], 0), ([1, 1, 1, 1, 1, 0, 1, 0], 1)]) [1, 1, 1, 1, 1]) (kAtG Try.prog cfg X rc md 133 (replS (bodyOf Try.prog 10) [([1, 1, 1, 1, 0, 1, 0], 0), ([1, 1, 1, 1, 1, 0, 1, 0], 1)]) [1, 1, 1, 1, 1] (retK Try.prog cfg 10 (rsOf Try.prog 10) h0)) t h = J10_1H rc md h0 (X 1) t h := by kernel_rfl
theorem J10_1_h2 (rc : Rec) (md : Md) (h0 : Heap) (t : T) (h : Heap) : J10_1H rc md h0 (fun t h => J10_2 rc md h0 (t 1) (t 2) (t 3) (t 43) (t 44) (t 45) h) t h = J10_1 rc md h0 (t 1) (t 2) (t 3) h := by (unfold J10_1H J10_1; kernel_rfl)
theorem J10_1_at (rc : Rec) (md : Md) (h0 : Heap) (t : T) (h : Heap) : cut Try.prog cfg rc md 133 (bodyOf Try.prog 10) [1, 1, 1, 1, 1] (retK Try.prog cfg 10 (rsOf Try.prog 10) h0) t h = J10_1 rc md h0 (t 1) (t 2) (t 3) h := by
  rw [cut_holes [([1, 1, 1, 1, 0, 1, 0], 0), ([1, 1, 1, 1, 1, 0, 1, 0], 1)] [1, 1, 1, 1, 1] (by kernel_rfl), J10_1_h1, show (goX Try.prog cfg rc md 133 (bodyOf Try.prog 10) [([1, 1, 1, 1, 0, 1, 0], 0), ([1, 1, 1, 1, 1, 0, 1, 0], 1)] (retK Try.prog cfg 10 (rsOf Try.prog 10) h0)) 1 = _ from J10_2_cut rc md h0]
  exact J10_1_h2 rc md h0 t h
theorem J10_1_cut (rc : Rec) (md : Md) (h0 : Heap) : cut Try.prog cfg rc md 133 (bodyOf Try.prog 10) [1, 1, 1, 1, 1] (retK Try.prog cfg 10 (rsOf Try.prog 10) h0) = fun t h => J10_1 rc md h0 (t 1) (t 2) (t 3) h := funext fun t => funext fun h => J10_1_at rc md h0 t h
noncomputable def Jk10_0 (rc : Rec) (md : Md) (h0 : Heap) (e : Exit) (s1 : Value) (s2 : Value) (s3 : Value) (s29 : Value) (s30 : Value) (s31 : Value) (h : Heap) : Option (Value × Heap) :=
  match e with
  | .normal =>
    J10_1 rc md h0 s1 s2 s3 h
  | .exit j =>
    bif Nat.beq j 0 then
      J10_1 rc md h0 s1 s2 s3 h
    else
      none
  | .ret =>
    fin1 h0 s2 h
  | .goto l => none
  | .panic ps => none
  | .outgrown => none
noncomputable def Jk10_0H (rc : Rec) (md : Md) (h0 : Heap) (X2 : T → Heap → Option (Value × Heap)) (e : Exit) (t : T) (h : Heap) : Option (Value × Heap) :=
  match e with
  | .normal =>
    X2 t h
  | .exit j =>
    bif Nat.beq j 0 then
      X2 t h
    else
      none
  | .ret =>
    fin1 h0 (t 2) h
  | .goto l => none
  | .panic ps => none
  | .outgrown => none
theorem Jk10_0_h1 (rc : Rec) (md : Md) (h0 : Heap) (X : Nat → T → Heap → Option (Value × Heap)) (e : Exit) (t : T) (h : Heap) : kAtG Try.prog cfg X rc md 133 (replS (bodyOf Try.prog 10) [([1, 1, 1, 1, 1, 0, 1, 0], 1), ([1, 1, 1, 1, 1], 2)]) [1, 1, 1, 1, 0, 1, 0] (retK Try.prog cfg 10 (rsOf Try.prog 10) h0) e t h = Jk10_0H rc md h0 (X 2) e t h := by cases e <;> kernel_rfl
theorem Jk10_0_h2 (rc : Rec) (md : Md) (h0 : Heap) (e : Exit) (t : T) (h : Heap) : Jk10_0H rc md h0 (fun t h => J10_1 rc md h0 (t 1) (t 2) (t 3) h) e t h = Jk10_0 rc md h0 e (t 1) (t 2) (t 3) (t 29) (t 30) (t 31) h := by cases e <;> (unfold Jk10_0H Jk10_0; kernel_rfl)
theorem Jk10_0_at (rc : Rec) (md : Md) (h0 : Heap) (e : Exit) (t : T) (h : Heap) : kAt Try.prog cfg rc md 133 (bodyOf Try.prog 10) [1, 1, 1, 1, 0, 1, 0] (retK Try.prog cfg 10 (rsOf Try.prog 10) h0) e t h = Jk10_0 rc md h0 e (t 1) (t 2) (t 3) (t 29) (t 30) (t 31) h := by
  rw [kAt_holes [([1, 1, 1, 1, 1, 0, 1, 0], 1), ([1, 1, 1, 1, 1], 2)] [1, 1, 1, 1, 0, 1, 0] (by kernel_rfl), Jk10_0_h1, show (goX Try.prog cfg rc md 133 (bodyOf Try.prog 10) [([1, 1, 1, 1, 1, 0, 1, 0], 1), ([1, 1, 1, 1, 1], 2)] (retK Try.prog cfg 10 (rsOf Try.prog 10) h0)) 2 = _ from J10_1_cut rc md h0]
  exact Jk10_0_h2 rc md h0 e t h
/-- a round -/
noncomputable def Jr10_0 (rc : Rec) (md : Md) (s1 : Value) (s2 : Value) (s3 : Value) (s29 : Value) (s30 : Value) (s31 : Value) (h : Heap) : Option (((Value × Value × Value × Value × Value × Value) × Heap) ⊕ (Exit × (Value × Value × Value × Value × Value × Value) × Heap)) :=
  aBin Try.prog .lss 3 s31 s30 fun v1 =>
  cBn v1 fun b2 =>
  bif b2 then
    ixSV 5 s29 s31 fun v3 =>
    ldN 5 v3 h fun v4 =>
    let h5 : Heap := h ++ [.own [(.int .i64 0), (.int .i64 0), (.int .i64 0), (.int .i64 0), (.int .i64 0)]]
    st md 5 (.pointer (some ⟨h.length, 0, none⟩)) v4 h5 fun h6 =>
    ldN 5 (.pointer (some ⟨h.length, 0, none⟩)) h6 fun v7 =>
    cl (rc md 34 [s3, v7] h6) fun v8 h9 =>
    cBn v8 fun b10 =>
    bif !b10 then
      some (.inr (.ret, (s1, (.bool false), s3, s29, s30, s31), h9))
    else
      aBin Try.prog .add 3 s31 (.int .i64 1) fun v11 =>
      some (.inl ((s1, s2, s3, s29, s30, v11), h9))
  else
    some (.inr ((.exit 0), (s1, s2, s3, s29, s30, s31), h))
theorem Jr10_0_at (rc : Rec) (md : Md) (t : T) (h : Heap) : exec Try.prog cfg rc md 133 (sub (bodyOf Try.prog 10) [1, 1, 1, 1, 0, 1, 0, 0]) (rndK (fun t => (t 1, t 2, t 3, t 29, t 30, t 31))) t h = Jr10_0 rc md (t 1) (t 2) (t 3) (t 29) (t 30) (t 31) h := by kernel_rfl
noncomputable def J10_0 (rc : Rec) (md : Md) (h0 : Heap) (s1 : Value) (s2 : Value) (s3 : Value) (s29 : Value) (s30 : Value) (s31 : Value) (h : Heap) : Option (Value × Heap) :=
  runL (fun x : (Value × Value × Value × Value × Value × Value) × Heap => Jr10_0 rc md x.1.1 x.1.2.1 x.1.2.2.1 x.1.2.2.2.1 x.1.2.2.2.2.1 x.1.2.2.2.2.2 x.2) (fun e (s : Value × Value × Value × Value × Value × Value) h => Jk10_0 rc md h0 e s.1 s.2.1 s.2.2.1 s.2.2.2.1 s.2.2.2.2.1 s.2.2.2.2.2 h) (s1, s2, s3, s29, s30, s31) h
theorem J10_0_step (rc : Rec) (md : Md) (h0 : Heap) (s1 : Value) (s2 : Value) (s3 : Value) (s29 : Value) (s30 : Value) (s31 : Value) (h : Heap) : J10_0 rc md h0 s1 s2 s3 s29 s30 s31 h = (Jr10_0 rc md s1 s2 s3 s29 s30 s31 h).bind fun x => match x with
    | .inl (s, h) => J10_0 rc md h0 s.1 s.2.1 s.2.2.1 s.2.2.2.1 s.2.2.2.2.1 s.2.2.2.2.2 h
    | .inr (e, s, h) => Jk10_0 rc md h0 e s.1 s.2.1 s.2.2.1 s.2.2.2.1 s.2.2.2.2.1 s.2.2.2.2.2 h := by
  unfold J10_0
  rw [runL_eq]
  refine congrArg (Option.bind _) (funext fun x => ?_)
  rcases x with ⟨s, h⟩ | ⟨e, s, h⟩ <;> rfl
theorem J10_0_cut (rc : Rec) (md : Md) (h0 : Heap) : cut Try.prog cfg rc md 133 (bodyOf Try.prog 10) [1, 1, 1, 1, 0, 1, 0] (retK Try.prog cfg 10 (rsOf Try.prog 10) h0) = fun t h => J10_0 rc md h0 (t 1) (t 2) (t 3) (t 29) (t 30) (t 31) h := by
  funext t h
  have e : sub (bodyOf Try.prog 10) [1, 1, 1, 1, 0, 1, 0] = .loop (sub (bodyOf Try.prog 10) [1, 1, 1, 1, 0, 1, 0, 0]) := by kernel_rfl
  unfold cut
  rw [e]
  exact loop_eq (by kernel_rfl) (fun t => (t 1, t 2, t 3, t 29, t 30, t 31)) (fun x : (Value × Value × Value × Value × Value × Value) × Heap => Jr10_0 rc md x.1.1 x.1.2.1 x.1.2.2.1 x.1.2.2.2.1 x.1.2.2.2.2.1 x.1.2.2.2.2.2 x.2) (fun t h => Jr10_0_at rc md t h) (fun e (s : Value × Value × Value × Value × Value × Value) h => Jk10_0 rc md h0 e s.1 s.2.1 s.2.2.1 s.2.2.2.1 s.2.2.2.2.1 s.2.2.2.2.2 h) (fun e t h => Jk10_0_at rc md h0 e t h) t h
noncomputable def F10 (rc : Rec) (md : Md) (a0_0 : Int) (a0_1 : Int) (a0_2 : Int) (a0_3 : Value) (a0_4 : Value) (h0 : Heap) : Option (Value × Heap) :=
  let h1 : Heap := h0 ++ [.own [(.int .i64 a0_0), (.int .i64 a0_1), (.int .i64 a0_2), a0_3, a0_4]]
  ldN 5 (.pointer (some ⟨h0.length, 0, none⟩)) h1 fun v2 =>
  cl (rc md 31 [v2] h1) fun v3 h4 =>
  cBn v3 fun b5 =>
  bif !b5 then
    cl (rc md 32 [] h4) fun v6 h7 =>
    cBn v6 fun b8 =>
    some ((.bool b8), List.take h0.length h7)
  else
    ldN 5 (.pointer (some ⟨h0.length, 0, none⟩)) h4 fun v9 =>
    cl (rc md 33 [v9] h4) fun v10 h11 =>
    aBin Try.prog .eql 68 v10 (.pointer none) fun v12 =>
    cBn v12 fun b13 =>
    bif b13 then
      some ((.bool false), List.take h0.length h11)
    else
      ld1 (.pointer (some ⟨h0.length, 4, none⟩)) h11 fun v14 =>
      lenS v14 fun v15 =>
      cIn .i64 v15 fun n16 =>
      J10_0 rc md h0 (.pointer (some ⟨h0.length, 0, none⟩)) (.bool false) v10 v14 (.int .i64 n16) (.int .i64 0) h11
noncomputable def F10H (rc : Rec) (md : Md) (X0 : T → Heap → Option (Value × Heap)) (a0_0 : Int) (a0_1 : Int) (a0_2 : Int) (a0_3 : Value) (a0_4 : Value) (h0 : Heap) : Option (Value × Heap) :=
  let h1 : Heap := h0 ++ [.own [(.int .i64 a0_0), (.int .i64 a0_1), (.int .i64 a0_2), a0_3, a0_4]]
  ldN 5 (.pointer (some ⟨h0.length, 0, none⟩)) h1 fun v2 =>
  cl (rc md 31 [v2] h1) fun v3 h4 =>
  cBn v3 fun b5 =>
  bif !b5 then
    cl (rc md 32 [] h4) fun v6 h7 =>
    cBn v6 fun b8 =>
    some ((.bool b8), List.take h0.length h7)
  else
    ldN 5 (.pointer (some ⟨h0.length, 0, none⟩)) h4 fun v9 =>
    cl (rc md 33 [v9] h4) fun v10 h11 =>
    aBin Try.prog .eql 68 v10 (.pointer none) fun v12 =>
    cBn v12 fun b13 =>
    bif b13 then
      some ((.bool false), List.take h0.length h11)
    else
      ld1 (.pointer (some ⟨h0.length, 4, none⟩)) h11 fun v14 =>
      lenS v14 fun v15 =>
      cIn .i64 v15 fun n16 =>
      X0 (upd (upd (upd (upd (upd (upd (upd (upd (upd (upd (upd (upd (upd (upd (args0 [(.agg #[(.int .i64 a0_0), (.int .i64 a0_1), (.int .i64 a0_2), a0_3, a0_4])]) 1 (.pointer (some ⟨h0.length, 0, none⟩))) 2 (.bool false)) 20 v2) 21 (.bool b5)) 22 (.bool (!b5))) 24 v9) 25 v10) 3 v10) 26 v10) 27 v12) 28 (.pointer (some ⟨h0.length, 4, none⟩))) 29 v14) 30 (.int .i64 n16)) 31 (.int .i64 0)) h11
theorem F10_h0 (rc : Rec) (md : Md) (a0_0 : Int) (a0_1 : Int) (a0_2 : Int) (a0_3 : Value) (a0_4 : Value) (h0 : Heap) : callStep0 Try.prog cfg rc md 10 [(.agg #[(.int .i64 a0_0), (.int .i64 a0_1), (.int .i64 a0_2), a0_3, a0_4])] h0 = exec Try.prog cfg rc ⟨md.ro, h0.length⟩ 133 (bodyOf Try.prog 10) (retK Try.prog cfg 10 (rsOf Try.prog 10) h0) (args0 [(.agg #[(.int .i64 a0_0), (.int .i64 a0_1), (.int .i64 a0_2), a0_3, a0_4])]) h0 := callStep0_run (by kernel_rfl) (by kernel_rfl) (by kernel_rfl)
theorem F10_h1 (rc : Rec) (md : Md) (X : Nat → T → Heap → Option (Value × Heap)) (a0_0 : Int) (a0_1 : Int) (a0_2 : Int) (a0_3 : Value) (a0_4 : Value) (h0 : Heap) : execG Try.prog cfg X rc md 133 (replS (bodyOf Try.prog 10) [([1, 1, 1, 1, 0, 1, 0], 0), ([1, 1, 1, 1, 1, 0, 1, 0], 1), ([1, 1, 1, 1, 1], 2)]) (retK Try.prog cfg 10 (rsOf Try.prog 10) h0) (args0 [(.agg #[(.int .i64 a0_0), (.int .i64 a0_1), (.int .i64 a0_2), a0_3, a0_4])]) h0 = F10H rc md (X 0) a0_0 a0_1 a0_2 a0_3 a0_4 h0 := by kernel_rfl
theorem F10_h2 (rc : Rec) (md : Md) (a0_0 : Int) (a0_1 : Int) (a0_2 : Int) (a0_3 : Value) (a0_4 : Value) (h0 : Heap) : F10H rc md (fun t h => J10_0 rc md h0 (t 1) (t 2) (t 3) (t 29) (t 30) (t 31) h) a0_0 a0_1 a0_2 a0_3 a0_4 h0 = F10 rc md a0_0 a0_1 a0_2 a0_3 a0_4 h0 := by unfold F10H F10; kernel_rfl
theorem F10_eq0 (rc : Rec) (md : Md) (a0_0 : Int) (a0_1 : Int) (a0_2 : Int) (a0_3 : Value) (a0_4 : Value) (h0 : Heap) : callStep0 Try.prog cfg rc md 10 [(.agg #[(.int .i64 a0_0), (.int .i64 a0_1), (.int .i64 a0_2), a0_3, a0_4])] h0 = F10 rc ⟨md.ro, h0.length⟩ a0_0 a0_1 a0_2 a0_3 a0_4 h0 := by
  rw [F10_h0, exec_holes [([1, 1, 1, 1, 0, 1, 0], 0), ([1, 1, 1, 1, 1, 0, 1, 0], 1), ([1, 1, 1, 1, 1], 2)] (by kernel_rfl), F10_h1, show (goX Try.prog cfg rc ⟨md.ro, h0.length⟩ 133 (bodyOf Try.prog 10) [([1, 1, 1, 1, 0, 1, 0], 0), ([1, 1, 1, 1, 1, 0, 1, 0], 1), ([1, 1, 1, 1, 1], 2)] (retK Try.prog cfg 10 (rsOf Try.prog 10) h0)) 0 = _ from J10_0_cut rc ⟨md.ro, h0.length⟩ h0]
  exact F10_h2 rc _ a0_0 a0_1 a0_2 a0_3 a0_4 h0
theorem F10_eq (rc : Rec) (md : Md) (a0_0 : Int) (a0_1 : Int) (a0_2 : Int) (a0_3 : Value) (a0_4 : Value) (h0 : Heap) : callStep Try.prog cfg rc md 10 [(.agg #[(.int .i64 a0_0), (.int .i64 a0_1), (.int .i64 a0_2), a0_3, a0_4])] h0 = F10 rc ⟨md.ro, h0.length⟩ a0_0 a0_1 a0_2 a0_3 a0_4 h0 := (callStep_ne (by kernel_rfl)).trans (F10_eq0 rc md a0_0 a0_1 a0_2 a0_3 a0_4 h0)

end Go.Det.E
