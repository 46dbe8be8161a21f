/- Printed functions. -/
import Derived.Test.YtodeenahpoobkaaE5
import Derived.Test.YtodeenahpoobkaaDetT
import Derived.Test.YtodeenahpoobkaaDetX
import Derived.Test.YtodeenahpoobkaaProg
set_option autoImplicit false
set_option linter.unusedVariables false
set_option linter.unusedSimpArgs false
namespace Go.Det.E
open Go.Proofs Go.Det

/-- tombolo/tombololaw09.TreapFirst -/
noncomputable def J7_3 (rc : Rec) (md : Md) (h0 : Heap) (s5 : Value) (h : Heap) : Option (Value × Heap) :=
  cl (rc md 16 [s5] h) fun v1 h2 =>
  cBn v1 fun b3 =>
  (bif wantV (.bool b3) true then
  cl (rc md 14 [] h2) fun v4 h5 =>
  cBn v4 fun b6 =>
  some ((.bool b6), h5)
  else some (undef, h2)).bind fun p7 =>
  cBn (bif b3 then p7.1 else (.bool false)) fun b8 =>
  some ((.bool b8), List.take h0.length p7.2)
theorem J7_3_at (rc : Rec) (md : Md) (h0 : Heap) (t : T) (h : Heap) : cut Try.prog cfg rc md 118 (bodyOf Try.prog 7) [1, 1, 1, 1, 1, 1] (retK Try.prog cfg 7 (rsOf Try.prog 7) h0) t h = J7_3 rc md h0 (t 5) h := by kernel_rfl
theorem J7_3_cut (rc : Rec) (md : Md) (h0 : Heap) : cut Try.prog cfg rc md 118 (bodyOf Try.prog 7) [1, 1, 1, 1, 1, 1] (retK Try.prog cfg 7 (rsOf Try.prog 7) h0) = fun t h => J7_3 rc md h0 (t 5) h := funext fun t => funext fun h => J7_3_at rc md h0 t h
noncomputable def Jk7_2 (rc : Rec) (md : Md) (h0 : Heap) (e : Exit) (s1 : Value) (s4 : Value) (s5 : Value) (s45 : Value) (s46 : Value) (s47 : Value) (h : Heap) : Option (Value × Heap) :=
  match e with
  | .normal =>
    J7_3 rc md h0 s5 h
  | .exit j =>
    bif Nat.beq j 2 then
      J7_3 rc md h0 s5 h
    else
      none
  | .ret =>
    fin1 h0 s4 h
  | .goto l => none
  | .panic ps => none
  | .outgrown => none
noncomputable def Jk7_2H (rc : Rec) (md : Md) (h0 : Heap) (X2 : T → Heap → Option (Value × Heap)) (e : Exit) (t : T) (h : Heap) : Option (Value × Heap) :=
  match e with
  | .normal =>
    X2 t h
  | .exit j =>
    bif Nat.beq j 2 then
      X2 t h
    else
      none
  | .ret =>
    fin1 h0 (t 4) h
  | .goto l => none
  | .panic ps => none
  | .outgrown => none
theorem Jk7_2_h1 (rc : Rec) (md : Md) (h0 : Heap) (X : Nat → T → Heap → Option (Value × Heap)) (e : Exit) (t : T) (h : Heap) : kAtG Try.prog cfg X rc md 118 (replS (bodyOf Try.prog 7) [([1, 1, 1, 1, 0, 1, 0], 0), ([1, 1, 1, 1, 1, 1], 2)]) [1, 1, 1, 1, 1, 0, 1, 0] (retK Try.prog cfg 7 (rsOf Try.prog 7) h0) e t h = Jk7_2H rc md h0 (X 2) e t h := by cases e <;> kernel_rfl
theorem Jk7_2_h2 (rc : Rec) (md : Md) (h0 : Heap) (e : Exit) (t : T) (h : Heap) : Jk7_2H rc md h0 (fun t h => J7_3 rc md h0 (t 5) h) e t h = Jk7_2 rc md h0 e (t 1) (t 4) (t 5) (t 45) (t 46) (t 47) h := by cases e <;> (unfold Jk7_2H Jk7_2; kernel_rfl)
theorem Jk7_2_at (rc : Rec) (md : Md) (h0 : Heap) (e : Exit) (t : T) (h : Heap) : kAt Try.prog cfg rc md 118 (bodyOf Try.prog 7) [1, 1, 1, 1, 1, 0, 1, 0] (retK Try.prog cfg 7 (rsOf Try.prog 7) h0) e t h = Jk7_2 rc md h0 e (t 1) (t 4) (t 5) (t 45) (t 46) (t 47) h := by
  rw [kAt_holes [([1, 1, 1, 1, 0, 1, 0], 0), ([1, 1, 1, 1, 1, 1], 2)] [1, 1, 1, 1, 1, 0, 1, 0] (by kernel_rfl), Jk7_2_h1, show (goX Try.prog cfg rc md 118 (bodyOf Try.prog 7) [([1, 1, 1, 1, 0, 1, 0], 0), ([1, 1, 1, 1, 1, 1], 2)] (retK Try.prog cfg 7 (rsOf Try.prog 7) h0)) 2 = _ from J7_3_cut rc md h0]
  exact Jk7_2_h2 rc md h0 e t h
noncomputable def J7_2b1 (rc : Rec) (md : Md) (s1 : Value) (s4 : Value) (s5 : Value) (s10 : Value) (s45 : Value) (s46 : Value) (s47 : Value) (h : Heap) : Option (((Value × Value × Value × Value × Value × Value) × Heap) ⊕ (Exit × (Value × Value × Value × Value × Value × Value) × Heap)) :=
  bif okNil Try.prog s5 then
  fA 4 s5 fun v1 =>
  ldN 6 v1 h fun v2 =>
  cl (rc md 26 [v2, s10, s1] h) fun v3 h4 =>
  cIn .i64 v3 fun n5 =>
  bif (n5 != 0) then
    some (.inr (.ret, (s1, (.bool false), s5, s45, s46, s47), h4))
  else
    aBin Try.prog .add 3 s47 (.int .i64 1) fun v6 =>
    some (.inl ((s1, s4, s5, s45, s46, v6), h4))
  else none
theorem J7_2b1_at (rc : Rec) (md : Md) (t : T) (h : Heap) : cut Try.prog cfg rc md 118 (sub (bodyOf Try.prog 7) [1, 1, 1, 1, 1, 0, 1, 0, 0]) [1, 1, 0, 0, 1, 1, 1] (rndK (fun t => (t 1, t 4, t 5, t 45, t 46, t 47))) t h = J7_2b1 rc md (t 1) (t 4) (t 5) (t 10) (t 45) (t 46) (t 47) h := by kernel_rfl
theorem J7_2b1_cut (rc : Rec) (md : Md) : cut Try.prog cfg rc md 118 (sub (bodyOf Try.prog 7) [1, 1, 1, 1, 1, 0, 1, 0, 0]) [1, 1, 0, 0, 1, 1, 1] (rndK (fun t => (t 1, t 4, t 5, t 45, t 46, t 47))) = fun t h => J7_2b1 rc md (t 1) (t 4) (t 5) (t 10) (t 45) (t 46) (t 47) h := funext fun t => funext fun h => J7_2b1_at rc md t h
noncomputable def Jk7_2b0 (rc : Rec) (md : Md) (e : Exit) (s1 : Value) (s4 : Value) (s5 : Value) (s10 : Value) (s45 : Value) (s46 : Value) (s47 : Value) (s57 : Value) (s58 : Value) (s59 : Value) (h : Heap) : Option (((Value × Value × Value × Value × Value × Value) × Heap) ⊕ (Exit × (Value × Value × Value × Value × Value × Value) × Heap)) :=
  match e with
  | .normal =>
    J7_2b1 rc md s1 s4 s5 s10 s45 s46 s47 h
  | .exit j =>
    bif Nat.beq j 4 then
      J7_2b1 rc md s1 s4 s5 s10 s45 s46 s47 h
    else
      bif Nat.beq j 3 then
        aBin Try.prog .add 3 s47 (.int .i64 1) fun v1 =>
        some (.inl ((s1, s4, s5, s45, s46, v1), h))
      else
        some (.inr ((.exit j), (s1, s4, s5, s45, s46, s47), h))
  | .ret =>
    some (.inr (.ret, (s1, s4, s5, s45, s46, s47), h))
  | .goto l => some (.inr ((.goto l), (s1, s4, s5, s45, s46, s47), h))
  | .panic ps => some (.inr ((.panic ps), (s1, s4, s5, s45, s46, s47), h))
  | .outgrown => some (.inr (.outgrown, (s1, s4, s5, s45, s46, s47), h))
noncomputable def Jk7_2b0H (rc : Rec) (md : Md) (X1 : T → Heap → Option (((Value × Value × Value × Value × Value × Value) × Heap) ⊕ (Exit × (Value × Value × Value × Value × Value × Value) × Heap))) (e : Exit) (t : T) (h : Heap) : Option (((Value × Value × Value × Value × Value × Value) × Heap) ⊕ (Exit × (Value × Value × Value × Value × Value × Value) × Heap)) :=
  match e with
  | .normal =>
    X1 t h
  | .exit j =>
    bif Nat.beq j 4 then
      X1 t h
    else
      bif Nat.beq j 3 then
        aBin Try.prog .add 3 (t 47) (.int .i64 1) fun v1 =>
        some (.inl (((t 1), (t 4), (t 5), (t 45), (t 46), v1), h))
      else
        some (.inr ((.exit j), ((t 1), (t 4), (t 5), (t 45), (t 46), (t 47)), h))
  | .ret =>
    some (.inr (.ret, ((t 1), (t 4), (t 5), (t 45), (t 46), (t 47)), h))
  | .goto l => some (.inr ((.goto l), ((t 1), (t 4), (t 5), (t 45), (t 46), (t 47)), h))
  | .panic ps => some (.inr ((.panic ps), ((t 1), (t 4), (t 5), (t 45), (t 46), (t 47)), h))
  | .outgrown => some (.inr (.outgrown, ((t 1), (t 4), (t 5), (t 45), (t 46), (t 47)), h))
theorem Jk7_2b0_h1 (rc : Rec) (md : Md) (X : Nat → T → Heap → Option (((Value × Value × Value × Value × Value × Value) × Heap) ⊕ (Exit × (Value × Value × Value × Value × Value × Value) × Heap))) (e : Exit) (t : T) (h : Heap) : kAtG Try.prog cfg X rc md 118 (replS (sub (bodyOf Try.prog 7) [1, 1, 1, 1, 1, 0, 1, 0, 0]) [([1, 1, 0, 0, 1, 1, 1], 1)]) [1, 1, 0, 0, 1, 1, 0, 1, 0] (rndK (fun t => (t 1, t 4, t 5, t 45, t 46, t 47))) e t h = Jk7_2b0H rc md (X 1) e t h := by cases e <;> kernel_rfl
theorem Jk7_2b0_h2 (rc : Rec) (md : Md) (e : Exit) (t : T) (h : Heap) : Jk7_2b0H rc md (fun t h => J7_2b1 rc md (t 1) (t 4) (t 5) (t 10) (t 45) (t 46) (t 47) h) e t h = Jk7_2b0 rc md e (t 1) (t 4) (t 5) (t 10) (t 45) (t 46) (t 47) (t 57) (t 58) (t 59) h := by cases e <;> (unfold Jk7_2b0H Jk7_2b0; kernel_rfl)
theorem Jk7_2b0_at (rc : Rec) (md : Md) (e : Exit) (t : T) (h : Heap) : kAt Try.prog cfg rc md 118 (sub (bodyOf Try.prog 7) [1, 1, 1, 1, 1, 0, 1, 0, 0]) [1, 1, 0, 0, 1, 1, 0, 1, 0] (rndK (fun t => (t 1, t 4, t 5, t 45, t 46, t 47))) e t h = Jk7_2b0 rc md e (t 1) (t 4) (t 5) (t 10) (t 45) (t 46) (t 47) (t 57) (t 58) (t 59) h := by
  rw [kAt_holes [([1, 1, 0, 0, 1, 1, 1], 1)] [1, 1, 0, 0, 1, 1, 0, 1, 0] (by kernel_rfl), Jk7_2b0_h1, show (goX Try.prog cfg rc md 118 (sub (bodyOf Try.prog 7) [1, 1, 1, 1, 1, 0, 1, 0, 0]) [([1, 1, 0, 0, 1, 1, 1], 1)] (rndK (fun t => (t 1, t 4, t 5, t 45, t 46, t 47)))) 1 = _ from J7_2b1_cut rc md]
  exact Jk7_2b0_h2 rc md e t h
/-- a round -/
noncomputable def Jr7_2b0 (rc : Rec) (md : Md) (s1 : Value) (s4 : Value) (s5 : Value) (s10 : Value) (s45 : Value) (s46 : Value) (s47 : Value) (s57 : Value) (s58 : Value) (s59 : Value) (h : Heap) : Option (((Value × Value × Value × Value × Value × Value × Value × Value × Value × Value) × Heap) ⊕ (Exit × (Value × Value × Value × Value × Value × Value × Value × Value × Value × Value) × Heap)) :=
  aBin Try.prog .lss 3 s59 s58 fun v1 =>
  cBn v1 fun b2 =>
  bif b2 then
    ixSV 1 s57 s59 fun v3 =>
    ld1 v3 h fun v4 =>
    cIn .i64 v4 fun n5 =>
    bif okNil Try.prog s5 then
    fA 10 s5 fun v6 =>
    fA 2 v6 fun v7 =>
    ld1 v7 h fun v8 =>
    ixS 1 v8 n5 fun v9 =>
    ld1 v9 h fun v10 =>
    cIn .i64 v10 fun n11 =>
    aBin Try.prog .shr 3 (.int .i64 n11) s1 fun v12 =>
    aBin Try.prog .and 3 v12 (.int .i64 1) fun v13 =>
    aBin Try.prog .eql 3 v13 (.int .i64 0) fun v14 =>
    cBn v14 fun b15 =>
    bif b15 then
      aBin Try.prog .add 3 s59 (.int .i64 1) fun v16 =>
      some (.inl ((s1, s4, s5, s10, s45, s46, s47, s57, s58, v16), h))
    else
      bif okNil Try.prog s5 then
      fA 4 s5 fun v17 =>
      ldN 6 v17 h fun v18 =>
      cl (rc md 26 [v18, s10, s1] h) fun v19 h20 =>
      cIn .i64 v19 fun n21 =>
      bif (n21 != n5) then
        some (.inr (.ret, (s1, (.bool false), s5, s10, s45, s46, s47, s57, s58, s59), h20))
      else
        bif okNil Try.prog s5 then
        fA 4 s5 fun v22 =>
        ldN 6 v22 h20 fun v23 =>
        cl (rc md 30 [v23, (.int .i64 n5), s1, (.bool false)] h20) fun v24 h25 =>
        bif okNil Try.prog s5 then
        fA 10 s5 fun v26 =>
        fA 2 v26 fun v27 =>
        ld1 v27 h25 fun v28 =>
        ixS 1 v28 n5 fun v29 =>
        ld1 v29 h25 fun v30 =>
        cIn .i64 v30 fun n31 =>
        aBin Try.prog .shl 3 (.int .i64 1) s1 fun v32 =>
        aBin Try.prog .andNot 3 (.int .i64 n31) v32 fun v33 =>
        ixS 1 v28 n5 fun v34 =>
        st md 1 v34 v33 h25 fun h35 =>
        aBin Try.prog .add 3 s59 (.int .i64 1) fun v36 =>
        some (.inl ((s1, s4, s5, s10, s45, s46, s47, s57, s58, v36), h35))
        else none
        else none
      else none
    else none
  else
    some (.inr ((.exit 4), (s1, s4, s5, s10, s45, s46, s47, s57, s58, s59), h))
theorem Jr7_2b0_at (rc : Rec) (md : Md) (t : T) (h : Heap) : exec Try.prog cfg rc md 118 (sub (bodyOf Try.prog 7) [1, 1, 1, 1, 1, 0, 1, 0, 0, 1, 1, 0, 0, 1, 1, 0, 1, 0, 0]) (rndK (fun t => (t 1, t 4, t 5, t 10, t 45, t 46, t 47, t 57, t 58, t 59))) t h = Jr7_2b0 rc md (t 1) (t 4) (t 5) (t 10) (t 45) (t 46) (t 47) (t 57) (t 58) (t 59) h := by kernel_rfl
noncomputable def J7_2b0 (rc : Rec) (md : Md) (s1 : Value) (s4 : Value) (s5 : Value) (s10 : Value) (s45 : Value) (s46 : Value) (s47 : Value) (s57 : Value) (s58 : Value) (s59 : Value) (h : Heap) : Option (((Value × Value × Value × Value × Value × Value) × Heap) ⊕ (Exit × (Value × Value × Value × Value × Value × Value) × Heap)) :=
  runL (fun x : (Value × Value × Value × Value × Value × Value × Value × Value × Value × Value) × Heap => Jr7_2b0 rc md x.1.1 x.1.2.1 x.1.2.2.1 x.1.2.2.2.1 x.1.2.2.2.2.1 x.1.2.2.2.2.2.1 x.1.2.2.2.2.2.2.1 x.1.2.2.2.2.2.2.2.1 x.1.2.2.2.2.2.2.2.2.1 x.1.2.2.2.2.2.2.2.2.2 x.2) (fun e (s : Value × Value × Value × Value × Value × Value × Value × Value × Value × Value) h => Jk7_2b0 rc md e s.1 s.2.1 s.2.2.1 s.2.2.2.1 s.2.2.2.2.1 s.2.2.2.2.2.1 s.2.2.2.2.2.2.1 s.2.2.2.2.2.2.2.1 s.2.2.2.2.2.2.2.2.1 s.2.2.2.2.2.2.2.2.2 h) (s1, s4, s5, s10, s45, s46, s47, s57, s58, s59) h
theorem J7_2b0_step (rc : Rec) (md : Md) (s1 : Value) (s4 : Value) (s5 : Value) (s10 : Value) (s45 : Value) (s46 : Value) (s47 : Value) (s57 : Value) (s58 : Value) (s59 : Value) (h : Heap) : J7_2b0 rc md s1 s4 s5 s10 s45 s46 s47 s57 s58 s59 h = (Jr7_2b0 rc md s1 s4 s5 s10 s45 s46 s47 s57 s58 s59 h).bind fun x => match x with
    | .inl (s, h) => J7_2b0 rc md s.1 s.2.1 s.2.2.1 s.2.2.2.1 s.2.2.2.2.1 s.2.2.2.2.2.1 s.2.2.2.2.2.2.1 s.2.2.2.2.2.2.2.1 s.2.2.2.2.2.2.2.2.1 s.2.2.2.2.2.2.2.2.2 h
    | .inr (e, s, h) => Jk7_2b0 rc md e s.1 s.2.1 s.2.2.1 s.2.2.2.1 s.2.2.2.2.1 s.2.2.2.2.2.1 s.2.2.2.2.2.2.1 s.2.2.2.2.2.2.2.1 s.2.2.2.2.2.2.2.2.1 s.2.2.2.2.2.2.2.2.2 h := by
  unfold J7_2b0
  rw [runL_eq]
  refine congrArg (Option.bind _) (funext fun x => ?_)
  rcases x with ⟨s, h⟩ | ⟨e, s, h⟩ <;> rfl
theorem J7_2b0_cut (rc : Rec) (md : Md) : cut Try.prog cfg rc md 118 (sub (bodyOf Try.prog 7) [1, 1, 1, 1, 1, 0, 1, 0, 0]) [1, 1, 0, 0, 1, 1, 0, 1, 0] (rndK (fun t => (t 1, t 4, t 5, t 45, t 46, t 47))) = fun t h => J7_2b0 rc md (t 1) (t 4) (t 5) (t 10) (t 45) (t 46) (t 47) (t 57) (t 58) (t 59) h := by
  funext t h
  have e : sub (sub (bodyOf Try.prog 7) [1, 1, 1, 1, 1, 0, 1, 0, 0]) [1, 1, 0, 0, 1, 1, 0, 1, 0] = .loop (sub (bodyOf Try.prog 7) [1, 1, 1, 1, 1, 0, 1, 0, 0, 1, 1, 0, 0, 1, 1, 0, 1, 0, 0]) := by kernel_rfl
  unfold cut
  rw [e]
  exact loop_eq (by kernel_rfl) (fun t => (t 1, t 4, t 5, t 10, t 45, t 46, t 47, t 57, t 58, t 59)) (fun x : (Value × Value × Value × Value × Value × Value × Value × Value × Value × Value) × Heap => Jr7_2b0 rc md x.1.1 x.1.2.1 x.1.2.2.1 x.1.2.2.2.1 x.1.2.2.2.2.1 x.1.2.2.2.2.2.1 x.1.2.2.2.2.2.2.1 x.1.2.2.2.2.2.2.2.1 x.1.2.2.2.2.2.2.2.2.1 x.1.2.2.2.2.2.2.2.2.2 x.2) (fun t h => Jr7_2b0_at rc md t h) (fun e (s : Value × Value × Value × Value × Value × Value × Value × Value × Value × Value) h => Jk7_2b0 rc md e s.1 s.2.1 s.2.2.1 s.2.2.2.1 s.2.2.2.2.1 s.2.2.2.2.2.1 s.2.2.2.2.2.2.1 s.2.2.2.2.2.2.2.1 s.2.2.2.2.2.2.2.2.1 s.2.2.2.2.2.2.2.2.2 h) (fun e t h => Jk7_2b0_at rc md e t h) t h
/-- a round -/
noncomputable def Jr7_2 (rc : Rec) (md : Md) (s1 : Value) (s4 : Value) (s5 : Value) (s45 : Value) (s46 : Value) (s47 : Value) (h : Heap) : Option (((Value × Value × Value × Value × Value × Value) × Heap) ⊕ (Exit × (Value × Value × Value × Value × Value × Value) × Heap)) :=
  aBin Try.prog .lss 3 s47 s46 fun v1 =>
  cBn v1 fun b2 =>
  bif b2 then
    ixSV 1 s45 s47 fun v3 =>
    ld1 v3 h fun v4 =>
    bif okNil Try.prog s5 then
    fA 10 s5 fun v5 =>
    ldN 4 v5 h fun v6 =>
    cl (rc md 19 [v6, v4] h) fun v7 h8 =>
    cIn .i64 v7 fun n9 =>
    lenS v4 fun v10 =>
    cIn .i64 v10 fun n11 =>
    J7_2b0 rc md s1 s4 s5 (.int .i64 n9) s45 s46 s47 v4 (.int .i64 n11) (.int .i64 0) h8
    else none
  else
    some (.inr ((.exit 2), (s1, s4, s5, s45, s46, s47), h))
noncomputable def Jr7_2H (rc : Rec) (md : Md) (X0 : T → Heap → Option (((Value × Value × Value × Value × Value × Value) × Heap) ⊕ (Exit × (Value × Value × Value × Value × Value × Value) × Heap))) (t : T) (h : Heap) : Option (((Value × Value × Value × Value × Value × Value) × Heap) ⊕ (Exit × (Value × Value × Value × Value × Value × Value) × Heap)) :=
  aBin Try.prog .lss 3 (t 47) (t 46) fun v1 =>
  cBn v1 fun b2 =>
  bif b2 then
    ixSV 1 (t 45) (t 47) fun v3 =>
    ld1 v3 h fun v4 =>
    bif okNil Try.prog (t 5) then
    fA 10 (t 5) fun v5 =>
    ldN 4 v5 h fun v6 =>
    cl (rc md 19 [v6, v4] h) fun v7 h8 =>
    cIn .i64 v7 fun n9 =>
    lenS v4 fun v10 =>
    cIn .i64 v10 fun n11 =>
    X0 (upd (upd (upd (upd (upd (upd (upd (upd (upd (upd (upd (upd (upd (upd t 48 v1) 49 v3) 50 v4) 9 v4) 51 (t 5)) 52 (t 5)) 53 v5) 54 v6) 55 v4) 56 (.int .i64 n9)) 10 (.int .i64 n9)) 57 v4) 58 (.int .i64 n11)) 59 (.int .i64 0)) h8
    else none
  else
    some (.inr ((.exit 2), ((t 1), (t 4), (t 5), (t 45), (t 46), (t 47)), h))
theorem Jr7_2_h1 (rc : Rec) (md : Md) (X : Nat → T → Heap → Option (((Value × Value × Value × Value × Value × Value) × Heap) ⊕ (Exit × (Value × Value × Value × Value × Value × Value) × Heap))) (t : T) (h : Heap) : execG Try.prog cfg X rc md 118 (replS (sub (bodyOf Try.prog 7) [1, 1, 1, 1, 1, 0, 1, 0, 0]) [([1, 1, 0, 0, 1, 1, 0, 1, 0], 0), ([1, 1, 0, 0, 1, 1, 1], 1)]) (rndK (fun t => (t 1, t 4, t 5, t 45, t 46, t 47))) t h = Jr7_2H rc md (X 0) t h := by kernel_rfl
theorem Jr7_2_h2 (rc : Rec) (md : Md) (t : T) (h : Heap) : Jr7_2H rc md (fun t h => J7_2b0 rc md (t 1) (t 4) (t 5) (t 10) (t 45) (t 46) (t 47) (t 57) (t 58) (t 59) h) t h = Jr7_2 rc md (t 1) (t 4) (t 5) (t 45) (t 46) (t 47) h := by unfold Jr7_2H Jr7_2; kernel_rfl
theorem Jr7_2_at (rc : Rec) (md : Md) (t : T) (h : Heap) : exec Try.prog cfg rc md 118 (sub (bodyOf Try.prog 7) [1, 1, 1, 1, 1, 0, 1, 0, 0]) (rndK (fun t => (t 1, t 4, t 5, t 45, t 46, t 47))) t h = Jr7_2 rc md (t 1) (t 4) (t 5) (t 45) (t 46) (t 47) h := by
  rw [exec_holes [([1, 1, 0, 0, 1, 1, 0, 1, 0], 0), ([1, 1, 0, 0, 1, 1, 1], 1)] (by kernel_rfl), Jr7_2_h1, show (goX Try.prog cfg rc md 118 (sub (bodyOf Try.prog 7) [1, 1, 1, 1, 1, 0, 1, 0, 0]) [([1, 1, 0, 0, 1, 1, 0, 1, 0], 0), ([1, 1, 0, 0, 1, 1, 1], 1)] (rndK (fun t => (t 1, t 4, t 5, t 45, t 46, t 47)))) 0 = _ from J7_2b0_cut rc md]
  exact Jr7_2_h2 rc md t h
noncomputable def J7_2 (rc : Rec) (md : Md) (h0 : Heap) (s1 : Value) (s4 : Value) (s5 : Value) (s45 : Value) (s46 : Value) (s47 : Value) (h : Heap) : Option (Value × Heap) :=
  runL (fun x : (Value × Value × Value × Value × Value × Value) × Heap => Jr7_2 rc md x.1.1 x.1.2.1 x.1.2.2.1 x.1.2.2.2.1 x.1.2.2.2.2.1 x.1.2.2.2.2.2 x.2) (fun e (s : Value × Value × Value × Value × Value × Value) h => Jk7_2 rc md h0 e s.1 s.2.1 s.2.2.1 s.2.2.2.1 s.2.2.2.2.1 s.2.2.2.2.2 h) (s1, s4, s5, s45, s46, s47) h
theorem J7_2_step (rc : Rec) (md : Md) (h0 : Heap) (s1 : Value) (s4 : Value) (s5 : Value) (s45 : Value) (s46 : Value) (s47 : Value) (h : Heap) : J7_2 rc md h0 s1 s4 s5 s45 s46 s47 h = (Jr7_2 rc md s1 s4 s5 s45 s46 s47 h).bind fun x => match x with
    | .inl (s, h) => J7_2 rc md h0 s.1 s.2.1 s.2.2.1 s.2.2.2.1 s.2.2.2.2.1 s.2.2.2.2.2 h
    | .inr (e, s, h) => Jk7_2 rc md h0 e s.1 s.2.1 s.2.2.1 s.2.2.2.1 s.2.2.2.2.1 s.2.2.2.2.2 h := by
  unfold J7_2
  rw [runL_eq]
  refine congrArg (Option.bind _) (funext fun x => ?_)
  rcases x with ⟨s, h⟩ | ⟨e, s, h⟩ <;> rfl
theorem J7_2_cut (rc : Rec) (md : Md) (h0 : Heap) : cut Try.prog cfg rc md 118 (bodyOf Try.prog 7) [1, 1, 1, 1, 1, 0, 1, 0] (retK Try.prog cfg 7 (rsOf Try.prog 7) h0) = fun t h => J7_2 rc md h0 (t 1) (t 4) (t 5) (t 45) (t 46) (t 47) h := by
  funext t h
  have e : sub (bodyOf Try.prog 7) [1, 1, 1, 1, 1, 0, 1, 0] = .loop (sub (bodyOf Try.prog 7) [1, 1, 1, 1, 1, 0, 1, 0, 0]) := by kernel_rfl
  unfold cut
  rw [e]
  exact loop_eq (by kernel_rfl) (fun t => (t 1, t 4, t 5, t 45, t 46, t 47)) (fun x : (Value × Value × Value × Value × Value × Value) × Heap => Jr7_2 rc md x.1.1 x.1.2.1 x.1.2.2.1 x.1.2.2.2.1 x.1.2.2.2.2.1 x.1.2.2.2.2.2 x.2) (fun t h => Jr7_2_at rc md t h) (fun e (s : Value × Value × Value × Value × Value × Value) h => Jk7_2 rc md h0 e s.1 s.2.1 s.2.2.1 s.2.2.2.1 s.2.2.2.2.1 s.2.2.2.2.2 h) (fun e t h => Jk7_2_at rc md h0 e t h) t h
noncomputable def J7_1 (rc : Rec) (md : Md) (h0 : Heap) (s1 : Value) (s4 : Value) (s5 : Value) (h : Heap) : Option (Value × Heap) :=
  bif okNil Try.prog s5 then
  fA 10 s5 fun v1 =>
  fA 0 v1 fun v2 =>
  ld1 v2 h fun v3 =>
  lenS v3 fun v4 =>
  cIn .i64 v4 fun n5 =>
  J7_2 rc md h0 s1 s4 s5 v3 (.int .i64 n5) (.int .i64 0) h
  else none
noncomputable def J7_1H (rc : Rec) (md : Md) (h0 : Heap) (X1 : T → Heap → Option (Value × Heap)) (t : T) (h : Heap) : Option (Value × Heap) :=
  bif okNil Try.prog (t 5) then
  fA 10 (t 5) fun v1 =>
  fA 0 v1 fun v2 =>
  ld1 v2 h fun v3 =>
  lenS v3 fun v4 =>
  cIn .i64 v4 fun n5 =>
  X1 (upd (upd (upd (upd (upd (upd (upd t 41 (t 5)) 42 (t 5)) 43 v1) 44 v2) 45 v3) 46 (.int .i64 n5)) 47 (.int .i64 0)) h
  else none
theorem J7_1_h1 (rc : Rec) (md : Md) (h0 : Heap) (X : Nat → T → Heap → Option (Value × Heap)) (t : T) (h : Heap) : execG Try.prog cfg X rc md 118 (sub (replS (bodyOf Try.prog 7) [([1, 1, 1, 1, 0, 1, 0], 0), ([1, 1, 1, 1, 1, 0, 1, 0], 1), ([1, 1, 1, 1, 1, 1], 2)]) [1, 1, 1, 1, 1]) (kAtG Try.prog cfg X rc md 118 (replS (bodyOf Try.prog 7) [([1, 1, 1, 1, 0, 1, 0], 0), ([1, 1, 1, 1, 1, 0, 1, 0], 1), ([1, 1, 1, 1, 1, 1], 2)]) [1, 1, 1, 1, 1] (retK Try.prog cfg 7 (rsOf Try.prog 7) h0)) t h = J7_1H rc md h0 (X 1) t h := by kernel_rfl
theorem J7_1_h2 (rc : Rec) (md : Md) (h0 : Heap) (t : T) (h : Heap) : J7_1H rc md h0 (fun t h => J7_2 rc md h0 (t 1) (t 4) (t 5) (t 45) (t 46) (t 47) h) t h = J7_1 rc md h0 (t 1) (t 4) (t 5) h := by (unfold J7_1H J7_1; kernel_rfl)
theorem J7_1_at (rc : Rec) (md : Md) (h0 : Heap) (t : T) (h : Heap) : cut Try.prog cfg rc md 118 (bodyOf Try.prog 7) [1, 1, 1, 1, 1] (retK Try.prog cfg 7 (rsOf Try.prog 7) h0) t h = J7_1 rc md h0 (t 1) (t 4) (t 5) h := by
  rw [cut_holes [([1, 1, 1, 1, 0, 1, 0], 0), ([1, 1, 1, 1, 1, 0, 1, 0], 1), ([1, 1, 1, 1, 1, 1], 2)] [1, 1, 1, 1, 1] (by kernel_rfl), J7_1_h1, show (goX Try.prog cfg rc md 118 (bodyOf Try.prog 7) [([1, 1, 1, 1, 0, 1, 0], 0), ([1, 1, 1, 1, 1, 0, 1, 0], 1), ([1, 1, 1, 1, 1, 1], 2)] (retK Try.prog cfg 7 (rsOf Try.prog 7) h0)) 1 = _ from J7_2_cut rc md h0]
  exact J7_1_h2 rc md h0 t h
theorem J7_1_cut (rc : Rec) (md : Md) (h0 : Heap) : cut Try.prog cfg rc md 118 (bodyOf Try.prog 7) [1, 1, 1, 1, 1] (retK Try.prog cfg 7 (rsOf Try.prog 7) h0) = fun t h => J7_1 rc md h0 (t 1) (t 4) (t 5) h := funext fun t => funext fun h => J7_1_at rc md h0 t h
noncomputable def Jk7_0 (rc : Rec) (md : Md) (h0 : Heap) (e : Exit) (s1 : Value) (s4 : Value) (s5 : Value) (s30 : Value) (s31 : Value) (s32 : Value) (h : Heap) : Option (Value × Heap) :=
  match e with
  | .normal =>
    J7_1 rc md h0 s1 s4 s5 h
  | .exit j =>
    bif Nat.beq j 0 then
      J7_1 rc md h0 s1 s4 s5 h
    else
      none
  | .ret =>
    fin1 h0 s4 h
  | .goto l => none
  | .panic ps => none
  | .outgrown => none
noncomputable def Jk7_0H (rc : Rec) (md : Md) (h0 : Heap) (X3 : T → Heap → Option (Value × Heap)) (e : Exit) (t : T) (h : Heap) : Option (Value × Heap) :=
  match e with
  | .normal =>
    X3 t h
  | .exit j =>
    bif Nat.beq j 0 then
      X3 t h
    else
      none
  | .ret =>
    fin1 h0 (t 4) h
  | .goto l => none
  | .panic ps => none
  | .outgrown => none
theorem Jk7_0_h1 (rc : Rec) (md : Md) (h0 : Heap) (X : Nat → T → Heap → Option (Value × Heap)) (e : Exit) (t : T) (h : Heap) : kAtG Try.prog cfg X rc md 118 (replS (bodyOf Try.prog 7) [([1, 1, 1, 1, 1, 0, 1, 0], 1), ([1, 1, 1, 1, 1, 1], 2), ([1, 1, 1, 1, 1], 3)]) [1, 1, 1, 1, 0, 1, 0] (retK Try.prog cfg 7 (rsOf Try.prog 7) h0) e t h = Jk7_0H rc md h0 (X 3) e t h := by cases e <;> kernel_rfl
theorem Jk7_0_h2 (rc : Rec) (md : Md) (h0 : Heap) (e : Exit) (t : T) (h : Heap) : Jk7_0H rc md h0 (fun t h => J7_1 rc md h0 (t 1) (t 4) (t 5) h) e t h = Jk7_0 rc md h0 e (t 1) (t 4) (t 5) (t 30) (t 31) (t 32) h := by cases e <;> (unfold Jk7_0H Jk7_0; kernel_rfl)
theorem Jk7_0_at (rc : Rec) (md : Md) (h0 : Heap) (e : Exit) (t : T) (h : Heap) : kAt Try.prog cfg rc md 118 (bodyOf Try.prog 7) [1, 1, 1, 1, 0, 1, 0] (retK Try.prog cfg 7 (rsOf Try.prog 7) h0) e t h = Jk7_0 rc md h0 e (t 1) (t 4) (t 5) (t 30) (t 31) (t 32) h := by
  rw [kAt_holes [([1, 1, 1, 1, 1, 0, 1, 0], 1), ([1, 1, 1, 1, 1, 1], 2), ([1, 1, 1, 1, 1], 3)] [1, 1, 1, 1, 0, 1, 0] (by kernel_rfl), Jk7_0_h1, show (goX Try.prog cfg rc md 118 (bodyOf Try.prog 7) [([1, 1, 1, 1, 1, 0, 1, 0], 1), ([1, 1, 1, 1, 1, 1], 2), ([1, 1, 1, 1, 1], 3)] (retK Try.prog cfg 7 (rsOf Try.prog 7) h0)) 3 = _ from J7_1_cut rc md h0]
  exact Jk7_0_h2 rc md h0 e t h
/-- a round -/
noncomputable def Jr7_0 (rc : Rec) (md : Md) (s1 : Value) (s4 : Value) (s5 : Value) (s30 : Value) (s31 : Value) (s32 : Value) (h : Heap) : Option (((Value × Value × Value × Value × Value × Value) × Heap) ⊕ (Exit × (Value × Value × Value × Value × Value × Value) × Heap)) :=
  aBin Try.prog .lss 3 s32 s31 fun v1 =>
  cBn v1 fun b2 =>
  bif b2 then
    ixSV 5 s30 s32 fun v3 =>
    ldN 5 v3 h fun v4 =>
    let h5 : Heap := h ++ [.own [(.int .i64 0), (.int .i64 0), (.int .i64 0), (.int .i64 0), (.bool false)]]
    st md 5 (.pointer (some ⟨h.length, 0, none⟩)) v4 h5 fun h6 =>
    ldN 5 (.pointer (some ⟨h.length, 0, none⟩)) h6 fun v7 =>
    cl (rc md 17 [s5, v7] h6) fun v8 h9 =>
    cBn v8 fun b10 =>
    bif !b10 then
      some (.inr (.ret, (s1, (.bool false), s5, s30, s31, s32), h9))
    else
      aBin Try.prog .add 3 s32 (.int .i64 1) fun v11 =>
      some (.inl ((s1, s4, s5, s30, s31, v11), h9))
  else
    some (.inr ((.exit 0), (s1, s4, s5, s30, s31, s32), h))
theorem Jr7_0_at (rc : Rec) (md : Md) (t : T) (h : Heap) : exec Try.prog cfg rc md 118 (sub (bodyOf Try.prog 7) [1, 1, 1, 1, 0, 1, 0, 0]) (rndK (fun t => (t 1, t 4, t 5, t 30, t 31, t 32))) t h = Jr7_0 rc md (t 1) (t 4) (t 5) (t 30) (t 31) (t 32) h := by kernel_rfl
noncomputable def J7_0 (rc : Rec) (md : Md) (h0 : Heap) (s1 : Value) (s4 : Value) (s5 : Value) (s30 : Value) (s31 : Value) (s32 : Value) (h : Heap) : Option (Value × Heap) :=
  runL (fun x : (Value × Value × Value × Value × Value × Value) × Heap => Jr7_0 rc md x.1.1 x.1.2.1 x.1.2.2.1 x.1.2.2.2.1 x.1.2.2.2.2.1 x.1.2.2.2.2.2 x.2) (fun e (s : Value × Value × Value × Value × Value × Value) h => Jk7_0 rc md h0 e s.1 s.2.1 s.2.2.1 s.2.2.2.1 s.2.2.2.2.1 s.2.2.2.2.2 h) (s1, s4, s5, s30, s31, s32) h
theorem J7_0_step (rc : Rec) (md : Md) (h0 : Heap) (s1 : Value) (s4 : Value) (s5 : Value) (s30 : Value) (s31 : Value) (s32 : Value) (h : Heap) : J7_0 rc md h0 s1 s4 s5 s30 s31 s32 h = (Jr7_0 rc md s1 s4 s5 s30 s31 s32 h).bind fun x => match x with
    | .inl (s, h) => J7_0 rc md h0 s.1 s.2.1 s.2.2.1 s.2.2.2.1 s.2.2.2.2.1 s.2.2.2.2.2 h
    | .inr (e, s, h) => Jk7_0 rc md h0 e s.1 s.2.1 s.2.2.1 s.2.2.2.1 s.2.2.2.2.1 s.2.2.2.2.2 h := by
  unfold J7_0
  rw [runL_eq]
  refine congrArg (Option.bind _) (funext fun x => ?_)
  rcases x with ⟨s, h⟩ | ⟨e, s, h⟩ <;> rfl
theorem J7_0_cut (rc : Rec) (md : Md) (h0 : Heap) : cut Try.prog cfg rc md 118 (bodyOf Try.prog 7) [1, 1, 1, 1, 0, 1, 0] (retK Try.prog cfg 7 (rsOf Try.prog 7) h0) = fun t h => J7_0 rc md h0 (t 1) (t 4) (t 5) (t 30) (t 31) (t 32) h := by
  funext t h
  have e : sub (bodyOf Try.prog 7) [1, 1, 1, 1, 0, 1, 0] = .loop (sub (bodyOf Try.prog 7) [1, 1, 1, 1, 0, 1, 0, 0]) := by kernel_rfl
  unfold cut
  rw [e]
  exact loop_eq (by kernel_rfl) (fun t => (t 1, t 4, t 5, t 30, t 31, t 32)) (fun x : (Value × Value × Value × Value × Value × Value) × Heap => Jr7_0 rc md x.1.1 x.1.2.1 x.1.2.2.1 x.1.2.2.2.1 x.1.2.2.2.2.1 x.1.2.2.2.2.2 x.2) (fun t h => Jr7_0_at rc md t h) (fun e (s : Value × Value × Value × Value × Value × Value) h => Jk7_0 rc md h0 e s.1 s.2.1 s.2.2.1 s.2.2.2.1 s.2.2.2.2.1 s.2.2.2.2.2 h) (fun e t h => Jk7_0_at rc md h0 e t h) t h
noncomputable def F7 (rc : Rec) (md : Md) (a0_0 : Int) (a0_1 : Int) (a0_2 : Int) (a0_3 : Value) (a0_4 : Value) (a1 : Int) (h0 : Heap) : Option (Value × Heap) :=
  let h1 : Heap := h0 ++ [.own [(.int .i64 a0_0), (.int .i64 a0_1), (.int .i64 a0_2), a0_3, a0_4]]
  ldN 5 (.pointer (some ⟨h0.length, 0, none⟩)) h1 fun v2 =>
  cl (rc md 13 [v2] h1) fun v3 h4 =>
  cBn v3 fun b5 =>
  (bif wantV (.bool (!b5)) false then
  some ((.int .i64 a1), h4)
  else some (undef, h4)).bind fun p6 =>
  (bif wantV (.bool (!b5)) false then
  aBin Try.prog .lss 3 p6.1 (.int .i64 0) fun v7 =>
  some (v7, p6.2)
  else some (undef, p6.2)).bind fun p8 =>
  cBn (bif !b5 then (.bool true) else p8.1) fun b9 =>
  (bif wantV (.bool b9) false then
  some ((.int .i64 a1), p8.2)
  else some (undef, p8.2)).bind fun p10 =>
  (bif wantV (.bool b9) false then
  aBin Try.prog .gtr 3 p10.1 (.int .i64 1) fun v11 =>
  some (v11, p10.2)
  else some (undef, p10.2)).bind fun p12 =>
  cBn (bif b9 then (.bool true) else p12.1) fun b13 =>
  bif b13 then
    cl (rc md 14 [] p12.2) fun v14 h15 =>
    cBn v14 fun b16 =>
    some ((.bool b16), List.take h0.length h15)
  else
    ldN 5 (.pointer (some ⟨h0.length, 0, none⟩)) p12.2 fun v17 =>
    cl (rc md 15 [v17] p12.2) fun v18 h19 =>
    aBin Try.prog .eql 30 v18 (.pointer none) fun v20 =>
    cBn v20 fun b21 =>
    bif b21 then
      some ((.bool false), List.take h0.length h19)
    else
      ld1 (.pointer (some ⟨h0.length, 4, none⟩)) h19 fun v22 =>
      lenS v22 fun v23 =>
      cIn .i64 v23 fun n24 =>
      J7_0 rc md h0 (.int .i64 a1) (.bool false) v18 v22 (.int .i64 n24) (.int .i64 0) h19
noncomputable def F7H (rc : Rec) (md : Md) (X0 : T → Heap → Option (Value × Heap)) (a0_0 : Int) (a0_1 : Int) (a0_2 : Int) (a0_3 : Value) (a0_4 : Value) (a1 : Int) (h0 : Heap) : Option (Value × Heap) :=
  let h1 : Heap := h0 ++ [.own [(.int .i64 a0_0), (.int .i64 a0_1), (.int .i64 a0_2), a0_3, a0_4]]
  ldN 5 (.pointer (some ⟨h0.length, 0, none⟩)) h1 fun v2 =>
  cl (rc md 13 [v2] h1) fun v3 h4 =>
  cBn v3 fun b5 =>
  (bif wantV (.bool (!b5)) false then
  some ((.int .i64 a1), h4)
  else some (undef, h4)).bind fun p6 =>
  (bif wantV (.bool (!b5)) false then
  aBin Try.prog .lss 3 p6.1 (.int .i64 0) fun v7 =>
  some (v7, p6.2)
  else some (undef, p6.2)).bind fun p8 =>
  cBn (bif !b5 then (.bool true) else p8.1) fun b9 =>
  (bif wantV (.bool b9) false then
  some ((.int .i64 a1), p8.2)
  else some (undef, p8.2)).bind fun p10 =>
  (bif wantV (.bool b9) false then
  aBin Try.prog .gtr 3 p10.1 (.int .i64 1) fun v11 =>
  some (v11, p10.2)
  else some (undef, p10.2)).bind fun p12 =>
  cBn (bif b9 then (.bool true) else p12.1) fun b13 =>
  bif b13 then
    cl (rc md 14 [] p12.2) fun v14 h15 =>
    cBn v14 fun b16 =>
    some ((.bool b16), List.take h0.length h15)
  else
    ldN 5 (.pointer (some ⟨h0.length, 0, none⟩)) p12.2 fun v17 =>
    cl (rc md 15 [v17] p12.2) fun v18 h19 =>
    aBin Try.prog .eql 30 v18 (.pointer none) fun v20 =>
    cBn v20 fun b21 =>
    bif b21 then
      some ((.bool false), List.take h0.length h19)
    else
      ld1 (.pointer (some ⟨h0.length, 4, none⟩)) h19 fun v22 =>
      lenS v22 fun v23 =>
      cIn .i64 v23 fun n24 =>
      X0 (upd (upd (upd (upd (upd (upd (upd (upd (upd (upd (upd (upd (upd (upd (upd (upd (upd (upd (upd (upd (upd (upd (args0 [(.agg #[(.int .i64 a0_0), (.int .i64 a0_1), (.int .i64 a0_2), a0_3, a0_4]), (.int .i64 a1)]) 2 (.pointer (some ⟨h0.length, 0, none⟩))) 4 (.bool false)) 13 v2) 14 (.bool b5)) 15 (.bool (!b5))) 16 (.bool (!b5))) 17 p6.1) 18 p8.1) 19 (.bool b9)) 20 (.bool b9)) 21 p10.1) 22 p12.1) 23 (.bool b13)) 25 v17) 26 v18) 5 v18) 27 v18) 28 v20) 29 (.pointer (some ⟨h0.length, 4, none⟩))) 30 v22) 31 (.int .i64 n24)) 32 (.int .i64 0)) h19
theorem F7_h0 (rc : Rec) (md : Md) (a0_0 : Int) (a0_1 : Int) (a0_2 : Int) (a0_3 : Value) (a0_4 : Value) (a1 : Int) (h0 : Heap) : callStep0 Try.prog cfg rc md 7 [(.agg #[(.int .i64 a0_0), (.int .i64 a0_1), (.int .i64 a0_2), a0_3, a0_4]), (.int .i64 a1)] h0 = exec Try.prog cfg rc ⟨md.ro, h0.length⟩ 118 (bodyOf Try.prog 7) (retK Try.prog cfg 7 (rsOf Try.prog 7) h0) (args0 [(.agg #[(.int .i64 a0_0), (.int .i64 a0_1), (.int .i64 a0_2), a0_3, a0_4]), (.int .i64 a1)]) h0 := callStep0_run (by kernel_rfl) (by kernel_rfl) (by kernel_rfl)
theorem F7_h1 (rc : Rec) (md : Md) (X : Nat → T → Heap → Option (Value × Heap)) (a0_0 : Int) (a0_1 : Int) (a0_2 : Int) (a0_3 : Value) (a0_4 : Value) (a1 : Int) (h0 : Heap) : execG Try.prog cfg X rc md 118 (replS (bodyOf Try.prog 7) [([1, 1, 1, 1, 0, 1, 0], 0), ([1, 1, 1, 1, 1, 0, 1, 0], 1), ([1, 1, 1, 1, 1, 1], 2), ([1, 1, 1, 1, 1], 3)]) (retK Try.prog cfg 7 (rsOf Try.prog 7) h0) (args0 [(.agg #[(.int .i64 a0_0), (.int .i64 a0_1), (.int .i64 a0_2), a0_3, a0_4]), (.int .i64 a1)]) h0 = F7H rc md (X 0) a0_0 a0_1 a0_2 a0_3 a0_4 a1 h0 := by kernel_rfl
theorem F7_h2 (rc : Rec) (md : Md) (a0_0 : Int) (a0_1 : Int) (a0_2 : Int) (a0_3 : Value) (a0_4 : Value) (a1 : Int) (h0 : Heap) : F7H rc md (fun t h => J7_0 rc md h0 (t 1) (t 4) (t 5) (t 30) (t 31) (t 32) h) a0_0 a0_1 a0_2 a0_3 a0_4 a1 h0 = F7 rc md a0_0 a0_1 a0_2 a0_3 a0_4 a1 h0 := by unfold F7H F7; kernel_rfl
theorem F7_eq0 (rc : Rec) (md : Md) (a0_0 : Int) (a0_1 : Int) (a0_2 : Int) (a0_3 : Value) (a0_4 : Value) (a1 : Int) (h0 : Heap) : callStep0 Try.prog cfg rc md 7 [(.agg #[(.int .i64 a0_0), (.int .i64 a0_1), (.int .i64 a0_2), a0_3, a0_4]), (.int .i64 a1)] h0 = F7 rc ⟨md.ro, h0.length⟩ a0_0 a0_1 a0_2 a0_3 a0_4 a1 h0 := by
  rw [F7_h0, exec_holes [([1, 1, 1, 1, 0, 1, 0], 0), ([1, 1, 1, 1, 1, 0, 1, 0], 1), ([1, 1, 1, 1, 1, 1], 2), ([1, 1, 1, 1, 1], 3)] (by kernel_rfl), F7_h1, show (goX Try.prog cfg rc ⟨md.ro, h0.length⟩ 118 (bodyOf Try.prog 7) [([1, 1, 1, 1, 0, 1, 0], 0), ([1, 1, 1, 1, 1, 0, 1, 0], 1), ([1, 1, 1, 1, 1, 1], 2), ([1, 1, 1, 1, 1], 3)] (retK Try.prog cfg 7 (rsOf Try.prog 7) h0)) 0 = _ from J7_0_cut rc ⟨md.ro, h0.length⟩ h0]
  exact F7_h2 rc _ a0_0 a0_1 a0_2 a0_3 a0_4 a1 h0
theorem F7_eq (rc : Rec) (md : Md) (a0_0 : Int) (a0_1 : Int) (a0_2 : Int) (a0_3 : Value) (a0_4 : Value) (a1 : Int) (h0 : Heap) : callStep Try.prog cfg rc md 7 [(.agg #[(.int .i64 a0_0), (.int .i64 a0_1), (.int .i64 a0_2), a0_3, a0_4]), (.int .i64 a1)] h0 = F7 rc ⟨md.ro, h0.length⟩ a0_0 a0_1 a0_2 a0_3 a0_4 a1 h0 := (callStep_ne (by kernel_rfl)).trans (F7_eq0 rc md a0_0 a0_1 a0_2 a0_3 a0_4 a1 h0)

end Go.Det.E
