/- Printed functions. -/
import Derived.Test.YtodeenahpoobkaaE5
import Derived.Test.YtodeenahpoobkaaDetT
import Derived.Test.YtodeenahpoobkaaDetX
import Derived.Test.YtodeenahpoobkaaProg
set_option autoImplicit false
set_option linter.unusedVariables false
set_option linter.unusedSimpArgs false
namespace Go.Det.E
open Go.Proofs Go.Det

/-- tombolo/tombololaw09.TreapSame -/
noncomputable def J6_5 (rc : Rec) (md : Md) (h0 : Heap) (s3 : Value) (s6 : Value) (h : Heap) : Option (Value × Heap) :=
  bif okNil Try.prog s3 then
  fA 10 s3 fun v1 =>
  ldN 4 v1 h fun v2 =>
  bif okNil Try.prog s6 then
  fA 10 s6 fun v3 =>
  st md 4 v3 v2 h fun h4 =>
  cl (rc md 16 [s6] h4) fun v5 h6 =>
  cBn v5 fun b7 =>
  (bif wantV (.bool b7) true then
  cl (rc md 14 [] h6) fun v8 h9 =>
  cBn v8 fun b10 =>
  some ((.bool b10), h9)
  else some (undef, h6)).bind fun p11 =>
  cBn (bif b7 then p11.1 else (.bool false)) fun b12 =>
  some ((.bool b12), List.take h0.length p11.2)
  else none
  else none
theorem J6_5_at (rc : Rec) (md : Md) (h0 : Heap) (t : T) (h : Heap) : cut Try.prog cfg rc md 125 (bodyOf Try.prog 6) [1, 1, 1, 1, 1, 1, 1, 1, 1] (retK Try.prog cfg 6 (rsOf Try.prog 6) h0) t h = J6_5 rc md h0 (t 3) (t 6) h := by kernel_rfl
theorem J6_5_cut (rc : Rec) (md : Md) (h0 : Heap) : cut Try.prog cfg rc md 125 (bodyOf Try.prog 6) [1, 1, 1, 1, 1, 1, 1, 1, 1] (retK Try.prog cfg 6 (rsOf Try.prog 6) h0) = fun t h => J6_5 rc md h0 (t 3) (t 6) h := funext fun t => funext fun h => J6_5_at rc md h0 t h
noncomputable def Jk6_4 (rc : Rec) (md : Md) (h0 : Heap) (e : Exit) (s2 : Value) (s3 : Value) (s6 : Value) (s78 : Value) (s79 : Value) (s80 : Value) (h : Heap) : Option (Value × Heap) :=
  match e with
  | .normal =>
    J6_5 rc md h0 s3 s6 h
  | .exit j =>
    bif Nat.beq j 6 then
      J6_5 rc md h0 s3 s6 h
    else
      none
  | .ret =>
    fin1 h0 s2 h
  | .goto l => none
  | .panic ps => none
  | .outgrown => none
noncomputable def Jk6_4H (rc : Rec) (md : Md) (h0 : Heap) (X3 : T → Heap → Option (Value × Heap)) (e : Exit) (t : T) (h : Heap) : Option (Value × Heap) :=
  match e with
  | .normal =>
    X3 t h
  | .exit j =>
    bif Nat.beq j 6 then
      X3 t h
    else
      none
  | .ret =>
    fin1 h0 (t 2) h
  | .goto l => none
  | .panic ps => none
  | .outgrown => none
theorem Jk6_4_h1 (rc : Rec) (md : Md) (h0 : Heap) (X : Nat → T → Heap → Option (Value × Heap)) (e : Exit) (t : T) (h : Heap) : kAtG Try.prog cfg X rc md 125 (replS (bodyOf Try.prog 6) [([1, 1, 1, 1, 0, 1, 0], 0), ([1, 1, 1, 1, 1, 1, 1, 0, 1, 0], 1), ([1, 1, 1, 1, 1, 1, 1, 1, 1], 3)]) [1, 1, 1, 1, 1, 1, 1, 1, 0, 1, 0] (retK Try.prog cfg 6 (rsOf Try.prog 6) h0) e t h = Jk6_4H rc md h0 (X 3) e t h := by cases e <;> kernel_rfl
theorem Jk6_4_h2 (rc : Rec) (md : Md) (h0 : Heap) (e : Exit) (t : T) (h : Heap) : Jk6_4H rc md h0 (fun t h => J6_5 rc md h0 (t 3) (t 6) h) e t h = Jk6_4 rc md h0 e (t 2) (t 3) (t 6) (t 78) (t 79) (t 80) h := by cases e <;> (unfold Jk6_4H Jk6_4; kernel_rfl)
theorem Jk6_4_at (rc : Rec) (md : Md) (h0 : Heap) (e : Exit) (t : T) (h : Heap) : kAt Try.prog cfg rc md 125 (bodyOf Try.prog 6) [1, 1, 1, 1, 1, 1, 1, 1, 0, 1, 0] (retK Try.prog cfg 6 (rsOf Try.prog 6) h0) e t h = Jk6_4 rc md h0 e (t 2) (t 3) (t 6) (t 78) (t 79) (t 80) h := by
  rw [kAt_holes [([1, 1, 1, 1, 0, 1, 0], 0), ([1, 1, 1, 1, 1, 1, 1, 0, 1, 0], 1), ([1, 1, 1, 1, 1, 1, 1, 1, 1], 3)] [1, 1, 1, 1, 1, 1, 1, 1, 0, 1, 0] (by kernel_rfl), Jk6_4_h1, show (goX Try.prog cfg rc md 125 (bodyOf Try.prog 6) [([1, 1, 1, 1, 0, 1, 0], 0), ([1, 1, 1, 1, 1, 1, 1, 0, 1, 0], 1), ([1, 1, 1, 1, 1, 1, 1, 1, 1], 3)] (retK Try.prog cfg 6 (rsOf Try.prog 6) h0)) 3 = _ from J6_5_cut rc md h0]
  exact Jk6_4_h2 rc md h0 e t h
noncomputable def J6_4b1 (rc : Rec) (md : Md) (s2 : Value) (s3 : Value) (s6 : Value) (s11 : Value) (s12 : Value) (s78 : Value) (s79 : Value) (s80 : Value) (h : Heap) : Option (((Value × Value × Value × Value × Value × Value) × Heap) ⊕ (Exit × (Value × Value × Value × Value × Value × Value) × Heap)) :=
  bif okNil Try.prog s3 then
  fA 10 s3 fun v1 =>
  ldN 4 v1 h fun v2 =>
  cl (rc md 19 [v2, s11] h) fun v3 h4 =>
  cIn .i64 v3 fun n5 =>
  aBin Try.prog .neq 3 s12 (.int .i64 n5) fun v6 =>
  cBn v6 fun b7 =>
  bif b7 then
    some (.inr (.ret, ((.bool false), s3, s6, s78, s79, s80), h4))
  else
    aBin Try.prog .add 3 s80 (.int .i64 1) fun v8 =>
    some (.inl ((s2, s3, s6, s78, s79, v8), h4))
  else none
theorem J6_4b1_at (rc : Rec) (md : Md) (t : T) (h : Heap) : cut Try.prog cfg rc md 125 (sub (bodyOf Try.prog 6) [1, 1, 1, 1, 1, 1, 1, 1, 0, 1, 0, 0]) [1, 1, 0, 0, 1, 1, 1] (rndK (fun t => (t 2, t 3, t 6, t 78, t 79, t 80))) t h = J6_4b1 rc md (t 2) (t 3) (t 6) (t 11) (t 12) (t 78) (t 79) (t 80) h := by kernel_rfl
theorem J6_4b1_cut (rc : Rec) (md : Md) : cut Try.prog cfg rc md 125 (sub (bodyOf Try.prog 6) [1, 1, 1, 1, 1, 1, 1, 1, 0, 1, 0, 0]) [1, 1, 0, 0, 1, 1, 1] (rndK (fun t => (t 2, t 3, t 6, t 78, t 79, t 80))) = fun t h => J6_4b1 rc md (t 2) (t 3) (t 6) (t 11) (t 12) (t 78) (t 79) (t 80) h := funext fun t => funext fun h => J6_4b1_at rc md t h
noncomputable def Jk6_4b0 (rc : Rec) (md : Md) (e : Exit) (s2 : Value) (s3 : Value) (s6 : Value) (s11 : Value) (s12 : Value) (s78 : Value) (s79 : Value) (s80 : Value) (s85 : Value) (s86 : Value) (h : Heap) : Option (((Value × Value × Value × Value × Value × Value) × Heap) ⊕ (Exit × (Value × Value × Value × Value × Value × Value) × Heap)) :=
  match e with
  | .normal =>
    J6_4b1 rc md s2 s3 s6 s11 s12 s78 s79 s80 h
  | .exit j =>
    bif Nat.beq j 8 then
      J6_4b1 rc md s2 s3 s6 s11 s12 s78 s79 s80 h
    else
      bif Nat.beq j 7 then
        aBin Try.prog .add 3 s80 (.int .i64 1) fun v1 =>
        some (.inl ((s2, s3, s6, s78, s79, v1), h))
      else
        some (.inr ((.exit j), (s2, s3, s6, s78, s79, s80), h))
  | .ret =>
    some (.inr (.ret, (s2, s3, s6, s78, s79, s80), h))
  | .goto l => some (.inr ((.goto l), (s2, s3, s6, s78, s79, s80), h))
  | .panic ps => some (.inr ((.panic ps), (s2, s3, s6, s78, s79, s80), h))
  | .outgrown => some (.inr (.outgrown, (s2, s3, s6, s78, s79, s80), h))
noncomputable def Jk6_4b0H (rc : Rec) (md : Md) (X1 : T → Heap → Option (((Value × Value × Value × Value × Value × Value) × Heap) ⊕ (Exit × (Value × Value × Value × Value × Value × Value) × Heap))) (e : Exit) (t : T) (h : Heap) : Option (((Value × Value × Value × Value × Value × Value) × Heap) ⊕ (Exit × (Value × Value × Value × Value × Value × Value) × Heap)) :=
  match e with
  | .normal =>
    X1 t h
  | .exit j =>
    bif Nat.beq j 8 then
      X1 t h
    else
      bif Nat.beq j 7 then
        aBin Try.prog .add 3 (t 80) (.int .i64 1) fun v1 =>
        some (.inl (((t 2), (t 3), (t 6), (t 78), (t 79), v1), h))
      else
        some (.inr ((.exit j), ((t 2), (t 3), (t 6), (t 78), (t 79), (t 80)), h))
  | .ret =>
    some (.inr (.ret, ((t 2), (t 3), (t 6), (t 78), (t 79), (t 80)), h))
  | .goto l => some (.inr ((.goto l), ((t 2), (t 3), (t 6), (t 78), (t 79), (t 80)), h))
  | .panic ps => some (.inr ((.panic ps), ((t 2), (t 3), (t 6), (t 78), (t 79), (t 80)), h))
  | .outgrown => some (.inr (.outgrown, ((t 2), (t 3), (t 6), (t 78), (t 79), (t 80)), h))
theorem Jk6_4b0_h1 (rc : Rec) (md : Md) (X : Nat → T → Heap → Option (((Value × Value × Value × Value × Value × Value) × Heap) ⊕ (Exit × (Value × Value × Value × Value × Value × Value) × Heap))) (e : Exit) (t : T) (h : Heap) : kAtG Try.prog cfg X rc md 125 (replS (sub (bodyOf Try.prog 6) [1, 1, 1, 1, 1, 1, 1, 1, 0, 1, 0, 0]) [([1, 1, 0, 0, 1, 1, 1], 1)]) [1, 1, 0, 0, 1, 1, 0, 1, 0] (rndK (fun t => (t 2, t 3, t 6, t 78, t 79, t 80))) e t h = Jk6_4b0H rc md (X 1) e t h := by cases e <;> kernel_rfl
theorem Jk6_4b0_h2 (rc : Rec) (md : Md) (e : Exit) (t : T) (h : Heap) : Jk6_4b0H rc md (fun t h => J6_4b1 rc md (t 2) (t 3) (t 6) (t 11) (t 12) (t 78) (t 79) (t 80) h) e t h = Jk6_4b0 rc md e (t 2) (t 3) (t 6) (t 11) (t 12) (t 78) (t 79) (t 80) (t 85) (t 86) h := by cases e <;> (unfold Jk6_4b0H Jk6_4b0; kernel_rfl)
theorem Jk6_4b0_at (rc : Rec) (md : Md) (e : Exit) (t : T) (h : Heap) : kAt Try.prog cfg rc md 125 (sub (bodyOf Try.prog 6) [1, 1, 1, 1, 1, 1, 1, 1, 0, 1, 0, 0]) [1, 1, 0, 0, 1, 1, 0, 1, 0] (rndK (fun t => (t 2, t 3, t 6, t 78, t 79, t 80))) e t h = Jk6_4b0 rc md e (t 2) (t 3) (t 6) (t 11) (t 12) (t 78) (t 79) (t 80) (t 85) (t 86) h := by
  rw [kAt_holes [([1, 1, 0, 0, 1, 1, 1], 1)] [1, 1, 0, 0, 1, 1, 0, 1, 0] (by kernel_rfl), Jk6_4b0_h1, show (goX Try.prog cfg rc md 125 (sub (bodyOf Try.prog 6) [1, 1, 1, 1, 1, 1, 1, 1, 0, 1, 0, 0]) [([1, 1, 0, 0, 1, 1, 1], 1)] (rndK (fun t => (t 2, t 3, t 6, t 78, t 79, t 80)))) 1 = _ from J6_4b1_cut rc md]
  exact Jk6_4b0_h2 rc md e t h
/-- a round -/
noncomputable def Jr6_4b0 (rc : Rec) (md : Md) (s2 : Value) (s3 : Value) (s6 : Value) (s11 : Value) (s12 : Value) (s78 : Value) (s79 : Value) (s80 : Value) (s85 : Value) (s86 : Value) (h : Heap) : Option (((Value × Value × Value × Value × Value × Value × Value × Value × Value × Value) × Heap) ⊕ (Exit × (Value × Value × Value × Value × Value × Value × Value × Value × Value × Value) × Heap)) :=
  aBin Try.prog .lss 3 s86 s85 fun v1 =>
  cBn v1 fun b2 =>
  bif b2 then
    bif okNil Try.prog s6 then
    fA 4 s6 fun v3 =>
    ldN 6 v3 h fun v4 =>
    lenS s11 fun v5 =>
    cIn .i64 v5 fun n6 =>
    aBin Try.prog .sub 3 (.int .i64 (IntKind.wrap .i64 (n6 - 1))) s86 fun v7 =>
    ixSV 1 s11 v7 fun v8 =>
    ld1 v8 h fun v9 =>
    cIn .i64 v9 fun n10 =>
    cl (rc md 29 [v4, (.int .i64 n10), s12] h) fun v11 h12 =>
    cIn .i64 v11 fun n13 =>
    aBin Try.prog .add 3 s86 (.int .i64 1) fun v14 =>
    some (.inl ((s2, s3, s6, s11, (.int .i64 n13), s78, s79, s80, s85, v14), h12))
    else none
  else
    some (.inr ((.exit 8), (s2, s3, s6, s11, s12, s78, s79, s80, s85, s86), h))
theorem Jr6_4b0_at (rc : Rec) (md : Md) (t : T) (h : Heap) : exec Try.prog cfg rc md 125 (sub (bodyOf Try.prog 6) [1, 1, 1, 1, 1, 1, 1, 1, 0, 1, 0, 0, 1, 1, 0, 0, 1, 1, 0, 1, 0, 0]) (rndK (fun t => (t 2, t 3, t 6, t 11, t 12, t 78, t 79, t 80, t 85, t 86))) t h = Jr6_4b0 rc md (t 2) (t 3) (t 6) (t 11) (t 12) (t 78) (t 79) (t 80) (t 85) (t 86) h := by kernel_rfl
noncomputable def J6_4b0 (rc : Rec) (md : Md) (s2 : Value) (s3 : Value) (s6 : Value) (s11 : Value) (s12 : Value) (s78 : Value) (s79 : Value) (s80 : Value) (s85 : Value) (s86 : Value) (h : Heap) : Option (((Value × Value × Value × Value × Value × Value) × Heap) ⊕ (Exit × (Value × Value × Value × Value × Value × Value) × Heap)) :=
  runL (fun x : (Value × Value × Value × Value × Value × Value × Value × Value × Value × Value) × Heap => Jr6_4b0 rc md x.1.1 x.1.2.1 x.1.2.2.1 x.1.2.2.2.1 x.1.2.2.2.2.1 x.1.2.2.2.2.2.1 x.1.2.2.2.2.2.2.1 x.1.2.2.2.2.2.2.2.1 x.1.2.2.2.2.2.2.2.2.1 x.1.2.2.2.2.2.2.2.2.2 x.2) (fun e (s : Value × Value × Value × Value × Value × Value × Value × Value × Value × Value) h => Jk6_4b0 rc md e s.1 s.2.1 s.2.2.1 s.2.2.2.1 s.2.2.2.2.1 s.2.2.2.2.2.1 s.2.2.2.2.2.2.1 s.2.2.2.2.2.2.2.1 s.2.2.2.2.2.2.2.2.1 s.2.2.2.2.2.2.2.2.2 h) (s2, s3, s6, s11, s12, s78, s79, s80, s85, s86) h
theorem J6_4b0_step (rc : Rec) (md : Md) (s2 : Value) (s3 : Value) (s6 : Value) (s11 : Value) (s12 : Value) (s78 : Value) (s79 : Value) (s80 : Value) (s85 : Value) (s86 : Value) (h : Heap) : J6_4b0 rc md s2 s3 s6 s11 s12 s78 s79 s80 s85 s86 h = (Jr6_4b0 rc md s2 s3 s6 s11 s12 s78 s79 s80 s85 s86 h).bind fun x => match x with
    | .inl (s, h) => J6_4b0 rc md s.1 s.2.1 s.2.2.1 s.2.2.2.1 s.2.2.2.2.1 s.2.2.2.2.2.1 s.2.2.2.2.2.2.1 s.2.2.2.2.2.2.2.1 s.2.2.2.2.2.2.2.2.1 s.2.2.2.2.2.2.2.2.2 h
    | .inr (e, s, h) => Jk6_4b0 rc md e s.1 s.2.1 s.2.2.1 s.2.2.2.1 s.2.2.2.2.1 s.2.2.2.2.2.1 s.2.2.2.2.2.2.1 s.2.2.2.2.2.2.2.1 s.2.2.2.2.2.2.2.2.1 s.2.2.2.2.2.2.2.2.2 h := by
  unfold J6_4b0
  rw [runL_eq]
  refine congrArg (Option.bind _) (funext fun x => ?_)
  rcases x with ⟨s, h⟩ | ⟨e, s, h⟩ <;> rfl
theorem J6_4b0_cut (rc : Rec) (md : Md) : cut Try.prog cfg rc md 125 (sub (bodyOf Try.prog 6) [1, 1, 1, 1, 1, 1, 1, 1, 0, 1, 0, 0]) [1, 1, 0, 0, 1, 1, 0, 1, 0] (rndK (fun t => (t 2, t 3, t 6, t 78, t 79, t 80))) = fun t h => J6_4b0 rc md (t 2) (t 3) (t 6) (t 11) (t 12) (t 78) (t 79) (t 80) (t 85) (t 86) h := by
  funext t h
  have e : sub (sub (bodyOf Try.prog 6) [1, 1, 1, 1, 1, 1, 1, 1, 0, 1, 0, 0]) [1, 1, 0, 0, 1, 1, 0, 1, 0] = .loop (sub (bodyOf Try.prog 6) [1, 1, 1, 1, 1, 1, 1, 1, 0, 1, 0, 0, 1, 1, 0, 0, 1, 1, 0, 1, 0, 0]) := by kernel_rfl
  unfold cut
  rw [e]
  exact loop_eq (by kernel_rfl) (fun t => (t 2, t 3, t 6, t 11, t 12, t 78, t 79, t 80, t 85, t 86)) (fun x : (Value × Value × Value × Value × Value × Value × Value × Value × Value × Value) × Heap => Jr6_4b0 rc md x.1.1 x.1.2.1 x.1.2.2.1 x.1.2.2.2.1 x.1.2.2.2.2.1 x.1.2.2.2.2.2.1 x.1.2.2.2.2.2.2.1 x.1.2.2.2.2.2.2.2.1 x.1.2.2.2.2.2.2.2.2.1 x.1.2.2.2.2.2.2.2.2.2 x.2) (fun t h => Jr6_4b0_at rc md t h) (fun e (s : Value × Value × Value × Value × Value × Value × Value × Value × Value × Value) h => Jk6_4b0 rc md e s.1 s.2.1 s.2.2.1 s.2.2.2.1 s.2.2.2.2.1 s.2.2.2.2.2.1 s.2.2.2.2.2.2.1 s.2.2.2.2.2.2.2.1 s.2.2.2.2.2.2.2.2.1 s.2.2.2.2.2.2.2.2.2 h) (fun e t h => Jk6_4b0_at rc md e t h) t h
/-- a round -/
noncomputable def Jr6_4 (rc : Rec) (md : Md) (s2 : Value) (s3 : Value) (s6 : Value) (s78 : Value) (s79 : Value) (s80 : Value) (h : Heap) : Option (((Value × Value × Value × Value × Value × Value) × Heap) ⊕ (Exit × (Value × Value × Value × Value × Value × Value) × Heap)) :=
  aBin Try.prog .lss 3 s80 s79 fun v1 =>
  cBn v1 fun b2 =>
  bif b2 then
    ixSV 1 s78 s80 fun v3 =>
    ld1 v3 h fun v4 =>
    lenS v4 fun v5 =>
    cIn .i64 v5 fun n6 =>
    J6_4b0 rc md s2 s3 s6 v4 (.int .i64 0) s78 s79 s80 (.int .i64 n6) (.int .i64 0) h
  else
    some (.inr ((.exit 6), (s2, s3, s6, s78, s79, s80), h))
noncomputable def Jr6_4H (rc : Rec) (md : Md) (X0 : T → Heap → Option (((Value × Value × Value × Value × Value × Value) × Heap) ⊕ (Exit × (Value × Value × Value × Value × Value × Value) × Heap))) (t : T) (h : Heap) : Option (((Value × Value × Value × Value × Value × Value) × Heap) ⊕ (Exit × (Value × Value × Value × Value × Value × Value) × Heap)) :=
  aBin Try.prog .lss 3 (t 80) (t 79) fun v1 =>
  cBn v1 fun b2 =>
  bif b2 then
    ixSV 1 (t 78) (t 80) fun v3 =>
    ld1 v3 h fun v4 =>
    lenS v4 fun v5 =>
    cIn .i64 v5 fun n6 =>
    X0 (upd (upd (upd (upd (upd (upd (upd (upd t 81 v1) 82 v3) 83 v4) 11 v4) 12 (.int .i64 0)) 84 v4) 85 (.int .i64 n6)) 86 (.int .i64 0)) h
  else
    some (.inr ((.exit 6), ((t 2), (t 3), (t 6), (t 78), (t 79), (t 80)), h))
theorem Jr6_4_h1 (rc : Rec) (md : Md) (X : Nat → T → Heap → Option (((Value × Value × Value × Value × Value × Value) × Heap) ⊕ (Exit × (Value × Value × Value × Value × Value × Value) × Heap))) (t : T) (h : Heap) : execG Try.prog cfg X rc md 125 (replS (sub (bodyOf Try.prog 6) [1, 1, 1, 1, 1, 1, 1, 1, 0, 1, 0, 0]) [([1, 1, 0, 0, 1, 1, 0, 1, 0], 0), ([1, 1, 0, 0, 1, 1, 1], 1)]) (rndK (fun t => (t 2, t 3, t 6, t 78, t 79, t 80))) t h = Jr6_4H rc md (X 0) t h := by kernel_rfl
theorem Jr6_4_h2 (rc : Rec) (md : Md) (t : T) (h : Heap) : Jr6_4H rc md (fun t h => J6_4b0 rc md (t 2) (t 3) (t 6) (t 11) (t 12) (t 78) (t 79) (t 80) (t 85) (t 86) h) t h = Jr6_4 rc md (t 2) (t 3) (t 6) (t 78) (t 79) (t 80) h := by unfold Jr6_4H Jr6_4; kernel_rfl
theorem Jr6_4_at (rc : Rec) (md : Md) (t : T) (h : Heap) : exec Try.prog cfg rc md 125 (sub (bodyOf Try.prog 6) [1, 1, 1, 1, 1, 1, 1, 1, 0, 1, 0, 0]) (rndK (fun t => (t 2, t 3, t 6, t 78, t 79, t 80))) t h = Jr6_4 rc md (t 2) (t 3) (t 6) (t 78) (t 79) (t 80) h := by
  rw [exec_holes [([1, 1, 0, 0, 1, 1, 0, 1, 0], 0), ([1, 1, 0, 0, 1, 1, 1], 1)] (by kernel_rfl), Jr6_4_h1, show (goX Try.prog cfg rc md 125 (sub (bodyOf Try.prog 6) [1, 1, 1, 1, 1, 1, 1, 1, 0, 1, 0, 0]) [([1, 1, 0, 0, 1, 1, 0, 1, 0], 0), ([1, 1, 0, 0, 1, 1, 1], 1)] (rndK (fun t => (t 2, t 3, t 6, t 78, t 79, t 80)))) 0 = _ from J6_4b0_cut rc md]
  exact Jr6_4_h2 rc md t h
noncomputable def J6_4 (rc : Rec) (md : Md) (h0 : Heap) (s2 : Value) (s3 : Value) (s6 : Value) (s78 : Value) (s79 : Value) (s80 : Value) (h : Heap) : Option (Value × Heap) :=
  runL (fun x : (Value × Value × Value × Value × Value × Value) × Heap => Jr6_4 rc md x.1.1 x.1.2.1 x.1.2.2.1 x.1.2.2.2.1 x.1.2.2.2.2.1 x.1.2.2.2.2.2 x.2) (fun e (s : Value × Value × Value × Value × Value × Value) h => Jk6_4 rc md h0 e s.1 s.2.1 s.2.2.1 s.2.2.2.1 s.2.2.2.2.1 s.2.2.2.2.2 h) (s2, s3, s6, s78, s79, s80) h
theorem J6_4_step (rc : Rec) (md : Md) (h0 : Heap) (s2 : Value) (s3 : Value) (s6 : Value) (s78 : Value) (s79 : Value) (s80 : Value) (h : Heap) : J6_4 rc md h0 s2 s3 s6 s78 s79 s80 h = (Jr6_4 rc md s2 s3 s6 s78 s79 s80 h).bind fun x => match x with
    | .inl (s, h) => J6_4 rc md h0 s.1 s.2.1 s.2.2.1 s.2.2.2.1 s.2.2.2.2.1 s.2.2.2.2.2 h
    | .inr (e, s, h) => Jk6_4 rc md h0 e s.1 s.2.1 s.2.2.1 s.2.2.2.1 s.2.2.2.2.1 s.2.2.2.2.2 h := by
  unfold J6_4
  rw [runL_eq]
  refine congrArg (Option.bind _) (funext fun x => ?_)
  rcases x with ⟨s, h⟩ | ⟨e, s, h⟩ <;> rfl
theorem J6_4_cut (rc : Rec) (md : Md) (h0 : Heap) : cut Try.prog cfg rc md 125 (bodyOf Try.prog 6) [1, 1, 1, 1, 1, 1, 1, 1, 0, 1, 0] (retK Try.prog cfg 6 (rsOf Try.prog 6) h0) = fun t h => J6_4 rc md h0 (t 2) (t 3) (t 6) (t 78) (t 79) (t 80) h := by
  funext t h
  have e : sub (bodyOf Try.prog 6) [1, 1, 1, 1, 1, 1, 1, 1, 0, 1, 0] = .loop (sub (bodyOf Try.prog 6) [1, 1, 1, 1, 1, 1, 1, 1, 0, 1, 0, 0]) := by kernel_rfl
  unfold cut
  rw [e]
  exact loop_eq (by kernel_rfl) (fun t => (t 2, t 3, t 6, t 78, t 79, t 80)) (fun x : (Value × Value × Value × Value × Value × Value) × Heap => Jr6_4 rc md x.1.1 x.1.2.1 x.1.2.2.1 x.1.2.2.2.1 x.1.2.2.2.2.1 x.1.2.2.2.2.2 x.2) (fun t h => Jr6_4_at rc md t h) (fun e (s : Value × Value × Value × Value × Value × Value) h => Jk6_4 rc md h0 e s.1 s.2.1 s.2.2.1 s.2.2.2.1 s.2.2.2.2.1 s.2.2.2.2.2 h) (fun e t h => Jk6_4_at rc md h0 e t h) t h
noncomputable def J6_3 (rc : Rec) (md : Md) (h0 : Heap) (s2 : Value) (s3 : Value) (s6 : Value) (h : Heap) : Option (Value × Heap) :=
  bif okNil Try.prog s3 then
  fA 10 s3 fun v1 =>
  fA 0 v1 fun v2 =>
  ld1 v2 h fun v3 =>
  lenS v3 fun v4 =>
  cIn .i64 v4 fun n5 =>
  J6_4 rc md h0 s2 s3 s6 v3 (.int .i64 n5) (.int .i64 0) h
  else none
noncomputable def J6_3H (rc : Rec) (md : Md) (h0 : Heap) (X2 : T → Heap → Option (Value × Heap)) (t : T) (h : Heap) : Option (Value × Heap) :=
  bif okNil Try.prog (t 3) then
  fA 10 (t 3) fun v1 =>
  fA 0 v1 fun v2 =>
  ld1 v2 h fun v3 =>
  lenS v3 fun v4 =>
  cIn .i64 v4 fun n5 =>
  X2 (upd (upd (upd (upd (upd (upd (upd t 74 (t 3)) 75 (t 3)) 76 v1) 77 v2) 78 v3) 79 (.int .i64 n5)) 80 (.int .i64 0)) h
  else none
theorem J6_3_h1 (rc : Rec) (md : Md) (h0 : Heap) (X : Nat → T → Heap → Option (Value × Heap)) (t : T) (h : Heap) : execG Try.prog cfg X rc md 125 (sub (replS (bodyOf Try.prog 6) [([1, 1, 1, 1, 0, 1, 0], 0), ([1, 1, 1, 1, 1, 1, 1, 0, 1, 0], 1), ([1, 1, 1, 1, 1, 1, 1, 1, 0, 1, 0], 2), ([1, 1, 1, 1, 1, 1, 1, 1, 1], 3)]) [1, 1, 1, 1, 1, 1, 1, 1]) (kAtG Try.prog cfg X rc md 125 (replS (bodyOf Try.prog 6) [([1, 1, 1, 1, 0, 1, 0], 0), ([1, 1, 1, 1, 1, 1, 1, 0, 1, 0], 1), ([1, 1, 1, 1, 1, 1, 1, 1, 0, 1, 0], 2), ([1, 1, 1, 1, 1, 1, 1, 1, 1], 3)]) [1, 1, 1, 1, 1, 1, 1, 1] (retK Try.prog cfg 6 (rsOf Try.prog 6) h0)) t h = J6_3H rc md h0 (X 2) t h := by kernel_rfl
theorem J6_3_h2 (rc : Rec) (md : Md) (h0 : Heap) (t : T) (h : Heap) : J6_3H rc md h0 (fun t h => J6_4 rc md h0 (t 2) (t 3) (t 6) (t 78) (t 79) (t 80) h) t h = J6_3 rc md h0 (t 2) (t 3) (t 6) h := by (unfold J6_3H J6_3; kernel_rfl)
theorem J6_3_at (rc : Rec) (md : Md) (h0 : Heap) (t : T) (h : Heap) : cut Try.prog cfg rc md 125 (bodyOf Try.prog 6) [1, 1, 1, 1, 1, 1, 1, 1] (retK Try.prog cfg 6 (rsOf Try.prog 6) h0) t h = J6_3 rc md h0 (t 2) (t 3) (t 6) h := by
  rw [cut_holes [([1, 1, 1, 1, 0, 1, 0], 0), ([1, 1, 1, 1, 1, 1, 1, 0, 1, 0], 1), ([1, 1, 1, 1, 1, 1, 1, 1, 0, 1, 0], 2), ([1, 1, 1, 1, 1, 1, 1, 1, 1], 3)] [1, 1, 1, 1, 1, 1, 1, 1] (by kernel_rfl), J6_3_h1, show (goX Try.prog cfg rc md 125 (bodyOf Try.prog 6) [([1, 1, 1, 1, 0, 1, 0], 0), ([1, 1, 1, 1, 1, 1, 1, 0, 1, 0], 1), ([1, 1, 1, 1, 1, 1, 1, 1, 0, 1, 0], 2), ([1, 1, 1, 1, 1, 1, 1, 1, 1], 3)] (retK Try.prog cfg 6 (rsOf Try.prog 6) h0)) 2 = _ from J6_4_cut rc md h0]
  exact J6_3_h2 rc md h0 t h
theorem J6_3_cut (rc : Rec) (md : Md) (h0 : Heap) : cut Try.prog cfg rc md 125 (bodyOf Try.prog 6) [1, 1, 1, 1, 1, 1, 1, 1] (retK Try.prog cfg 6 (rsOf Try.prog 6) h0) = fun t h => J6_3 rc md h0 (t 2) (t 3) (t 6) h := funext fun t => funext fun h => J6_3_at rc md h0 t h
noncomputable def Jk6_2 (rc : Rec) (md : Md) (h0 : Heap) (e : Exit) (s2 : Value) (s3 : Value) (s6 : Value) (s46 : Value) (s47 : Value) (s48 : Value) (h : Heap) : Option (Value × Heap) :=
  match e with
  | .normal =>
    J6_3 rc md h0 s2 s3 s6 h
  | .exit j =>
    bif Nat.beq j 2 then
      J6_3 rc md h0 s2 s3 s6 h
    else
      none
  | .ret =>
    fin1 h0 s2 h
  | .goto l => none
  | .panic ps => none
  | .outgrown => none
noncomputable def Jk6_2H (rc : Rec) (md : Md) (h0 : Heap) (X4 : T → Heap → Option (Value × Heap)) (e : Exit) (t : T) (h : Heap) : Option (Value × Heap) :=
  match e with
  | .normal =>
    X4 t h
  | .exit j =>
    bif Nat.beq j 2 then
      X4 t h
    else
      none
  | .ret =>
    fin1 h0 (t 2) h
  | .goto l => none
  | .panic ps => none
  | .outgrown => none
theorem Jk6_2_h1 (rc : Rec) (md : Md) (h0 : Heap) (X : Nat → T → Heap → Option (Value × Heap)) (e : Exit) (t : T) (h : Heap) : kAtG Try.prog cfg X rc md 125 (replS (bodyOf Try.prog 6) [([1, 1, 1, 1, 0, 1, 0], 0), ([1, 1, 1, 1, 1, 1, 1, 1, 0, 1, 0], 2), ([1, 1, 1, 1, 1, 1, 1, 1, 1], 3), ([1, 1, 1, 1, 1, 1, 1, 1], 4)]) [1, 1, 1, 1, 1, 1, 1, 0, 1, 0] (retK Try.prog cfg 6 (rsOf Try.prog 6) h0) e t h = Jk6_2H rc md h0 (X 4) e t h := by cases e <;> kernel_rfl
theorem Jk6_2_h2 (rc : Rec) (md : Md) (h0 : Heap) (e : Exit) (t : T) (h : Heap) : Jk6_2H rc md h0 (fun t h => J6_3 rc md h0 (t 2) (t 3) (t 6) h) e t h = Jk6_2 rc md h0 e (t 2) (t 3) (t 6) (t 46) (t 47) (t 48) h := by cases e <;> (unfold Jk6_2H Jk6_2; kernel_rfl)
theorem Jk6_2_at (rc : Rec) (md : Md) (h0 : Heap) (e : Exit) (t : T) (h : Heap) : kAt Try.prog cfg rc md 125 (bodyOf Try.prog 6) [1, 1, 1, 1, 1, 1, 1, 0, 1, 0] (retK Try.prog cfg 6 (rsOf Try.prog 6) h0) e t h = Jk6_2 rc md h0 e (t 2) (t 3) (t 6) (t 46) (t 47) (t 48) h := by
  rw [kAt_holes [([1, 1, 1, 1, 0, 1, 0], 0), ([1, 1, 1, 1, 1, 1, 1, 1, 0, 1, 0], 2), ([1, 1, 1, 1, 1, 1, 1, 1, 1], 3), ([1, 1, 1, 1, 1, 1, 1, 1], 4)] [1, 1, 1, 1, 1, 1, 1, 0, 1, 0] (by kernel_rfl), Jk6_2_h1, show (goX Try.prog cfg rc md 125 (bodyOf Try.prog 6) [([1, 1, 1, 1, 0, 1, 0], 0), ([1, 1, 1, 1, 1, 1, 1, 1, 0, 1, 0], 2), ([1, 1, 1, 1, 1, 1, 1, 1, 1], 3), ([1, 1, 1, 1, 1, 1, 1, 1], 4)] (retK Try.prog cfg 6 (rsOf Try.prog 6) h0)) 4 = _ from J6_3_cut rc md h0]
  exact Jk6_2_h2 rc md h0 e t h
noncomputable def Jk6_2b0 (rc : Rec) (md : Md) (e : Exit) (s2 : Value) (s3 : Value) (s6 : Value) (s7 : Value) (s8 : Value) (s46 : Value) (s47 : Value) (s48 : Value) (s53 : Value) (h : Heap) : Option (((Value × Value × Value × Value × Value × Value) × Heap) ⊕ (Exit × (Value × Value × Value × Value × Value × Value) × Heap)) :=
  match e with
  | .normal =>
    aBin Try.prog .add 3 s48 (.int .i64 1) fun v1 =>
    some (.inl ((s2, s3, s6, s46, s47, v1), h))
  | .exit j =>
    bif Nat.beq j 4 then
      aBin Try.prog .add 3 s48 (.int .i64 1) fun v2 =>
      some (.inl ((s2, s3, s6, s46, s47, v2), h))
    else
      bif Nat.beq j 3 then
        aBin Try.prog .add 3 s48 (.int .i64 1) fun v3 =>
        some (.inl ((s2, s3, s6, s46, s47, v3), h))
      else
        some (.inr ((.exit j), (s2, s3, s6, s46, s47, s48), h))
  | .ret =>
    some (.inr (.ret, (s2, s3, s6, s46, s47, s48), h))
  | .goto l => some (.inr ((.goto l), (s2, s3, s6, s46, s47, s48), h))
  | .panic ps => some (.inr ((.panic ps), (s2, s3, s6, s46, s47, s48), h))
  | .outgrown => some (.inr (.outgrown, (s2, s3, s6, s46, s47, s48), h))
theorem Jk6_2b0_at (rc : Rec) (md : Md) (e : Exit) (t : T) (h : Heap) : kAt Try.prog cfg rc md 125 (sub (bodyOf Try.prog 6) [1, 1, 1, 1, 1, 1, 1, 0, 1, 0, 0]) [1, 1, 0, 0, 1, 1, 0] (rndK (fun t => (t 2, t 3, t 6, t 46, t 47, t 48))) e t h = Jk6_2b0 rc md e (t 2) (t 3) (t 6) (t 7) (t 8) (t 46) (t 47) (t 48) (t 53) h := by cases e <;> kernel_rfl
/-- a round -/
noncomputable def Jr6_2b0 (rc : Rec) (md : Md) (s2 : Value) (s3 : Value) (s6 : Value) (s7 : Value) (s8 : Value) (s46 : Value) (s47 : Value) (s48 : Value) (s53 : Value) (h : Heap) : Option (((Value × Value × Value × Value × Value × Value × Value × Value × Value) × Heap) ⊕ (Exit × (Value × Value × Value × Value × Value × Value × Value × Value × Value) × Heap)) :=
  aBin Try.prog .lss 3 s53 (.int .i64 2) fun v1 =>
  cBn v1 fun b2 =>
  bif b2 then
    aBin Try.prog .gtr 3 s7 (.int .i64 0) fun v3 =>
    (bif wantV v3 true then
    some (s8, h)
    else some (undef, h)).bind fun p4 =>
    (bif wantV v3 true then
    some (s53, p4.2)
    else some (undef, p4.2)).bind fun p5 =>
    (bif wantV v3 true then
    aBin Try.prog .shr 3 p4.1 p5.1 fun v6 =>
    some (v6, p5.2)
    else some (undef, p5.2)).bind fun p7 =>
    (bif wantV v3 true then
    aBin Try.prog .and 3 p7.1 (.int .i64 1) fun v8 =>
    some (v8, p7.2)
    else some (undef, p7.2)).bind fun p9 =>
    (bif wantV v3 true then
    aBin Try.prog .eql 3 p9.1 (.int .i64 1) fun v10 =>
    some (v10, p9.2)
    else some (undef, p9.2)).bind fun p11 =>
    cBn v3 fun q12 =>
    cBn (bif q12 then p11.1 else (.bool false)) fun b13 =>
    bif b13 then
      bif okNil Try.prog s6 then
      fA 4 s6 fun v14 =>
      ldN 6 v14 p11.2 fun v15 =>
      cl (rc md 30 [v15, s7, s53, (.bool true)] p11.2) fun v16 h17 =>
      aBin Try.prog .add 3 s53 (.int .i64 1) fun v18 =>
      some (.inl ((s2, s3, s6, s7, s8, s46, s47, s48, v18), h17))
      else none
    else
      aBin Try.prog .add 3 s53 (.int .i64 1) fun v19 =>
      some (.inl ((s2, s3, s6, s7, s8, s46, s47, s48, v19), p11.2))
  else
    some (.inr ((.exit 4), (s2, s3, s6, s7, s8, s46, s47, s48, s53), h))
theorem Jr6_2b0_at (rc : Rec) (md : Md) (t : T) (h : Heap) : exec Try.prog cfg rc md 125 (sub (bodyOf Try.prog 6) [1, 1, 1, 1, 1, 1, 1, 0, 1, 0, 0, 1, 1, 0, 0, 1, 1, 0, 0]) (rndK (fun t => (t 2, t 3, t 6, t 7, t 8, t 46, t 47, t 48, t 53))) t h = Jr6_2b0 rc md (t 2) (t 3) (t 6) (t 7) (t 8) (t 46) (t 47) (t 48) (t 53) h := by kernel_rfl
noncomputable def J6_2b0 (rc : Rec) (md : Md) (s2 : Value) (s3 : Value) (s6 : Value) (s7 : Value) (s8 : Value) (s46 : Value) (s47 : Value) (s48 : Value) (s53 : Value) (h : Heap) : Option (((Value × Value × Value × Value × Value × Value) × Heap) ⊕ (Exit × (Value × Value × Value × Value × Value × Value) × Heap)) :=
  runL (fun x : (Value × Value × Value × Value × Value × Value × Value × Value × Value) × Heap => Jr6_2b0 rc md x.1.1 x.1.2.1 x.1.2.2.1 x.1.2.2.2.1 x.1.2.2.2.2.1 x.1.2.2.2.2.2.1 x.1.2.2.2.2.2.2.1 x.1.2.2.2.2.2.2.2.1 x.1.2.2.2.2.2.2.2.2 x.2) (fun e (s : Value × Value × Value × Value × Value × Value × Value × Value × Value) h => Jk6_2b0 rc md e s.1 s.2.1 s.2.2.1 s.2.2.2.1 s.2.2.2.2.1 s.2.2.2.2.2.1 s.2.2.2.2.2.2.1 s.2.2.2.2.2.2.2.1 s.2.2.2.2.2.2.2.2 h) (s2, s3, s6, s7, s8, s46, s47, s48, s53) h
theorem J6_2b0_step (rc : Rec) (md : Md) (s2 : Value) (s3 : Value) (s6 : Value) (s7 : Value) (s8 : Value) (s46 : Value) (s47 : Value) (s48 : Value) (s53 : Value) (h : Heap) : J6_2b0 rc md s2 s3 s6 s7 s8 s46 s47 s48 s53 h = (Jr6_2b0 rc md s2 s3 s6 s7 s8 s46 s47 s48 s53 h).bind fun x => match x with
    | .inl (s, h) => J6_2b0 rc md s.1 s.2.1 s.2.2.1 s.2.2.2.1 s.2.2.2.2.1 s.2.2.2.2.2.1 s.2.2.2.2.2.2.1 s.2.2.2.2.2.2.2.1 s.2.2.2.2.2.2.2.2 h
    | .inr (e, s, h) => Jk6_2b0 rc md e s.1 s.2.1 s.2.2.1 s.2.2.2.1 s.2.2.2.2.1 s.2.2.2.2.2.1 s.2.2.2.2.2.2.1 s.2.2.2.2.2.2.2.1 s.2.2.2.2.2.2.2.2 h := by
  unfold J6_2b0
  rw [runL_eq]
  refine congrArg (Option.bind _) (funext fun x => ?_)
  rcases x with ⟨s, h⟩ | ⟨e, s, h⟩ <;> rfl
theorem J6_2b0_cut (rc : Rec) (md : Md) : cut Try.prog cfg rc md 125 (sub (bodyOf Try.prog 6) [1, 1, 1, 1, 1, 1, 1, 0, 1, 0, 0]) [1, 1, 0, 0, 1, 1, 0] (rndK (fun t => (t 2, t 3, t 6, t 46, t 47, t 48))) = fun t h => J6_2b0 rc md (t 2) (t 3) (t 6) (t 7) (t 8) (t 46) (t 47) (t 48) (t 53) h := by
  funext t h
  have e : sub (sub (bodyOf Try.prog 6) [1, 1, 1, 1, 1, 1, 1, 0, 1, 0, 0]) [1, 1, 0, 0, 1, 1, 0] = .loop (sub (bodyOf Try.prog 6) [1, 1, 1, 1, 1, 1, 1, 0, 1, 0, 0, 1, 1, 0, 0, 1, 1, 0, 0]) := by kernel_rfl
  unfold cut
  rw [e]
  exact loop_eq (by kernel_rfl) (fun t => (t 2, t 3, t 6, t 7, t 8, t 46, t 47, t 48, t 53)) (fun x : (Value × Value × Value × Value × Value × Value × Value × Value × Value) × Heap => Jr6_2b0 rc md x.1.1 x.1.2.1 x.1.2.2.1 x.1.2.2.2.1 x.1.2.2.2.2.1 x.1.2.2.2.2.2.1 x.1.2.2.2.2.2.2.1 x.1.2.2.2.2.2.2.2.1 x.1.2.2.2.2.2.2.2.2 x.2) (fun t h => Jr6_2b0_at rc md t h) (fun e (s : Value × Value × Value × Value × Value × Value × Value × Value × Value) h => Jk6_2b0 rc md e s.1 s.2.1 s.2.2.1 s.2.2.2.1 s.2.2.2.2.1 s.2.2.2.2.2.1 s.2.2.2.2.2.2.1 s.2.2.2.2.2.2.2.1 s.2.2.2.2.2.2.2.2 h) (fun e t h => Jk6_2b0_at rc md e t h) t h
/-- a round -/
noncomputable def Jr6_2 (rc : Rec) (md : Md) (s2 : Value) (s3 : Value) (s6 : Value) (s46 : Value) (s47 : Value) (s48 : Value) (h : Heap) : Option (((Value × Value × Value × Value × Value × Value) × Heap) ⊕ (Exit × (Value × Value × Value × Value × Value × Value) × Heap)) :=
  aBin Try.prog .lss 3 s48 s47 fun v1 =>
  cBn v1 fun b2 =>
  bif b2 then
    ixSV 1 s46 s48 fun v3 =>
    ld1 v3 h fun v4 =>
    cIn .i64 v4 fun n5 =>
    J6_2b0 rc md s2 s3 s6 s48 (.int .i64 n5) s46 s47 s48 (.int .i64 0) h
  else
    some (.inr ((.exit 2), (s2, s3, s6, s46, s47, s48), h))
noncomputable def Jr6_2H (rc : Rec) (md : Md) (X0 : T → Heap → Option (((Value × Value × Value × Value × Value × Value) × Heap) ⊕ (Exit × (Value × Value × Value × Value × Value × Value) × Heap))) (t : T) (h : Heap) : Option (((Value × Value × Value × Value × Value × Value) × Heap) ⊕ (Exit × (Value × Value × Value × Value × Value × Value) × Heap)) :=
  aBin Try.prog .lss 3 (t 48) (t 47) fun v1 =>
  cBn v1 fun b2 =>
  bif b2 then
    ixSV 1 (t 46) (t 48) fun v3 =>
    ld1 v3 h fun v4 =>
    cIn .i64 v4 fun n5 =>
    X0 (upd (upd (upd (upd (upd (upd (upd t 49 v1) 50 (t 48)) 51 v3) 52 (.int .i64 n5)) 7 (t 48)) 8 (.int .i64 n5)) 53 (.int .i64 0)) h
  else
    some (.inr ((.exit 2), ((t 2), (t 3), (t 6), (t 46), (t 47), (t 48)), h))
theorem Jr6_2_h1 (rc : Rec) (md : Md) (X : Nat → T → Heap → Option (((Value × Value × Value × Value × Value × Value) × Heap) ⊕ (Exit × (Value × Value × Value × Value × Value × Value) × Heap))) (t : T) (h : Heap) : execG Try.prog cfg X rc md 125 (replS (sub (bodyOf Try.prog 6) [1, 1, 1, 1, 1, 1, 1, 0, 1, 0, 0]) [([1, 1, 0, 0, 1, 1, 0], 0)]) (rndK (fun t => (t 2, t 3, t 6, t 46, t 47, t 48))) t h = Jr6_2H rc md (X 0) t h := by kernel_rfl
theorem Jr6_2_h2 (rc : Rec) (md : Md) (t : T) (h : Heap) : Jr6_2H rc md (fun t h => J6_2b0 rc md (t 2) (t 3) (t 6) (t 7) (t 8) (t 46) (t 47) (t 48) (t 53) h) t h = Jr6_2 rc md (t 2) (t 3) (t 6) (t 46) (t 47) (t 48) h := by unfold Jr6_2H Jr6_2; kernel_rfl
theorem Jr6_2_at (rc : Rec) (md : Md) (t : T) (h : Heap) : exec Try.prog cfg rc md 125 (sub (bodyOf Try.prog 6) [1, 1, 1, 1, 1, 1, 1, 0, 1, 0, 0]) (rndK (fun t => (t 2, t 3, t 6, t 46, t 47, t 48))) t h = Jr6_2 rc md (t 2) (t 3) (t 6) (t 46) (t 47) (t 48) h := by
  rw [exec_holes [([1, 1, 0, 0, 1, 1, 0], 0)] (by kernel_rfl), Jr6_2_h1, show (goX Try.prog cfg rc md 125 (sub (bodyOf Try.prog 6) [1, 1, 1, 1, 1, 1, 1, 0, 1, 0, 0]) [([1, 1, 0, 0, 1, 1, 0], 0)] (rndK (fun t => (t 2, t 3, t 6, t 46, t 47, t 48)))) 0 = _ from J6_2b0_cut rc md]
  exact Jr6_2_h2 rc md t h
noncomputable def J6_2 (rc : Rec) (md : Md) (h0 : Heap) (s2 : Value) (s3 : Value) (s6 : Value) (s46 : Value) (s47 : Value) (s48 : Value) (h : Heap) : Option (Value × Heap) :=
  runL (fun x : (Value × Value × Value × Value × Value × Value) × Heap => Jr6_2 rc md x.1.1 x.1.2.1 x.1.2.2.1 x.1.2.2.2.1 x.1.2.2.2.2.1 x.1.2.2.2.2.2 x.2) (fun e (s : Value × Value × Value × Value × Value × Value) h => Jk6_2 rc md h0 e s.1 s.2.1 s.2.2.1 s.2.2.2.1 s.2.2.2.2.1 s.2.2.2.2.2 h) (s2, s3, s6, s46, s47, s48) h
theorem J6_2_step (rc : Rec) (md : Md) (h0 : Heap) (s2 : Value) (s3 : Value) (s6 : Value) (s46 : Value) (s47 : Value) (s48 : Value) (h : Heap) : J6_2 rc md h0 s2 s3 s6 s46 s47 s48 h = (Jr6_2 rc md s2 s3 s6 s46 s47 s48 h).bind fun x => match x with
    | .inl (s, h) => J6_2 rc md h0 s.1 s.2.1 s.2.2.1 s.2.2.2.1 s.2.2.2.2.1 s.2.2.2.2.2 h
    | .inr (e, s, h) => Jk6_2 rc md h0 e s.1 s.2.1 s.2.2.1 s.2.2.2.1 s.2.2.2.2.1 s.2.2.2.2.2 h := by
  unfold J6_2
  rw [runL_eq]
  refine congrArg (Option.bind _) (funext fun x => ?_)
  rcases x with ⟨s, h⟩ | ⟨e, s, h⟩ <;> rfl
theorem J6_2_cut (rc : Rec) (md : Md) (h0 : Heap) : cut Try.prog cfg rc md 125 (bodyOf Try.prog 6) [1, 1, 1, 1, 1, 1, 1, 0, 1, 0] (retK Try.prog cfg 6 (rsOf Try.prog 6) h0) = fun t h => J6_2 rc md h0 (t 2) (t 3) (t 6) (t 46) (t 47) (t 48) h := by
  funext t h
  have e : sub (bodyOf Try.prog 6) [1, 1, 1, 1, 1, 1, 1, 0, 1, 0] = .loop (sub (bodyOf Try.prog 6) [1, 1, 1, 1, 1, 1, 1, 0, 1, 0, 0]) := by kernel_rfl
  unfold cut
  rw [e]
  exact loop_eq (by kernel_rfl) (fun t => (t 2, t 3, t 6, t 46, t 47, t 48)) (fun x : (Value × Value × Value × Value × Value × Value) × Heap => Jr6_2 rc md x.1.1 x.1.2.1 x.1.2.2.1 x.1.2.2.2.1 x.1.2.2.2.2.1 x.1.2.2.2.2.2 x.2) (fun t h => Jr6_2_at rc md t h) (fun e (s : Value × Value × Value × Value × Value × Value) h => Jk6_2 rc md h0 e s.1 s.2.1 s.2.2.1 s.2.2.2.1 s.2.2.2.2.1 s.2.2.2.2.2 h) (fun e t h => Jk6_2_at rc md h0 e t h) t h
noncomputable def J6_1 (rc : Rec) (md : Md) (h0 : Heap) (s1 : Value) (s2 : Value) (s3 : Value) (h : Heap) : Option (Value × Heap) :=
  fA 0 s1 fun v1 =>
  ldN 3 v1 h fun v2 =>
  fA 3 s1 fun v3 =>
  ld1 v3 h fun v4 =>
  aBuild Try.prog 27 [(0, v2), (1, v4)] fun v5 =>
  cl (rc md 15 [v5] h) fun v6 h7 =>
  aBin Try.prog .eql 30 v6 (.pointer none) fun v8 =>
  cBn v8 fun b9 =>
  bif b9 then
    some ((.bool false), List.take h0.length h7)
  else
    bif okNil Try.prog s3 then
    fA 10 s3 fun v10 =>
    fA 2 v10 fun v11 =>
    ld1 v11 h7 fun v12 =>
    lenS v12 fun v13 =>
    cIn .i64 v13 fun n14 =>
    J6_2 rc md h0 s2 s3 v6 v12 (.int .i64 n14) (.int .i64 0) h7
    else none
noncomputable def J6_1H (rc : Rec) (md : Md) (h0 : Heap) (X1 : T → Heap → Option (Value × Heap)) (t : T) (h : Heap) : Option (Value × Heap) :=
  fA 0 (t 1) fun v1 =>
  ldN 3 v1 h fun v2 =>
  fA 3 (t 1) fun v3 =>
  ld1 v3 h fun v4 =>
  aBuild Try.prog 27 [(0, v2), (1, v4)] fun v5 =>
  cl (rc md 15 [v5] h) fun v6 h7 =>
  aBin Try.prog .eql 30 v6 (.pointer none) fun v8 =>
  cBn v8 fun b9 =>
  bif b9 then
    some ((.bool false), List.take h0.length h7)
  else
    bif okNil Try.prog (t 3) then
    fA 10 (t 3) fun v10 =>
    fA 2 v10 fun v11 =>
    ld1 v11 h7 fun v12 =>
    lenS v12 fun v13 =>
    cIn .i64 v13 fun n14 =>
    X1 (upd (upd (upd (upd (upd (upd (upd (upd (upd (upd (upd (upd (upd (upd (upd (upd t 34 v1) 35 v2) 36 v3) 37 v4) 38 v5) 39 v6) 6 v6) 40 v6) 41 v8) 42 (t 3)) 43 (t 3)) 44 v10) 45 v11) 46 v12) 47 (.int .i64 n14)) 48 (.int .i64 0)) h7
    else none
theorem J6_1_h1 (rc : Rec) (md : Md) (h0 : Heap) (X : Nat → T → Heap → Option (Value × Heap)) (t : T) (h : Heap) : execG Try.prog cfg X rc md 125 (sub (replS (bodyOf Try.prog 6) [([1, 1, 1, 1, 0, 1, 0], 0), ([1, 1, 1, 1, 1, 1, 1, 0, 1, 0], 1), ([1, 1, 1, 1, 1, 1, 1, 1, 0, 1, 0], 2), ([1, 1, 1, 1, 1, 1, 1, 1, 1], 3), ([1, 1, 1, 1, 1, 1, 1, 1], 4)]) [1, 1, 1, 1, 1]) (kAtG Try.prog cfg X rc md 125 (replS (bodyOf Try.prog 6) [([1, 1, 1, 1, 0, 1, 0], 0), ([1, 1, 1, 1, 1, 1, 1, 0, 1, 0], 1), ([1, 1, 1, 1, 1, 1, 1, 1, 0, 1, 0], 2), ([1, 1, 1, 1, 1, 1, 1, 1, 1], 3), ([1, 1, 1, 1, 1, 1, 1, 1], 4)]) [1, 1, 1, 1, 1] (retK Try.prog cfg 6 (rsOf Try.prog 6) h0)) t h = J6_1H rc md h0 (X 1) t h := by kernel_rfl
theorem J6_1_h2 (rc : Rec) (md : Md) (h0 : Heap) (t : T) (h : Heap) : J6_1H rc md h0 (fun t h => J6_2 rc md h0 (t 2) (t 3) (t 6) (t 46) (t 47) (t 48) h) t h = J6_1 rc md h0 (t 1) (t 2) (t 3) h := by (unfold J6_1H J6_1; kernel_rfl)
theorem J6_1_at (rc : Rec) (md : Md) (h0 : Heap) (t : T) (h : Heap) : cut Try.prog cfg rc md 125 (bodyOf Try.prog 6) [1, 1, 1, 1, 1] (retK Try.prog cfg 6 (rsOf Try.prog 6) h0) t h = J6_1 rc md h0 (t 1) (t 2) (t 3) h := by
  rw [cut_holes [([1, 1, 1, 1, 0, 1, 0], 0), ([1, 1, 1, 1, 1, 1, 1, 0, 1, 0], 1), ([1, 1, 1, 1, 1, 1, 1, 1, 0, 1, 0], 2), ([1, 1, 1, 1, 1, 1, 1, 1, 1], 3), ([1, 1, 1, 1, 1, 1, 1, 1], 4)] [1, 1, 1, 1, 1] (by kernel_rfl), J6_1_h1, show (goX Try.prog cfg rc md 125 (bodyOf Try.prog 6) [([1, 1, 1, 1, 0, 1, 0], 0), ([1, 1, 1, 1, 1, 1, 1, 0, 1, 0], 1), ([1, 1, 1, 1, 1, 1, 1, 1, 0, 1, 0], 2), ([1, 1, 1, 1, 1, 1, 1, 1, 1], 3), ([1, 1, 1, 1, 1, 1, 1, 1], 4)] (retK Try.prog cfg 6 (rsOf Try.prog 6) h0)) 1 = _ from J6_2_cut rc md h0]
  exact J6_1_h2 rc md h0 t h
theorem J6_1_cut (rc : Rec) (md : Md) (h0 : Heap) : cut Try.prog cfg rc md 125 (bodyOf Try.prog 6) [1, 1, 1, 1, 1] (retK Try.prog cfg 6 (rsOf Try.prog 6) h0) = fun t h => J6_1 rc md h0 (t 1) (t 2) (t 3) h := funext fun t => funext fun h => J6_1_at rc md h0 t h
noncomputable def Jk6_0 (rc : Rec) (md : Md) (h0 : Heap) (e : Exit) (s1 : Value) (s2 : Value) (s3 : Value) (s23 : Value) (s24 : Value) (s25 : Value) (h : Heap) : Option (Value × Heap) :=
  match e with
  | .normal =>
    J6_1 rc md h0 s1 s2 s3 h
  | .exit j =>
    bif Nat.beq j 0 then
      J6_1 rc md h0 s1 s2 s3 h
    else
      none
  | .ret =>
    fin1 h0 s2 h
  | .goto l => none
  | .panic ps => none
  | .outgrown => none
noncomputable def Jk6_0H (rc : Rec) (md : Md) (h0 : Heap) (X5 : T → Heap → Option (Value × Heap)) (e : Exit) (t : T) (h : Heap) : Option (Value × Heap) :=
  match e with
  | .normal =>
    X5 t h
  | .exit j =>
    bif Nat.beq j 0 then
      X5 t h
    else
      none
  | .ret =>
    fin1 h0 (t 2) h
  | .goto l => none
  | .panic ps => none
  | .outgrown => none
theorem Jk6_0_h1 (rc : Rec) (md : Md) (h0 : Heap) (X : Nat → T → Heap → Option (Value × Heap)) (e : Exit) (t : T) (h : Heap) : kAtG Try.prog cfg X rc md 125 (replS (bodyOf Try.prog 6) [([1, 1, 1, 1, 1, 1, 1, 0, 1, 0], 1), ([1, 1, 1, 1, 1, 1, 1, 1, 0, 1, 0], 2), ([1, 1, 1, 1, 1, 1, 1, 1, 1], 3), ([1, 1, 1, 1, 1, 1, 1, 1], 4), ([1, 1, 1, 1, 1], 5)]) [1, 1, 1, 1, 0, 1, 0] (retK Try.prog cfg 6 (rsOf Try.prog 6) h0) e t h = Jk6_0H rc md h0 (X 5) e t h := by cases e <;> kernel_rfl
theorem Jk6_0_h2 (rc : Rec) (md : Md) (h0 : Heap) (e : Exit) (t : T) (h : Heap) : Jk6_0H rc md h0 (fun t h => J6_1 rc md h0 (t 1) (t 2) (t 3) h) e t h = Jk6_0 rc md h0 e (t 1) (t 2) (t 3) (t 23) (t 24) (t 25) h := by cases e <;> (unfold Jk6_0H Jk6_0; kernel_rfl)
theorem Jk6_0_at (rc : Rec) (md : Md) (h0 : Heap) (e : Exit) (t : T) (h : Heap) : kAt Try.prog cfg rc md 125 (bodyOf Try.prog 6) [1, 1, 1, 1, 0, 1, 0] (retK Try.prog cfg 6 (rsOf Try.prog 6) h0) e t h = Jk6_0 rc md h0 e (t 1) (t 2) (t 3) (t 23) (t 24) (t 25) h := by
  rw [kAt_holes [([1, 1, 1, 1, 1, 1, 1, 0, 1, 0], 1), ([1, 1, 1, 1, 1, 1, 1, 1, 0, 1, 0], 2), ([1, 1, 1, 1, 1, 1, 1, 1, 1], 3), ([1, 1, 1, 1, 1, 1, 1, 1], 4), ([1, 1, 1, 1, 1], 5)] [1, 1, 1, 1, 0, 1, 0] (by kernel_rfl), Jk6_0_h1, show (goX Try.prog cfg rc md 125 (bodyOf Try.prog 6) [([1, 1, 1, 1, 1, 1, 1, 0, 1, 0], 1), ([1, 1, 1, 1, 1, 1, 1, 1, 0, 1, 0], 2), ([1, 1, 1, 1, 1, 1, 1, 1, 1], 3), ([1, 1, 1, 1, 1, 1, 1, 1], 4), ([1, 1, 1, 1, 1], 5)] (retK Try.prog cfg 6 (rsOf Try.prog 6) h0)) 5 = _ from J6_1_cut rc md h0]
  exact Jk6_0_h2 rc md h0 e t h
/-- a round -/
noncomputable def Jr6_0 (rc : Rec) (md : Md) (s1 : Value) (s2 : Value) (s3 : Value) (s23 : Value) (s24 : Value) (s25 : Value) (h : Heap) : Option (((Value × Value × Value × Value × Value × Value) × Heap) ⊕ (Exit × (Value × Value × Value × Value × Value × Value) × Heap)) :=
  aBin Try.prog .lss 3 s25 s24 fun v1 =>
  cBn v1 fun b2 =>
  bif b2 then
    ixSV 5 s23 s25 fun v3 =>
    ldN 5 v3 h fun v4 =>
    let h5 : Heap := h ++ [.own [(.int .i64 0), (.int .i64 0), (.int .i64 0), (.int .i64 0), (.bool false)]]
    st md 5 (.pointer (some ⟨h.length, 0, none⟩)) v4 h5 fun h6 =>
    ldN 5 (.pointer (some ⟨h.length, 0, none⟩)) h6 fun v7 =>
    cl (rc md 17 [s3, v7] h6) fun v8 h9 =>
    cBn v8 fun b10 =>
    bif !b10 then
      some (.inr (.ret, (s1, (.bool false), s3, s23, s24, s25), h9))
    else
      aBin Try.prog .add 3 s25 (.int .i64 1) fun v11 =>
      some (.inl ((s1, s2, s3, s23, s24, v11), h9))
  else
    some (.inr ((.exit 0), (s1, s2, s3, s23, s24, s25), h))
theorem Jr6_0_at (rc : Rec) (md : Md) (t : T) (h : Heap) : exec Try.prog cfg rc md 125 (sub (bodyOf Try.prog 6) [1, 1, 1, 1, 0, 1, 0, 0]) (rndK (fun t => (t 1, t 2, t 3, t 23, t 24, t 25))) t h = Jr6_0 rc md (t 1) (t 2) (t 3) (t 23) (t 24) (t 25) h := by kernel_rfl
noncomputable def J6_0 (rc : Rec) (md : Md) (h0 : Heap) (s1 : Value) (s2 : Value) (s3 : Value) (s23 : Value) (s24 : Value) (s25 : Value) (h : Heap) : Option (Value × Heap) :=
  runL (fun x : (Value × Value × Value × Value × Value × Value) × Heap => Jr6_0 rc md x.1.1 x.1.2.1 x.1.2.2.1 x.1.2.2.2.1 x.1.2.2.2.2.1 x.1.2.2.2.2.2 x.2) (fun e (s : Value × Value × Value × Value × Value × Value) h => Jk6_0 rc md h0 e s.1 s.2.1 s.2.2.1 s.2.2.2.1 s.2.2.2.2.1 s.2.2.2.2.2 h) (s1, s2, s3, s23, s24, s25) h
theorem J6_0_step (rc : Rec) (md : Md) (h0 : Heap) (s1 : Value) (s2 : Value) (s3 : Value) (s23 : Value) (s24 : Value) (s25 : Value) (h : Heap) : J6_0 rc md h0 s1 s2 s3 s23 s24 s25 h = (Jr6_0 rc md s1 s2 s3 s23 s24 s25 h).bind fun x => match x with
    | .inl (s, h) => J6_0 rc md h0 s.1 s.2.1 s.2.2.1 s.2.2.2.1 s.2.2.2.2.1 s.2.2.2.2.2 h
    | .inr (e, s, h) => Jk6_0 rc md h0 e s.1 s.2.1 s.2.2.1 s.2.2.2.1 s.2.2.2.2.1 s.2.2.2.2.2 h := by
  unfold J6_0
  rw [runL_eq]
  refine congrArg (Option.bind _) (funext fun x => ?_)
  rcases x with ⟨s, h⟩ | ⟨e, s, h⟩ <;> rfl
theorem J6_0_cut (rc : Rec) (md : Md) (h0 : Heap) : cut Try.prog cfg rc md 125 (bodyOf Try.prog 6) [1, 1, 1, 1, 0, 1, 0] (retK Try.prog cfg 6 (rsOf Try.prog 6) h0) = fun t h => J6_0 rc md h0 (t 1) (t 2) (t 3) (t 23) (t 24) (t 25) h := by
  funext t h
  have e : sub (bodyOf Try.prog 6) [1, 1, 1, 1, 0, 1, 0] = .loop (sub (bodyOf Try.prog 6) [1, 1, 1, 1, 0, 1, 0, 0]) := by kernel_rfl
  unfold cut
  rw [e]
  exact loop_eq (by kernel_rfl) (fun t => (t 1, t 2, t 3, t 23, t 24, t 25)) (fun x : (Value × Value × Value × Value × Value × Value) × Heap => Jr6_0 rc md x.1.1 x.1.2.1 x.1.2.2.1 x.1.2.2.2.1 x.1.2.2.2.2.1 x.1.2.2.2.2.2 x.2) (fun t h => Jr6_0_at rc md t h) (fun e (s : Value × Value × Value × Value × Value × Value) h => Jk6_0 rc md h0 e s.1 s.2.1 s.2.2.1 s.2.2.2.1 s.2.2.2.2.1 s.2.2.2.2.2 h) (fun e t h => Jk6_0_at rc md h0 e t h) t h
noncomputable def F6 (rc : Rec) (md : Md) (a0_0 : Int) (a0_1 : Int) (a0_2 : Int) (a0_3 : Value) (a0_4 : Value) (h0 : Heap) : Option (Value × Heap) :=
  let h1 : Heap := h0 ++ [.own [(.int .i64 a0_0), (.int .i64 a0_1), (.int .i64 a0_2), a0_3, a0_4]]
  ldN 5 (.pointer (some ⟨h0.length, 0, none⟩)) h1 fun v2 =>
  cl (rc md 13 [v2] h1) fun v3 h4 =>
  cBn v3 fun b5 =>
  bif !b5 then
    cl (rc md 14 [] h4) fun v6 h7 =>
    cBn v6 fun b8 =>
    some ((.bool b8), List.take h0.length h7)
  else
    ldN 5 (.pointer (some ⟨h0.length, 0, none⟩)) h4 fun v9 =>
    cl (rc md 15 [v9] h4) fun v10 h11 =>
    aBin Try.prog .eql 30 v10 (.pointer none) fun v12 =>
    cBn v12 fun b13 =>
    bif b13 then
      some ((.bool false), List.take h0.length h11)
    else
      ld1 (.pointer (some ⟨h0.length, 4, none⟩)) h11 fun v14 =>
      lenS v14 fun v15 =>
      cIn .i64 v15 fun n16 =>
      J6_0 rc md h0 (.pointer (some ⟨h0.length, 0, none⟩)) (.bool false) v10 v14 (.int .i64 n16) (.int .i64 0) h11
noncomputable def F6H (rc : Rec) (md : Md) (X0 : T → Heap → Option (Value × Heap)) (a0_0 : Int) (a0_1 : Int) (a0_2 : Int) (a0_3 : Value) (a0_4 : Value) (h0 : Heap) : Option (Value × Heap) :=
  let h1 : Heap := h0 ++ [.own [(.int .i64 a0_0), (.int .i64 a0_1), (.int .i64 a0_2), a0_3, a0_4]]
  ldN 5 (.pointer (some ⟨h0.length, 0, none⟩)) h1 fun v2 =>
  cl (rc md 13 [v2] h1) fun v3 h4 =>
  cBn v3 fun b5 =>
  bif !b5 then
    cl (rc md 14 [] h4) fun v6 h7 =>
    cBn v6 fun b8 =>
    some ((.bool b8), List.take h0.length h7)
  else
    ldN 5 (.pointer (some ⟨h0.length, 0, none⟩)) h4 fun v9 =>
    cl (rc md 15 [v9] h4) fun v10 h11 =>
    aBin Try.prog .eql 30 v10 (.pointer none) fun v12 =>
    cBn v12 fun b13 =>
    bif b13 then
      some ((.bool false), List.take h0.length h11)
    else
      ld1 (.pointer (some ⟨h0.length, 4, none⟩)) h11 fun v14 =>
      lenS v14 fun v15 =>
      cIn .i64 v15 fun n16 =>
      X0 (upd (upd (upd (upd (upd (upd (upd (upd (upd (upd (upd (upd (upd (upd (args0 [(.agg #[(.int .i64 a0_0), (.int .i64 a0_1), (.int .i64 a0_2), a0_3, a0_4])]) 1 (.pointer (some ⟨h0.length, 0, none⟩))) 2 (.bool false)) 14 v2) 15 (.bool b5)) 16 (.bool (!b5))) 18 v9) 19 v10) 3 v10) 20 v10) 21 v12) 22 (.pointer (some ⟨h0.length, 4, none⟩))) 23 v14) 24 (.int .i64 n16)) 25 (.int .i64 0)) h11
theorem F6_h0 (rc : Rec) (md : Md) (a0_0 : Int) (a0_1 : Int) (a0_2 : Int) (a0_3 : Value) (a0_4 : Value) (h0 : Heap) : callStep0 Try.prog cfg rc md 6 [(.agg #[(.int .i64 a0_0), (.int .i64 a0_1), (.int .i64 a0_2), a0_3, a0_4])] h0 = exec Try.prog cfg rc ⟨md.ro, h0.length⟩ 125 (bodyOf Try.prog 6) (retK Try.prog cfg 6 (rsOf Try.prog 6) h0) (args0 [(.agg #[(.int .i64 a0_0), (.int .i64 a0_1), (.int .i64 a0_2), a0_3, a0_4])]) h0 := callStep0_run (by kernel_rfl) (by kernel_rfl) (by kernel_rfl)
theorem F6_h1 (rc : Rec) (md : Md) (X : Nat → T → Heap → Option (Value × Heap)) (a0_0 : Int) (a0_1 : Int) (a0_2 : Int) (a0_3 : Value) (a0_4 : Value) (h0 : Heap) : execG Try.prog cfg X rc md 125 (replS (bodyOf Try.prog 6) [([1, 1, 1, 1, 0, 1, 0], 0), ([1, 1, 1, 1, 1, 1, 1, 0, 1, 0], 1), ([1, 1, 1, 1, 1, 1, 1, 1, 0, 1, 0], 2), ([1, 1, 1, 1, 1, 1, 1, 1, 1], 3), ([1, 1, 1, 1, 1, 1, 1, 1], 4), ([1, 1, 1, 1, 1], 5)]) (retK Try.prog cfg 6 (rsOf Try.prog 6) h0) (args0 [(.agg #[(.int .i64 a0_0), (.int .i64 a0_1), (.int .i64 a0_2), a0_3, a0_4])]) h0 = F6H rc md (X 0) a0_0 a0_1 a0_2 a0_3 a0_4 h0 := by kernel_rfl
theorem F6_h2 (rc : Rec) (md : Md) (a0_0 : Int) (a0_1 : Int) (a0_2 : Int) (a0_3 : Value) (a0_4 : Value) (h0 : Heap) : F6H rc md (fun t h => J6_0 rc md h0 (t 1) (t 2) (t 3) (t 23) (t 24) (t 25) h) a0_0 a0_1 a0_2 a0_3 a0_4 h0 = F6 rc md a0_0 a0_1 a0_2 a0_3 a0_4 h0 := by unfold F6H F6; kernel_rfl
theorem F6_eq0 (rc : Rec) (md : Md) (a0_0 : Int) (a0_1 : Int) (a0_2 : Int) (a0_3 : Value) (a0_4 : Value) (h0 : Heap) : callStep0 Try.prog cfg rc md 6 [(.agg #[(.int .i64 a0_0), (.int .i64 a0_1), (.int .i64 a0_2), a0_3, a0_4])] h0 = F6 rc ⟨md.ro, h0.length⟩ a0_0 a0_1 a0_2 a0_3 a0_4 h0 := by
  rw [F6_h0, exec_holes [([1, 1, 1, 1, 0, 1, 0], 0), ([1, 1, 1, 1, 1, 1, 1, 0, 1, 0], 1), ([1, 1, 1, 1, 1, 1, 1, 1, 0, 1, 0], 2), ([1, 1, 1, 1, 1, 1, 1, 1, 1], 3), ([1, 1, 1, 1, 1, 1, 1, 1], 4), ([1, 1, 1, 1, 1], 5)] (by kernel_rfl), F6_h1, show (goX Try.prog cfg rc ⟨md.ro, h0.length⟩ 125 (bodyOf Try.prog 6) [([1, 1, 1, 1, 0, 1, 0], 0), ([1, 1, 1, 1, 1, 1, 1, 0, 1, 0], 1), ([1, 1, 1, 1, 1, 1, 1, 1, 0, 1, 0], 2), ([1, 1, 1, 1, 1, 1, 1, 1, 1], 3), ([1, 1, 1, 1, 1, 1, 1, 1], 4), ([1, 1, 1, 1, 1], 5)] (retK Try.prog cfg 6 (rsOf Try.prog 6) h0)) 0 = _ from J6_0_cut rc ⟨md.ro, h0.length⟩ h0]
  exact F6_h2 rc _ a0_0 a0_1 a0_2 a0_3 a0_4 h0
theorem F6_eq (rc : Rec) (md : Md) (a0_0 : Int) (a0_1 : Int) (a0_2 : Int) (a0_3 : Value) (a0_4 : Value) (h0 : Heap) : callStep Try.prog cfg rc md 6 [(.agg #[(.int .i64 a0_0), (.int .i64 a0_1), (.int .i64 a0_2), a0_3, a0_4])] h0 = F6 rc ⟨md.ro, h0.length⟩ a0_0 a0_1 a0_2 a0_3 a0_4 h0 := (callStep_ne (by kernel_rfl)).trans (F6_eq0 rc md a0_0 a0_1 a0_2 a0_3 a0_4 h0)

end Go.Det.E
