/- Printed functions. -/
import Derived.Test.YtodeenahpoobkaaE5
import Derived.Test.YtodeenahpoobkaaDetT
import Derived.Test.YtodeenahpoobkaaDetX
import Derived.Test.YtodeenahpoobkaaProg
set_option autoImplicit false
set_option linter.unusedVariables false
set_option linter.unusedSimpArgs false
namespace Go.Det.E
open Go.Proofs Go.Det

/-- tombolo/tombololaw09.TreapTells -/
noncomputable def J4_3 (rc : Rec) (md : Md) (h0 : Heap) (s3 : Value) (h : Heap) : Option (Value × Heap) :=
  bif okNil Try.prog s3 then
  fA 4 s3 fun v1 =>
  ldN 6 v1 h fun v2 =>
  cl (rc md 23 [v2, (.int .i64 0)] h) fun v3 h4 =>
  cIn .i64 v3 fun n5 =>
  (bif wantV (.bool (n5 == 0)) true then
  some (s3, h4)
  else some (undef, h4)).bind fun p6 =>
  (bif wantV (.bool (n5 == 0)) true then
  bif okNil Try.prog p6.1 then
  some (p6.1, p6.2)
  else none
  else some (undef, p6.2)).bind fun p7 =>
  (bif wantV (.bool (n5 == 0)) true then
  fA 4 p7.1 fun v8 =>
  some (v8, p7.2)
  else some (undef, p7.2)).bind fun p9 =>
  (bif wantV (.bool (n5 == 0)) true then
  ldN 6 p9.1 p9.2 fun v10 =>
  some (v10, p9.2)
  else some (undef, p9.2)).bind fun p11 =>
  (bif wantV (.bool (n5 == 0)) true then
  cl (rc md 24 [p11.1, (.int .i64 0)] p11.2) fun v12 h13 =>
  cIn .i64 v12 fun n14 =>
  some ((.int .i64 n14), h13)
  else some (undef, p11.2)).bind fun p15 =>
  (bif wantV (.bool (n5 == 0)) true then
  aBin Try.prog .eql 3 p15.1 (.int .i64 0) fun v16 =>
  some (v16, p15.2)
  else some (undef, p15.2)).bind fun p17 =>
  cBn (bif (n5 == 0) then p17.1 else (.bool false)) fun b18 =>
  (bif wantV (.bool b18) true then
  some (s3, p17.2)
  else some (undef, p17.2)).bind fun p19 =>
  (bif wantV (.bool b18) true then
  bif okNil Try.prog p19.1 then
  some (p19.1, p19.2)
  else none
  else some (undef, p19.2)).bind fun p20 =>
  (bif wantV (.bool b18) true then
  fA 4 p20.1 fun v21 =>
  some (v21, p20.2)
  else some (undef, p20.2)).bind fun p22 =>
  (bif wantV (.bool b18) true then
  ldN 6 p22.1 p22.2 fun v23 =>
  some (v23, p22.2)
  else some (undef, p22.2)).bind fun p24 =>
  (bif wantV (.bool b18) true then
  cl (rc md 26 [p24.1, (.int .i64 0), (.int .i64 0)] p24.2) fun v25 h26 =>
  cIn .i64 v25 fun n27 =>
  some ((.int .i64 n27), h26)
  else some (undef, p24.2)).bind fun p28 =>
  (bif wantV (.bool b18) true then
  aBin Try.prog .eql 3 p28.1 (.int .i64 0) fun v29 =>
  some (v29, p28.2)
  else some (undef, p28.2)).bind fun p30 =>
  cBn (bif b18 then p30.1 else (.bool false)) fun b31 =>
  (bif wantV (.bool b31) true then
  some (s3, p30.2)
  else some (undef, p30.2)).bind fun p32 =>
  (bif wantV (.bool b31) true then
  bif okNil Try.prog p32.1 then
  some (p32.1, p32.2)
  else none
  else some (undef, p32.2)).bind fun p33 =>
  (bif wantV (.bool b31) true then
  fA 4 p33.1 fun v34 =>
  some (v34, p33.2)
  else some (undef, p33.2)).bind fun p35 =>
  (bif wantV (.bool b31) true then
  ldN 6 p35.1 p35.2 fun v36 =>
  some (v36, p35.2)
  else some (undef, p35.2)).bind fun p37 =>
  (bif wantV (.bool b31) true then
  cl (rc md 20 [p37.1, (.int .i64 0)] p37.2) fun v38 h39 =>
  some (v38, h39)
  else some (undef, p37.2)).bind fun p40 =>
  (bif wantV (.bool b31) true then
  lenS p40.1 fun v41 =>
  cIn .i64 v41 fun n42 =>
  some ((.int .i64 n42), p40.2)
  else some (undef, p40.2)).bind fun p43 =>
  (bif wantV (.bool b31) true then
  aBin Try.prog .eql 3 p43.1 (.int .i64 0) fun v44 =>
  some (v44, p43.2)
  else some (undef, p43.2)).bind fun p45 =>
  cBn (bif b31 then p45.1 else (.bool false)) fun b46 =>
  (bif wantV (.bool b46) true then
  some (s3, p45.2)
  else some (undef, p45.2)).bind fun p47 =>
  (bif wantV (.bool b46) true then
  bif okNil Try.prog p47.1 then
  some (p47.1, p47.2)
  else none
  else some (undef, p47.2)).bind fun p48 =>
  (bif wantV (.bool b46) true then
  fA 4 p48.1 fun v49 =>
  some (v49, p48.2)
  else some (undef, p48.2)).bind fun p50 =>
  (bif wantV (.bool b46) true then
  ldN 6 p50.1 p50.2 fun v51 =>
  some (v51, p50.2)
  else some (undef, p50.2)).bind fun p52 =>
  (bif wantV (.bool b46) true then
  cl (rc md 21 [p52.1, (.int .i64 0)] p52.2) fun v53 h54 =>
  cIn .i64 v53 fun n55 =>
  some ((.int .i64 n55), h54)
  else some (undef, p52.2)).bind fun p56 =>
  (bif wantV (.bool b46) true then
  aBin Try.prog .eql 3 p56.1 (.int .i64 0) fun v57 =>
  some (v57, p56.2)
  else some (undef, p56.2)).bind fun p58 =>
  cBn (bif b46 then p58.1 else (.bool false)) fun b59 =>
  (bif wantV (.bool b59) true then
  cl (rc md 14 [] p58.2) fun v60 h61 =>
  cBn v60 fun b62 =>
  some ((.bool b62), h61)
  else some (undef, p58.2)).bind fun p63 =>
  cBn (bif b59 then p63.1 else (.bool false)) fun b64 =>
  some ((.bool b64), List.take h0.length p63.2)
  else none
theorem J4_3_at (rc : Rec) (md : Md) (h0 : Heap) (t : T) (h : Heap) : cut Try.prog cfg rc md 229 (bodyOf Try.prog 4) [1, 1, 1, 1, 1, 1, 1] (retK Try.prog cfg 4 (rsOf Try.prog 4) h0) t h = J4_3 rc md h0 (t 3) h := by kernel_rfl
theorem J4_3_cut (rc : Rec) (md : Md) (h0 : Heap) : cut Try.prog cfg rc md 229 (bodyOf Try.prog 4) [1, 1, 1, 1, 1, 1, 1] (retK Try.prog cfg 4 (rsOf Try.prog 4) h0) = fun t h => J4_3 rc md h0 (t 3) h := funext fun t => funext fun h => J4_3_at rc md h0 t h
noncomputable def Jk4_2 (rc : Rec) (md : Md) (h0 : Heap) (e : Exit) (s2 : Value) (s3 : Value) (s6 : Value) (s45 : Value) (s46 : Value) (s47 : Value) (h : Heap) : Option (Value × Heap) :=
  match e with
  | .normal =>
    J4_3 rc md h0 s3 h
  | .exit j =>
    bif Nat.beq j 2 then
      J4_3 rc md h0 s3 h
    else
      none
  | .ret =>
    fin1 h0 s2 h
  | .goto l => none
  | .panic ps => none
  | .outgrown => none
noncomputable def Jk4_2H (rc : Rec) (md : Md) (h0 : Heap) (X2 : T → Heap → Option (Value × Heap)) (e : Exit) (t : T) (h : Heap) : Option (Value × Heap) :=
  match e with
  | .normal =>
    X2 t h
  | .exit j =>
    bif Nat.beq j 2 then
      X2 t h
    else
      none
  | .ret =>
    fin1 h0 (t 2) h
  | .goto l => none
  | .panic ps => none
  | .outgrown => none
theorem Jk4_2_h1 (rc : Rec) (md : Md) (h0 : Heap) (X : Nat → T → Heap → Option (Value × Heap)) (e : Exit) (t : T) (h : Heap) : kAtG Try.prog cfg X rc md 229 (replS (bodyOf Try.prog 4) [([1, 1, 1, 1, 0, 1, 0], 0), ([1, 1, 1, 1, 1, 1, 1], 2)]) [1, 1, 1, 1, 1, 1, 0, 1, 0] (retK Try.prog cfg 4 (rsOf Try.prog 4) h0) e t h = Jk4_2H rc md h0 (X 2) e t h := by cases e <;> kernel_rfl
theorem Jk4_2_h2 (rc : Rec) (md : Md) (h0 : Heap) (e : Exit) (t : T) (h : Heap) : Jk4_2H rc md h0 (fun t h => J4_3 rc md h0 (t 3) h) e t h = Jk4_2 rc md h0 e (t 2) (t 3) (t 6) (t 45) (t 46) (t 47) h := by cases e <;> (unfold Jk4_2H Jk4_2; kernel_rfl)
theorem Jk4_2_at (rc : Rec) (md : Md) (h0 : Heap) (e : Exit) (t : T) (h : Heap) : kAt Try.prog cfg rc md 229 (bodyOf Try.prog 4) [1, 1, 1, 1, 1, 1, 0, 1, 0] (retK Try.prog cfg 4 (rsOf Try.prog 4) h0) e t h = Jk4_2 rc md h0 e (t 2) (t 3) (t 6) (t 45) (t 46) (t 47) h := by
  rw [kAt_holes [([1, 1, 1, 1, 0, 1, 0], 0), ([1, 1, 1, 1, 1, 1, 1], 2)] [1, 1, 1, 1, 1, 1, 0, 1, 0] (by kernel_rfl), Jk4_2_h1, show (goX Try.prog cfg rc md 229 (bodyOf Try.prog 4) [([1, 1, 1, 1, 0, 1, 0], 0), ([1, 1, 1, 1, 1, 1, 1], 2)] (retK Try.prog cfg 4 (rsOf Try.prog 4) h0)) 2 = _ from J4_3_cut rc md h0]
  exact Jk4_2_h2 rc md h0 e t h
noncomputable def J4_2b1 (rc : Rec) (md : Md) (s2 : Value) (s3 : Value) (s6 : Value) (s9 : Value) (s11 : Value) (s45 : Value) (s46 : Value) (s47 : Value) (h : Heap) : Option (((Value × Value × Value × Value × Value × Value) × Heap) ⊕ (Exit × (Value × Value × Value × Value × Value × Value) × Heap)) :=
  bif okNil Try.prog s3 then
  fA 4 s3 fun v1 =>
  ldN 6 v1 h fun v2 =>
  cl (rc md 26 [v2, s9, (.int .i64 0)] h) fun v3 h4 =>
  cIn .i64 v3 fun n5 =>
  ixA 2 1 s11 0 fun v6 =>
  ld1 v6 h4 fun v7 =>
  cIn .i64 v7 fun n8 =>
  cLE true (fun hq => ld1 v6 hq some) (.int .i64 n8) h h4 <|
  (bif wantV (.bool (n5 != n8)) false then
  some (s3, h4)
  else some (undef, h4)).bind fun p9 =>
  (bif wantV (.bool (n5 != n8)) false then
  bif okNil Try.prog p9.1 then
  some (p9.1, p9.2)
  else none
  else some (undef, p9.2)).bind fun p10 =>
  (bif wantV (.bool (n5 != n8)) false then
  fA 4 p10.1 fun v11 =>
  some (v11, p10.2)
  else some (undef, p10.2)).bind fun p12 =>
  (bif wantV (.bool (n5 != n8)) false then
  ldN 6 p12.1 p12.2 fun v13 =>
  some (v13, p12.2)
  else some (undef, p12.2)).bind fun p14 =>
  (bif wantV (.bool (n5 != n8)) false then
  some (s9, p14.2)
  else some (undef, p14.2)).bind fun p15 =>
  (bif wantV (.bool (n5 != n8)) false then
  cl (rc md 26 [p14.1, p15.1, (.int .i64 1)] p15.2) fun v16 h17 =>
  cIn .i64 v16 fun n18 =>
  some ((.int .i64 n18), h17)
  else some (undef, p15.2)).bind fun p19 =>
  (bif wantV (.bool (n5 != n8)) false then
  ixA 2 1 s11 1 fun v20 =>
  some (v20, p19.2)
  else some (undef, p19.2)).bind fun p21 =>
  (bif wantV (.bool (n5 != n8)) false then
  ld1 p21.1 p21.2 fun v22 =>
  cIn .i64 v22 fun n23 =>
  some ((.int .i64 n23), p21.2)
  else some (undef, p21.2)).bind fun p24 =>
  cLE (wantV (.bool (n5 != n8)) false) (fun hq => ld1 p21.1 hq some) p24.1 p15.2 p19.2 <|
  (bif wantV (.bool (n5 != n8)) false then
  aBin Try.prog .neq 3 p19.1 p24.1 fun v25 =>
  some (v25, p24.2)
  else some (undef, p24.2)).bind fun p26 =>
  cBn (bif (n5 != n8) then (.bool true) else p26.1) fun b27 =>
  bif b27 then
    some (.inr (.ret, ((.bool false), s3, s6, s45, s46, s47), p26.2))
  else
    aBin Try.prog .add 3 s47 (.int .i64 1) fun v28 =>
    some (.inl ((s2, s3, s6, s45, s46, v28), p26.2))
  else none
theorem J4_2b1_at (rc : Rec) (md : Md) (t : T) (h : Heap) : cut Try.prog cfg rc md 229 (sub (bodyOf Try.prog 4) [1, 1, 1, 1, 1, 1, 0, 1, 0, 0]) [1, 1, 0, 0, 1, 1, 1, 1, 1, 1] (rndK (fun t => (t 2, t 3, t 6, t 45, t 46, t 47))) t h = J4_2b1 rc md (t 2) (t 3) (t 6) (t 9) (t 11) (t 45) (t 46) (t 47) h := by kernel_rfl
theorem J4_2b1_cut (rc : Rec) (md : Md) : cut Try.prog cfg rc md 229 (sub (bodyOf Try.prog 4) [1, 1, 1, 1, 1, 1, 0, 1, 0, 0]) [1, 1, 0, 0, 1, 1, 1, 1, 1, 1] (rndK (fun t => (t 2, t 3, t 6, t 45, t 46, t 47))) = fun t h => J4_2b1 rc md (t 2) (t 3) (t 6) (t 9) (t 11) (t 45) (t 46) (t 47) h := funext fun t => funext fun h => J4_2b1_at rc md t h
noncomputable def Jk4_2b0 (rc : Rec) (md : Md) (e : Exit) (s2 : Value) (s3 : Value) (s6 : Value) (s9 : Value) (s10 : Value) (s11 : Value) (s45 : Value) (s46 : Value) (s47 : Value) (s69 : Value) (s70 : Value) (s71 : Value) (h : Heap) : Option (((Value × Value × Value × Value × Value × Value) × Heap) ⊕ (Exit × (Value × Value × Value × Value × Value × Value) × Heap)) :=
  match e with
  | .normal =>
    J4_2b1 rc md s2 s3 s6 s9 s11 s45 s46 s47 h
  | .exit j =>
    bif Nat.beq j 4 then
      J4_2b1 rc md s2 s3 s6 s9 s11 s45 s46 s47 h
    else
      bif Nat.beq j 3 then
        aBin Try.prog .add 3 s47 (.int .i64 1) fun v1 =>
        some (.inl ((s2, s3, s6, s45, s46, v1), h))
      else
        some (.inr ((.exit j), (s2, s3, s6, s45, s46, s47), h))
  | .ret =>
    some (.inr (.ret, (s2, s3, s6, s45, s46, s47), h))
  | .goto l => some (.inr ((.goto l), (s2, s3, s6, s45, s46, s47), h))
  | .panic ps => some (.inr ((.panic ps), (s2, s3, s6, s45, s46, s47), h))
  | .outgrown => some (.inr (.outgrown, (s2, s3, s6, s45, s46, s47), h))
noncomputable def Jk4_2b0H (rc : Rec) (md : Md) (X1 : T → Heap → Option (((Value × Value × Value × Value × Value × Value) × Heap) ⊕ (Exit × (Value × Value × Value × Value × Value × Value) × Heap))) (e : Exit) (t : T) (h : Heap) : Option (((Value × Value × Value × Value × Value × Value) × Heap) ⊕ (Exit × (Value × Value × Value × Value × Value × Value) × Heap)) :=
  match e with
  | .normal =>
    X1 t h
  | .exit j =>
    bif Nat.beq j 4 then
      X1 t h
    else
      bif Nat.beq j 3 then
        aBin Try.prog .add 3 (t 47) (.int .i64 1) fun v1 =>
        some (.inl (((t 2), (t 3), (t 6), (t 45), (t 46), v1), h))
      else
        some (.inr ((.exit j), ((t 2), (t 3), (t 6), (t 45), (t 46), (t 47)), h))
  | .ret =>
    some (.inr (.ret, ((t 2), (t 3), (t 6), (t 45), (t 46), (t 47)), h))
  | .goto l => some (.inr ((.goto l), ((t 2), (t 3), (t 6), (t 45), (t 46), (t 47)), h))
  | .panic ps => some (.inr ((.panic ps), ((t 2), (t 3), (t 6), (t 45), (t 46), (t 47)), h))
  | .outgrown => some (.inr (.outgrown, ((t 2), (t 3), (t 6), (t 45), (t 46), (t 47)), h))
theorem Jk4_2b0_h1 (rc : Rec) (md : Md) (X : Nat → T → Heap → Option (((Value × Value × Value × Value × Value × Value) × Heap) ⊕ (Exit × (Value × Value × Value × Value × Value × Value) × Heap))) (e : Exit) (t : T) (h : Heap) : kAtG Try.prog cfg X rc md 229 (replS (sub (bodyOf Try.prog 4) [1, 1, 1, 1, 1, 1, 0, 1, 0, 0]) [([1, 1, 0, 0, 1, 1, 1, 1, 1, 1], 1)]) [1, 1, 0, 0, 1, 1, 1, 1, 1, 0, 1, 0] (rndK (fun t => (t 2, t 3, t 6, t 45, t 46, t 47))) e t h = Jk4_2b0H rc md (X 1) e t h := by cases e <;> kernel_rfl
theorem Jk4_2b0_h2 (rc : Rec) (md : Md) (e : Exit) (t : T) (h : Heap) : Jk4_2b0H rc md (fun t h => J4_2b1 rc md (t 2) (t 3) (t 6) (t 9) (t 11) (t 45) (t 46) (t 47) h) e t h = Jk4_2b0 rc md e (t 2) (t 3) (t 6) (t 9) (t 10) (t 11) (t 45) (t 46) (t 47) (t 69) (t 70) (t 71) h := by cases e <;> (unfold Jk4_2b0H Jk4_2b0; kernel_rfl)
theorem Jk4_2b0_at (rc : Rec) (md : Md) (e : Exit) (t : T) (h : Heap) : kAt Try.prog cfg rc md 229 (sub (bodyOf Try.prog 4) [1, 1, 1, 1, 1, 1, 0, 1, 0, 0]) [1, 1, 0, 0, 1, 1, 1, 1, 1, 0, 1, 0] (rndK (fun t => (t 2, t 3, t 6, t 45, t 46, t 47))) e t h = Jk4_2b0 rc md e (t 2) (t 3) (t 6) (t 9) (t 10) (t 11) (t 45) (t 46) (t 47) (t 69) (t 70) (t 71) h := by
  rw [kAt_holes [([1, 1, 0, 0, 1, 1, 1, 1, 1, 1], 1)] [1, 1, 0, 0, 1, 1, 1, 1, 1, 0, 1, 0] (by kernel_rfl), Jk4_2b0_h1, show (goX Try.prog cfg rc md 229 (sub (bodyOf Try.prog 4) [1, 1, 1, 1, 1, 1, 0, 1, 0, 0]) [([1, 1, 0, 0, 1, 1, 1, 1, 1, 1], 1)] (rndK (fun t => (t 2, t 3, t 6, t 45, t 46, t 47)))) 1 = _ from J4_2b1_cut rc md]
  exact Jk4_2b0_h2 rc md e t h
noncomputable def Jk4_2b0b0 (rc : Rec) (md : Md) (e : Exit) (s2 : Value) (s3 : Value) (s6 : Value) (s9 : Value) (s10 : Value) (s11 : Value) (s13 : Value) (s45 : Value) (s46 : Value) (s47 : Value) (s69 : Value) (s70 : Value) (s71 : Value) (s130 : Value) (h : Heap) : Option (((Value × Value × Value × Value × Value × Value × Value × Value × Value × Value × Value × Value) × Heap) ⊕ (Exit × (Value × Value × Value × Value × Value × Value × Value × Value × Value × Value × Value × Value) × Heap)) :=
  match e with
  | .normal =>
    aBin Try.prog .add 3 s71 (.int .i64 1) fun v1 =>
    some (.inl ((s2, s3, s6, s9, s10, s11, s45, s46, s47, s69, s70, v1), h))
  | .exit j =>
    bif Nat.beq j 6 then
      aBin Try.prog .add 3 s71 (.int .i64 1) fun v2 =>
      some (.inl ((s2, s3, s6, s9, s10, s11, s45, s46, s47, s69, s70, v2), h))
    else
      bif Nat.beq j 5 then
        aBin Try.prog .add 3 s71 (.int .i64 1) fun v3 =>
        some (.inl ((s2, s3, s6, s9, s10, s11, s45, s46, s47, s69, s70, v3), h))
      else
        some (.inr ((.exit j), (s2, s3, s6, s9, s10, s11, s45, s46, s47, s69, s70, s71), h))
  | .ret =>
    some (.inr (.ret, (s2, s3, s6, s9, s10, s11, s45, s46, s47, s69, s70, s71), h))
  | .goto l => some (.inr ((.goto l), (s2, s3, s6, s9, s10, s11, s45, s46, s47, s69, s70, s71), h))
  | .panic ps => some (.inr ((.panic ps), (s2, s3, s6, s9, s10, s11, s45, s46, s47, s69, s70, s71), h))
  | .outgrown => some (.inr (.outgrown, (s2, s3, s6, s9, s10, s11, s45, s46, s47, s69, s70, s71), h))
theorem Jk4_2b0b0_at (rc : Rec) (md : Md) (e : Exit) (t : T) (h : Heap) : kAt Try.prog cfg rc md 229 (sub (bodyOf Try.prog 4) [1, 1, 1, 1, 1, 1, 0, 1, 0, 0, 1, 1, 0, 0, 1, 1, 1, 1, 1, 0, 1, 0, 0]) [1, 1, 0, 0, 1, 1, 1, 0] (rndK (fun t => (t 2, t 3, t 6, t 9, t 10, t 11, t 45, t 46, t 47, t 69, t 70, t 71))) e t h = Jk4_2b0b0 rc md e (t 2) (t 3) (t 6) (t 9) (t 10) (t 11) (t 13) (t 45) (t 46) (t 47) (t 69) (t 70) (t 71) (t 130) h := by cases e <;> kernel_rfl
/-- a round -/
noncomputable def Jr4_2b0b0 (rc : Rec) (md : Md) (s2 : Value) (s3 : Value) (s6 : Value) (s9 : Value) (s10 : Value) (s11 : Value) (s13 : Value) (s45 : Value) (s46 : Value) (s47 : Value) (s69 : Value) (s70 : Value) (s71 : Value) (s130 : Value) (h : Heap) : Option (((Value × Value × Value × Value × Value × Value × Value × Value × Value × Value × Value × Value × Value × Value) × Heap) ⊕ (Exit × (Value × Value × Value × Value × Value × Value × Value × Value × Value × Value × Value × Value × Value × Value) × Heap)) :=
  aBin Try.prog .lss 3 s130 (.int .i64 2) fun v1 =>
  cBn v1 fun b2 =>
  bif b2 then
    bif okNil Try.prog s3 then
    fA 10 s3 fun v3 =>
    fA 2 v3 fun v4 =>
    ld1 v4 h fun v5 =>
    ixSV 1 v5 s13 fun v6 =>
    ld1 v6 h fun v7 =>
    cIn .i64 v7 fun n8 =>
    aBin Try.prog .shr 3 (.int .i64 n8) s130 fun v9 =>
    aBin Try.prog .and 3 v9 (.int .i64 1) fun v10 =>
    aBin Try.prog .eql 3 v10 (.int .i64 1) fun v11 =>
    bif okNil Try.prog s3 then
    fA 4 s3 fun v12 =>
    ldN 6 v12 h fun v13 =>
    cl (rc md 25 [v13, s13, s130] h) fun v14 h15 =>
    cBn v14 fun b16 =>
    aBin Try.prog .neq 4 (.bool b16) v11 fun v17 =>
    cBn v17 fun b18 =>
    bif b18 then
      some (.inr (.ret, ((.bool false), s3, s6, s9, s10, s11, s13, s45, s46, s47, s69, s70, s71, s130), h15))
    else
      (bif wantV v11 true then
      some (s130, h15)
      else some (undef, h15)).bind fun p19 =>
      (bif wantV v11 true then
      ixAV 2 1 s11 p19.1 fun v20 =>
      some (v20, p19.2)
      else some (undef, p19.2)).bind fun p21 =>
      (bif wantV v11 true then
      ld1 p21.1 p21.2 fun v22 =>
      cIn .i64 v22 fun n23 =>
      some ((.int .i64 n23), p21.2)
      else some (undef, p21.2)).bind fun p24 =>
      (bif wantV v11 true then
      aBin Try.prog .eql 3 p24.1 (.int .i64 0) fun v25 =>
      some (v25, p24.2)
      else some (undef, p24.2)).bind fun p26 =>
      cBn v11 fun q27 =>
      cBn (bif q27 then p26.1 else (.bool false)) fun b28 =>
      bif b28 then
        ixAV 2 1 s11 s130 fun v29 =>
        st md 1 v29 s13 p26.2 fun h30 =>
        aBin Try.prog .add 3 s130 (.int .i64 1) fun v31 =>
        some (.inl ((s2, s3, s6, s9, s10, s11, s13, s45, s46, s47, s69, s70, s71, v31), h30))
      else
        aBin Try.prog .add 3 s130 (.int .i64 1) fun v32 =>
        some (.inl ((s2, s3, s6, s9, s10, s11, s13, s45, s46, s47, s69, s70, s71, v32), p26.2))
    else none
    else none
  else
    some (.inr ((.exit 6), (s2, s3, s6, s9, s10, s11, s13, s45, s46, s47, s69, s70, s71, s130), h))
theorem Jr4_2b0b0_at (rc : Rec) (md : Md) (t : T) (h : Heap) : exec Try.prog cfg rc md 229 (sub (bodyOf Try.prog 4) [1, 1, 1, 1, 1, 1, 0, 1, 0, 0, 1, 1, 0, 0, 1, 1, 1, 1, 1, 0, 1, 0, 0, 1, 1, 0, 0, 1, 1, 1, 0, 0]) (rndK (fun t => (t 2, t 3, t 6, t 9, t 10, t 11, t 13, t 45, t 46, t 47, t 69, t 70, t 71, t 130))) t h = Jr4_2b0b0 rc md (t 2) (t 3) (t 6) (t 9) (t 10) (t 11) (t 13) (t 45) (t 46) (t 47) (t 69) (t 70) (t 71) (t 130) h := by kernel_rfl
noncomputable def J4_2b0b0 (rc : Rec) (md : Md) (s2 : Value) (s3 : Value) (s6 : Value) (s9 : Value) (s10 : Value) (s11 : Value) (s13 : Value) (s45 : Value) (s46 : Value) (s47 : Value) (s69 : Value) (s70 : Value) (s71 : Value) (s130 : Value) (h : Heap) : Option (((Value × Value × Value × Value × Value × Value × Value × Value × Value × Value × Value × Value) × Heap) ⊕ (Exit × (Value × Value × Value × Value × Value × Value × Value × Value × Value × Value × Value × Value) × Heap)) :=
  runL (fun x : (Value × Value × Value × Value × Value × Value × Value × Value × Value × Value × Value × Value × Value × Value) × Heap => Jr4_2b0b0 rc md x.1.1 x.1.2.1 x.1.2.2.1 x.1.2.2.2.1 x.1.2.2.2.2.1 x.1.2.2.2.2.2.1 x.1.2.2.2.2.2.2.1 x.1.2.2.2.2.2.2.2.1 x.1.2.2.2.2.2.2.2.2.1 x.1.2.2.2.2.2.2.2.2.2.1 x.1.2.2.2.2.2.2.2.2.2.2.1 x.1.2.2.2.2.2.2.2.2.2.2.2.1 x.1.2.2.2.2.2.2.2.2.2.2.2.2.1 x.1.2.2.2.2.2.2.2.2.2.2.2.2.2 x.2) (fun e (s : Value × Value × Value × Value × Value × Value × Value × Value × Value × Value × Value × Value × Value × Value) h => Jk4_2b0b0 rc md e s.1 s.2.1 s.2.2.1 s.2.2.2.1 s.2.2.2.2.1 s.2.2.2.2.2.1 s.2.2.2.2.2.2.1 s.2.2.2.2.2.2.2.1 s.2.2.2.2.2.2.2.2.1 s.2.2.2.2.2.2.2.2.2.1 s.2.2.2.2.2.2.2.2.2.2.1 s.2.2.2.2.2.2.2.2.2.2.2.1 s.2.2.2.2.2.2.2.2.2.2.2.2.1 s.2.2.2.2.2.2.2.2.2.2.2.2.2 h) (s2, s3, s6, s9, s10, s11, s13, s45, s46, s47, s69, s70, s71, s130) h
theorem J4_2b0b0_step (rc : Rec) (md : Md) (s2 : Value) (s3 : Value) (s6 : Value) (s9 : Value) (s10 : Value) (s11 : Value) (s13 : Value) (s45 : Value) (s46 : Value) (s47 : Value) (s69 : Value) (s70 : Value) (s71 : Value) (s130 : Value) (h : Heap) : J4_2b0b0 rc md s2 s3 s6 s9 s10 s11 s13 s45 s46 s47 s69 s70 s71 s130 h = (Jr4_2b0b0 rc md s2 s3 s6 s9 s10 s11 s13 s45 s46 s47 s69 s70 s71 s130 h).bind fun x => match x with
    | .inl (s, h) => J4_2b0b0 rc md s.1 s.2.1 s.2.2.1 s.2.2.2.1 s.2.2.2.2.1 s.2.2.2.2.2.1 s.2.2.2.2.2.2.1 s.2.2.2.2.2.2.2.1 s.2.2.2.2.2.2.2.2.1 s.2.2.2.2.2.2.2.2.2.1 s.2.2.2.2.2.2.2.2.2.2.1 s.2.2.2.2.2.2.2.2.2.2.2.1 s.2.2.2.2.2.2.2.2.2.2.2.2.1 s.2.2.2.2.2.2.2.2.2.2.2.2.2 h
    | .inr (e, s, h) => Jk4_2b0b0 rc md e s.1 s.2.1 s.2.2.1 s.2.2.2.1 s.2.2.2.2.1 s.2.2.2.2.2.1 s.2.2.2.2.2.2.1 s.2.2.2.2.2.2.2.1 s.2.2.2.2.2.2.2.2.1 s.2.2.2.2.2.2.2.2.2.1 s.2.2.2.2.2.2.2.2.2.2.1 s.2.2.2.2.2.2.2.2.2.2.2.1 s.2.2.2.2.2.2.2.2.2.2.2.2.1 s.2.2.2.2.2.2.2.2.2.2.2.2.2 h := by
  unfold J4_2b0b0
  rw [runL_eq]
  refine congrArg (Option.bind _) (funext fun x => ?_)
  rcases x with ⟨s, h⟩ | ⟨e, s, h⟩ <;> rfl
theorem J4_2b0b0_cut (rc : Rec) (md : Md) : cut Try.prog cfg rc md 229 (sub (bodyOf Try.prog 4) [1, 1, 1, 1, 1, 1, 0, 1, 0, 0, 1, 1, 0, 0, 1, 1, 1, 1, 1, 0, 1, 0, 0]) [1, 1, 0, 0, 1, 1, 1, 0] (rndK (fun t => (t 2, t 3, t 6, t 9, t 10, t 11, t 45, t 46, t 47, t 69, t 70, t 71))) = fun t h => J4_2b0b0 rc md (t 2) (t 3) (t 6) (t 9) (t 10) (t 11) (t 13) (t 45) (t 46) (t 47) (t 69) (t 70) (t 71) (t 130) h := by
  funext t h
  have e : sub (sub (bodyOf Try.prog 4) [1, 1, 1, 1, 1, 1, 0, 1, 0, 0, 1, 1, 0, 0, 1, 1, 1, 1, 1, 0, 1, 0, 0]) [1, 1, 0, 0, 1, 1, 1, 0] = .loop (sub (bodyOf Try.prog 4) [1, 1, 1, 1, 1, 1, 0, 1, 0, 0, 1, 1, 0, 0, 1, 1, 1, 1, 1, 0, 1, 0, 0, 1, 1, 0, 0, 1, 1, 1, 0, 0]) := by kernel_rfl
  unfold cut
  rw [e]
  exact loop_eq (by kernel_rfl) (fun t => (t 2, t 3, t 6, t 9, t 10, t 11, t 13, t 45, t 46, t 47, t 69, t 70, t 71, t 130)) (fun x : (Value × Value × Value × Value × Value × Value × Value × Value × Value × Value × Value × Value × Value × Value) × Heap => Jr4_2b0b0 rc md x.1.1 x.1.2.1 x.1.2.2.1 x.1.2.2.2.1 x.1.2.2.2.2.1 x.1.2.2.2.2.2.1 x.1.2.2.2.2.2.2.1 x.1.2.2.2.2.2.2.2.1 x.1.2.2.2.2.2.2.2.2.1 x.1.2.2.2.2.2.2.2.2.2.1 x.1.2.2.2.2.2.2.2.2.2.2.1 x.1.2.2.2.2.2.2.2.2.2.2.2.1 x.1.2.2.2.2.2.2.2.2.2.2.2.2.1 x.1.2.2.2.2.2.2.2.2.2.2.2.2.2 x.2) (fun t h => Jr4_2b0b0_at rc md t h) (fun e (s : Value × Value × Value × Value × Value × Value × Value × Value × Value × Value × Value × Value × Value × Value) h => Jk4_2b0b0 rc md e s.1 s.2.1 s.2.2.1 s.2.2.2.1 s.2.2.2.2.1 s.2.2.2.2.2.1 s.2.2.2.2.2.2.1 s.2.2.2.2.2.2.2.1 s.2.2.2.2.2.2.2.2.1 s.2.2.2.2.2.2.2.2.2.1 s.2.2.2.2.2.2.2.2.2.2.1 s.2.2.2.2.2.2.2.2.2.2.2.1 s.2.2.2.2.2.2.2.2.2.2.2.2.1 s.2.2.2.2.2.2.2.2.2.2.2.2.2 h) (fun e t h => Jk4_2b0b0_at rc md e t h) t h
/-- a round -/
noncomputable def Jr4_2b0 (rc : Rec) (md : Md) (s2 : Value) (s3 : Value) (s6 : Value) (s9 : Value) (s10 : Value) (s11 : Value) (s45 : Value) (s46 : Value) (s47 : Value) (s69 : Value) (s70 : Value) (s71 : Value) (h : Heap) : Option (((Value × Value × Value × Value × Value × Value × Value × Value × Value × Value × Value × Value) × Heap) ⊕ (Exit × (Value × Value × Value × Value × Value × Value × Value × Value × Value × Value × Value × Value) × Heap)) :=
  aBin Try.prog .lss 3 s71 s70 fun v1 =>
  cBn v1 fun b2 =>
  bif b2 then
    ixSV 1 s69 s71 fun v3 =>
    ld1 v3 h fun v4 =>
    cIn .i64 v4 fun n5 =>
    ixSV 1 s10 s71 fun v6 =>
    ld1 v6 h fun v7 =>
    cIn .i64 v7 fun n8 =>
    (bif wantV (.bool (n8 != n5)) false then
    some (s3, h)
    else some (undef, h)).bind fun p9 =>
    (bif wantV (.bool (n8 != n5)) false then
    bif okNil Try.prog p9.1 then
    some (p9.1, p9.2)
    else none
    else some (undef, p9.2)).bind fun p10 =>
    (bif wantV (.bool (n8 != n5)) false then
    fA 4 p10.1 fun v11 =>
    some (v11, p10.2)
    else some (undef, p10.2)).bind fun p12 =>
    (bif wantV (.bool (n8 != n5)) false then
    ldN 6 p12.1 p12.2 fun v13 =>
    some (v13, p12.2)
    else some (undef, p12.2)).bind fun p14 =>
    (bif wantV (.bool (n8 != n5)) false then
    some ((.int .i64 n5), p14.2)
    else some (undef, p14.2)).bind fun p15 =>
    (bif wantV (.bool (n8 != n5)) false then
    cl (rc md 21 [p14.1, p15.1] p15.2) fun v16 h17 =>
    cIn .i64 v16 fun n18 =>
    some ((.int .i64 n18), h17)
    else some (undef, p15.2)).bind fun p19 =>
    (bif wantV (.bool (n8 != n5)) false then
    some (s9, p19.2)
    else some (undef, p19.2)).bind fun p20 =>
    (bif wantV (.bool (n8 != n5)) false then
    aBin Try.prog .neq 3 p19.1 p20.1 fun v21 =>
    some (v21, p20.2)
    else some (undef, p20.2)).bind fun p22 =>
    cBn (bif (n8 != n5) then (.bool true) else p22.1) fun b23 =>
    (bif wantV (.bool b23) false then
    some (s3, p22.2)
    else some (undef, p22.2)).bind fun p24 =>
    (bif wantV (.bool b23) false then
    bif okNil Try.prog p24.1 then
    some (p24.1, p24.2)
    else none
    else some (undef, p24.2)).bind fun p25 =>
    (bif wantV (.bool b23) false then
    fA 4 p25.1 fun v26 =>
    some (v26, p25.2)
    else some (undef, p25.2)).bind fun p27 =>
    (bif wantV (.bool b23) false then
    ldN 6 p27.1 p27.2 fun v28 =>
    some (v28, p27.2)
    else some (undef, p27.2)).bind fun p29 =>
    (bif wantV (.bool b23) false then
    some ((.int .i64 n5), p29.2)
    else some (undef, p29.2)).bind fun p30 =>
    (bif wantV (.bool b23) false then
    cl (rc md 22 [p29.1, p30.1] p30.2) fun v31 h32 =>
    cIn .i64 v31 fun n33 =>
    some ((.int .i64 n33), h32)
    else some (undef, p30.2)).bind fun p34 =>
    (bif wantV (.bool b23) false then
    some (s71, p34.2)
    else some (undef, p34.2)).bind fun p35 =>
    (bif wantV (.bool b23) false then
    aBin Try.prog .neq 3 p34.1 p35.1 fun v36 =>
    some (v36, p35.2)
    else some (undef, p35.2)).bind fun p37 =>
    cBn (bif b23 then (.bool true) else p37.1) fun b38 =>
    (bif wantV (.bool b38) false then
    some (s3, p37.2)
    else some (undef, p37.2)).bind fun p39 =>
    (bif wantV (.bool b38) false then
    bif okNil Try.prog p39.1 then
    some (p39.1, p39.2)
    else none
    else some (undef, p39.2)).bind fun p40 =>
    (bif wantV (.bool b38) false then
    fA 4 p40.1 fun v41 =>
    some (v41, p40.2)
    else some (undef, p40.2)).bind fun p42 =>
    (bif wantV (.bool b38) false then
    ldN 6 p42.1 p42.2 fun v43 =>
    some (v43, p42.2)
    else some (undef, p42.2)).bind fun p44 =>
    (bif wantV (.bool b38) false then
    some ((.int .i64 n5), p44.2)
    else some (undef, p44.2)).bind fun p45 =>
    (bif wantV (.bool b38) false then
    cl (rc md 23 [p44.1, p45.1] p45.2) fun v46 h47 =>
    cIn .i64 v46 fun n48 =>
    some ((.int .i64 n48), h47)
    else some (undef, p45.2)).bind fun p49 =>
    (bif wantV (.bool b38) false then
    some (s6, p49.2)
    else some (undef, p49.2)).bind fun p50 =>
    (bif wantV (.bool b38) false then
    some ((.int .i64 n5), p50.2)
    else some (undef, p50.2)).bind fun p51 =>
    (bif wantV (.bool b38) false then
    ixSV 7 p50.1 p51.1 fun v52 =>
    some (v52, p51.2)
    else some (undef, p51.2)).bind fun p53 =>
    (bif wantV (.bool b38) false then
    fA 3 p53.1 fun v54 =>
    some (v54, p53.2)
    else some (undef, p53.2)).bind fun p55 =>
    (bif wantV (.bool b38) false then
    ld1 p55.1 p55.2 fun v56 =>
    cIn .i64 v56 fun n57 =>
    some ((.int .i64 n57), p55.2)
    else some (undef, p55.2)).bind fun p58 =>
    cLE (wantV (.bool b38) false) (fun hq => ld1 p55.1 hq some) p58.1 p45.2 p49.2 <|
    (bif wantV (.bool b38) false then
    aBin Try.prog .neq 3 p49.1 p58.1 fun v59 =>
    some (v59, p58.2)
    else some (undef, p58.2)).bind fun p60 =>
    cBn (bif b38 then (.bool true) else p60.1) fun b61 =>
    (bif wantV (.bool b61) false then
    some (s3, p60.2)
    else some (undef, p60.2)).bind fun p62 =>
    (bif wantV (.bool b61) false then
    bif okNil Try.prog p62.1 then
    some (p62.1, p62.2)
    else none
    else some (undef, p62.2)).bind fun p63 =>
    (bif wantV (.bool b61) false then
    fA 4 p63.1 fun v64 =>
    some (v64, p63.2)
    else some (undef, p63.2)).bind fun p65 =>
    (bif wantV (.bool b61) false then
    ldN 6 p65.1 p65.2 fun v66 =>
    some (v66, p65.2)
    else some (undef, p65.2)).bind fun p67 =>
    (bif wantV (.bool b61) false then
    some ((.int .i64 n5), p67.2)
    else some (undef, p67.2)).bind fun p68 =>
    (bif wantV (.bool b61) false then
    cl (rc md 24 [p67.1, p68.1] p68.2) fun v69 h70 =>
    cIn .i64 v69 fun n71 =>
    some ((.int .i64 n71), h70)
    else some (undef, p68.2)).bind fun p72 =>
    (bif wantV (.bool b61) false then
    some (s6, p72.2)
    else some (undef, p72.2)).bind fun p73 =>
    (bif wantV (.bool b61) false then
    some ((.int .i64 n5), p73.2)
    else some (undef, p73.2)).bind fun p74 =>
    (bif wantV (.bool b61) false then
    ixSV 7 p73.1 p74.1 fun v75 =>
    some (v75, p74.2)
    else some (undef, p74.2)).bind fun p76 =>
    (bif wantV (.bool b61) false then
    fA 4 p76.1 fun v77 =>
    some (v77, p76.2)
    else some (undef, p76.2)).bind fun p78 =>
    (bif wantV (.bool b61) false then
    ld1 p78.1 p78.2 fun v79 =>
    cIn .i64 v79 fun n80 =>
    some ((.int .i64 n80), p78.2)
    else some (undef, p78.2)).bind fun p81 =>
    cLE (wantV (.bool b61) false) (fun hq => ld1 p78.1 hq some) p81.1 p68.2 p72.2 <|
    (bif wantV (.bool b61) false then
    aBin Try.prog .neq 3 p72.1 p81.1 fun v82 =>
    some (v82, p81.2)
    else some (undef, p81.2)).bind fun p83 =>
    cBn (bif b61 then (.bool true) else p83.1) fun b84 =>
    bif b84 then
      some (.inr (.ret, ((.bool false), s3, s6, s9, s10, s11, s45, s46, s47, s69, s70, s71), p83.2))
    else
      J4_2b0b0 rc md s2 s3 s6 s9 s10 s11 (.int .i64 n5) s45 s46 s47 s69 s70 s71 (.int .i64 0) p83.2
  else
    some (.inr ((.exit 4), (s2, s3, s6, s9, s10, s11, s45, s46, s47, s69, s70, s71), h))
noncomputable def Jr4_2b0H (rc : Rec) (md : Md) (X0 : T → Heap → Option (((Value × Value × Value × Value × Value × Value × Value × Value × Value × Value × Value × Value) × Heap) ⊕ (Exit × (Value × Value × Value × Value × Value × Value × Value × Value × Value × Value × Value × Value) × Heap))) (t : T) (h : Heap) : Option (((Value × Value × Value × Value × Value × Value × Value × Value × Value × Value × Value × Value) × Heap) ⊕ (Exit × (Value × Value × Value × Value × Value × Value × Value × Value × Value × Value × Value × Value) × Heap)) :=
  aBin Try.prog .lss 3 (t 71) (t 70) fun v1 =>
  cBn v1 fun b2 =>
  bif b2 then
    ixSV 1 (t 69) (t 71) fun v3 =>
    ld1 v3 h fun v4 =>
    cIn .i64 v4 fun n5 =>
    ixSV 1 (t 10) (t 71) fun v6 =>
    ld1 v6 h fun v7 =>
    cIn .i64 v7 fun n8 =>
    (bif wantV (.bool (n8 != n5)) false then
    some ((t 3), h)
    else some (undef, h)).bind fun p9 =>
    (bif wantV (.bool (n8 != n5)) false then
    bif okNil Try.prog p9.1 then
    some (p9.1, p9.2)
    else none
    else some (undef, p9.2)).bind fun p10 =>
    (bif wantV (.bool (n8 != n5)) false then
    fA 4 p10.1 fun v11 =>
    some (v11, p10.2)
    else some (undef, p10.2)).bind fun p12 =>
    (bif wantV (.bool (n8 != n5)) false then
    ldN 6 p12.1 p12.2 fun v13 =>
    some (v13, p12.2)
    else some (undef, p12.2)).bind fun p14 =>
    (bif wantV (.bool (n8 != n5)) false then
    some ((.int .i64 n5), p14.2)
    else some (undef, p14.2)).bind fun p15 =>
    (bif wantV (.bool (n8 != n5)) false then
    cl (rc md 21 [p14.1, p15.1] p15.2) fun v16 h17 =>
    cIn .i64 v16 fun n18 =>
    some ((.int .i64 n18), h17)
    else some (undef, p15.2)).bind fun p19 =>
    (bif wantV (.bool (n8 != n5)) false then
    some ((t 9), p19.2)
    else some (undef, p19.2)).bind fun p20 =>
    (bif wantV (.bool (n8 != n5)) false then
    aBin Try.prog .neq 3 p19.1 p20.1 fun v21 =>
    some (v21, p20.2)
    else some (undef, p20.2)).bind fun p22 =>
    cBn (bif (n8 != n5) then (.bool true) else p22.1) fun b23 =>
    (bif wantV (.bool b23) false then
    some ((t 3), p22.2)
    else some (undef, p22.2)).bind fun p24 =>
    (bif wantV (.bool b23) false then
    bif okNil Try.prog p24.1 then
    some (p24.1, p24.2)
    else none
    else some (undef, p24.2)).bind fun p25 =>
    (bif wantV (.bool b23) false then
    fA 4 p25.1 fun v26 =>
    some (v26, p25.2)
    else some (undef, p25.2)).bind fun p27 =>
    (bif wantV (.bool b23) false then
    ldN 6 p27.1 p27.2 fun v28 =>
    some (v28, p27.2)
    else some (undef, p27.2)).bind fun p29 =>
    (bif wantV (.bool b23) false then
    some ((.int .i64 n5), p29.2)
    else some (undef, p29.2)).bind fun p30 =>
    (bif wantV (.bool b23) false then
    cl (rc md 22 [p29.1, p30.1] p30.2) fun v31 h32 =>
    cIn .i64 v31 fun n33 =>
    some ((.int .i64 n33), h32)
    else some (undef, p30.2)).bind fun p34 =>
    (bif wantV (.bool b23) false then
    some ((t 71), p34.2)
    else some (undef, p34.2)).bind fun p35 =>
    (bif wantV (.bool b23) false then
    aBin Try.prog .neq 3 p34.1 p35.1 fun v36 =>
    some (v36, p35.2)
    else some (undef, p35.2)).bind fun p37 =>
    cBn (bif b23 then (.bool true) else p37.1) fun b38 =>
    (bif wantV (.bool b38) false then
    some ((t 3), p37.2)
    else some (undef, p37.2)).bind fun p39 =>
    (bif wantV (.bool b38) false then
    bif okNil Try.prog p39.1 then
    some (p39.1, p39.2)
    else none
    else some (undef, p39.2)).bind fun p40 =>
    (bif wantV (.bool b38) false then
    fA 4 p40.1 fun v41 =>
    some (v41, p40.2)
    else some (undef, p40.2)).bind fun p42 =>
    (bif wantV (.bool b38) false then
    ldN 6 p42.1 p42.2 fun v43 =>
    some (v43, p42.2)
    else some (undef, p42.2)).bind fun p44 =>
    (bif wantV (.bool b38) false then
    some ((.int .i64 n5), p44.2)
    else some (undef, p44.2)).bind fun p45 =>
    (bif wantV (.bool b38) false then
    cl (rc md 23 [p44.1, p45.1] p45.2) fun v46 h47 =>
    cIn .i64 v46 fun n48 =>
    some ((.int .i64 n48), h47)
    else some (undef, p45.2)).bind fun p49 =>
    (bif wantV (.bool b38) false then
    some ((t 6), p49.2)
    else some (undef, p49.2)).bind fun p50 =>
    (bif wantV (.bool b38) false then
    some ((.int .i64 n5), p50.2)
    else some (undef, p50.2)).bind fun p51 =>
    (bif wantV (.bool b38) false then
    ixSV 7 p50.1 p51.1 fun v52 =>
    some (v52, p51.2)
    else some (undef, p51.2)).bind fun p53 =>
    (bif wantV (.bool b38) false then
    fA 3 p53.1 fun v54 =>
    some (v54, p53.2)
    else some (undef, p53.2)).bind fun p55 =>
    (bif wantV (.bool b38) false then
    ld1 p55.1 p55.2 fun v56 =>
    cIn .i64 v56 fun n57 =>
    some ((.int .i64 n57), p55.2)
    else some (undef, p55.2)).bind fun p58 =>
    cLE (wantV (.bool b38) false) (fun hq => ld1 p55.1 hq some) p58.1 p45.2 p49.2 <|
    (bif wantV (.bool b38) false then
    aBin Try.prog .neq 3 p49.1 p58.1 fun v59 =>
    some (v59, p58.2)
    else some (undef, p58.2)).bind fun p60 =>
    cBn (bif b38 then (.bool true) else p60.1) fun b61 =>
    (bif wantV (.bool b61) false then
    some ((t 3), p60.2)
    else some (undef, p60.2)).bind fun p62 =>
    (bif wantV (.bool b61) false then
    bif okNil Try.prog p62.1 then
    some (p62.1, p62.2)
    else none
    else some (undef, p62.2)).bind fun p63 =>
    (bif wantV (.bool b61) false then
    fA 4 p63.1 fun v64 =>
    some (v64, p63.2)
    else some (undef, p63.2)).bind fun p65 =>
    (bif wantV (.bool b61) false then
    ldN 6 p65.1 p65.2 fun v66 =>
    some (v66, p65.2)
    else some (undef, p65.2)).bind fun p67 =>
    (bif wantV (.bool b61) false then
    some ((.int .i64 n5), p67.2)
    else some (undef, p67.2)).bind fun p68 =>
    (bif wantV (.bool b61) false then
    cl (rc md 24 [p67.1, p68.1] p68.2) fun v69 h70 =>
    cIn .i64 v69 fun n71 =>
    some ((.int .i64 n71), h70)
    else some (undef, p68.2)).bind fun p72 =>
    (bif wantV (.bool b61) false then
    some ((t 6), p72.2)
    else some (undef, p72.2)).bind fun p73 =>
    (bif wantV (.bool b61) false then
    some ((.int .i64 n5), p73.2)
    else some (undef, p73.2)).bind fun p74 =>
    (bif wantV (.bool b61) false then
    ixSV 7 p73.1 p74.1 fun v75 =>
    some (v75, p74.2)
    else some (undef, p74.2)).bind fun p76 =>
    (bif wantV (.bool b61) false then
    fA 4 p76.1 fun v77 =>
    some (v77, p76.2)
    else some (undef, p76.2)).bind fun p78 =>
    (bif wantV (.bool b61) false then
    ld1 p78.1 p78.2 fun v79 =>
    cIn .i64 v79 fun n80 =>
    some ((.int .i64 n80), p78.2)
    else some (undef, p78.2)).bind fun p81 =>
    cLE (wantV (.bool b61) false) (fun hq => ld1 p78.1 hq some) p81.1 p68.2 p72.2 <|
    (bif wantV (.bool b61) false then
    aBin Try.prog .neq 3 p72.1 p81.1 fun v82 =>
    some (v82, p81.2)
    else some (undef, p81.2)).bind fun p83 =>
    cBn (bif b61 then (.bool true) else p83.1) fun b84 =>
    bif b84 then
      some (.inr (.ret, ((.bool false), (t 3), (t 6), (t 9), (t 10), (t 11), (t 45), (t 46), (t 47), (t 69), (t 70), (t 71)), p83.2))
    else
      X0 (upd (upd (upd (upd (upd (upd (upd (upd (upd (upd (upd (upd (upd (upd (upd (upd (upd (upd (upd (upd (upd (upd (upd (upd (upd (upd (upd (upd (upd (upd (upd (upd (upd (upd (upd (upd (upd (upd (upd (upd (upd (upd (upd (upd (upd (upd (upd (upd (upd (upd (upd (upd (upd (upd (upd (upd (upd (upd (upd (upd (upd t 72 v1) 73 (t 71)) 74 v3) 75 (.int .i64 n5)) 12 (t 71)) 13 (.int .i64 n5)) 76 (t 10)) 77 (t 71)) 78 v6) 79 (.int .i64 n8)) 80 (.int .i64 n5)) 81 (.bool (n8 != n5))) 82 (.bool (n8 != n5))) 83 p9.1) 84 p10.1) 85 p12.1) 86 p14.1) 87 p15.1) 88 p19.1) 89 p20.1) 90 p22.1) 91 (.bool b23)) 92 (.bool b23)) 93 p24.1) 94 p25.1) 95 p27.1) 96 p29.1) 97 p30.1) 98 p34.1) 99 p35.1) 100 p37.1) 101 (.bool b38)) 102 (.bool b38)) 103 p39.1) 104 p40.1) 105 p42.1) 106 p44.1) 107 p45.1) 108 p49.1) 109 p50.1) 110 p51.1) 111 p53.1) 112 p55.1) 113 p58.1) 114 p60.1) 115 (.bool b61)) 116 (.bool b61)) 117 p62.1) 118 p63.1) 119 p65.1) 120 p67.1) 121 p68.1) 122 p72.1) 123 p73.1) 124 p74.1) 125 p76.1) 126 p78.1) 127 p81.1) 128 p83.1) 129 (.bool b84)) 130 (.int .i64 0)) p83.2
  else
    some (.inr ((.exit 4), ((t 2), (t 3), (t 6), (t 9), (t 10), (t 11), (t 45), (t 46), (t 47), (t 69), (t 70), (t 71)), h))
theorem Jr4_2b0_h1 (rc : Rec) (md : Md) (X : Nat → T → Heap → Option (((Value × Value × Value × Value × Value × Value × Value × Value × Value × Value × Value × Value) × Heap) ⊕ (Exit × (Value × Value × Value × Value × Value × Value × Value × Value × Value × Value × Value × Value) × Heap))) (t : T) (h : Heap) : execG Try.prog cfg X rc md 229 (replS (sub (bodyOf Try.prog 4) [1, 1, 1, 1, 1, 1, 0, 1, 0, 0, 1, 1, 0, 0, 1, 1, 1, 1, 1, 0, 1, 0, 0]) [([1, 1, 0, 0, 1, 1, 1, 0], 0)]) (rndK (fun t => (t 2, t 3, t 6, t 9, t 10, t 11, t 45, t 46, t 47, t 69, t 70, t 71))) t h = Jr4_2b0H rc md (X 0) t h := by kernel_rfl
theorem Jr4_2b0_h2 (rc : Rec) (md : Md) (t : T) (h : Heap) : Jr4_2b0H rc md (fun t h => J4_2b0b0 rc md (t 2) (t 3) (t 6) (t 9) (t 10) (t 11) (t 13) (t 45) (t 46) (t 47) (t 69) (t 70) (t 71) (t 130) h) t h = Jr4_2b0 rc md (t 2) (t 3) (t 6) (t 9) (t 10) (t 11) (t 45) (t 46) (t 47) (t 69) (t 70) (t 71) h := by unfold Jr4_2b0H Jr4_2b0; kernel_rfl
theorem Jr4_2b0_at (rc : Rec) (md : Md) (t : T) (h : Heap) : exec Try.prog cfg rc md 229 (sub (bodyOf Try.prog 4) [1, 1, 1, 1, 1, 1, 0, 1, 0, 0, 1, 1, 0, 0, 1, 1, 1, 1, 1, 0, 1, 0, 0]) (rndK (fun t => (t 2, t 3, t 6, t 9, t 10, t 11, t 45, t 46, t 47, t 69, t 70, t 71))) t h = Jr4_2b0 rc md (t 2) (t 3) (t 6) (t 9) (t 10) (t 11) (t 45) (t 46) (t 47) (t 69) (t 70) (t 71) h := by
  rw [exec_holes [([1, 1, 0, 0, 1, 1, 1, 0], 0)] (by kernel_rfl), Jr4_2b0_h1, show (goX Try.prog cfg rc md 229 (sub (bodyOf Try.prog 4) [1, 1, 1, 1, 1, 1, 0, 1, 0, 0, 1, 1, 0, 0, 1, 1, 1, 1, 1, 0, 1, 0, 0]) [([1, 1, 0, 0, 1, 1, 1, 0], 0)] (rndK (fun t => (t 2, t 3, t 6, t 9, t 10, t 11, t 45, t 46, t 47, t 69, t 70, t 71)))) 0 = _ from J4_2b0b0_cut rc md]
  exact Jr4_2b0_h2 rc md t h
noncomputable def J4_2b0 (rc : Rec) (md : Md) (s2 : Value) (s3 : Value) (s6 : Value) (s9 : Value) (s10 : Value) (s11 : Value) (s45 : Value) (s46 : Value) (s47 : Value) (s69 : Value) (s70 : Value) (s71 : Value) (h : Heap) : Option (((Value × Value × Value × Value × Value × Value) × Heap) ⊕ (Exit × (Value × Value × Value × Value × Value × Value) × Heap)) :=
  runL (fun x : (Value × Value × Value × Value × Value × Value × Value × Value × Value × Value × Value × Value) × Heap => Jr4_2b0 rc md x.1.1 x.1.2.1 x.1.2.2.1 x.1.2.2.2.1 x.1.2.2.2.2.1 x.1.2.2.2.2.2.1 x.1.2.2.2.2.2.2.1 x.1.2.2.2.2.2.2.2.1 x.1.2.2.2.2.2.2.2.2.1 x.1.2.2.2.2.2.2.2.2.2.1 x.1.2.2.2.2.2.2.2.2.2.2.1 x.1.2.2.2.2.2.2.2.2.2.2.2 x.2) (fun e (s : Value × Value × Value × Value × Value × Value × Value × Value × Value × Value × Value × Value) h => Jk4_2b0 rc md e s.1 s.2.1 s.2.2.1 s.2.2.2.1 s.2.2.2.2.1 s.2.2.2.2.2.1 s.2.2.2.2.2.2.1 s.2.2.2.2.2.2.2.1 s.2.2.2.2.2.2.2.2.1 s.2.2.2.2.2.2.2.2.2.1 s.2.2.2.2.2.2.2.2.2.2.1 s.2.2.2.2.2.2.2.2.2.2.2 h) (s2, s3, s6, s9, s10, s11, s45, s46, s47, s69, s70, s71) h
theorem J4_2b0_step (rc : Rec) (md : Md) (s2 : Value) (s3 : Value) (s6 : Value) (s9 : Value) (s10 : Value) (s11 : Value) (s45 : Value) (s46 : Value) (s47 : Value) (s69 : Value) (s70 : Value) (s71 : Value) (h : Heap) : J4_2b0 rc md s2 s3 s6 s9 s10 s11 s45 s46 s47 s69 s70 s71 h = (Jr4_2b0 rc md s2 s3 s6 s9 s10 s11 s45 s46 s47 s69 s70 s71 h).bind fun x => match x with
    | .inl (s, h) => J4_2b0 rc md s.1 s.2.1 s.2.2.1 s.2.2.2.1 s.2.2.2.2.1 s.2.2.2.2.2.1 s.2.2.2.2.2.2.1 s.2.2.2.2.2.2.2.1 s.2.2.2.2.2.2.2.2.1 s.2.2.2.2.2.2.2.2.2.1 s.2.2.2.2.2.2.2.2.2.2.1 s.2.2.2.2.2.2.2.2.2.2.2 h
    | .inr (e, s, h) => Jk4_2b0 rc md e s.1 s.2.1 s.2.2.1 s.2.2.2.1 s.2.2.2.2.1 s.2.2.2.2.2.1 s.2.2.2.2.2.2.1 s.2.2.2.2.2.2.2.1 s.2.2.2.2.2.2.2.2.1 s.2.2.2.2.2.2.2.2.2.1 s.2.2.2.2.2.2.2.2.2.2.1 s.2.2.2.2.2.2.2.2.2.2.2 h := by
  unfold J4_2b0
  rw [runL_eq]
  refine congrArg (Option.bind _) (funext fun x => ?_)
  rcases x with ⟨s, h⟩ | ⟨e, s, h⟩ <;> rfl
theorem J4_2b0_cut (rc : Rec) (md : Md) : cut Try.prog cfg rc md 229 (sub (bodyOf Try.prog 4) [1, 1, 1, 1, 1, 1, 0, 1, 0, 0]) [1, 1, 0, 0, 1, 1, 1, 1, 1, 0, 1, 0] (rndK (fun t => (t 2, t 3, t 6, t 45, t 46, t 47))) = fun t h => J4_2b0 rc md (t 2) (t 3) (t 6) (t 9) (t 10) (t 11) (t 45) (t 46) (t 47) (t 69) (t 70) (t 71) h := by
  funext t h
  have e : sub (sub (bodyOf Try.prog 4) [1, 1, 1, 1, 1, 1, 0, 1, 0, 0]) [1, 1, 0, 0, 1, 1, 1, 1, 1, 0, 1, 0] = .loop (sub (bodyOf Try.prog 4) [1, 1, 1, 1, 1, 1, 0, 1, 0, 0, 1, 1, 0, 0, 1, 1, 1, 1, 1, 0, 1, 0, 0]) := by kernel_rfl
  unfold cut
  rw [e]
  exact loop_eq (by kernel_rfl) (fun t => (t 2, t 3, t 6, t 9, t 10, t 11, t 45, t 46, t 47, t 69, t 70, t 71)) (fun x : (Value × Value × Value × Value × Value × Value × Value × Value × Value × Value × Value × Value) × Heap => Jr4_2b0 rc md x.1.1 x.1.2.1 x.1.2.2.1 x.1.2.2.2.1 x.1.2.2.2.2.1 x.1.2.2.2.2.2.1 x.1.2.2.2.2.2.2.1 x.1.2.2.2.2.2.2.2.1 x.1.2.2.2.2.2.2.2.2.1 x.1.2.2.2.2.2.2.2.2.2.1 x.1.2.2.2.2.2.2.2.2.2.2.1 x.1.2.2.2.2.2.2.2.2.2.2.2 x.2) (fun t h => Jr4_2b0_at rc md t h) (fun e (s : Value × Value × Value × Value × Value × Value × Value × Value × Value × Value × Value × Value) h => Jk4_2b0 rc md e s.1 s.2.1 s.2.2.1 s.2.2.2.1 s.2.2.2.2.1 s.2.2.2.2.2.1 s.2.2.2.2.2.2.1 s.2.2.2.2.2.2.2.1 s.2.2.2.2.2.2.2.2.1 s.2.2.2.2.2.2.2.2.2.1 s.2.2.2.2.2.2.2.2.2.2.1 s.2.2.2.2.2.2.2.2.2.2.2 h) (fun e t h => Jk4_2b0_at rc md e t h) t h
/-- a round -/
noncomputable def Jr4_2 (rc : Rec) (md : Md) (s2 : Value) (s3 : Value) (s6 : Value) (s45 : Value) (s46 : Value) (s47 : Value) (h : Heap) : Option (((Value × Value × Value × Value × Value × Value) × Heap) ⊕ (Exit × (Value × Value × Value × Value × Value × Value) × Heap)) :=
  aBin Try.prog .lss 3 s47 s46 fun v1 =>
  cBn v1 fun b2 =>
  bif b2 then
    ixSV 1 s45 s47 fun v3 =>
    ld1 v3 h fun v4 =>
    bif okNil Try.prog s3 then
    fA 10 s3 fun v5 =>
    ldN 4 v5 h fun v6 =>
    cl (rc md 19 [v6, v4] h) fun v7 h8 =>
    cIn .i64 v7 fun n9 =>
    bif okNil Try.prog s3 then
    fA 4 s3 fun v10 =>
    ldN 6 v10 h8 fun v11 =>
    cl (rc md 20 [v11, (.int .i64 n9)] h8) fun v12 h13 =>
    lenS v12 fun v14 =>
    cIn .i64 v14 fun n15 =>
    lenS v4 fun v16 =>
    cIn .i64 v16 fun n17 =>
    bif (n15 != n17) then
      some (.inr (.ret, ((.bool false), s3, s6, s45, s46, s47), h13))
    else
      let h18 : Heap := h13 ++ [.own [(.int .i64 0), (.int .i64 0)]]
      st md 2 (.pointer (some ⟨h13.length, 0, none⟩)) (.agg #[(.int .i64 0), (.int .i64 0)]) h18 fun h19 =>
      lenS v4 fun v20 =>
      cIn .i64 v20 fun n21 =>
      J4_2b0 rc md s2 s3 s6 (.int .i64 n9) v12 (.pointer (some ⟨h13.length, 0, none⟩)) s45 s46 s47 v4 (.int .i64 n21) (.int .i64 0) h19
    else none
    else none
  else
    some (.inr ((.exit 2), (s2, s3, s6, s45, s46, s47), h))
noncomputable def Jr4_2H (rc : Rec) (md : Md) (X0 : T → Heap → Option (((Value × Value × Value × Value × Value × Value) × Heap) ⊕ (Exit × (Value × Value × Value × Value × Value × Value) × Heap))) (t : T) (h : Heap) : Option (((Value × Value × Value × Value × Value × Value) × Heap) ⊕ (Exit × (Value × Value × Value × Value × Value × Value) × Heap)) :=
  aBin Try.prog .lss 3 (t 47) (t 46) fun v1 =>
  cBn v1 fun b2 =>
  bif b2 then
    ixSV 1 (t 45) (t 47) fun v3 =>
    ld1 v3 h fun v4 =>
    bif okNil Try.prog (t 3) then
    fA 10 (t 3) fun v5 =>
    ldN 4 v5 h fun v6 =>
    cl (rc md 19 [v6, v4] h) fun v7 h8 =>
    cIn .i64 v7 fun n9 =>
    bif okNil Try.prog (t 3) then
    fA 4 (t 3) fun v10 =>
    ldN 6 v10 h8 fun v11 =>
    cl (rc md 20 [v11, (.int .i64 n9)] h8) fun v12 h13 =>
    lenS v12 fun v14 =>
    cIn .i64 v14 fun n15 =>
    lenS v4 fun v16 =>
    cIn .i64 v16 fun n17 =>
    bif (n15 != n17) then
      some (.inr (.ret, ((.bool false), (t 3), (t 6), (t 45), (t 46), (t 47)), h13))
    else
      let h18 : Heap := h13 ++ [.own [(.int .i64 0), (.int .i64 0)]]
      st md 2 (.pointer (some ⟨h13.length, 0, none⟩)) (.agg #[(.int .i64 0), (.int .i64 0)]) h18 fun h19 =>
      lenS v4 fun v20 =>
      cIn .i64 v20 fun n21 =>
      X0 (upd (upd (upd (upd (upd (upd (upd (upd (upd (upd (upd (upd (upd (upd (upd (upd (upd (upd (upd (upd (upd (upd (upd (upd (upd (upd (upd (upd t 48 v1) 49 v3) 50 v4) 8 v4) 51 (t 3)) 52 (t 3)) 53 v5) 54 v6) 55 v4) 56 (.int .i64 n9)) 9 (.int .i64 n9)) 57 (t 3)) 58 (t 3)) 59 v10) 60 v11) 61 (.int .i64 n9)) 62 v12) 10 v12) 63 v12) 64 (.int .i64 n15)) 65 v4) 66 (.int .i64 n17)) 67 (.bool (n15 != n17))) 68 (.agg #[(.int .i64 0), (.int .i64 0)])) 11 (.pointer (some ⟨h13.length, 0, none⟩))) 69 v4) 70 (.int .i64 n21)) 71 (.int .i64 0)) h19
    else none
    else none
  else
    some (.inr ((.exit 2), ((t 2), (t 3), (t 6), (t 45), (t 46), (t 47)), h))
theorem Jr4_2_h1 (rc : Rec) (md : Md) (X : Nat → T → Heap → Option (((Value × Value × Value × Value × Value × Value) × Heap) ⊕ (Exit × (Value × Value × Value × Value × Value × Value) × Heap))) (t : T) (h : Heap) : execG Try.prog cfg X rc md 229 (replS (sub (bodyOf Try.prog 4) [1, 1, 1, 1, 1, 1, 0, 1, 0, 0]) [([1, 1, 0, 0, 1, 1, 1, 1, 1, 0, 1, 0], 0), ([1, 1, 0, 0, 1, 1, 1, 1, 1, 1], 1)]) (rndK (fun t => (t 2, t 3, t 6, t 45, t 46, t 47))) t h = Jr4_2H rc md (X 0) t h := by kernel_rfl
theorem Jr4_2_h2 (rc : Rec) (md : Md) (t : T) (h : Heap) : Jr4_2H rc md (fun t h => J4_2b0 rc md (t 2) (t 3) (t 6) (t 9) (t 10) (t 11) (t 45) (t 46) (t 47) (t 69) (t 70) (t 71) h) t h = Jr4_2 rc md (t 2) (t 3) (t 6) (t 45) (t 46) (t 47) h := by unfold Jr4_2H Jr4_2; kernel_rfl
theorem Jr4_2_at (rc : Rec) (md : Md) (t : T) (h : Heap) : exec Try.prog cfg rc md 229 (sub (bodyOf Try.prog 4) [1, 1, 1, 1, 1, 1, 0, 1, 0, 0]) (rndK (fun t => (t 2, t 3, t 6, t 45, t 46, t 47))) t h = Jr4_2 rc md (t 2) (t 3) (t 6) (t 45) (t 46) (t 47) h := by
  rw [exec_holes [([1, 1, 0, 0, 1, 1, 1, 1, 1, 0, 1, 0], 0), ([1, 1, 0, 0, 1, 1, 1, 1, 1, 1], 1)] (by kernel_rfl), Jr4_2_h1, show (goX Try.prog cfg rc md 229 (sub (bodyOf Try.prog 4) [1, 1, 1, 1, 1, 1, 0, 1, 0, 0]) [([1, 1, 0, 0, 1, 1, 1, 1, 1, 0, 1, 0], 0), ([1, 1, 0, 0, 1, 1, 1, 1, 1, 1], 1)] (rndK (fun t => (t 2, t 3, t 6, t 45, t 46, t 47)))) 0 = _ from J4_2b0_cut rc md]
  exact Jr4_2_h2 rc md t h
noncomputable def J4_2 (rc : Rec) (md : Md) (h0 : Heap) (s2 : Value) (s3 : Value) (s6 : Value) (s45 : Value) (s46 : Value) (s47 : Value) (h : Heap) : Option (Value × Heap) :=
  runL (fun x : (Value × Value × Value × Value × Value × Value) × Heap => Jr4_2 rc md x.1.1 x.1.2.1 x.1.2.2.1 x.1.2.2.2.1 x.1.2.2.2.2.1 x.1.2.2.2.2.2 x.2) (fun e (s : Value × Value × Value × Value × Value × Value) h => Jk4_2 rc md h0 e s.1 s.2.1 s.2.2.1 s.2.2.2.1 s.2.2.2.2.1 s.2.2.2.2.2 h) (s2, s3, s6, s45, s46, s47) h
theorem J4_2_step (rc : Rec) (md : Md) (h0 : Heap) (s2 : Value) (s3 : Value) (s6 : Value) (s45 : Value) (s46 : Value) (s47 : Value) (h : Heap) : J4_2 rc md h0 s2 s3 s6 s45 s46 s47 h = (Jr4_2 rc md s2 s3 s6 s45 s46 s47 h).bind fun x => match x with
    | .inl (s, h) => J4_2 rc md h0 s.1 s.2.1 s.2.2.1 s.2.2.2.1 s.2.2.2.2.1 s.2.2.2.2.2 h
    | .inr (e, s, h) => Jk4_2 rc md h0 e s.1 s.2.1 s.2.2.1 s.2.2.2.1 s.2.2.2.2.1 s.2.2.2.2.2 h := by
  unfold J4_2
  rw [runL_eq]
  refine congrArg (Option.bind _) (funext fun x => ?_)
  rcases x with ⟨s, h⟩ | ⟨e, s, h⟩ <;> rfl
theorem J4_2_cut (rc : Rec) (md : Md) (h0 : Heap) : cut Try.prog cfg rc md 229 (bodyOf Try.prog 4) [1, 1, 1, 1, 1, 1, 0, 1, 0] (retK Try.prog cfg 4 (rsOf Try.prog 4) h0) = fun t h => J4_2 rc md h0 (t 2) (t 3) (t 6) (t 45) (t 46) (t 47) h := by
  funext t h
  have e : sub (bodyOf Try.prog 4) [1, 1, 1, 1, 1, 1, 0, 1, 0] = .loop (sub (bodyOf Try.prog 4) [1, 1, 1, 1, 1, 1, 0, 1, 0, 0]) := by kernel_rfl
  unfold cut
  rw [e]
  exact loop_eq (by kernel_rfl) (fun t => (t 2, t 3, t 6, t 45, t 46, t 47)) (fun x : (Value × Value × Value × Value × Value × Value) × Heap => Jr4_2 rc md x.1.1 x.1.2.1 x.1.2.2.1 x.1.2.2.2.1 x.1.2.2.2.2.1 x.1.2.2.2.2.2 x.2) (fun t h => Jr4_2_at rc md t h) (fun e (s : Value × Value × Value × Value × Value × Value) h => Jk4_2 rc md h0 e s.1 s.2.1 s.2.2.1 s.2.2.2.1 s.2.2.2.2.1 s.2.2.2.2.2 h) (fun e t h => Jk4_2_at rc md h0 e t h) t h
noncomputable def J4_1 (rc : Rec) (md : Md) (h0 : Heap) (s2 : Value) (s3 : Value) (h : Heap) : Option (Value × Heap) :=
  bif okNil Try.prog s3 then
  fA 10 s3 fun v1 =>
  ldN 4 v1 h fun v2 =>
  cl (rc md 18 [v2] h) fun v3 h4 =>
  bif okNil Try.prog s3 then
  fA 10 s3 fun v5 =>
  fA 0 v5 fun v6 =>
  ld1 v6 h4 fun v7 =>
  lenS v7 fun v8 =>
  cIn .i64 v8 fun n9 =>
  J4_2 rc md h0 s2 s3 v3 v7 (.int .i64 n9) (.int .i64 0) h4
  else none
  else none
noncomputable def J4_1H (rc : Rec) (md : Md) (h0 : Heap) (X1 : T → Heap → Option (Value × Heap)) (t : T) (h : Heap) : Option (Value × Heap) :=
  bif okNil Try.prog (t 3) then
  fA 10 (t 3) fun v1 =>
  ldN 4 v1 h fun v2 =>
  cl (rc md 18 [v2] h) fun v3 h4 =>
  bif okNil Try.prog (t 3) then
  fA 10 (t 3) fun v5 =>
  fA 0 v5 fun v6 =>
  ld1 v6 h4 fun v7 =>
  lenS v7 fun v8 =>
  cIn .i64 v8 fun n9 =>
  X1 (upd (upd (upd (upd (upd (upd (upd (upd (upd (upd (upd (upd (upd t 36 (t 3)) 37 (t 3)) 38 v1) 39 v2) 40 v3) 6 v3) 41 (t 3)) 42 (t 3)) 43 v5) 44 v6) 45 v7) 46 (.int .i64 n9)) 47 (.int .i64 0)) h4
  else none
  else none
theorem J4_1_h1 (rc : Rec) (md : Md) (h0 : Heap) (X : Nat → T → Heap → Option (Value × Heap)) (t : T) (h : Heap) : execG Try.prog cfg X rc md 229 (sub (replS (bodyOf Try.prog 4) [([1, 1, 1, 1, 0, 1, 0], 0), ([1, 1, 1, 1, 1, 1, 0, 1, 0], 1), ([1, 1, 1, 1, 1, 1, 1], 2)]) [1, 1, 1, 1, 1]) (kAtG Try.prog cfg X rc md 229 (replS (bodyOf Try.prog 4) [([1, 1, 1, 1, 0, 1, 0], 0), ([1, 1, 1, 1, 1, 1, 0, 1, 0], 1), ([1, 1, 1, 1, 1, 1, 1], 2)]) [1, 1, 1, 1, 1] (retK Try.prog cfg 4 (rsOf Try.prog 4) h0)) t h = J4_1H rc md h0 (X 1) t h := by kernel_rfl
theorem J4_1_h2 (rc : Rec) (md : Md) (h0 : Heap) (t : T) (h : Heap) : J4_1H rc md h0 (fun t h => J4_2 rc md h0 (t 2) (t 3) (t 6) (t 45) (t 46) (t 47) h) t h = J4_1 rc md h0 (t 2) (t 3) h := by (unfold J4_1H J4_1; kernel_rfl)
theorem J4_1_at (rc : Rec) (md : Md) (h0 : Heap) (t : T) (h : Heap) : cut Try.prog cfg rc md 229 (bodyOf Try.prog 4) [1, 1, 1, 1, 1] (retK Try.prog cfg 4 (rsOf Try.prog 4) h0) t h = J4_1 rc md h0 (t 2) (t 3) h := by
  rw [cut_holes [([1, 1, 1, 1, 0, 1, 0], 0), ([1, 1, 1, 1, 1, 1, 0, 1, 0], 1), ([1, 1, 1, 1, 1, 1, 1], 2)] [1, 1, 1, 1, 1] (by kernel_rfl), J4_1_h1, show (goX Try.prog cfg rc md 229 (bodyOf Try.prog 4) [([1, 1, 1, 1, 0, 1, 0], 0), ([1, 1, 1, 1, 1, 1, 0, 1, 0], 1), ([1, 1, 1, 1, 1, 1, 1], 2)] (retK Try.prog cfg 4 (rsOf Try.prog 4) h0)) 1 = _ from J4_2_cut rc md h0]
  exact J4_1_h2 rc md h0 t h
theorem J4_1_cut (rc : Rec) (md : Md) (h0 : Heap) : cut Try.prog cfg rc md 229 (bodyOf Try.prog 4) [1, 1, 1, 1, 1] (retK Try.prog cfg 4 (rsOf Try.prog 4) h0) = fun t h => J4_1 rc md h0 (t 2) (t 3) h := funext fun t => funext fun h => J4_1_at rc md h0 t h
noncomputable def Jk4_0 (rc : Rec) (md : Md) (h0 : Heap) (e : Exit) (s2 : Value) (s3 : Value) (s25 : Value) (s26 : Value) (s27 : Value) (h : Heap) : Option (Value × Heap) :=
  match e with
  | .normal =>
    J4_1 rc md h0 s2 s3 h
  | .exit j =>
    bif Nat.beq j 0 then
      J4_1 rc md h0 s2 s3 h
    else
      none
  | .ret =>
    fin1 h0 s2 h
  | .goto l => none
  | .panic ps => none
  | .outgrown => none
noncomputable def Jk4_0H (rc : Rec) (md : Md) (h0 : Heap) (X3 : T → Heap → Option (Value × Heap)) (e : Exit) (t : T) (h : Heap) : Option (Value × Heap) :=
  match e with
  | .normal =>
    X3 t h
  | .exit j =>
    bif Nat.beq j 0 then
      X3 t h
    else
      none
  | .ret =>
    fin1 h0 (t 2) h
  | .goto l => none
  | .panic ps => none
  | .outgrown => none
theorem Jk4_0_h1 (rc : Rec) (md : Md) (h0 : Heap) (X : Nat → T → Heap → Option (Value × Heap)) (e : Exit) (t : T) (h : Heap) : kAtG Try.prog cfg X rc md 229 (replS (bodyOf Try.prog 4) [([1, 1, 1, 1, 1, 1, 0, 1, 0], 1), ([1, 1, 1, 1, 1, 1, 1], 2), ([1, 1, 1, 1, 1], 3)]) [1, 1, 1, 1, 0, 1, 0] (retK Try.prog cfg 4 (rsOf Try.prog 4) h0) e t h = Jk4_0H rc md h0 (X 3) e t h := by cases e <;> kernel_rfl
theorem Jk4_0_h2 (rc : Rec) (md : Md) (h0 : Heap) (e : Exit) (t : T) (h : Heap) : Jk4_0H rc md h0 (fun t h => J4_1 rc md h0 (t 2) (t 3) h) e t h = Jk4_0 rc md h0 e (t 2) (t 3) (t 25) (t 26) (t 27) h := by cases e <;> (unfold Jk4_0H Jk4_0; kernel_rfl)
theorem Jk4_0_at (rc : Rec) (md : Md) (h0 : Heap) (e : Exit) (t : T) (h : Heap) : kAt Try.prog cfg rc md 229 (bodyOf Try.prog 4) [1, 1, 1, 1, 0, 1, 0] (retK Try.prog cfg 4 (rsOf Try.prog 4) h0) e t h = Jk4_0 rc md h0 e (t 2) (t 3) (t 25) (t 26) (t 27) h := by
  rw [kAt_holes [([1, 1, 1, 1, 1, 1, 0, 1, 0], 1), ([1, 1, 1, 1, 1, 1, 1], 2), ([1, 1, 1, 1, 1], 3)] [1, 1, 1, 1, 0, 1, 0] (by kernel_rfl), Jk4_0_h1, show (goX Try.prog cfg rc md 229 (bodyOf Try.prog 4) [([1, 1, 1, 1, 1, 1, 0, 1, 0], 1), ([1, 1, 1, 1, 1, 1, 1], 2), ([1, 1, 1, 1, 1], 3)] (retK Try.prog cfg 4 (rsOf Try.prog 4) h0)) 3 = _ from J4_1_cut rc md h0]
  exact Jk4_0_h2 rc md h0 e t h
/-- a round -/
noncomputable def Jr4_0 (rc : Rec) (md : Md) (s2 : Value) (s3 : Value) (s25 : Value) (s26 : Value) (s27 : Value) (h : Heap) : Option (((Value × Value × Value × Value × Value) × Heap) ⊕ (Exit × (Value × Value × Value × Value × Value) × Heap)) :=
  aBin Try.prog .lss 3 s27 s26 fun v1 =>
  cBn v1 fun b2 =>
  bif b2 then
    ixSV 5 s25 s27 fun v3 =>
    ldN 5 v3 h fun v4 =>
    let h5 : Heap := h ++ [.own [(.int .i64 0), (.int .i64 0), (.int .i64 0), (.int .i64 0), (.bool false)]]
    st md 5 (.pointer (some ⟨h.length, 0, none⟩)) v4 h5 fun h6 =>
    ldN 5 (.pointer (some ⟨h.length, 0, none⟩)) h6 fun v7 =>
    cl (rc md 17 [s3, v7] h6) fun v8 h9 =>
    cBn v8 fun b10 =>
    bif !b10 then
      some (.inr (.ret, ((.bool false), s3, s25, s26, s27), h9))
    else
      aBin Try.prog .add 3 s27 (.int .i64 1) fun v11 =>
      some (.inl ((s2, s3, s25, s26, v11), h9))
  else
    some (.inr ((.exit 0), (s2, s3, s25, s26, s27), h))
theorem Jr4_0_at (rc : Rec) (md : Md) (t : T) (h : Heap) : exec Try.prog cfg rc md 229 (sub (bodyOf Try.prog 4) [1, 1, 1, 1, 0, 1, 0, 0]) (rndK (fun t => (t 2, t 3, t 25, t 26, t 27))) t h = Jr4_0 rc md (t 2) (t 3) (t 25) (t 26) (t 27) h := by kernel_rfl
noncomputable def J4_0 (rc : Rec) (md : Md) (h0 : Heap) (s2 : Value) (s3 : Value) (s25 : Value) (s26 : Value) (s27 : Value) (h : Heap) : Option (Value × Heap) :=
  runL (fun x : (Value × Value × Value × Value × Value) × Heap => Jr4_0 rc md x.1.1 x.1.2.1 x.1.2.2.1 x.1.2.2.2.1 x.1.2.2.2.2 x.2) (fun e (s : Value × Value × Value × Value × Value) h => Jk4_0 rc md h0 e s.1 s.2.1 s.2.2.1 s.2.2.2.1 s.2.2.2.2 h) (s2, s3, s25, s26, s27) h
theorem J4_0_step (rc : Rec) (md : Md) (h0 : Heap) (s2 : Value) (s3 : Value) (s25 : Value) (s26 : Value) (s27 : Value) (h : Heap) : J4_0 rc md h0 s2 s3 s25 s26 s27 h = (Jr4_0 rc md s2 s3 s25 s26 s27 h).bind fun x => match x with
    | .inl (s, h) => J4_0 rc md h0 s.1 s.2.1 s.2.2.1 s.2.2.2.1 s.2.2.2.2 h
    | .inr (e, s, h) => Jk4_0 rc md h0 e s.1 s.2.1 s.2.2.1 s.2.2.2.1 s.2.2.2.2 h := by
  unfold J4_0
  rw [runL_eq]
  refine congrArg (Option.bind _) (funext fun x => ?_)
  rcases x with ⟨s, h⟩ | ⟨e, s, h⟩ <;> rfl
theorem J4_0_cut (rc : Rec) (md : Md) (h0 : Heap) : cut Try.prog cfg rc md 229 (bodyOf Try.prog 4) [1, 1, 1, 1, 0, 1, 0] (retK Try.prog cfg 4 (rsOf Try.prog 4) h0) = fun t h => J4_0 rc md h0 (t 2) (t 3) (t 25) (t 26) (t 27) h := by
  funext t h
  have e : sub (bodyOf Try.prog 4) [1, 1, 1, 1, 0, 1, 0] = .loop (sub (bodyOf Try.prog 4) [1, 1, 1, 1, 0, 1, 0, 0]) := by kernel_rfl
  unfold cut
  rw [e]
  exact loop_eq (by kernel_rfl) (fun t => (t 2, t 3, t 25, t 26, t 27)) (fun x : (Value × Value × Value × Value × Value) × Heap => Jr4_0 rc md x.1.1 x.1.2.1 x.1.2.2.1 x.1.2.2.2.1 x.1.2.2.2.2 x.2) (fun t h => Jr4_0_at rc md t h) (fun e (s : Value × Value × Value × Value × Value) h => Jk4_0 rc md h0 e s.1 s.2.1 s.2.2.1 s.2.2.2.1 s.2.2.2.2 h) (fun e t h => Jk4_0_at rc md h0 e t h) t h
noncomputable def F4 (rc : Rec) (md : Md) (a0_0 : Int) (a0_1 : Int) (a0_2 : Int) (a0_3 : Value) (a0_4 : Value) (h0 : Heap) : Option (Value × Heap) :=
  let h1 : Heap := h0 ++ [.own [(.int .i64 a0_0), (.int .i64 a0_1), (.int .i64 a0_2), a0_3, a0_4]]
  ldN 5 (.pointer (some ⟨h0.length, 0, none⟩)) h1 fun v2 =>
  cl (rc md 13 [v2] h1) fun v3 h4 =>
  cBn v3 fun b5 =>
  bif !b5 then
    cl (rc md 14 [] h4) fun v6 h7 =>
    cBn v6 fun b8 =>
    some ((.bool b8), List.take h0.length h7)
  else
    ldN 5 (.pointer (some ⟨h0.length, 0, none⟩)) h4 fun v9 =>
    cl (rc md 15 [v9] h4) fun v10 h11 =>
    aBin Try.prog .eql 30 v10 (.pointer none) fun v12 =>
    cBn v12 fun b13 =>
    bif b13 then
      some ((.bool false), List.take h0.length h11)
    else
      ld1 (.pointer (some ⟨h0.length, 4, none⟩)) h11 fun v14 =>
      lenS v14 fun v15 =>
      cIn .i64 v15 fun n16 =>
      J4_0 rc md h0 (.bool false) v10 v14 (.int .i64 n16) (.int .i64 0) h11
noncomputable def F4H (rc : Rec) (md : Md) (X0 : T → Heap → Option (Value × Heap)) (a0_0 : Int) (a0_1 : Int) (a0_2 : Int) (a0_3 : Value) (a0_4 : Value) (h0 : Heap) : Option (Value × Heap) :=
  let h1 : Heap := h0 ++ [.own [(.int .i64 a0_0), (.int .i64 a0_1), (.int .i64 a0_2), a0_3, a0_4]]
  ldN 5 (.pointer (some ⟨h0.length, 0, none⟩)) h1 fun v2 =>
  cl (rc md 13 [v2] h1) fun v3 h4 =>
  cBn v3 fun b5 =>
  bif !b5 then
    cl (rc md 14 [] h4) fun v6 h7 =>
    cBn v6 fun b8 =>
    some ((.bool b8), List.take h0.length h7)
  else
    ldN 5 (.pointer (some ⟨h0.length, 0, none⟩)) h4 fun v9 =>
    cl (rc md 15 [v9] h4) fun v10 h11 =>
    aBin Try.prog .eql 30 v10 (.pointer none) fun v12 =>
    cBn v12 fun b13 =>
    bif b13 then
      some ((.bool false), List.take h0.length h11)
    else
      ld1 (.pointer (some ⟨h0.length, 4, none⟩)) h11 fun v14 =>
      lenS v14 fun v15 =>
      cIn .i64 v15 fun n16 =>
      X0 (upd (upd (upd (upd (upd (upd (upd (upd (upd (upd (upd (upd (upd (upd (args0 [(.agg #[(.int .i64 a0_0), (.int .i64 a0_1), (.int .i64 a0_2), a0_3, a0_4])]) 1 (.pointer (some ⟨h0.length, 0, none⟩))) 2 (.bool false)) 16 v2) 17 (.bool b5)) 18 (.bool (!b5))) 20 v9) 21 v10) 3 v10) 22 v10) 23 v12) 24 (.pointer (some ⟨h0.length, 4, none⟩))) 25 v14) 26 (.int .i64 n16)) 27 (.int .i64 0)) h11
theorem F4_h0 (rc : Rec) (md : Md) (a0_0 : Int) (a0_1 : Int) (a0_2 : Int) (a0_3 : Value) (a0_4 : Value) (h0 : Heap) : callStep0 Try.prog cfg rc md 4 [(.agg #[(.int .i64 a0_0), (.int .i64 a0_1), (.int .i64 a0_2), a0_3, a0_4])] h0 = exec Try.prog cfg rc ⟨md.ro, h0.length⟩ 229 (bodyOf Try.prog 4) (retK Try.prog cfg 4 (rsOf Try.prog 4) h0) (args0 [(.agg #[(.int .i64 a0_0), (.int .i64 a0_1), (.int .i64 a0_2), a0_3, a0_4])]) h0 := callStep0_run (by kernel_rfl) (by kernel_rfl) (by kernel_rfl)
theorem F4_h1 (rc : Rec) (md : Md) (X : Nat → T → Heap → Option (Value × Heap)) (a0_0 : Int) (a0_1 : Int) (a0_2 : Int) (a0_3 : Value) (a0_4 : Value) (h0 : Heap) : execG Try.prog cfg X rc md 229 (replS (bodyOf Try.prog 4) [([1, 1, 1, 1, 0, 1, 0], 0), ([1, 1, 1, 1, 1, 1, 0, 1, 0], 1), ([1, 1, 1, 1, 1, 1, 1], 2), ([1, 1, 1, 1, 1], 3)]) (retK Try.prog cfg 4 (rsOf Try.prog 4) h0) (args0 [(.agg #[(.int .i64 a0_0), (.int .i64 a0_1), (.int .i64 a0_2), a0_3, a0_4])]) h0 = F4H rc md (X 0) a0_0 a0_1 a0_2 a0_3 a0_4 h0 := by kernel_rfl
theorem F4_h2 (rc : Rec) (md : Md) (a0_0 : Int) (a0_1 : Int) (a0_2 : Int) (a0_3 : Value) (a0_4 : Value) (h0 : Heap) : F4H rc md (fun t h => J4_0 rc md h0 (t 2) (t 3) (t 25) (t 26) (t 27) h) a0_0 a0_1 a0_2 a0_3 a0_4 h0 = F4 rc md a0_0 a0_1 a0_2 a0_3 a0_4 h0 := by unfold F4H F4; kernel_rfl
theorem F4_eq0 (rc : Rec) (md : Md) (a0_0 : Int) (a0_1 : Int) (a0_2 : Int) (a0_3 : Value) (a0_4 : Value) (h0 : Heap) : callStep0 Try.prog cfg rc md 4 [(.agg #[(.int .i64 a0_0), (.int .i64 a0_1), (.int .i64 a0_2), a0_3, a0_4])] h0 = F4 rc ⟨md.ro, h0.length⟩ a0_0 a0_1 a0_2 a0_3 a0_4 h0 := by
  rw [F4_h0, exec_holes [([1, 1, 1, 1, 0, 1, 0], 0), ([1, 1, 1, 1, 1, 1, 0, 1, 0], 1), ([1, 1, 1, 1, 1, 1, 1], 2), ([1, 1, 1, 1, 1], 3)] (by kernel_rfl), F4_h1, show (goX Try.prog cfg rc ⟨md.ro, h0.length⟩ 229 (bodyOf Try.prog 4) [([1, 1, 1, 1, 0, 1, 0], 0), ([1, 1, 1, 1, 1, 1, 0, 1, 0], 1), ([1, 1, 1, 1, 1, 1, 1], 2), ([1, 1, 1, 1, 1], 3)] (retK Try.prog cfg 4 (rsOf Try.prog 4) h0)) 0 = _ from J4_0_cut rc ⟨md.ro, h0.length⟩ h0]
  exact F4_h2 rc _ a0_0 a0_1 a0_2 a0_3 a0_4 h0
theorem F4_eq (rc : Rec) (md : Md) (a0_0 : Int) (a0_1 : Int) (a0_2 : Int) (a0_3 : Value) (a0_4 : Value) (h0 : Heap) : callStep Try.prog cfg rc md 4 [(.agg #[(.int .i64 a0_0), (.int .i64 a0_1), (.int .i64 a0_2), a0_3, a0_4])] h0 = F4 rc ⟨md.ro, h0.length⟩ a0_0 a0_1 a0_2 a0_3 a0_4 h0 := (callStep_ne (by kernel_rfl)).trans (F4_eq0 rc md a0_0 a0_1 a0_2 a0_3 a0_4 h0)

end Go.Det.E
