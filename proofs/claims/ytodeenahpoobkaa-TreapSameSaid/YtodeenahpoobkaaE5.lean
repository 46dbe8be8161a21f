/- Printed functions. -/
import Derived.Test.YtodeenahpoobkaaE3
import Derived.Test.YtodeenahpoobkaaDetT
import Derived.Test.YtodeenahpoobkaaDetX
import Derived.Test.YtodeenahpoobkaaProg
set_option autoImplicit false
set_option linter.unusedVariables false
set_option linter.unusedSimpArgs false
namespace Go.Det.E
open Go.Proofs Go.Det

/-- tombolo/tombololaw09.right -/
noncomputable def F13 (rc : Rec) (md : Md) (a0_0 : Int) (a0_1 : Int) (a0_2 : Int) (a0_3 : Value) (a0_4 : Value) (h0 : Heap) : Option (Value × Heap) :=
  let h1 : Heap := h0 ++ [.own [(.int .i64 a0_0), (.int .i64 a0_1), (.int .i64 a0_2), a0_3, a0_4]]
  ldN 3 (.pointer (some ⟨h0.length, 0, none⟩)) h1 fun v2 =>
  let h3 : Heap := h1 ++ [.own [(.int .i64 0), (.int .i64 0), (.int .i64 0)]]
  st md 3 (.pointer (some ⟨h1.length, 0, none⟩)) v2 h3 fun h4 =>
  ld1 (.pointer (some ⟨h1.length, 0, none⟩)) h4 fun v5 =>
  cIn .i64 v5 fun n6 =>
  ld1 (.pointer (some ⟨h1.length, 1, none⟩)) h4 fun v7 =>
  cIn .i64 v7 fun n8 =>
  ld1 (.pointer (some ⟨h1.length, 2, none⟩)) h4 fun v9 =>
  cIn .i64 v9 fun n10 =>
  cl (rc md 50 [(.agg #[(.int .i64 n6), (.int .i64 n8), (.int .i64 n10)])] h4) fun v11 h12 =>
  cBn v11 fun b13 =>
  (bif wantV (.bool b13) true then
  some ((.pointer (some ⟨h1.length, 0, none⟩)), h12)
  else some (undef, h12)).bind fun p14 =>
  (bif wantV (.bool b13) true then
  ld1 p14.1 p14.2 fun v15 =>
  cIn .i64 v15 fun n16 =>
  some ((.int .i64 n16), p14.2)
  else some (undef, p14.2)).bind fun p17 =>
  (bif wantV (.bool b13) true then
  aBin Try.prog .leq 3 p17.1 (.int .i64 4) fun v18 =>
  some (v18, p17.2)
  else some (undef, p17.2)).bind fun p19 =>
  cBn (bif b13 then p19.1 else (.bool false)) fun b20 =>
  (bif wantV (.bool b20) true then
  some ((.pointer (some ⟨h1.length, 1, none⟩)), p19.2)
  else some (undef, p19.2)).bind fun p21 =>
  (bif wantV (.bool b20) true then
  ld1 p21.1 p21.2 fun v22 =>
  cIn .i64 v22 fun n23 =>
  some ((.int .i64 n23), p21.2)
  else some (undef, p21.2)).bind fun p24 =>
  (bif wantV (.bool b20) true then
  aBin Try.prog .leq 3 p24.1 (.int .i64 3) fun v25 =>
  some (v25, p24.2)
  else some (undef, p24.2)).bind fun p26 =>
  cBn (bif b20 then p26.1 else (.bool false)) fun b27 =>
  (bif wantV (.bool b27) true then
  some ((.pointer (some ⟨h0.length, 3, none⟩)), p26.2)
  else some (undef, p26.2)).bind fun p28 =>
  (bif wantV (.bool b27) true then
  ld1 p28.1 p28.2 fun v29 =>
  some (v29, p28.2)
  else some (undef, p28.2)).bind fun p30 =>
  (bif wantV (.bool b27) true then
  lenS p30.1 fun v31 =>
  cIn .i64 v31 fun n32 =>
  some ((.int .i64 n32), p30.2)
  else some (undef, p30.2)).bind fun p33 =>
  (bif wantV (.bool b27) true then
  aBin Try.prog .leq 3 p33.1 (.int .i64 60) fun v34 =>
  some (v34, p33.2)
  else some (undef, p33.2)).bind fun p35 =>
  cBn (bif b27 then p35.1 else (.bool false)) fun b36 =>
  (bif wantV (.bool b36) true then
  some ((.pointer (some ⟨h0.length, 4, none⟩)), p35.2)
  else some (undef, p35.2)).bind fun p37 =>
  (bif wantV (.bool b36) true then
  ld1 p37.1 p37.2 fun v38 =>
  some (v38, p37.2)
  else some (undef, p37.2)).bind fun p39 =>
  (bif wantV (.bool b36) true then
  lenS p39.1 fun v40 =>
  cIn .i64 v40 fun n41 =>
  some ((.int .i64 n41), p39.2)
  else some (undef, p39.2)).bind fun p42 =>
  (bif wantV (.bool b36) true then
  aBin Try.prog .leq 3 p42.1 (.int .i64 60) fun v43 =>
  some (v43, p42.2)
  else some (undef, p42.2)).bind fun p44 =>
  cBn (bif b36 then p44.1 else (.bool false)) fun b45 =>
  some ((.bool b45), h0)
theorem F13_eq0 (rc : Rec) (md : Md) (a0_0 : Int) (a0_1 : Int) (a0_2 : Int) (a0_3 : Value) (a0_4 : Value) (h0 : Heap) : callStep0 Try.prog cfg rc md 13 [(.agg #[(.int .i64 a0_0), (.int .i64 a0_1), (.int .i64 a0_2), a0_3, a0_4])] h0 = F13 rc ⟨h0.length, h0.length⟩ a0_0 a0_1 a0_2 a0_3 a0_4 h0 := by kernel_rfl
theorem F13_eq (rc : Rec) (md : Md) (a0_0 : Int) (a0_1 : Int) (a0_2 : Int) (a0_3 : Value) (a0_4 : Value) (h0 : Heap) : callStep Try.prog cfg rc md 13 [(.agg #[(.int .i64 a0_0), (.int .i64 a0_1), (.int .i64 a0_2), a0_3, a0_4])] h0 = F13 rc ⟨h0.length, h0.length⟩ a0_0 a0_1 a0_2 a0_3 a0_4 h0 := (callStep_ne (by kernel_rfl)).trans (F13_eq0 rc md a0_0 a0_1 a0_2 a0_3 a0_4 h0)

/-- tombolo/tombololaw09.begun -/
noncomputable def J15_1 (rc : Rec) (md : Md) (h0 : Heap) (s6 : Value) (s8 : Value) (h : Heap) : Option (Value × Heap) :=
  ldN 4 s8 h fun v1 =>
  bif okNil Try.prog s6 then
  fA 10 s6 fun v2 =>
  st md 4 v2 v1 h fun h3 =>
  some (s6, h3)
  else none
theorem J15_1_at (rc : Rec) (md : Md) (h0 : Heap) (t : T) (h : Heap) : cut Try.prog cfg rc md 111 (bodyOf Try.prog 15) [1, 1, 1, 1, 1, 1, 1, 1] (retK Try.prog cfg 15 (rsOf Try.prog 15) h0) t h = J15_1 rc md h0 (t 6) (t 8) h := by kernel_rfl
theorem J15_1_cut (rc : Rec) (md : Md) (h0 : Heap) : cut Try.prog cfg rc md 111 (bodyOf Try.prog 15) [1, 1, 1, 1, 1, 1, 1, 1] (retK Try.prog cfg 15 (rsOf Try.prog 15) h0) = fun t h => J15_1 rc md h0 (t 6) (t 8) h := funext fun t => funext fun h => J15_1_at rc md h0 t h
noncomputable def Jk15_0 (rc : Rec) (md : Md) (h0 : Heap) (e : Exit) (s1 : Value) (s2 : Value) (s3 : Value) (s4 : Value) (s6 : Value) (s7 : Value) (s8 : Value) (s9 : Value) (h : Heap) : Option (Value × Heap) :=
  match e with
  | .normal =>
    J15_1 rc md h0 s6 s8 h
  | .exit j =>
    bif Nat.beq j 0 then
      J15_1 rc md h0 s6 s8 h
    else
      none
  | .ret =>
    some (s2, h)
  | .goto l => none
  | .panic ps => none
  | .outgrown => none
noncomputable def Jk15_0H (rc : Rec) (md : Md) (h0 : Heap) (X1 : T → Heap → Option (Value × Heap)) (e : Exit) (t : T) (h : Heap) : Option (Value × Heap) :=
  match e with
  | .normal =>
    X1 t h
  | .exit j =>
    bif Nat.beq j 0 then
      X1 t h
    else
      none
  | .ret =>
    some ((t 2), h)
  | .goto l => none
  | .panic ps => none
  | .outgrown => none
theorem Jk15_0_h1 (rc : Rec) (md : Md) (h0 : Heap) (X : Nat → T → Heap → Option (Value × Heap)) (e : Exit) (t : T) (h : Heap) : kAtG Try.prog cfg X rc md 111 (replS (bodyOf Try.prog 15) [([1, 1, 1, 1, 1, 1, 1, 1], 1)]) [1, 1, 1, 1, 1, 1, 1, 0, 1, 0] (retK Try.prog cfg 15 (rsOf Try.prog 15) h0) e t h = Jk15_0H rc md h0 (X 1) e t h := by cases e <;> kernel_rfl
theorem Jk15_0_h2 (rc : Rec) (md : Md) (h0 : Heap) (e : Exit) (t : T) (h : Heap) : Jk15_0H rc md h0 (fun t h => J15_1 rc md h0 (t 6) (t 8) h) e t h = Jk15_0 rc md h0 e (t 1) (t 2) (t 3) (t 4) (t 6) (t 7) (t 8) (t 9) h := by cases e <;> (unfold Jk15_0H Jk15_0; kernel_rfl)
theorem Jk15_0_at (rc : Rec) (md : Md) (h0 : Heap) (e : Exit) (t : T) (h : Heap) : kAt Try.prog cfg rc md 111 (bodyOf Try.prog 15) [1, 1, 1, 1, 1, 1, 1, 0, 1, 0] (retK Try.prog cfg 15 (rsOf Try.prog 15) h0) e t h = Jk15_0 rc md h0 e (t 1) (t 2) (t 3) (t 4) (t 6) (t 7) (t 8) (t 9) h := by
  rw [kAt_holes [([1, 1, 1, 1, 1, 1, 1, 1], 1)] [1, 1, 1, 1, 1, 1, 1, 0, 1, 0] (by kernel_rfl), Jk15_0_h1, show (goX Try.prog cfg rc md 111 (bodyOf Try.prog 15) [([1, 1, 1, 1, 1, 1, 1, 1], 1)] (retK Try.prog cfg 15 (rsOf Try.prog 15) h0)) 1 = _ from J15_1_cut rc md h0]
  exact Jk15_0_h2 rc md h0 e t h
noncomputable def J15_0b0 (rc : Rec) (md : Md) (s1 : Value) (s2 : Value) (s3 : Value) (s4 : Value) (s6 : Value) (s7 : Value) (s8 : Value) (s9 : Value) (h : Heap) : Option (((Value × Value × Value × Value × Value × Value × Value × Value) × Heap) ⊕ (Exit × (Value × Value × Value × Value × Value × Value × Value × Value) × Heap)) :=
  ldN 3 s3 h fun v1 =>
  cl (rc md 42 [v1, s9] h) fun v2 h3 =>
  exT v2 0 fun v4 =>
  exT v2 1 fun v5 =>
  cBn v5 fun b6 =>
  let h7 : Heap := h3 ++ [.own [(.bool false), (.int .i64 0), (.int .i64 0), (.int .i64 0), (.int .i64 0)]]
  st md 5 (.pointer (some ⟨h3.length, 0, none⟩)) v4 h7 fun h8 =>
  fA 3 s8 fun v9 =>
  ld1 v9 h8 fun v10 =>
  ld1 (.pointer (some ⟨h3.length, 0, none⟩)) h8 fun v11 =>
  cBn v11 fun b12 =>
  ixSV 1 v10 s9 fun v13 =>
  st md 1 v13 (.bool (!b12)) h8 fun h14 =>
  ldN 3 s3 h14 fun v15 =>
  cl (rc md 55 [v15, s9, (.int .i64 5)] h14) fun v16 h17 =>
  cIn .i64 v16 fun n18 =>
  fA 1 s8 fun v19 =>
  ld1 v19 h17 fun v20 =>
  ixSV 1 v20 s9 fun v21 =>
  ld1 v21 h17 fun v22 =>
  cIn .u64 v22 fun n23 =>
  cl (rc md 54 [s4, (.int .i64 n18), (.int .u64 n23)] h17) fun v24 h25 =>
  cIn .i64 v24 fun n26 =>
  bif okNil Try.prog s6 then
  fA 4 s6 fun v27 =>
  ldN 6 v27 h25 fun v28 =>
  cl (rc md 56 [v28, s9] h25) fun v29 h30 =>
  fA 0 s8 fun v31 =>
  ld1 v31 h30 fun v32 =>
  aBuildSlice Try.prog 44 1 [(0, s9)] h30 fun v33 h34 =>
  aBuildSlice Try.prog 43 1 [(0, v33)] h34 fun v35 h36 =>
  aBuiltin Try.prog md .append #[43, 43] [v32, v35] h36 fun v37 h38 =>
  fA 0 s8 fun v39 =>
  st md 1 v39 v37 h38 fun h40 =>
  aBin Try.prog .add 3 s9 (.int .i64 1) fun v41 =>
  some (.inl ((s1, s2, s3, s4, s6, s7, s8, v41), h40))
  else none
theorem J15_0b0_at (rc : Rec) (md : Md) (t : T) (h : Heap) : cut Try.prog cfg rc md 111 (sub (bodyOf Try.prog 15) [1, 1, 1, 1, 1, 1, 1, 0, 1, 0, 0]) [1, 0, 0, 1] (rndK (fun t => (t 1, t 2, t 3, t 4, t 6, t 7, t 8, t 9))) t h = J15_0b0 rc md (t 1) (t 2) (t 3) (t 4) (t 6) (t 7) (t 8) (t 9) h := by kernel_rfl
theorem J15_0b0_cut (rc : Rec) (md : Md) : cut Try.prog cfg rc md 111 (sub (bodyOf Try.prog 15) [1, 1, 1, 1, 1, 1, 1, 0, 1, 0, 0]) [1, 0, 0, 1] (rndK (fun t => (t 1, t 2, t 3, t 4, t 6, t 7, t 8, t 9))) = fun t h => J15_0b0 rc md (t 1) (t 2) (t 3) (t 4) (t 6) (t 7) (t 8) (t 9) h := funext fun t => funext fun h => J15_0b0_at rc md t h
/-- a round -/
noncomputable def Jr15_0 (rc : Rec) (md : Md) (s1 : Value) (s2 : Value) (s3 : Value) (s4 : Value) (s6 : Value) (s7 : Value) (s8 : Value) (s9 : Value) (h : Heap) : Option (((Value × Value × Value × Value × Value × Value × Value × Value) × Heap) ⊕ (Exit × (Value × Value × Value × Value × Value × Value × Value × Value) × Heap)) :=
  aBin Try.prog .leq 3 s9 s7 fun v1 =>
  cBn v1 fun b2 =>
  bif b2 then
    fA 3 s1 fun v3 =>
    ld1 v3 h fun v4 =>
    lenS v4 fun v5 =>
    cIn .i64 v5 fun n6 =>
    bif (decide (n6 > 0)) then
      fA 1 s8 fun v7 =>
      ld1 v7 h fun v8 =>
      fA 3 s1 fun v9 =>
      ld1 v9 h fun v10 =>
      fA 3 s1 fun v11 =>
      ld1 v11 h fun v12 =>
      lenS v12 fun v13 =>
      cIn .i64 v13 fun n14 =>
      aBin Try.prog .rem 3 s9 (.int .i64 n14) fun v15 =>
      ixSV 1 v10 v15 fun v16 =>
      ld1 v16 h fun v17 =>
      cIn .u64 v17 fun n18 =>
      ixSV 1 v8 s9 fun v19 =>
      st md 1 v19 (.int .u64 n18) h fun h20 =>
      J15_0b0 rc md s1 s2 s3 s4 s6 s7 s8 s9 h20
    else
      J15_0b0 rc md s1 s2 s3 s4 s6 s7 s8 s9 h
  else
    some (.inr ((.exit 0), (s1, s2, s3, s4, s6, s7, s8, s9), h))
noncomputable def Jr15_0H (rc : Rec) (md : Md) (X0 : T → Heap → Option (((Value × Value × Value × Value × Value × Value × Value × Value) × Heap) ⊕ (Exit × (Value × Value × Value × Value × Value × Value × Value × Value) × Heap))) (t : T) (h : Heap) : Option (((Value × Value × Value × Value × Value × Value × Value × Value) × Heap) ⊕ (Exit × (Value × Value × Value × Value × Value × Value × Value × Value) × Heap)) :=
  aBin Try.prog .leq 3 (t 9) (t 7) fun v1 =>
  cBn v1 fun b2 =>
  bif b2 then
    fA 3 (t 1) fun v3 =>
    ld1 v3 h fun v4 =>
    lenS v4 fun v5 =>
    cIn .i64 v5 fun n6 =>
    bif (decide (n6 > 0)) then
      fA 1 (t 8) fun v7 =>
      ld1 v7 h fun v8 =>
      fA 3 (t 1) fun v9 =>
      ld1 v9 h fun v10 =>
      fA 3 (t 1) fun v11 =>
      ld1 v11 h fun v12 =>
      lenS v12 fun v13 =>
      cIn .i64 v13 fun n14 =>
      aBin Try.prog .rem 3 (t 9) (.int .i64 n14) fun v15 =>
      ixSV 1 v10 v15 fun v16 =>
      ld1 v16 h fun v17 =>
      cIn .u64 v17 fun n18 =>
      ixSV 1 v8 (t 9) fun v19 =>
      st md 1 v19 (.int .u64 n18) h fun h20 =>
      X0 (upd (upd (upd (upd (upd (upd (upd (upd (upd (upd (upd (upd (upd (upd (upd (upd (upd (upd (upd (upd t 48 (t 9)) 49 (t 7)) 50 v1) 53 v3) 54 v4) 55 (.int .i64 n6)) 56 (.bool (decide (n6 > 0)))) 57 v7) 58 v8) 59 (t 9)) 60 v9) 61 v10) 62 (t 9)) 63 v11) 64 v12) 65 (.int .i64 n14)) 66 v15) 67 v16) 68 (.int .u64 n18)) 69 v19) h20
    else
      X0 (upd (upd (upd (upd (upd (upd (upd t 48 (t 9)) 49 (t 7)) 50 v1) 53 v3) 54 v4) 55 (.int .i64 n6)) 56 (.bool (decide (n6 > 0)))) h
  else
    some (.inr ((.exit 0), ((t 1), (t 2), (t 3), (t 4), (t 6), (t 7), (t 8), (t 9)), h))
theorem Jr15_0_h1 (rc : Rec) (md : Md) (X : Nat → T → Heap → Option (((Value × Value × Value × Value × Value × Value × Value × Value) × Heap) ⊕ (Exit × (Value × Value × Value × Value × Value × Value × Value × Value) × Heap))) (t : T) (h : Heap) : execG Try.prog cfg X rc md 111 (replS (sub (bodyOf Try.prog 15) [1, 1, 1, 1, 1, 1, 1, 0, 1, 0, 0]) [([1, 0, 0, 1], 0)]) (rndK (fun t => (t 1, t 2, t 3, t 4, t 6, t 7, t 8, t 9))) t h = Jr15_0H rc md (X 0) t h := by kernel_rfl
theorem Jr15_0_h2 (rc : Rec) (md : Md) (t : T) (h : Heap) : Jr15_0H rc md (fun t h => J15_0b0 rc md (t 1) (t 2) (t 3) (t 4) (t 6) (t 7) (t 8) (t 9) h) t h = Jr15_0 rc md (t 1) (t 2) (t 3) (t 4) (t 6) (t 7) (t 8) (t 9) h := by unfold Jr15_0H Jr15_0; kernel_rfl
theorem Jr15_0_at (rc : Rec) (md : Md) (t : T) (h : Heap) : exec Try.prog cfg rc md 111 (sub (bodyOf Try.prog 15) [1, 1, 1, 1, 1, 1, 1, 0, 1, 0, 0]) (rndK (fun t => (t 1, t 2, t 3, t 4, t 6, t 7, t 8, t 9))) t h = Jr15_0 rc md (t 1) (t 2) (t 3) (t 4) (t 6) (t 7) (t 8) (t 9) h := by
  rw [exec_holes [([1, 0, 0, 1], 0)] (by kernel_rfl), Jr15_0_h1, show (goX Try.prog cfg rc md 111 (sub (bodyOf Try.prog 15) [1, 1, 1, 1, 1, 1, 1, 0, 1, 0, 0]) [([1, 0, 0, 1], 0)] (rndK (fun t => (t 1, t 2, t 3, t 4, t 6, t 7, t 8, t 9)))) 0 = _ from J15_0b0_cut rc md]
  exact Jr15_0_h2 rc md t h
noncomputable def J15_0 (rc : Rec) (md : Md) (h0 : Heap) (s1 : Value) (s2 : Value) (s3 : Value) (s4 : Value) (s6 : Value) (s7 : Value) (s8 : Value) (s9 : Value) (h : Heap) : Option (Value × Heap) :=
  runL (fun x : (Value × Value × Value × Value × Value × Value × Value × Value) × Heap => Jr15_0 rc md x.1.1 x.1.2.1 x.1.2.2.1 x.1.2.2.2.1 x.1.2.2.2.2.1 x.1.2.2.2.2.2.1 x.1.2.2.2.2.2.2.1 x.1.2.2.2.2.2.2.2 x.2) (fun e (s : Value × Value × Value × Value × Value × Value × Value × Value) h => Jk15_0 rc md h0 e s.1 s.2.1 s.2.2.1 s.2.2.2.1 s.2.2.2.2.1 s.2.2.2.2.2.1 s.2.2.2.2.2.2.1 s.2.2.2.2.2.2.2 h) (s1, s2, s3, s4, s6, s7, s8, s9) h
theorem J15_0_step (rc : Rec) (md : Md) (h0 : Heap) (s1 : Value) (s2 : Value) (s3 : Value) (s4 : Value) (s6 : Value) (s7 : Value) (s8 : Value) (s9 : Value) (h : Heap) : J15_0 rc md h0 s1 s2 s3 s4 s6 s7 s8 s9 h = (Jr15_0 rc md s1 s2 s3 s4 s6 s7 s8 s9 h).bind fun x => match x with
    | .inl (s, h) => J15_0 rc md h0 s.1 s.2.1 s.2.2.1 s.2.2.2.1 s.2.2.2.2.1 s.2.2.2.2.2.1 s.2.2.2.2.2.2.1 s.2.2.2.2.2.2.2 h
    | .inr (e, s, h) => Jk15_0 rc md h0 e s.1 s.2.1 s.2.2.1 s.2.2.2.1 s.2.2.2.2.1 s.2.2.2.2.2.1 s.2.2.2.2.2.2.1 s.2.2.2.2.2.2.2 h := by
  unfold J15_0
  rw [runL_eq]
  refine congrArg (Option.bind _) (funext fun x => ?_)
  rcases x with ⟨s, h⟩ | ⟨e, s, h⟩ <;> rfl
theorem J15_0_cut (rc : Rec) (md : Md) (h0 : Heap) : cut Try.prog cfg rc md 111 (bodyOf Try.prog 15) [1, 1, 1, 1, 1, 1, 1, 0, 1, 0] (retK Try.prog cfg 15 (rsOf Try.prog 15) h0) = fun t h => J15_0 rc md h0 (t 1) (t 2) (t 3) (t 4) (t 6) (t 7) (t 8) (t 9) h := by
  funext t h
  have e : sub (bodyOf Try.prog 15) [1, 1, 1, 1, 1, 1, 1, 0, 1, 0] = .loop (sub (bodyOf Try.prog 15) [1, 1, 1, 1, 1, 1, 1, 0, 1, 0, 0]) := by kernel_rfl
  unfold cut
  rw [e]
  exact loop_eq (by kernel_rfl) (fun t => (t 1, t 2, t 3, t 4, t 6, t 7, t 8, t 9)) (fun x : (Value × Value × Value × Value × Value × Value × Value × Value) × Heap => Jr15_0 rc md x.1.1 x.1.2.1 x.1.2.2.1 x.1.2.2.2.1 x.1.2.2.2.2.1 x.1.2.2.2.2.2.1 x.1.2.2.2.2.2.2.1 x.1.2.2.2.2.2.2.2 x.2) (fun t h => Jr15_0_at rc md t h) (fun e (s : Value × Value × Value × Value × Value × Value × Value × Value) h => Jk15_0 rc md h0 e s.1 s.2.1 s.2.2.1 s.2.2.2.1 s.2.2.2.2.1 s.2.2.2.2.2.1 s.2.2.2.2.2.2.1 s.2.2.2.2.2.2.2 h) (fun e t h => Jk15_0_at rc md h0 e t h) t h
noncomputable def F15 (rc : Rec) (md : Md) (a0_0 : Int) (a0_1 : Int) (a0_2 : Int) (a0_3 : Value) (a0_4 : Value) (h0 : Heap) : Option (Value × Heap) :=
  let h1 : Heap := h0 ++ [.own [(.int .i64 a0_0), (.int .i64 a0_1), (.int .i64 a0_2), a0_3, a0_4]]
  ldN 3 (.pointer (some ⟨h0.length, 0, none⟩)) h1 fun v2 =>
  let h3 : Heap := h1 ++ [.own [(.int .i64 0), (.int .i64 0), (.int .i64 0)]]
  st md 3 (.pointer (some ⟨h1.length, 0, none⟩)) v2 h3 fun h4 =>
  ldN 3 (.pointer (some ⟨h1.length, 0, none⟩)) h4 fun v5 =>
  cl (rc md 52 [v5] h4) fun v6 h7 =>
  cIn .i64 v6 fun n8 =>
  cl (rc md 51 [(.int .i64 n8)] h7) fun v9 h10 =>
  exT v9 0 fun v11 =>
  exT v9 1 fun v12 =>
  cIn .i64 v12 fun n13 =>
  (bif wantV (.bool (n13 != 0)) false then
  some (v11, h10)
  else some (undef, h10)).bind fun p14 =>
  (bif wantV (.bool (n13 != 0)) false then
  aBin Try.prog .eql 36 p14.1 (.pointer none) fun v15 =>
  some (v15, p14.2)
  else some (undef, p14.2)).bind fun p16 =>
  cBn (bif (n13 != 0) then (.bool true) else p16.1) fun b17 =>
  bif b17 then
    some ((.pointer none), p16.2)
  else
    ldN 3 (.pointer (some ⟨h1.length, 0, none⟩)) p16.2 fun v18 =>
    ldN 3 (.pointer (some ⟨h1.length, 0, none⟩)) p16.2 fun v19 =>
    cl (rc md 53 [v11] p16.2) fun v20 h21 =>
    aBuild Try.prog 42 [(0, v19), (1, (.iface 101 v20)), (2, (.agg #[(.int .i64 1), (.int .i64 0)]))] fun v22 =>
    aBuild Try.prog 49 [(0, v18), (1, v11), (2, v22)] fun v23 =>
    let h24 : Heap := h21 ++ [.own v23.cells.toList]
    ldN 3 (.pointer (some ⟨h1.length, 0, none⟩)) h24 fun v25 =>
    cl (rc md 48 [v25] h24) fun v26 h27 =>
    cIn .i64 v26 fun n28 =>
    aMakeSlice Try.prog 24 (.int .i64 (IntKind.wrap .i64 (n28 + 1))) (.int .i64 (IntKind.wrap .i64 (n28 + 1))) h27 fun v29 h30 =>
    aMakeSlice Try.prog 44 (.int .i64 (IntKind.wrap .i64 (n28 + 1))) (.int .i64 (IntKind.wrap .i64 (n28 + 1))) h30 fun v31 h32 =>
    aMakeSlice Try.prog 45 (.int .i64 (IntKind.wrap .i64 (n28 + 1))) (.int .i64 (IntKind.wrap .i64 (n28 + 1))) h32 fun v33 h34 =>
    aBuild Try.prog 47 [(1, v29), (2, v31), (3, v33)] fun v35 =>
    let h36 : Heap := h34 ++ [.own [(.slice none 0 0), (.slice none 0 0), (.slice none 0 0), (.slice none 0 0)]]
    st md 4 (.pointer (some ⟨h34.length, 0, none⟩)) v35 h36 fun h37 =>
    J15_0 rc md h0 (.pointer (some ⟨h0.length, 0, none⟩)) (.pointer none) (.pointer (some ⟨h1.length, 0, none⟩)) v11 (.pointer (some ⟨h21.length, 0, none⟩)) (.int .i64 n28) (.pointer (some ⟨h34.length, 0, none⟩)) (.int .i64 1) h37
noncomputable def F15H (rc : Rec) (md : Md) (X0 : T → Heap → Option (Value × Heap)) (a0_0 : Int) (a0_1 : Int) (a0_2 : Int) (a0_3 : Value) (a0_4 : Value) (h0 : Heap) : Option (Value × Heap) :=
  let h1 : Heap := h0 ++ [.own [(.int .i64 a0_0), (.int .i64 a0_1), (.int .i64 a0_2), a0_3, a0_4]]
  ldN 3 (.pointer (some ⟨h0.length, 0, none⟩)) h1 fun v2 =>
  let h3 : Heap := h1 ++ [.own [(.int .i64 0), (.int .i64 0), (.int .i64 0)]]
  st md 3 (.pointer (some ⟨h1.length, 0, none⟩)) v2 h3 fun h4 =>
  ldN 3 (.pointer (some ⟨h1.length, 0, none⟩)) h4 fun v5 =>
  cl (rc md 52 [v5] h4) fun v6 h7 =>
  cIn .i64 v6 fun n8 =>
  cl (rc md 51 [(.int .i64 n8)] h7) fun v9 h10 =>
  exT v9 0 fun v11 =>
  exT v9 1 fun v12 =>
  cIn .i64 v12 fun n13 =>
  (bif wantV (.bool (n13 != 0)) false then
  some (v11, h10)
  else some (undef, h10)).bind fun p14 =>
  (bif wantV (.bool (n13 != 0)) false then
  aBin Try.prog .eql 36 p14.1 (.pointer none) fun v15 =>
  some (v15, p14.2)
  else some (undef, p14.2)).bind fun p16 =>
  cBn (bif (n13 != 0) then (.bool true) else p16.1) fun b17 =>
  bif b17 then
    some ((.pointer none), p16.2)
  else
    ldN 3 (.pointer (some ⟨h1.length, 0, none⟩)) p16.2 fun v18 =>
    ldN 3 (.pointer (some ⟨h1.length, 0, none⟩)) p16.2 fun v19 =>
    cl (rc md 53 [v11] p16.2) fun v20 h21 =>
    aBuild Try.prog 42 [(0, v19), (1, (.iface 101 v20)), (2, (.agg #[(.int .i64 1), (.int .i64 0)]))] fun v22 =>
    aBuild Try.prog 49 [(0, v18), (1, v11), (2, v22)] fun v23 =>
    let h24 : Heap := h21 ++ [.own v23.cells.toList]
    ldN 3 (.pointer (some ⟨h1.length, 0, none⟩)) h24 fun v25 =>
    cl (rc md 48 [v25] h24) fun v26 h27 =>
    cIn .i64 v26 fun n28 =>
    aMakeSlice Try.prog 24 (.int .i64 (IntKind.wrap .i64 (n28 + 1))) (.int .i64 (IntKind.wrap .i64 (n28 + 1))) h27 fun v29 h30 =>
    aMakeSlice Try.prog 44 (.int .i64 (IntKind.wrap .i64 (n28 + 1))) (.int .i64 (IntKind.wrap .i64 (n28 + 1))) h30 fun v31 h32 =>
    aMakeSlice Try.prog 45 (.int .i64 (IntKind.wrap .i64 (n28 + 1))) (.int .i64 (IntKind.wrap .i64 (n28 + 1))) h32 fun v33 h34 =>
    aBuild Try.prog 47 [(1, v29), (2, v31), (3, v33)] fun v35 =>
    let h36 : Heap := h34 ++ [.own [(.slice none 0 0), (.slice none 0 0), (.slice none 0 0), (.slice none 0 0)]]
    st md 4 (.pointer (some ⟨h34.length, 0, none⟩)) v35 h36 fun h37 =>
    X0 (upd (upd (upd (upd (upd (upd (upd (upd (upd (upd (upd (upd (upd (upd (upd (upd (upd (upd (upd (upd (upd (upd (upd (upd (upd (upd (upd (upd (upd (upd (upd (upd (upd (upd (upd (upd (upd (upd (upd (upd (upd (upd (upd (upd (upd (args0 [(.agg #[(.int .i64 a0_0), (.int .i64 a0_1), (.int .i64 a0_2), a0_3, a0_4])]) 1 (.pointer (some ⟨h0.length, 0, none⟩))) 2 (.pointer none)) 12 (.pointer (some ⟨h0.length, 0, none⟩))) 13 v2) 3 (.pointer (some ⟨h1.length, 0, none⟩))) 15 v5) 16 (.int .i64 n8)) 17 v9) 14 v9) 18 v11) 19 (.int .i64 n13)) 4 v11) 5 (.int .i64 n13)) 20 (.int .i64 n13)) 21 (.bool (n13 != 0))) 22 (.bool (n13 != 0))) 23 p14.1) 24 p16.1) 25 (.bool b17)) 26 v18) 27 v11) 28 v19) 29 v11) 30 v20) 31 (.iface 101 v20)) 32 (.agg #[(.int .i64 1), (.int .i64 0)])) 33 v22) 34 v23) 35 (.pointer (some ⟨h21.length, 0, none⟩))) 6 (.pointer (some ⟨h21.length, 0, none⟩))) 36 v25) 37 (.int .i64 n28)) 7 (.int .i64 n28)) 38 (.int .i64 n28)) 39 (.int .i64 (IntKind.wrap .i64 (n28 + 1)))) 40 v29) 41 (.int .i64 n28)) 42 (.int .i64 (IntKind.wrap .i64 (n28 + 1)))) 43 v31) 44 (.int .i64 n28)) 45 (.int .i64 (IntKind.wrap .i64 (n28 + 1)))) 46 v33) 47 v35) 8 (.pointer (some ⟨h34.length, 0, none⟩))) 9 (.int .i64 1)) h37
theorem F15_h0 (rc : Rec) (md : Md) (a0_0 : Int) (a0_1 : Int) (a0_2 : Int) (a0_3 : Value) (a0_4 : Value) (h0 : Heap) : callStep0 Try.prog cfg rc md 15 [(.agg #[(.int .i64 a0_0), (.int .i64 a0_1), (.int .i64 a0_2), a0_3, a0_4])] h0 = exec Try.prog cfg rc md 111 (bodyOf Try.prog 15) (retK Try.prog cfg 15 (rsOf Try.prog 15) h0) (args0 [(.agg #[(.int .i64 a0_0), (.int .i64 a0_1), (.int .i64 a0_2), a0_3, a0_4])]) h0 := callStep0_run (by kernel_rfl) (by kernel_rfl) (by kernel_rfl)
theorem F15_h1 (rc : Rec) (md : Md) (X : Nat → T → Heap → Option (Value × Heap)) (a0_0 : Int) (a0_1 : Int) (a0_2 : Int) (a0_3 : Value) (a0_4 : Value) (h0 : Heap) : execG Try.prog cfg X rc md 111 (replS (bodyOf Try.prog 15) [([1, 1, 1, 1, 1, 1, 1, 0, 1, 0], 0), ([1, 1, 1, 1, 1, 1, 1, 1], 1)]) (retK Try.prog cfg 15 (rsOf Try.prog 15) h0) (args0 [(.agg #[(.int .i64 a0_0), (.int .i64 a0_1), (.int .i64 a0_2), a0_3, a0_4])]) h0 = F15H rc md (X 0) a0_0 a0_1 a0_2 a0_3 a0_4 h0 := by kernel_rfl
theorem F15_h2 (rc : Rec) (md : Md) (a0_0 : Int) (a0_1 : Int) (a0_2 : Int) (a0_3 : Value) (a0_4 : Value) (h0 : Heap) : F15H rc md (fun t h => J15_0 rc md h0 (t 1) (t 2) (t 3) (t 4) (t 6) (t 7) (t 8) (t 9) h) a0_0 a0_1 a0_2 a0_3 a0_4 h0 = F15 rc md a0_0 a0_1 a0_2 a0_3 a0_4 h0 := by unfold F15H F15; kernel_rfl
theorem F15_eq0 (rc : Rec) (md : Md) (a0_0 : Int) (a0_1 : Int) (a0_2 : Int) (a0_3 : Value) (a0_4 : Value) (h0 : Heap) : callStep0 Try.prog cfg rc md 15 [(.agg #[(.int .i64 a0_0), (.int .i64 a0_1), (.int .i64 a0_2), a0_3, a0_4])] h0 = F15 rc md a0_0 a0_1 a0_2 a0_3 a0_4 h0 := by
  rw [F15_h0, exec_holes [([1, 1, 1, 1, 1, 1, 1, 0, 1, 0], 0), ([1, 1, 1, 1, 1, 1, 1, 1], 1)] (by kernel_rfl), F15_h1, show (goX Try.prog cfg rc md 111 (bodyOf Try.prog 15) [([1, 1, 1, 1, 1, 1, 1, 0, 1, 0], 0), ([1, 1, 1, 1, 1, 1, 1, 1], 1)] (retK Try.prog cfg 15 (rsOf Try.prog 15) h0)) 0 = _ from J15_0_cut rc md h0]
  exact F15_h2 rc _ a0_0 a0_1 a0_2 a0_3 a0_4 h0
theorem F15_eq (rc : Rec) (md : Md) (a0_0 : Int) (a0_1 : Int) (a0_2 : Int) (a0_3 : Value) (a0_4 : Value) (h0 : Heap) : callStep Try.prog cfg rc md 15 [(.agg #[(.int .i64 a0_0), (.int .i64 a0_1), (.int .i64 a0_2), a0_3, a0_4])] h0 = F15 rc md a0_0 a0_1 a0_2 a0_3 a0_4 h0 := (callStep_ne (by kernel_rfl)).trans (F15_eq0 rc md a0_0 a0_1 a0_2 a0_3 a0_4 h0)

/-- (*tombolo/tombololaw09.play).is -/
noncomputable def Jk16_0 (rc : Rec) (md : Md) (h0 : Heap) (e : Exit) (s0 : Value) (s2 : Value) (s15 : Value) (s16 : Value) (s17 : Value) (h : Heap) : Option (Value × Heap) :=
  match e with
  | .normal =>
    some ((.bool true), List.take h0.length h)
  | .exit j =>
    bif Nat.beq j 0 then
      some ((.bool true), List.take h0.length h)
    else
      none
  | .ret =>
    fin1 h0 s2 h
  | .goto l => none
  | .panic ps => none
  | .outgrown => none
theorem Jk16_0_at (rc : Rec) (md : Md) (h0 : Heap) (e : Exit) (t : T) (h : Heap) : kAt Try.prog cfg rc md 93 (bodyOf Try.prog 16) [1, 0, 1, 0] (retK Try.prog cfg 16 (rsOf Try.prog 16) h0) e t h = Jk16_0 rc md h0 e (t 0) (t 2) (t 15) (t 16) (t 17) h := by cases e <;> kernel_rfl
/-- a round -/
noncomputable def Jr16_0 (rc : Rec) (md : Md) (s0 : Value) (s2 : Value) (s15 : Value) (s16 : Value) (s17 : Value) (h : Heap) : Option (((Value × Value × Value × Value × Value) × Heap) ⊕ (Exit × (Value × Value × Value × Value × Value) × Heap)) :=
  aBin Try.prog .lss 3 s17 s16 fun v1 =>
  cBn v1 fun b2 =>
  bif b2 then
    ixSV 7 s15 s17 fun v3 =>
    ldN 7 v3 h fun v4 =>
    let h5 : Heap := h ++ [.own [(.int .i64 0), (.int .i64 0), (.int .i64 0), (.int .i64 0), (.int .i64 0), (.int .i64 0), (.int .i64 0)]]
    st md 7 (.pointer (some ⟨h.length, 0, none⟩)) v4 h5 fun h6 =>
    aBin Try.prog .eql 3 s17 (.int .i64 0) fun v7 =>
    cBn v7 fun b8 =>
    bif b8 then
      aBin Try.prog .add 3 s17 (.int .i64 1) fun v9 =>
      some (.inl ((s0, s2, s15, s16, v9), h6))
    else
      bif okNil Try.prog s0 then
      fA 3 s0 fun v10 =>
      ld1 v10 h6 fun v11 =>
      bif okNil Try.prog s0 then
      fA 0 s0 fun v12 =>
      ldN 3 v12 h6 fun v13 =>
      cl (rc md 55 [v13, s17, (.int .i64 3)] h6) fun v14 h15 =>
      cIn .i64 v14 fun n16 =>
      cl (rc md 57 [v11, (.int .i64 n16)] h15) fun v17 h18 =>
      exT v17 0 fun v19 =>
      cIn .u64 v19 fun n20 =>
      exT v17 1 fun v21 =>
      cIn .i64 v21 fun n22 =>
      bif okNil Try.prog s0 then
      fA 3 s0 fun v23 =>
      ld1 v23 h18 fun v24 =>
      bif okNil Try.prog s0 then
      fA 0 s0 fun v25 =>
      ldN 3 v25 h18 fun v26 =>
      cl (rc md 55 [v26, s17, (.int .i64 4)] h18) fun v27 h28 =>
      cIn .i64 v27 fun n29 =>
      cl (rc md 57 [v24, (.int .i64 n29)] h28) fun v30 h31 =>
      exT v30 0 fun v32 =>
      cIn .u64 v32 fun n33 =>
      exT v30 1 fun v34 =>
      cIn .i64 v34 fun n35 =>
      bif okNil Try.prog s0 then
      fA 3 s0 fun v36 =>
      ld1 v36 h31 fun v37 =>
      bif okNil Try.prog s0 then
      fA 0 s0 fun v38 =>
      ldN 3 v38 h31 fun v39 =>
      cl (rc md 55 [v39, s17, (.int .i64 6)] h31) fun v40 h41 =>
      cIn .i64 v40 fun n42 =>
      cl (rc md 57 [v37, (.int .i64 n42)] h41) fun v43 h44 =>
      exT v43 0 fun v45 =>
      cIn .u64 v45 fun n46 =>
      exT v43 1 fun v47 =>
      cIn .i64 v47 fun n48 =>
      ld1 (.pointer (some ⟨h.length, 1, none⟩)) h44 fun v49 =>
      cIn .i64 v49 fun n50 =>
      (bif wantV (.bool ((IntKind.wrap .i64 n20) != n50)) false then
      some ((.int .u64 n33), h44)
      else some (undef, h44)).bind fun p51 =>
      (bif wantV (.bool ((IntKind.wrap .i64 n20) != n50)) false then
      aConv Try.prog 103 3 p51.1 fun v52 =>
      some (v52, p51.2)
      else some (undef, p51.2)).bind fun p53 =>
      (bif wantV (.bool ((IntKind.wrap .i64 n20) != n50)) false then
      some ((.pointer (some ⟨h.length, 2, none⟩)), p53.2)
      else some (undef, p53.2)).bind fun p54 =>
      (bif wantV (.bool ((IntKind.wrap .i64 n20) != n50)) false then
      ld1 p54.1 p54.2 fun v55 =>
      cIn .i64 v55 fun n56 =>
      some ((.int .i64 n56), p54.2)
      else some (undef, p54.2)).bind fun p57 =>
      (bif wantV (.bool ((IntKind.wrap .i64 n20) != n50)) false then
      aBin Try.prog .neq 3 p53.1 p57.1 fun v58 =>
      some (v58, p57.2)
      else some (undef, p57.2)).bind fun p59 =>
      cBn (bif ((IntKind.wrap .i64 n20) != n50) then (.bool true) else p59.1) fun b60 =>
      (bif wantV (.bool b60) false then
      some (s0, p59.2)
      else some (undef, p59.2)).bind fun p61 =>
      (bif wantV (.bool b60) false then
      some (s17, p61.2)
      else some (undef, p61.2)).bind fun p62 =>
      (bif wantV (.bool b60) false then
      cl (rc md 58 [p61.1, p62.1] p62.2) fun v63 h64 =>
      cIn .i64 v63 fun n65 =>
      some ((.int .i64 n65), h64)
      else some (undef, p62.2)).bind fun p66 =>
      (bif wantV (.bool b60) false then
      some ((.pointer (some ⟨h.length, 0, none⟩)), p66.2)
      else some (undef, p66.2)).bind fun p67 =>
      (bif wantV (.bool b60) false then
      ld1 p67.1 p67.2 fun v68 =>
      cIn .i64 v68 fun n69 =>
      some ((.int .i64 n69), p67.2)
      else some (undef, p67.2)).bind fun p70 =>
      cLE (wantV (.bool b60) false) (fun hq => ld1 p67.1 hq some) p70.1 p62.2 p66.2 <|
      (bif wantV (.bool b60) false then
      aBin Try.prog .neq 3 p66.1 p70.1 fun v71 =>
      some (v71, p70.2)
      else some (undef, p70.2)).bind fun p72 =>
      cBn (bif b60 then (.bool true) else p72.1) fun b73 =>
      (bif wantV (.bool b73) false then
      some ((.int .u64 n46), p72.2)
      else some (undef, p72.2)).bind fun p74 =>
      (bif wantV (.bool b73) false then
      ldN 7 (.pointer (some ⟨h.length, 0, none⟩)) p74.2 fun v75 =>
      some (v75, p74.2)
      else some (undef, p74.2)).bind fun p76 =>
      (bif wantV (.bool b73) false then
      cl (rc md 59 [p76.1] p76.2) fun v77 h78 =>
      cIn .u64 v77 fun n79 =>
      some ((.int .u64 n79), h78)
      else some (undef, p76.2)).bind fun p80 =>
      (bif wantV (.bool b73) false then
      aBin Try.prog .neq 103 p74.1 p80.1 fun v81 =>
      some (v81, p80.2)
      else some (undef, p80.2)).bind fun p82 =>
      cBn (bif b73 then (.bool true) else p82.1) fun b83 =>
      bif b83 then
        some (.inr (.ret, (s0, (.bool false), s15, s16, s17), p82.2))
      else
        aBin Try.prog .add 3 s17 (.int .i64 1) fun v84 =>
        some (.inl ((s0, s2, s15, s16, v84), p82.2))
      else none
      else none
      else none
      else none
      else none
      else none
  else
    some (.inr ((.exit 0), (s0, s2, s15, s16, s17), h))
theorem Jr16_0_at (rc : Rec) (md : Md) (t : T) (h : Heap) : exec Try.prog cfg rc md 93 (sub (bodyOf Try.prog 16) [1, 0, 1, 0, 0]) (rndK (fun t => (t 0, t 2, t 15, t 16, t 17))) t h = Jr16_0 rc md (t 0) (t 2) (t 15) (t 16) (t 17) h := by kernel_rfl
noncomputable def J16_0 (rc : Rec) (md : Md) (h0 : Heap) (s0 : Value) (s2 : Value) (s15 : Value) (s16 : Value) (s17 : Value) (h : Heap) : Option (Value × Heap) :=
  runL (fun x : (Value × Value × Value × Value × Value) × Heap => Jr16_0 rc md x.1.1 x.1.2.1 x.1.2.2.1 x.1.2.2.2.1 x.1.2.2.2.2 x.2) (fun e (s : Value × Value × Value × Value × Value) h => Jk16_0 rc md h0 e s.1 s.2.1 s.2.2.1 s.2.2.2.1 s.2.2.2.2 h) (s0, s2, s15, s16, s17) h
theorem J16_0_step (rc : Rec) (md : Md) (h0 : Heap) (s0 : Value) (s2 : Value) (s15 : Value) (s16 : Value) (s17 : Value) (h : Heap) : J16_0 rc md h0 s0 s2 s15 s16 s17 h = (Jr16_0 rc md s0 s2 s15 s16 s17 h).bind fun x => match x with
    | .inl (s, h) => J16_0 rc md h0 s.1 s.2.1 s.2.2.1 s.2.2.2.1 s.2.2.2.2 h
    | .inr (e, s, h) => Jk16_0 rc md h0 e s.1 s.2.1 s.2.2.1 s.2.2.2.1 s.2.2.2.2 h := by
  unfold J16_0
  rw [runL_eq]
  refine congrArg (Option.bind _) (funext fun x => ?_)
  rcases x with ⟨s, h⟩ | ⟨e, s, h⟩ <;> rfl
theorem J16_0_cut (rc : Rec) (md : Md) (h0 : Heap) : cut Try.prog cfg rc md 93 (bodyOf Try.prog 16) [1, 0, 1, 0] (retK Try.prog cfg 16 (rsOf Try.prog 16) h0) = fun t h => J16_0 rc md h0 (t 0) (t 2) (t 15) (t 16) (t 17) h := by
  funext t h
  have e : sub (bodyOf Try.prog 16) [1, 0, 1, 0] = .loop (sub (bodyOf Try.prog 16) [1, 0, 1, 0, 0]) := by kernel_rfl
  unfold cut
  rw [e]
  exact loop_eq (by kernel_rfl) (fun t => (t 0, t 2, t 15, t 16, t 17)) (fun x : (Value × Value × Value × Value × Value) × Heap => Jr16_0 rc md x.1.1 x.1.2.1 x.1.2.2.1 x.1.2.2.2.1 x.1.2.2.2.2 x.2) (fun t h => Jr16_0_at rc md t h) (fun e (s : Value × Value × Value × Value × Value) h => Jk16_0 rc md h0 e s.1 s.2.1 s.2.2.1 s.2.2.2.1 s.2.2.2.2 h) (fun e t h => Jk16_0_at rc md h0 e t h) t h
noncomputable def F16 (rc : Rec) (md : Md) (a0 : Value) (h0 : Heap) : Option (Value × Heap) :=
  bif okNil Try.prog a0 then
  fA 10 a0 fun v1 =>
  ldN 4 v1 h0 fun v2 =>
  cl (rc md 18 [v2] h0) fun v3 h4 =>
  lenS v3 fun v5 =>
  cIn .i64 v5 fun n6 =>
  J16_0 rc md h0 a0 (.bool false) v3 (.int .i64 n6) (.int .i64 0) h4
  else none
noncomputable def F16H (rc : Rec) (md : Md) (X0 : T → Heap → Option (Value × Heap)) (a0 : Value) (h0 : Heap) : Option (Value × Heap) :=
  bif okNil Try.prog a0 then
  fA 10 a0 fun v1 =>
  ldN 4 v1 h0 fun v2 =>
  cl (rc md 18 [v2] h0) fun v3 h4 =>
  lenS v3 fun v5 =>
  cIn .i64 v5 fun n6 =>
  X0 (upd (upd (upd (upd (upd (upd (upd (upd (args0 [a0]) 2 (.bool false)) 11 a0) 12 a0) 13 v1) 14 v2) 15 v3) 16 (.int .i64 n6)) 17 (.int .i64 0)) h4
  else none
theorem F16_h0 (rc : Rec) (md : Md) (a0 : Value) (h0 : Heap) : callStep0 Try.prog cfg rc md 16 [a0] h0 = exec Try.prog cfg rc ⟨md.ro, h0.length⟩ 93 (bodyOf Try.prog 16) (retK Try.prog cfg 16 (rsOf Try.prog 16) h0) (args0 [a0]) h0 := callStep0_run (by kernel_rfl) (by kernel_rfl) (by kernel_rfl)
theorem F16_h1 (rc : Rec) (md : Md) (X : Nat → T → Heap → Option (Value × Heap)) (a0 : Value) (h0 : Heap) : execG Try.prog cfg X rc md 93 (replS (bodyOf Try.prog 16) [([1, 0, 1, 0], 0)]) (retK Try.prog cfg 16 (rsOf Try.prog 16) h0) (args0 [a0]) h0 = F16H rc md (X 0) a0 h0 := by kernel_rfl
theorem F16_h2 (rc : Rec) (md : Md) (a0 : Value) (h0 : Heap) : F16H rc md (fun t h => J16_0 rc md h0 (t 0) (t 2) (t 15) (t 16) (t 17) h) a0 h0 = F16 rc md a0 h0 := by unfold F16H F16; kernel_rfl
theorem F16_eq0 (rc : Rec) (md : Md) (a0 : Value) (h0 : Heap) : callStep0 Try.prog cfg rc md 16 [a0] h0 = F16 rc ⟨md.ro, h0.length⟩ a0 h0 := by
  rw [F16_h0, exec_holes [([1, 0, 1, 0], 0)] (by kernel_rfl), F16_h1, show (goX Try.prog cfg rc ⟨md.ro, h0.length⟩ 93 (bodyOf Try.prog 16) [([1, 0, 1, 0], 0)] (retK Try.prog cfg 16 (rsOf Try.prog 16) h0)) 0 = _ from J16_0_cut rc ⟨md.ro, h0.length⟩ h0]
  exact F16_h2 rc _ a0 h0
theorem F16_eq (rc : Rec) (md : Md) (a0 : Value) (h0 : Heap) : callStep Try.prog cfg rc md 16 [a0] h0 = F16 rc ⟨md.ro, h0.length⟩ a0 h0 := (callStep_ne (by kernel_rfl)).trans (F16_eq0 rc md a0 h0)

/-- (*tombolo/tombololaw09.play).step -/
noncomputable def J17_1 (rc : Rec) (md : Md) (h0 : Heap) (s0 : Value) (s11 : Value) (s12 : Value) (s13 : Value) (s14 : Value) (h : Heap) : Option (Value × Heap) :=
  bif okNil Try.prog s0 then
  fA 10 s0 fun v1 =>
  ldN 4 v1 h fun v2 =>
  aSlice Try.prog 44 s11 none (some s12) none fun v3 =>
  cl (rc md 19 [v2, v3] h) fun v4 h5 =>
  cIn .i64 v4 fun n6 =>
  aBin Try.prog .eql 3 s13 (.int .i64 n6) fun v7 =>
  (bif wantV v7 true then
  some (s14, h5)
  else some (undef, h5)).bind fun p8 =>
  (bif wantV v7 true then
  some (s0, p8.2)
  else some (undef, p8.2)).bind fun p9 =>
  (bif wantV v7 true then
  bif okNil Try.prog p9.1 then
  some (p9.1, p9.2)
  else none
  else some (undef, p9.2)).bind fun p10 =>
  (bif wantV v7 true then
  fA 10 p10.1 fun v11 =>
  some (v11, p10.2)
  else some (undef, p10.2)).bind fun p12 =>
  (bif wantV v7 true then
  ldN 4 p12.1 p12.2 fun v13 =>
  some (v13, p12.2)
  else some (undef, p12.2)).bind fun p14 =>
  (bif wantV v7 true then
  some (s11, p14.2)
  else some (undef, p14.2)).bind fun p15 =>
  (bif wantV v7 true then
  some (s12, p15.2)
  else some (undef, p15.2)).bind fun p16 =>
  (bif wantV v7 true then
  aSlice Try.prog 44 p15.1 (some p16.1) none none fun v17 =>
  some (v17, p16.2)
  else some (undef, p16.2)).bind fun p18 =>
  (bif wantV v7 true then
  cl (rc md 19 [p14.1, p18.1] p18.2) fun v19 h20 =>
  cIn .i64 v19 fun n21 =>
  some ((.int .i64 n21), h20)
  else some (undef, p18.2)).bind fun p22 =>
  (bif wantV v7 true then
  aBin Try.prog .eql 3 p8.1 p22.1 fun v23 =>
  some (v23, p22.2)
  else some (undef, p22.2)).bind fun p24 =>
  cBn v7 fun q25 =>
  cBn (bif q25 then p24.1 else (.bool false)) fun b26 =>
  some ((.bool b26), p24.2)
  else none
theorem J17_1_at (rc : Rec) (md : Md) (h0 : Heap) (t : T) (h : Heap) : cut Try.prog cfg rc md 247 (bodyOf Try.prog 17) [1, 1, 0, 1, 0, 1, 1, 1, 0, 1, 1, 1, 1, 1, 1] (retK Try.prog cfg 17 (rsOf Try.prog 17) h0) t h = J17_1 rc md h0 (t 0) (t 11) (t 12) (t 13) (t 14) h := by kernel_rfl
theorem J17_1_cut (rc : Rec) (md : Md) (h0 : Heap) : cut Try.prog cfg rc md 247 (bodyOf Try.prog 17) [1, 1, 0, 1, 0, 1, 1, 1, 0, 1, 1, 1, 1, 1, 1] (retK Try.prog cfg 17 (rsOf Try.prog 17) h0) = fun t h => J17_1 rc md h0 (t 0) (t 11) (t 12) (t 13) (t 14) h := funext fun t => funext fun h => J17_1_at rc md h0 t h
noncomputable def Jk17_0 (rc : Rec) (md : Md) (h0 : Heap) (e : Exit) (s0 : Value) (s4 : Value) (s11 : Value) (s12 : Value) (s13 : Value) (s14 : Value) (s147 : Value) (s148 : Value) (s149 : Value) (h : Heap) : Option (Value × Heap) :=
  match e with
  | .normal =>
    J17_1 rc md h0 s0 s11 s12 s13 s14 h
  | .exit j =>
    bif Nat.beq j 1 then
      J17_1 rc md h0 s0 s11 s12 s13 s14 h
    else
      bif Nat.beq j 0 then
        some ((.bool true), h)
      else
        none
  | .ret =>
    some (s4, h)
  | .goto l => none
  | .panic ps => none
  | .outgrown => none
noncomputable def Jk17_0H (rc : Rec) (md : Md) (h0 : Heap) (X1 : T → Heap → Option (Value × Heap)) (e : Exit) (t : T) (h : Heap) : Option (Value × Heap) :=
  match e with
  | .normal =>
    X1 t h
  | .exit j =>
    bif Nat.beq j 1 then
      X1 t h
    else
      bif Nat.beq j 0 then
        some ((.bool true), h)
      else
        none
  | .ret =>
    some ((t 4), h)
  | .goto l => none
  | .panic ps => none
  | .outgrown => none
theorem Jk17_0_h1 (rc : Rec) (md : Md) (h0 : Heap) (X : Nat → T → Heap → Option (Value × Heap)) (e : Exit) (t : T) (h : Heap) : kAtG Try.prog cfg X rc md 247 (replS (bodyOf Try.prog 17) [([1, 1, 0, 1, 0, 1, 1, 1, 0, 1, 1, 1, 1, 1, 1], 1)]) [1, 1, 0, 1, 0, 1, 1, 1, 0, 1, 1, 1, 1, 1, 0, 1, 0] (retK Try.prog cfg 17 (rsOf Try.prog 17) h0) e t h = Jk17_0H rc md h0 (X 1) e t h := by cases e <;> kernel_rfl
theorem Jk17_0_h2 (rc : Rec) (md : Md) (h0 : Heap) (e : Exit) (t : T) (h : Heap) : Jk17_0H rc md h0 (fun t h => J17_1 rc md h0 (t 0) (t 11) (t 12) (t 13) (t 14) h) e t h = Jk17_0 rc md h0 e (t 0) (t 4) (t 11) (t 12) (t 13) (t 14) (t 147) (t 148) (t 149) h := by cases e <;> (unfold Jk17_0H Jk17_0; kernel_rfl)
theorem Jk17_0_at (rc : Rec) (md : Md) (h0 : Heap) (e : Exit) (t : T) (h : Heap) : kAt Try.prog cfg rc md 247 (bodyOf Try.prog 17) [1, 1, 0, 1, 0, 1, 1, 1, 0, 1, 1, 1, 1, 1, 0, 1, 0] (retK Try.prog cfg 17 (rsOf Try.prog 17) h0) e t h = Jk17_0 rc md h0 e (t 0) (t 4) (t 11) (t 12) (t 13) (t 14) (t 147) (t 148) (t 149) h := by
  rw [kAt_holes [([1, 1, 0, 1, 0, 1, 1, 1, 0, 1, 1, 1, 1, 1, 1], 1)] [1, 1, 0, 1, 0, 1, 1, 1, 0, 1, 1, 1, 1, 1, 0, 1, 0] (by kernel_rfl), Jk17_0_h1, show (goX Try.prog cfg rc md 247 (bodyOf Try.prog 17) [([1, 1, 0, 1, 0, 1, 1, 1, 0, 1, 1, 1, 1, 1, 1], 1)] (retK Try.prog cfg 17 (rsOf Try.prog 17) h0)) 1 = _ from J17_1_cut rc md h0]
  exact Jk17_0_h2 rc md h0 e t h
/-- a round -/
noncomputable def Jr17_0 (rc : Rec) (md : Md) (s0 : Value) (s4 : Value) (s11 : Value) (s12 : Value) (s13 : Value) (s14 : Value) (s147 : Value) (s148 : Value) (s149 : Value) (h : Heap) : Option (((Value × Value × Value × Value × Value × Value × Value × Value × Value) × Heap) ⊕ (Exit × (Value × Value × Value × Value × Value × Value × Value × Value × Value) × Heap)) :=
  aBin Try.prog .lss 3 s149 s148 fun v1 =>
  cBn v1 fun b2 =>
  bif b2 then
    ixSV 1 s147 s149 fun v3 =>
    ld1 v3 h fun v4 =>
    lenS v4 fun v5 =>
    cIn .i64 v5 fun n6 =>
    bif (decide (n6 > 0)) then
      bif okNil Try.prog s0 then
      fA 10 s0 fun v7 =>
      fA 0 v7 fun v8 =>
      ld1 v8 h fun v9 =>
      aBuildSlice Try.prog 43 1 [(0, v4)] h fun v10 h11 =>
      aBuiltin Try.prog md .append #[43, 43] [v9, v10] h11 fun v12 h13 =>
      bif okNil Try.prog s0 then
      fA 10 s0 fun v14 =>
      fA 0 v14 fun v15 =>
      st md 1 v15 v12 h13 fun h16 =>
      aBin Try.prog .add 3 s149 (.int .i64 1) fun v17 =>
      some (.inl ((s0, s4, s11, s12, s13, s14, s147, s148, v17), h16))
      else none
      else none
    else
      aBin Try.prog .add 3 s149 (.int .i64 1) fun v18 =>
      some (.inl ((s0, s4, s11, s12, s13, s14, s147, s148, v18), h))
  else
    some (.inr ((.exit 1), (s0, s4, s11, s12, s13, s14, s147, s148, s149), h))
theorem Jr17_0_at (rc : Rec) (md : Md) (t : T) (h : Heap) : exec Try.prog cfg rc md 247 (sub (bodyOf Try.prog 17) [1, 1, 0, 1, 0, 1, 1, 1, 0, 1, 1, 1, 1, 1, 0, 1, 0, 0]) (rndK (fun t => (t 0, t 4, t 11, t 12, t 13, t 14, t 147, t 148, t 149))) t h = Jr17_0 rc md (t 0) (t 4) (t 11) (t 12) (t 13) (t 14) (t 147) (t 148) (t 149) h := by kernel_rfl
noncomputable def J17_0 (rc : Rec) (md : Md) (h0 : Heap) (s0 : Value) (s4 : Value) (s11 : Value) (s12 : Value) (s13 : Value) (s14 : Value) (s147 : Value) (s148 : Value) (s149 : Value) (h : Heap) : Option (Value × Heap) :=
  runL (fun x : (Value × Value × Value × Value × Value × Value × Value × Value × Value) × Heap => Jr17_0 rc md x.1.1 x.1.2.1 x.1.2.2.1 x.1.2.2.2.1 x.1.2.2.2.2.1 x.1.2.2.2.2.2.1 x.1.2.2.2.2.2.2.1 x.1.2.2.2.2.2.2.2.1 x.1.2.2.2.2.2.2.2.2 x.2) (fun e (s : Value × Value × Value × Value × Value × Value × Value × Value × Value) h => Jk17_0 rc md h0 e s.1 s.2.1 s.2.2.1 s.2.2.2.1 s.2.2.2.2.1 s.2.2.2.2.2.1 s.2.2.2.2.2.2.1 s.2.2.2.2.2.2.2.1 s.2.2.2.2.2.2.2.2 h) (s0, s4, s11, s12, s13, s14, s147, s148, s149) h
theorem J17_0_step (rc : Rec) (md : Md) (h0 : Heap) (s0 : Value) (s4 : Value) (s11 : Value) (s12 : Value) (s13 : Value) (s14 : Value) (s147 : Value) (s148 : Value) (s149 : Value) (h : Heap) : J17_0 rc md h0 s0 s4 s11 s12 s13 s14 s147 s148 s149 h = (Jr17_0 rc md s0 s4 s11 s12 s13 s14 s147 s148 s149 h).bind fun x => match x with
    | .inl (s, h) => J17_0 rc md h0 s.1 s.2.1 s.2.2.1 s.2.2.2.1 s.2.2.2.2.1 s.2.2.2.2.2.1 s.2.2.2.2.2.2.1 s.2.2.2.2.2.2.2.1 s.2.2.2.2.2.2.2.2 h
    | .inr (e, s, h) => Jk17_0 rc md h0 e s.1 s.2.1 s.2.2.1 s.2.2.2.1 s.2.2.2.2.1 s.2.2.2.2.2.1 s.2.2.2.2.2.2.1 s.2.2.2.2.2.2.2.1 s.2.2.2.2.2.2.2.2 h := by
  unfold J17_0
  rw [runL_eq]
  refine congrArg (Option.bind _) (funext fun x => ?_)
  rcases x with ⟨s, h⟩ | ⟨e, s, h⟩ <;> rfl
theorem J17_0_cut (rc : Rec) (md : Md) (h0 : Heap) : cut Try.prog cfg rc md 247 (bodyOf Try.prog 17) [1, 1, 0, 1, 0, 1, 1, 1, 0, 1, 1, 1, 1, 1, 0, 1, 0] (retK Try.prog cfg 17 (rsOf Try.prog 17) h0) = fun t h => J17_0 rc md h0 (t 0) (t 4) (t 11) (t 12) (t 13) (t 14) (t 147) (t 148) (t 149) h := by
  funext t h
  have e : sub (bodyOf Try.prog 17) [1, 1, 0, 1, 0, 1, 1, 1, 0, 1, 1, 1, 1, 1, 0, 1, 0] = .loop (sub (bodyOf Try.prog 17) [1, 1, 0, 1, 0, 1, 1, 1, 0, 1, 1, 1, 1, 1, 0, 1, 0, 0]) := by kernel_rfl
  unfold cut
  rw [e]
  exact loop_eq (by kernel_rfl) (fun t => (t 0, t 4, t 11, t 12, t 13, t 14, t 147, t 148, t 149)) (fun x : (Value × Value × Value × Value × Value × Value × Value × Value × Value) × Heap => Jr17_0 rc md x.1.1 x.1.2.1 x.1.2.2.1 x.1.2.2.2.1 x.1.2.2.2.2.1 x.1.2.2.2.2.2.1 x.1.2.2.2.2.2.2.1 x.1.2.2.2.2.2.2.2.1 x.1.2.2.2.2.2.2.2.2 x.2) (fun t h => Jr17_0_at rc md t h) (fun e (s : Value × Value × Value × Value × Value × Value × Value × Value × Value) h => Jk17_0 rc md h0 e s.1 s.2.1 s.2.2.1 s.2.2.2.1 s.2.2.2.2.1 s.2.2.2.2.2.1 s.2.2.2.2.2.2.1 s.2.2.2.2.2.2.2.1 s.2.2.2.2.2.2.2.2 h) (fun e t h => Jk17_0_at rc md h0 e t h) t h
noncomputable def F17 (rc : Rec) (md : Md) (a0 : Value) (a1_0 : Int) (a1_1 : Int) (a1_2 : Int) (a1_3 : Int) (a1_4 : Bool) (h0 : Heap) : Option (Value × Heap) :=
  let h1 : Heap := h0 ++ [.own [(.int .i64 a1_0), (.int .i64 a1_1), (.int .i64 a1_2), (.int .i64 a1_3), (.bool a1_4)]]
  ld1 (.pointer (some ⟨h0.length, 1, none⟩)) h1 fun v2 =>
  cIn .i64 v2 fun n3 =>
  cl (rc md 27 [a0, (.int .i64 n3)] h1) fun v4 h5 =>
  cIn .i64 v4 fun n6 =>
  ld1 (.pointer (some ⟨h0.length, 2, none⟩)) h5 fun v7 =>
  cIn .i64 v7 fun n8 =>
  cl (rc md 27 [a0, (.int .i64 n8)] h5) fun v9 h10 =>
  cIn .i64 v9 fun n11 =>
  ld1 (.pointer (some ⟨h0.length, 0, none⟩)) h10 fun v12 =>
  cIn .i64 v12 fun n13 =>
  bif (n13 == 1) then
    (bif wantV (.bool (decide (n6 < 0))) false then
    some ((.int .i64 n11), h10)
    else some (undef, h10)).bind fun p14 =>
    (bif wantV (.bool (decide (n6 < 0))) false then
    aBin Try.prog .lss 3 p14.1 (.int .i64 0) fun v15 =>
    some (v15, p14.2)
    else some (undef, p14.2)).bind fun p16 =>
    cBn (bif (decide (n6 < 0)) then (.bool true) else p16.1) fun b17 =>
    (bif wantV (.bool b17) false then
    some ((.int .i64 n6), p16.2)
    else some (undef, p16.2)).bind fun p18 =>
    (bif wantV (.bool b17) false then
    some ((.int .i64 n11), p18.2)
    else some (undef, p18.2)).bind fun p19 =>
    (bif wantV (.bool b17) false then
    aBin Try.prog .eql 3 p18.1 p19.1 fun v20 =>
    some (v20, p19.2)
    else some (undef, p19.2)).bind fun p21 =>
    cBn (bif b17 then (.bool true) else p21.1) fun b22 =>
    bif b22 then
      some ((.bool true), p21.2)
    else
      bif okNil Try.prog a0 then
      fA 10 a0 fun v23 =>
      fA 0 v23 fun v24 =>
      ld1 v24 p21.2 fun v25 =>
      ixS 1 v25 n6 fun v26 =>
      ld1 v26 p21.2 fun v27 =>
      bif okNil Try.prog a0 then
      fA 10 a0 fun v28 =>
      fA 0 v28 fun v29 =>
      ld1 v29 p21.2 fun v30 =>
      ixS 1 v30 n11 fun v31 =>
      ld1 v31 p21.2 fun v32 =>
      let h33 : Heap := p21.2 ++ [.own []]
      aBuiltin Try.prog md .append #[44, 44] [(.slice (some ⟨p21.2.length, 0, none⟩) 0 1), v27] h33 fun v34 h35 =>
      aBuiltin Try.prog md .append #[44, 44] [v34, v32] h35 fun v36 h37 =>
      bif okNil Try.prog a0 then
      fA 4 a0 fun v38 =>
      ldN 6 v38 h37 fun v39 =>
      bif okNil Try.prog a0 then
      fA 10 a0 fun v40 =>
      ldN 4 v40 h37 fun v41 =>
      cl (rc md 19 [v41, v27] h37) fun v42 h43 =>
      cIn .i64 v42 fun n44 =>
      bif okNil Try.prog a0 then
      fA 10 a0 fun v45 =>
      ldN 4 v45 h43 fun v46 =>
      cl (rc md 19 [v46, v32] h43) fun v47 h48 =>
      cIn .i64 v47 fun n49 =>
      cl (rc md 29 [v39, (.int .i64 n44), (.int .i64 n49)] h48) fun v50 h51 =>
      cIn .i64 v50 fun n52 =>
      cl (rc md 60 [a0, (.int .i64 n6), (.int .i64 n11)] h51) fun v53 h54 =>
      aBuildSlice Try.prog 43 1 [(0, v36)] h54 fun v55 h56 =>
      aBuiltin Try.prog md .append #[43, 43] [v53, v55] h56 fun v57 h58 =>
      bif okNil Try.prog a0 then
      fA 10 a0 fun v59 =>
      fA 0 v59 fun v60 =>
      st md 1 v60 v57 h58 fun h61 =>
      bif okNil Try.prog a0 then
      fA 10 a0 fun v62 =>
      ldN 4 v62 h61 fun v63 =>
      cl (rc md 19 [v63, v36] h61) fun v64 h65 =>
      cIn .i64 v64 fun n66 =>
      some ((.bool (n52 == n66)), h65)
      else none
      else none
      else none
      else none
      else none
      else none
      else none
  else
    bif (n13 == 2) then
      bif (decide (n6 < 0)) then
        some ((.bool true), h10)
      else
        bif okNil Try.prog a0 then
        fA 10 a0 fun v67 =>
        fA 0 v67 fun v68 =>
        ld1 v68 h10 fun v69 =>
        ixS 1 v69 n6 fun v70 =>
        ld1 v70 h10 fun v71 =>
        ld1 (.pointer (some ⟨h0.length, 3, none⟩)) h10 fun v72 =>
        cIn .i64 v72 fun n73 =>
        lenS v71 fun v74 =>
        cIn .i64 v74 fun n75 =>
        bif okNil Try.prog a0 then
        fA 4 a0 fun v76 =>
        ldN 6 v76 h10 fun v77 =>
        bif okNil Try.prog a0 then
        fA 10 a0 fun v78 =>
        ldN 4 v78 h10 fun v79 =>
        cl (rc md 19 [v79, v71] h10) fun v80 h81 =>
        cIn .i64 v80 fun n82 =>
        ld1 (.pointer (some ⟨h0.length, 3, none⟩)) h81 fun v83 =>
        cIn .i64 v83 fun n84 =>
        cl (rc md 28 [v77, (.int .i64 n82), (.int .i64 n84)] h81) fun v85 h86 =>
        exT v85 0 fun v87 =>
        cIn .i64 v87 fun n88 =>
        exT v85 1 fun v89 =>
        cIn .i64 v89 fun n90 =>
        cl (rc md 60 [a0, (.int .i64 n6), (.int .i64 n6)] h86) fun v91 h92 =>
        bif okNil Try.prog a0 then
        fA 10 a0 fun v93 =>
        fA 0 v93 fun v94 =>
        st md 1 v94 v91 h92 fun h95 =>
        aSlice Try.prog 44 v71 none (some (.int .i64 (if n75 < (if 0 > n73 then 0 else n73) then n75 else (if 0 > n73 then 0 else n73)))) none fun v96 =>
        aSlice Try.prog 44 v71 (some (.int .i64 (if n75 < (if 0 > n73 then 0 else n73) then n75 else (if 0 > n73 then 0 else n73)))) none none fun v97 =>
        aBuildSlice Try.prog 43 2 [(0, v96), (1, v97)] h95 fun v98 h99 =>
        lenS v98 fun v100 =>
        cIn .i64 v100 fun n101 =>
        J17_0 rc md h0 a0 (.bool false) v71 (.int .i64 (if n75 < (if 0 > n73 then 0 else n73) then n75 else (if 0 > n73 then 0 else n73))) (.int .i64 n88) (.int .i64 n90) v98 (.int .i64 n101) (.int .i64 0) h99
        else none
        else none
        else none
        else none
    else
      bif (n13 == 3) then
        ld1 (.pointer (some ⟨h0.length, 1, none⟩)) h10 fun v102 =>
        cIn .i64 v102 fun n103 =>
        bif okNil Try.prog a0 then
        fA 0 a0 fun v104 =>
        ldN 3 v104 h10 fun v105 =>
        cl (rc md 48 [v105] h10) fun v106 h107 =>
        cIn .i64 v106 fun n108 =>
        divI .rem (if 0 > n103 then 0 else n103) n108 .i64 fun v109 =>
        aBin Try.prog .add 3 (.int .i64 1) v109 fun v110 =>
        ld1 (.pointer (some ⟨h0.length, 3, none⟩)) h107 fun v111 =>
        cIn .i64 v111 fun n112 =>
        bif okNil Try.prog a0 then
        fA 4 a0 fun v113 =>
        ldN 6 v113 h107 fun v114 =>
        ld1 (.pointer (some ⟨h0.length, 4, none⟩)) h107 fun v115 =>
        cBn v115 fun b116 =>
        cl (rc md 30 [v114, v110, (.int .i64 (bAnd .i64 n112 1)), (.bool b116)] h107) fun v117 h118 =>
        bif okNil Try.prog a0 then
        fA 10 a0 fun v119 =>
        fA 2 v119 fun v120 =>
        ld1 v120 h118 fun v121 =>
        bif okNil Try.prog a0 then
        fA 10 a0 fun v122 =>
        fA 2 v122 fun v123 =>
        ld1 v123 h118 fun v124 =>
        ixSV 1 v124 v110 fun v125 =>
        ld1 v125 h118 fun v126 =>
        cIn .i64 v126 fun n127 =>
        shI .shl 1 (bAnd .i64 n112 1) .i64 fun v128 =>
        aBin Try.prog .andNot 3 (.int .i64 n127) v128 fun v130 =>
        ixSV 1 v121 v110 fun v131 =>
        st md 1 v131 v130 h118 fun h132 =>
        ld1 (.pointer (some ⟨h0.length, 4, none⟩)) h132 fun v133 =>
        cBn v133 fun b134 =>
        bif b134 then
          bif okNil Try.prog a0 then
          fA 10 a0 fun v135 =>
          fA 2 v135 fun v136 =>
          ld1 v136 h132 fun v137 =>
          ixSV 1 v137 v110 fun v138 =>
          ld1 v138 h132 fun v139 =>
          cIn .i64 v139 fun n140 =>
          shI .shl 1 (bAnd .i64 n112 1) .i64 fun v141 =>
          aBin Try.prog .or 3 (.int .i64 n140) v141 fun v143 =>
          ixSV 1 v137 v110 fun v144 =>
          st md 1 v144 v143 h132 fun h145 =>
          some ((.bool true), h145)
          else none
        else
          some ((.bool true), h132)
        else none
        else none
        else none
        else none
      else
        some ((.bool true), h10)
noncomputable def F17H (rc : Rec) (md : Md) (X0 : T → Heap → Option (Value × Heap)) (a0 : Value) (a1_0 : Int) (a1_1 : Int) (a1_2 : Int) (a1_3 : Int) (a1_4 : Bool) (h0 : Heap) : Option (Value × Heap) :=
  let h1 : Heap := h0 ++ [.own [(.int .i64 a1_0), (.int .i64 a1_1), (.int .i64 a1_2), (.int .i64 a1_3), (.bool a1_4)]]
  ld1 (.pointer (some ⟨h0.length, 1, none⟩)) h1 fun v2 =>
  cIn .i64 v2 fun n3 =>
  cl (rc md 27 [a0, (.int .i64 n3)] h1) fun v4 h5 =>
  cIn .i64 v4 fun n6 =>
  ld1 (.pointer (some ⟨h0.length, 2, none⟩)) h5 fun v7 =>
  cIn .i64 v7 fun n8 =>
  cl (rc md 27 [a0, (.int .i64 n8)] h5) fun v9 h10 =>
  cIn .i64 v9 fun n11 =>
  ld1 (.pointer (some ⟨h0.length, 0, none⟩)) h10 fun v12 =>
  cIn .i64 v12 fun n13 =>
  bif (n13 == 1) then
    (bif wantV (.bool (decide (n6 < 0))) false then
    some ((.int .i64 n11), h10)
    else some (undef, h10)).bind fun p14 =>
    (bif wantV (.bool (decide (n6 < 0))) false then
    aBin Try.prog .lss 3 p14.1 (.int .i64 0) fun v15 =>
    some (v15, p14.2)
    else some (undef, p14.2)).bind fun p16 =>
    cBn (bif (decide (n6 < 0)) then (.bool true) else p16.1) fun b17 =>
    (bif wantV (.bool b17) false then
    some ((.int .i64 n6), p16.2)
    else some (undef, p16.2)).bind fun p18 =>
    (bif wantV (.bool b17) false then
    some ((.int .i64 n11), p18.2)
    else some (undef, p18.2)).bind fun p19 =>
    (bif wantV (.bool b17) false then
    aBin Try.prog .eql 3 p18.1 p19.1 fun v20 =>
    some (v20, p19.2)
    else some (undef, p19.2)).bind fun p21 =>
    cBn (bif b17 then (.bool true) else p21.1) fun b22 =>
    bif b22 then
      some ((.bool true), p21.2)
    else
      bif okNil Try.prog a0 then
      fA 10 a0 fun v23 =>
      fA 0 v23 fun v24 =>
      ld1 v24 p21.2 fun v25 =>
      ixS 1 v25 n6 fun v26 =>
      ld1 v26 p21.2 fun v27 =>
      bif okNil Try.prog a0 then
      fA 10 a0 fun v28 =>
      fA 0 v28 fun v29 =>
      ld1 v29 p21.2 fun v30 =>
      ixS 1 v30 n11 fun v31 =>
      ld1 v31 p21.2 fun v32 =>
      let h33 : Heap := p21.2 ++ [.own []]
      aBuiltin Try.prog md .append #[44, 44] [(.slice (some ⟨p21.2.length, 0, none⟩) 0 1), v27] h33 fun v34 h35 =>
      aBuiltin Try.prog md .append #[44, 44] [v34, v32] h35 fun v36 h37 =>
      bif okNil Try.prog a0 then
      fA 4 a0 fun v38 =>
      ldN 6 v38 h37 fun v39 =>
      bif okNil Try.prog a0 then
      fA 10 a0 fun v40 =>
      ldN 4 v40 h37 fun v41 =>
      cl (rc md 19 [v41, v27] h37) fun v42 h43 =>
      cIn .i64 v42 fun n44 =>
      bif okNil Try.prog a0 then
      fA 10 a0 fun v45 =>
      ldN 4 v45 h43 fun v46 =>
      cl (rc md 19 [v46, v32] h43) fun v47 h48 =>
      cIn .i64 v47 fun n49 =>
      cl (rc md 29 [v39, (.int .i64 n44), (.int .i64 n49)] h48) fun v50 h51 =>
      cIn .i64 v50 fun n52 =>
      cl (rc md 60 [a0, (.int .i64 n6), (.int .i64 n11)] h51) fun v53 h54 =>
      aBuildSlice Try.prog 43 1 [(0, v36)] h54 fun v55 h56 =>
      aBuiltin Try.prog md .append #[43, 43] [v53, v55] h56 fun v57 h58 =>
      bif okNil Try.prog a0 then
      fA 10 a0 fun v59 =>
      fA 0 v59 fun v60 =>
      st md 1 v60 v57 h58 fun h61 =>
      bif okNil Try.prog a0 then
      fA 10 a0 fun v62 =>
      ldN 4 v62 h61 fun v63 =>
      cl (rc md 19 [v63, v36] h61) fun v64 h65 =>
      cIn .i64 v64 fun n66 =>
      some ((.bool (n52 == n66)), h65)
      else none
      else none
      else none
      else none
      else none
      else none
      else none
  else
    bif (n13 == 2) then
      bif (decide (n6 < 0)) then
        some ((.bool true), h10)
      else
        bif okNil Try.prog a0 then
        fA 10 a0 fun v67 =>
        fA 0 v67 fun v68 =>
        ld1 v68 h10 fun v69 =>
        ixS 1 v69 n6 fun v70 =>
        ld1 v70 h10 fun v71 =>
        ld1 (.pointer (some ⟨h0.length, 3, none⟩)) h10 fun v72 =>
        cIn .i64 v72 fun n73 =>
        lenS v71 fun v74 =>
        cIn .i64 v74 fun n75 =>
        bif okNil Try.prog a0 then
        fA 4 a0 fun v76 =>
        ldN 6 v76 h10 fun v77 =>
        bif okNil Try.prog a0 then
        fA 10 a0 fun v78 =>
        ldN 4 v78 h10 fun v79 =>
        cl (rc md 19 [v79, v71] h10) fun v80 h81 =>
        cIn .i64 v80 fun n82 =>
        ld1 (.pointer (some ⟨h0.length, 3, none⟩)) h81 fun v83 =>
        cIn .i64 v83 fun n84 =>
        cl (rc md 28 [v77, (.int .i64 n82), (.int .i64 n84)] h81) fun v85 h86 =>
        exT v85 0 fun v87 =>
        cIn .i64 v87 fun n88 =>
        exT v85 1 fun v89 =>
        cIn .i64 v89 fun n90 =>
        cl (rc md 60 [a0, (.int .i64 n6), (.int .i64 n6)] h86) fun v91 h92 =>
        bif okNil Try.prog a0 then
        fA 10 a0 fun v93 =>
        fA 0 v93 fun v94 =>
        st md 1 v94 v91 h92 fun h95 =>
        aSlice Try.prog 44 v71 none (some (.int .i64 (if n75 < (if 0 > n73 then 0 else n73) then n75 else (if 0 > n73 then 0 else n73)))) none fun v96 =>
        aSlice Try.prog 44 v71 (some (.int .i64 (if n75 < (if 0 > n73 then 0 else n73) then n75 else (if 0 > n73 then 0 else n73)))) none none fun v97 =>
        aBuildSlice Try.prog 43 2 [(0, v96), (1, v97)] h95 fun v98 h99 =>
        lenS v98 fun v100 =>
        cIn .i64 v100 fun n101 =>
        X0 (upd (upd (upd (upd (upd (upd (upd (upd (upd (upd (upd (upd (upd (upd (upd (upd (upd (upd (upd (upd (upd (upd (upd (upd (upd (upd (upd (upd (upd (upd (upd (upd (upd (upd (upd (upd (upd (upd (upd (upd (upd (upd (upd (upd (upd (upd (upd (upd (upd (upd (upd (upd (upd (upd (upd (upd (upd (upd (upd (upd (upd (upd (upd (upd (upd (upd (upd (upd (upd (upd (upd (args0 [a0, (.agg #[(.int .i64 a1_0), (.int .i64 a1_1), (.int .i64 a1_2), (.int .i64 a1_3), (.bool a1_4)])]) 3 (.pointer (some ⟨h0.length, 0, none⟩))) 4 (.bool false)) 19 a0) 20 (.pointer (some ⟨h0.length, 1, none⟩))) 21 (.int .i64 n3)) 22 (.int .i64 n6)) 23 a0) 24 (.pointer (some ⟨h0.length, 2, none⟩))) 25 (.int .i64 n8)) 26 (.int .i64 n11)) 5 (.int .i64 n6)) 6 (.int .i64 n11)) 27 (.pointer (some ⟨h0.length, 0, none⟩))) 28 (.int .i64 n13)) 30 (.bool (n13 == 1))) 29 (.bool (n13 == 1))) 100 (.bool (n13 == 2))) 99 (.bool (n13 == 2))) 101 (.int .i64 n6)) 102 (.bool (decide (n6 < 0)))) 103 a0) 104 a0) 105 v67) 106 v68) 107 v69) 108 (.int .i64 n6)) 109 v70) 110 v71) 11 v71) 111 (.pointer (some ⟨h0.length, 3, none⟩))) 112 (.int .i64 n73)) 113 (.int .i64 (if 0 > n73 then 0 else n73))) 114 v71) 115 (.int .i64 n75)) 116 (.int .i64 (if n75 < (if 0 > n73 then 0 else n73) then n75 else (if 0 > n73 then 0 else n73)))) 12 (.int .i64 (if n75 < (if 0 > n73 then 0 else n73) then n75 else (if 0 > n73 then 0 else n73)))) 118 a0) 119 a0) 120 v76) 121 v77) 122 a0) 123 a0) 124 v78) 125 v79) 126 v71) 127 (.int .i64 n82)) 128 (.pointer (some ⟨h0.length, 3, none⟩))) 129 (.int .i64 n84)) 130 v85) 117 v85) 131 (.int .i64 n88)) 132 (.int .i64 n90)) 13 (.int .i64 n88)) 14 (.int .i64 n90)) 133 a0) 134 a0) 135 (.int .i64 n6)) 136 (.int .i64 n6)) 137 v91) 138 a0) 139 v93) 140 v94) 141 v71) 142 (.int .i64 (if n75 < (if 0 > n73 then 0 else n73) then n75 else (if 0 > n73 then 0 else n73)))) 143 v96) 144 v71) 145 (.int .i64 (if n75 < (if 0 > n73 then 0 else n73) then n75 else (if 0 > n73 then 0 else n73)))) 146 v97) 147 v98) 148 (.int .i64 n101)) 149 (.int .i64 0)) h99
        else none
        else none
        else none
        else none
    else
      bif (n13 == 3) then
        ld1 (.pointer (some ⟨h0.length, 1, none⟩)) h10 fun v102 =>
        cIn .i64 v102 fun n103 =>
        bif okNil Try.prog a0 then
        fA 0 a0 fun v104 =>
        ldN 3 v104 h10 fun v105 =>
        cl (rc md 48 [v105] h10) fun v106 h107 =>
        cIn .i64 v106 fun n108 =>
        divI .rem (if 0 > n103 then 0 else n103) n108 .i64 fun v109 =>
        aBin Try.prog .add 3 (.int .i64 1) v109 fun v110 =>
        ld1 (.pointer (some ⟨h0.length, 3, none⟩)) h107 fun v111 =>
        cIn .i64 v111 fun n112 =>
        bif okNil Try.prog a0 then
        fA 4 a0 fun v113 =>
        ldN 6 v113 h107 fun v114 =>
        ld1 (.pointer (some ⟨h0.length, 4, none⟩)) h107 fun v115 =>
        cBn v115 fun b116 =>
        cl (rc md 30 [v114, v110, (.int .i64 (bAnd .i64 n112 1)), (.bool b116)] h107) fun v117 h118 =>
        bif okNil Try.prog a0 then
        fA 10 a0 fun v119 =>
        fA 2 v119 fun v120 =>
        ld1 v120 h118 fun v121 =>
        bif okNil Try.prog a0 then
        fA 10 a0 fun v122 =>
        fA 2 v122 fun v123 =>
        ld1 v123 h118 fun v124 =>
        ixSV 1 v124 v110 fun v125 =>
        ld1 v125 h118 fun v126 =>
        cIn .i64 v126 fun n127 =>
        shI .shl 1 (bAnd .i64 n112 1) .i64 fun v128 =>
        aBin Try.prog .andNot 3 (.int .i64 n127) v128 fun v130 =>
        ixSV 1 v121 v110 fun v131 =>
        st md 1 v131 v130 h118 fun h132 =>
        ld1 (.pointer (some ⟨h0.length, 4, none⟩)) h132 fun v133 =>
        cBn v133 fun b134 =>
        bif b134 then
          bif okNil Try.prog a0 then
          fA 10 a0 fun v135 =>
          fA 2 v135 fun v136 =>
          ld1 v136 h132 fun v137 =>
          ixSV 1 v137 v110 fun v138 =>
          ld1 v138 h132 fun v139 =>
          cIn .i64 v139 fun n140 =>
          shI .shl 1 (bAnd .i64 n112 1) .i64 fun v141 =>
          aBin Try.prog .or 3 (.int .i64 n140) v141 fun v143 =>
          ixSV 1 v137 v110 fun v144 =>
          st md 1 v144 v143 h132 fun h145 =>
          some ((.bool true), h145)
          else none
        else
          some ((.bool true), h132)
        else none
        else none
        else none
        else none
      else
        some ((.bool true), h10)
theorem F17_h0 (rc : Rec) (md : Md) (a0 : Value) (a1_0 : Int) (a1_1 : Int) (a1_2 : Int) (a1_3 : Int) (a1_4 : Bool) (h0 : Heap) : callStep0 Try.prog cfg rc md 17 [a0, (.agg #[(.int .i64 a1_0), (.int .i64 a1_1), (.int .i64 a1_2), (.int .i64 a1_3), (.bool a1_4)])] h0 = exec Try.prog cfg rc md 247 (bodyOf Try.prog 17) (retK Try.prog cfg 17 (rsOf Try.prog 17) h0) (args0 [a0, (.agg #[(.int .i64 a1_0), (.int .i64 a1_1), (.int .i64 a1_2), (.int .i64 a1_3), (.bool a1_4)])]) h0 := callStep0_run (by kernel_rfl) (by kernel_rfl) (by kernel_rfl)
theorem F17_h1 (rc : Rec) (md : Md) (X : Nat → T → Heap → Option (Value × Heap)) (a0 : Value) (a1_0 : Int) (a1_1 : Int) (a1_2 : Int) (a1_3 : Int) (a1_4 : Bool) (h0 : Heap) : execG Try.prog cfg X rc md 247 (replS (bodyOf Try.prog 17) [([1, 1, 0, 1, 0, 1, 1, 1, 0, 1, 1, 1, 1, 1, 0, 1, 0], 0), ([1, 1, 0, 1, 0, 1, 1, 1, 0, 1, 1, 1, 1, 1, 1], 1)]) (retK Try.prog cfg 17 (rsOf Try.prog 17) h0) (args0 [a0, (.agg #[(.int .i64 a1_0), (.int .i64 a1_1), (.int .i64 a1_2), (.int .i64 a1_3), (.bool a1_4)])]) h0 = F17H rc md (X 0) a0 a1_0 a1_1 a1_2 a1_3 a1_4 h0 := by kernel_rfl
theorem F17_h2 (rc : Rec) (md : Md) (a0 : Value) (a1_0 : Int) (a1_1 : Int) (a1_2 : Int) (a1_3 : Int) (a1_4 : Bool) (h0 : Heap) : F17H rc md (fun t h => J17_0 rc md h0 (t 0) (t 4) (t 11) (t 12) (t 13) (t 14) (t 147) (t 148) (t 149) h) a0 a1_0 a1_1 a1_2 a1_3 a1_4 h0 = F17 rc md a0 a1_0 a1_1 a1_2 a1_3 a1_4 h0 := by unfold F17H F17; kernel_rfl
theorem F17_eq0 (rc : Rec) (md : Md) (a0 : Value) (a1_0 : Int) (a1_1 : Int) (a1_2 : Int) (a1_3 : Int) (a1_4 : Bool) (h0 : Heap) : callStep0 Try.prog cfg rc md 17 [a0, (.agg #[(.int .i64 a1_0), (.int .i64 a1_1), (.int .i64 a1_2), (.int .i64 a1_3), (.bool a1_4)])] h0 = F17 rc md a0 a1_0 a1_1 a1_2 a1_3 a1_4 h0 := by
  rw [F17_h0, exec_holes [([1, 1, 0, 1, 0, 1, 1, 1, 0, 1, 1, 1, 1, 1, 0, 1, 0], 0), ([1, 1, 0, 1, 0, 1, 1, 1, 0, 1, 1, 1, 1, 1, 1], 1)] (by kernel_rfl), F17_h1, show (goX Try.prog cfg rc md 247 (bodyOf Try.prog 17) [([1, 1, 0, 1, 0, 1, 1, 1, 0, 1, 1, 1, 1, 1, 0, 1, 0], 0), ([1, 1, 0, 1, 0, 1, 1, 1, 0, 1, 1, 1, 1, 1, 1], 1)] (retK Try.prog cfg 17 (rsOf Try.prog 17) h0)) 0 = _ from J17_0_cut rc md h0]
  exact F17_h2 rc _ a0 a1_0 a1_1 a1_2 a1_3 a1_4 h0
theorem F17_eq (rc : Rec) (md : Md) (a0 : Value) (a1_0 : Int) (a1_1 : Int) (a1_2 : Int) (a1_3 : Int) (a1_4 : Bool) (h0 : Heap) : callStep Try.prog cfg rc md 17 [a0, (.agg #[(.int .i64 a1_0), (.int .i64 a1_1), (.int .i64 a1_2), (.int .i64 a1_3), (.bool a1_4)])] h0 = F17 rc md a0 a1_0 a1_1 a1_2 a1_3 a1_4 h0 := (callStep_ne (by kernel_rfl)).trans (F17_eq0 rc md a0 a1_0 a1_1 a1_2 a1_3 a1_4 h0)

/-- (tombolo/tomboloref09.Forest).Nodes -/
noncomputable def Jk18_0 (rc : Rec) (md : Md) (h0 : Heap) (e : Exit) (s1 : Value) (s2 : Value) (s3 : Value) (s4 : Value) (h : Heap) : Option (Value × Heap) :=
  match e with
  | .normal =>
    some (s3, h)
  | .exit j =>
    bif Nat.beq j 0 then
      some (s3, h)
    else
      none
  | .ret =>
    some (s2, h)
  | .goto l => none
  | .panic ps => none
  | .outgrown => none
theorem Jk18_0_at (rc : Rec) (md : Md) (h0 : Heap) (e : Exit) (t : T) (h : Heap) : kAt Try.prog cfg rc md 25 (bodyOf Try.prog 18) [1, 1, 0, 1, 0] (retK Try.prog cfg 18 (rsOf Try.prog 18) h0) e t h = Jk18_0 rc md h0 e (t 1) (t 2) (t 3) (t 4) h := by cases e <;> kernel_rfl
/-- a round -/
noncomputable def Jr18_0 (rc : Rec) (md : Md) (s1 : Value) (s2 : Value) (s3 : Value) (s4 : Value) (h : Heap) : Option (((Value × Value × Value × Value) × Heap) ⊕ (Exit × (Value × Value × Value × Value) × Heap)) :=
  fA 0 s1 fun v1 =>
  ld1 v1 h fun v2 =>
  lenS v2 fun v3 =>
  cIn .i64 v3 fun n4 =>
  aBin Try.prog .lss 3 s4 (.int .i64 n4) fun v5 =>
  cBn v5 fun b6 =>
  bif b6 then
    ldN 4 s1 h fun v7 =>
    fA 0 s1 fun v8 =>
    ld1 v8 h fun v9 =>
    ixSV 1 v9 s4 fun v10 =>
    ld1 v10 h fun v11 =>
    cl (rc md 61 [v7, v11, (.int .i64 0), s3] h) fun v12 h13 =>
    cIn .i64 v12 fun n14 =>
    aBin Try.prog .add 3 s4 (.int .i64 1) fun v15 =>
    some (.inl ((s1, s2, s3, v15), h13))
  else
    some (.inr ((.exit 0), (s1, s2, s3, s4), h))
theorem Jr18_0_at (rc : Rec) (md : Md) (t : T) (h : Heap) : exec Try.prog cfg rc md 25 (sub (bodyOf Try.prog 18) [1, 1, 0, 1, 0, 0]) (rndK (fun t => (t 1, t 2, t 3, t 4))) t h = Jr18_0 rc md (t 1) (t 2) (t 3) (t 4) h := by kernel_rfl
noncomputable def J18_0 (rc : Rec) (md : Md) (h0 : Heap) (s1 : Value) (s2 : Value) (s3 : Value) (s4 : Value) (h : Heap) : Option (Value × Heap) :=
  runL (fun x : (Value × Value × Value × Value) × Heap => Jr18_0 rc md x.1.1 x.1.2.1 x.1.2.2.1 x.1.2.2.2 x.2) (fun e (s : Value × Value × Value × Value) h => Jk18_0 rc md h0 e s.1 s.2.1 s.2.2.1 s.2.2.2 h) (s1, s2, s3, s4) h
theorem J18_0_step (rc : Rec) (md : Md) (h0 : Heap) (s1 : Value) (s2 : Value) (s3 : Value) (s4 : Value) (h : Heap) : J18_0 rc md h0 s1 s2 s3 s4 h = (Jr18_0 rc md s1 s2 s3 s4 h).bind fun x => match x with
    | .inl (s, h) => J18_0 rc md h0 s.1 s.2.1 s.2.2.1 s.2.2.2 h
    | .inr (e, s, h) => Jk18_0 rc md h0 e s.1 s.2.1 s.2.2.1 s.2.2.2 h := by
  unfold J18_0
  rw [runL_eq]
  refine congrArg (Option.bind _) (funext fun x => ?_)
  rcases x with ⟨s, h⟩ | ⟨e, s, h⟩ <;> rfl
theorem J18_0_cut (rc : Rec) (md : Md) (h0 : Heap) : cut Try.prog cfg rc md 25 (bodyOf Try.prog 18) [1, 1, 0, 1, 0] (retK Try.prog cfg 18 (rsOf Try.prog 18) h0) = fun t h => J18_0 rc md h0 (t 1) (t 2) (t 3) (t 4) h := by
  funext t h
  have e : sub (bodyOf Try.prog 18) [1, 1, 0, 1, 0] = .loop (sub (bodyOf Try.prog 18) [1, 1, 0, 1, 0, 0]) := by kernel_rfl
  unfold cut
  rw [e]
  exact loop_eq (by kernel_rfl) (fun t => (t 1, t 2, t 3, t 4)) (fun x : (Value × Value × Value × Value) × Heap => Jr18_0 rc md x.1.1 x.1.2.1 x.1.2.2.1 x.1.2.2.2 x.2) (fun t h => Jr18_0_at rc md t h) (fun e (s : Value × Value × Value × Value) h => Jk18_0 rc md h0 e s.1 s.2.1 s.2.2.1 s.2.2.2 h) (fun e t h => Jk18_0_at rc md h0 e t h) t h
noncomputable def F18 (rc : Rec) (md : Md) (a0_0 : Value) (a0_1 : Value) (a0_2 : Value) (a0_3 : Value) (h0 : Heap) : Option (Value × Heap) :=
  let h1 : Heap := h0 ++ [.own [a0_0, a0_1, a0_2, a0_3]]
  ld1 (.pointer (some ⟨h0.length, 1, none⟩)) h1 fun v2 =>
  lenS v2 fun v3 =>
  cIn .i64 v3 fun n4 =>
  aMakeSlice Try.prog 35 (.int .i64 n4) (.int .i64 n4) h1 fun v5 h6 =>
  J18_0 rc md h0 (.pointer (some ⟨h0.length, 0, none⟩)) (.slice none 0 0) v5 (.int .i64 0) h6
noncomputable def F18H (rc : Rec) (md : Md) (X0 : T → Heap → Option (Value × Heap)) (a0_0 : Value) (a0_1 : Value) (a0_2 : Value) (a0_3 : Value) (h0 : Heap) : Option (Value × Heap) :=
  let h1 : Heap := h0 ++ [.own [a0_0, a0_1, a0_2, a0_3]]
  ld1 (.pointer (some ⟨h0.length, 1, none⟩)) h1 fun v2 =>
  lenS v2 fun v3 =>
  cIn .i64 v3 fun n4 =>
  aMakeSlice Try.prog 35 (.int .i64 n4) (.int .i64 n4) h1 fun v5 h6 =>
  X0 (upd (upd (upd (upd (upd (upd (upd (upd (args0 [(.agg #[a0_0, a0_1, a0_2, a0_3])]) 1 (.pointer (some ⟨h0.length, 0, none⟩))) 2 (.slice none 0 0)) 5 (.pointer (some ⟨h0.length, 1, none⟩))) 6 v2) 7 (.int .i64 n4)) 8 v5) 3 v5) 4 (.int .i64 0)) h6
theorem F18_h0 (rc : Rec) (md : Md) (a0_0 : Value) (a0_1 : Value) (a0_2 : Value) (a0_3 : Value) (h0 : Heap) : callStep0 Try.prog cfg rc md 18 [(.agg #[a0_0, a0_1, a0_2, a0_3])] h0 = exec Try.prog cfg rc md 25 (bodyOf Try.prog 18) (retK Try.prog cfg 18 (rsOf Try.prog 18) h0) (args0 [(.agg #[a0_0, a0_1, a0_2, a0_3])]) h0 := callStep0_run (by kernel_rfl) (by kernel_rfl) (by kernel_rfl)
theorem F18_h1 (rc : Rec) (md : Md) (X : Nat → T → Heap → Option (Value × Heap)) (a0_0 : Value) (a0_1 : Value) (a0_2 : Value) (a0_3 : Value) (h0 : Heap) : execG Try.prog cfg X rc md 25 (replS (bodyOf Try.prog 18) [([1, 1, 0, 1, 0], 0)]) (retK Try.prog cfg 18 (rsOf Try.prog 18) h0) (args0 [(.agg #[a0_0, a0_1, a0_2, a0_3])]) h0 = F18H rc md (X 0) a0_0 a0_1 a0_2 a0_3 h0 := by kernel_rfl
theorem F18_h2 (rc : Rec) (md : Md) (a0_0 : Value) (a0_1 : Value) (a0_2 : Value) (a0_3 : Value) (h0 : Heap) : F18H rc md (fun t h => J18_0 rc md h0 (t 1) (t 2) (t 3) (t 4) h) a0_0 a0_1 a0_2 a0_3 h0 = F18 rc md a0_0 a0_1 a0_2 a0_3 h0 := by unfold F18H F18; kernel_rfl
theorem F18_eq0 (rc : Rec) (md : Md) (a0_0 : Value) (a0_1 : Value) (a0_2 : Value) (a0_3 : Value) (h0 : Heap) : callStep0 Try.prog cfg rc md 18 [(.agg #[a0_0, a0_1, a0_2, a0_3])] h0 = F18 rc md a0_0 a0_1 a0_2 a0_3 h0 := by
  rw [F18_h0, exec_holes [([1, 1, 0, 1, 0], 0)] (by kernel_rfl), F18_h1, show (goX Try.prog cfg rc md 25 (bodyOf Try.prog 18) [([1, 1, 0, 1, 0], 0)] (retK Try.prog cfg 18 (rsOf Try.prog 18) h0)) 0 = _ from J18_0_cut rc md h0]
  exact F18_h2 rc _ a0_0 a0_1 a0_2 a0_3 h0
theorem F18_eq (rc : Rec) (md : Md) (a0_0 : Value) (a0_1 : Value) (a0_2 : Value) (a0_3 : Value) (h0 : Heap) : callStep Try.prog cfg rc md 18 [(.agg #[a0_0, a0_1, a0_2, a0_3])] h0 = F18 rc md a0_0 a0_1 a0_2 a0_3 h0 := (callStep_ne (by kernel_rfl)).trans (F18_eq0 rc md a0_0 a0_1 a0_2 a0_3 h0)

/-- (tombolo/tomboloref09.Forest).Root -/
noncomputable def J19_1 (rc : Rec) (md : Md) (h0 : Heap) (s1 : Value) (s5 : Value) (h : Heap) : Option (Value × Heap) :=
  lenS s1 fun v1 =>
  cIn .i64 v1 fun n2 =>
  bif (n2 == 0) then
    some ((.int .i64 0), h0)
  else
    ixSV 1 s1 s5 fun v3 =>
    ld1 v3 h fun v4 =>
    cIn .i64 v4 fun n5 =>
    some ((.int .i64 n5), h0)
theorem J19_1_at (rc : Rec) (md : Md) (h0 : Heap) (t : T) (h : Heap) : cut Try.prog cfg rc md 31 (bodyOf Try.prog 19) [1, 1, 1] (retK Try.prog cfg 19 (rsOf Try.prog 19) h0) t h = J19_1 rc md h0 (t 1) (t 5) h := by kernel_rfl
theorem J19_1_cut (rc : Rec) (md : Md) (h0 : Heap) : cut Try.prog cfg rc md 31 (bodyOf Try.prog 19) [1, 1, 1] (retK Try.prog cfg 19 (rsOf Try.prog 19) h0) = fun t h => J19_1 rc md h0 (t 1) (t 5) h := funext fun t => funext fun h => J19_1_at rc md h0 t h
noncomputable def Jk19_0 (rc : Rec) (md : Md) (h0 : Heap) (e : Exit) (s1 : Value) (s2 : Value) (s4 : Value) (s5 : Value) (s6 : Value) (h : Heap) : Option (Value × Heap) :=
  match e with
  | .normal =>
    J19_1 rc md h0 s1 s5 h
  | .exit j =>
    bif Nat.beq j 0 then
      J19_1 rc md h0 s1 s5 h
    else
      none
  | .ret =>
    fin2 h0 s4
  | .goto l => none
  | .panic ps => none
  | .outgrown => none
noncomputable def Jk19_0H (rc : Rec) (md : Md) (h0 : Heap) (X1 : T → Heap → Option (Value × Heap)) (e : Exit) (t : T) (h : Heap) : Option (Value × Heap) :=
  match e with
  | .normal =>
    X1 t h
  | .exit j =>
    bif Nat.beq j 0 then
      X1 t h
    else
      none
  | .ret =>
    fin2 h0 (t 4)
  | .goto l => none
  | .panic ps => none
  | .outgrown => none
theorem Jk19_0_h1 (rc : Rec) (md : Md) (h0 : Heap) (X : Nat → T → Heap → Option (Value × Heap)) (e : Exit) (t : T) (h : Heap) : kAtG Try.prog cfg X rc md 31 (replS (bodyOf Try.prog 19) [([1, 1, 1], 1)]) [1, 1, 0, 1, 0] (retK Try.prog cfg 19 (rsOf Try.prog 19) h0) e t h = Jk19_0H rc md h0 (X 1) e t h := by cases e <;> kernel_rfl
theorem Jk19_0_h2 (rc : Rec) (md : Md) (h0 : Heap) (e : Exit) (t : T) (h : Heap) : Jk19_0H rc md h0 (fun t h => J19_1 rc md h0 (t 1) (t 5) h) e t h = Jk19_0 rc md h0 e (t 1) (t 2) (t 4) (t 5) (t 6) h := by cases e <;> (unfold Jk19_0H Jk19_0; kernel_rfl)
theorem Jk19_0_at (rc : Rec) (md : Md) (h0 : Heap) (e : Exit) (t : T) (h : Heap) : kAt Try.prog cfg rc md 31 (bodyOf Try.prog 19) [1, 1, 0, 1, 0] (retK Try.prog cfg 19 (rsOf Try.prog 19) h0) e t h = Jk19_0 rc md h0 e (t 1) (t 2) (t 4) (t 5) (t 6) h := by
  rw [kAt_holes [([1, 1, 1], 1)] [1, 1, 0, 1, 0] (by kernel_rfl), Jk19_0_h1, show (goX Try.prog cfg rc md 31 (bodyOf Try.prog 19) [([1, 1, 1], 1)] (retK Try.prog cfg 19 (rsOf Try.prog 19) h0)) 1 = _ from J19_1_cut rc md h0]
  exact Jk19_0_h2 rc md h0 e t h
/-- a round -/
noncomputable def Jr19_0 (rc : Rec) (md : Md) (s1 : Value) (s2 : Value) (s4 : Value) (s5 : Value) (s6 : Value) (h : Heap) : Option (((Value × Value × Value × Value × Value) × Heap) ⊕ (Exit × (Value × Value × Value × Value × Value) × Heap)) :=
  lenS s1 fun v1 =>
  cIn .i64 v1 fun n2 =>
  aBin Try.prog .lss 3 s6 (.int .i64 n2) fun v3 =>
  cBn v3 fun b4 =>
  bif b4 then
    ldN 4 s2 h fun v5 =>
    ixSV 1 s1 s6 fun v6 =>
    ld1 v6 h fun v7 =>
    cIn .i64 v7 fun n8 =>
    ixSV 1 s1 s5 fun v9 =>
    ld1 v9 h fun v10 =>
    cIn .i64 v10 fun n11 =>
    cl (rc md 62 [v5, (.int .i64 n8), (.int .i64 n11)] h) fun v12 h13 =>
    cBn v12 fun b14 =>
    bif b14 then
      aBin Try.prog .add 3 s6 (.int .i64 1) fun v15 =>
      some (.inl ((s1, s2, s4, s6, v15), h13))
    else
      aBin Try.prog .add 3 s6 (.int .i64 1) fun v16 =>
      some (.inl ((s1, s2, s4, s5, v16), h13))
  else
    some (.inr ((.exit 0), (s1, s2, s4, s5, s6), h))
theorem Jr19_0_at (rc : Rec) (md : Md) (t : T) (h : Heap) : exec Try.prog cfg rc md 31 (sub (bodyOf Try.prog 19) [1, 1, 0, 1, 0, 0]) (rndK (fun t => (t 1, t 2, t 4, t 5, t 6))) t h = Jr19_0 rc md (t 1) (t 2) (t 4) (t 5) (t 6) h := by kernel_rfl
noncomputable def J19_0 (rc : Rec) (md : Md) (h0 : Heap) (s1 : Value) (s2 : Value) (s4 : Value) (s5 : Value) (s6 : Value) (h : Heap) : Option (Value × Heap) :=
  runL (fun x : (Value × Value × Value × Value × Value) × Heap => Jr19_0 rc md x.1.1 x.1.2.1 x.1.2.2.1 x.1.2.2.2.1 x.1.2.2.2.2 x.2) (fun e (s : Value × Value × Value × Value × Value) h => Jk19_0 rc md h0 e s.1 s.2.1 s.2.2.1 s.2.2.2.1 s.2.2.2.2 h) (s1, s2, s4, s5, s6) h
theorem J19_0_step (rc : Rec) (md : Md) (h0 : Heap) (s1 : Value) (s2 : Value) (s4 : Value) (s5 : Value) (s6 : Value) (h : Heap) : J19_0 rc md h0 s1 s2 s4 s5 s6 h = (Jr19_0 rc md s1 s2 s4 s5 s6 h).bind fun x => match x with
    | .inl (s, h) => J19_0 rc md h0 s.1 s.2.1 s.2.2.1 s.2.2.2.1 s.2.2.2.2 h
    | .inr (e, s, h) => Jk19_0 rc md h0 e s.1 s.2.1 s.2.2.1 s.2.2.2.1 s.2.2.2.2 h := by
  unfold J19_0
  rw [runL_eq]
  refine congrArg (Option.bind _) (funext fun x => ?_)
  rcases x with ⟨s, h⟩ | ⟨e, s, h⟩ <;> rfl
theorem J19_0_cut (rc : Rec) (md : Md) (h0 : Heap) : cut Try.prog cfg rc md 31 (bodyOf Try.prog 19) [1, 1, 0, 1, 0] (retK Try.prog cfg 19 (rsOf Try.prog 19) h0) = fun t h => J19_0 rc md h0 (t 1) (t 2) (t 4) (t 5) (t 6) h := by
  funext t h
  have e : sub (bodyOf Try.prog 19) [1, 1, 0, 1, 0] = .loop (sub (bodyOf Try.prog 19) [1, 1, 0, 1, 0, 0]) := by kernel_rfl
  unfold cut
  rw [e]
  exact loop_eq (by kernel_rfl) (fun t => (t 1, t 2, t 4, t 5, t 6)) (fun x : (Value × Value × Value × Value × Value) × Heap => Jr19_0 rc md x.1.1 x.1.2.1 x.1.2.2.1 x.1.2.2.2.1 x.1.2.2.2.2 x.2) (fun t h => Jr19_0_at rc md t h) (fun e (s : Value × Value × Value × Value × Value) h => Jk19_0 rc md h0 e s.1 s.2.1 s.2.2.1 s.2.2.2.1 s.2.2.2.2 h) (fun e t h => Jk19_0_at rc md h0 e t h) t h
noncomputable def F19 (rc : Rec) (md : Md) (a0_0 : Value) (a0_1 : Value) (a0_2 : Value) (a0_3 : Value) (a1 : Value) (h0 : Heap) : Option (Value × Heap) :=
  let h1 : Heap := h0 ++ [.own [a0_0, a0_1, a0_2, a0_3]]
  J19_0 rc md h0 a1 (.pointer (some ⟨h0.length, 0, none⟩)) (.int .i64 0) (.int .i64 0) (.int .i64 0) h1
noncomputable def F19H (rc : Rec) (md : Md) (X0 : T → Heap → Option (Value × Heap)) (a0_0 : Value) (a0_1 : Value) (a0_2 : Value) (a0_3 : Value) (a1 : Value) (h0 : Heap) : Option (Value × Heap) :=
  let h1 : Heap := h0 ++ [.own [a0_0, a0_1, a0_2, a0_3]]
  X0 (upd (upd (upd (upd (args0 [(.agg #[a0_0, a0_1, a0_2, a0_3]), a1]) 2 (.pointer (some ⟨h0.length, 0, none⟩))) 4 (.int .i64 0)) 5 (.int .i64 0)) 6 (.int .i64 0)) h1
theorem F19_h0 (rc : Rec) (md : Md) (a0_0 : Value) (a0_1 : Value) (a0_2 : Value) (a0_3 : Value) (a1 : Value) (h0 : Heap) : callStep0 Try.prog cfg rc md 19 [(.agg #[a0_0, a0_1, a0_2, a0_3]), a1] h0 = exec Try.prog cfg rc ⟨h0.length, h0.length⟩ 31 (bodyOf Try.prog 19) (retK Try.prog cfg 19 (rsOf Try.prog 19) h0) (args0 [(.agg #[a0_0, a0_1, a0_2, a0_3]), a1]) h0 := callStep0_run (by kernel_rfl) (by kernel_rfl) (by kernel_rfl)
theorem F19_h1 (rc : Rec) (md : Md) (X : Nat → T → Heap → Option (Value × Heap)) (a0_0 : Value) (a0_1 : Value) (a0_2 : Value) (a0_3 : Value) (a1 : Value) (h0 : Heap) : execG Try.prog cfg X rc md 31 (replS (bodyOf Try.prog 19) [([1, 1, 0, 1, 0], 0), ([1, 1, 1], 1)]) (retK Try.prog cfg 19 (rsOf Try.prog 19) h0) (args0 [(.agg #[a0_0, a0_1, a0_2, a0_3]), a1]) h0 = F19H rc md (X 0) a0_0 a0_1 a0_2 a0_3 a1 h0 := by kernel_rfl
theorem F19_h2 (rc : Rec) (md : Md) (a0_0 : Value) (a0_1 : Value) (a0_2 : Value) (a0_3 : Value) (a1 : Value) (h0 : Heap) : F19H rc md (fun t h => J19_0 rc md h0 (t 1) (t 2) (t 4) (t 5) (t 6) h) a0_0 a0_1 a0_2 a0_3 a1 h0 = F19 rc md a0_0 a0_1 a0_2 a0_3 a1 h0 := by unfold F19H F19; kernel_rfl
theorem F19_eq0 (rc : Rec) (md : Md) (a0_0 : Value) (a0_1 : Value) (a0_2 : Value) (a0_3 : Value) (a1 : Value) (h0 : Heap) : callStep0 Try.prog cfg rc md 19 [(.agg #[a0_0, a0_1, a0_2, a0_3]), a1] h0 = F19 rc ⟨h0.length, h0.length⟩ a0_0 a0_1 a0_2 a0_3 a1 h0 := by
  rw [F19_h0, exec_holes [([1, 1, 0, 1, 0], 0), ([1, 1, 1], 1)] (by kernel_rfl), F19_h1, show (goX Try.prog cfg rc ⟨h0.length, h0.length⟩ 31 (bodyOf Try.prog 19) [([1, 1, 0, 1, 0], 0), ([1, 1, 1], 1)] (retK Try.prog cfg 19 (rsOf Try.prog 19) h0)) 0 = _ from J19_0_cut rc ⟨h0.length, h0.length⟩ h0]
  exact F19_h2 rc _ a0_0 a0_1 a0_2 a0_3 a1 h0
theorem F19_eq (rc : Rec) (md : Md) (a0_0 : Value) (a0_1 : Value) (a0_2 : Value) (a0_3 : Value) (a1 : Value) (h0 : Heap) : callStep Try.prog cfg rc md 19 [(.agg #[a0_0, a0_1, a0_2, a0_3]), a1] h0 = F19 rc ⟨h0.length, h0.length⟩ a0_0 a0_1 a0_2 a0_3 a1 h0 := (callStep_ne (by kernel_rfl)).trans (F19_eq0 rc md a0_0 a0_1 a0_2 a0_3 a1 h0)

/-- (tombolo/treap.Trees).List -/
noncomputable def F20 (rc : Rec) (md : Md) (a0_0 : Int) (a0_1 : Int) (a0_2 : Int) (a0_3 : Value) (a0_4 : Int) (a0_5 : Int) (a1 : Int) (h0 : Heap) : Option (Value × Heap) :=
  let h1 : Heap := h0 ++ [.own [(.int .i64 a0_0), (.int .i64 a0_1), (.int .i64 a0_2), a0_3, (.int .i64 a0_4), (.int .i64 a0_5)]]
  bif (a1 == 0) then
    some ((.slice none 0 0), h1)
  else
    ldN 6 (.pointer (some ⟨h0.length, 0, none⟩)) h1 fun v2 =>
    ldN 6 (.pointer (some ⟨h0.length, 0, none⟩)) h1 fun v3 =>
    cl (rc md 63 [v3, (.int .i64 a1), (.int .i64 3)] h1) fun v4 h5 =>
    cIn .i64 v4 fun n6 =>
    cLE true (fun hq => ldN 6 (.pointer (some ⟨h0.length, 0, none⟩)) hq some) v2 h1 h5 <|
    cl (rc md 20 [v2, (.int .i64 n6)] h5) fun v7 h8 =>
    let h9 : Heap := h8 ++ [.own [(.int .i64 a1)]]
    cLE true (fun hq => ldN 6 (.pointer (some ⟨h0.length, 0, none⟩)) hq some) v3 h8 h9 <|
    cLE true (fun hq => ldN 6 (.pointer (some ⟨h0.length, 0, none⟩)) hq some) v2 h8 h9 <|
    aBuiltin Try.prog md .append #[44, 44] [v7, (.slice (some ⟨h8.length, 0, none⟩) 1 1)] h9 fun v10 h11 =>
    ldN 6 (.pointer (some ⟨h0.length, 0, none⟩)) h11 fun v12 =>
    ldN 6 (.pointer (some ⟨h0.length, 0, none⟩)) h11 fun v13 =>
    cl (rc md 63 [v13, (.int .i64 a1), (.int .i64 4)] h11) fun v14 h15 =>
    cIn .i64 v14 fun n16 =>
    cLE true (fun hq => ldN 6 (.pointer (some ⟨h0.length, 0, none⟩)) hq some) v12 h11 h15 <|
    cl (rc md 20 [v12, (.int .i64 n16)] h15) fun v17 h18 =>
    aBuiltin Try.prog md .append #[44, 44] [v10, v17] h18 fun v19 h20 =>
    some (v19, h20)
theorem F20_eq0 (rc : Rec) (md : Md) (a0_0 : Int) (a0_1 : Int) (a0_2 : Int) (a0_3 : Value) (a0_4 : Int) (a0_5 : Int) (a1 : Int) (h0 : Heap) : callStep0 Try.prog cfg rc md 20 [(.agg #[(.int .i64 a0_0), (.int .i64 a0_1), (.int .i64 a0_2), a0_3, (.int .i64 a0_4), (.int .i64 a0_5)]), (.int .i64 a1)] h0 = F20 rc md a0_0 a0_1 a0_2 a0_3 a0_4 a0_5 a1 h0 := by kernel_rfl
theorem F20_eq (rc : Rec) (md : Md) (a0_0 : Int) (a0_1 : Int) (a0_2 : Int) (a0_3 : Value) (a0_4 : Int) (a0_5 : Int) (a1 : Int) (h0 : Heap) : callStep Try.prog cfg rc md 20 [(.agg #[(.int .i64 a0_0), (.int .i64 a0_1), (.int .i64 a0_2), a0_3, (.int .i64 a0_4), (.int .i64 a0_5)]), (.int .i64 a1)] h0 = F20 rc md a0_0 a0_1 a0_2 a0_3 a0_4 a0_5 a1 h0 := (callStep_ne (by kernel_rfl)).trans (F20_eq0 rc md a0_0 a0_1 a0_2 a0_3 a0_4 a0_5 a1 h0)

/-- (tombolo/treap.Trees).Root -/
noncomputable def Jk21_0 (rc : Rec) (md : Md) (h0 : Heap) (e : Exit) (s1 : Value) (s2 : Value) (s4 : Value) (h : Heap) : Option (Value × Heap) :=
  match e with
  | .normal =>
    fin1 h0 s1 h
  | .exit j =>
    bif Nat.beq j 0 then
      fin1 h0 s1 h
    else
      none
  | .ret =>
    fin1 h0 s4 h
  | .goto l => none
  | .panic ps => none
  | .outgrown => none
theorem Jk21_0_at (rc : Rec) (md : Md) (h0 : Heap) (e : Exit) (t : T) (h : Heap) : kAt Try.prog cfg rc md 15 (bodyOf Try.prog 21) [1, 0, 0] (retK Try.prog cfg 21 (rsOf Try.prog 21) h0) e t h = Jk21_0 rc md h0 e (t 1) (t 2) (t 4) h := by cases e <;> kernel_rfl
/-- a round -/
noncomputable def Jr21_0 (rc : Rec) (md : Md) (s1 : Value) (s2 : Value) (s4 : Value) (h : Heap) : Option (((Value × Value × Value) × Heap) ⊕ (Exit × (Value × Value × Value) × Heap)) :=
  aBin Try.prog .neq 3 s1 (.int .i64 0) fun v1 =>
  cBn v1 fun b2 =>
  bif b2 then
    ldN 6 s2 h fun v3 =>
    cl (rc md 64 [v3, s1] h) fun v4 h5 =>
    cIn .i64 v4 fun n6 =>
    bif (n6 == 0) then
      some (.inr ((.exit 0), (s1, s2, s4), h5))
    else
      some (.inl (((.int .i64 n6), s2, s4), h5))
  else
    some (.inr ((.exit 0), (s1, s2, s4), h))
theorem Jr21_0_at (rc : Rec) (md : Md) (t : T) (h : Heap) : exec Try.prog cfg rc md 15 (sub (bodyOf Try.prog 21) [1, 0, 0, 0]) (rndK (fun t => (t 1, t 2, t 4))) t h = Jr21_0 rc md (t 1) (t 2) (t 4) h := by kernel_rfl
noncomputable def J21_0 (rc : Rec) (md : Md) (h0 : Heap) (s1 : Value) (s2 : Value) (s4 : Value) (h : Heap) : Option (Value × Heap) :=
  runL (fun x : (Value × Value × Value) × Heap => Jr21_0 rc md x.1.1 x.1.2.1 x.1.2.2 x.2) (fun e (s : Value × Value × Value) h => Jk21_0 rc md h0 e s.1 s.2.1 s.2.2 h) (s1, s2, s4) h
theorem J21_0_step (rc : Rec) (md : Md) (h0 : Heap) (s1 : Value) (s2 : Value) (s4 : Value) (h : Heap) : J21_0 rc md h0 s1 s2 s4 h = (Jr21_0 rc md s1 s2 s4 h).bind fun x => match x with
    | .inl (s, h) => J21_0 rc md h0 s.1 s.2.1 s.2.2 h
    | .inr (e, s, h) => Jk21_0 rc md h0 e s.1 s.2.1 s.2.2 h := by
  unfold J21_0
  rw [runL_eq]
  refine congrArg (Option.bind _) (funext fun x => ?_)
  rcases x with ⟨s, h⟩ | ⟨e, s, h⟩ <;> rfl
theorem J21_0_cut (rc : Rec) (md : Md) (h0 : Heap) : cut Try.prog cfg rc md 15 (bodyOf Try.prog 21) [1, 0, 0] (retK Try.prog cfg 21 (rsOf Try.prog 21) h0) = fun t h => J21_0 rc md h0 (t 1) (t 2) (t 4) h := by
  funext t h
  have e : sub (bodyOf Try.prog 21) [1, 0, 0] = .loop (sub (bodyOf Try.prog 21) [1, 0, 0, 0]) := by kernel_rfl
  unfold cut
  rw [e]
  exact loop_eq (by kernel_rfl) (fun t => (t 1, t 2, t 4)) (fun x : (Value × Value × Value) × Heap => Jr21_0 rc md x.1.1 x.1.2.1 x.1.2.2 x.2) (fun t h => Jr21_0_at rc md t h) (fun e (s : Value × Value × Value) h => Jk21_0 rc md h0 e s.1 s.2.1 s.2.2 h) (fun e t h => Jk21_0_at rc md h0 e t h) t h
noncomputable def F21 (rc : Rec) (md : Md) (a0_0 : Int) (a0_1 : Int) (a0_2 : Int) (a0_3 : Value) (a0_4 : Int) (a0_5 : Int) (a1 : Int) (h0 : Heap) : Option (Value × Heap) :=
  let h1 : Heap := h0 ++ [.own [(.int .i64 a0_0), (.int .i64 a0_1), (.int .i64 a0_2), a0_3, (.int .i64 a0_4), (.int .i64 a0_5)]]
  J21_0 rc md h0 (.int .i64 a1) (.pointer (some ⟨h0.length, 0, none⟩)) (.int .i64 0) h1
noncomputable def F21H (rc : Rec) (md : Md) (X0 : T → Heap → Option (Value × Heap)) (a0_0 : Int) (a0_1 : Int) (a0_2 : Int) (a0_3 : Value) (a0_4 : Int) (a0_5 : Int) (a1 : Int) (h0 : Heap) : Option (Value × Heap) :=
  let h1 : Heap := h0 ++ [.own [(.int .i64 a0_0), (.int .i64 a0_1), (.int .i64 a0_2), a0_3, (.int .i64 a0_4), (.int .i64 a0_5)]]
  X0 (upd (upd (args0 [(.agg #[(.int .i64 a0_0), (.int .i64 a0_1), (.int .i64 a0_2), a0_3, (.int .i64 a0_4), (.int .i64 a0_5)]), (.int .i64 a1)]) 2 (.pointer (some ⟨h0.length, 0, none⟩))) 4 (.int .i64 0)) h1
theorem F21_h0 (rc : Rec) (md : Md) (a0_0 : Int) (a0_1 : Int) (a0_2 : Int) (a0_3 : Value) (a0_4 : Int) (a0_5 : Int) (a1 : Int) (h0 : Heap) : callStep0 Try.prog cfg rc md 21 [(.agg #[(.int .i64 a0_0), (.int .i64 a0_1), (.int .i64 a0_2), a0_3, (.int .i64 a0_4), (.int .i64 a0_5)]), (.int .i64 a1)] h0 = exec Try.prog cfg rc ⟨md.ro, h0.length⟩ 15 (bodyOf Try.prog 21) (retK Try.prog cfg 21 (rsOf Try.prog 21) h0) (args0 [(.agg #[(.int .i64 a0_0), (.int .i64 a0_1), (.int .i64 a0_2), a0_3, (.int .i64 a0_4), (.int .i64 a0_5)]), (.int .i64 a1)]) h0 := callStep0_run (by kernel_rfl) (by kernel_rfl) (by kernel_rfl)
theorem F21_h1 (rc : Rec) (md : Md) (X : Nat → T → Heap → Option (Value × Heap)) (a0_0 : Int) (a0_1 : Int) (a0_2 : Int) (a0_3 : Value) (a0_4 : Int) (a0_5 : Int) (a1 : Int) (h0 : Heap) : execG Try.prog cfg X rc md 15 (replS (bodyOf Try.prog 21) [([1, 0, 0], 0)]) (retK Try.prog cfg 21 (rsOf Try.prog 21) h0) (args0 [(.agg #[(.int .i64 a0_0), (.int .i64 a0_1), (.int .i64 a0_2), a0_3, (.int .i64 a0_4), (.int .i64 a0_5)]), (.int .i64 a1)]) h0 = F21H rc md (X 0) a0_0 a0_1 a0_2 a0_3 a0_4 a0_5 a1 h0 := by kernel_rfl
theorem F21_h2 (rc : Rec) (md : Md) (a0_0 : Int) (a0_1 : Int) (a0_2 : Int) (a0_3 : Value) (a0_4 : Int) (a0_5 : Int) (a1 : Int) (h0 : Heap) : F21H rc md (fun t h => J21_0 rc md h0 (t 1) (t 2) (t 4) h) a0_0 a0_1 a0_2 a0_3 a0_4 a0_5 a1 h0 = F21 rc md a0_0 a0_1 a0_2 a0_3 a0_4 a0_5 a1 h0 := by unfold F21H F21; kernel_rfl
theorem F21_eq0 (rc : Rec) (md : Md) (a0_0 : Int) (a0_1 : Int) (a0_2 : Int) (a0_3 : Value) (a0_4 : Int) (a0_5 : Int) (a1 : Int) (h0 : Heap) : callStep0 Try.prog cfg rc md 21 [(.agg #[(.int .i64 a0_0), (.int .i64 a0_1), (.int .i64 a0_2), a0_3, (.int .i64 a0_4), (.int .i64 a0_5)]), (.int .i64 a1)] h0 = F21 rc ⟨md.ro, h0.length⟩ a0_0 a0_1 a0_2 a0_3 a0_4 a0_5 a1 h0 := by
  rw [F21_h0, exec_holes [([1, 0, 0], 0)] (by kernel_rfl), F21_h1, show (goX Try.prog cfg rc ⟨md.ro, h0.length⟩ 15 (bodyOf Try.prog 21) [([1, 0, 0], 0)] (retK Try.prog cfg 21 (rsOf Try.prog 21) h0)) 0 = _ from J21_0_cut rc ⟨md.ro, h0.length⟩ h0]
  exact F21_h2 rc _ a0_0 a0_1 a0_2 a0_3 a0_4 a0_5 a1 h0
theorem F21_eq (rc : Rec) (md : Md) (a0_0 : Int) (a0_1 : Int) (a0_2 : Int) (a0_3 : Value) (a0_4 : Int) (a0_5 : Int) (a1 : Int) (h0 : Heap) : callStep Try.prog cfg rc md 21 [(.agg #[(.int .i64 a0_0), (.int .i64 a0_1), (.int .i64 a0_2), a0_3, (.int .i64 a0_4), (.int .i64 a0_5)]), (.int .i64 a1)] h0 = F21 rc ⟨md.ro, h0.length⟩ a0_0 a0_1 a0_2 a0_3 a0_4 a0_5 a1 h0 := (callStep_ne (by kernel_rfl)).trans (F21_eq0 rc md a0_0 a0_1 a0_2 a0_3 a0_4 a0_5 a1 h0)

/-- (tombolo/treap.Trees).Index -/
noncomputable def Jk22_0 (rc : Rec) (md : Md) (h0 : Heap) (e : Exit) (s1 : Value) (s2 : Value) (s4 : Value) (s5 : Value) (h : Heap) : Option (Value × Heap) :=
  match e with
  | .normal =>
    fin1 h0 s4 h
  | .exit j =>
    bif Nat.beq j 0 then
      fin1 h0 s4 h
    else
      none
  | .ret =>
    fin1 h0 s4 h
  | .goto l => none
  | .panic ps => none
  | .outgrown => none
theorem Jk22_0_at (rc : Rec) (md : Md) (h0 : Heap) (e : Exit) (t : T) (h : Heap) : kAt Try.prog cfg rc md 32 (bodyOf Try.prog 22) [1, 1, 0] (retK Try.prog cfg 22 (rsOf Try.prog 22) h0) e t h = Jk22_0 rc md h0 e (t 1) (t 2) (t 4) (t 5) h := by cases e <;> kernel_rfl
/-- a round -/
noncomputable def Jr22_0 (rc : Rec) (md : Md) (s1 : Value) (s2 : Value) (s4 : Value) (s5 : Value) (h : Heap) : Option (((Value × Value × Value × Value) × Heap) ⊕ (Exit × (Value × Value × Value × Value) × Heap)) :=
  ldN 6 s2 h fun v1 =>
  cl (rc md 64 [v1, s1] h) fun v2 h3 =>
  cIn .i64 v2 fun n4 =>
  bif (n4 == 0) then
    some (.inr (.ret, (s1, s2, s5, s5), h3))
  else
    ldN 6 s2 h3 fun v5 =>
    cl (rc md 63 [v5, (.int .i64 n4), (.int .i64 4)] h3) fun v6 h7 =>
    cIn .i64 v6 fun n8 =>
    aBin Try.prog .eql 3 (.int .i64 n8) s1 fun v9 =>
    cBn v9 fun b10 =>
    bif b10 then
      ldN 6 s2 h7 fun v11 =>
      ldN 6 s2 h7 fun v12 =>
      cl (rc md 63 [v12, (.int .i64 n4), (.int .i64 3)] h7) fun v13 h14 =>
      cIn .i64 v13 fun n15 =>
      cLE true (fun hq => ldN 6 s2 hq some) v11 h7 h14 <|
      cl (rc md 23 [v11, (.int .i64 n15)] h14) fun v16 h17 =>
      cIn .i64 v16 fun n18 =>
      aBin Try.prog .add 3 s5 (.int .i64 (IntKind.wrap .i64 (1 + n18))) fun v19 =>
      some (.inl (((.int .i64 n4), s2, s4, v19), h17))
    else
      some (.inl (((.int .i64 n4), s2, s4, s5), h7))
theorem Jr22_0_at (rc : Rec) (md : Md) (t : T) (h : Heap) : exec Try.prog cfg rc md 32 (sub (bodyOf Try.prog 22) [1, 1, 0, 0]) (rndK (fun t => (t 1, t 2, t 4, t 5))) t h = Jr22_0 rc md (t 1) (t 2) (t 4) (t 5) h := by kernel_rfl
noncomputable def J22_0 (rc : Rec) (md : Md) (h0 : Heap) (s1 : Value) (s2 : Value) (s4 : Value) (s5 : Value) (h : Heap) : Option (Value × Heap) :=
  runL (fun x : (Value × Value × Value × Value) × Heap => Jr22_0 rc md x.1.1 x.1.2.1 x.1.2.2.1 x.1.2.2.2 x.2) (fun e (s : Value × Value × Value × Value) h => Jk22_0 rc md h0 e s.1 s.2.1 s.2.2.1 s.2.2.2 h) (s1, s2, s4, s5) h
theorem J22_0_step (rc : Rec) (md : Md) (h0 : Heap) (s1 : Value) (s2 : Value) (s4 : Value) (s5 : Value) (h : Heap) : J22_0 rc md h0 s1 s2 s4 s5 h = (Jr22_0 rc md s1 s2 s4 s5 h).bind fun x => match x with
    | .inl (s, h) => J22_0 rc md h0 s.1 s.2.1 s.2.2.1 s.2.2.2 h
    | .inr (e, s, h) => Jk22_0 rc md h0 e s.1 s.2.1 s.2.2.1 s.2.2.2 h := by
  unfold J22_0
  rw [runL_eq]
  refine congrArg (Option.bind _) (funext fun x => ?_)
  rcases x with ⟨s, h⟩ | ⟨e, s, h⟩ <;> rfl
theorem J22_0_cut (rc : Rec) (md : Md) (h0 : Heap) : cut Try.prog cfg rc md 32 (bodyOf Try.prog 22) [1, 1, 0] (retK Try.prog cfg 22 (rsOf Try.prog 22) h0) = fun t h => J22_0 rc md h0 (t 1) (t 2) (t 4) (t 5) h := by
  funext t h
  have e : sub (bodyOf Try.prog 22) [1, 1, 0] = .loop (sub (bodyOf Try.prog 22) [1, 1, 0, 0]) := by kernel_rfl
  unfold cut
  rw [e]
  exact loop_eq (by kernel_rfl) (fun t => (t 1, t 2, t 4, t 5)) (fun x : (Value × Value × Value × Value) × Heap => Jr22_0 rc md x.1.1 x.1.2.1 x.1.2.2.1 x.1.2.2.2 x.2) (fun t h => Jr22_0_at rc md t h) (fun e (s : Value × Value × Value × Value) h => Jk22_0 rc md h0 e s.1 s.2.1 s.2.2.1 s.2.2.2 h) (fun e t h => Jk22_0_at rc md h0 e t h) t h
noncomputable def F22 (rc : Rec) (md : Md) (a0_0 : Int) (a0_1 : Int) (a0_2 : Int) (a0_3 : Value) (a0_4 : Int) (a0_5 : Int) (a1 : Int) (h0 : Heap) : Option (Value × Heap) :=
  let h1 : Heap := h0 ++ [.own [(.int .i64 a0_0), (.int .i64 a0_1), (.int .i64 a0_2), a0_3, (.int .i64 a0_4), (.int .i64 a0_5)]]
  ldN 6 (.pointer (some ⟨h0.length, 0, none⟩)) h1 fun v2 =>
  ldN 6 (.pointer (some ⟨h0.length, 0, none⟩)) h1 fun v3 =>
  cl (rc md 63 [v3, (.int .i64 a1), (.int .i64 3)] h1) fun v4 h5 =>
  cIn .i64 v4 fun n6 =>
  cLE true (fun hq => ldN 6 (.pointer (some ⟨h0.length, 0, none⟩)) hq some) v2 h1 h5 <|
  cl (rc md 23 [v2, (.int .i64 n6)] h5) fun v7 h8 =>
  cIn .i64 v7 fun n9 =>
  J22_0 rc md h0 (.int .i64 a1) (.pointer (some ⟨h0.length, 0, none⟩)) (.int .i64 0) (.int .i64 n9) h8
noncomputable def F22H (rc : Rec) (md : Md) (X0 : T → Heap → Option (Value × Heap)) (a0_0 : Int) (a0_1 : Int) (a0_2 : Int) (a0_3 : Value) (a0_4 : Int) (a0_5 : Int) (a1 : Int) (h0 : Heap) : Option (Value × Heap) :=
  let h1 : Heap := h0 ++ [.own [(.int .i64 a0_0), (.int .i64 a0_1), (.int .i64 a0_2), a0_3, (.int .i64 a0_4), (.int .i64 a0_5)]]
  ldN 6 (.pointer (some ⟨h0.length, 0, none⟩)) h1 fun v2 =>
  ldN 6 (.pointer (some ⟨h0.length, 0, none⟩)) h1 fun v3 =>
  cl (rc md 63 [v3, (.int .i64 a1), (.int .i64 3)] h1) fun v4 h5 =>
  cIn .i64 v4 fun n6 =>
  cLE true (fun hq => ldN 6 (.pointer (some ⟨h0.length, 0, none⟩)) hq some) v2 h1 h5 <|
  cl (rc md 23 [v2, (.int .i64 n6)] h5) fun v7 h8 =>
  cIn .i64 v7 fun n9 =>
  X0 (upd (upd (upd (upd (upd (upd (upd (upd (args0 [(.agg #[(.int .i64 a0_0), (.int .i64 a0_1), (.int .i64 a0_2), a0_3, (.int .i64 a0_4), (.int .i64 a0_5)]), (.int .i64 a1)]) 2 (.pointer (some ⟨h0.length, 0, none⟩))) 4 (.int .i64 0)) 7 v2) 8 v3) 9 (.int .i64 a1)) 10 (.int .i64 n6)) 11 (.int .i64 n9)) 5 (.int .i64 n9)) h8
theorem F22_h0 (rc : Rec) (md : Md) (a0_0 : Int) (a0_1 : Int) (a0_2 : Int) (a0_3 : Value) (a0_4 : Int) (a0_5 : Int) (a1 : Int) (h0 : Heap) : callStep0 Try.prog cfg rc md 22 [(.agg #[(.int .i64 a0_0), (.int .i64 a0_1), (.int .i64 a0_2), a0_3, (.int .i64 a0_4), (.int .i64 a0_5)]), (.int .i64 a1)] h0 = exec Try.prog cfg rc ⟨md.ro, h0.length⟩ 32 (bodyOf Try.prog 22) (retK Try.prog cfg 22 (rsOf Try.prog 22) h0) (args0 [(.agg #[(.int .i64 a0_0), (.int .i64 a0_1), (.int .i64 a0_2), a0_3, (.int .i64 a0_4), (.int .i64 a0_5)]), (.int .i64 a1)]) h0 := callStep0_run (by kernel_rfl) (by kernel_rfl) (by kernel_rfl)
theorem F22_h1 (rc : Rec) (md : Md) (X : Nat → T → Heap → Option (Value × Heap)) (a0_0 : Int) (a0_1 : Int) (a0_2 : Int) (a0_3 : Value) (a0_4 : Int) (a0_5 : Int) (a1 : Int) (h0 : Heap) : execG Try.prog cfg X rc md 32 (replS (bodyOf Try.prog 22) [([1, 1, 0], 0)]) (retK Try.prog cfg 22 (rsOf Try.prog 22) h0) (args0 [(.agg #[(.int .i64 a0_0), (.int .i64 a0_1), (.int .i64 a0_2), a0_3, (.int .i64 a0_4), (.int .i64 a0_5)]), (.int .i64 a1)]) h0 = F22H rc md (X 0) a0_0 a0_1 a0_2 a0_3 a0_4 a0_5 a1 h0 := by kernel_rfl
theorem F22_h2 (rc : Rec) (md : Md) (a0_0 : Int) (a0_1 : Int) (a0_2 : Int) (a0_3 : Value) (a0_4 : Int) (a0_5 : Int) (a1 : Int) (h0 : Heap) : F22H rc md (fun t h => J22_0 rc md h0 (t 1) (t 2) (t 4) (t 5) h) a0_0 a0_1 a0_2 a0_3 a0_4 a0_5 a1 h0 = F22 rc md a0_0 a0_1 a0_2 a0_3 a0_4 a0_5 a1 h0 := by unfold F22H F22; kernel_rfl
theorem F22_eq0 (rc : Rec) (md : Md) (a0_0 : Int) (a0_1 : Int) (a0_2 : Int) (a0_3 : Value) (a0_4 : Int) (a0_5 : Int) (a1 : Int) (h0 : Heap) : callStep0 Try.prog cfg rc md 22 [(.agg #[(.int .i64 a0_0), (.int .i64 a0_1), (.int .i64 a0_2), a0_3, (.int .i64 a0_4), (.int .i64 a0_5)]), (.int .i64 a1)] h0 = F22 rc ⟨md.ro, h0.length⟩ a0_0 a0_1 a0_2 a0_3 a0_4 a0_5 a1 h0 := by
  rw [F22_h0, exec_holes [([1, 1, 0], 0)] (by kernel_rfl), F22_h1, show (goX Try.prog cfg rc ⟨md.ro, h0.length⟩ 32 (bodyOf Try.prog 22) [([1, 1, 0], 0)] (retK Try.prog cfg 22 (rsOf Try.prog 22) h0)) 0 = _ from J22_0_cut rc ⟨md.ro, h0.length⟩ h0]
  exact F22_h2 rc _ a0_0 a0_1 a0_2 a0_3 a0_4 a0_5 a1 h0
theorem F22_eq (rc : Rec) (md : Md) (a0_0 : Int) (a0_1 : Int) (a0_2 : Int) (a0_3 : Value) (a0_4 : Int) (a0_5 : Int) (a1 : Int) (h0 : Heap) : callStep Try.prog cfg rc md 22 [(.agg #[(.int .i64 a0_0), (.int .i64 a0_1), (.int .i64 a0_2), a0_3, (.int .i64 a0_4), (.int .i64 a0_5)]), (.int .i64 a1)] h0 = F22 rc ⟨md.ro, h0.length⟩ a0_0 a0_1 a0_2 a0_3 a0_4 a0_5 a1 h0 := (callStep_ne (by kernel_rfl)).trans (F22_eq0 rc md a0_0 a0_1 a0_2 a0_3 a0_4 a0_5 a1 h0)

/-- (tombolo/treap.Trees).Size -/
noncomputable def F23 (rc : Rec) (md : Md) (a0_0 : Int) (a0_1 : Int) (a0_2 : Int) (a0_3 : Value) (a0_4 : Int) (a0_5 : Int) (a1 : Int) (h0 : Heap) : Option (Value × Heap) :=
  let h1 : Heap := h0 ++ [.own [(.int .i64 a0_0), (.int .i64 a0_1), (.int .i64 a0_2), a0_3, (.int .i64 a0_4), (.int .i64 a0_5)]]
  ldN 6 (.pointer (some ⟨h0.length, 0, none⟩)) h1 fun v2 =>
  cl (rc md 65 [v2, (.int .i64 a1)] h1) fun v3 h4 =>
  cIn .u64 v3 fun n5 =>
  some ((.int .i64 (IntKind.wrap .i64 (bAnd .u64 n5 65535))), List.take h0.length h4)
theorem F23_eq0 (rc : Rec) (md : Md) (a0_0 : Int) (a0_1 : Int) (a0_2 : Int) (a0_3 : Value) (a0_4 : Int) (a0_5 : Int) (a1 : Int) (h0 : Heap) : callStep0 Try.prog cfg rc md 23 [(.agg #[(.int .i64 a0_0), (.int .i64 a0_1), (.int .i64 a0_2), a0_3, (.int .i64 a0_4), (.int .i64 a0_5)]), (.int .i64 a1)] h0 = F23 rc ⟨md.ro, h0.length⟩ a0_0 a0_1 a0_2 a0_3 a0_4 a0_5 a1 h0 := by kernel_rfl
theorem F23_eq (rc : Rec) (md : Md) (a0_0 : Int) (a0_1 : Int) (a0_2 : Int) (a0_3 : Value) (a0_4 : Int) (a0_5 : Int) (a1 : Int) (h0 : Heap) : callStep Try.prog cfg rc md 23 [(.agg #[(.int .i64 a0_0), (.int .i64 a0_1), (.int .i64 a0_2), a0_3, (.int .i64 a0_4), (.int .i64 a0_5)]), (.int .i64 a1)] h0 = F23 rc ⟨md.ro, h0.length⟩ a0_0 a0_1 a0_2 a0_3 a0_4 a0_5 a1 h0 := (callStep_ne (by kernel_rfl)).trans (F23_eq0 rc md a0_0 a0_1 a0_2 a0_3 a0_4 a0_5 a1 h0)

/-- (tombolo/treap.Trees).Vertices -/
noncomputable def F24 (rc : Rec) (md : Md) (a0_0 : Int) (a0_1 : Int) (a0_2 : Int) (a0_3 : Value) (a0_4 : Int) (a0_5 : Int) (a1 : Int) (h0 : Heap) : Option (Value × Heap) :=
  let h1 : Heap := h0 ++ [.own [(.int .i64 a0_0), (.int .i64 a0_1), (.int .i64 a0_2), a0_3, (.int .i64 a0_4), (.int .i64 a0_5)]]
  ldN 6 (.pointer (some ⟨h0.length, 0, none⟩)) h1 fun v2 =>
  cl (rc md 65 [v2, (.int .i64 a1)] h1) fun v3 h4 =>
  cIn .u64 v3 fun n5 =>
  some ((.int .i64 (IntKind.wrap .i64 (bAnd .u64 (Int.fdiv n5 (2 ^ 16)) 65535))), List.take h0.length h4)
theorem F24_eq0 (rc : Rec) (md : Md) (a0_0 : Int) (a0_1 : Int) (a0_2 : Int) (a0_3 : Value) (a0_4 : Int) (a0_5 : Int) (a1 : Int) (h0 : Heap) : callStep0 Try.prog cfg rc md 24 [(.agg #[(.int .i64 a0_0), (.int .i64 a0_1), (.int .i64 a0_2), a0_3, (.int .i64 a0_4), (.int .i64 a0_5)]), (.int .i64 a1)] h0 = F24 rc ⟨md.ro, h0.length⟩ a0_0 a0_1 a0_2 a0_3 a0_4 a0_5 a1 h0 := by kernel_rfl
theorem F24_eq (rc : Rec) (md : Md) (a0_0 : Int) (a0_1 : Int) (a0_2 : Int) (a0_3 : Value) (a0_4 : Int) (a0_5 : Int) (a1 : Int) (h0 : Heap) : callStep Try.prog cfg rc md 24 [(.agg #[(.int .i64 a0_0), (.int .i64 a0_1), (.int .i64 a0_2), a0_3, (.int .i64 a0_4), (.int .i64 a0_5)]), (.int .i64 a1)] h0 = F24 rc ⟨md.ro, h0.length⟩ a0_0 a0_1 a0_2 a0_3 a0_4 a0_5 a1 h0 := (callStep_ne (by kernel_rfl)).trans (F24_eq0 rc md a0_0 a0_1 a0_2 a0_3 a0_4 a0_5 a1 h0)

/-- (tombolo/treap.Trees).Marked -/
noncomputable def F25 (rc : Rec) (md : Md) (a0_0 : Int) (a0_1 : Int) (a0_2 : Int) (a0_3 : Value) (a0_4 : Int) (a0_5 : Int) (a1 : Int) (a2 : Int) (h0 : Heap) : Option (Value × Heap) :=
  let h1 : Heap := h0 ++ [.own [(.int .i64 a0_0), (.int .i64 a0_1), (.int .i64 a0_2), a0_3, (.int .i64 a0_4), (.int .i64 a0_5)]]
  ldN 6 (.pointer (some ⟨h0.length, 0, none⟩)) h1 fun v2 =>
  cl (rc md 66 [v2, (.int .i64 a1)] h1) fun v3 h4 =>
  cIn .u64 v3 fun n5 =>
  shI .shr n5 a2 .u64 fun v6 =>
  aBin Try.prog .and 103 v6 (.int .u64 1) fun v8 =>
  aBin Try.prog .eql 103 v8 (.int .u64 1) fun v9 =>
  fin1 h0 v9 h4
theorem F25_eq0 (rc : Rec) (md : Md) (a0_0 : Int) (a0_1 : Int) (a0_2 : Int) (a0_3 : Value) (a0_4 : Int) (a0_5 : Int) (a1 : Int) (a2 : Int) (h0 : Heap) : callStep0 Try.prog cfg rc md 25 [(.agg #[(.int .i64 a0_0), (.int .i64 a0_1), (.int .i64 a0_2), a0_3, (.int .i64 a0_4), (.int .i64 a0_5)]), (.int .i64 a1), (.int .i64 a2)] h0 = F25 rc ⟨md.ro, h0.length⟩ a0_0 a0_1 a0_2 a0_3 a0_4 a0_5 a1 a2 h0 := by kernel_rfl
theorem F25_eq (rc : Rec) (md : Md) (a0_0 : Int) (a0_1 : Int) (a0_2 : Int) (a0_3 : Value) (a0_4 : Int) (a0_5 : Int) (a1 : Int) (a2 : Int) (h0 : Heap) : callStep Try.prog cfg rc md 25 [(.agg #[(.int .i64 a0_0), (.int .i64 a0_1), (.int .i64 a0_2), a0_3, (.int .i64 a0_4), (.int .i64 a0_5)]), (.int .i64 a1), (.int .i64 a2)] h0 = F25 rc ⟨md.ro, h0.length⟩ a0_0 a0_1 a0_2 a0_3 a0_4 a0_5 a1 a2 h0 := (callStep_ne (by kernel_rfl)).trans (F25_eq0 rc md a0_0 a0_1 a0_2 a0_3 a0_4 a0_5 a1 a2 h0)

/-- (tombolo/treap.Trees).First -/
noncomputable def Jk26_0 (rc : Rec) (md : Md) (h0 : Heap) (e : Exit) (s2 : Value) (s3 : Value) (s6 : Value) (s7 : Value) (h : Heap) : Option (Value × Heap) :=
  match e with
  | .normal =>
    fin1 h0 s6 h
  | .exit j =>
    bif Nat.beq j 0 then
      fin1 h0 s6 h
    else
      none
  | .ret =>
    fin1 h0 s6 h
  | .goto l => none
  | .panic ps => none
  | .outgrown => none
theorem Jk26_0_at (rc : Rec) (md : Md) (h0 : Heap) (e : Exit) (t : T) (h : Heap) : kAt Try.prog cfg rc md 33 (bodyOf Try.prog 26) [1, 1, 1, 0] (retK Try.prog cfg 26 (rsOf Try.prog 26) h0) e t h = Jk26_0 rc md h0 e (t 2) (t 3) (t 6) (t 7) h := by cases e <;> kernel_rfl
/-- a round -/
noncomputable def Jr26_0 (rc : Rec) (md : Md) (s2 : Value) (s3 : Value) (s6 : Value) (s7 : Value) (h : Heap) : Option (((Value × Value × Value × Value) × Heap) ⊕ (Exit × (Value × Value × Value × Value) × Heap)) :=
  ldN 6 s3 h fun v1 =>
  cl (rc md 63 [v1, s7, (.int .i64 3)] h) fun v2 h3 =>
  cIn .i64 v2 fun n4 =>
  ldN 6 s3 h3 fun v5 =>
  cl (rc md 67 [v5, (.int .i64 n4), s2] h3) fun v6 h7 =>
  cBn v6 fun b8 =>
  bif b8 then
    some (.inl ((s2, s3, s6, (.int .i64 n4)), h7))
  else
    ldN 6 s3 h7 fun v9 =>
    cl (rc md 25 [v9, s7, s2] h7) fun v10 h11 =>
    cBn v10 fun b12 =>
    bif b12 then
      some (.inr (.ret, (s2, s3, s7, s7), h11))
    else
      ldN 6 s3 h11 fun v13 =>
      cl (rc md 63 [v13, s7, (.int .i64 4)] h11) fun v14 h15 =>
      cIn .i64 v14 fun n16 =>
      some (.inl ((s2, s3, s6, (.int .i64 n16)), h15))
theorem Jr26_0_at (rc : Rec) (md : Md) (t : T) (h : Heap) : exec Try.prog cfg rc md 33 (sub (bodyOf Try.prog 26) [1, 1, 1, 0, 0]) (rndK (fun t => (t 2, t 3, t 6, t 7))) t h = Jr26_0 rc md (t 2) (t 3) (t 6) (t 7) h := by kernel_rfl
noncomputable def J26_0 (rc : Rec) (md : Md) (h0 : Heap) (s2 : Value) (s3 : Value) (s6 : Value) (s7 : Value) (h : Heap) : Option (Value × Heap) :=
  runL (fun x : (Value × Value × Value × Value) × Heap => Jr26_0 rc md x.1.1 x.1.2.1 x.1.2.2.1 x.1.2.2.2 x.2) (fun e (s : Value × Value × Value × Value) h => Jk26_0 rc md h0 e s.1 s.2.1 s.2.2.1 s.2.2.2 h) (s2, s3, s6, s7) h
theorem J26_0_step (rc : Rec) (md : Md) (h0 : Heap) (s2 : Value) (s3 : Value) (s6 : Value) (s7 : Value) (h : Heap) : J26_0 rc md h0 s2 s3 s6 s7 h = (Jr26_0 rc md s2 s3 s6 s7 h).bind fun x => match x with
    | .inl (s, h) => J26_0 rc md h0 s.1 s.2.1 s.2.2.1 s.2.2.2 h
    | .inr (e, s, h) => Jk26_0 rc md h0 e s.1 s.2.1 s.2.2.1 s.2.2.2 h := by
  unfold J26_0
  rw [runL_eq]
  refine congrArg (Option.bind _) (funext fun x => ?_)
  rcases x with ⟨s, h⟩ | ⟨e, s, h⟩ <;> rfl
theorem J26_0_cut (rc : Rec) (md : Md) (h0 : Heap) : cut Try.prog cfg rc md 33 (bodyOf Try.prog 26) [1, 1, 1, 0] (retK Try.prog cfg 26 (rsOf Try.prog 26) h0) = fun t h => J26_0 rc md h0 (t 2) (t 3) (t 6) (t 7) h := by
  funext t h
  have e : sub (bodyOf Try.prog 26) [1, 1, 1, 0] = .loop (sub (bodyOf Try.prog 26) [1, 1, 1, 0, 0]) := by kernel_rfl
  unfold cut
  rw [e]
  exact loop_eq (by kernel_rfl) (fun t => (t 2, t 3, t 6, t 7)) (fun x : (Value × Value × Value × Value) × Heap => Jr26_0 rc md x.1.1 x.1.2.1 x.1.2.2.1 x.1.2.2.2 x.2) (fun t h => Jr26_0_at rc md t h) (fun e (s : Value × Value × Value × Value) h => Jk26_0 rc md h0 e s.1 s.2.1 s.2.2.1 s.2.2.2 h) (fun e t h => Jk26_0_at rc md h0 e t h) t h
noncomputable def F26 (rc : Rec) (md : Md) (a0_0 : Int) (a0_1 : Int) (a0_2 : Int) (a0_3 : Value) (a0_4 : Int) (a0_5 : Int) (a1 : Int) (a2 : Int) (h0 : Heap) : Option (Value × Heap) :=
  let h1 : Heap := h0 ++ [.own [(.int .i64 a0_0), (.int .i64 a0_1), (.int .i64 a0_2), a0_3, (.int .i64 a0_4), (.int .i64 a0_5)]]
  ldN 6 (.pointer (some ⟨h0.length, 0, none⟩)) h1 fun v2 =>
  cl (rc md 67 [v2, (.int .i64 a1), (.int .i64 a2)] h1) fun v3 h4 =>
  cBn v3 fun b5 =>
  bif !b5 then
    some ((.int .i64 0), List.take h0.length h4)
  else
    J26_0 rc md h0 (.int .i64 a2) (.pointer (some ⟨h0.length, 0, none⟩)) (.int .i64 0) (.int .i64 a1) h4
noncomputable def F26H (rc : Rec) (md : Md) (X0 : T → Heap → Option (Value × Heap)) (a0_0 : Int) (a0_1 : Int) (a0_2 : Int) (a0_3 : Value) (a0_4 : Int) (a0_5 : Int) (a1 : Int) (a2 : Int) (h0 : Heap) : Option (Value × Heap) :=
  let h1 : Heap := h0 ++ [.own [(.int .i64 a0_0), (.int .i64 a0_1), (.int .i64 a0_2), a0_3, (.int .i64 a0_4), (.int .i64 a0_5)]]
  ldN 6 (.pointer (some ⟨h0.length, 0, none⟩)) h1 fun v2 =>
  cl (rc md 67 [v2, (.int .i64 a1), (.int .i64 a2)] h1) fun v3 h4 =>
  cBn v3 fun b5 =>
  bif !b5 then
    some ((.int .i64 0), List.take h0.length h4)
  else
    X0 (upd (upd (upd (upd (upd (upd (upd (upd (upd (args0 [(.agg #[(.int .i64 a0_0), (.int .i64 a0_1), (.int .i64 a0_2), a0_3, (.int .i64 a0_4), (.int .i64 a0_5)]), (.int .i64 a1), (.int .i64 a2)]) 3 (.pointer (some ⟨h0.length, 0, none⟩))) 6 (.int .i64 0)) 9 (.int .i64 a1)) 7 (.int .i64 a1)) 10 v2) 11 (.int .i64 a1)) 12 (.int .i64 a2)) 13 (.bool b5)) 14 (.bool (!b5))) h4
theorem F26_h0 (rc : Rec) (md : Md) (a0_0 : Int) (a0_1 : Int) (a0_2 : Int) (a0_3 : Value) (a0_4 : Int) (a0_5 : Int) (a1 : Int) (a2 : Int) (h0 : Heap) : callStep0 Try.prog cfg rc md 26 [(.agg #[(.int .i64 a0_0), (.int .i64 a0_1), (.int .i64 a0_2), a0_3, (.int .i64 a0_4), (.int .i64 a0_5)]), (.int .i64 a1), (.int .i64 a2)] h0 = exec Try.prog cfg rc ⟨md.ro, h0.length⟩ 33 (bodyOf Try.prog 26) (retK Try.prog cfg 26 (rsOf Try.prog 26) h0) (args0 [(.agg #[(.int .i64 a0_0), (.int .i64 a0_1), (.int .i64 a0_2), a0_3, (.int .i64 a0_4), (.int .i64 a0_5)]), (.int .i64 a1), (.int .i64 a2)]) h0 := callStep0_run (by kernel_rfl) (by kernel_rfl) (by kernel_rfl)
theorem F26_h1 (rc : Rec) (md : Md) (X : Nat → T → Heap → Option (Value × Heap)) (a0_0 : Int) (a0_1 : Int) (a0_2 : Int) (a0_3 : Value) (a0_4 : Int) (a0_5 : Int) (a1 : Int) (a2 : Int) (h0 : Heap) : execG Try.prog cfg X rc md 33 (replS (bodyOf Try.prog 26) [([1, 1, 1, 0], 0)]) (retK Try.prog cfg 26 (rsOf Try.prog 26) h0) (args0 [(.agg #[(.int .i64 a0_0), (.int .i64 a0_1), (.int .i64 a0_2), a0_3, (.int .i64 a0_4), (.int .i64 a0_5)]), (.int .i64 a1), (.int .i64 a2)]) h0 = F26H rc md (X 0) a0_0 a0_1 a0_2 a0_3 a0_4 a0_5 a1 a2 h0 := by kernel_rfl
theorem F26_h2 (rc : Rec) (md : Md) (a0_0 : Int) (a0_1 : Int) (a0_2 : Int) (a0_3 : Value) (a0_4 : Int) (a0_5 : Int) (a1 : Int) (a2 : Int) (h0 : Heap) : F26H rc md (fun t h => J26_0 rc md h0 (t 2) (t 3) (t 6) (t 7) h) a0_0 a0_1 a0_2 a0_3 a0_4 a0_5 a1 a2 h0 = F26 rc md a0_0 a0_1 a0_2 a0_3 a0_4 a0_5 a1 a2 h0 := by unfold F26H F26; kernel_rfl
theorem F26_eq0 (rc : Rec) (md : Md) (a0_0 : Int) (a0_1 : Int) (a0_2 : Int) (a0_3 : Value) (a0_4 : Int) (a0_5 : Int) (a1 : Int) (a2 : Int) (h0 : Heap) : callStep0 Try.prog cfg rc md 26 [(.agg #[(.int .i64 a0_0), (.int .i64 a0_1), (.int .i64 a0_2), a0_3, (.int .i64 a0_4), (.int .i64 a0_5)]), (.int .i64 a1), (.int .i64 a2)] h0 = F26 rc ⟨md.ro, h0.length⟩ a0_0 a0_1 a0_2 a0_3 a0_4 a0_5 a1 a2 h0 := by
  rw [F26_h0, exec_holes [([1, 1, 1, 0], 0)] (by kernel_rfl), F26_h1, show (goX Try.prog cfg rc ⟨md.ro, h0.length⟩ 33 (bodyOf Try.prog 26) [([1, 1, 1, 0], 0)] (retK Try.prog cfg 26 (rsOf Try.prog 26) h0)) 0 = _ from J26_0_cut rc ⟨md.ro, h0.length⟩ h0]
  exact F26_h2 rc _ a0_0 a0_1 a0_2 a0_3 a0_4 a0_5 a1 a2 h0
theorem F26_eq (rc : Rec) (md : Md) (a0_0 : Int) (a0_1 : Int) (a0_2 : Int) (a0_3 : Value) (a0_4 : Int) (a0_5 : Int) (a1 : Int) (a2 : Int) (h0 : Heap) : callStep Try.prog cfg rc md 26 [(.agg #[(.int .i64 a0_0), (.int .i64 a0_1), (.int .i64 a0_2), a0_3, (.int .i64 a0_4), (.int .i64 a0_5)]), (.int .i64 a1), (.int .i64 a2)] h0 = F26 rc ⟨md.ro, h0.length⟩ a0_0 a0_1 a0_2 a0_3 a0_4 a0_5 a1 a2 h0 := (callStep_ne (by kernel_rfl)).trans (F26_eq0 rc md a0_0 a0_1 a0_2 a0_3 a0_4 a0_5 a1 a2 h0)

/-- (*tombolo/tombololaw09.play).row -/
noncomputable def F27 (rc : Rec) (md : Md) (a0 : Value) (a1 : Int) (h0 : Heap) : Option (Value × Heap) :=
  (bif wantV (.bool (decide (a1 < 0))) false then
  some (a0, h0)
  else some (undef, h0)).bind fun p1 =>
  (bif wantV (.bool (decide (a1 < 0))) false then
  bif okNil Try.prog p1.1 then
  some (p1.1, p1.2)
  else none
  else some (undef, p1.2)).bind fun p2 =>
  (bif wantV (.bool (decide (a1 < 0))) false then
  fA 10 p2.1 fun v3 =>
  some (v3, p2.2)
  else some (undef, p2.2)).bind fun p4 =>
  (bif wantV (.bool (decide (a1 < 0))) false then
  fA 0 p4.1 fun v5 =>
  some (v5, p4.2)
  else some (undef, p4.2)).bind fun p6 =>
  (bif wantV (.bool (decide (a1 < 0))) false then
  ld1 p6.1 p6.2 fun v7 =>
  some (v7, p6.2)
  else some (undef, p6.2)).bind fun p8 =>
  (bif wantV (.bool (decide (a1 < 0))) false then
  lenS p8.1 fun v9 =>
  cIn .i64 v9 fun n10 =>
  some ((.int .i64 n10), p8.2)
  else some (undef, p8.2)).bind fun p11 =>
  (bif wantV (.bool (decide (a1 < 0))) false then
  aBin Try.prog .eql 3 p11.1 (.int .i64 0) fun v12 =>
  some (v12, p11.2)
  else some (undef, p11.2)).bind fun p13 =>
  cBn (bif (decide (a1 < 0)) then (.bool true) else p13.1) fun b14 =>
  bif b14 then
    some ((.int .i64 (-1)), h0)
  else
    bif okNil Try.prog a0 then
    fA 10 a0 fun v15 =>
    fA 0 v15 fun v16 =>
    ld1 v16 p13.2 fun v17 =>
    lenS v17 fun v18 =>
    cIn .i64 v18 fun n19 =>
    divI .rem a1 n19 .i64 fun v20 =>
    fin2 h0 v20
    else none
theorem F27_eq0 (rc : Rec) (md : Md) (a0 : Value) (a1 : Int) (h0 : Heap) : callStep0 Try.prog cfg rc md 27 [a0, (.int .i64 a1)] h0 = F27 rc ⟨h0.length, h0.length⟩ a0 a1 h0 := by kernel_rfl
theorem F27_eq (rc : Rec) (md : Md) (a0 : Value) (a1 : Int) (h0 : Heap) : callStep Try.prog cfg rc md 27 [a0, (.int .i64 a1)] h0 = F27 rc ⟨h0.length, h0.length⟩ a0 a1 h0 := (callStep_ne (by kernel_rfl)).trans (F27_eq0 rc md a0 a1 h0)

/-- (tombolo/treap.Trees).Split -/
noncomputable def F28 (rc : Rec) (md : Md) (a0_0 : Int) (a0_1 : Int) (a0_2 : Int) (a0_3 : Value) (a0_4 : Int) (a0_5 : Int) (a1 : Int) (a2 : Int) (h0 : Heap) : Option (Value × Heap) :=
  let h1 : Heap := h0 ++ [.own [(.int .i64 a0_0), (.int .i64 a0_1), (.int .i64 a0_2), a0_3, (.int .i64 a0_4), (.int .i64 a0_5)]]
  ldN 6 (.pointer (some ⟨h0.length, 0, none⟩)) h1 fun v2 =>
  ldN 6 (.pointer (some ⟨h0.length, 0, none⟩)) h1 fun v3 =>
  cl (rc md 23 [v3, (.int .i64 a1)] h1) fun v4 h5 =>
  cIn .i64 v4 fun n6 =>
  cLE true (fun hq => ldN 6 (.pointer (some ⟨h0.length, 0, none⟩)) hq some) v2 h1 h5 <|
  cl (rc md 68 [v2, (.int .i64 a1), (.int .i64 (if n6 < (if 0 > a2 then 0 else a2) then n6 else (if 0 > a2 then 0 else a2)))] h5) fun v7 h8 =>
  exT v7 0 fun v9 =>
  cIn .i64 v9 fun n10 =>
  exT v7 1 fun v11 =>
  cIn .i64 v11 fun n12 =>
  ldN 6 (.pointer (some ⟨h0.length, 0, none⟩)) h8 fun v13 =>
  cl (rc md 69 [v13, (.int .i64 n10), (.int .i64 0)] h8) fun v14 h15 =>
  ldN 6 (.pointer (some ⟨h0.length, 0, none⟩)) h15 fun v16 =>
  cl (rc md 69 [v16, (.int .i64 n12), (.int .i64 0)] h15) fun v17 h18 =>
  some ((.tuple #[(.int .i64 n10), (.int .i64 n12)]), List.take h0.length h18)
theorem F28_eq0 (rc : Rec) (md : Md) (a0_0 : Int) (a0_1 : Int) (a0_2 : Int) (a0_3 : Value) (a0_4 : Int) (a0_5 : Int) (a1 : Int) (a2 : Int) (h0 : Heap) : callStep0 Try.prog cfg rc md 28 [(.agg #[(.int .i64 a0_0), (.int .i64 a0_1), (.int .i64 a0_2), a0_3, (.int .i64 a0_4), (.int .i64 a0_5)]), (.int .i64 a1), (.int .i64 a2)] h0 = F28 rc ⟨md.ro, h0.length⟩ a0_0 a0_1 a0_2 a0_3 a0_4 a0_5 a1 a2 h0 := by kernel_rfl
theorem F28_eq (rc : Rec) (md : Md) (a0_0 : Int) (a0_1 : Int) (a0_2 : Int) (a0_3 : Value) (a0_4 : Int) (a0_5 : Int) (a1 : Int) (a2 : Int) (h0 : Heap) : callStep Try.prog cfg rc md 28 [(.agg #[(.int .i64 a0_0), (.int .i64 a0_1), (.int .i64 a0_2), a0_3, (.int .i64 a0_4), (.int .i64 a0_5)]), (.int .i64 a1), (.int .i64 a2)] h0 = F28 rc ⟨md.ro, h0.length⟩ a0_0 a0_1 a0_2 a0_3 a0_4 a0_5 a1 a2 h0 := (callStep_ne (by kernel_rfl)).trans (F28_eq0 rc md a0_0 a0_1 a0_2 a0_3 a0_4 a0_5 a1 a2 h0)

/-- (tombolo/treap.Trees).Merge -/
noncomputable def F29 (rc : Rec) (md : Md) (a0_0 : Int) (a0_1 : Int) (a0_2 : Int) (a0_3 : Value) (a0_4 : Int) (a0_5 : Int) (a1 : Int) (a2 : Int) (h0 : Heap) : Option (Value × Heap) :=
  let h1 : Heap := h0 ++ [.own [(.int .i64 a0_0), (.int .i64 a0_1), (.int .i64 a0_2), a0_3, (.int .i64 a0_4), (.int .i64 a0_5)]]
  ldN 6 (.pointer (some ⟨h0.length, 0, none⟩)) h1 fun v2 =>
  cl (rc md 70 [v2, (.int .i64 a1), (.int .i64 a2)] h1) fun v3 h4 =>
  cIn .i64 v3 fun n5 =>
  ldN 6 (.pointer (some ⟨h0.length, 0, none⟩)) h4 fun v6 =>
  cl (rc md 69 [v6, (.int .i64 n5), (.int .i64 0)] h4) fun v7 h8 =>
  some ((.int .i64 n5), List.take h0.length h8)
theorem F29_eq0 (rc : Rec) (md : Md) (a0_0 : Int) (a0_1 : Int) (a0_2 : Int) (a0_3 : Value) (a0_4 : Int) (a0_5 : Int) (a1 : Int) (a2 : Int) (h0 : Heap) : callStep0 Try.prog cfg rc md 29 [(.agg #[(.int .i64 a0_0), (.int .i64 a0_1), (.int .i64 a0_2), a0_3, (.int .i64 a0_4), (.int .i64 a0_5)]), (.int .i64 a1), (.int .i64 a2)] h0 = F29 rc ⟨md.ro, h0.length⟩ a0_0 a0_1 a0_2 a0_3 a0_4 a0_5 a1 a2 h0 := by kernel_rfl
theorem F29_eq (rc : Rec) (md : Md) (a0_0 : Int) (a0_1 : Int) (a0_2 : Int) (a0_3 : Value) (a0_4 : Int) (a0_5 : Int) (a1 : Int) (a2 : Int) (h0 : Heap) : callStep Try.prog cfg rc md 29 [(.agg #[(.int .i64 a0_0), (.int .i64 a0_1), (.int .i64 a0_2), a0_3, (.int .i64 a0_4), (.int .i64 a0_5)]), (.int .i64 a1), (.int .i64 a2)] h0 = F29 rc ⟨md.ro, h0.length⟩ a0_0 a0_1 a0_2 a0_3 a0_4 a0_5 a1 a2 h0 := (callStep_ne (by kernel_rfl)).trans (F29_eq0 rc md a0_0 a0_1 a0_2 a0_3 a0_4 a0_5 a1 a2 h0)

/-- (tombolo/treap.Trees).Mark -/
noncomputable def Jk30_1 (rc : Rec) (md : Md) (h0 : Heap) (e : Exit) (s4 : Value) (s9 : Value) (h : Heap) : Option (Value × Heap) :=
  match e with
  | .normal =>
    some ((.tuple #[]), List.take h0.length h)
  | .exit j =>
    bif Nat.beq j 0 then
      some ((.tuple #[]), List.take h0.length h)
    else
      none
  | .ret =>
    some ((.tuple #[]), List.take h0.length h)
  | .goto l => none
  | .panic ps => none
  | .outgrown => none
theorem Jk30_1_at (rc : Rec) (md : Md) (h0 : Heap) (e : Exit) (t : T) (h : Heap) : kAt Try.prog cfg rc md 39 (bodyOf Try.prog 30) [1, 1, 1, 1, 1, 0] (retK Try.prog cfg 30 (rsOf Try.prog 30) h0) e t h = Jk30_1 rc md h0 e (t 4) (t 9) h := by cases e <;> kernel_rfl
/-- a round -/
noncomputable def Jr30_1 (rc : Rec) (md : Md) (s4 : Value) (s9 : Value) (h : Heap) : Option (((Value × Value) × Heap) ⊕ (Exit × (Value × Value) × Heap)) :=
  aBin Try.prog .neq 3 s9 (.int .i64 0) fun v1 =>
  cBn v1 fun b2 =>
  bif b2 then
    ldN 6 s4 h fun v3 =>
    ldN 6 s4 h fun v4 =>
    cl (rc md 66 [v4, s9] h) fun v5 h6 =>
    cIn .u64 v5 fun n7 =>
    cLE true (fun hq => ldN 6 s4 hq some) v3 h h6 <|
    cl (rc md 71 [v3, s9, (.int .u64 n7)] h6) fun v8 h9 =>
    ldN 6 s4 h9 fun v10 =>
    cl (rc md 64 [v10, s9] h9) fun v11 h12 =>
    cIn .i64 v11 fun n13 =>
    some (.inl ((s4, (.int .i64 n13)), h12))
  else
    some (.inr ((.exit 0), (s4, s9), h))
theorem Jr30_1_at (rc : Rec) (md : Md) (t : T) (h : Heap) : exec Try.prog cfg rc md 39 (sub (bodyOf Try.prog 30) [1, 1, 1, 1, 1, 0, 0]) (rndK (fun t => (t 4, t 9))) t h = Jr30_1 rc md (t 4) (t 9) h := by kernel_rfl
noncomputable def J30_1 (rc : Rec) (md : Md) (h0 : Heap) (s4 : Value) (s9 : Value) (h : Heap) : Option (Value × Heap) :=
  runL (fun x : (Value × Value) × Heap => Jr30_1 rc md x.1.1 x.1.2 x.2) (fun e (s : Value × Value) h => Jk30_1 rc md h0 e s.1 s.2 h) (s4, s9) h
theorem J30_1_step (rc : Rec) (md : Md) (h0 : Heap) (s4 : Value) (s9 : Value) (h : Heap) : J30_1 rc md h0 s4 s9 h = (Jr30_1 rc md s4 s9 h).bind fun x => match x with
    | .inl (s, h) => J30_1 rc md h0 s.1 s.2 h
    | .inr (e, s, h) => Jk30_1 rc md h0 e s.1 s.2 h := by
  unfold J30_1
  rw [runL_eq]
  refine congrArg (Option.bind _) (funext fun x => ?_)
  rcases x with ⟨s, h⟩ | ⟨e, s, h⟩ <;> rfl
theorem J30_1_cut (rc : Rec) (md : Md) (h0 : Heap) : cut Try.prog cfg rc md 39 (bodyOf Try.prog 30) [1, 1, 1, 1, 1, 0] (retK Try.prog cfg 30 (rsOf Try.prog 30) h0) = fun t h => J30_1 rc md h0 (t 4) (t 9) h := by
  funext t h
  have e : sub (bodyOf Try.prog 30) [1, 1, 1, 1, 1, 0] = .loop (sub (bodyOf Try.prog 30) [1, 1, 1, 1, 1, 0, 0]) := by kernel_rfl
  unfold cut
  rw [e]
  exact loop_eq (by kernel_rfl) (fun t => (t 4, t 9)) (fun x : (Value × Value) × Heap => Jr30_1 rc md x.1.1 x.1.2 x.2) (fun t h => Jr30_1_at rc md t h) (fun e (s : Value × Value) h => Jk30_1 rc md h0 e s.1 s.2 h) (fun e t h => Jk30_1_at rc md h0 e t h) t h
noncomputable def J30_0 (rc : Rec) (md : Md) (h0 : Heap) (s1 : Value) (s4 : Value) (s8 : Value) (h : Heap) : Option (Value × Heap) :=
  ldN 6 s4 h fun v1 =>
  cl (rc md 71 [v1, s1, s8] h) fun v2 h3 =>
  ldN 6 s4 h3 fun v4 =>
  cl (rc md 64 [v4, s1] h3) fun v5 h6 =>
  cIn .i64 v5 fun n7 =>
  J30_1 rc md h0 s4 (.int .i64 n7) h6
noncomputable def J30_0H (rc : Rec) (md : Md) (h0 : Heap) (X0 : T → Heap → Option (Value × Heap)) (t : T) (h : Heap) : Option (Value × Heap) :=
  ldN 6 (t 4) h fun v1 =>
  cl (rc md 71 [v1, (t 1), (t 8)] h) fun v2 h3 =>
  ldN 6 (t 4) h3 fun v4 =>
  cl (rc md 64 [v4, (t 1)] h3) fun v5 h6 =>
  cIn .i64 v5 fun n7 =>
  X0 (upd (upd (upd (upd (upd (upd (upd (upd t 21 v1) 22 (t 1)) 23 (t 8)) 24 v2) 25 v4) 26 (t 1)) 27 (.int .i64 n7)) 9 (.int .i64 n7)) h6
theorem J30_0_h1 (rc : Rec) (md : Md) (h0 : Heap) (X : Nat → T → Heap → Option (Value × Heap)) (t : T) (h : Heap) : execG Try.prog cfg X rc md 39 (sub (replS (bodyOf Try.prog 30) [([1, 1, 1, 1, 1, 0], 0)]) [1, 1, 1]) (kAtG Try.prog cfg X rc md 39 (replS (bodyOf Try.prog 30) [([1, 1, 1, 1, 1, 0], 0)]) [1, 1, 1] (retK Try.prog cfg 30 (rsOf Try.prog 30) h0)) t h = J30_0H rc md h0 (X 0) t h := by kernel_rfl
theorem J30_0_h2 (rc : Rec) (md : Md) (h0 : Heap) (t : T) (h : Heap) : J30_0H rc md h0 (fun t h => J30_1 rc md h0 (t 4) (t 9) h) t h = J30_0 rc md h0 (t 1) (t 4) (t 8) h := by (unfold J30_0H J30_0; kernel_rfl)
theorem J30_0_at (rc : Rec) (md : Md) (h0 : Heap) (t : T) (h : Heap) : cut Try.prog cfg rc md 39 (bodyOf Try.prog 30) [1, 1, 1] (retK Try.prog cfg 30 (rsOf Try.prog 30) h0) t h = J30_0 rc md h0 (t 1) (t 4) (t 8) h := by
  rw [cut_holes [([1, 1, 1, 1, 1, 0], 0)] [1, 1, 1] (by kernel_rfl), J30_0_h1, show (goX Try.prog cfg rc md 39 (bodyOf Try.prog 30) [([1, 1, 1, 1, 1, 0], 0)] (retK Try.prog cfg 30 (rsOf Try.prog 30) h0)) 0 = _ from J30_1_cut rc md h0]
  exact J30_0_h2 rc md h0 t h
theorem J30_0_cut (rc : Rec) (md : Md) (h0 : Heap) : cut Try.prog cfg rc md 39 (bodyOf Try.prog 30) [1, 1, 1] (retK Try.prog cfg 30 (rsOf Try.prog 30) h0) = fun t h => J30_0 rc md h0 (t 1) (t 4) (t 8) h := funext fun t => funext fun h => J30_0_at rc md h0 t h
noncomputable def F30 (rc : Rec) (md : Md) (a0_0 : Int) (a0_1 : Int) (a0_2 : Int) (a0_3 : Value) (a0_4 : Int) (a0_5 : Int) (a1 : Int) (a2 : Int) (a3 : Bool) (h0 : Heap) : Option (Value × Heap) :=
  let h1 : Heap := h0 ++ [.own [(.int .i64 a0_0), (.int .i64 a0_1), (.int .i64 a0_2), a0_3, (.int .i64 a0_4), (.int .i64 a0_5)]]
  ldN 6 (.pointer (some ⟨h0.length, 0, none⟩)) h1 fun v2 =>
  cl (rc md 66 [v2, (.int .i64 a1)] h1) fun v3 h4 =>
  cIn .u64 v3 fun n5 =>
  shI .shl 1 a2 .u64 fun v6 =>
  aBin Try.prog .andNot 103 (.int .u64 n5) v6 fun v8 =>
  bif a3 then
    shI .shl 1 a2 .u64 fun v9 =>
    aBin Try.prog .or 103 v8 v9 fun v11 =>
    J30_0 rc md h0 (.int .i64 a1) (.pointer (some ⟨h0.length, 0, none⟩)) v11 h4
  else
    J30_0 rc md h0 (.int .i64 a1) (.pointer (some ⟨h0.length, 0, none⟩)) v8 h4
noncomputable def F30H (rc : Rec) (md : Md) (X1 : T → Heap → Option (Value × Heap)) (a0_0 : Int) (a0_1 : Int) (a0_2 : Int) (a0_3 : Value) (a0_4 : Int) (a0_5 : Int) (a1 : Int) (a2 : Int) (a3 : Bool) (h0 : Heap) : Option (Value × Heap) :=
  let h1 : Heap := h0 ++ [.own [(.int .i64 a0_0), (.int .i64 a0_1), (.int .i64 a0_2), a0_3, (.int .i64 a0_4), (.int .i64 a0_5)]]
  ldN 6 (.pointer (some ⟨h0.length, 0, none⟩)) h1 fun v2 =>
  cl (rc md 66 [v2, (.int .i64 a1)] h1) fun v3 h4 =>
  cIn .u64 v3 fun n5 =>
  shI .shl 1 a2 .u64 fun v6 =>
  aBin Try.prog .andNot 103 (.int .u64 n5) v6 fun v8 =>
  bif a3 then
    shI .shl 1 a2 .u64 fun v9 =>
    aBin Try.prog .or 103 v8 v9 fun v11 =>
    X1 (upd (upd (upd (upd (upd (upd (upd (upd (upd (upd (upd (upd (upd (upd (args0 [(.agg #[(.int .i64 a0_0), (.int .i64 a0_1), (.int .i64 a0_2), a0_3, (.int .i64 a0_4), (.int .i64 a0_5)]), (.int .i64 a1), (.int .i64 a2), (.bool a3)]) 4 (.pointer (some ⟨h0.length, 0, none⟩))) 10 v2) 11 (.int .i64 a1)) 12 (.int .u64 n5)) 13 (.int .i64 a2)) 14 v6) 15 v8) 8 v8) 16 (.bool a3)) 17 v8) 18 (.int .i64 a2)) 19 v9) 20 v11) 8 v11) h4
  else
    X1 (upd (upd (upd (upd (upd (upd (upd (upd (upd (args0 [(.agg #[(.int .i64 a0_0), (.int .i64 a0_1), (.int .i64 a0_2), a0_3, (.int .i64 a0_4), (.int .i64 a0_5)]), (.int .i64 a1), (.int .i64 a2), (.bool a3)]) 4 (.pointer (some ⟨h0.length, 0, none⟩))) 10 v2) 11 (.int .i64 a1)) 12 (.int .u64 n5)) 13 (.int .i64 a2)) 14 v6) 15 v8) 8 v8) 16 (.bool a3)) h4
theorem F30_h0 (rc : Rec) (md : Md) (a0_0 : Int) (a0_1 : Int) (a0_2 : Int) (a0_3 : Value) (a0_4 : Int) (a0_5 : Int) (a1 : Int) (a2 : Int) (a3 : Bool) (h0 : Heap) : callStep0 Try.prog cfg rc md 30 [(.agg #[(.int .i64 a0_0), (.int .i64 a0_1), (.int .i64 a0_2), a0_3, (.int .i64 a0_4), (.int .i64 a0_5)]), (.int .i64 a1), (.int .i64 a2), (.bool a3)] h0 = exec Try.prog cfg rc ⟨md.ro, h0.length⟩ 39 (bodyOf Try.prog 30) (retK Try.prog cfg 30 (rsOf Try.prog 30) h0) (args0 [(.agg #[(.int .i64 a0_0), (.int .i64 a0_1), (.int .i64 a0_2), a0_3, (.int .i64 a0_4), (.int .i64 a0_5)]), (.int .i64 a1), (.int .i64 a2), (.bool a3)]) h0 := callStep0_run (by kernel_rfl) (by kernel_rfl) (by kernel_rfl)
theorem F30_h1 (rc : Rec) (md : Md) (X : Nat → T → Heap → Option (Value × Heap)) (a0_0 : Int) (a0_1 : Int) (a0_2 : Int) (a0_3 : Value) (a0_4 : Int) (a0_5 : Int) (a1 : Int) (a2 : Int) (a3 : Bool) (h0 : Heap) : execG Try.prog cfg X rc md 39 (replS (bodyOf Try.prog 30) [([1, 1, 1, 1, 1, 0], 0), ([1, 1, 1], 1)]) (retK Try.prog cfg 30 (rsOf Try.prog 30) h0) (args0 [(.agg #[(.int .i64 a0_0), (.int .i64 a0_1), (.int .i64 a0_2), a0_3, (.int .i64 a0_4), (.int .i64 a0_5)]), (.int .i64 a1), (.int .i64 a2), (.bool a3)]) h0 = F30H rc md (X 1) a0_0 a0_1 a0_2 a0_3 a0_4 a0_5 a1 a2 a3 h0 := by kernel_rfl
theorem F30_h2 (rc : Rec) (md : Md) (a0_0 : Int) (a0_1 : Int) (a0_2 : Int) (a0_3 : Value) (a0_4 : Int) (a0_5 : Int) (a1 : Int) (a2 : Int) (a3 : Bool) (h0 : Heap) : F30H rc md (fun t h => J30_0 rc md h0 (t 1) (t 4) (t 8) h) a0_0 a0_1 a0_2 a0_3 a0_4 a0_5 a1 a2 a3 h0 = F30 rc md a0_0 a0_1 a0_2 a0_3 a0_4 a0_5 a1 a2 a3 h0 := by unfold F30H F30; kernel_rfl
theorem F30_eq0 (rc : Rec) (md : Md) (a0_0 : Int) (a0_1 : Int) (a0_2 : Int) (a0_3 : Value) (a0_4 : Int) (a0_5 : Int) (a1 : Int) (a2 : Int) (a3 : Bool) (h0 : Heap) : callStep0 Try.prog cfg rc md 30 [(.agg #[(.int .i64 a0_0), (.int .i64 a0_1), (.int .i64 a0_2), a0_3, (.int .i64 a0_4), (.int .i64 a0_5)]), (.int .i64 a1), (.int .i64 a2), (.bool a3)] h0 = F30 rc ⟨md.ro, h0.length⟩ a0_0 a0_1 a0_2 a0_3 a0_4 a0_5 a1 a2 a3 h0 := by
  rw [F30_h0, exec_holes [([1, 1, 1, 1, 1, 0], 0), ([1, 1, 1], 1)] (by kernel_rfl), F30_h1, show (goX Try.prog cfg rc ⟨md.ro, h0.length⟩ 39 (bodyOf Try.prog 30) [([1, 1, 1, 1, 1, 0], 0), ([1, 1, 1], 1)] (retK Try.prog cfg 30 (rsOf Try.prog 30) h0)) 1 = _ from J30_0_cut rc ⟨md.ro, h0.length⟩ h0]
  exact F30_h2 rc _ a0_0 a0_1 a0_2 a0_3 a0_4 a0_5 a1 a2 a3 h0
theorem F30_eq (rc : Rec) (md : Md) (a0_0 : Int) (a0_1 : Int) (a0_2 : Int) (a0_3 : Value) (a0_4 : Int) (a0_5 : Int) (a1 : Int) (a2 : Int) (a3 : Bool) (h0 : Heap) : callStep Try.prog cfg rc md 30 [(.agg #[(.int .i64 a0_0), (.int .i64 a0_1), (.int .i64 a0_2), a0_3, (.int .i64 a0_4), (.int .i64 a0_5)]), (.int .i64 a1), (.int .i64 a2), (.bool a3)] h0 = F30 rc ⟨md.ro, h0.length⟩ a0_0 a0_1 a0_2 a0_3 a0_4 a0_5 a1 a2 a3 h0 := (callStep_ne (by kernel_rfl)).trans (F30_eq0 rc md a0_0 a0_1 a0_2 a0_3 a0_4 a0_5 a1 a2 a3 h0)

/-- (tombolo/treap.Trees).Alone -/
noncomputable def F56 (rc : Rec) (md : Md) (a0_0 : Int) (a0_1 : Int) (a0_2 : Int) (a0_3 : Value) (a0_4 : Int) (a0_5 : Int) (a1 : Int) (h0 : Heap) : Option (Value × Heap) :=
  let h1 : Heap := h0 ++ [.own [(.int .i64 a0_0), (.int .i64 a0_1), (.int .i64 a0_2), a0_3, (.int .i64 a0_4), (.int .i64 a0_5)]]
  ldN 6 (.pointer (some ⟨h0.length, 0, none⟩)) h1 fun v2 =>
  cl (rc md 82 [v2, (.int .i64 a1), (.int .i64 3), (.int .i64 0)] h1) fun v3 h4 =>
  ldN 6 (.pointer (some ⟨h0.length, 0, none⟩)) h4 fun v5 =>
  cl (rc md 82 [v5, (.int .i64 a1), (.int .i64 4), (.int .i64 0)] h4) fun v6 h7 =>
  ldN 6 (.pointer (some ⟨h0.length, 0, none⟩)) h7 fun v8 =>
  cl (rc md 69 [v8, (.int .i64 a1), (.int .i64 0)] h7) fun v9 h10 =>
  ld1 (.pointer (some ⟨h0.length, 3, none⟩)) h10 fun v11 =>
  ldN 3 (.pointer (some ⟨h0.length, 0, none⟩)) h10 fun v12 =>
  cl (rc md 55 [v12, (.int .i64 a1), (.int .i64 6)] h10) fun v13 h14 =>
  cIn .i64 v13 fun n15 =>
  ldN 6 (.pointer (some ⟨h0.length, 0, none⟩)) h14 fun v16 =>
  cl (rc md 83 [v16, (.int .i64 a1), (.int .u64 0)] h14) fun v17 h18 =>
  cIn .u64 v17 fun n19 =>
  bif okNil Try.prog v11 then
  clI Try.prog rc md v11 "Store" [(.int .i64 n15), (.int .u64 n19)] h18 fun v20 h21 =>
  some ((.tuple #[]), List.take h0.length h21)
  else none
theorem F56_eq0 (rc : Rec) (md : Md) (a0_0 : Int) (a0_1 : Int) (a0_2 : Int) (a0_3 : Value) (a0_4 : Int) (a0_5 : Int) (a1 : Int) (h0 : Heap) : callStep0 Try.prog cfg rc md 56 [(.agg #[(.int .i64 a0_0), (.int .i64 a0_1), (.int .i64 a0_2), a0_3, (.int .i64 a0_4), (.int .i64 a0_5)]), (.int .i64 a1)] h0 = F56 rc ⟨md.ro, h0.length⟩ a0_0 a0_1 a0_2 a0_3 a0_4 a0_5 a1 h0 := by kernel_rfl
theorem F56_eq (rc : Rec) (md : Md) (a0_0 : Int) (a0_1 : Int) (a0_2 : Int) (a0_3 : Value) (a0_4 : Int) (a0_5 : Int) (a1 : Int) (h0 : Heap) : callStep Try.prog cfg rc md 56 [(.agg #[(.int .i64 a0_0), (.int .i64 a0_1), (.int .i64 a0_2), a0_3, (.int .i64 a0_4), (.int .i64 a0_5)]), (.int .i64 a1)] h0 = F56 rc ⟨md.ro, h0.length⟩ a0_0 a0_1 a0_2 a0_3 a0_4 a0_5 a1 h0 := (callStep_ne (by kernel_rfl)).trans (F56_eq0 rc md a0_0 a0_1 a0_2 a0_3 a0_4 a0_5 a1 h0)

/-- (*tombolo/tombololaw09.play).parent -/
noncomputable def F58 (rc : Rec) (md : Md) (a0 : Value) (a1 : Int) (h0 : Heap) : Option (Value × Heap) :=
  bif okNil Try.prog a0 then
  fA 3 a0 fun v1 =>
  ld1 v1 h0 fun v2 =>
  bif okNil Try.prog a0 then
  fA 0 a0 fun v3 =>
  ldN 3 v3 h0 fun v4 =>
  cl (rc md 55 [v4, (.int .i64 a1), (.int .i64 2)] h0) fun v5 h6 =>
  cIn .i64 v5 fun n7 =>
  cl (rc md 57 [v2, (.int .i64 n7)] h6) fun v8 h9 =>
  exT v8 0 fun v10 =>
  cIn .u64 v10 fun n11 =>
  exT v8 1 fun v12 =>
  cIn .i64 v12 fun n13 =>
  bif okNil Try.prog a0 then
  fA 0 a0 fun v14 =>
  ldN 3 v14 h9 fun v15 =>
  cl (rc md 42 [v15, (.int .i64 a1)] h9) fun v16 h17 =>
  exT v16 0 fun v18 =>
  exT v16 1 fun v19 =>
  cBn v19 fun b20 =>
  let h21 : Heap := h17 ++ [.own [(.bool false), (.int .i64 0), (.int .i64 0), (.int .i64 0), (.int .i64 0)]]
  st md 5 (.pointer (some ⟨h17.length, 0, none⟩)) v18 h21 fun h22 =>
  ld1 (.pointer (some ⟨h17.length, 1, none⟩)) h22 fun v23 =>
  cIn .i64 v23 fun n24 =>
  bif (n24 == 0) then
    cl (rc md 84 [(.int .u64 n11)] h22) fun v25 h26 =>
    aField Try.prog 129 v25 1 fun v27 =>
    cIn .i64 v27 fun n28 =>
    some ((.int .i64 n28), List.take h0.length h26)
  else
    some ((.int .i64 (IntKind.wrap .i64 n11)), List.take h0.length h22)
  else none
  else none
  else none
theorem F58_eq0 (rc : Rec) (md : Md) (a0 : Value) (a1 : Int) (h0 : Heap) : callStep0 Try.prog cfg rc md 58 [a0, (.int .i64 a1)] h0 = F58 rc ⟨md.ro, h0.length⟩ a0 a1 h0 := by kernel_rfl
theorem F58_eq (rc : Rec) (md : Md) (a0 : Value) (a1 : Int) (h0 : Heap) : callStep Try.prog cfg rc md 58 [a0, (.int .i64 a1)] h0 = F58 rc ⟨md.ro, h0.length⟩ a0 a1 h0 := (callStep_ne (by kernel_rfl)).trans (F58_eq0 rc md a0 a1 h0)

/-- tombolo/tomboloref09.Sum -/
noncomputable def F59 (rc : Rec) (md : Md) (a0_0 : Int) (a0_1 : Int) (a0_2 : Int) (a0_3 : Int) (a0_4 : Int) (a0_5 : Int) (a0_6 : Int) (h0 : Heap) : Option (Value × Heap) :=
  let h1 : Heap := h0 ++ [.own [(.int .i64 a0_0), (.int .i64 a0_1), (.int .i64 a0_2), (.int .i64 a0_3), (.int .i64 a0_4), (.int .i64 a0_5), (.int .i64 a0_6)]]
  ld1 (.pointer (some ⟨h0.length, 6, none⟩)) h1 fun v2 =>
  cIn .i64 v2 fun n3 =>
  ld1 (.pointer (some ⟨h0.length, 5, none⟩)) h1 fun v4 =>
  cIn .i64 v4 fun n5 =>
  ld1 (.pointer (some ⟨h0.length, 4, none⟩)) h1 fun v6 =>
  cIn .i64 v6 fun n7 =>
  ld1 (.pointer (some ⟨h0.length, 3, none⟩)) h1 fun v8 =>
  cIn .i64 v8 fun n9 =>
  some ((.int .u64 (IntKind.wrap .u64 ((IntKind.wrap .u64 ((IntKind.wrap .u64 ((IntKind.wrap .u64 ((IntKind.wrap .u64 ((IntKind.wrap .u64 ((IntKind.wrap .u64 n3) * 4)) + (IntKind.wrap .u64 n5))) * 65536)) + (IntKind.wrap .u64 n7))) * 65536)) + (IntKind.wrap .u64 n9)))), h0)
theorem F59_eq0 (rc : Rec) (md : Md) (a0_0 : Int) (a0_1 : Int) (a0_2 : Int) (a0_3 : Int) (a0_4 : Int) (a0_5 : Int) (a0_6 : Int) (h0 : Heap) : callStep0 Try.prog cfg rc md 59 [(.agg #[(.int .i64 a0_0), (.int .i64 a0_1), (.int .i64 a0_2), (.int .i64 a0_3), (.int .i64 a0_4), (.int .i64 a0_5), (.int .i64 a0_6)])] h0 = F59 rc ⟨h0.length, h0.length⟩ a0_0 a0_1 a0_2 a0_3 a0_4 a0_5 a0_6 h0 := by kernel_rfl
theorem F59_eq (rc : Rec) (md : Md) (a0_0 : Int) (a0_1 : Int) (a0_2 : Int) (a0_3 : Int) (a0_4 : Int) (a0_5 : Int) (a0_6 : Int) (h0 : Heap) : callStep Try.prog cfg rc md 59 [(.agg #[(.int .i64 a0_0), (.int .i64 a0_1), (.int .i64 a0_2), (.int .i64 a0_3), (.int .i64 a0_4), (.int .i64 a0_5), (.int .i64 a0_6)])] h0 = alone h0 (F59 rc ⟨0, 0⟩ a0_0 a0_1 a0_2 a0_3 a0_4 a0_5 a0_6 []) := by
  have e : callStep Try.prog cfg rc md 59 [(.agg #[(.int .i64 a0_0), (.int .i64 a0_1), (.int .i64 a0_2), (.int .i64 a0_3), (.int .i64 a0_4), (.int .i64 a0_5), (.int .i64 a0_6)])] h0 = alone h0 (callStep0 Try.prog cfg rc ⟨0, 0⟩ 59 [(.agg #[(.int .i64 a0_0), (.int .i64 a0_1), (.int .i64 a0_2), (.int .i64 a0_3), (.int .i64 a0_4), (.int .i64 a0_5), (.int .i64 a0_6)])] []) := by kernel_rfl
  rw [e, F59_eq0]; rfl

/-- (*tombolo/tombololaw09.play).without -/
noncomputable def Jk60_0 (rc : Rec) (md : Md) (h0 : Heap) (e : Exit) (s1 : Value) (s2 : Value) (s6 : Value) (s7 : Value) (s14 : Value) (s15 : Value) (s16 : Value) (h : Heap) : Option (Value × Heap) :=
  match e with
  | .normal =>
    some (s7, h)
  | .exit j =>
    bif Nat.beq j 0 then
      some (s7, h)
    else
      none
  | .ret =>
    some (s6, h)
  | .goto l => none
  | .panic ps => none
  | .outgrown => none
theorem Jk60_0_at (rc : Rec) (md : Md) (h0 : Heap) (e : Exit) (t : T) (h : Heap) : kAt Try.prog cfg rc md 35 (bodyOf Try.prog 60) [1, 1, 0, 1, 0] (retK Try.prog cfg 60 (rsOf Try.prog 60) h0) e t h = Jk60_0 rc md h0 e (t 1) (t 2) (t 6) (t 7) (t 14) (t 15) (t 16) h := by cases e <;> kernel_rfl
/-- a round -/
noncomputable def Jr60_0 (rc : Rec) (md : Md) (s1 : Value) (s2 : Value) (s6 : Value) (s7 : Value) (s14 : Value) (s15 : Value) (s16 : Value) (h : Heap) : Option (((Value × Value × Value × Value × Value × Value × Value) × Heap) ⊕ (Exit × (Value × Value × Value × Value × Value × Value × Value) × Heap)) :=
  aBin Try.prog .lss 3 s16 s15 fun v1 =>
  cBn v1 fun b2 =>
  bif b2 then
    ixSV 1 s14 s16 fun v3 =>
    ld1 v3 h fun v4 =>
    aBin Try.prog .neq 3 s16 s1 fun v5 =>
    (bif wantV v5 true then
    some (s16, h)
    else some (undef, h)).bind fun p6 =>
    (bif wantV v5 true then
    some (s2, p6.2)
    else some (undef, p6.2)).bind fun p7 =>
    (bif wantV v5 true then
    aBin Try.prog .neq 3 p6.1 p7.1 fun v8 =>
    some (v8, p7.2)
    else some (undef, p7.2)).bind fun p9 =>
    cBn v5 fun q10 =>
    cBn (bif q10 then p9.1 else (.bool false)) fun b11 =>
    bif b11 then
      aBuildSlice Try.prog 43 1 [(0, v4)] p9.2 fun v12 h13 =>
      aBuiltin Try.prog md .append #[43, 43] [s7, v12] h13 fun v14 h15 =>
      aBin Try.prog .add 3 s16 (.int .i64 1) fun v16 =>
      some (.inl ((s1, s2, s6, v14, s14, s15, v16), h15))
    else
      aBin Try.prog .add 3 s16 (.int .i64 1) fun v17 =>
      some (.inl ((s1, s2, s6, s7, s14, s15, v17), p9.2))
  else
    some (.inr ((.exit 0), (s1, s2, s6, s7, s14, s15, s16), h))
theorem Jr60_0_at (rc : Rec) (md : Md) (t : T) (h : Heap) : exec Try.prog cfg rc md 35 (sub (bodyOf Try.prog 60) [1, 1, 0, 1, 0, 0]) (rndK (fun t => (t 1, t 2, t 6, t 7, t 14, t 15, t 16))) t h = Jr60_0 rc md (t 1) (t 2) (t 6) (t 7) (t 14) (t 15) (t 16) h := by kernel_rfl
noncomputable def J60_0 (rc : Rec) (md : Md) (h0 : Heap) (s1 : Value) (s2 : Value) (s6 : Value) (s7 : Value) (s14 : Value) (s15 : Value) (s16 : Value) (h : Heap) : Option (Value × Heap) :=
  runL (fun x : (Value × Value × Value × Value × Value × Value × Value) × Heap => Jr60_0 rc md x.1.1 x.1.2.1 x.1.2.2.1 x.1.2.2.2.1 x.1.2.2.2.2.1 x.1.2.2.2.2.2.1 x.1.2.2.2.2.2.2 x.2) (fun e (s : Value × Value × Value × Value × Value × Value × Value) h => Jk60_0 rc md h0 e s.1 s.2.1 s.2.2.1 s.2.2.2.1 s.2.2.2.2.1 s.2.2.2.2.2.1 s.2.2.2.2.2.2 h) (s1, s2, s6, s7, s14, s15, s16) h
theorem J60_0_step (rc : Rec) (md : Md) (h0 : Heap) (s1 : Value) (s2 : Value) (s6 : Value) (s7 : Value) (s14 : Value) (s15 : Value) (s16 : Value) (h : Heap) : J60_0 rc md h0 s1 s2 s6 s7 s14 s15 s16 h = (Jr60_0 rc md s1 s2 s6 s7 s14 s15 s16 h).bind fun x => match x with
    | .inl (s, h) => J60_0 rc md h0 s.1 s.2.1 s.2.2.1 s.2.2.2.1 s.2.2.2.2.1 s.2.2.2.2.2.1 s.2.2.2.2.2.2 h
    | .inr (e, s, h) => Jk60_0 rc md h0 e s.1 s.2.1 s.2.2.1 s.2.2.2.1 s.2.2.2.2.1 s.2.2.2.2.2.1 s.2.2.2.2.2.2 h := by
  unfold J60_0
  rw [runL_eq]
  refine congrArg (Option.bind _) (funext fun x => ?_)
  rcases x with ⟨s, h⟩ | ⟨e, s, h⟩ <;> rfl
theorem J60_0_cut (rc : Rec) (md : Md) (h0 : Heap) : cut Try.prog cfg rc md 35 (bodyOf Try.prog 60) [1, 1, 0, 1, 0] (retK Try.prog cfg 60 (rsOf Try.prog 60) h0) = fun t h => J60_0 rc md h0 (t 1) (t 2) (t 6) (t 7) (t 14) (t 15) (t 16) h := by
  funext t h
  have e : sub (bodyOf Try.prog 60) [1, 1, 0, 1, 0] = .loop (sub (bodyOf Try.prog 60) [1, 1, 0, 1, 0, 0]) := by kernel_rfl
  unfold cut
  rw [e]
  exact loop_eq (by kernel_rfl) (fun t => (t 1, t 2, t 6, t 7, t 14, t 15, t 16)) (fun x : (Value × Value × Value × Value × Value × Value × Value) × Heap => Jr60_0 rc md x.1.1 x.1.2.1 x.1.2.2.1 x.1.2.2.2.1 x.1.2.2.2.2.1 x.1.2.2.2.2.2.1 x.1.2.2.2.2.2.2 x.2) (fun t h => Jr60_0_at rc md t h) (fun e (s : Value × Value × Value × Value × Value × Value × Value) h => Jk60_0 rc md h0 e s.1 s.2.1 s.2.2.1 s.2.2.2.1 s.2.2.2.2.1 s.2.2.2.2.2.1 s.2.2.2.2.2.2 h) (fun e t h => Jk60_0_at rc md h0 e t h) t h
noncomputable def F60 (rc : Rec) (md : Md) (a0 : Value) (a1 : Int) (a2 : Int) (h0 : Heap) : Option (Value × Heap) :=
  bif okNil Try.prog a0 then
  fA 10 a0 fun v1 =>
  fA 0 v1 fun v2 =>
  ld1 v2 h0 fun v3 =>
  lenS v3 fun v4 =>
  cIn .i64 v4 fun n5 =>
  J60_0 rc md h0 (.int .i64 a1) (.int .i64 a2) (.slice none 0 0) (.slice none 0 0) v3 (.int .i64 n5) (.int .i64 0) h0
  else none
noncomputable def F60H (rc : Rec) (md : Md) (X0 : T → Heap → Option (Value × Heap)) (a0 : Value) (a1 : Int) (a2 : Int) (h0 : Heap) : Option (Value × Heap) :=
  bif okNil Try.prog a0 then
  fA 10 a0 fun v1 =>
  fA 0 v1 fun v2 =>
  ld1 v2 h0 fun v3 =>
  lenS v3 fun v4 =>
  cIn .i64 v4 fun n5 =>
  X0 (upd (upd (upd (upd (upd (upd (upd (upd (upd (args0 [a0, (.int .i64 a1), (.int .i64 a2)]) 6 (.slice none 0 0)) 7 (.slice none 0 0)) 10 a0) 11 a0) 12 v1) 13 v2) 14 v3) 15 (.int .i64 n5)) 16 (.int .i64 0)) h0
  else none
theorem F60_h0 (rc : Rec) (md : Md) (a0 : Value) (a1 : Int) (a2 : Int) (h0 : Heap) : callStep0 Try.prog cfg rc md 60 [a0, (.int .i64 a1), (.int .i64 a2)] h0 = exec Try.prog cfg rc md 35 (bodyOf Try.prog 60) (retK Try.prog cfg 60 (rsOf Try.prog 60) h0) (args0 [a0, (.int .i64 a1), (.int .i64 a2)]) h0 := callStep0_run (by kernel_rfl) (by kernel_rfl) (by kernel_rfl)
theorem F60_h1 (rc : Rec) (md : Md) (X : Nat → T → Heap → Option (Value × Heap)) (a0 : Value) (a1 : Int) (a2 : Int) (h0 : Heap) : execG Try.prog cfg X rc md 35 (replS (bodyOf Try.prog 60) [([1, 1, 0, 1, 0], 0)]) (retK Try.prog cfg 60 (rsOf Try.prog 60) h0) (args0 [a0, (.int .i64 a1), (.int .i64 a2)]) h0 = F60H rc md (X 0) a0 a1 a2 h0 := by kernel_rfl
theorem F60_h2 (rc : Rec) (md : Md) (a0 : Value) (a1 : Int) (a2 : Int) (h0 : Heap) : F60H rc md (fun t h => J60_0 rc md h0 (t 1) (t 2) (t 6) (t 7) (t 14) (t 15) (t 16) h) a0 a1 a2 h0 = F60 rc md a0 a1 a2 h0 := by unfold F60H F60; kernel_rfl
theorem F60_eq0 (rc : Rec) (md : Md) (a0 : Value) (a1 : Int) (a2 : Int) (h0 : Heap) : callStep0 Try.prog cfg rc md 60 [a0, (.int .i64 a1), (.int .i64 a2)] h0 = F60 rc md a0 a1 a2 h0 := by
  rw [F60_h0, exec_holes [([1, 1, 0, 1, 0], 0)] (by kernel_rfl), F60_h1, show (goX Try.prog cfg rc md 35 (bodyOf Try.prog 60) [([1, 1, 0, 1, 0], 0)] (retK Try.prog cfg 60 (rsOf Try.prog 60) h0)) 0 = _ from J60_0_cut rc md h0]
  exact F60_h2 rc _ a0 a1 a2 h0
theorem F60_eq (rc : Rec) (md : Md) (a0 : Value) (a1 : Int) (a2 : Int) (h0 : Heap) : callStep Try.prog cfg rc md 60 [a0, (.int .i64 a1), (.int .i64 a2)] h0 = F60 rc md a0 a1 a2 h0 := (callStep_ne (by kernel_rfl)).trans (F60_eq0 rc md a0 a1 a2 h0)

/-- (tombolo/tomboloref09.Forest).tree -/
noncomputable def J61_3 (rc : Rec) (md : Md) (h0 : Heap) (s1 : Value) (s3 : Value) (s4 : Value) (s9 : Value) (s11 : Value) (s12 : Value) (h : Heap) : Option (Value × Heap) :=
  ldN 4 s4 h fun v1 =>
  aSlice Try.prog 44 s1 none (some s9) none fun v2 =>
  cl (rc md 61 [v1, v2, s11, s3] h) fun v3 h4 =>
  cIn .i64 v3 fun n5 =>
  fA 1 s12 fun v6 =>
  st md 1 v6 (.int .i64 n5) h4 fun h7 =>
  ldN 4 s4 h7 fun v8 =>
  aBin Try.prog .add 3 s9 (.int .i64 1) fun v9 =>
  aSlice Try.prog 44 s1 (some v9) none none fun v10 =>
  cl (rc md 61 [v8, v10, s11, s3] h7) fun v11 h12 =>
  cIn .i64 v11 fun n13 =>
  fA 2 s12 fun v14 =>
  st md 1 v14 (.int .i64 n13) h12 fun h15 =>
  ldN 7 s12 h15 fun v16 =>
  ixSV 7 s3 s11 fun v17 =>
  st md 7 v17 v16 h15 fun h18 =>
  fin1 h0 s11 h18
theorem J61_3_at (rc : Rec) (md : Md) (h0 : Heap) (t : T) (h : Heap) : cut Try.prog cfg rc md 99 (bodyOf Try.prog 61) [1, 1, 1, 1, 1, 1, 1] (retK Try.prog cfg 61 (rsOf Try.prog 61) h0) t h = J61_3 rc md h0 (t 1) (t 3) (t 4) (t 9) (t 11) (t 12) h := by kernel_rfl
theorem J61_3_cut (rc : Rec) (md : Md) (h0 : Heap) : cut Try.prog cfg rc md 99 (bodyOf Try.prog 61) [1, 1, 1, 1, 1, 1, 1] (retK Try.prog cfg 61 (rsOf Try.prog 61) h0) = fun t h => J61_3 rc md h0 (t 1) (t 3) (t 4) (t 9) (t 11) (t 12) h := funext fun t => funext fun h => J61_3_at rc md h0 t h
noncomputable def Jk61_2 (rc : Rec) (md : Md) (h0 : Heap) (e : Exit) (s1 : Value) (s3 : Value) (s4 : Value) (s8 : Value) (s9 : Value) (s11 : Value) (s12 : Value) (s13 : Value) (h : Heap) : Option (Value × Heap) :=
  match e with
  | .normal =>
    J61_3 rc md h0 s1 s3 s4 s9 s11 s12 h
  | .exit j =>
    bif Nat.beq j 2 then
      J61_3 rc md h0 s1 s3 s4 s9 s11 s12 h
    else
      none
  | .ret =>
    fin1 h0 s8 h
  | .goto l => none
  | .panic ps => none
  | .outgrown => none
noncomputable def Jk61_2H (rc : Rec) (md : Md) (h0 : Heap) (X2 : T → Heap → Option (Value × Heap)) (e : Exit) (t : T) (h : Heap) : Option (Value × Heap) :=
  match e with
  | .normal =>
    X2 t h
  | .exit j =>
    bif Nat.beq j 2 then
      X2 t h
    else
      none
  | .ret =>
    fin1 h0 (t 8) h
  | .goto l => none
  | .panic ps => none
  | .outgrown => none
theorem Jk61_2_h1 (rc : Rec) (md : Md) (h0 : Heap) (X : Nat → T → Heap → Option (Value × Heap)) (e : Exit) (t : T) (h : Heap) : kAtG Try.prog cfg X rc md 99 (replS (bodyOf Try.prog 61) [([1, 1, 1, 0, 1, 0], 0), ([1, 1, 1, 1, 1, 1, 1], 2)]) [1, 1, 1, 1, 1, 1, 0, 1, 0] (retK Try.prog cfg 61 (rsOf Try.prog 61) h0) e t h = Jk61_2H rc md h0 (X 2) e t h := by cases e <;> kernel_rfl
theorem Jk61_2_h2 (rc : Rec) (md : Md) (h0 : Heap) (e : Exit) (t : T) (h : Heap) : Jk61_2H rc md h0 (fun t h => J61_3 rc md h0 (t 1) (t 3) (t 4) (t 9) (t 11) (t 12) h) e t h = Jk61_2 rc md h0 e (t 1) (t 3) (t 4) (t 8) (t 9) (t 11) (t 12) (t 13) h := by cases e <;> (unfold Jk61_2H Jk61_2; kernel_rfl)
theorem Jk61_2_at (rc : Rec) (md : Md) (h0 : Heap) (e : Exit) (t : T) (h : Heap) : kAt Try.prog cfg rc md 99 (bodyOf Try.prog 61) [1, 1, 1, 1, 1, 1, 0, 1, 0] (retK Try.prog cfg 61 (rsOf Try.prog 61) h0) e t h = Jk61_2 rc md h0 e (t 1) (t 3) (t 4) (t 8) (t 9) (t 11) (t 12) (t 13) h := by
  rw [kAt_holes [([1, 1, 1, 0, 1, 0], 0), ([1, 1, 1, 1, 1, 1, 1], 2)] [1, 1, 1, 1, 1, 1, 0, 1, 0] (by kernel_rfl), Jk61_2_h1, show (goX Try.prog cfg rc md 99 (bodyOf Try.prog 61) [([1, 1, 1, 0, 1, 0], 0), ([1, 1, 1, 1, 1, 1, 1], 2)] (retK Try.prog cfg 61 (rsOf Try.prog 61) h0)) 2 = _ from J61_3_cut rc md h0]
  exact Jk61_2_h2 rc md h0 e t h
noncomputable def J61_2b0 (rc : Rec) (md : Md) (s1 : Value) (s3 : Value) (s4 : Value) (s8 : Value) (s9 : Value) (s11 : Value) (s12 : Value) (s13 : Value) (h : Heap) : Option (((Value × Value × Value × Value × Value × Value × Value × Value) × Heap) ⊕ (Exit × (Value × Value × Value × Value × Value × Value × Value × Value) × Heap)) :=
  fA 6 s12 fun v1 =>
  ld1 v1 h fun v2 =>
  cIn .i64 v2 fun n3 =>
  fA 2 s4 fun v4 =>
  ld1 v4 h fun v5 =>
  ixSV 1 s1 s13 fun v6 =>
  ld1 v6 h fun v7 =>
  cIn .i64 v7 fun n8 =>
  ixS 1 v5 n8 fun v9 =>
  ld1 v9 h fun v10 =>
  cIn .i64 v10 fun n11 =>
  fA 6 s12 fun v12 =>
  st md 1 v12 (.int .i64 (bOr .i64 n3 n11)) h fun h13 =>
  aBin Try.prog .add 3 s13 (.int .i64 1) fun v14 =>
  some (.inl ((s1, s3, s4, s8, s9, s11, s12, v14), h13))
theorem J61_2b0_at (rc : Rec) (md : Md) (t : T) (h : Heap) : cut Try.prog cfg rc md 99 (sub (bodyOf Try.prog 61) [1, 1, 1, 1, 1, 1, 0, 1, 0, 0]) [1, 0, 0, 1] (rndK (fun t => (t 1, t 3, t 4, t 8, t 9, t 11, t 12, t 13))) t h = J61_2b0 rc md (t 1) (t 3) (t 4) (t 8) (t 9) (t 11) (t 12) (t 13) h := by kernel_rfl
theorem J61_2b0_cut (rc : Rec) (md : Md) : cut Try.prog cfg rc md 99 (sub (bodyOf Try.prog 61) [1, 1, 1, 1, 1, 1, 0, 1, 0, 0]) [1, 0, 0, 1] (rndK (fun t => (t 1, t 3, t 4, t 8, t 9, t 11, t 12, t 13))) = fun t h => J61_2b0 rc md (t 1) (t 3) (t 4) (t 8) (t 9) (t 11) (t 12) (t 13) h := funext fun t => funext fun h => J61_2b0_at rc md t h
/-- a round -/
noncomputable def Jr61_2 (rc : Rec) (md : Md) (s1 : Value) (s3 : Value) (s4 : Value) (s8 : Value) (s9 : Value) (s11 : Value) (s12 : Value) (s13 : Value) (h : Heap) : Option (((Value × Value × Value × Value × Value × Value × Value × Value) × Heap) ⊕ (Exit × (Value × Value × Value × Value × Value × Value × Value × Value) × Heap)) :=
  lenS s1 fun v1 =>
  cIn .i64 v1 fun n2 =>
  aBin Try.prog .lss 3 s13 (.int .i64 n2) fun v3 =>
  cBn v3 fun b4 =>
  bif b4 then
    fA 3 s4 fun v5 =>
    ld1 v5 h fun v6 =>
    ixSV 1 s1 s13 fun v7 =>
    ld1 v7 h fun v8 =>
    cIn .i64 v8 fun n9 =>
    ixS 1 v6 n9 fun v10 =>
    ld1 v10 h fun v11 =>
    cBn v11 fun b12 =>
    bif b12 then
      fA 4 s12 fun v13 =>
      ld1 v13 h fun v14 =>
      cIn .i64 v14 fun n15 =>
      fA 4 s12 fun v16 =>
      st md 1 v16 (.int .i64 (IntKind.wrap .i64 (n15 + 1))) h fun h17 =>
      J61_2b0 rc md s1 s3 s4 s8 s9 s11 s12 s13 h17
    else
      J61_2b0 rc md s1 s3 s4 s8 s9 s11 s12 s13 h
  else
    some (.inr ((.exit 2), (s1, s3, s4, s8, s9, s11, s12, s13), h))
noncomputable def Jr61_2H (rc : Rec) (md : Md) (X0 : T → Heap → Option (((Value × Value × Value × Value × Value × Value × Value × Value) × Heap) ⊕ (Exit × (Value × Value × Value × Value × Value × Value × Value × Value) × Heap))) (t : T) (h : Heap) : Option (((Value × Value × Value × Value × Value × Value × Value × Value) × Heap) ⊕ (Exit × (Value × Value × Value × Value × Value × Value × Value × Value) × Heap)) :=
  lenS (t 1) fun v1 =>
  cIn .i64 v1 fun n2 =>
  aBin Try.prog .lss 3 (t 13) (.int .i64 n2) fun v3 =>
  cBn v3 fun b4 =>
  bif b4 then
    fA 3 (t 4) fun v5 =>
    ld1 v5 h fun v6 =>
    ixSV 1 (t 1) (t 13) fun v7 =>
    ld1 v7 h fun v8 =>
    cIn .i64 v8 fun n9 =>
    ixS 1 v6 n9 fun v10 =>
    ld1 v10 h fun v11 =>
    cBn v11 fun b12 =>
    bif b12 then
      fA 4 (t 12) fun v13 =>
      ld1 v13 h fun v14 =>
      cIn .i64 v14 fun n15 =>
      fA 4 (t 12) fun v16 =>
      st md 1 v16 (.int .i64 (IntKind.wrap .i64 (n15 + 1))) h fun h17 =>
      X0 (upd (upd (upd (upd (upd (upd (upd (upd (upd (upd (upd (upd (upd (upd (upd (upd t 47 (t 13)) 48 (t 1)) 49 (.int .i64 n2)) 50 v3) 53 v5) 54 v6) 55 (t 1)) 56 (t 13)) 57 v7) 58 (.int .i64 n9)) 59 v10) 60 (.bool b12)) 61 v13) 62 (.int .i64 n15)) 63 (.int .i64 (IntKind.wrap .i64 (n15 + 1)))) 64 v16) h17
    else
      X0 (upd (upd (upd (upd (upd (upd (upd (upd (upd (upd (upd (upd t 47 (t 13)) 48 (t 1)) 49 (.int .i64 n2)) 50 v3) 53 v5) 54 v6) 55 (t 1)) 56 (t 13)) 57 v7) 58 (.int .i64 n9)) 59 v10) 60 (.bool b12)) h
  else
    some (.inr ((.exit 2), ((t 1), (t 3), (t 4), (t 8), (t 9), (t 11), (t 12), (t 13)), h))
theorem Jr61_2_h1 (rc : Rec) (md : Md) (X : Nat → T → Heap → Option (((Value × Value × Value × Value × Value × Value × Value × Value) × Heap) ⊕ (Exit × (Value × Value × Value × Value × Value × Value × Value × Value) × Heap))) (t : T) (h : Heap) : execG Try.prog cfg X rc md 99 (replS (sub (bodyOf Try.prog 61) [1, 1, 1, 1, 1, 1, 0, 1, 0, 0]) [([1, 0, 0, 1], 0)]) (rndK (fun t => (t 1, t 3, t 4, t 8, t 9, t 11, t 12, t 13))) t h = Jr61_2H rc md (X 0) t h := by kernel_rfl
theorem Jr61_2_h2 (rc : Rec) (md : Md) (t : T) (h : Heap) : Jr61_2H rc md (fun t h => J61_2b0 rc md (t 1) (t 3) (t 4) (t 8) (t 9) (t 11) (t 12) (t 13) h) t h = Jr61_2 rc md (t 1) (t 3) (t 4) (t 8) (t 9) (t 11) (t 12) (t 13) h := by unfold Jr61_2H Jr61_2; kernel_rfl
theorem Jr61_2_at (rc : Rec) (md : Md) (t : T) (h : Heap) : exec Try.prog cfg rc md 99 (sub (bodyOf Try.prog 61) [1, 1, 1, 1, 1, 1, 0, 1, 0, 0]) (rndK (fun t => (t 1, t 3, t 4, t 8, t 9, t 11, t 12, t 13))) t h = Jr61_2 rc md (t 1) (t 3) (t 4) (t 8) (t 9) (t 11) (t 12) (t 13) h := by
  rw [exec_holes [([1, 0, 0, 1], 0)] (by kernel_rfl), Jr61_2_h1, show (goX Try.prog cfg rc md 99 (sub (bodyOf Try.prog 61) [1, 1, 1, 1, 1, 1, 0, 1, 0, 0]) [([1, 0, 0, 1], 0)] (rndK (fun t => (t 1, t 3, t 4, t 8, t 9, t 11, t 12, t 13)))) 0 = _ from J61_2b0_cut rc md]
  exact Jr61_2_h2 rc md t h
noncomputable def J61_2 (rc : Rec) (md : Md) (h0 : Heap) (s1 : Value) (s3 : Value) (s4 : Value) (s8 : Value) (s9 : Value) (s11 : Value) (s12 : Value) (s13 : Value) (h : Heap) : Option (Value × Heap) :=
  runL (fun x : (Value × Value × Value × Value × Value × Value × Value × Value) × Heap => Jr61_2 rc md x.1.1 x.1.2.1 x.1.2.2.1 x.1.2.2.2.1 x.1.2.2.2.2.1 x.1.2.2.2.2.2.1 x.1.2.2.2.2.2.2.1 x.1.2.2.2.2.2.2.2 x.2) (fun e (s : Value × Value × Value × Value × Value × Value × Value × Value) h => Jk61_2 rc md h0 e s.1 s.2.1 s.2.2.1 s.2.2.2.1 s.2.2.2.2.1 s.2.2.2.2.2.1 s.2.2.2.2.2.2.1 s.2.2.2.2.2.2.2 h) (s1, s3, s4, s8, s9, s11, s12, s13) h
theorem J61_2_step (rc : Rec) (md : Md) (h0 : Heap) (s1 : Value) (s3 : Value) (s4 : Value) (s8 : Value) (s9 : Value) (s11 : Value) (s12 : Value) (s13 : Value) (h : Heap) : J61_2 rc md h0 s1 s3 s4 s8 s9 s11 s12 s13 h = (Jr61_2 rc md s1 s3 s4 s8 s9 s11 s12 s13 h).bind fun x => match x with
    | .inl (s, h) => J61_2 rc md h0 s.1 s.2.1 s.2.2.1 s.2.2.2.1 s.2.2.2.2.1 s.2.2.2.2.2.1 s.2.2.2.2.2.2.1 s.2.2.2.2.2.2.2 h
    | .inr (e, s, h) => Jk61_2 rc md h0 e s.1 s.2.1 s.2.2.1 s.2.2.2.1 s.2.2.2.2.1 s.2.2.2.2.2.1 s.2.2.2.2.2.2.1 s.2.2.2.2.2.2.2 h := by
  unfold J61_2
  rw [runL_eq]
  refine congrArg (Option.bind _) (funext fun x => ?_)
  rcases x with ⟨s, h⟩ | ⟨e, s, h⟩ <;> rfl
theorem J61_2_cut (rc : Rec) (md : Md) (h0 : Heap) : cut Try.prog cfg rc md 99 (bodyOf Try.prog 61) [1, 1, 1, 1, 1, 1, 0, 1, 0] (retK Try.prog cfg 61 (rsOf Try.prog 61) h0) = fun t h => J61_2 rc md h0 (t 1) (t 3) (t 4) (t 8) (t 9) (t 11) (t 12) (t 13) h := by
  funext t h
  have e : sub (bodyOf Try.prog 61) [1, 1, 1, 1, 1, 1, 0, 1, 0] = .loop (sub (bodyOf Try.prog 61) [1, 1, 1, 1, 1, 1, 0, 1, 0, 0]) := by kernel_rfl
  unfold cut
  rw [e]
  exact loop_eq (by kernel_rfl) (fun t => (t 1, t 3, t 4, t 8, t 9, t 11, t 12, t 13)) (fun x : (Value × Value × Value × Value × Value × Value × Value × Value) × Heap => Jr61_2 rc md x.1.1 x.1.2.1 x.1.2.2.1 x.1.2.2.2.1 x.1.2.2.2.2.1 x.1.2.2.2.2.2.1 x.1.2.2.2.2.2.2.1 x.1.2.2.2.2.2.2.2 x.2) (fun t h => Jr61_2_at rc md t h) (fun e (s : Value × Value × Value × Value × Value × Value × Value × Value) h => Jk61_2 rc md h0 e s.1 s.2.1 s.2.2.1 s.2.2.2.1 s.2.2.2.2.1 s.2.2.2.2.2.1 s.2.2.2.2.2.2.1 s.2.2.2.2.2.2.2 h) (fun e t h => Jk61_2_at rc md h0 e t h) t h
noncomputable def J61_1 (rc : Rec) (md : Md) (h0 : Heap) (s1 : Value) (s2 : Value) (s3 : Value) (s4 : Value) (s8 : Value) (s9 : Value) (h : Heap) : Option (Value × Heap) :=
  ixSV 1 s1 s9 fun v1 =>
  ld1 v1 h fun v2 =>
  cIn .i64 v2 fun n3 =>
  lenS s1 fun v4 =>
  cIn .i64 v4 fun n5 =>
  fA 2 s4 fun v6 =>
  ld1 v6 h fun v7 =>
  ixS 1 v7 n3 fun v8 =>
  ld1 v8 h fun v9 =>
  cIn .i64 v9 fun n10 =>
  aBuild Try.prog 56 [(0, s2), (3, (.int .i64 n5)), (5, (.int .i64 n10))] fun v11 =>
  let h12 : Heap := h ++ [.own [(.int .i64 0), (.int .i64 0), (.int .i64 0), (.int .i64 0), (.int .i64 0), (.int .i64 0), (.int .i64 0)]]
  st md 7 (.pointer (some ⟨h.length, 0, none⟩)) v11 h12 fun h13 =>
  J61_2 rc md h0 s1 s3 s4 s8 s9 (.int .i64 n3) (.pointer (some ⟨h.length, 0, none⟩)) (.int .i64 0) h13
noncomputable def J61_1H (rc : Rec) (md : Md) (h0 : Heap) (X1 : T → Heap → Option (Value × Heap)) (t : T) (h : Heap) : Option (Value × Heap) :=
  ixSV 1 (t 1) (t 9) fun v1 =>
  ld1 v1 h fun v2 =>
  cIn .i64 v2 fun n3 =>
  lenS (t 1) fun v4 =>
  cIn .i64 v4 fun n5 =>
  fA 2 (t 4) fun v6 =>
  ld1 v6 h fun v7 =>
  ixS 1 v7 n3 fun v8 =>
  ld1 v8 h fun v9 =>
  cIn .i64 v9 fun n10 =>
  aBuild Try.prog 56 [(0, (t 2)), (3, (.int .i64 n5)), (5, (.int .i64 n10))] fun v11 =>
  let h12 : Heap := h ++ [.own [(.int .i64 0), (.int .i64 0), (.int .i64 0), (.int .i64 0), (.int .i64 0), (.int .i64 0), (.int .i64 0)]]
  st md 7 (.pointer (some ⟨h.length, 0, none⟩)) v11 h12 fun h13 =>
  X1 (upd (upd (upd (upd (upd (upd (upd (upd (upd (upd (upd (upd (upd (upd (upd (upd t 34 (t 1)) 35 (t 9)) 36 v1) 37 (.int .i64 n3)) 11 (.int .i64 n3)) 38 (t 2)) 39 (t 1)) 40 (.int .i64 n5)) 41 v6) 42 v7) 43 (.int .i64 n3)) 44 v8) 45 (.int .i64 n10)) 46 v11) 12 (.pointer (some ⟨h.length, 0, none⟩))) 13 (.int .i64 0)) h13
theorem J61_1_h1 (rc : Rec) (md : Md) (h0 : Heap) (X : Nat → T → Heap → Option (Value × Heap)) (t : T) (h : Heap) : execG Try.prog cfg X rc md 99 (sub (replS (bodyOf Try.prog 61) [([1, 1, 1, 0, 1, 0], 0), ([1, 1, 1, 1, 1, 1, 0, 1, 0], 1), ([1, 1, 1, 1, 1, 1, 1], 2)]) [1, 1, 1, 1]) (kAtG Try.prog cfg X rc md 99 (replS (bodyOf Try.prog 61) [([1, 1, 1, 0, 1, 0], 0), ([1, 1, 1, 1, 1, 1, 0, 1, 0], 1), ([1, 1, 1, 1, 1, 1, 1], 2)]) [1, 1, 1, 1] (retK Try.prog cfg 61 (rsOf Try.prog 61) h0)) t h = J61_1H rc md h0 (X 1) t h := by kernel_rfl
theorem J61_1_h2 (rc : Rec) (md : Md) (h0 : Heap) (t : T) (h : Heap) : J61_1H rc md h0 (fun t h => J61_2 rc md h0 (t 1) (t 3) (t 4) (t 8) (t 9) (t 11) (t 12) (t 13) h) t h = J61_1 rc md h0 (t 1) (t 2) (t 3) (t 4) (t 8) (t 9) h := by (unfold J61_1H J61_1; kernel_rfl)
theorem J61_1_at (rc : Rec) (md : Md) (h0 : Heap) (t : T) (h : Heap) : cut Try.prog cfg rc md 99 (bodyOf Try.prog 61) [1, 1, 1, 1] (retK Try.prog cfg 61 (rsOf Try.prog 61) h0) t h = J61_1 rc md h0 (t 1) (t 2) (t 3) (t 4) (t 8) (t 9) h := by
  rw [cut_holes [([1, 1, 1, 0, 1, 0], 0), ([1, 1, 1, 1, 1, 1, 0, 1, 0], 1), ([1, 1, 1, 1, 1, 1, 1], 2)] [1, 1, 1, 1] (by kernel_rfl), J61_1_h1, show (goX Try.prog cfg rc md 99 (bodyOf Try.prog 61) [([1, 1, 1, 0, 1, 0], 0), ([1, 1, 1, 1, 1, 1, 0, 1, 0], 1), ([1, 1, 1, 1, 1, 1, 1], 2)] (retK Try.prog cfg 61 (rsOf Try.prog 61) h0)) 1 = _ from J61_2_cut rc md h0]
  exact J61_1_h2 rc md h0 t h
theorem J61_1_cut (rc : Rec) (md : Md) (h0 : Heap) : cut Try.prog cfg rc md 99 (bodyOf Try.prog 61) [1, 1, 1, 1] (retK Try.prog cfg 61 (rsOf Try.prog 61) h0) = fun t h => J61_1 rc md h0 (t 1) (t 2) (t 3) (t 4) (t 8) (t 9) h := funext fun t => funext fun h => J61_1_at rc md h0 t h
noncomputable def Jk61_0 (rc : Rec) (md : Md) (h0 : Heap) (e : Exit) (s1 : Value) (s2 : Value) (s3 : Value) (s4 : Value) (s8 : Value) (s9 : Value) (s10 : Value) (h : Heap) : Option (Value × Heap) :=
  match e with
  | .normal =>
    J61_1 rc md h0 s1 s2 s3 s4 s8 s9 h
  | .exit j =>
    bif Nat.beq j 0 then
      J61_1 rc md h0 s1 s2 s3 s4 s8 s9 h
    else
      none
  | .ret =>
    fin1 h0 s8 h
  | .goto l => none
  | .panic ps => none
  | .outgrown => none
noncomputable def Jk61_0H (rc : Rec) (md : Md) (h0 : Heap) (X3 : T → Heap → Option (Value × Heap)) (e : Exit) (t : T) (h : Heap) : Option (Value × Heap) :=
  match e with
  | .normal =>
    X3 t h
  | .exit j =>
    bif Nat.beq j 0 then
      X3 t h
    else
      none
  | .ret =>
    fin1 h0 (t 8) h
  | .goto l => none
  | .panic ps => none
  | .outgrown => none
theorem Jk61_0_h1 (rc : Rec) (md : Md) (h0 : Heap) (X : Nat → T → Heap → Option (Value × Heap)) (e : Exit) (t : T) (h : Heap) : kAtG Try.prog cfg X rc md 99 (replS (bodyOf Try.prog 61) [([1, 1, 1, 1, 1, 1, 0, 1, 0], 1), ([1, 1, 1, 1, 1, 1, 1], 2), ([1, 1, 1, 1], 3)]) [1, 1, 1, 0, 1, 0] (retK Try.prog cfg 61 (rsOf Try.prog 61) h0) e t h = Jk61_0H rc md h0 (X 3) e t h := by cases e <;> kernel_rfl
theorem Jk61_0_h2 (rc : Rec) (md : Md) (h0 : Heap) (e : Exit) (t : T) (h : Heap) : Jk61_0H rc md h0 (fun t h => J61_1 rc md h0 (t 1) (t 2) (t 3) (t 4) (t 8) (t 9) h) e t h = Jk61_0 rc md h0 e (t 1) (t 2) (t 3) (t 4) (t 8) (t 9) (t 10) h := by cases e <;> (unfold Jk61_0H Jk61_0; kernel_rfl)
theorem Jk61_0_at (rc : Rec) (md : Md) (h0 : Heap) (e : Exit) (t : T) (h : Heap) : kAt Try.prog cfg rc md 99 (bodyOf Try.prog 61) [1, 1, 1, 0, 1, 0] (retK Try.prog cfg 61 (rsOf Try.prog 61) h0) e t h = Jk61_0 rc md h0 e (t 1) (t 2) (t 3) (t 4) (t 8) (t 9) (t 10) h := by
  rw [kAt_holes [([1, 1, 1, 1, 1, 1, 0, 1, 0], 1), ([1, 1, 1, 1, 1, 1, 1], 2), ([1, 1, 1, 1], 3)] [1, 1, 1, 0, 1, 0] (by kernel_rfl), Jk61_0_h1, show (goX Try.prog cfg rc md 99 (bodyOf Try.prog 61) [([1, 1, 1, 1, 1, 1, 0, 1, 0], 1), ([1, 1, 1, 1, 1, 1, 1], 2), ([1, 1, 1, 1], 3)] (retK Try.prog cfg 61 (rsOf Try.prog 61) h0)) 3 = _ from J61_1_cut rc md h0]
  exact Jk61_0_h2 rc md h0 e t h
/-- a round -/
noncomputable def Jr61_0 (rc : Rec) (md : Md) (s1 : Value) (s2 : Value) (s3 : Value) (s4 : Value) (s8 : Value) (s9 : Value) (s10 : Value) (h : Heap) : Option (((Value × Value × Value × Value × Value × Value × Value) × Heap) ⊕ (Exit × (Value × Value × Value × Value × Value × Value × Value) × Heap)) :=
  lenS s1 fun v1 =>
  cIn .i64 v1 fun n2 =>
  aBin Try.prog .lss 3 s10 (.int .i64 n2) fun v3 =>
  cBn v3 fun b4 =>
  bif b4 then
    ldN 4 s4 h fun v5 =>
    ixSV 1 s1 s10 fun v6 =>
    ld1 v6 h fun v7 =>
    cIn .i64 v7 fun n8 =>
    ixSV 1 s1 s9 fun v9 =>
    ld1 v9 h fun v10 =>
    cIn .i64 v10 fun n11 =>
    cl (rc md 62 [v5, (.int .i64 n8), (.int .i64 n11)] h) fun v12 h13 =>
    cBn v12 fun b14 =>
    bif b14 then
      aBin Try.prog .add 3 s10 (.int .i64 1) fun v15 =>
      some (.inl ((s1, s2, s3, s4, s8, s10, v15), h13))
    else
      aBin Try.prog .add 3 s10 (.int .i64 1) fun v16 =>
      some (.inl ((s1, s2, s3, s4, s8, s9, v16), h13))
  else
    some (.inr ((.exit 0), (s1, s2, s3, s4, s8, s9, s10), h))
theorem Jr61_0_at (rc : Rec) (md : Md) (t : T) (h : Heap) : exec Try.prog cfg rc md 99 (sub (bodyOf Try.prog 61) [1, 1, 1, 0, 1, 0, 0]) (rndK (fun t => (t 1, t 2, t 3, t 4, t 8, t 9, t 10))) t h = Jr61_0 rc md (t 1) (t 2) (t 3) (t 4) (t 8) (t 9) (t 10) h := by kernel_rfl
noncomputable def J61_0 (rc : Rec) (md : Md) (h0 : Heap) (s1 : Value) (s2 : Value) (s3 : Value) (s4 : Value) (s8 : Value) (s9 : Value) (s10 : Value) (h : Heap) : Option (Value × Heap) :=
  runL (fun x : (Value × Value × Value × Value × Value × Value × Value) × Heap => Jr61_0 rc md x.1.1 x.1.2.1 x.1.2.2.1 x.1.2.2.2.1 x.1.2.2.2.2.1 x.1.2.2.2.2.2.1 x.1.2.2.2.2.2.2 x.2) (fun e (s : Value × Value × Value × Value × Value × Value × Value) h => Jk61_0 rc md h0 e s.1 s.2.1 s.2.2.1 s.2.2.2.1 s.2.2.2.2.1 s.2.2.2.2.2.1 s.2.2.2.2.2.2 h) (s1, s2, s3, s4, s8, s9, s10) h
theorem J61_0_step (rc : Rec) (md : Md) (h0 : Heap) (s1 : Value) (s2 : Value) (s3 : Value) (s4 : Value) (s8 : Value) (s9 : Value) (s10 : Value) (h : Heap) : J61_0 rc md h0 s1 s2 s3 s4 s8 s9 s10 h = (Jr61_0 rc md s1 s2 s3 s4 s8 s9 s10 h).bind fun x => match x with
    | .inl (s, h) => J61_0 rc md h0 s.1 s.2.1 s.2.2.1 s.2.2.2.1 s.2.2.2.2.1 s.2.2.2.2.2.1 s.2.2.2.2.2.2 h
    | .inr (e, s, h) => Jk61_0 rc md h0 e s.1 s.2.1 s.2.2.1 s.2.2.2.1 s.2.2.2.2.1 s.2.2.2.2.2.1 s.2.2.2.2.2.2 h := by
  unfold J61_0
  rw [runL_eq]
  refine congrArg (Option.bind _) (funext fun x => ?_)
  rcases x with ⟨s, h⟩ | ⟨e, s, h⟩ <;> rfl
theorem J61_0_cut (rc : Rec) (md : Md) (h0 : Heap) : cut Try.prog cfg rc md 99 (bodyOf Try.prog 61) [1, 1, 1, 0, 1, 0] (retK Try.prog cfg 61 (rsOf Try.prog 61) h0) = fun t h => J61_0 rc md h0 (t 1) (t 2) (t 3) (t 4) (t 8) (t 9) (t 10) h := by
  funext t h
  have e : sub (bodyOf Try.prog 61) [1, 1, 1, 0, 1, 0] = .loop (sub (bodyOf Try.prog 61) [1, 1, 1, 0, 1, 0, 0]) := by kernel_rfl
  unfold cut
  rw [e]
  exact loop_eq (by kernel_rfl) (fun t => (t 1, t 2, t 3, t 4, t 8, t 9, t 10)) (fun x : (Value × Value × Value × Value × Value × Value × Value) × Heap => Jr61_0 rc md x.1.1 x.1.2.1 x.1.2.2.1 x.1.2.2.2.1 x.1.2.2.2.2.1 x.1.2.2.2.2.2.1 x.1.2.2.2.2.2.2 x.2) (fun t h => Jr61_0_at rc md t h) (fun e (s : Value × Value × Value × Value × Value × Value × Value) h => Jk61_0 rc md h0 e s.1 s.2.1 s.2.2.1 s.2.2.2.1 s.2.2.2.2.1 s.2.2.2.2.2.1 s.2.2.2.2.2.2 h) (fun e t h => Jk61_0_at rc md h0 e t h) t h
noncomputable def F61 (rc : Rec) (md : Md) (a0_0 : Value) (a0_1 : Value) (a0_2 : Value) (a0_3 : Value) (a1 : Value) (a2 : Int) (a3 : Value) (h0 : Heap) : Option (Value × Heap) :=
  let h1 : Heap := h0 ++ [.own [a0_0, a0_1, a0_2, a0_3]]
  lenS a1 fun v2 =>
  cIn .i64 v2 fun n3 =>
  bif (n3 == 0) then
    some ((.int .i64 0), List.take h0.length h1)
  else
    J61_0 rc md h0 a1 (.int .i64 a2) a3 (.pointer (some ⟨h0.length, 0, none⟩)) (.int .i64 0) (.int .i64 0) (.int .i64 0) h1
noncomputable def F61H (rc : Rec) (md : Md) (X0 : T → Heap → Option (Value × Heap)) (a0_0 : Value) (a0_1 : Value) (a0_2 : Value) (a0_3 : Value) (a1 : Value) (a2 : Int) (a3 : Value) (h0 : Heap) : Option (Value × Heap) :=
  let h1 : Heap := h0 ++ [.own [a0_0, a0_1, a0_2, a0_3]]
  lenS a1 fun v2 =>
  cIn .i64 v2 fun n3 =>
  bif (n3 == 0) then
    some ((.int .i64 0), List.take h0.length h1)
  else
    X0 (upd (upd (upd (upd (upd (upd (upd (args0 [(.agg #[a0_0, a0_1, a0_2, a0_3]), a1, (.int .i64 a2), a3]) 4 (.pointer (some ⟨h0.length, 0, none⟩))) 8 (.int .i64 0)) 14 a1) 15 (.int .i64 n3)) 16 (.bool (n3 == 0))) 9 (.int .i64 0)) 10 (.int .i64 0)) h1
theorem F61_h0 (rc : Rec) (md : Md) (a0_0 : Value) (a0_1 : Value) (a0_2 : Value) (a0_3 : Value) (a1 : Value) (a2 : Int) (a3 : Value) (h0 : Heap) : callStep0 Try.prog cfg rc md 61 [(.agg #[a0_0, a0_1, a0_2, a0_3]), a1, (.int .i64 a2), a3] h0 = exec Try.prog cfg rc ⟨md.ro, h0.length⟩ 99 (bodyOf Try.prog 61) (retK Try.prog cfg 61 (rsOf Try.prog 61) h0) (args0 [(.agg #[a0_0, a0_1, a0_2, a0_3]), a1, (.int .i64 a2), a3]) h0 := callStep0_run (by kernel_rfl) (by kernel_rfl) (by kernel_rfl)
theorem F61_h1 (rc : Rec) (md : Md) (X : Nat → T → Heap → Option (Value × Heap)) (a0_0 : Value) (a0_1 : Value) (a0_2 : Value) (a0_3 : Value) (a1 : Value) (a2 : Int) (a3 : Value) (h0 : Heap) : execG Try.prog cfg X rc md 99 (replS (bodyOf Try.prog 61) [([1, 1, 1, 0, 1, 0], 0), ([1, 1, 1, 1, 1, 1, 0, 1, 0], 1), ([1, 1, 1, 1, 1, 1, 1], 2), ([1, 1, 1, 1], 3)]) (retK Try.prog cfg 61 (rsOf Try.prog 61) h0) (args0 [(.agg #[a0_0, a0_1, a0_2, a0_3]), a1, (.int .i64 a2), a3]) h0 = F61H rc md (X 0) a0_0 a0_1 a0_2 a0_3 a1 a2 a3 h0 := by kernel_rfl
theorem F61_h2 (rc : Rec) (md : Md) (a0_0 : Value) (a0_1 : Value) (a0_2 : Value) (a0_3 : Value) (a1 : Value) (a2 : Int) (a3 : Value) (h0 : Heap) : F61H rc md (fun t h => J61_0 rc md h0 (t 1) (t 2) (t 3) (t 4) (t 8) (t 9) (t 10) h) a0_0 a0_1 a0_2 a0_3 a1 a2 a3 h0 = F61 rc md a0_0 a0_1 a0_2 a0_3 a1 a2 a3 h0 := by unfold F61H F61; kernel_rfl
theorem F61_eq0 (rc : Rec) (md : Md) (a0_0 : Value) (a0_1 : Value) (a0_2 : Value) (a0_3 : Value) (a1 : Value) (a2 : Int) (a3 : Value) (h0 : Heap) : callStep0 Try.prog cfg rc md 61 [(.agg #[a0_0, a0_1, a0_2, a0_3]), a1, (.int .i64 a2), a3] h0 = F61 rc ⟨md.ro, h0.length⟩ a0_0 a0_1 a0_2 a0_3 a1 a2 a3 h0 := by
  rw [F61_h0, exec_holes [([1, 1, 1, 0, 1, 0], 0), ([1, 1, 1, 1, 1, 1, 0, 1, 0], 1), ([1, 1, 1, 1, 1, 1, 1], 2), ([1, 1, 1, 1], 3)] (by kernel_rfl), F61_h1, show (goX Try.prog cfg rc ⟨md.ro, h0.length⟩ 99 (bodyOf Try.prog 61) [([1, 1, 1, 0, 1, 0], 0), ([1, 1, 1, 1, 1, 1, 0, 1, 0], 1), ([1, 1, 1, 1, 1, 1, 1], 2), ([1, 1, 1, 1], 3)] (retK Try.prog cfg 61 (rsOf Try.prog 61) h0)) 0 = _ from J61_0_cut rc ⟨md.ro, h0.length⟩ h0]
  exact F61_h2 rc _ a0_0 a0_1 a0_2 a0_3 a1 a2 a3 h0
theorem F61_eq (rc : Rec) (md : Md) (a0_0 : Value) (a0_1 : Value) (a0_2 : Value) (a0_3 : Value) (a1 : Value) (a2 : Int) (a3 : Value) (h0 : Heap) : callStep Try.prog cfg rc md 61 [(.agg #[a0_0, a0_1, a0_2, a0_3]), a1, (.int .i64 a2), a3] h0 = F61 rc ⟨md.ro, h0.length⟩ a0_0 a0_1 a0_2 a0_3 a1 a2 a3 h0 := (callStep_ne (by kernel_rfl)).trans (F61_eq0 rc md a0_0 a0_1 a0_2 a0_3 a1 a2 a3 h0)

/-- (tombolo/tomboloref09.Forest).above -/
noncomputable def F62 (rc : Rec) (md : Md) (a0_0 : Value) (a0_1 : Value) (a0_2 : Value) (a0_3 : Value) (a1 : Int) (a2 : Int) (h0 : Heap) : Option (Value × Heap) :=
  let h1 : Heap := h0 ++ [.own [a0_0, a0_1, a0_2, a0_3]]
  ld1 (.pointer (some ⟨h0.length, 1, none⟩)) h1 fun v2 =>
  ixS 1 v2 a1 fun v3 =>
  ld1 v3 h1 fun v4 =>
  cIn .u64 v4 fun n5 =>
  ld1 (.pointer (some ⟨h0.length, 1, none⟩)) h1 fun v6 =>
  ixS 1 v6 a2 fun v7 =>
  ld1 v7 h1 fun v8 =>
  cIn .u64 v8 fun n9 =>
  (bif wantV (.bool (decide (n5 > n9))) false then
  some ((.int .u64 n5), h1)
  else some (undef, h1)).bind fun p10 =>
  (bif wantV (.bool (decide (n5 > n9))) false then
  some ((.int .u64 n9), p10.2)
  else some (undef, p10.2)).bind fun p11 =>
  (bif wantV (.bool (decide (n5 > n9))) false then
  aBin Try.prog .eql 103 p10.1 p11.1 fun v12 =>
  some (v12, p11.2)
  else some (undef, p11.2)).bind fun p13 =>
  (bif wantV (.bool (decide (n5 > n9))) false then
  some (p13.1, p13.2)
  else some (undef, p13.2)).bind fun p14 =>
  (bif wantV p14.1 true then
  some ((.int .i64 a1), p14.2)
  else some (undef, p14.2)).bind fun p15 =>
  (bif wantV p14.1 true then
  some ((.int .i64 a2), p15.2)
  else some (undef, p15.2)).bind fun p16 =>
  (bif wantV p14.1 true then
  aBin Try.prog .lss 3 p15.1 p16.1 fun v17 =>
  some (v17, p16.2)
  else some (undef, p16.2)).bind fun p18 =>
  (bif wantV (.bool (decide (n5 > n9))) false then
  cBn p14.1 fun q19 =>
  cBn (bif q19 then p18.1 else (.bool false)) fun b20 =>
  some ((.bool b20), p18.2)
  else some (undef, p18.2)).bind fun p21 =>
  cBn (bif (decide (n5 > n9)) then (.bool true) else p21.1) fun b22 =>
  some ((.bool b22), h0)
theorem F62_eq0 (rc : Rec) (md : Md) (a0_0 : Value) (a0_1 : Value) (a0_2 : Value) (a0_3 : Value) (a1 : Int) (a2 : Int) (h0 : Heap) : callStep0 Try.prog cfg rc md 62 [(.agg #[a0_0, a0_1, a0_2, a0_3]), (.int .i64 a1), (.int .i64 a2)] h0 = F62 rc ⟨h0.length, h0.length⟩ a0_0 a0_1 a0_2 a0_3 a1 a2 h0 := by kernel_rfl
theorem F62_eq (rc : Rec) (md : Md) (a0_0 : Value) (a0_1 : Value) (a0_2 : Value) (a0_3 : Value) (a1 : Int) (a2 : Int) (h0 : Heap) : callStep Try.prog cfg rc md 62 [(.agg #[a0_0, a0_1, a0_2, a0_3]), (.int .i64 a1), (.int .i64 a2)] h0 = F62 rc ⟨h0.length, h0.length⟩ a0_0 a0_1 a0_2 a0_3 a1 a2 h0 := (callStep_ne (by kernel_rfl)).trans (F62_eq0 rc md a0_0 a0_1 a0_2 a0_3 a1 a2 h0)

/-- (tombolo/treap.Trees).get -/
noncomputable def F63 (rc : Rec) (md : Md) (a0_0 : Int) (a0_1 : Int) (a0_2 : Int) (a0_3 : Value) (a0_4 : Int) (a0_5 : Int) (a1 : Int) (a2 : Int) (h0 : Heap) : Option (Value × Heap) :=
  let h1 : Heap := h0 ++ [.own [(.int .i64 a0_0), (.int .i64 a0_1), (.int .i64 a0_2), a0_3, (.int .i64 a0_4), (.int .i64 a0_5)]]
  ld1 (.pointer (some ⟨h0.length, 3, none⟩)) h1 fun v2 =>
  ldN 3 (.pointer (some ⟨h0.length, 0, none⟩)) h1 fun v3 =>
  cl (rc md 55 [v3, (.int .i64 a1), (.int .i64 a2)] h1) fun v4 h5 =>
  cIn .i64 v4 fun n6 =>
  bif okNil Try.prog v2 then
  clI Try.prog rc md v2 "Load" [(.int .i64 n6)] h5 fun v7 h8 =>
  cIn .u64 v7 fun n9 =>
  some ((.int .i64 (IntKind.wrap .i64 n9)), List.take h0.length h8)
  else none
theorem F63_eq0 (rc : Rec) (md : Md) (a0_0 : Int) (a0_1 : Int) (a0_2 : Int) (a0_3 : Value) (a0_4 : Int) (a0_5 : Int) (a1 : Int) (a2 : Int) (h0 : Heap) : callStep0 Try.prog cfg rc md 63 [(.agg #[(.int .i64 a0_0), (.int .i64 a0_1), (.int .i64 a0_2), a0_3, (.int .i64 a0_4), (.int .i64 a0_5)]), (.int .i64 a1), (.int .i64 a2)] h0 = F63 rc ⟨md.ro, h0.length⟩ a0_0 a0_1 a0_2 a0_3 a0_4 a0_5 a1 a2 h0 := by kernel_rfl
theorem F63_eq (rc : Rec) (md : Md) (a0_0 : Int) (a0_1 : Int) (a0_2 : Int) (a0_3 : Value) (a0_4 : Int) (a0_5 : Int) (a1 : Int) (a2 : Int) (h0 : Heap) : callStep Try.prog cfg rc md 63 [(.agg #[(.int .i64 a0_0), (.int .i64 a0_1), (.int .i64 a0_2), a0_3, (.int .i64 a0_4), (.int .i64 a0_5)]), (.int .i64 a1), (.int .i64 a2)] h0 = F63 rc ⟨md.ro, h0.length⟩ a0_0 a0_1 a0_2 a0_3 a0_4 a0_5 a1 a2 h0 := (callStep_ne (by kernel_rfl)).trans (F63_eq0 rc md a0_0 a0_1 a0_2 a0_3 a0_4 a0_5 a1 a2 h0)

/-- (tombolo/treap.Trees).parent -/
noncomputable def F64 (rc : Rec) (md : Md) (a0_0 : Int) (a0_1 : Int) (a0_2 : Int) (a0_3 : Value) (a0_4 : Int) (a0_5 : Int) (a1 : Int) (h0 : Heap) : Option (Value × Heap) :=
  let h1 : Heap := h0 ++ [.own [(.int .i64 a0_0), (.int .i64 a0_1), (.int .i64 a0_2), a0_3, (.int .i64 a0_4), (.int .i64 a0_5)]]
  ldN 6 (.pointer (some ⟨h0.length, 0, none⟩)) h1 fun v2 =>
  cl (rc md 85 [v2, (.int .i64 a1)] h1) fun v3 h4 =>
  cBn v3 fun b5 =>
  bif b5 then
    ld1 (.pointer (some ⟨h0.length, 3, none⟩)) h4 fun v6 =>
    ldN 3 (.pointer (some ⟨h0.length, 0, none⟩)) h4 fun v7 =>
    cl (rc md 55 [v7, (.int .i64 a1), (.int .i64 2)] h4) fun v8 h9 =>
    cIn .i64 v8 fun n10 =>
    cl (rc md 86 [v6, (.int .i64 n10)] h9) fun v11 h12 =>
    cIn .i64 v11 fun n13 =>
    some ((.int .i64 n13), List.take h0.length h12)
  else
    ldN 6 (.pointer (some ⟨h0.length, 0, none⟩)) h4 fun v14 =>
    cl (rc md 63 [v14, (.int .i64 a1), (.int .i64 2)] h4) fun v15 h16 =>
    cIn .i64 v15 fun n17 =>
    some ((.int .i64 n17), List.take h0.length h16)
theorem F64_eq0 (rc : Rec) (md : Md) (a0_0 : Int) (a0_1 : Int) (a0_2 : Int) (a0_3 : Value) (a0_4 : Int) (a0_5 : Int) (a1 : Int) (h0 : Heap) : callStep0 Try.prog cfg rc md 64 [(.agg #[(.int .i64 a0_0), (.int .i64 a0_1), (.int .i64 a0_2), a0_3, (.int .i64 a0_4), (.int .i64 a0_5)]), (.int .i64 a1)] h0 = F64 rc ⟨md.ro, h0.length⟩ a0_0 a0_1 a0_2 a0_3 a0_4 a0_5 a1 h0 := by kernel_rfl
theorem F64_eq (rc : Rec) (md : Md) (a0_0 : Int) (a0_1 : Int) (a0_2 : Int) (a0_3 : Value) (a0_4 : Int) (a0_5 : Int) (a1 : Int) (h0 : Heap) : callStep Try.prog cfg rc md 64 [(.agg #[(.int .i64 a0_0), (.int .i64 a0_1), (.int .i64 a0_2), a0_3, (.int .i64 a0_4), (.int .i64 a0_5)]), (.int .i64 a1)] h0 = F64 rc ⟨md.ro, h0.length⟩ a0_0 a0_1 a0_2 a0_3 a0_4 a0_5 a1 h0 := (callStep_ne (by kernel_rfl)).trans (F64_eq0 rc md a0_0 a0_1 a0_2 a0_3 a0_4 a0_5 a1 h0)

/-- (tombolo/treap.Trees).sum -/
noncomputable def F65 (rc : Rec) (md : Md) (a0_0 : Int) (a0_1 : Int) (a0_2 : Int) (a0_3 : Value) (a0_4 : Int) (a0_5 : Int) (a1 : Int) (h0 : Heap) : Option (Value × Heap) :=
  let h1 : Heap := h0 ++ [.own [(.int .i64 a0_0), (.int .i64 a0_1), (.int .i64 a0_2), a0_3, (.int .i64 a0_4), (.int .i64 a0_5)]]
  bif (a1 == 0) then
    some ((.int .u64 0), List.take h0.length h1)
  else
    ld1 (.pointer (some ⟨h0.length, 3, none⟩)) h1 fun v2 =>
    ldN 3 (.pointer (some ⟨h0.length, 0, none⟩)) h1 fun v3 =>
    cl (rc md 55 [v3, (.int .i64 a1), (.int .i64 6)] h1) fun v4 h5 =>
    cIn .i64 v4 fun n6 =>
    bif okNil Try.prog v2 then
    clI Try.prog rc md v2 "Load" [(.int .i64 n6)] h5 fun v7 h8 =>
    cIn .u64 v7 fun n9 =>
    some ((.int .u64 n9), List.take h0.length h8)
    else none
theorem F65_eq0 (rc : Rec) (md : Md) (a0_0 : Int) (a0_1 : Int) (a0_2 : Int) (a0_3 : Value) (a0_4 : Int) (a0_5 : Int) (a1 : Int) (h0 : Heap) : callStep0 Try.prog cfg rc md 65 [(.agg #[(.int .i64 a0_0), (.int .i64 a0_1), (.int .i64 a0_2), a0_3, (.int .i64 a0_4), (.int .i64 a0_5)]), (.int .i64 a1)] h0 = F65 rc ⟨md.ro, h0.length⟩ a0_0 a0_1 a0_2 a0_3 a0_4 a0_5 a1 h0 := by kernel_rfl
theorem F65_eq (rc : Rec) (md : Md) (a0_0 : Int) (a0_1 : Int) (a0_2 : Int) (a0_3 : Value) (a0_4 : Int) (a0_5 : Int) (a1 : Int) (h0 : Heap) : callStep Try.prog cfg rc md 65 [(.agg #[(.int .i64 a0_0), (.int .i64 a0_1), (.int .i64 a0_2), a0_3, (.int .i64 a0_4), (.int .i64 a0_5)]), (.int .i64 a1)] h0 = F65 rc ⟨md.ro, h0.length⟩ a0_0 a0_1 a0_2 a0_3 a0_4 a0_5 a1 h0 := (callStep_ne (by kernel_rfl)).trans (F65_eq0 rc md a0_0 a0_1 a0_2 a0_3 a0_4 a0_5 a1 h0)

/-- (tombolo/treap.Trees).marks -/
noncomputable def F66 (rc : Rec) (md : Md) (a0_0 : Int) (a0_1 : Int) (a0_2 : Int) (a0_3 : Value) (a0_4 : Int) (a0_5 : Int) (a1 : Int) (h0 : Heap) : Option (Value × Heap) :=
  let h1 : Heap := h0 ++ [.own [(.int .i64 a0_0), (.int .i64 a0_1), (.int .i64 a0_2), a0_3, (.int .i64 a0_4), (.int .i64 a0_5)]]
  ldN 6 (.pointer (some ⟨h0.length, 0, none⟩)) h1 fun v2 =>
  cl (rc md 65 [v2, (.int .i64 a1)] h1) fun v3 h4 =>
  cIn .u64 v3 fun n5 =>
  some ((.int .u64 (bAnd .u64 (Int.fdiv n5 (2 ^ 32)) 3)), List.take h0.length h4)
theorem F66_eq0 (rc : Rec) (md : Md) (a0_0 : Int) (a0_1 : Int) (a0_2 : Int) (a0_3 : Value) (a0_4 : Int) (a0_5 : Int) (a1 : Int) (h0 : Heap) : callStep0 Try.prog cfg rc md 66 [(.agg #[(.int .i64 a0_0), (.int .i64 a0_1), (.int .i64 a0_2), a0_3, (.int .i64 a0_4), (.int .i64 a0_5)]), (.int .i64 a1)] h0 = F66 rc ⟨md.ro, h0.length⟩ a0_0 a0_1 a0_2 a0_3 a0_4 a0_5 a1 h0 := by kernel_rfl
theorem F66_eq (rc : Rec) (md : Md) (a0_0 : Int) (a0_1 : Int) (a0_2 : Int) (a0_3 : Value) (a0_4 : Int) (a0_5 : Int) (a1 : Int) (h0 : Heap) : callStep Try.prog cfg rc md 66 [(.agg #[(.int .i64 a0_0), (.int .i64 a0_1), (.int .i64 a0_2), a0_3, (.int .i64 a0_4), (.int .i64 a0_5)]), (.int .i64 a1)] h0 = F66 rc ⟨md.ro, h0.length⟩ a0_0 a0_1 a0_2 a0_3 a0_4 a0_5 a1 h0 := (callStep_ne (by kernel_rfl)).trans (F66_eq0 rc md a0_0 a0_1 a0_2 a0_3 a0_4 a0_5 a1 h0)

/-- (tombolo/treap.Trees).has -/
noncomputable def F67 (rc : Rec) (md : Md) (a0_0 : Int) (a0_1 : Int) (a0_2 : Int) (a0_3 : Value) (a0_4 : Int) (a0_5 : Int) (a1 : Int) (a2 : Int) (h0 : Heap) : Option (Value × Heap) :=
  let h1 : Heap := h0 ++ [.own [(.int .i64 a0_0), (.int .i64 a0_1), (.int .i64 a0_2), a0_3, (.int .i64 a0_4), (.int .i64 a0_5)]]
  ldN 6 (.pointer (some ⟨h0.length, 0, none⟩)) h1 fun v2 =>
  cl (rc md 65 [v2, (.int .i64 a1)] h1) fun v3 h4 =>
  cIn .u64 v3 fun n5 =>
  shI .shr (Int.fdiv n5 (2 ^ 34)) a2 .u64 fun v6 =>
  aBin Try.prog .and 103 v6 (.int .u64 1) fun v8 =>
  aBin Try.prog .eql 103 v8 (.int .u64 1) fun v9 =>
  fin1 h0 v9 h4
theorem F67_eq0 (rc : Rec) (md : Md) (a0_0 : Int) (a0_1 : Int) (a0_2 : Int) (a0_3 : Value) (a0_4 : Int) (a0_5 : Int) (a1 : Int) (a2 : Int) (h0 : Heap) : callStep0 Try.prog cfg rc md 67 [(.agg #[(.int .i64 a0_0), (.int .i64 a0_1), (.int .i64 a0_2), a0_3, (.int .i64 a0_4), (.int .i64 a0_5)]), (.int .i64 a1), (.int .i64 a2)] h0 = F67 rc ⟨md.ro, h0.length⟩ a0_0 a0_1 a0_2 a0_3 a0_4 a0_5 a1 a2 h0 := by kernel_rfl
theorem F67_eq (rc : Rec) (md : Md) (a0_0 : Int) (a0_1 : Int) (a0_2 : Int) (a0_3 : Value) (a0_4 : Int) (a0_5 : Int) (a1 : Int) (a2 : Int) (h0 : Heap) : callStep Try.prog cfg rc md 67 [(.agg #[(.int .i64 a0_0), (.int .i64 a0_1), (.int .i64 a0_2), a0_3, (.int .i64 a0_4), (.int .i64 a0_5)]), (.int .i64 a1), (.int .i64 a2)] h0 = F67 rc ⟨md.ro, h0.length⟩ a0_0 a0_1 a0_2 a0_3 a0_4 a0_5 a1 a2 h0 := (callStep_ne (by kernel_rfl)).trans (F67_eq0 rc md a0_0 a0_1 a0_2 a0_3 a0_4 a0_5 a1 a2 h0)

/-- (tombolo/treap.Trees).split -/
noncomputable def F68 (rc : Rec) (md : Md) (a0_0 : Int) (a0_1 : Int) (a0_2 : Int) (a0_3 : Value) (a0_4 : Int) (a0_5 : Int) (a1 : Int) (a2 : Int) (h0 : Heap) : Option (Value × Heap) :=
  let h1 : Heap := h0 ++ [.own [(.int .i64 a0_0), (.int .i64 a0_1), (.int .i64 a0_2), a0_3, (.int .i64 a0_4), (.int .i64 a0_5)]]
  bif (a1 == 0) then
    some ((.tuple #[(.int .i64 0), (.int .i64 0)]), List.take h0.length h1)
  else
    ldN 6 (.pointer (some ⟨h0.length, 0, none⟩)) h1 fun v2 =>
    cl (rc md 63 [v2, (.int .i64 a1), (.int .i64 3)] h1) fun v3 h4 =>
    cIn .i64 v3 fun n5 =>
    ldN 6 (.pointer (some ⟨h0.length, 0, none⟩)) h4 fun v6 =>
    cl (rc md 23 [v6, (.int .i64 n5)] h4) fun v7 h8 =>
    cIn .i64 v7 fun n9 =>
    bif (decide (a2 ≤ n9)) then
      ldN 6 (.pointer (some ⟨h0.length, 0, none⟩)) h8 fun v10 =>
      cl (rc md 68 [v10, (.int .i64 n5), (.int .i64 a2)] h8) fun v11 h12 =>
      exT v11 0 fun v13 =>
      cIn .i64 v13 fun n14 =>
      exT v11 1 fun v15 =>
      cIn .i64 v15 fun n16 =>
      ldN 6 (.pointer (some ⟨h0.length, 0, none⟩)) h12 fun v17 =>
      cl (rc md 87 [v17, (.int .i64 a1), (.int .i64 3), (.int .i64 n16)] h12) fun v18 h19 =>
      some ((.tuple #[(.int .i64 n14), (.int .i64 a1)]), List.take h0.length h19)
    else
      ldN 6 (.pointer (some ⟨h0.length, 0, none⟩)) h8 fun v20 =>
      ldN 6 (.pointer (some ⟨h0.length, 0, none⟩)) h8 fun v21 =>
      cl (rc md 63 [v21, (.int .i64 a1), (.int .i64 4)] h8) fun v22 h23 =>
      cIn .i64 v22 fun n24 =>
      cLE true (fun hq => ldN 6 (.pointer (some ⟨h0.length, 0, none⟩)) hq some) v20 h8 h23 <|
      cl (rc md 68 [v20, (.int .i64 n24), (.int .i64 (IntKind.wrap .i64 ((IntKind.wrap .i64 (a2 - n9)) - 1)))] h23) fun v25 h26 =>
      exT v25 0 fun v27 =>
      cIn .i64 v27 fun n28 =>
      exT v25 1 fun v29 =>
      cIn .i64 v29 fun n30 =>
      ldN 6 (.pointer (some ⟨h0.length, 0, none⟩)) h26 fun v31 =>
      cl (rc md 87 [v31, (.int .i64 a1), (.int .i64 4), (.int .i64 n28)] h26) fun v32 h33 =>
      some ((.tuple #[(.int .i64 a1), (.int .i64 n30)]), List.take h0.length h33)
theorem F68_eq0 (rc : Rec) (md : Md) (a0_0 : Int) (a0_1 : Int) (a0_2 : Int) (a0_3 : Value) (a0_4 : Int) (a0_5 : Int) (a1 : Int) (a2 : Int) (h0 : Heap) : callStep0 Try.prog cfg rc md 68 [(.agg #[(.int .i64 a0_0), (.int .i64 a0_1), (.int .i64 a0_2), a0_3, (.int .i64 a0_4), (.int .i64 a0_5)]), (.int .i64 a1), (.int .i64 a2)] h0 = F68 rc ⟨md.ro, h0.length⟩ a0_0 a0_1 a0_2 a0_3 a0_4 a0_5 a1 a2 h0 := by kernel_rfl
theorem F68_eq (rc : Rec) (md : Md) (a0_0 : Int) (a0_1 : Int) (a0_2 : Int) (a0_3 : Value) (a0_4 : Int) (a0_5 : Int) (a1 : Int) (a2 : Int) (h0 : Heap) : callStep Try.prog cfg rc md 68 [(.agg #[(.int .i64 a0_0), (.int .i64 a0_1), (.int .i64 a0_2), a0_3, (.int .i64 a0_4), (.int .i64 a0_5)]), (.int .i64 a1), (.int .i64 a2)] h0 = F68 rc ⟨md.ro, h0.length⟩ a0_0 a0_1 a0_2 a0_3 a0_4 a0_5 a1 a2 h0 := (callStep_ne (by kernel_rfl)).trans (F68_eq0 rc md a0_0 a0_1 a0_2 a0_3 a0_4 a0_5 a1 a2 h0)

/-- (tombolo/treap.Trees).hang -/
noncomputable def F69 (rc : Rec) (md : Md) (a0_0 : Int) (a0_1 : Int) (a0_2 : Int) (a0_3 : Value) (a0_4 : Int) (a0_5 : Int) (a1 : Int) (a2 : Int) (h0 : Heap) : Option (Value × Heap) :=
  let h1 : Heap := h0 ++ [.own [(.int .i64 a0_0), (.int .i64 a0_1), (.int .i64 a0_2), a0_3, (.int .i64 a0_4), (.int .i64 a0_5)]]
  bif (a1 == 0) then
    some ((.tuple #[]), List.take h0.length h1)
  else
    ldN 6 (.pointer (some ⟨h0.length, 0, none⟩)) h1 fun v2 =>
    cl (rc md 85 [v2, (.int .i64 a1)] h1) fun v3 h4 =>
    cBn v3 fun b5 =>
    bif b5 then
      ldN 2 (.pointer (some ⟨h0.length, 4, none⟩)) h4 fun v6 =>
      ld1 (.pointer (some ⟨h0.length, 3, none⟩)) h4 fun v7 =>
      ldN 3 (.pointer (some ⟨h0.length, 0, none⟩)) h4 fun v8 =>
      cl (rc md 55 [v8, (.int .i64 a1), (.int .i64 2)] h4) fun v9 h10 =>
      cIn .i64 v9 fun n11 =>
      cl (rc md 88 [v6, v7, (.int .i64 n11), (.int .i64 a2)] h10) fun v12 h13 =>
      some ((.tuple #[]), List.take h0.length h13)
    else
      ldN 6 (.pointer (some ⟨h0.length, 0, none⟩)) h4 fun v14 =>
      cl (rc md 82 [v14, (.int .i64 a1), (.int .i64 2), (.int .i64 a2)] h4) fun v15 h16 =>
      some ((.tuple #[]), List.take h0.length h16)
theorem F69_eq0 (rc : Rec) (md : Md) (a0_0 : Int) (a0_1 : Int) (a0_2 : Int) (a0_3 : Value) (a0_4 : Int) (a0_5 : Int) (a1 : Int) (a2 : Int) (h0 : Heap) : callStep0 Try.prog cfg rc md 69 [(.agg #[(.int .i64 a0_0), (.int .i64 a0_1), (.int .i64 a0_2), a0_3, (.int .i64 a0_4), (.int .i64 a0_5)]), (.int .i64 a1), (.int .i64 a2)] h0 = F69 rc ⟨md.ro, h0.length⟩ a0_0 a0_1 a0_2 a0_3 a0_4 a0_5 a1 a2 h0 := by kernel_rfl
theorem F69_eq (rc : Rec) (md : Md) (a0_0 : Int) (a0_1 : Int) (a0_2 : Int) (a0_3 : Value) (a0_4 : Int) (a0_5 : Int) (a1 : Int) (a2 : Int) (h0 : Heap) : callStep Try.prog cfg rc md 69 [(.agg #[(.int .i64 a0_0), (.int .i64 a0_1), (.int .i64 a0_2), a0_3, (.int .i64 a0_4), (.int .i64 a0_5)]), (.int .i64 a1), (.int .i64 a2)] h0 = F69 rc ⟨md.ro, h0.length⟩ a0_0 a0_1 a0_2 a0_3 a0_4 a0_5 a1 a2 h0 := (callStep_ne (by kernel_rfl)).trans (F69_eq0 rc md a0_0 a0_1 a0_2 a0_3 a0_4 a0_5 a1 a2 h0)

/-- (tombolo/treap.Trees).merge -/
noncomputable def F70 (rc : Rec) (md : Md) (a0_0 : Int) (a0_1 : Int) (a0_2 : Int) (a0_3 : Value) (a0_4 : Int) (a0_5 : Int) (a1 : Int) (a2 : Int) (h0 : Heap) : Option (Value × Heap) :=
  let h1 : Heap := h0 ++ [.own [(.int .i64 a0_0), (.int .i64 a0_1), (.int .i64 a0_2), a0_3, (.int .i64 a0_4), (.int .i64 a0_5)]]
  bif (a1 == 0) then
    some ((.int .i64 a2), List.take h0.length h1)
  else
    bif (a2 == 0) then
      some ((.int .i64 a1), List.take h0.length h1)
    else
      ldN 6 (.pointer (some ⟨h0.length, 0, none⟩)) h1 fun v2 =>
      cl (rc md 89 [v2, (.int .i64 a1), (.int .i64 a2)] h1) fun v3 h4 =>
      cBn v3 fun b5 =>
      bif b5 then
        ldN 6 (.pointer (some ⟨h0.length, 0, none⟩)) h4 fun v6 =>
        ldN 6 (.pointer (some ⟨h0.length, 0, none⟩)) h4 fun v7 =>
        ldN 6 (.pointer (some ⟨h0.length, 0, none⟩)) h4 fun v8 =>
        cl (rc md 63 [v8, (.int .i64 a1), (.int .i64 4)] h4) fun v9 h10 =>
        cIn .i64 v9 fun n11 =>
        cLE true (fun hq => ldN 6 (.pointer (some ⟨h0.length, 0, none⟩)) hq some) v7 h4 h10 <|
        cLE true (fun hq => ldN 6 (.pointer (some ⟨h0.length, 0, none⟩)) hq some) v6 h4 h10 <|
        cl (rc md 70 [v7, (.int .i64 n11), (.int .i64 a2)] h10) fun v12 h13 =>
        cIn .i64 v12 fun n14 =>
        cLE true (fun hq => ldN 6 (.pointer (some ⟨h0.length, 0, none⟩)) hq some) v6 h10 h13 <|
        cl (rc md 87 [v6, (.int .i64 a1), (.int .i64 4), (.int .i64 n14)] h13) fun v15 h16 =>
        some ((.int .i64 a1), List.take h0.length h16)
      else
        ldN 6 (.pointer (some ⟨h0.length, 0, none⟩)) h4 fun v17 =>
        ldN 6 (.pointer (some ⟨h0.length, 0, none⟩)) h4 fun v18 =>
        ldN 6 (.pointer (some ⟨h0.length, 0, none⟩)) h4 fun v19 =>
        cl (rc md 63 [v19, (.int .i64 a2), (.int .i64 3)] h4) fun v20 h21 =>
        cIn .i64 v20 fun n22 =>
        cLE true (fun hq => ldN 6 (.pointer (some ⟨h0.length, 0, none⟩)) hq some) v18 h4 h21 <|
        cLE true (fun hq => ldN 6 (.pointer (some ⟨h0.length, 0, none⟩)) hq some) v17 h4 h21 <|
        cl (rc md 70 [v18, (.int .i64 a1), (.int .i64 n22)] h21) fun v23 h24 =>
        cIn .i64 v23 fun n25 =>
        cLE true (fun hq => ldN 6 (.pointer (some ⟨h0.length, 0, none⟩)) hq some) v17 h21 h24 <|
        cl (rc md 87 [v17, (.int .i64 a2), (.int .i64 3), (.int .i64 n25)] h24) fun v26 h27 =>
        some ((.int .i64 a2), List.take h0.length h27)
theorem F70_eq0 (rc : Rec) (md : Md) (a0_0 : Int) (a0_1 : Int) (a0_2 : Int) (a0_3 : Value) (a0_4 : Int) (a0_5 : Int) (a1 : Int) (a2 : Int) (h0 : Heap) : callStep0 Try.prog cfg rc md 70 [(.agg #[(.int .i64 a0_0), (.int .i64 a0_1), (.int .i64 a0_2), a0_3, (.int .i64 a0_4), (.int .i64 a0_5)]), (.int .i64 a1), (.int .i64 a2)] h0 = F70 rc ⟨md.ro, h0.length⟩ a0_0 a0_1 a0_2 a0_3 a0_4 a0_5 a1 a2 h0 := by kernel_rfl
theorem F70_eq (rc : Rec) (md : Md) (a0_0 : Int) (a0_1 : Int) (a0_2 : Int) (a0_3 : Value) (a0_4 : Int) (a0_5 : Int) (a1 : Int) (a2 : Int) (h0 : Heap) : callStep Try.prog cfg rc md 70 [(.agg #[(.int .i64 a0_0), (.int .i64 a0_1), (.int .i64 a0_2), a0_3, (.int .i64 a0_4), (.int .i64 a0_5)]), (.int .i64 a1), (.int .i64 a2)] h0 = F70 rc ⟨md.ro, h0.length⟩ a0_0 a0_1 a0_2 a0_3 a0_4 a0_5 a1 a2 h0 := (callStep_ne (by kernel_rfl)).trans (F70_eq0 rc md a0_0 a0_1 a0_2 a0_3 a0_4 a0_5 a1 a2 h0)

/-- (tombolo/treap.Trees).renew -/
noncomputable def J71_1 (rc : Rec) (md : Md) (h0 : Heap) (s1 : Value) (s3 : Value) (s6 : Value) (h : Heap) : Option (Value × Heap) :=
  fA 3 s3 fun v1 =>
  ld1 v1 h fun v2 =>
  fA 0 s3 fun v3 =>
  ldN 3 v3 h fun v4 =>
  cl (rc md 55 [v4, s1, (.int .i64 6)] h) fun v5 h6 =>
  cIn .i64 v5 fun n7 =>
  bif okNil Try.prog v2 then
  clI Try.prog rc md v2 "Store" [(.int .i64 n7), s6] h6 fun v8 h9 =>
  some ((.tuple #[]), List.take h0.length h9)
  else none
theorem J71_1_at (rc : Rec) (md : Md) (h0 : Heap) (t : T) (h : Heap) : cut Try.prog cfg rc md 44 (bodyOf Try.prog 71) [1, 1, 1] (retK Try.prog cfg 71 (rsOf Try.prog 71) h0) t h = J71_1 rc md h0 (t 1) (t 3) (t 6) h := by kernel_rfl
theorem J71_1_cut (rc : Rec) (md : Md) (h0 : Heap) : cut Try.prog cfg rc md 44 (bodyOf Try.prog 71) [1, 1, 1] (retK Try.prog cfg 71 (rsOf Try.prog 71) h0) = fun t h => J71_1 rc md h0 (t 1) (t 3) (t 6) h := funext fun t => funext fun h => J71_1_at rc md h0 t h
noncomputable def Jk71_0 (rc : Rec) (md : Md) (h0 : Heap) (e : Exit) (s1 : Value) (s3 : Value) (s6 : Value) (s14 : Value) (s15 : Value) (h : Heap) : Option (Value × Heap) :=
  match e with
  | .normal =>
    J71_1 rc md h0 s1 s3 s6 h
  | .exit j =>
    bif Nat.beq j 0 then
      J71_1 rc md h0 s1 s3 s6 h
    else
      none
  | .ret =>
    some ((.tuple #[]), List.take h0.length h)
  | .goto l => none
  | .panic ps => none
  | .outgrown => none
noncomputable def Jk71_0H (rc : Rec) (md : Md) (h0 : Heap) (X1 : T → Heap → Option (Value × Heap)) (e : Exit) (t : T) (h : Heap) : Option (Value × Heap) :=
  match e with
  | .normal =>
    X1 t h
  | .exit j =>
    bif Nat.beq j 0 then
      X1 t h
    else
      none
  | .ret =>
    some ((.tuple #[]), List.take h0.length h)
  | .goto l => none
  | .panic ps => none
  | .outgrown => none
theorem Jk71_0_h1 (rc : Rec) (md : Md) (h0 : Heap) (X : Nat → T → Heap → Option (Value × Heap)) (e : Exit) (t : T) (h : Heap) : kAtG Try.prog cfg X rc md 44 (replS (bodyOf Try.prog 71) [([1, 1, 1], 1)]) [1, 1, 0, 1, 0] (retK Try.prog cfg 71 (rsOf Try.prog 71) h0) e t h = Jk71_0H rc md h0 (X 1) e t h := by cases e <;> kernel_rfl
theorem Jk71_0_h2 (rc : Rec) (md : Md) (h0 : Heap) (e : Exit) (t : T) (h : Heap) : Jk71_0H rc md h0 (fun t h => J71_1 rc md h0 (t 1) (t 3) (t 6) h) e t h = Jk71_0 rc md h0 e (t 1) (t 3) (t 6) (t 14) (t 15) h := by cases e <;> (unfold Jk71_0H Jk71_0; kernel_rfl)
theorem Jk71_0_at (rc : Rec) (md : Md) (h0 : Heap) (e : Exit) (t : T) (h : Heap) : kAt Try.prog cfg rc md 44 (bodyOf Try.prog 71) [1, 1, 0, 1, 0] (retK Try.prog cfg 71 (rsOf Try.prog 71) h0) e t h = Jk71_0 rc md h0 e (t 1) (t 3) (t 6) (t 14) (t 15) h := by
  rw [kAt_holes [([1, 1, 1], 1)] [1, 1, 0, 1, 0] (by kernel_rfl), Jk71_0_h1, show (goX Try.prog cfg rc md 44 (bodyOf Try.prog 71) [([1, 1, 1], 1)] (retK Try.prog cfg 71 (rsOf Try.prog 71) h0)) 1 = _ from J71_1_cut rc md h0]
  exact Jk71_0_h2 rc md h0 e t h
/-- a round -/
noncomputable def Jr71_0 (rc : Rec) (md : Md) (s1 : Value) (s3 : Value) (s6 : Value) (s14 : Value) (s15 : Value) (h : Heap) : Option (((Value × Value × Value × Value × Value) × Heap) ⊕ (Exit × (Value × Value × Value × Value × Value) × Heap)) :=
  aBin Try.prog .lss 3 s15 (.int .i64 2) fun v1 =>
  cBn v1 fun b2 =>
  bif b2 then
    aIndex Try.prog 53 s14 s15 fun v3 =>
    cIn .i64 v3 fun n4 =>
    ldN 6 s3 h fun v5 =>
    ldN 6 s3 h fun v6 =>
    cl (rc md 63 [v6, s1, (.int .i64 n4)] h) fun v7 h8 =>
    cIn .i64 v7 fun n9 =>
    cLE true (fun hq => ldN 6 s3 hq some) v5 h h8 <|
    cl (rc md 65 [v5, (.int .i64 n9)] h8) fun v10 h11 =>
    cIn .u64 v10 fun n12 =>
    cl (rc md 90 [(.int .u64 n12)] h11) fun v13 h14 =>
    cIn .u64 v13 fun n15 =>
    aBin Try.prog .add 103 s6 (.int .u64 n15) fun v16 =>
    aBin Try.prog .or 103 v16 (.int .u64 (IntKind.wrap .u64 ((bAnd .u64 (Int.fdiv n12 (2 ^ 34)) 3) * 2 ^ 34))) fun v17 =>
    aBin Try.prog .add 3 s15 (.int .i64 1) fun v18 =>
    some (.inl ((s1, s3, v17, s14, v18), h14))
  else
    some (.inr ((.exit 0), (s1, s3, s6, s14, s15), h))
theorem Jr71_0_at (rc : Rec) (md : Md) (t : T) (h : Heap) : exec Try.prog cfg rc md 44 (sub (bodyOf Try.prog 71) [1, 1, 0, 1, 0, 0]) (rndK (fun t => (t 1, t 3, t 6, t 14, t 15))) t h = Jr71_0 rc md (t 1) (t 3) (t 6) (t 14) (t 15) h := by kernel_rfl
noncomputable def J71_0 (rc : Rec) (md : Md) (h0 : Heap) (s1 : Value) (s3 : Value) (s6 : Value) (s14 : Value) (s15 : Value) (h : Heap) : Option (Value × Heap) :=
  runL (fun x : (Value × Value × Value × Value × Value) × Heap => Jr71_0 rc md x.1.1 x.1.2.1 x.1.2.2.1 x.1.2.2.2.1 x.1.2.2.2.2 x.2) (fun e (s : Value × Value × Value × Value × Value) h => Jk71_0 rc md h0 e s.1 s.2.1 s.2.2.1 s.2.2.2.1 s.2.2.2.2 h) (s1, s3, s6, s14, s15) h
theorem J71_0_step (rc : Rec) (md : Md) (h0 : Heap) (s1 : Value) (s3 : Value) (s6 : Value) (s14 : Value) (s15 : Value) (h : Heap) : J71_0 rc md h0 s1 s3 s6 s14 s15 h = (Jr71_0 rc md s1 s3 s6 s14 s15 h).bind fun x => match x with
    | .inl (s, h) => J71_0 rc md h0 s.1 s.2.1 s.2.2.1 s.2.2.2.1 s.2.2.2.2 h
    | .inr (e, s, h) => Jk71_0 rc md h0 e s.1 s.2.1 s.2.2.1 s.2.2.2.1 s.2.2.2.2 h := by
  unfold J71_0
  rw [runL_eq]
  refine congrArg (Option.bind _) (funext fun x => ?_)
  rcases x with ⟨s, h⟩ | ⟨e, s, h⟩ <;> rfl
theorem J71_0_cut (rc : Rec) (md : Md) (h0 : Heap) : cut Try.prog cfg rc md 44 (bodyOf Try.prog 71) [1, 1, 0, 1, 0] (retK Try.prog cfg 71 (rsOf Try.prog 71) h0) = fun t h => J71_0 rc md h0 (t 1) (t 3) (t 6) (t 14) (t 15) h := by
  funext t h
  have e : sub (bodyOf Try.prog 71) [1, 1, 0, 1, 0] = .loop (sub (bodyOf Try.prog 71) [1, 1, 0, 1, 0, 0]) := by kernel_rfl
  unfold cut
  rw [e]
  exact loop_eq (by kernel_rfl) (fun t => (t 1, t 3, t 6, t 14, t 15)) (fun x : (Value × Value × Value × Value × Value) × Heap => Jr71_0 rc md x.1.1 x.1.2.1 x.1.2.2.1 x.1.2.2.2.1 x.1.2.2.2.2 x.2) (fun t h => Jr71_0_at rc md t h) (fun e (s : Value × Value × Value × Value × Value) h => Jk71_0 rc md h0 e s.1 s.2.1 s.2.2.1 s.2.2.2.1 s.2.2.2.2 h) (fun e t h => Jk71_0_at rc md h0 e t h) t h
noncomputable def F71 (rc : Rec) (md : Md) (a0_0 : Int) (a0_1 : Int) (a0_2 : Int) (a0_3 : Value) (a0_4 : Int) (a0_5 : Int) (a1 : Int) (a2 : Int) (h0 : Heap) : Option (Value × Heap) :=
  let h1 : Heap := h0 ++ [.own [(.int .i64 a0_0), (.int .i64 a0_1), (.int .i64 a0_2), a0_3, (.int .i64 a0_4), (.int .i64 a0_5)]]
  ldN 6 (.pointer (some ⟨h0.length, 0, none⟩)) h1 fun v2 =>
  cl (rc md 83 [v2, (.int .i64 a1), (.int .u64 a2)] h1) fun v3 h4 =>
  cIn .u64 v3 fun n5 =>
  J71_0 rc md h0 (.int .i64 a1) (.pointer (some ⟨h0.length, 0, none⟩)) (.int .u64 n5) (.agg #[(.int .i64 3), (.int .i64 4)]) (.int .i64 0) h4
noncomputable def F71H (rc : Rec) (md : Md) (X0 : T → Heap → Option (Value × Heap)) (a0_0 : Int) (a0_1 : Int) (a0_2 : Int) (a0_3 : Value) (a0_4 : Int) (a0_5 : Int) (a1 : Int) (a2 : Int) (h0 : Heap) : Option (Value × Heap) :=
  let h1 : Heap := h0 ++ [.own [(.int .i64 a0_0), (.int .i64 a0_1), (.int .i64 a0_2), a0_3, (.int .i64 a0_4), (.int .i64 a0_5)]]
  ldN 6 (.pointer (some ⟨h0.length, 0, none⟩)) h1 fun v2 =>
  cl (rc md 83 [v2, (.int .i64 a1), (.int .u64 a2)] h1) fun v3 h4 =>
  cIn .u64 v3 fun n5 =>
  X0 (upd (upd (upd (upd (upd (upd (upd (upd (args0 [(.agg #[(.int .i64 a0_0), (.int .i64 a0_1), (.int .i64 a0_2), a0_3, (.int .i64 a0_4), (.int .i64 a0_5)]), (.int .i64 a1), (.int .u64 a2)]) 3 (.pointer (some ⟨h0.length, 0, none⟩))) 10 v2) 11 (.int .i64 a1)) 12 (.int .u64 a2)) 13 (.int .u64 n5)) 6 (.int .u64 n5)) 14 (.agg #[(.int .i64 3), (.int .i64 4)])) 15 (.int .i64 0)) h4
theorem F71_h0 (rc : Rec) (md : Md) (a0_0 : Int) (a0_1 : Int) (a0_2 : Int) (a0_3 : Value) (a0_4 : Int) (a0_5 : Int) (a1 : Int) (a2 : Int) (h0 : Heap) : callStep0 Try.prog cfg rc md 71 [(.agg #[(.int .i64 a0_0), (.int .i64 a0_1), (.int .i64 a0_2), a0_3, (.int .i64 a0_4), (.int .i64 a0_5)]), (.int .i64 a1), (.int .u64 a2)] h0 = exec Try.prog cfg rc ⟨md.ro, h0.length⟩ 44 (bodyOf Try.prog 71) (retK Try.prog cfg 71 (rsOf Try.prog 71) h0) (args0 [(.agg #[(.int .i64 a0_0), (.int .i64 a0_1), (.int .i64 a0_2), a0_3, (.int .i64 a0_4), (.int .i64 a0_5)]), (.int .i64 a1), (.int .u64 a2)]) h0 := callStep0_run (by kernel_rfl) (by kernel_rfl) (by kernel_rfl)
theorem F71_h1 (rc : Rec) (md : Md) (X : Nat → T → Heap → Option (Value × Heap)) (a0_0 : Int) (a0_1 : Int) (a0_2 : Int) (a0_3 : Value) (a0_4 : Int) (a0_5 : Int) (a1 : Int) (a2 : Int) (h0 : Heap) : execG Try.prog cfg X rc md 44 (replS (bodyOf Try.prog 71) [([1, 1, 0, 1, 0], 0), ([1, 1, 1], 1)]) (retK Try.prog cfg 71 (rsOf Try.prog 71) h0) (args0 [(.agg #[(.int .i64 a0_0), (.int .i64 a0_1), (.int .i64 a0_2), a0_3, (.int .i64 a0_4), (.int .i64 a0_5)]), (.int .i64 a1), (.int .u64 a2)]) h0 = F71H rc md (X 0) a0_0 a0_1 a0_2 a0_3 a0_4 a0_5 a1 a2 h0 := by kernel_rfl
theorem F71_h2 (rc : Rec) (md : Md) (a0_0 : Int) (a0_1 : Int) (a0_2 : Int) (a0_3 : Value) (a0_4 : Int) (a0_5 : Int) (a1 : Int) (a2 : Int) (h0 : Heap) : F71H rc md (fun t h => J71_0 rc md h0 (t 1) (t 3) (t 6) (t 14) (t 15) h) a0_0 a0_1 a0_2 a0_3 a0_4 a0_5 a1 a2 h0 = F71 rc md a0_0 a0_1 a0_2 a0_3 a0_4 a0_5 a1 a2 h0 := by unfold F71H F71; kernel_rfl
theorem F71_eq0 (rc : Rec) (md : Md) (a0_0 : Int) (a0_1 : Int) (a0_2 : Int) (a0_3 : Value) (a0_4 : Int) (a0_5 : Int) (a1 : Int) (a2 : Int) (h0 : Heap) : callStep0 Try.prog cfg rc md 71 [(.agg #[(.int .i64 a0_0), (.int .i64 a0_1), (.int .i64 a0_2), a0_3, (.int .i64 a0_4), (.int .i64 a0_5)]), (.int .i64 a1), (.int .u64 a2)] h0 = F71 rc ⟨md.ro, h0.length⟩ a0_0 a0_1 a0_2 a0_3 a0_4 a0_5 a1 a2 h0 := by
  rw [F71_h0, exec_holes [([1, 1, 0, 1, 0], 0), ([1, 1, 1], 1)] (by kernel_rfl), F71_h1, show (goX Try.prog cfg rc ⟨md.ro, h0.length⟩ 44 (bodyOf Try.prog 71) [([1, 1, 0, 1, 0], 0), ([1, 1, 1], 1)] (retK Try.prog cfg 71 (rsOf Try.prog 71) h0)) 0 = _ from J71_0_cut rc ⟨md.ro, h0.length⟩ h0]
  exact F71_h2 rc _ a0_0 a0_1 a0_2 a0_3 a0_4 a0_5 a1 a2 h0
theorem F71_eq (rc : Rec) (md : Md) (a0_0 : Int) (a0_1 : Int) (a0_2 : Int) (a0_3 : Value) (a0_4 : Int) (a0_5 : Int) (a1 : Int) (a2 : Int) (h0 : Heap) : callStep Try.prog cfg rc md 71 [(.agg #[(.int .i64 a0_0), (.int .i64 a0_1), (.int .i64 a0_2), a0_3, (.int .i64 a0_4), (.int .i64 a0_5)]), (.int .i64 a1), (.int .u64 a2)] h0 = F71 rc ⟨md.ro, h0.length⟩ a0_0 a0_1 a0_2 a0_3 a0_4 a0_5 a1 a2 h0 := (callStep_ne (by kernel_rfl)).trans (F71_eq0 rc md a0_0 a0_1 a0_2 a0_3 a0_4 a0_5 a1 a2 h0)

/-- (tombolo/treap.Trees).put -/
noncomputable def F82 (rc : Rec) (md : Md) (a0_0 : Int) (a0_1 : Int) (a0_2 : Int) (a0_3 : Value) (a0_4 : Int) (a0_5 : Int) (a1 : Int) (a2 : Int) (a3 : Int) (h0 : Heap) : Option (Value × Heap) :=
  let h1 : Heap := h0 ++ [.own [(.int .i64 a0_0), (.int .i64 a0_1), (.int .i64 a0_2), a0_3, (.int .i64 a0_4), (.int .i64 a0_5)]]
  ld1 (.pointer (some ⟨h0.length, 3, none⟩)) h1 fun v2 =>
  ldN 3 (.pointer (some ⟨h0.length, 0, none⟩)) h1 fun v3 =>
  cl (rc md 55 [v3, (.int .i64 a1), (.int .i64 a2)] h1) fun v4 h5 =>
  cIn .i64 v4 fun n6 =>
  bif okNil Try.prog v2 then
  clI Try.prog rc md v2 "Store" [(.int .i64 n6), (.int .u64 (IntKind.wrap .u64 a3))] h5 fun v7 h8 =>
  some ((.tuple #[]), List.take h0.length h8)
  else none
theorem F82_eq0 (rc : Rec) (md : Md) (a0_0 : Int) (a0_1 : Int) (a0_2 : Int) (a0_3 : Value) (a0_4 : Int) (a0_5 : Int) (a1 : Int) (a2 : Int) (a3 : Int) (h0 : Heap) : callStep0 Try.prog cfg rc md 82 [(.agg #[(.int .i64 a0_0), (.int .i64 a0_1), (.int .i64 a0_2), a0_3, (.int .i64 a0_4), (.int .i64 a0_5)]), (.int .i64 a1), (.int .i64 a2), (.int .i64 a3)] h0 = F82 rc ⟨md.ro, h0.length⟩ a0_0 a0_1 a0_2 a0_3 a0_4 a0_5 a1 a2 a3 h0 := by kernel_rfl
theorem F82_eq (rc : Rec) (md : Md) (a0_0 : Int) (a0_1 : Int) (a0_2 : Int) (a0_3 : Value) (a0_4 : Int) (a0_5 : Int) (a1 : Int) (a2 : Int) (a3 : Int) (h0 : Heap) : callStep Try.prog cfg rc md 82 [(.agg #[(.int .i64 a0_0), (.int .i64 a0_1), (.int .i64 a0_2), a0_3, (.int .i64 a0_4), (.int .i64 a0_5)]), (.int .i64 a1), (.int .i64 a2), (.int .i64 a3)] h0 = F82 rc ⟨md.ro, h0.length⟩ a0_0 a0_1 a0_2 a0_3 a0_4 a0_5 a1 a2 a3 h0 := (callStep_ne (by kernel_rfl)).trans (F82_eq0 rc md a0_0 a0_1 a0_2 a0_3 a0_4 a0_5 a1 a2 a3 h0)

/-- (tombolo/treap.Trees).lone -/
noncomputable def F83 (rc : Rec) (md : Md) (a0_0 : Int) (a0_1 : Int) (a0_2 : Int) (a0_3 : Value) (a0_4 : Int) (a0_5 : Int) (a1 : Int) (a2 : Int) (h0 : Heap) : Option (Value × Heap) :=
  let h1 : Heap := h0 ++ [.own [(.int .i64 a0_0), (.int .i64 a0_1), (.int .i64 a0_2), a0_3, (.int .i64 a0_4), (.int .i64 a0_5)]]
  ldN 3 (.pointer (some ⟨h0.length, 0, none⟩)) h1 fun v2 =>
  cl (rc md 42 [v2, (.int .i64 a1)] h1) fun v3 h4 =>
  exT v3 0 fun v5 =>
  exT v3 1 fun v6 =>
  cBn v6 fun b7 =>
  let h8 : Heap := h4 ++ [.own [(.bool false), (.int .i64 0), (.int .i64 0), (.int .i64 0), (.int .i64 0)]]
  st md 5 (.pointer (some ⟨h4.length, 0, none⟩)) v5 h8 fun h9 =>
  ld1 (.pointer (some ⟨h4.length, 0, none⟩)) h9 fun v10 =>
  cBn v10 fun b11 =>
  bif !b11 then
    some ((.int .u64 (bOr .u64 (bOr .u64 (bOr .u64 1 (IntKind.wrap .u64 (a2 * 2 ^ 32))) (IntKind.wrap .u64 (a2 * 2 ^ 34))) 65536)), h0)
  else
    some ((.int .u64 (bOr .u64 (bOr .u64 1 (IntKind.wrap .u64 (a2 * 2 ^ 32))) (IntKind.wrap .u64 (a2 * 2 ^ 34)))), h0)
theorem F83_eq0 (rc : Rec) (md : Md) (a0_0 : Int) (a0_1 : Int) (a0_2 : Int) (a0_3 : Value) (a0_4 : Int) (a0_5 : Int) (a1 : Int) (a2 : Int) (h0 : Heap) : callStep0 Try.prog cfg rc md 83 [(.agg #[(.int .i64 a0_0), (.int .i64 a0_1), (.int .i64 a0_2), a0_3, (.int .i64 a0_4), (.int .i64 a0_5)]), (.int .i64 a1), (.int .u64 a2)] h0 = F83 rc ⟨h0.length, h0.length⟩ a0_0 a0_1 a0_2 a0_3 a0_4 a0_5 a1 a2 h0 := by kernel_rfl
theorem F83_eq (rc : Rec) (md : Md) (a0_0 : Int) (a0_1 : Int) (a0_2 : Int) (a0_3 : Value) (a0_4 : Int) (a0_5 : Int) (a1 : Int) (a2 : Int) (h0 : Heap) : callStep Try.prog cfg rc md 83 [(.agg #[(.int .i64 a0_0), (.int .i64 a0_1), (.int .i64 a0_2), a0_3, (.int .i64 a0_4), (.int .i64 a0_5)]), (.int .i64 a1), (.int .u64 a2)] h0 = F83 rc ⟨h0.length, h0.length⟩ a0_0 a0_1 a0_2 a0_3 a0_4 a0_5 a1 a2 h0 := (callStep_ne (by kernel_rfl)).trans (F83_eq0 rc md a0_0 a0_1 a0_2 a0_3 a0_4 a0_5 a1 a2 h0)

/-- (tombolo/treap.Trees).shown -/
noncomputable def F85 (rc : Rec) (md : Md) (a0_0 : Int) (a0_1 : Int) (a0_2 : Int) (a0_3 : Value) (a0_4 : Int) (a0_5 : Int) (a1 : Int) (h0 : Heap) : Option (Value × Heap) :=
  let h1 : Heap := h0 ++ [.own [(.int .i64 a0_0), (.int .i64 a0_1), (.int .i64 a0_2), a0_3, (.int .i64 a0_4), (.int .i64 a0_5)]]
  ldN 3 (.pointer (some ⟨h0.length, 0, none⟩)) h1 fun v2 =>
  cl (rc md 42 [v2, (.int .i64 a1)] h1) fun v3 h4 =>
  exT v3 0 fun v5 =>
  exT v3 1 fun v6 =>
  cBn v6 fun b7 =>
  let h8 : Heap := h4 ++ [.own [(.bool false), (.int .i64 0), (.int .i64 0), (.int .i64 0), (.int .i64 0)]]
  st md 5 (.pointer (some ⟨h4.length, 0, none⟩)) v5 h8 fun h9 =>
  ld1 (.pointer (some ⟨h4.length, 1, none⟩)) h9 fun v10 =>
  cIn .i64 v10 fun n11 =>
  some ((.bool (n11 == 0)), h0)
theorem F85_eq0 (rc : Rec) (md : Md) (a0_0 : Int) (a0_1 : Int) (a0_2 : Int) (a0_3 : Value) (a0_4 : Int) (a0_5 : Int) (a1 : Int) (h0 : Heap) : callStep0 Try.prog cfg rc md 85 [(.agg #[(.int .i64 a0_0), (.int .i64 a0_1), (.int .i64 a0_2), a0_3, (.int .i64 a0_4), (.int .i64 a0_5)]), (.int .i64 a1)] h0 = F85 rc ⟨h0.length, h0.length⟩ a0_0 a0_1 a0_2 a0_3 a0_4 a0_5 a1 h0 := by kernel_rfl
theorem F85_eq (rc : Rec) (md : Md) (a0_0 : Int) (a0_1 : Int) (a0_2 : Int) (a0_3 : Value) (a0_4 : Int) (a0_5 : Int) (a1 : Int) (h0 : Heap) : callStep Try.prog cfg rc md 85 [(.agg #[(.int .i64 a0_0), (.int .i64 a0_1), (.int .i64 a0_2), a0_3, (.int .i64 a0_4), (.int .i64 a0_5)]), (.int .i64 a1)] h0 = F85 rc ⟨h0.length, h0.length⟩ a0_0 a0_1 a0_2 a0_3 a0_4 a0_5 a1 h0 := (callStep_ne (by kernel_rfl)).trans (F85_eq0 rc md a0_0 a0_1 a0_2 a0_3 a0_4 a0_5 a1 h0)

/-- (tombolo/treap.Trees).set -/
noncomputable def F87 (rc : Rec) (md : Md) (a0_0 : Int) (a0_1 : Int) (a0_2 : Int) (a0_3 : Value) (a0_4 : Int) (a0_5 : Int) (a1 : Int) (a2 : Int) (a3 : Int) (h0 : Heap) : Option (Value × Heap) :=
  let h1 : Heap := h0 ++ [.own [(.int .i64 a0_0), (.int .i64 a0_1), (.int .i64 a0_2), a0_3, (.int .i64 a0_4), (.int .i64 a0_5)]]
  ldN 6 (.pointer (some ⟨h0.length, 0, none⟩)) h1 fun v2 =>
  cl (rc md 82 [v2, (.int .i64 a1), (.int .i64 a2), (.int .i64 a3)] h1) fun v3 h4 =>
  ldN 6 (.pointer (some ⟨h0.length, 0, none⟩)) h4 fun v5 =>
  cl (rc md 69 [v5, (.int .i64 a3), (.int .i64 a1)] h4) fun v6 h7 =>
  ldN 6 (.pointer (some ⟨h0.length, 0, none⟩)) h7 fun v8 =>
  ldN 6 (.pointer (some ⟨h0.length, 0, none⟩)) h7 fun v9 =>
  cl (rc md 66 [v9, (.int .i64 a1)] h7) fun v10 h11 =>
  cIn .u64 v10 fun n12 =>
  cLE true (fun hq => ldN 6 (.pointer (some ⟨h0.length, 0, none⟩)) hq some) v8 h7 h11 <|
  cl (rc md 71 [v8, (.int .i64 a1), (.int .u64 n12)] h11) fun v13 h14 =>
  some ((.tuple #[]), List.take h0.length h14)
theorem F87_eq0 (rc : Rec) (md : Md) (a0_0 : Int) (a0_1 : Int) (a0_2 : Int) (a0_3 : Value) (a0_4 : Int) (a0_5 : Int) (a1 : Int) (a2 : Int) (a3 : Int) (h0 : Heap) : callStep0 Try.prog cfg rc md 87 [(.agg #[(.int .i64 a0_0), (.int .i64 a0_1), (.int .i64 a0_2), a0_3, (.int .i64 a0_4), (.int .i64 a0_5)]), (.int .i64 a1), (.int .i64 a2), (.int .i64 a3)] h0 = F87 rc ⟨md.ro, h0.length⟩ a0_0 a0_1 a0_2 a0_3 a0_4 a0_5 a1 a2 a3 h0 := by kernel_rfl
theorem F87_eq (rc : Rec) (md : Md) (a0_0 : Int) (a0_1 : Int) (a0_2 : Int) (a0_3 : Value) (a0_4 : Int) (a0_5 : Int) (a1 : Int) (a2 : Int) (a3 : Int) (h0 : Heap) : callStep Try.prog cfg rc md 87 [(.agg #[(.int .i64 a0_0), (.int .i64 a0_1), (.int .i64 a0_2), a0_3, (.int .i64 a0_4), (.int .i64 a0_5)]), (.int .i64 a1), (.int .i64 a2), (.int .i64 a3)] h0 = F87 rc ⟨md.ro, h0.length⟩ a0_0 a0_1 a0_2 a0_3 a0_4 a0_5 a1 a2 a3 h0 := (callStep_ne (by kernel_rfl)).trans (F87_eq0 rc md a0_0 a0_1 a0_2 a0_3 a0_4 a0_5 a1 a2 a3 h0)

/-- (tombolo/treap.Trees).above -/
noncomputable def F89 (rc : Rec) (md : Md) (a0_0 : Int) (a0_1 : Int) (a0_2 : Int) (a0_3 : Value) (a0_4 : Int) (a0_5 : Int) (a1 : Int) (a2 : Int) (h0 : Heap) : Option (Value × Heap) :=
  let h1 : Heap := h0 ++ [.own [(.int .i64 a0_0), (.int .i64 a0_1), (.int .i64 a0_2), a0_3, (.int .i64 a0_4), (.int .i64 a0_5)]]
  ld1 (.pointer (some ⟨h0.length, 3, none⟩)) h1 fun v2 =>
  ldN 3 (.pointer (some ⟨h0.length, 0, none⟩)) h1 fun v3 =>
  cl (rc md 55 [v3, (.int .i64 a1), (.int .i64 5)] h1) fun v4 h5 =>
  cIn .i64 v4 fun n6 =>
  bif okNil Try.prog v2 then
  clI Try.prog rc md v2 "Load" [(.int .i64 n6)] h5 fun v7 h8 =>
  cIn .u64 v7 fun n9 =>
  ld1 (.pointer (some ⟨h0.length, 3, none⟩)) h8 fun v10 =>
  cLE true (fun hq => ld1 (.pointer (some ⟨h0.length, 3, none⟩)) hq some) v10 h5 h8 <|
  ldN 3 (.pointer (some ⟨h0.length, 0, none⟩)) h8 fun v11 =>
  cLE true (fun hq => ldN 3 (.pointer (some ⟨h0.length, 0, none⟩)) hq some) v11 h5 h8 <|
  cl (rc md 55 [v11, (.int .i64 a2), (.int .i64 5)] h8) fun v12 h13 =>
  cIn .i64 v12 fun n14 =>
  bif okNil Try.prog v10 then
  clI Try.prog rc md v10 "Load" [(.int .i64 n14)] h13 fun v15 h16 =>
  cIn .u64 v15 fun n17 =>
  (bif wantV (.bool (decide (n9 > n17))) false then
  some ((.int .u64 n9), h16)
  else some (undef, h16)).bind fun p18 =>
  (bif wantV (.bool (decide (n9 > n17))) false then
  some ((.int .u64 n17), p18.2)
  else some (undef, p18.2)).bind fun p19 =>
  (bif wantV (.bool (decide (n9 > n17))) false then
  aBin Try.prog .eql 103 p18.1 p19.1 fun v20 =>
  some (v20, p19.2)
  else some (undef, p19.2)).bind fun p21 =>
  (bif wantV (.bool (decide (n9 > n17))) false then
  some (p21.1, p21.2)
  else some (undef, p21.2)).bind fun p22 =>
  (bif wantV p22.1 true then
  some ((.int .i64 a1), p22.2)
  else some (undef, p22.2)).bind fun p23 =>
  (bif wantV p22.1 true then
  some ((.int .i64 a2), p23.2)
  else some (undef, p23.2)).bind fun p24 =>
  (bif wantV p22.1 true then
  aBin Try.prog .lss 3 p23.1 p24.1 fun v25 =>
  some (v25, p24.2)
  else some (undef, p24.2)).bind fun p26 =>
  (bif wantV (.bool (decide (n9 > n17))) false then
  cBn p22.1 fun q27 =>
  cBn (bif q27 then p26.1 else (.bool false)) fun b28 =>
  some ((.bool b28), p26.2)
  else some (undef, p26.2)).bind fun p29 =>
  cBn (bif (decide (n9 > n17)) then (.bool true) else p29.1) fun b30 =>
  some ((.bool b30), List.take h0.length p29.2)
  else none
  else none
theorem F89_eq0 (rc : Rec) (md : Md) (a0_0 : Int) (a0_1 : Int) (a0_2 : Int) (a0_3 : Value) (a0_4 : Int) (a0_5 : Int) (a1 : Int) (a2 : Int) (h0 : Heap) : callStep0 Try.prog cfg rc md 89 [(.agg #[(.int .i64 a0_0), (.int .i64 a0_1), (.int .i64 a0_2), a0_3, (.int .i64 a0_4), (.int .i64 a0_5)]), (.int .i64 a1), (.int .i64 a2)] h0 = F89 rc ⟨md.ro, h0.length⟩ a0_0 a0_1 a0_2 a0_3 a0_4 a0_5 a1 a2 h0 := by kernel_rfl
theorem F89_eq (rc : Rec) (md : Md) (a0_0 : Int) (a0_1 : Int) (a0_2 : Int) (a0_3 : Value) (a0_4 : Int) (a0_5 : Int) (a1 : Int) (a2 : Int) (h0 : Heap) : callStep Try.prog cfg rc md 89 [(.agg #[(.int .i64 a0_0), (.int .i64 a0_1), (.int .i64 a0_2), a0_3, (.int .i64 a0_4), (.int .i64 a0_5)]), (.int .i64 a1), (.int .i64 a2)] h0 = F89 rc ⟨md.ro, h0.length⟩ a0_0 a0_1 a0_2 a0_3 a0_4 a0_5 a1 a2 h0 := (callStep_ne (by kernel_rfl)).trans (F89_eq0 rc md a0_0 a0_1 a0_2 a0_3 a0_4 a0_5 a1 a2 h0)

/-- tombolo/treap.counts -/
noncomputable def F90 (rc : Rec) (md : Md) (a0 : Int) (h0 : Heap) : Option (Value × Heap) :=
  some ((.int .u64 (bAnd .u64 a0 4294967295)), h0)
theorem F90_eq0 (rc : Rec) (md : Md) (a0 : Int) (h0 : Heap) : callStep0 Try.prog cfg rc md 90 [(.int .u64 a0)] h0 = F90 rc ⟨h0.length, h0.length⟩ a0 h0 := by kernel_rfl
theorem F90_eq (rc : Rec) (md : Md) (a0 : Int) (h0 : Heap) : callStep Try.prog cfg rc md 90 [(.int .u64 a0)] h0 = alone h0 (F90 rc ⟨0, 0⟩ a0 []) := by
  have e : callStep Try.prog cfg rc md 90 [(.int .u64 a0)] h0 = alone h0 (callStep0 Try.prog cfg rc ⟨0, 0⟩ 90 [(.int .u64 a0)] []) := by kernel_rfl
  rw [e, F90_eq0]; rfl

end Go.Det.E
