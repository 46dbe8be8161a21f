/- Printed functions. -/
import Derived.Test.YtodeenahpoobkaaE7
import Derived.Test.YtodeenahpoobkaaDetT
import Derived.Test.YtodeenahpoobkaaDetX
import Derived.Test.YtodeenahpoobkaaProg
set_option autoImplicit false
set_option linter.unusedVariables false
set_option linter.unusedSimpArgs false
namespace Go.Det.E
open Go.Proofs Go.Det

/-- tombolo/tombololaw10.TourBegins -/
noncomputable def Jk12_4 (rc : Rec) (md : Md) (h0 : Heap) (e : Exit) (s3 : Value) (s6 : Value) (s7 : Value) (s10 : Value) (s11 : Value) (s13 : Value) (s14 : Value) (h : Heap) : Option (Value × Heap) :=
  match e with
  | .normal =>
    cl (rc md 32 [] h) fun v1 h2 =>
    cBn v1 fun b3 =>
    some ((.bool b3), List.take h0.length h2)
  | .exit j =>
    bif Nat.beq j 4 then
      cl (rc md 32 [] h) fun v4 h5 =>
      cBn v4 fun b6 =>
      some ((.bool b6), List.take h0.length h5)
    else
      none
  | .ret =>
    fin1 h0 s6 h
  | .goto l => none
  | .panic ps => none
  | .outgrown => none
theorem Jk12_4_at (rc : Rec) (md : Md) (h0 : Heap) (e : Exit) (t : T) (h : Heap) : kAt Try.prog cfg rc md 145 (bodyOf Try.prog 12) [1, 1, 1, 1, 1, 1, 1, 1, 1, 1, 0, 1, 0] (retK Try.prog cfg 12 (rsOf Try.prog 12) h0) e t h = Jk12_4 rc md h0 e (t 3) (t 6) (t 7) (t 10) (t 11) (t 13) (t 14) h := by cases e <;> kernel_rfl
noncomputable def J12_4b0 (rc : Rec) (md : Md) (s3 : Value) (s6 : Value) (s7 : Value) (s10 : Value) (s11 : Value) (s13 : Value) (s14 : Value) (s15 : Value) (s16 : Value) (h : Heap) : Option (((Value × Value × Value × Value × Value × Value × Value) × Heap) ⊕ (Exit × (Value × Value × Value × Value × Value × Value × Value) × Heap)) :=
  cl (rc md 35 [s15, s16] h) fun v1 h2 =>
  cBn v1 fun b3 =>
  bif !b3 then
    some (.inr (.ret, (s3, (.bool false), s7, s10, s11, s13, s14), h2))
  else
    aBin Try.prog .add 3 s14 (.int .i64 1) fun v4 =>
    some (.inl ((s3, s6, s7, s10, s11, s13, v4), h2))
theorem J12_4b0_at (rc : Rec) (md : Md) (t : T) (h : Heap) : cut Try.prog cfg rc md 145 (sub (bodyOf Try.prog 12) [1, 1, 1, 1, 1, 1, 1, 1, 1, 1, 0, 1, 0, 0]) [1, 0, 0, 1, 1, 1] (rndK (fun t => (t 3, t 6, t 7, t 10, t 11, t 13, t 14))) t h = J12_4b0 rc md (t 3) (t 6) (t 7) (t 10) (t 11) (t 13) (t 14) (t 15) (t 16) h := by kernel_rfl
theorem J12_4b0_cut (rc : Rec) (md : Md) : cut Try.prog cfg rc md 145 (sub (bodyOf Try.prog 12) [1, 1, 1, 1, 1, 1, 1, 1, 1, 1, 0, 1, 0, 0]) [1, 0, 0, 1, 1, 1] (rndK (fun t => (t 3, t 6, t 7, t 10, t 11, t 13, t 14))) = fun t h => J12_4b0 rc md (t 3) (t 6) (t 7) (t 10) (t 11) (t 13) (t 14) (t 15) (t 16) h := funext fun t => funext fun h => J12_4b0_at rc md t h
/-- a round -/
noncomputable def Jr12_4 (rc : Rec) (md : Md) (s3 : Value) (s6 : Value) (s7 : Value) (s10 : Value) (s11 : Value) (s13 : Value) (s14 : Value) (h : Heap) : Option (((Value × Value × Value × Value × Value × Value × Value) × Heap) ⊕ (Exit × (Value × Value × Value × Value × Value × Value × Value) × Heap)) :=
  fA 0 s3 fun v1 =>
  ldN 3 v1 h fun v2 =>
  cl (rc md 48 [v2] h) fun v3 h4 =>
  cIn .i64 v3 fun n5 =>
  aBin Try.prog .leq 3 s14 (.int .i64 n5) fun v6 =>
  cBn v6 fun b7 =>
  bif b7 then
    bif okNil Try.prog s7 then
    fA 3 s7 fun v8 =>
    fA 0 v8 fun v9 =>
    ldN 6 v9 h4 fun v10 =>
    bif okNil Try.prog s7 then
    fA 3 s7 fun v11 =>
    fA 0 v11 fun v12 =>
    ldN 6 v12 h4 fun v13 =>
    cl (rc md 21 [v13, s14] h4) fun v14 h15 =>
    cIn .i64 v14 fun n16 =>
    cLE true (fun hq => ldN 6 v9 hq some) v10 h4 h15 <|
    cl (rc md 20 [v10, (.int .i64 n16)] h15) fun v17 h18 =>
    aBin Try.prog .sub 3 s14 (.int .i64 1) fun v19 =>
    ixSV 1 s11 v19 fun v20 =>
    ld1 v20 h18 fun v21 =>
    bif okNil Try.prog s7 then
    fA 3 s7 fun v22 =>
    fA 0 v22 fun v23 =>
    ldN 6 v23 h18 fun v24 =>
    cl (rc md 21 [v24, s14] h18) fun v25 h26 =>
    cIn .i64 v25 fun n27 =>
    aBin Try.prog .eql 3 (.int .i64 n27) s13 fun v28 =>
    cBn v28 fun b29 =>
    bif b29 then
      cl (rc md 49 [v21, s10] h26) fun v30 h31 =>
      J12_4b0 rc md s3 s6 s7 s10 s11 s13 s14 v17 v30 h31
    else
      J12_4b0 rc md s3 s6 s7 s10 s11 s13 s14 v17 v21 h26
    else none
    else none
    else none
  else
    some (.inr ((.exit 4), (s3, s6, s7, s10, s11, s13, s14), h4))
noncomputable def Jr12_4H (rc : Rec) (md : Md) (X0 : T → Heap → Option (((Value × Value × Value × Value × Value × Value × Value) × Heap) ⊕ (Exit × (Value × Value × Value × Value × Value × Value × Value) × Heap))) (t : T) (h : Heap) : Option (((Value × Value × Value × Value × Value × Value × Value) × Heap) ⊕ (Exit × (Value × Value × Value × Value × Value × Value × Value) × Heap)) :=
  fA 0 (t 3) fun v1 =>
  ldN 3 v1 h fun v2 =>
  cl (rc md 48 [v2] h) fun v3 h4 =>
  cIn .i64 v3 fun n5 =>
  aBin Try.prog .leq 3 (t 14) (.int .i64 n5) fun v6 =>
  cBn v6 fun b7 =>
  bif b7 then
    bif okNil Try.prog (t 7) then
    fA 3 (t 7) fun v8 =>
    fA 0 v8 fun v9 =>
    ldN 6 v9 h4 fun v10 =>
    bif okNil Try.prog (t 7) then
    fA 3 (t 7) fun v11 =>
    fA 0 v11 fun v12 =>
    ldN 6 v12 h4 fun v13 =>
    cl (rc md 21 [v13, (t 14)] h4) fun v14 h15 =>
    cIn .i64 v14 fun n16 =>
    cLE true (fun hq => ldN 6 v9 hq some) v10 h4 h15 <|
    cl (rc md 20 [v10, (.int .i64 n16)] h15) fun v17 h18 =>
    aBin Try.prog .sub 3 (t 14) (.int .i64 1) fun v19 =>
    ixSV 1 (t 11) v19 fun v20 =>
    ld1 v20 h18 fun v21 =>
    bif okNil Try.prog (t 7) then
    fA 3 (t 7) fun v22 =>
    fA 0 v22 fun v23 =>
    ldN 6 v23 h18 fun v24 =>
    cl (rc md 21 [v24, (t 14)] h18) fun v25 h26 =>
    cIn .i64 v25 fun n27 =>
    aBin Try.prog .eql 3 (.int .i64 n27) (t 13) fun v28 =>
    cBn v28 fun b29 =>
    bif b29 then
      cl (rc md 49 [v21, (t 10)] h26) fun v30 h31 =>
      X0 (upd (upd (upd (upd (upd (upd (upd (upd (upd (upd (upd (upd (upd (upd (upd (upd (upd (upd (upd (upd (upd (upd (upd (upd (upd (upd (upd (upd (upd (upd (upd (upd (upd (upd (upd (upd (upd (upd t 103 (t 14)) 104 v1) 105 v2) 106 (.int .i64 n5)) 107 v6) 110 (t 7)) 111 (t 7)) 112 v8) 113 v9) 114 v10) 115 (t 7)) 116 (t 7)) 117 v11) 118 v12) 119 v13) 120 (t 14)) 121 (.int .i64 n16)) 122 v17) 15 v17) 123 (t 11)) 124 (t 14)) 125 v19) 126 v20) 127 v21) 16 v21) 128 (t 7)) 129 (t 7)) 130 v22) 131 v23) 132 v24) 133 (t 14)) 134 (.int .i64 n27)) 135 (t 13)) 136 v28) 137 v21) 138 (t 10)) 139 v30) 16 v30) h31
    else
      X0 (upd (upd (upd (upd (upd (upd (upd (upd (upd (upd (upd (upd (upd (upd (upd (upd (upd (upd (upd (upd (upd (upd (upd (upd (upd (upd (upd (upd (upd (upd (upd (upd (upd (upd t 103 (t 14)) 104 v1) 105 v2) 106 (.int .i64 n5)) 107 v6) 110 (t 7)) 111 (t 7)) 112 v8) 113 v9) 114 v10) 115 (t 7)) 116 (t 7)) 117 v11) 118 v12) 119 v13) 120 (t 14)) 121 (.int .i64 n16)) 122 v17) 15 v17) 123 (t 11)) 124 (t 14)) 125 v19) 126 v20) 127 v21) 16 v21) 128 (t 7)) 129 (t 7)) 130 v22) 131 v23) 132 v24) 133 (t 14)) 134 (.int .i64 n27)) 135 (t 13)) 136 v28) h26
    else none
    else none
    else none
  else
    some (.inr ((.exit 4), ((t 3), (t 6), (t 7), (t 10), (t 11), (t 13), (t 14)), h4))
theorem Jr12_4_h1 (rc : Rec) (md : Md) (X : Nat → T → Heap → Option (((Value × Value × Value × Value × Value × Value × Value) × Heap) ⊕ (Exit × (Value × Value × Value × Value × Value × Value × Value) × Heap))) (t : T) (h : Heap) : execG Try.prog cfg X rc md 145 (replS (sub (bodyOf Try.prog 12) [1, 1, 1, 1, 1, 1, 1, 1, 1, 1, 0, 1, 0, 0]) [([1, 0, 0, 1, 1, 1], 0)]) (rndK (fun t => (t 3, t 6, t 7, t 10, t 11, t 13, t 14))) t h = Jr12_4H rc md (X 0) t h := by kernel_rfl
theorem Jr12_4_h2 (rc : Rec) (md : Md) (t : T) (h : Heap) : Jr12_4H rc md (fun t h => J12_4b0 rc md (t 3) (t 6) (t 7) (t 10) (t 11) (t 13) (t 14) (t 15) (t 16) h) t h = Jr12_4 rc md (t 3) (t 6) (t 7) (t 10) (t 11) (t 13) (t 14) h := by unfold Jr12_4H Jr12_4; kernel_rfl
theorem Jr12_4_at (rc : Rec) (md : Md) (t : T) (h : Heap) : exec Try.prog cfg rc md 145 (sub (bodyOf Try.prog 12) [1, 1, 1, 1, 1, 1, 1, 1, 1, 1, 0, 1, 0, 0]) (rndK (fun t => (t 3, t 6, t 7, t 10, t 11, t 13, t 14))) t h = Jr12_4 rc md (t 3) (t 6) (t 7) (t 10) (t 11) (t 13) (t 14) h := by
  rw [exec_holes [([1, 0, 0, 1, 1, 1], 0)] (by kernel_rfl), Jr12_4_h1, show (goX Try.prog cfg rc md 145 (sub (bodyOf Try.prog 12) [1, 1, 1, 1, 1, 1, 1, 1, 1, 1, 0, 1, 0, 0]) [([1, 0, 0, 1, 1, 1], 0)] (rndK (fun t => (t 3, t 6, t 7, t 10, t 11, t 13, t 14)))) 0 = _ from J12_4b0_cut rc md]
  exact Jr12_4_h2 rc md t h
noncomputable def J12_4 (rc : Rec) (md : Md) (h0 : Heap) (s3 : Value) (s6 : Value) (s7 : Value) (s10 : Value) (s11 : Value) (s13 : Value) (s14 : Value) (h : Heap) : Option (Value × Heap) :=
  runL (fun x : (Value × Value × Value × Value × Value × Value × Value) × Heap => Jr12_4 rc md x.1.1 x.1.2.1 x.1.2.2.1 x.1.2.2.2.1 x.1.2.2.2.2.1 x.1.2.2.2.2.2.1 x.1.2.2.2.2.2.2 x.2) (fun e (s : Value × Value × Value × Value × Value × Value × Value) h => Jk12_4 rc md h0 e s.1 s.2.1 s.2.2.1 s.2.2.2.1 s.2.2.2.2.1 s.2.2.2.2.2.1 s.2.2.2.2.2.2 h) (s3, s6, s7, s10, s11, s13, s14) h
theorem J12_4_step (rc : Rec) (md : Md) (h0 : Heap) (s3 : Value) (s6 : Value) (s7 : Value) (s10 : Value) (s11 : Value) (s13 : Value) (s14 : Value) (h : Heap) : J12_4 rc md h0 s3 s6 s7 s10 s11 s13 s14 h = (Jr12_4 rc md s3 s6 s7 s10 s11 s13 s14 h).bind fun x => match x with
    | .inl (s, h) => J12_4 rc md h0 s.1 s.2.1 s.2.2.1 s.2.2.2.1 s.2.2.2.2.1 s.2.2.2.2.2.1 s.2.2.2.2.2.2 h
    | .inr (e, s, h) => Jk12_4 rc md h0 e s.1 s.2.1 s.2.2.1 s.2.2.2.1 s.2.2.2.2.1 s.2.2.2.2.2.1 s.2.2.2.2.2.2 h := by
  unfold J12_4
  rw [runL_eq]
  refine congrArg (Option.bind _) (funext fun x => ?_)
  rcases x with ⟨s, h⟩ | ⟨e, s, h⟩ <;> rfl
theorem J12_4_cut (rc : Rec) (md : Md) (h0 : Heap) : cut Try.prog cfg rc md 145 (bodyOf Try.prog 12) [1, 1, 1, 1, 1, 1, 1, 1, 1, 1, 0, 1, 0] (retK Try.prog cfg 12 (rsOf Try.prog 12) h0) = fun t h => J12_4 rc md h0 (t 3) (t 6) (t 7) (t 10) (t 11) (t 13) (t 14) h := by
  funext t h
  have e : sub (bodyOf Try.prog 12) [1, 1, 1, 1, 1, 1, 1, 1, 1, 1, 0, 1, 0] = .loop (sub (bodyOf Try.prog 12) [1, 1, 1, 1, 1, 1, 1, 1, 1, 1, 0, 1, 0, 0]) := by kernel_rfl
  unfold cut
  rw [e]
  exact loop_eq (by kernel_rfl) (fun t => (t 3, t 6, t 7, t 10, t 11, t 13, t 14)) (fun x : (Value × Value × Value × Value × Value × Value × Value) × Heap => Jr12_4 rc md x.1.1 x.1.2.1 x.1.2.2.1 x.1.2.2.2.1 x.1.2.2.2.2.1 x.1.2.2.2.2.2.1 x.1.2.2.2.2.2.2 x.2) (fun t h => Jr12_4_at rc md t h) (fun e (s : Value × Value × Value × Value × Value × Value × Value) h => Jk12_4 rc md h0 e s.1 s.2.1 s.2.2.1 s.2.2.2.1 s.2.2.2.2.1 s.2.2.2.2.2.1 s.2.2.2.2.2.2 h) (fun e t h => Jk12_4_at rc md h0 e t h) t h
noncomputable def J12_3 (rc : Rec) (md : Md) (h0 : Heap) (s1 : Value) (s2 : Value) (s3 : Value) (s6 : Value) (s7 : Value) (s10 : Value) (s11 : Value) (h : Heap) : Option (Value × Heap) :=
  bif okNil Try.prog s7 then
  fA 3 s7 fun v1 =>
  ldN 6 v1 h fun v2 =>
  cl (rc md 45 [v2, s1, s2] h) fun v3 h4 =>
  cIn .i64 v3 fun n5 =>
  bif okNil Try.prog s7 then
  fA 3 s7 fun v6 =>
  fA 0 v6 fun v7 =>
  ldN 6 v7 h4 fun v8 =>
  cl (rc md 21 [v8, s10] h4) fun v9 h10 =>
  cIn .i64 v9 fun n11 =>
  bif (n11 != n5) then
    some ((.bool false), List.take h0.length h10)
  else
    J12_4 rc md h0 s3 s6 s7 s10 s11 (.int .i64 n5) (.int .i64 1) h10
  else none
  else none
noncomputable def J12_3H (rc : Rec) (md : Md) (h0 : Heap) (X2 : T → Heap → Option (Value × Heap)) (t : T) (h : Heap) : Option (Value × Heap) :=
  bif okNil Try.prog (t 7) then
  fA 3 (t 7) fun v1 =>
  ldN 6 v1 h fun v2 =>
  cl (rc md 45 [v2, (t 1), (t 2)] h) fun v3 h4 =>
  cIn .i64 v3 fun n5 =>
  bif okNil Try.prog (t 7) then
  fA 3 (t 7) fun v6 =>
  fA 0 v6 fun v7 =>
  ldN 6 v7 h4 fun v8 =>
  cl (rc md 21 [v8, (t 10)] h4) fun v9 h10 =>
  cIn .i64 v9 fun n11 =>
  bif (n11 != n5) then
    some ((.bool false), List.take h0.length h10)
  else
    X2 (upd (upd (upd (upd (upd (upd (upd (upd (upd (upd (upd (upd (upd (upd (upd (upd (upd (upd t 87 (t 7)) 88 (t 7)) 89 v1) 90 v2) 91 (t 1)) 92 (t 2)) 93 (.int .i64 n5)) 13 (.int .i64 n5)) 94 (t 7)) 95 (t 7)) 96 v6) 97 v7) 98 v8) 99 (t 10)) 100 (.int .i64 n11)) 101 (.int .i64 n5)) 102 (.bool (n11 != n5))) 14 (.int .i64 1)) h10
  else none
  else none
theorem J12_3_h1 (rc : Rec) (md : Md) (h0 : Heap) (X : Nat → T → Heap → Option (Value × Heap)) (t : T) (h : Heap) : execG Try.prog cfg X rc md 145 (sub (replS (bodyOf Try.prog 12) [([1, 1, 1, 1, 0, 1, 0], 0), ([1, 1, 1, 1, 1, 1, 1, 0, 1, 0], 1), ([1, 1, 1, 1, 1, 1, 1, 1, 1, 1, 0, 1, 0], 2)]) [1, 1, 1, 1, 1, 1, 1, 1]) (kAtG Try.prog cfg X rc md 145 (replS (bodyOf Try.prog 12) [([1, 1, 1, 1, 0, 1, 0], 0), ([1, 1, 1, 1, 1, 1, 1, 0, 1, 0], 1), ([1, 1, 1, 1, 1, 1, 1, 1, 1, 1, 0, 1, 0], 2)]) [1, 1, 1, 1, 1, 1, 1, 1] (retK Try.prog cfg 12 (rsOf Try.prog 12) h0)) t h = J12_3H rc md h0 (X 2) t h := by kernel_rfl
theorem J12_3_h2 (rc : Rec) (md : Md) (h0 : Heap) (t : T) (h : Heap) : J12_3H rc md h0 (fun t h => J12_4 rc md h0 (t 3) (t 6) (t 7) (t 10) (t 11) (t 13) (t 14) h) t h = J12_3 rc md h0 (t 1) (t 2) (t 3) (t 6) (t 7) (t 10) (t 11) h := by (unfold J12_3H J12_3; kernel_rfl)
theorem J12_3_at (rc : Rec) (md : Md) (h0 : Heap) (t : T) (h : Heap) : cut Try.prog cfg rc md 145 (bodyOf Try.prog 12) [1, 1, 1, 1, 1, 1, 1, 1] (retK Try.prog cfg 12 (rsOf Try.prog 12) h0) t h = J12_3 rc md h0 (t 1) (t 2) (t 3) (t 6) (t 7) (t 10) (t 11) h := by
  rw [cut_holes [([1, 1, 1, 1, 0, 1, 0], 0), ([1, 1, 1, 1, 1, 1, 1, 0, 1, 0], 1), ([1, 1, 1, 1, 1, 1, 1, 1, 1, 1, 0, 1, 0], 2)] [1, 1, 1, 1, 1, 1, 1, 1] (by kernel_rfl), J12_3_h1, show (goX Try.prog cfg rc md 145 (bodyOf Try.prog 12) [([1, 1, 1, 1, 0, 1, 0], 0), ([1, 1, 1, 1, 1, 1, 1, 0, 1, 0], 1), ([1, 1, 1, 1, 1, 1, 1, 1, 1, 1, 0, 1, 0], 2)] (retK Try.prog cfg 12 (rsOf Try.prog 12) h0)) 2 = _ from J12_4_cut rc md h0]
  exact J12_3_h2 rc md h0 t h
theorem J12_3_cut (rc : Rec) (md : Md) (h0 : Heap) : cut Try.prog cfg rc md 145 (bodyOf Try.prog 12) [1, 1, 1, 1, 1, 1, 1, 1] (retK Try.prog cfg 12 (rsOf Try.prog 12) h0) = fun t h => J12_3 rc md h0 (t 1) (t 2) (t 3) (t 6) (t 7) (t 10) (t 11) h := funext fun t => funext fun h => J12_3_at rc md h0 t h
noncomputable def Jk12_2 (rc : Rec) (md : Md) (h0 : Heap) (e : Exit) (s1 : Value) (s2 : Value) (s3 : Value) (s6 : Value) (s7 : Value) (s10 : Value) (s11 : Value) (s12 : Value) (h : Heap) : Option (Value × Heap) :=
  match e with
  | .normal =>
    J12_3 rc md h0 s1 s2 s3 s6 s7 s10 s11 h
  | .exit j =>
    bif Nat.beq j 2 then
      J12_3 rc md h0 s1 s2 s3 s6 s7 s10 s11 h
    else
      none
  | .ret =>
    fin1 h0 s6 h
  | .goto l => none
  | .panic ps => none
  | .outgrown => none
noncomputable def Jk12_2H (rc : Rec) (md : Md) (h0 : Heap) (X3 : T → Heap → Option (Value × Heap)) (e : Exit) (t : T) (h : Heap) : Option (Value × Heap) :=
  match e with
  | .normal =>
    X3 t h
  | .exit j =>
    bif Nat.beq j 2 then
      X3 t h
    else
      none
  | .ret =>
    fin1 h0 (t 6) h
  | .goto l => none
  | .panic ps => none
  | .outgrown => none
theorem Jk12_2_h1 (rc : Rec) (md : Md) (h0 : Heap) (X : Nat → T → Heap → Option (Value × Heap)) (e : Exit) (t : T) (h : Heap) : kAtG Try.prog cfg X rc md 145 (replS (bodyOf Try.prog 12) [([1, 1, 1, 1, 0, 1, 0], 0), ([1, 1, 1, 1, 1, 1, 1, 1, 1, 1, 0, 1, 0], 2), ([1, 1, 1, 1, 1, 1, 1, 1], 3)]) [1, 1, 1, 1, 1, 1, 1, 0, 1, 0] (retK Try.prog cfg 12 (rsOf Try.prog 12) h0) e t h = Jk12_2H rc md h0 (X 3) e t h := by cases e <;> kernel_rfl
theorem Jk12_2_h2 (rc : Rec) (md : Md) (h0 : Heap) (e : Exit) (t : T) (h : Heap) : Jk12_2H rc md h0 (fun t h => J12_3 rc md h0 (t 1) (t 2) (t 3) (t 6) (t 7) (t 10) (t 11) h) e t h = Jk12_2 rc md h0 e (t 1) (t 2) (t 3) (t 6) (t 7) (t 10) (t 11) (t 12) h := by cases e <;> (unfold Jk12_2H Jk12_2; kernel_rfl)
theorem Jk12_2_at (rc : Rec) (md : Md) (h0 : Heap) (e : Exit) (t : T) (h : Heap) : kAt Try.prog cfg rc md 145 (bodyOf Try.prog 12) [1, 1, 1, 1, 1, 1, 1, 0, 1, 0] (retK Try.prog cfg 12 (rsOf Try.prog 12) h0) e t h = Jk12_2 rc md h0 e (t 1) (t 2) (t 3) (t 6) (t 7) (t 10) (t 11) (t 12) h := by
  rw [kAt_holes [([1, 1, 1, 1, 0, 1, 0], 0), ([1, 1, 1, 1, 1, 1, 1, 1, 1, 1, 0, 1, 0], 2), ([1, 1, 1, 1, 1, 1, 1, 1], 3)] [1, 1, 1, 1, 1, 1, 1, 0, 1, 0] (by kernel_rfl), Jk12_2_h1, show (goX Try.prog cfg rc md 145 (bodyOf Try.prog 12) [([1, 1, 1, 1, 0, 1, 0], 0), ([1, 1, 1, 1, 1, 1, 1, 1, 1, 1, 0, 1, 0], 2), ([1, 1, 1, 1, 1, 1, 1, 1], 3)] (retK Try.prog cfg 12 (rsOf Try.prog 12) h0)) 3 = _ from J12_3_cut rc md h0]
  exact Jk12_2_h2 rc md h0 e t h
/-- a round -/
noncomputable def Jr12_2 (rc : Rec) (md : Md) (s1 : Value) (s2 : Value) (s3 : Value) (s6 : Value) (s7 : Value) (s10 : Value) (s11 : Value) (s12 : Value) (h : Heap) : Option (((Value × Value × Value × Value × Value × Value × Value × Value) × Heap) ⊕ (Exit × (Value × Value × Value × Value × Value × Value × Value × Value) × Heap)) :=
  fA 0 s3 fun v1 =>
  ldN 3 v1 h fun v2 =>
  cl (rc md 48 [v2] h) fun v3 h4 =>
  cIn .i64 v3 fun n5 =>
  aBin Try.prog .leq 3 s12 (.int .i64 n5) fun v6 =>
  cBn v6 fun b7 =>
  bif b7 then
    bif okNil Try.prog s7 then
    fA 3 s7 fun v8 =>
    fA 0 v8 fun v9 =>
    ldN 6 v9 h4 fun v10 =>
    bif okNil Try.prog s7 then
    fA 3 s7 fun v11 =>
    fA 0 v11 fun v12 =>
    ldN 6 v12 h4 fun v13 =>
    cl (rc md 21 [v13, s12] h4) fun v14 h15 =>
    cIn .i64 v14 fun n16 =>
    cLE true (fun hq => ldN 6 v9 hq some) v10 h4 h15 <|
    cl (rc md 20 [v10, (.int .i64 n16)] h15) fun v17 h18 =>
    aBuildSlice Try.prog 43 1 [(0, v17)] h18 fun v19 h20 =>
    aBuiltin Try.prog md .append #[43, 43] [s11, v19] h20 fun v21 h22 =>
    aBin Try.prog .add 3 s12 (.int .i64 1) fun v23 =>
    some (.inl ((s1, s2, s3, s6, s7, s10, v21, v23), h22))
    else none
    else none
  else
    some (.inr ((.exit 2), (s1, s2, s3, s6, s7, s10, s11, s12), h4))
theorem Jr12_2_at (rc : Rec) (md : Md) (t : T) (h : Heap) : exec Try.prog cfg rc md 145 (sub (bodyOf Try.prog 12) [1, 1, 1, 1, 1, 1, 1, 0, 1, 0, 0]) (rndK (fun t => (t 1, t 2, t 3, t 6, t 7, t 10, t 11, t 12))) t h = Jr12_2 rc md (t 1) (t 2) (t 3) (t 6) (t 7) (t 10) (t 11) (t 12) h := by kernel_rfl
noncomputable def J12_2 (rc : Rec) (md : Md) (h0 : Heap) (s1 : Value) (s2 : Value) (s3 : Value) (s6 : Value) (s7 : Value) (s10 : Value) (s11 : Value) (s12 : Value) (h : Heap) : Option (Value × Heap) :=
  runL (fun x : (Value × Value × Value × Value × Value × Value × Value × Value) × Heap => Jr12_2 rc md x.1.1 x.1.2.1 x.1.2.2.1 x.1.2.2.2.1 x.1.2.2.2.2.1 x.1.2.2.2.2.2.1 x.1.2.2.2.2.2.2.1 x.1.2.2.2.2.2.2.2 x.2) (fun e (s : Value × Value × Value × Value × Value × Value × Value × Value) h => Jk12_2 rc md h0 e s.1 s.2.1 s.2.2.1 s.2.2.2.1 s.2.2.2.2.1 s.2.2.2.2.2.1 s.2.2.2.2.2.2.1 s.2.2.2.2.2.2.2 h) (s1, s2, s3, s6, s7, s10, s11, s12) h
theorem J12_2_step (rc : Rec) (md : Md) (h0 : Heap) (s1 : Value) (s2 : Value) (s3 : Value) (s6 : Value) (s7 : Value) (s10 : Value) (s11 : Value) (s12 : Value) (h : Heap) : J12_2 rc md h0 s1 s2 s3 s6 s7 s10 s11 s12 h = (Jr12_2 rc md s1 s2 s3 s6 s7 s10 s11 s12 h).bind fun x => match x with
    | .inl (s, h) => J12_2 rc md h0 s.1 s.2.1 s.2.2.1 s.2.2.2.1 s.2.2.2.2.1 s.2.2.2.2.2.1 s.2.2.2.2.2.2.1 s.2.2.2.2.2.2.2 h
    | .inr (e, s, h) => Jk12_2 rc md h0 e s.1 s.2.1 s.2.2.1 s.2.2.2.1 s.2.2.2.2.1 s.2.2.2.2.2.1 s.2.2.2.2.2.2.1 s.2.2.2.2.2.2.2 h := by
  unfold J12_2
  rw [runL_eq]
  refine congrArg (Option.bind _) (funext fun x => ?_)
  rcases x with ⟨s, h⟩ | ⟨e, s, h⟩ <;> rfl
theorem J12_2_cut (rc : Rec) (md : Md) (h0 : Heap) : cut Try.prog cfg rc md 145 (bodyOf Try.prog 12) [1, 1, 1, 1, 1, 1, 1, 0, 1, 0] (retK Try.prog cfg 12 (rsOf Try.prog 12) h0) = fun t h => J12_2 rc md h0 (t 1) (t 2) (t 3) (t 6) (t 7) (t 10) (t 11) (t 12) h := by
  funext t h
  have e : sub (bodyOf Try.prog 12) [1, 1, 1, 1, 1, 1, 1, 0, 1, 0] = .loop (sub (bodyOf Try.prog 12) [1, 1, 1, 1, 1, 1, 1, 0, 1, 0, 0]) := by kernel_rfl
  unfold cut
  rw [e]
  exact loop_eq (by kernel_rfl) (fun t => (t 1, t 2, t 3, t 6, t 7, t 10, t 11, t 12)) (fun x : (Value × Value × Value × Value × Value × Value × Value × Value) × Heap => Jr12_2 rc md x.1.1 x.1.2.1 x.1.2.2.1 x.1.2.2.2.1 x.1.2.2.2.2.1 x.1.2.2.2.2.2.1 x.1.2.2.2.2.2.2.1 x.1.2.2.2.2.2.2.2 x.2) (fun t h => Jr12_2_at rc md t h) (fun e (s : Value × Value × Value × Value × Value × Value × Value × Value) h => Jk12_2 rc md h0 e s.1 s.2.1 s.2.2.1 s.2.2.2.1 s.2.2.2.2.1 s.2.2.2.2.2.1 s.2.2.2.2.2.2.1 s.2.2.2.2.2.2.2 h) (fun e t h => Jk12_2_at rc md h0 e t h) t h
noncomputable def J12_1 (rc : Rec) (md : Md) (h0 : Heap) (s1 : Value) (s2 : Value) (s3 : Value) (s6 : Value) (s7 : Value) (h : Heap) : Option (Value × Heap) :=
  fA 0 s3 fun v1 =>
  ldN 3 v1 h fun v2 =>
  cl (rc md 44 [v2, s1, s2] h) fun v3 h4 =>
  cIn .i64 v3 fun n5 =>
  J12_2 rc md h0 s1 s2 s3 s6 s7 (.int .i64 n5) (.slice none 0 0) (.int .i64 1) h4
noncomputable def J12_1H (rc : Rec) (md : Md) (h0 : Heap) (X1 : T → Heap → Option (Value × Heap)) (t : T) (h : Heap) : Option (Value × Heap) :=
  fA 0 (t 3) fun v1 =>
  ldN 3 v1 h fun v2 =>
  cl (rc md 44 [v2, (t 1), (t 2)] h) fun v3 h4 =>
  cIn .i64 v3 fun n5 =>
  X1 (upd (upd (upd (upd (upd (upd (upd (upd t 59 v1) 60 v2) 61 (t 1)) 62 (t 2)) 63 (.int .i64 n5)) 10 (.int .i64 n5)) 11 (.slice none 0 0)) 12 (.int .i64 1)) h4
theorem J12_1_h1 (rc : Rec) (md : Md) (h0 : Heap) (X : Nat → T → Heap → Option (Value × Heap)) (t : T) (h : Heap) : execG Try.prog cfg X rc md 145 (sub (replS (bodyOf Try.prog 12) [([1, 1, 1, 1, 0, 1, 0], 0), ([1, 1, 1, 1, 1, 1, 1, 0, 1, 0], 1), ([1, 1, 1, 1, 1, 1, 1, 1, 1, 1, 0, 1, 0], 2), ([1, 1, 1, 1, 1, 1, 1, 1], 3)]) [1, 1, 1, 1, 1]) (kAtG Try.prog cfg X rc md 145 (replS (bodyOf Try.prog 12) [([1, 1, 1, 1, 0, 1, 0], 0), ([1, 1, 1, 1, 1, 1, 1, 0, 1, 0], 1), ([1, 1, 1, 1, 1, 1, 1, 1, 1, 1, 0, 1, 0], 2), ([1, 1, 1, 1, 1, 1, 1, 1], 3)]) [1, 1, 1, 1, 1] (retK Try.prog cfg 12 (rsOf Try.prog 12) h0)) t h = J12_1H rc md h0 (X 1) t h := by kernel_rfl
theorem J12_1_h2 (rc : Rec) (md : Md) (h0 : Heap) (t : T) (h : Heap) : J12_1H rc md h0 (fun t h => J12_2 rc md h0 (t 1) (t 2) (t 3) (t 6) (t 7) (t 10) (t 11) (t 12) h) t h = J12_1 rc md h0 (t 1) (t 2) (t 3) (t 6) (t 7) h := by (unfold J12_1H J12_1; kernel_rfl)
theorem J12_1_at (rc : Rec) (md : Md) (h0 : Heap) (t : T) (h : Heap) : cut Try.prog cfg rc md 145 (bodyOf Try.prog 12) [1, 1, 1, 1, 1] (retK Try.prog cfg 12 (rsOf Try.prog 12) h0) t h = J12_1 rc md h0 (t 1) (t 2) (t 3) (t 6) (t 7) h := by
  rw [cut_holes [([1, 1, 1, 1, 0, 1, 0], 0), ([1, 1, 1, 1, 1, 1, 1, 0, 1, 0], 1), ([1, 1, 1, 1, 1, 1, 1, 1, 1, 1, 0, 1, 0], 2), ([1, 1, 1, 1, 1, 1, 1, 1], 3)] [1, 1, 1, 1, 1] (by kernel_rfl), J12_1_h1, show (goX Try.prog cfg rc md 145 (bodyOf Try.prog 12) [([1, 1, 1, 1, 0, 1, 0], 0), ([1, 1, 1, 1, 1, 1, 1, 0, 1, 0], 1), ([1, 1, 1, 1, 1, 1, 1, 1, 1, 1, 0, 1, 0], 2), ([1, 1, 1, 1, 1, 1, 1, 1], 3)] (retK Try.prog cfg 12 (rsOf Try.prog 12) h0)) 1 = _ from J12_2_cut rc md h0]
  exact J12_1_h2 rc md h0 t h
theorem J12_1_cut (rc : Rec) (md : Md) (h0 : Heap) : cut Try.prog cfg rc md 145 (bodyOf Try.prog 12) [1, 1, 1, 1, 1] (retK Try.prog cfg 12 (rsOf Try.prog 12) h0) = fun t h => J12_1 rc md h0 (t 1) (t 2) (t 3) (t 6) (t 7) h := funext fun t => funext fun h => J12_1_at rc md h0 t h
noncomputable def Jk12_0 (rc : Rec) (md : Md) (h0 : Heap) (e : Exit) (s1 : Value) (s2 : Value) (s3 : Value) (s6 : Value) (s7 : Value) (s48 : Value) (s49 : Value) (s50 : Value) (h : Heap) : Option (Value × Heap) :=
  match e with
  | .normal =>
    J12_1 rc md h0 s1 s2 s3 s6 s7 h
  | .exit j =>
    bif Nat.beq j 0 then
      J12_1 rc md h0 s1 s2 s3 s6 s7 h
    else
      none
  | .ret =>
    fin1 h0 s6 h
  | .goto l => none
  | .panic ps => none
  | .outgrown => none
noncomputable def Jk12_0H (rc : Rec) (md : Md) (h0 : Heap) (X4 : T → Heap → Option (Value × Heap)) (e : Exit) (t : T) (h : Heap) : Option (Value × Heap) :=
  match e with
  | .normal =>
    X4 t h
  | .exit j =>
    bif Nat.beq j 0 then
      X4 t h
    else
      none
  | .ret =>
    fin1 h0 (t 6) h
  | .goto l => none
  | .panic ps => none
  | .outgrown => none
theorem Jk12_0_h1 (rc : Rec) (md : Md) (h0 : Heap) (X : Nat → T → Heap → Option (Value × Heap)) (e : Exit) (t : T) (h : Heap) : kAtG Try.prog cfg X rc md 145 (replS (bodyOf Try.prog 12) [([1, 1, 1, 1, 1, 1, 1, 0, 1, 0], 1), ([1, 1, 1, 1, 1, 1, 1, 1, 1, 1, 0, 1, 0], 2), ([1, 1, 1, 1, 1, 1, 1, 1], 3), ([1, 1, 1, 1, 1], 4)]) [1, 1, 1, 1, 0, 1, 0] (retK Try.prog cfg 12 (rsOf Try.prog 12) h0) e t h = Jk12_0H rc md h0 (X 4) e t h := by cases e <;> kernel_rfl
theorem Jk12_0_h2 (rc : Rec) (md : Md) (h0 : Heap) (e : Exit) (t : T) (h : Heap) : Jk12_0H rc md h0 (fun t h => J12_1 rc md h0 (t 1) (t 2) (t 3) (t 6) (t 7) h) e t h = Jk12_0 rc md h0 e (t 1) (t 2) (t 3) (t 6) (t 7) (t 48) (t 49) (t 50) h := by cases e <;> (unfold Jk12_0H Jk12_0; kernel_rfl)
theorem Jk12_0_at (rc : Rec) (md : Md) (h0 : Heap) (e : Exit) (t : T) (h : Heap) : kAt Try.prog cfg rc md 145 (bodyOf Try.prog 12) [1, 1, 1, 1, 0, 1, 0] (retK Try.prog cfg 12 (rsOf Try.prog 12) h0) e t h = Jk12_0 rc md h0 e (t 1) (t 2) (t 3) (t 6) (t 7) (t 48) (t 49) (t 50) h := by
  rw [kAt_holes [([1, 1, 1, 1, 1, 1, 1, 0, 1, 0], 1), ([1, 1, 1, 1, 1, 1, 1, 1, 1, 1, 0, 1, 0], 2), ([1, 1, 1, 1, 1, 1, 1, 1], 3), ([1, 1, 1, 1, 1], 4)] [1, 1, 1, 1, 0, 1, 0] (by kernel_rfl), Jk12_0_h1, show (goX Try.prog cfg rc md 145 (bodyOf Try.prog 12) [([1, 1, 1, 1, 1, 1, 1, 0, 1, 0], 1), ([1, 1, 1, 1, 1, 1, 1, 1, 1, 1, 0, 1, 0], 2), ([1, 1, 1, 1, 1, 1, 1, 1], 3), ([1, 1, 1, 1, 1], 4)] (retK Try.prog cfg 12 (rsOf Try.prog 12) h0)) 4 = _ from J12_1_cut rc md h0]
  exact Jk12_0_h2 rc md h0 e t h
/-- a round -/
noncomputable def Jr12_0 (rc : Rec) (md : Md) (s1 : Value) (s2 : Value) (s3 : Value) (s6 : Value) (s7 : Value) (s48 : Value) (s49 : Value) (s50 : Value) (h : Heap) : Option (((Value × Value × Value × Value × Value × Value × Value × Value) × Heap) ⊕ (Exit × (Value × Value × Value × Value × Value × Value × Value × Value) × Heap)) :=
  aBin Try.prog .lss 3 s50 s49 fun v1 =>
  cBn v1 fun b2 =>
  bif b2 then
    ixSV 5 s48 s50 fun v3 =>
    ldN 5 v3 h fun v4 =>
    let h5 : Heap := h ++ [.own [(.int .i64 0), (.int .i64 0), (.int .i64 0), (.int .i64 0), (.int .i64 0)]]
    st md 5 (.pointer (some ⟨h.length, 0, none⟩)) v4 h5 fun h6 =>
    ldN 5 (.pointer (some ⟨h.length, 0, none⟩)) h6 fun v7 =>
    cl (rc md 34 [s7, v7] h6) fun v8 h9 =>
    cBn v8 fun b10 =>
    bif !b10 then
      some (.inr (.ret, (s1, s2, s3, (.bool false), s7, s48, s49, s50), h9))
    else
      aBin Try.prog .add 3 s50 (.int .i64 1) fun v11 =>
      some (.inl ((s1, s2, s3, s6, s7, s48, s49, v11), h9))
  else
    some (.inr ((.exit 0), (s1, s2, s3, s6, s7, s48, s49, s50), h))
theorem Jr12_0_at (rc : Rec) (md : Md) (t : T) (h : Heap) : exec Try.prog cfg rc md 145 (sub (bodyOf Try.prog 12) [1, 1, 1, 1, 0, 1, 0, 0]) (rndK (fun t => (t 1, t 2, t 3, t 6, t 7, t 48, t 49, t 50))) t h = Jr12_0 rc md (t 1) (t 2) (t 3) (t 6) (t 7) (t 48) (t 49) (t 50) h := by kernel_rfl
noncomputable def J12_0 (rc : Rec) (md : Md) (h0 : Heap) (s1 : Value) (s2 : Value) (s3 : Value) (s6 : Value) (s7 : Value) (s48 : Value) (s49 : Value) (s50 : Value) (h : Heap) : Option (Value × Heap) :=
  runL (fun x : (Value × Value × Value × Value × Value × Value × Value × Value) × Heap => Jr12_0 rc md x.1.1 x.1.2.1 x.1.2.2.1 x.1.2.2.2.1 x.1.2.2.2.2.1 x.1.2.2.2.2.2.1 x.1.2.2.2.2.2.2.1 x.1.2.2.2.2.2.2.2 x.2) (fun e (s : Value × Value × Value × Value × Value × Value × Value × Value) h => Jk12_0 rc md h0 e s.1 s.2.1 s.2.2.1 s.2.2.2.1 s.2.2.2.2.1 s.2.2.2.2.2.1 s.2.2.2.2.2.2.1 s.2.2.2.2.2.2.2 h) (s1, s2, s3, s6, s7, s48, s49, s50) h
theorem J12_0_step (rc : Rec) (md : Md) (h0 : Heap) (s1 : Value) (s2 : Value) (s3 : Value) (s6 : Value) (s7 : Value) (s48 : Value) (s49 : Value) (s50 : Value) (h : Heap) : J12_0 rc md h0 s1 s2 s3 s6 s7 s48 s49 s50 h = (Jr12_0 rc md s1 s2 s3 s6 s7 s48 s49 s50 h).bind fun x => match x with
    | .inl (s, h) => J12_0 rc md h0 s.1 s.2.1 s.2.2.1 s.2.2.2.1 s.2.2.2.2.1 s.2.2.2.2.2.1 s.2.2.2.2.2.2.1 s.2.2.2.2.2.2.2 h
    | .inr (e, s, h) => Jk12_0 rc md h0 e s.1 s.2.1 s.2.2.1 s.2.2.2.1 s.2.2.2.2.1 s.2.2.2.2.2.1 s.2.2.2.2.2.2.1 s.2.2.2.2.2.2.2 h := by
  unfold J12_0
  rw [runL_eq]
  refine congrArg (Option.bind _) (funext fun x => ?_)
  rcases x with ⟨s, h⟩ | ⟨e, s, h⟩ <;> rfl
theorem J12_0_cut (rc : Rec) (md : Md) (h0 : Heap) : cut Try.prog cfg rc md 145 (bodyOf Try.prog 12) [1, 1, 1, 1, 0, 1, 0] (retK Try.prog cfg 12 (rsOf Try.prog 12) h0) = fun t h => J12_0 rc md h0 (t 1) (t 2) (t 3) (t 6) (t 7) (t 48) (t 49) (t 50) h := by
  funext t h
  have e : sub (bodyOf Try.prog 12) [1, 1, 1, 1, 0, 1, 0] = .loop (sub (bodyOf Try.prog 12) [1, 1, 1, 1, 0, 1, 0, 0]) := by kernel_rfl
  unfold cut
  rw [e]
  exact loop_eq (by kernel_rfl) (fun t => (t 1, t 2, t 3, t 6, t 7, t 48, t 49, t 50)) (fun x : (Value × Value × Value × Value × Value × Value × Value × Value) × Heap => Jr12_0 rc md x.1.1 x.1.2.1 x.1.2.2.1 x.1.2.2.2.1 x.1.2.2.2.2.1 x.1.2.2.2.2.2.1 x.1.2.2.2.2.2.2.1 x.1.2.2.2.2.2.2.2 x.2) (fun t h => Jr12_0_at rc md t h) (fun e (s : Value × Value × Value × Value × Value × Value × Value × Value) h => Jk12_0 rc md h0 e s.1 s.2.1 s.2.2.1 s.2.2.2.1 s.2.2.2.2.1 s.2.2.2.2.2.1 s.2.2.2.2.2.2.1 s.2.2.2.2.2.2.2 h) (fun e t h => Jk12_0_at rc md h0 e t h) t h
noncomputable def F12 (rc : Rec) (md : Md) (a0_0 : Int) (a0_1 : Int) (a0_2 : Int) (a0_3 : Value) (a0_4 : Value) (a1 : Int) (a2 : Int) (h0 : Heap) : Option (Value × Heap) :=
  let h1 : Heap := h0 ++ [.own [(.int .i64 a0_0), (.int .i64 a0_1), (.int .i64 a0_2), a0_3, a0_4]]
  ldN 5 (.pointer (some ⟨h0.length, 0, none⟩)) h1 fun v2 =>
  cl (rc md 31 [v2] h1) fun v3 h4 =>
  cBn v3 fun b5 =>
  (bif wantV (.bool (!b5)) false then
  some ((.int .i64 a1), h4)
  else some (undef, h4)).bind fun p6 =>
  (bif wantV (.bool (!b5)) false then
  aBin Try.prog .lss 3 p6.1 (.int .i64 0) fun v7 =>
  some (v7, p6.2)
  else some (undef, p6.2)).bind fun p8 =>
  cBn (bif !b5 then (.bool true) else p8.1) fun b9 =>
  (bif wantV (.bool b9) false then
  some ((.int .i64 a1), p8.2)
  else some (undef, p8.2)).bind fun p10 =>
  (bif wantV (.bool b9) false then
  some ((.pointer (some ⟨h0.length, 0, none⟩)), p10.2)
  else some (undef, p10.2)).bind fun p11 =>
  (bif wantV (.bool b9) false then
  ldN 3 p11.1 p11.2 fun v12 =>
  some (v12, p11.2)
  else some (undef, p11.2)).bind fun p13 =>
  (bif wantV (.bool b9) false then
  cl (rc md 43 [p13.1] p13.2) fun v14 h15 =>
  cIn .i64 v14 fun n16 =>
  some ((.int .i64 n16), h15)
  else some (undef, p13.2)).bind fun p17 =>
  (bif wantV (.bool b9) false then
  aBin Try.prog .geq 3 p10.1 p17.1 fun v18 =>
  some (v18, p17.2)
  else some (undef, p17.2)).bind fun p19 =>
  cBn (bif b9 then (.bool true) else p19.1) fun b20 =>
  (bif wantV (.bool b20) false then
  some ((.int .i64 a2), p19.2)
  else some (undef, p19.2)).bind fun p21 =>
  (bif wantV (.bool b20) false then
  aBin Try.prog .lss 3 p21.1 (.int .i64 0) fun v22 =>
  some (v22, p21.2)
  else some (undef, p21.2)).bind fun p23 =>
  cBn (bif b20 then (.bool true) else p23.1) fun b24 =>
  (bif wantV (.bool b24) false then
  some ((.int .i64 a2), p23.2)
  else some (undef, p23.2)).bind fun p25 =>
  (bif wantV (.bool b24) false then
  some ((.pointer (some ⟨h0.length, 0, none⟩)), p25.2)
  else some (undef, p25.2)).bind fun p26 =>
  (bif wantV (.bool b24) false then
  fA 0 p26.1 fun v27 =>
  some (v27, p26.2)
  else some (undef, p26.2)).bind fun p28 =>
  (bif wantV (.bool b24) false then
  ld1 p28.1 p28.2 fun v29 =>
  cIn .i64 v29 fun n30 =>
  some ((.int .i64 n30), p28.2)
  else some (undef, p28.2)).bind fun p31 =>
  (bif wantV (.bool b24) false then
  aBin Try.prog .geq 3 p25.1 p31.1 fun v32 =>
  some (v32, p31.2)
  else some (undef, p31.2)).bind fun p33 =>
  cBn (bif b24 then (.bool true) else p33.1) fun b34 =>
  bif b34 then
    cl (rc md 32 [] p33.2) fun v35 h36 =>
    cBn v35 fun b37 =>
    some ((.bool b37), List.take h0.length h36)
  else
    ldN 5 (.pointer (some ⟨h0.length, 0, none⟩)) p33.2 fun v38 =>
    cl (rc md 33 [v38] p33.2) fun v39 h40 =>
    aBin Try.prog .eql 68 v39 (.pointer none) fun v41 =>
    cBn v41 fun b42 =>
    bif b42 then
      some ((.bool false), List.take h0.length h40)
    else
      ld1 (.pointer (some ⟨h0.length, 4, none⟩)) h40 fun v43 =>
      lenS v43 fun v44 =>
      cIn .i64 v44 fun n45 =>
      J12_0 rc md h0 (.int .i64 a1) (.int .i64 a2) (.pointer (some ⟨h0.length, 0, none⟩)) (.bool false) v39 v43 (.int .i64 n45) (.int .i64 0) h40
noncomputable def F12H (rc : Rec) (md : Md) (X0 : T → Heap → Option (Value × Heap)) (a0_0 : Int) (a0_1 : Int) (a0_2 : Int) (a0_3 : Value) (a0_4 : Value) (a1 : Int) (a2 : Int) (h0 : Heap) : Option (Value × Heap) :=
  let h1 : Heap := h0 ++ [.own [(.int .i64 a0_0), (.int .i64 a0_1), (.int .i64 a0_2), a0_3, a0_4]]
  ldN 5 (.pointer (some ⟨h0.length, 0, none⟩)) h1 fun v2 =>
  cl (rc md 31 [v2] h1) fun v3 h4 =>
  cBn v3 fun b5 =>
  (bif wantV (.bool (!b5)) false then
  some ((.int .i64 a1), h4)
  else some (undef, h4)).bind fun p6 =>
  (bif wantV (.bool (!b5)) false then
  aBin Try.prog .lss 3 p6.1 (.int .i64 0) fun v7 =>
  some (v7, p6.2)
  else some (undef, p6.2)).bind fun p8 =>
  cBn (bif !b5 then (.bool true) else p8.1) fun b9 =>
  (bif wantV (.bool b9) false then
  some ((.int .i64 a1), p8.2)
  else some (undef, p8.2)).bind fun p10 =>
  (bif wantV (.bool b9) false then
  some ((.pointer (some ⟨h0.length, 0, none⟩)), p10.2)
  else some (undef, p10.2)).bind fun p11 =>
  (bif wantV (.bool b9) false then
  ldN 3 p11.1 p11.2 fun v12 =>
  some (v12, p11.2)
  else some (undef, p11.2)).bind fun p13 =>
  (bif wantV (.bool b9) false then
  cl (rc md 43 [p13.1] p13.2) fun v14 h15 =>
  cIn .i64 v14 fun n16 =>
  some ((.int .i64 n16), h15)
  else some (undef, p13.2)).bind fun p17 =>
  (bif wantV (.bool b9) false then
  aBin Try.prog .geq 3 p10.1 p17.1 fun v18 =>
  some (v18, p17.2)
  else some (undef, p17.2)).bind fun p19 =>
  cBn (bif b9 then (.bool true) else p19.1) fun b20 =>
  (bif wantV (.bool b20) false then
  some ((.int .i64 a2), p19.2)
  else some (undef, p19.2)).bind fun p21 =>
  (bif wantV (.bool b20) false then
  aBin Try.prog .lss 3 p21.1 (.int .i64 0) fun v22 =>
  some (v22, p21.2)
  else some (undef, p21.2)).bind fun p23 =>
  cBn (bif b20 then (.bool true) else p23.1) fun b24 =>
  (bif wantV (.bool b24) false then
  some ((.int .i64 a2), p23.2)
  else some (undef, p23.2)).bind fun p25 =>
  (bif wantV (.bool b24) false then
  some ((.pointer (some ⟨h0.length, 0, none⟩)), p25.2)
  else some (undef, p25.2)).bind fun p26 =>
  (bif wantV (.bool b24) false then
  fA 0 p26.1 fun v27 =>
  some (v27, p26.2)
  else some (undef, p26.2)).bind fun p28 =>
  (bif wantV (.bool b24) false then
  ld1 p28.1 p28.2 fun v29 =>
  cIn .i64 v29 fun n30 =>
  some ((.int .i64 n30), p28.2)
  else some (undef, p28.2)).bind fun p31 =>
  (bif wantV (.bool b24) false then
  aBin Try.prog .geq 3 p25.1 p31.1 fun v32 =>
  some (v32, p31.2)
  else some (undef, p31.2)).bind fun p33 =>
  cBn (bif b24 then (.bool true) else p33.1) fun b34 =>
  bif b34 then
    cl (rc md 32 [] p33.2) fun v35 h36 =>
    cBn v35 fun b37 =>
    some ((.bool b37), List.take h0.length h36)
  else
    ldN 5 (.pointer (some ⟨h0.length, 0, none⟩)) p33.2 fun v38 =>
    cl (rc md 33 [v38] p33.2) fun v39 h40 =>
    aBin Try.prog .eql 68 v39 (.pointer none) fun v41 =>
    cBn v41 fun b42 =>
    bif b42 then
      some ((.bool false), List.take h0.length h40)
    else
      ld1 (.pointer (some ⟨h0.length, 4, none⟩)) h40 fun v43 =>
      lenS v43 fun v44 =>
      cIn .i64 v44 fun n45 =>
      X0 (upd (upd (upd (upd (upd (upd (upd (upd (upd (upd (upd (upd (upd (upd (upd (upd (upd (upd (upd (upd (upd (upd (upd (upd (upd (upd (upd (upd (upd (upd (upd (upd (upd (upd (upd (upd (args0 [(.agg #[(.int .i64 a0_0), (.int .i64 a0_1), (.int .i64 a0_2), a0_3, a0_4]), (.int .i64 a1), (.int .i64 a2)]) 3 (.pointer (some ⟨h0.length, 0, none⟩))) 6 (.bool false)) 17 v2) 18 (.bool b5)) 19 (.bool (!b5))) 20 (.bool (!b5))) 21 p6.1) 22 p8.1) 23 (.bool b9)) 24 (.bool b9)) 25 p10.1) 26 p11.1) 27 p13.1) 28 p17.1) 29 p19.1) 30 (.bool b20)) 31 (.bool b20)) 32 p21.1) 33 p23.1) 34 (.bool b24)) 35 (.bool b24)) 36 p25.1) 37 p26.1) 38 p28.1) 39 p31.1) 40 p33.1) 41 (.bool b34)) 43 v38) 44 v39) 7 v39) 45 v39) 46 v41) 47 (.pointer (some ⟨h0.length, 4, none⟩))) 48 v43) 49 (.int .i64 n45)) 50 (.int .i64 0)) h40
theorem F12_h0 (rc : Rec) (md : Md) (a0_0 : Int) (a0_1 : Int) (a0_2 : Int) (a0_3 : Value) (a0_4 : Value) (a1 : Int) (a2 : Int) (h0 : Heap) : callStep0 Try.prog cfg rc md 12 [(.agg #[(.int .i64 a0_0), (.int .i64 a0_1), (.int .i64 a0_2), a0_3, a0_4]), (.int .i64 a1), (.int .i64 a2)] h0 = exec Try.prog cfg rc ⟨md.ro, h0.length⟩ 145 (bodyOf Try.prog 12) (retK Try.prog cfg 12 (rsOf Try.prog 12) h0) (args0 [(.agg #[(.int .i64 a0_0), (.int .i64 a0_1), (.int .i64 a0_2), a0_3, a0_4]), (.int .i64 a1), (.int .i64 a2)]) h0 := callStep0_run (by kernel_rfl) (by kernel_rfl) (by kernel_rfl)
theorem F12_h1 (rc : Rec) (md : Md) (X : Nat → T → Heap → Option (Value × Heap)) (a0_0 : Int) (a0_1 : Int) (a0_2 : Int) (a0_3 : Value) (a0_4 : Value) (a1 : Int) (a2 : Int) (h0 : Heap) : execG Try.prog cfg X rc md 145 (replS (bodyOf Try.prog 12) [([1, 1, 1, 1, 0, 1, 0], 0), ([1, 1, 1, 1, 1, 1, 1, 0, 1, 0], 1), ([1, 1, 1, 1, 1, 1, 1, 1, 1, 1, 0, 1, 0], 2), ([1, 1, 1, 1, 1, 1, 1, 1], 3), ([1, 1, 1, 1, 1], 4)]) (retK Try.prog cfg 12 (rsOf Try.prog 12) h0) (args0 [(.agg #[(.int .i64 a0_0), (.int .i64 a0_1), (.int .i64 a0_2), a0_3, a0_4]), (.int .i64 a1), (.int .i64 a2)]) h0 = F12H rc md (X 0) a0_0 a0_1 a0_2 a0_3 a0_4 a1 a2 h0 := by kernel_rfl
theorem F12_h2 (rc : Rec) (md : Md) (a0_0 : Int) (a0_1 : Int) (a0_2 : Int) (a0_3 : Value) (a0_4 : Value) (a1 : Int) (a2 : Int) (h0 : Heap) : F12H rc md (fun t h => J12_0 rc md h0 (t 1) (t 2) (t 3) (t 6) (t 7) (t 48) (t 49) (t 50) h) a0_0 a0_1 a0_2 a0_3 a0_4 a1 a2 h0 = F12 rc md a0_0 a0_1 a0_2 a0_3 a0_4 a1 a2 h0 := by unfold F12H F12; kernel_rfl
theorem F12_eq0 (rc : Rec) (md : Md) (a0_0 : Int) (a0_1 : Int) (a0_2 : Int) (a0_3 : Value) (a0_4 : Value) (a1 : Int) (a2 : Int) (h0 : Heap) : callStep0 Try.prog cfg rc md 12 [(.agg #[(.int .i64 a0_0), (.int .i64 a0_1), (.int .i64 a0_2), a0_3, a0_4]), (.int .i64 a1), (.int .i64 a2)] h0 = F12 rc ⟨md.ro, h0.length⟩ a0_0 a0_1 a0_2 a0_3 a0_4 a1 a2 h0 := by
  rw [F12_h0, exec_holes [([1, 1, 1, 1, 0, 1, 0], 0), ([1, 1, 1, 1, 1, 1, 1, 0, 1, 0], 1), ([1, 1, 1, 1, 1, 1, 1, 1, 1, 1, 0, 1, 0], 2), ([1, 1, 1, 1, 1, 1, 1, 1], 3), ([1, 1, 1, 1, 1], 4)] (by kernel_rfl), F12_h1, show (goX Try.prog cfg rc ⟨md.ro, h0.length⟩ 145 (bodyOf Try.prog 12) [([1, 1, 1, 1, 0, 1, 0], 0), ([1, 1, 1, 1, 1, 1, 1, 0, 1, 0], 1), ([1, 1, 1, 1, 1, 1, 1, 1, 1, 1, 0, 1, 0], 2), ([1, 1, 1, 1, 1, 1, 1, 1], 3), ([1, 1, 1, 1, 1], 4)] (retK Try.prog cfg 12 (rsOf Try.prog 12) h0)) 0 = _ from J12_0_cut rc ⟨md.ro, h0.length⟩ h0]
  exact F12_h2 rc _ a0_0 a0_1 a0_2 a0_3 a0_4 a1 a2 h0
theorem F12_eq (rc : Rec) (md : Md) (a0_0 : Int) (a0_1 : Int) (a0_2 : Int) (a0_3 : Value) (a0_4 : Value) (a1 : Int) (a2 : Int) (h0 : Heap) : callStep Try.prog cfg rc md 12 [(.agg #[(.int .i64 a0_0), (.int .i64 a0_1), (.int .i64 a0_2), a0_3, a0_4]), (.int .i64 a1), (.int .i64 a2)] h0 = F12 rc ⟨md.ro, h0.length⟩ a0_0 a0_1 a0_2 a0_3 a0_4 a1 a2 h0 := (callStep_ne (by kernel_rfl)).trans (F12_eq0 rc md a0_0 a0_1 a0_2 a0_3 a0_4 a1 a2 h0)

end Go.Det.E
