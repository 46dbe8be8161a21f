/- Printed functions. -/
import Derived.Test.YtodeenahpoobkaaE7
import Derived.Test.YtodeenahpoobkaaDetT
import Derived.Test.YtodeenahpoobkaaDetX
import Derived.Test.YtodeenahpoobkaaProg
set_option autoImplicit false
set_option linter.unusedVariables false
set_option linter.unusedSimpArgs false
namespace Go.Det.E
open Go.Proofs Go.Det

/-- tombolo/tombololaw10.TourPlays -/
noncomputable def Jk8_2 (rc : Rec) (md : Md) (h0 : Heap) (e : Exit) (s2 : Value) (s3 : Value) (s38 : Value) (s39 : Value) (s40 : Value) (h : Heap) : Option (Value × Heap) :=
  match e with
  | .normal =>
    cl (rc md 32 [] h) fun v1 h2 =>
    cBn v1 fun b3 =>
    some ((.bool b3), List.take h0.length h2)
  | .exit j =>
    bif Nat.beq j 2 then
      cl (rc md 32 [] h) fun v4 h5 =>
      cBn v4 fun b6 =>
      some ((.bool b6), List.take h0.length h5)
    else
      none
  | .ret =>
    fin1 h0 s2 h
  | .goto l => none
  | .panic ps => none
  | .outgrown => none
theorem Jk8_2_at (rc : Rec) (md : Md) (h0 : Heap) (e : Exit) (t : T) (h : Heap) : kAt Try.prog cfg rc md 103 (bodyOf Try.prog 8) [1, 1, 1, 1, 1, 0, 1, 0] (retK Try.prog cfg 8 (rsOf Try.prog 8) h0) e t h = Jk8_2 rc md h0 e (t 2) (t 3) (t 38) (t 39) (t 40) h := by cases e <;> kernel_rfl
noncomputable def Jk8_2b2 (rc : Rec) (md : Md) (e : Exit) (s2 : Value) (s3 : Value) (s6 : Value) (s38 : Value) (s39 : Value) (s40 : Value) (s82 : Value) (s83 : Value) (s84 : Value) (h : Heap) : Option (((Value × Value × Value × Value × Value) × Heap) ⊕ (Exit × (Value × Value × Value × Value × Value) × Heap)) :=
  match e with
  | .normal =>
    aBin Try.prog .add 3 s40 (.int .i64 1) fun v1 =>
    some (.inl ((s2, s3, s38, s39, v1), h))
  | .exit j =>
    bif Nat.beq j 8 then
      aBin Try.prog .add 3 s40 (.int .i64 1) fun v2 =>
      some (.inl ((s2, s3, s38, s39, v2), h))
    else
      bif Nat.beq j 3 then
        aBin Try.prog .add 3 s40 (.int .i64 1) fun v3 =>
        some (.inl ((s2, s3, s38, s39, v3), h))
      else
        some (.inr ((.exit j), (s2, s3, s38, s39, s40), h))
  | .ret =>
    some (.inr (.ret, (s2, s3, s38, s39, s40), h))
  | .goto l => some (.inr ((.goto l), (s2, s3, s38, s39, s40), h))
  | .panic ps => some (.inr ((.panic ps), (s2, s3, s38, s39, s40), h))
  | .outgrown => some (.inr (.outgrown, (s2, s3, s38, s39, s40), h))
theorem Jk8_2b2_at (rc : Rec) (md : Md) (e : Exit) (t : T) (h : Heap) : kAt Try.prog cfg rc md 103 (sub (bodyOf Try.prog 8) [1, 1, 1, 1, 1, 0, 1, 0, 0]) [1, 1, 0, 0, 1, 1, 1, 0] (rndK (fun t => (t 2, t 3, t 38, t 39, t 40))) e t h = Jk8_2b2 rc md e (t 2) (t 3) (t 6) (t 38) (t 39) (t 40) (t 82) (t 83) (t 84) h := by cases e <;> kernel_rfl
/-- a round -/
noncomputable def Jr8_2b2 (rc : Rec) (md : Md) (s2 : Value) (s3 : Value) (s6 : Value) (s38 : Value) (s39 : Value) (s40 : Value) (s82 : Value) (s83 : Value) (s84 : Value) (h : Heap) : Option (((Value × Value × Value × Value × Value × Value × Value × Value × Value) × Heap) ⊕ (Exit × (Value × Value × Value × Value × Value × Value × Value × Value × Value) × Heap)) :=
  aBin Try.prog .lss 3 s84 s83 fun v1 =>
  cBn v1 fun b2 =>
  bif b2 then
    ixSV 2 s82 s84 fun v3 =>
    ldN 2 v3 h fun v4 =>
    let h5 : Heap := h ++ [.own [(.int .i64 0), (.int .i64 0)]]
    st md 2 (.pointer (some ⟨h.length, 0, none⟩)) v4 h5 fun h6 =>
    bif okNil Try.prog s3 then
    fA 3 s3 fun v7 =>
    ldN 6 v7 h6 fun v8 =>
    cl (rc md 36 [v8, s6, s84] h6) fun v9 h10 =>
    cBn v9 fun b11 =>
    ixA 2 1 (.pointer (some ⟨h.length, 0, none⟩)) 0 fun v12 =>
    ld1 v12 h10 fun v13 =>
    cIn .i64 v13 fun n14 =>
    cLE true (fun hq => ld1 v12 hq some) (.int .i64 n14) h6 h10 <|
    aBin Try.prog .neq 4 (.bool b11) (.bool (decide (n14 ≥ 0))) fun v15 =>
    cBn v15 fun b16 =>
    bif b16 then
      some (.inr (.ret, ((.bool false), s3, s6, s38, s39, s40, s82, s83, s84), h10))
    else
      aBin Try.prog .add 3 s84 (.int .i64 1) fun v17 =>
      some (.inl ((s2, s3, s6, s38, s39, s40, s82, s83, v17), h10))
    else none
  else
    some (.inr ((.exit 8), (s2, s3, s6, s38, s39, s40, s82, s83, s84), h))
theorem Jr8_2b2_at (rc : Rec) (md : Md) (t : T) (h : Heap) : exec Try.prog cfg rc md 103 (sub (bodyOf Try.prog 8) [1, 1, 1, 1, 1, 0, 1, 0, 0, 1, 1, 0, 0, 1, 1, 1, 0, 0]) (rndK (fun t => (t 2, t 3, t 6, t 38, t 39, t 40, t 82, t 83, t 84))) t h = Jr8_2b2 rc md (t 2) (t 3) (t 6) (t 38) (t 39) (t 40) (t 82) (t 83) (t 84) h := by kernel_rfl
noncomputable def J8_2b2 (rc : Rec) (md : Md) (s2 : Value) (s3 : Value) (s6 : Value) (s38 : Value) (s39 : Value) (s40 : Value) (s82 : Value) (s83 : Value) (s84 : Value) (h : Heap) : Option (((Value × Value × Value × Value × Value) × Heap) ⊕ (Exit × (Value × Value × Value × Value × Value) × Heap)) :=
  runL (fun x : (Value × Value × Value × Value × Value × Value × Value × Value × Value) × Heap => Jr8_2b2 rc md x.1.1 x.1.2.1 x.1.2.2.1 x.1.2.2.2.1 x.1.2.2.2.2.1 x.1.2.2.2.2.2.1 x.1.2.2.2.2.2.2.1 x.1.2.2.2.2.2.2.2.1 x.1.2.2.2.2.2.2.2.2 x.2) (fun e (s : Value × Value × Value × Value × Value × Value × Value × Value × Value) h => Jk8_2b2 rc md e s.1 s.2.1 s.2.2.1 s.2.2.2.1 s.2.2.2.2.1 s.2.2.2.2.2.1 s.2.2.2.2.2.2.1 s.2.2.2.2.2.2.2.1 s.2.2.2.2.2.2.2.2 h) (s2, s3, s6, s38, s39, s40, s82, s83, s84) h
theorem J8_2b2_step (rc : Rec) (md : Md) (s2 : Value) (s3 : Value) (s6 : Value) (s38 : Value) (s39 : Value) (s40 : Value) (s82 : Value) (s83 : Value) (s84 : Value) (h : Heap) : J8_2b2 rc md s2 s3 s6 s38 s39 s40 s82 s83 s84 h = (Jr8_2b2 rc md s2 s3 s6 s38 s39 s40 s82 s83 s84 h).bind fun x => match x with
    | .inl (s, h) => J8_2b2 rc md s.1 s.2.1 s.2.2.1 s.2.2.2.1 s.2.2.2.2.1 s.2.2.2.2.2.1 s.2.2.2.2.2.2.1 s.2.2.2.2.2.2.2.1 s.2.2.2.2.2.2.2.2 h
    | .inr (e, s, h) => Jk8_2b2 rc md e s.1 s.2.1 s.2.2.1 s.2.2.2.1 s.2.2.2.2.1 s.2.2.2.2.2.1 s.2.2.2.2.2.2.1 s.2.2.2.2.2.2.2.1 s.2.2.2.2.2.2.2.2 h := by
  unfold J8_2b2
  rw [runL_eq]
  refine congrArg (Option.bind _) (funext fun x => ?_)
  rcases x with ⟨s, h⟩ | ⟨e, s, h⟩ <;> rfl
theorem J8_2b2_cut (rc : Rec) (md : Md) : cut Try.prog cfg rc md 103 (sub (bodyOf Try.prog 8) [1, 1, 1, 1, 1, 0, 1, 0, 0]) [1, 1, 0, 0, 1, 1, 1, 0] (rndK (fun t => (t 2, t 3, t 38, t 39, t 40))) = fun t h => J8_2b2 rc md (t 2) (t 3) (t 6) (t 38) (t 39) (t 40) (t 82) (t 83) (t 84) h := by
  funext t h
  have e : sub (sub (bodyOf Try.prog 8) [1, 1, 1, 1, 1, 0, 1, 0, 0]) [1, 1, 0, 0, 1, 1, 1, 0] = .loop (sub (bodyOf Try.prog 8) [1, 1, 1, 1, 1, 0, 1, 0, 0, 1, 1, 0, 0, 1, 1, 1, 0, 0]) := by kernel_rfl
  unfold cut
  rw [e]
  exact loop_eq (by kernel_rfl) (fun t => (t 2, t 3, t 6, t 38, t 39, t 40, t 82, t 83, t 84)) (fun x : (Value × Value × Value × Value × Value × Value × Value × Value × Value) × Heap => Jr8_2b2 rc md x.1.1 x.1.2.1 x.1.2.2.1 x.1.2.2.2.1 x.1.2.2.2.2.1 x.1.2.2.2.2.2.1 x.1.2.2.2.2.2.2.1 x.1.2.2.2.2.2.2.2.1 x.1.2.2.2.2.2.2.2.2 x.2) (fun t h => Jr8_2b2_at rc md t h) (fun e (s : Value × Value × Value × Value × Value × Value × Value × Value × Value) h => Jk8_2b2 rc md e s.1 s.2.1 s.2.2.1 s.2.2.2.1 s.2.2.2.2.1 s.2.2.2.2.2.1 s.2.2.2.2.2.2.1 s.2.2.2.2.2.2.2.1 s.2.2.2.2.2.2.2.2 h) (fun e t h => Jk8_2b2_at rc md e t h) t h
noncomputable def J8_2b1 (rc : Rec) (md : Md) (s2 : Value) (s3 : Value) (s6 : Value) (s38 : Value) (s39 : Value) (s40 : Value) (h : Heap) : Option (((Value × Value × Value × Value × Value) × Heap) ⊕ (Exit × (Value × Value × Value × Value × Value) × Heap)) :=
  bif okNil Try.prog s3 then
  fA 10 s3 fun v1 =>
  ld1 v1 h fun v2 =>
  ixSV 1 v2 s6 fun v3 =>
  ld1 v3 h fun v4 =>
  lenS v4 fun v5 =>
  cIn .i64 v5 fun n6 =>
  J8_2b2 rc md s2 s3 s6 s38 s39 s40 v4 (.int .i64 n6) (.int .i64 0) h
  else none
noncomputable def J8_2b1H (rc : Rec) (md : Md) (X1 : T → Heap → Option (((Value × Value × Value × Value × Value) × Heap) ⊕ (Exit × (Value × Value × Value × Value × Value) × Heap))) (t : T) (h : Heap) : Option (((Value × Value × Value × Value × Value) × Heap) ⊕ (Exit × (Value × Value × Value × Value × Value) × Heap)) :=
  bif okNil Try.prog (t 3) then
  fA 10 (t 3) fun v1 =>
  ld1 v1 h fun v2 =>
  ixSV 1 v2 (t 6) fun v3 =>
  ld1 v3 h fun v4 =>
  lenS v4 fun v5 =>
  cIn .i64 v5 fun n6 =>
  X1 (upd (upd (upd (upd (upd (upd (upd (upd (upd t 76 (t 3)) 77 (t 3)) 78 v1) 79 v2) 80 (t 6)) 81 v3) 82 v4) 83 (.int .i64 n6)) 84 (.int .i64 0)) h
  else none
theorem J8_2b1_h1 (rc : Rec) (md : Md) (X : Nat → T → Heap → Option (((Value × Value × Value × Value × Value) × Heap) ⊕ (Exit × (Value × Value × Value × Value × Value) × Heap))) (t : T) (h : Heap) : execG Try.prog cfg X rc md 103 (sub (replS (sub (bodyOf Try.prog 8) [1, 1, 1, 1, 1, 0, 1, 0, 0]) [([1, 1, 0, 0, 1, 0, 1, 0], 0), ([1, 1, 0, 0, 1, 1, 1, 0], 1)]) [1, 1, 0, 0, 1, 1]) (kAtG Try.prog cfg X rc md 103 (replS (sub (bodyOf Try.prog 8) [1, 1, 1, 1, 1, 0, 1, 0, 0]) [([1, 1, 0, 0, 1, 0, 1, 0], 0), ([1, 1, 0, 0, 1, 1, 1, 0], 1)]) [1, 1, 0, 0, 1, 1] (rndK (fun t => (t 2, t 3, t 38, t 39, t 40)))) t h = J8_2b1H rc md (X 1) t h := by kernel_rfl
theorem J8_2b1_h2 (rc : Rec) (md : Md) (t : T) (h : Heap) : J8_2b1H rc md (fun t h => J8_2b2 rc md (t 2) (t 3) (t 6) (t 38) (t 39) (t 40) (t 82) (t 83) (t 84) h) t h = J8_2b1 rc md (t 2) (t 3) (t 6) (t 38) (t 39) (t 40) h := by (unfold J8_2b1H J8_2b1; kernel_rfl)
theorem J8_2b1_at (rc : Rec) (md : Md) (t : T) (h : Heap) : cut Try.prog cfg rc md 103 (sub (bodyOf Try.prog 8) [1, 1, 1, 1, 1, 0, 1, 0, 0]) [1, 1, 0, 0, 1, 1] (rndK (fun t => (t 2, t 3, t 38, t 39, t 40))) t h = J8_2b1 rc md (t 2) (t 3) (t 6) (t 38) (t 39) (t 40) h := by
  rw [cut_holes [([1, 1, 0, 0, 1, 0, 1, 0], 0), ([1, 1, 0, 0, 1, 1, 1, 0], 1)] [1, 1, 0, 0, 1, 1] (by kernel_rfl), J8_2b1_h1, show (goX Try.prog cfg rc md 103 (sub (bodyOf Try.prog 8) [1, 1, 1, 1, 1, 0, 1, 0, 0]) [([1, 1, 0, 0, 1, 0, 1, 0], 0), ([1, 1, 0, 0, 1, 1, 1, 0], 1)] (rndK (fun t => (t 2, t 3, t 38, t 39, t 40)))) 1 = _ from J8_2b2_cut rc md]
  exact J8_2b1_h2 rc md t h
theorem J8_2b1_cut (rc : Rec) (md : Md) : cut Try.prog cfg rc md 103 (sub (bodyOf Try.prog 8) [1, 1, 1, 1, 1, 0, 1, 0, 0]) [1, 1, 0, 0, 1, 1] (rndK (fun t => (t 2, t 3, t 38, t 39, t 40))) = fun t h => J8_2b1 rc md (t 2) (t 3) (t 6) (t 38) (t 39) (t 40) h := funext fun t => funext fun h => J8_2b1_at rc md t h
noncomputable def Jk8_2b0 (rc : Rec) (md : Md) (e : Exit) (s2 : Value) (s3 : Value) (s6 : Value) (s38 : Value) (s39 : Value) (s40 : Value) (s45 : Value) (s46 : Value) (s47 : Value) (h : Heap) : Option (((Value × Value × Value × Value × Value) × Heap) ⊕ (Exit × (Value × Value × Value × Value × Value) × Heap)) :=
  match e with
  | .normal =>
    J8_2b1 rc md s2 s3 s6 s38 s39 s40 h
  | .exit j =>
    bif Nat.beq j 4 then
      J8_2b1 rc md s2 s3 s6 s38 s39 s40 h
    else
      bif Nat.beq j 3 then
        aBin Try.prog .add 3 s40 (.int .i64 1) fun v1 =>
        some (.inl ((s2, s3, s38, s39, v1), h))
      else
        some (.inr ((.exit j), (s2, s3, s38, s39, s40), h))
  | .ret =>
    some (.inr (.ret, (s2, s3, s38, s39, s40), h))
  | .goto l => some (.inr ((.goto l), (s2, s3, s38, s39, s40), h))
  | .panic ps => some (.inr ((.panic ps), (s2, s3, s38, s39, s40), h))
  | .outgrown => some (.inr (.outgrown, (s2, s3, s38, s39, s40), h))
noncomputable def Jk8_2b0H (rc : Rec) (md : Md) (X2 : T → Heap → Option (((Value × Value × Value × Value × Value) × Heap) ⊕ (Exit × (Value × Value × Value × Value × Value) × Heap))) (e : Exit) (t : T) (h : Heap) : Option (((Value × Value × Value × Value × Value) × Heap) ⊕ (Exit × (Value × Value × Value × Value × Value) × Heap)) :=
  match e with
  | .normal =>
    X2 t h
  | .exit j =>
    bif Nat.beq j 4 then
      X2 t h
    else
      bif Nat.beq j 3 then
        aBin Try.prog .add 3 (t 40) (.int .i64 1) fun v1 =>
        some (.inl (((t 2), (t 3), (t 38), (t 39), v1), h))
      else
        some (.inr ((.exit j), ((t 2), (t 3), (t 38), (t 39), (t 40)), h))
  | .ret =>
    some (.inr (.ret, ((t 2), (t 3), (t 38), (t 39), (t 40)), h))
  | .goto l => some (.inr ((.goto l), ((t 2), (t 3), (t 38), (t 39), (t 40)), h))
  | .panic ps => some (.inr ((.panic ps), ((t 2), (t 3), (t 38), (t 39), (t 40)), h))
  | .outgrown => some (.inr (.outgrown, ((t 2), (t 3), (t 38), (t 39), (t 40)), h))
theorem Jk8_2b0_h1 (rc : Rec) (md : Md) (X : Nat → T → Heap → Option (((Value × Value × Value × Value × Value) × Heap) ⊕ (Exit × (Value × Value × Value × Value × Value) × Heap))) (e : Exit) (t : T) (h : Heap) : kAtG Try.prog cfg X rc md 103 (replS (sub (bodyOf Try.prog 8) [1, 1, 1, 1, 1, 0, 1, 0, 0]) [([1, 1, 0, 0, 1, 1, 1, 0], 1), ([1, 1, 0, 0, 1, 1], 2)]) [1, 1, 0, 0, 1, 0, 1, 0] (rndK (fun t => (t 2, t 3, t 38, t 39, t 40))) e t h = Jk8_2b0H rc md (X 2) e t h := by cases e <;> kernel_rfl
theorem Jk8_2b0_h2 (rc : Rec) (md : Md) (e : Exit) (t : T) (h : Heap) : Jk8_2b0H rc md (fun t h => J8_2b1 rc md (t 2) (t 3) (t 6) (t 38) (t 39) (t 40) h) e t h = Jk8_2b0 rc md e (t 2) (t 3) (t 6) (t 38) (t 39) (t 40) (t 45) (t 46) (t 47) h := by cases e <;> (unfold Jk8_2b0H Jk8_2b0; kernel_rfl)
theorem Jk8_2b0_at (rc : Rec) (md : Md) (e : Exit) (t : T) (h : Heap) : kAt Try.prog cfg rc md 103 (sub (bodyOf Try.prog 8) [1, 1, 1, 1, 1, 0, 1, 0, 0]) [1, 1, 0, 0, 1, 0, 1, 0] (rndK (fun t => (t 2, t 3, t 38, t 39, t 40))) e t h = Jk8_2b0 rc md e (t 2) (t 3) (t 6) (t 38) (t 39) (t 40) (t 45) (t 46) (t 47) h := by
  rw [kAt_holes [([1, 1, 0, 0, 1, 1, 1, 0], 1), ([1, 1, 0, 0, 1, 1], 2)] [1, 1, 0, 0, 1, 0, 1, 0] (by kernel_rfl), Jk8_2b0_h1, show (goX Try.prog cfg rc md 103 (sub (bodyOf Try.prog 8) [1, 1, 1, 1, 1, 0, 1, 0, 0]) [([1, 1, 0, 0, 1, 1, 1, 0], 1), ([1, 1, 0, 0, 1, 1], 2)] (rndK (fun t => (t 2, t 3, t 38, t 39, t 40)))) 2 = _ from J8_2b1_cut rc md]
  exact Jk8_2b0_h2 rc md e t h
noncomputable def Jk8_2b0b0 (rc : Rec) (md : Md) (e : Exit) (s2 : Value) (s3 : Value) (s6 : Value) (s9 : Value) (s38 : Value) (s39 : Value) (s40 : Value) (s45 : Value) (s46 : Value) (s47 : Value) (s51 : Value) (s52 : Value) (s53 : Value) (h : Heap) : Option (((Value × Value × Value × Value × Value × Value × Value × Value × Value) × Heap) ⊕ (Exit × (Value × Value × Value × Value × Value × Value × Value × Value × Value) × Heap)) :=
  match e with
  | .normal =>
    aBin Try.prog .add 3 s47 (.int .i64 1) fun v1 =>
    some (.inl ((s2, s3, s6, s38, s39, s40, s45, s46, v1), h))
  | .exit j =>
    bif Nat.beq j 6 then
      aBin Try.prog .add 3 s47 (.int .i64 1) fun v2 =>
      some (.inl ((s2, s3, s6, s38, s39, s40, s45, s46, v2), h))
    else
      bif Nat.beq j 5 then
        aBin Try.prog .add 3 s47 (.int .i64 1) fun v3 =>
        some (.inl ((s2, s3, s6, s38, s39, s40, s45, s46, v3), h))
      else
        some (.inr ((.exit j), (s2, s3, s6, s38, s39, s40, s45, s46, s47), h))
  | .ret =>
    some (.inr (.ret, (s2, s3, s6, s38, s39, s40, s45, s46, s47), h))
  | .goto l => some (.inr ((.goto l), (s2, s3, s6, s38, s39, s40, s45, s46, s47), h))
  | .panic ps => some (.inr ((.panic ps), (s2, s3, s6, s38, s39, s40, s45, s46, s47), h))
  | .outgrown => some (.inr (.outgrown, (s2, s3, s6, s38, s39, s40, s45, s46, s47), h))
theorem Jk8_2b0b0_at (rc : Rec) (md : Md) (e : Exit) (t : T) (h : Heap) : kAt Try.prog cfg rc md 103 (sub (bodyOf Try.prog 8) [1, 1, 1, 1, 1, 0, 1, 0, 0, 1, 1, 0, 0, 1, 0, 1, 0, 0]) [1, 1, 0, 0, 1, 1, 0] (rndK (fun t => (t 2, t 3, t 6, t 38, t 39, t 40, t 45, t 46, t 47))) e t h = Jk8_2b0b0 rc md e (t 2) (t 3) (t 6) (t 9) (t 38) (t 39) (t 40) (t 45) (t 46) (t 47) (t 51) (t 52) (t 53) h := by cases e <;> kernel_rfl
/-- a round -/
noncomputable def Jr8_2b0b0 (rc : Rec) (md : Md) (s2 : Value) (s3 : Value) (s6 : Value) (s9 : Value) (s38 : Value) (s39 : Value) (s40 : Value) (s45 : Value) (s46 : Value) (s47 : Value) (s51 : Value) (s52 : Value) (s53 : Value) (h : Heap) : Option (((Value × Value × Value × Value × Value × Value × Value × Value × Value × Value × Value × Value × Value) × Heap) ⊕ (Exit × (Value × Value × Value × Value × Value × Value × Value × Value × Value × Value × Value × Value × Value) × Heap)) :=
  aBin Try.prog .lss 3 s53 s52 fun v1 =>
  cBn v1 fun b2 =>
  bif b2 then
    ixSV 1 s51 s53 fun v3 =>
    ld1 v3 h fun v4 =>
    cIn .i64 v4 fun n5 =>
    bif okNil Try.prog s3 then
    fA 3 s3 fun v6 =>
    fA 0 v6 fun v7 =>
    ldN 6 v7 h fun v8 =>
    cl (rc md 21 [v8, (.int .i64 n5)] h) fun v9 h10 =>
    cIn .i64 v9 fun n11 =>
    bif okNil Try.prog s3 then
    fA 3 s3 fun v12 =>
    fA 0 v12 fun v13 =>
    ldN 6 v13 h10 fun v14 =>
    cl (rc md 20 [v14, (.int .i64 n11)] h10) fun v15 h16 =>
    cl (rc md 35 [v15, s9] h16) fun v17 h18 =>
    cBn v17 fun b19 =>
    bif !b19 then
      some (.inr (.ret, ((.bool false), s3, s6, s9, s38, s39, s40, s45, s46, s47, s51, s52, s53), h18))
    else
      aBin Try.prog .add 3 s53 (.int .i64 1) fun v20 =>
      some (.inl ((s2, s3, s6, s9, s38, s39, s40, s45, s46, s47, s51, s52, v20), h18))
    else none
    else none
  else
    some (.inr ((.exit 6), (s2, s3, s6, s9, s38, s39, s40, s45, s46, s47, s51, s52, s53), h))
theorem Jr8_2b0b0_at (rc : Rec) (md : Md) (t : T) (h : Heap) : exec Try.prog cfg rc md 103 (sub (bodyOf Try.prog 8) [1, 1, 1, 1, 1, 0, 1, 0, 0, 1, 1, 0, 0, 1, 0, 1, 0, 0, 1, 1, 0, 0, 1, 1, 0, 0]) (rndK (fun t => (t 2, t 3, t 6, t 9, t 38, t 39, t 40, t 45, t 46, t 47, t 51, t 52, t 53))) t h = Jr8_2b0b0 rc md (t 2) (t 3) (t 6) (t 9) (t 38) (t 39) (t 40) (t 45) (t 46) (t 47) (t 51) (t 52) (t 53) h := by kernel_rfl
noncomputable def J8_2b0b0 (rc : Rec) (md : Md) (s2 : Value) (s3 : Value) (s6 : Value) (s9 : Value) (s38 : Value) (s39 : Value) (s40 : Value) (s45 : Value) (s46 : Value) (s47 : Value) (s51 : Value) (s52 : Value) (s53 : Value) (h : Heap) : Option (((Value × Value × Value × Value × Value × Value × Value × Value × Value) × Heap) ⊕ (Exit × (Value × Value × Value × Value × Value × Value × Value × Value × Value) × Heap)) :=
  runL (fun x : (Value × Value × Value × Value × Value × Value × Value × Value × Value × Value × Value × Value × Value) × Heap => Jr8_2b0b0 rc md x.1.1 x.1.2.1 x.1.2.2.1 x.1.2.2.2.1 x.1.2.2.2.2.1 x.1.2.2.2.2.2.1 x.1.2.2.2.2.2.2.1 x.1.2.2.2.2.2.2.2.1 x.1.2.2.2.2.2.2.2.2.1 x.1.2.2.2.2.2.2.2.2.2.1 x.1.2.2.2.2.2.2.2.2.2.2.1 x.1.2.2.2.2.2.2.2.2.2.2.2.1 x.1.2.2.2.2.2.2.2.2.2.2.2.2 x.2) (fun e (s : Value × Value × Value × Value × Value × Value × Value × Value × Value × Value × Value × Value × Value) h => Jk8_2b0b0 rc md e s.1 s.2.1 s.2.2.1 s.2.2.2.1 s.2.2.2.2.1 s.2.2.2.2.2.1 s.2.2.2.2.2.2.1 s.2.2.2.2.2.2.2.1 s.2.2.2.2.2.2.2.2.1 s.2.2.2.2.2.2.2.2.2.1 s.2.2.2.2.2.2.2.2.2.2.1 s.2.2.2.2.2.2.2.2.2.2.2.1 s.2.2.2.2.2.2.2.2.2.2.2.2 h) (s2, s3, s6, s9, s38, s39, s40, s45, s46, s47, s51, s52, s53) h
theorem J8_2b0b0_step (rc : Rec) (md : Md) (s2 : Value) (s3 : Value) (s6 : Value) (s9 : Value) (s38 : Value) (s39 : Value) (s40 : Value) (s45 : Value) (s46 : Value) (s47 : Value) (s51 : Value) (s52 : Value) (s53 : Value) (h : Heap) : J8_2b0b0 rc md s2 s3 s6 s9 s38 s39 s40 s45 s46 s47 s51 s52 s53 h = (Jr8_2b0b0 rc md s2 s3 s6 s9 s38 s39 s40 s45 s46 s47 s51 s52 s53 h).bind fun x => match x with
    | .inl (s, h) => J8_2b0b0 rc md s.1 s.2.1 s.2.2.1 s.2.2.2.1 s.2.2.2.2.1 s.2.2.2.2.2.1 s.2.2.2.2.2.2.1 s.2.2.2.2.2.2.2.1 s.2.2.2.2.2.2.2.2.1 s.2.2.2.2.2.2.2.2.2.1 s.2.2.2.2.2.2.2.2.2.2.1 s.2.2.2.2.2.2.2.2.2.2.2.1 s.2.2.2.2.2.2.2.2.2.2.2.2 h
    | .inr (e, s, h) => Jk8_2b0b0 rc md e s.1 s.2.1 s.2.2.1 s.2.2.2.1 s.2.2.2.2.1 s.2.2.2.2.2.1 s.2.2.2.2.2.2.1 s.2.2.2.2.2.2.2.1 s.2.2.2.2.2.2.2.2.1 s.2.2.2.2.2.2.2.2.2.1 s.2.2.2.2.2.2.2.2.2.2.1 s.2.2.2.2.2.2.2.2.2.2.2.1 s.2.2.2.2.2.2.2.2.2.2.2.2 h := by
  unfold J8_2b0b0
  rw [runL_eq]
  refine congrArg (Option.bind _) (funext fun x => ?_)
  rcases x with ⟨s, h⟩ | ⟨e, s, h⟩ <;> rfl
theorem J8_2b0b0_cut (rc : Rec) (md : Md) : cut Try.prog cfg rc md 103 (sub (bodyOf Try.prog 8) [1, 1, 1, 1, 1, 0, 1, 0, 0, 1, 1, 0, 0, 1, 0, 1, 0, 0]) [1, 1, 0, 0, 1, 1, 0] (rndK (fun t => (t 2, t 3, t 6, t 38, t 39, t 40, t 45, t 46, t 47))) = fun t h => J8_2b0b0 rc md (t 2) (t 3) (t 6) (t 9) (t 38) (t 39) (t 40) (t 45) (t 46) (t 47) (t 51) (t 52) (t 53) h := by
  funext t h
  have e : sub (sub (bodyOf Try.prog 8) [1, 1, 1, 1, 1, 0, 1, 0, 0, 1, 1, 0, 0, 1, 0, 1, 0, 0]) [1, 1, 0, 0, 1, 1, 0] = .loop (sub (bodyOf Try.prog 8) [1, 1, 1, 1, 1, 0, 1, 0, 0, 1, 1, 0, 0, 1, 0, 1, 0, 0, 1, 1, 0, 0, 1, 1, 0, 0]) := by kernel_rfl
  unfold cut
  rw [e]
  exact loop_eq (by kernel_rfl) (fun t => (t 2, t 3, t 6, t 9, t 38, t 39, t 40, t 45, t 46, t 47, t 51, t 52, t 53)) (fun x : (Value × Value × Value × Value × Value × Value × Value × Value × Value × Value × Value × Value × Value) × Heap => Jr8_2b0b0 rc md x.1.1 x.1.2.1 x.1.2.2.1 x.1.2.2.2.1 x.1.2.2.2.2.1 x.1.2.2.2.2.2.1 x.1.2.2.2.2.2.2.1 x.1.2.2.2.2.2.2.2.1 x.1.2.2.2.2.2.2.2.2.1 x.1.2.2.2.2.2.2.2.2.2.1 x.1.2.2.2.2.2.2.2.2.2.2.1 x.1.2.2.2.2.2.2.2.2.2.2.2.1 x.1.2.2.2.2.2.2.2.2.2.2.2.2 x.2) (fun t h => Jr8_2b0b0_at rc md t h) (fun e (s : Value × Value × Value × Value × Value × Value × Value × Value × Value × Value × Value × Value × Value) h => Jk8_2b0b0 rc md e s.1 s.2.1 s.2.2.1 s.2.2.2.1 s.2.2.2.2.1 s.2.2.2.2.2.1 s.2.2.2.2.2.2.1 s.2.2.2.2.2.2.2.1 s.2.2.2.2.2.2.2.2.1 s.2.2.2.2.2.2.2.2.2.1 s.2.2.2.2.2.2.2.2.2.2.1 s.2.2.2.2.2.2.2.2.2.2.2.1 s.2.2.2.2.2.2.2.2.2.2.2.2 h) (fun e t h => Jk8_2b0b0_at rc md e t h) t h
/-- a round -/
noncomputable def Jr8_2b0 (rc : Rec) (md : Md) (s2 : Value) (s3 : Value) (s6 : Value) (s38 : Value) (s39 : Value) (s40 : Value) (s45 : Value) (s46 : Value) (s47 : Value) (h : Heap) : Option (((Value × Value × Value × Value × Value × Value × Value × Value × Value) × Heap) ⊕ (Exit × (Value × Value × Value × Value × Value × Value × Value × Value × Value) × Heap)) :=
  aBin Try.prog .lss 3 s47 s46 fun v1 =>
  cBn v1 fun b2 =>
  bif b2 then
    ixSV 1 s45 s47 fun v3 =>
    ld1 v3 h fun v4 =>
    lenS v4 fun v5 =>
    cIn .i64 v5 fun n6 =>
    J8_2b0b0 rc md s2 s3 s6 v4 s38 s39 s40 s45 s46 s47 v4 (.int .i64 n6) (.int .i64 0) h
  else
    some (.inr ((.exit 4), (s2, s3, s6, s38, s39, s40, s45, s46, s47), h))
noncomputable def Jr8_2b0H (rc : Rec) (md : Md) (X0 : T → Heap → Option (((Value × Value × Value × Value × Value × Value × Value × Value × Value) × Heap) ⊕ (Exit × (Value × Value × Value × Value × Value × Value × Value × Value × Value) × Heap))) (t : T) (h : Heap) : Option (((Value × Value × Value × Value × Value × Value × Value × Value × Value) × Heap) ⊕ (Exit × (Value × Value × Value × Value × Value × Value × Value × Value × Value) × Heap)) :=
  aBin Try.prog .lss 3 (t 47) (t 46) fun v1 =>
  cBn v1 fun b2 =>
  bif b2 then
    ixSV 1 (t 45) (t 47) fun v3 =>
    ld1 v3 h fun v4 =>
    lenS v4 fun v5 =>
    cIn .i64 v5 fun n6 =>
    X0 (upd (upd (upd (upd (upd (upd (upd t 48 v1) 49 v3) 50 v4) 9 v4) 51 v4) 52 (.int .i64 n6)) 53 (.int .i64 0)) h
  else
    some (.inr ((.exit 4), ((t 2), (t 3), (t 6), (t 38), (t 39), (t 40), (t 45), (t 46), (t 47)), h))
theorem Jr8_2b0_h1 (rc : Rec) (md : Md) (X : Nat → T → Heap → Option (((Value × Value × Value × Value × Value × Value × Value × Value × Value) × Heap) ⊕ (Exit × (Value × Value × Value × Value × Value × Value × Value × Value × Value) × Heap))) (t : T) (h : Heap) : execG Try.prog cfg X rc md 103 (replS (sub (bodyOf Try.prog 8) [1, 1, 1, 1, 1, 0, 1, 0, 0, 1, 1, 0, 0, 1, 0, 1, 0, 0]) [([1, 1, 0, 0, 1, 1, 0], 0)]) (rndK (fun t => (t 2, t 3, t 6, t 38, t 39, t 40, t 45, t 46, t 47))) t h = Jr8_2b0H rc md (X 0) t h := by kernel_rfl
theorem Jr8_2b0_h2 (rc : Rec) (md : Md) (t : T) (h : Heap) : Jr8_2b0H rc md (fun t h => J8_2b0b0 rc md (t 2) (t 3) (t 6) (t 9) (t 38) (t 39) (t 40) (t 45) (t 46) (t 47) (t 51) (t 52) (t 53) h) t h = Jr8_2b0 rc md (t 2) (t 3) (t 6) (t 38) (t 39) (t 40) (t 45) (t 46) (t 47) h := by unfold Jr8_2b0H Jr8_2b0; kernel_rfl
theorem Jr8_2b0_at (rc : Rec) (md : Md) (t : T) (h : Heap) : exec Try.prog cfg rc md 103 (sub (bodyOf Try.prog 8) [1, 1, 1, 1, 1, 0, 1, 0, 0, 1, 1, 0, 0, 1, 0, 1, 0, 0]) (rndK (fun t => (t 2, t 3, t 6, t 38, t 39, t 40, t 45, t 46, t 47))) t h = Jr8_2b0 rc md (t 2) (t 3) (t 6) (t 38) (t 39) (t 40) (t 45) (t 46) (t 47) h := by
  rw [exec_holes [([1, 1, 0, 0, 1, 1, 0], 0)] (by kernel_rfl), Jr8_2b0_h1, show (goX Try.prog cfg rc md 103 (sub (bodyOf Try.prog 8) [1, 1, 1, 1, 1, 0, 1, 0, 0, 1, 1, 0, 0, 1, 0, 1, 0, 0]) [([1, 1, 0, 0, 1, 1, 0], 0)] (rndK (fun t => (t 2, t 3, t 6, t 38, t 39, t 40, t 45, t 46, t 47)))) 0 = _ from J8_2b0b0_cut rc md]
  exact Jr8_2b0_h2 rc md t h
noncomputable def J8_2b0 (rc : Rec) (md : Md) (s2 : Value) (s3 : Value) (s6 : Value) (s38 : Value) (s39 : Value) (s40 : Value) (s45 : Value) (s46 : Value) (s47 : Value) (h : Heap) : Option (((Value × Value × Value × Value × Value) × Heap) ⊕ (Exit × (Value × Value × Value × Value × Value) × Heap)) :=
  runL (fun x : (Value × Value × Value × Value × Value × Value × Value × Value × Value) × Heap => Jr8_2b0 rc md x.1.1 x.1.2.1 x.1.2.2.1 x.1.2.2.2.1 x.1.2.2.2.2.1 x.1.2.2.2.2.2.1 x.1.2.2.2.2.2.2.1 x.1.2.2.2.2.2.2.2.1 x.1.2.2.2.2.2.2.2.2 x.2) (fun e (s : Value × Value × Value × Value × Value × Value × Value × Value × Value) h => Jk8_2b0 rc md e s.1 s.2.1 s.2.2.1 s.2.2.2.1 s.2.2.2.2.1 s.2.2.2.2.2.1 s.2.2.2.2.2.2.1 s.2.2.2.2.2.2.2.1 s.2.2.2.2.2.2.2.2 h) (s2, s3, s6, s38, s39, s40, s45, s46, s47) h
theorem J8_2b0_step (rc : Rec) (md : Md) (s2 : Value) (s3 : Value) (s6 : Value) (s38 : Value) (s39 : Value) (s40 : Value) (s45 : Value) (s46 : Value) (s47 : Value) (h : Heap) : J8_2b0 rc md s2 s3 s6 s38 s39 s40 s45 s46 s47 h = (Jr8_2b0 rc md s2 s3 s6 s38 s39 s40 s45 s46 s47 h).bind fun x => match x with
    | .inl (s, h) => J8_2b0 rc md s.1 s.2.1 s.2.2.1 s.2.2.2.1 s.2.2.2.2.1 s.2.2.2.2.2.1 s.2.2.2.2.2.2.1 s.2.2.2.2.2.2.2.1 s.2.2.2.2.2.2.2.2 h
    | .inr (e, s, h) => Jk8_2b0 rc md e s.1 s.2.1 s.2.2.1 s.2.2.2.1 s.2.2.2.2.1 s.2.2.2.2.2.1 s.2.2.2.2.2.2.1 s.2.2.2.2.2.2.2.1 s.2.2.2.2.2.2.2.2 h := by
  unfold J8_2b0
  rw [runL_eq]
  refine congrArg (Option.bind _) (funext fun x => ?_)
  rcases x with ⟨s, h⟩ | ⟨e, s, h⟩ <;> rfl
theorem J8_2b0_cut (rc : Rec) (md : Md) : cut Try.prog cfg rc md 103 (sub (bodyOf Try.prog 8) [1, 1, 1, 1, 1, 0, 1, 0, 0]) [1, 1, 0, 0, 1, 0, 1, 0] (rndK (fun t => (t 2, t 3, t 38, t 39, t 40))) = fun t h => J8_2b0 rc md (t 2) (t 3) (t 6) (t 38) (t 39) (t 40) (t 45) (t 46) (t 47) h := by
  funext t h
  have e : sub (sub (bodyOf Try.prog 8) [1, 1, 1, 1, 1, 0, 1, 0, 0]) [1, 1, 0, 0, 1, 0, 1, 0] = .loop (sub (bodyOf Try.prog 8) [1, 1, 1, 1, 1, 0, 1, 0, 0, 1, 1, 0, 0, 1, 0, 1, 0, 0]) := by kernel_rfl
  unfold cut
  rw [e]
  exact loop_eq (by kernel_rfl) (fun t => (t 2, t 3, t 6, t 38, t 39, t 40, t 45, t 46, t 47)) (fun x : (Value × Value × Value × Value × Value × Value × Value × Value × Value) × Heap => Jr8_2b0 rc md x.1.1 x.1.2.1 x.1.2.2.1 x.1.2.2.2.1 x.1.2.2.2.2.1 x.1.2.2.2.2.2.1 x.1.2.2.2.2.2.2.1 x.1.2.2.2.2.2.2.2.1 x.1.2.2.2.2.2.2.2.2 x.2) (fun t h => Jr8_2b0_at rc md t h) (fun e (s : Value × Value × Value × Value × Value × Value × Value × Value × Value) h => Jk8_2b0 rc md e s.1 s.2.1 s.2.2.1 s.2.2.2.1 s.2.2.2.2.1 s.2.2.2.2.2.1 s.2.2.2.2.2.2.1 s.2.2.2.2.2.2.2.1 s.2.2.2.2.2.2.2.2 h) (fun e t h => Jk8_2b0_at rc md e t h) t h
/-- a round -/
noncomputable def Jr8_2 (rc : Rec) (md : Md) (s2 : Value) (s3 : Value) (s38 : Value) (s39 : Value) (s40 : Value) (h : Heap) : Option (((Value × Value × Value × Value × Value) × Heap) ⊕ (Exit × (Value × Value × Value × Value × Value) × Heap)) :=
  aBin Try.prog .lss 3 s40 s39 fun v1 =>
  cBn v1 fun b2 =>
  bif b2 then
    ixSV 1 s38 s40 fun v3 =>
    ld1 v3 h fun v4 =>
    lenS v4 fun v5 =>
    cIn .i64 v5 fun n6 =>
    J8_2b0 rc md s2 s3 s40 s38 s39 s40 v4 (.int .i64 n6) (.int .i64 0) h
  else
    some (.inr ((.exit 2), (s2, s3, s38, s39, s40), h))
noncomputable def Jr8_2H (rc : Rec) (md : Md) (X0 : T → Heap → Option (((Value × Value × Value × Value × Value) × Heap) ⊕ (Exit × (Value × Value × Value × Value × Value) × Heap))) (t : T) (h : Heap) : Option (((Value × Value × Value × Value × Value) × Heap) ⊕ (Exit × (Value × Value × Value × Value × Value) × Heap)) :=
  aBin Try.prog .lss 3 (t 40) (t 39) fun v1 =>
  cBn v1 fun b2 =>
  bif b2 then
    ixSV 1 (t 38) (t 40) fun v3 =>
    ld1 v3 h fun v4 =>
    lenS v4 fun v5 =>
    cIn .i64 v5 fun n6 =>
    X0 (upd (upd (upd (upd (upd (upd (upd (upd (upd t 41 v1) 42 (t 40)) 43 v3) 44 v4) 6 (t 40)) 7 v4) 45 v4) 46 (.int .i64 n6)) 47 (.int .i64 0)) h
  else
    some (.inr ((.exit 2), ((t 2), (t 3), (t 38), (t 39), (t 40)), h))
theorem Jr8_2_h1 (rc : Rec) (md : Md) (X : Nat → T → Heap → Option (((Value × Value × Value × Value × Value) × Heap) ⊕ (Exit × (Value × Value × Value × Value × Value) × Heap))) (t : T) (h : Heap) : execG Try.prog cfg X rc md 103 (replS (sub (bodyOf Try.prog 8) [1, 1, 1, 1, 1, 0, 1, 0, 0]) [([1, 1, 0, 0, 1, 0, 1, 0], 0), ([1, 1, 0, 0, 1, 1, 1, 0], 1), ([1, 1, 0, 0, 1, 1], 2)]) (rndK (fun t => (t 2, t 3, t 38, t 39, t 40))) t h = Jr8_2H rc md (X 0) t h := by kernel_rfl
theorem Jr8_2_h2 (rc : Rec) (md : Md) (t : T) (h : Heap) : Jr8_2H rc md (fun t h => J8_2b0 rc md (t 2) (t 3) (t 6) (t 38) (t 39) (t 40) (t 45) (t 46) (t 47) h) t h = Jr8_2 rc md (t 2) (t 3) (t 38) (t 39) (t 40) h := by unfold Jr8_2H Jr8_2; kernel_rfl
theorem Jr8_2_at (rc : Rec) (md : Md) (t : T) (h : Heap) : exec Try.prog cfg rc md 103 (sub (bodyOf Try.prog 8) [1, 1, 1, 1, 1, 0, 1, 0, 0]) (rndK (fun t => (t 2, t 3, t 38, t 39, t 40))) t h = Jr8_2 rc md (t 2) (t 3) (t 38) (t 39) (t 40) h := by
  rw [exec_holes [([1, 1, 0, 0, 1, 0, 1, 0], 0), ([1, 1, 0, 0, 1, 1, 1, 0], 1), ([1, 1, 0, 0, 1, 1], 2)] (by kernel_rfl), Jr8_2_h1, show (goX Try.prog cfg rc md 103 (sub (bodyOf Try.prog 8) [1, 1, 1, 1, 1, 0, 1, 0, 0]) [([1, 1, 0, 0, 1, 0, 1, 0], 0), ([1, 1, 0, 0, 1, 1, 1, 0], 1), ([1, 1, 0, 0, 1, 1], 2)] (rndK (fun t => (t 2, t 3, t 38, t 39, t 40)))) 0 = _ from J8_2b0_cut rc md]
  exact Jr8_2_h2 rc md t h
noncomputable def J8_2 (rc : Rec) (md : Md) (h0 : Heap) (s2 : Value) (s3 : Value) (s38 : Value) (s39 : Value) (s40 : Value) (h : Heap) : Option (Value × Heap) :=
  runL (fun x : (Value × Value × Value × Value × Value) × Heap => Jr8_2 rc md x.1.1 x.1.2.1 x.1.2.2.1 x.1.2.2.2.1 x.1.2.2.2.2 x.2) (fun e (s : Value × Value × Value × Value × Value) h => Jk8_2 rc md h0 e s.1 s.2.1 s.2.2.1 s.2.2.2.1 s.2.2.2.2 h) (s2, s3, s38, s39, s40) h
theorem J8_2_step (rc : Rec) (md : Md) (h0 : Heap) (s2 : Value) (s3 : Value) (s38 : Value) (s39 : Value) (s40 : Value) (h : Heap) : J8_2 rc md h0 s2 s3 s38 s39 s40 h = (Jr8_2 rc md s2 s3 s38 s39 s40 h).bind fun x => match x with
    | .inl (s, h) => J8_2 rc md h0 s.1 s.2.1 s.2.2.1 s.2.2.2.1 s.2.2.2.2 h
    | .inr (e, s, h) => Jk8_2 rc md h0 e s.1 s.2.1 s.2.2.1 s.2.2.2.1 s.2.2.2.2 h := by
  unfold J8_2
  rw [runL_eq]
  refine congrArg (Option.bind _) (funext fun x => ?_)
  rcases x with ⟨s, h⟩ | ⟨e, s, h⟩ <;> rfl
theorem J8_2_cut (rc : Rec) (md : Md) (h0 : Heap) : cut Try.prog cfg rc md 103 (bodyOf Try.prog 8) [1, 1, 1, 1, 1, 0, 1, 0] (retK Try.prog cfg 8 (rsOf Try.prog 8) h0) = fun t h => J8_2 rc md h0 (t 2) (t 3) (t 38) (t 39) (t 40) h := by
  funext t h
  have e : sub (bodyOf Try.prog 8) [1, 1, 1, 1, 1, 0, 1, 0] = .loop (sub (bodyOf Try.prog 8) [1, 1, 1, 1, 1, 0, 1, 0, 0]) := by kernel_rfl
  unfold cut
  rw [e]
  exact loop_eq (by kernel_rfl) (fun t => (t 2, t 3, t 38, t 39, t 40)) (fun x : (Value × Value × Value × Value × Value) × Heap => Jr8_2 rc md x.1.1 x.1.2.1 x.1.2.2.1 x.1.2.2.2.1 x.1.2.2.2.2 x.2) (fun t h => Jr8_2_at rc md t h) (fun e (s : Value × Value × Value × Value × Value) h => Jk8_2 rc md h0 e s.1 s.2.1 s.2.2.1 s.2.2.2.1 s.2.2.2.2 h) (fun e t h => Jk8_2_at rc md h0 e t h) t h
noncomputable def J8_1 (rc : Rec) (md : Md) (h0 : Heap) (s2 : Value) (s3 : Value) (h : Heap) : Option (Value × Heap) :=
  bif okNil Try.prog s3 then
  fA 9 s3 fun v1 =>
  ld1 v1 h fun v2 =>
  lenS v2 fun v3 =>
  cIn .i64 v3 fun n4 =>
  J8_2 rc md h0 s2 s3 v2 (.int .i64 n4) (.int .i64 0) h
  else none
noncomputable def J8_1H (rc : Rec) (md : Md) (h0 : Heap) (X1 : T → Heap → Option (Value × Heap)) (t : T) (h : Heap) : Option (Value × Heap) :=
  bif okNil Try.prog (t 3) then
  fA 9 (t 3) fun v1 =>
  ld1 v1 h fun v2 =>
  lenS v2 fun v3 =>
  cIn .i64 v3 fun n4 =>
  X1 (upd (upd (upd (upd (upd (upd t 35 (t 3)) 36 (t 3)) 37 v1) 38 v2) 39 (.int .i64 n4)) 40 (.int .i64 0)) h
  else none
theorem J8_1_h1 (rc : Rec) (md : Md) (h0 : Heap) (X : Nat → T → Heap → Option (Value × Heap)) (t : T) (h : Heap) : execG Try.prog cfg X rc md 103 (sub (replS (bodyOf Try.prog 8) [([1, 1, 1, 1, 0, 1, 0], 0), ([1, 1, 1, 1, 1, 0, 1, 0], 1)]) [1, 1, 1, 1, 1]) (kAtG Try.prog cfg X rc md 103 (replS (bodyOf Try.prog 8) [([1, 1, 1, 1, 0, 1, 0], 0), ([1, 1, 1, 1, 1, 0, 1, 0], 1)]) [1, 1, 1, 1, 1] (retK Try.prog cfg 8 (rsOf Try.prog 8) h0)) t h = J8_1H rc md h0 (X 1) t h := by kernel_rfl
theorem J8_1_h2 (rc : Rec) (md : Md) (h0 : Heap) (t : T) (h : Heap) : J8_1H rc md h0 (fun t h => J8_2 rc md h0 (t 2) (t 3) (t 38) (t 39) (t 40) h) t h = J8_1 rc md h0 (t 2) (t 3) h := by (unfold J8_1H J8_1; kernel_rfl)
theorem J8_1_at (rc : Rec) (md : Md) (h0 : Heap) (t : T) (h : Heap) : cut Try.prog cfg rc md 103 (bodyOf Try.prog 8) [1, 1, 1, 1, 1] (retK Try.prog cfg 8 (rsOf Try.prog 8) h0) t h = J8_1 rc md h0 (t 2) (t 3) h := by
  rw [cut_holes [([1, 1, 1, 1, 0, 1, 0], 0), ([1, 1, 1, 1, 1, 0, 1, 0], 1)] [1, 1, 1, 1, 1] (by kernel_rfl), J8_1_h1, show (goX Try.prog cfg rc md 103 (bodyOf Try.prog 8) [([1, 1, 1, 1, 0, 1, 0], 0), ([1, 1, 1, 1, 1, 0, 1, 0], 1)] (retK Try.prog cfg 8 (rsOf Try.prog 8) h0)) 1 = _ from J8_2_cut rc md h0]
  exact J8_1_h2 rc md h0 t h
theorem J8_1_cut (rc : Rec) (md : Md) (h0 : Heap) : cut Try.prog cfg rc md 103 (bodyOf Try.prog 8) [1, 1, 1, 1, 1] (retK Try.prog cfg 8 (rsOf Try.prog 8) h0) = fun t h => J8_1 rc md h0 (t 2) (t 3) h := funext fun t => funext fun h => J8_1_at rc md h0 t h
noncomputable def Jk8_0 (rc : Rec) (md : Md) (h0 : Heap) (e : Exit) (s2 : Value) (s3 : Value) (s24 : Value) (s25 : Value) (s26 : Value) (h : Heap) : Option (Value × Heap) :=
  match e with
  | .normal =>
    J8_1 rc md h0 s2 s3 h
  | .exit j =>
    bif Nat.beq j 0 then
      J8_1 rc md h0 s2 s3 h
    else
      none
  | .ret =>
    fin1 h0 s2 h
  | .goto l => none
  | .panic ps => none
  | .outgrown => none
noncomputable def Jk8_0H (rc : Rec) (md : Md) (h0 : Heap) (X2 : T → Heap → Option (Value × Heap)) (e : Exit) (t : T) (h : Heap) : Option (Value × Heap) :=
  match e with
  | .normal =>
    X2 t h
  | .exit j =>
    bif Nat.beq j 0 then
      X2 t h
    else
      none
  | .ret =>
    fin1 h0 (t 2) h
  | .goto l => none
  | .panic ps => none
  | .outgrown => none
theorem Jk8_0_h1 (rc : Rec) (md : Md) (h0 : Heap) (X : Nat → T → Heap → Option (Value × Heap)) (e : Exit) (t : T) (h : Heap) : kAtG Try.prog cfg X rc md 103 (replS (bodyOf Try.prog 8) [([1, 1, 1, 1, 1, 0, 1, 0], 1), ([1, 1, 1, 1, 1], 2)]) [1, 1, 1, 1, 0, 1, 0] (retK Try.prog cfg 8 (rsOf Try.prog 8) h0) e t h = Jk8_0H rc md h0 (X 2) e t h := by cases e <;> kernel_rfl
theorem Jk8_0_h2 (rc : Rec) (md : Md) (h0 : Heap) (e : Exit) (t : T) (h : Heap) : Jk8_0H rc md h0 (fun t h => J8_1 rc md h0 (t 2) (t 3) h) e t h = Jk8_0 rc md h0 e (t 2) (t 3) (t 24) (t 25) (t 26) h := by cases e <;> (unfold Jk8_0H Jk8_0; kernel_rfl)
theorem Jk8_0_at (rc : Rec) (md : Md) (h0 : Heap) (e : Exit) (t : T) (h : Heap) : kAt Try.prog cfg rc md 103 (bodyOf Try.prog 8) [1, 1, 1, 1, 0, 1, 0] (retK Try.prog cfg 8 (rsOf Try.prog 8) h0) e t h = Jk8_0 rc md h0 e (t 2) (t 3) (t 24) (t 25) (t 26) h := by
  rw [kAt_holes [([1, 1, 1, 1, 1, 0, 1, 0], 1), ([1, 1, 1, 1, 1], 2)] [1, 1, 1, 1, 0, 1, 0] (by kernel_rfl), Jk8_0_h1, show (goX Try.prog cfg rc md 103 (bodyOf Try.prog 8) [([1, 1, 1, 1, 1, 0, 1, 0], 1), ([1, 1, 1, 1, 1], 2)] (retK Try.prog cfg 8 (rsOf Try.prog 8) h0)) 2 = _ from J8_1_cut rc md h0]
  exact Jk8_0_h2 rc md h0 e t h
/-- a round -/
noncomputable def Jr8_0 (rc : Rec) (md : Md) (s2 : Value) (s3 : Value) (s24 : Value) (s25 : Value) (s26 : Value) (h : Heap) : Option (((Value × Value × Value × Value × Value) × Heap) ⊕ (Exit × (Value × Value × Value × Value × Value) × Heap)) :=
  aBin Try.prog .lss 3 s26 s25 fun v1 =>
  cBn v1 fun b2 =>
  bif b2 then
    ixSV 5 s24 s26 fun v3 =>
    ldN 5 v3 h fun v4 =>
    let h5 : Heap := h ++ [.own [(.int .i64 0), (.int .i64 0), (.int .i64 0), (.int .i64 0), (.int .i64 0)]]
    st md 5 (.pointer (some ⟨h.length, 0, none⟩)) v4 h5 fun h6 =>
    ldN 5 (.pointer (some ⟨h.length, 0, none⟩)) h6 fun v7 =>
    cl (rc md 34 [s3, v7] h6) fun v8 h9 =>
    cBn v8 fun b10 =>
    bif !b10 then
      some (.inr (.ret, ((.bool false), s3, s24, s25, s26), h9))
    else
      aBin Try.prog .add 3 s26 (.int .i64 1) fun v11 =>
      some (.inl ((s2, s3, s24, s25, v11), h9))
  else
    some (.inr ((.exit 0), (s2, s3, s24, s25, s26), h))
theorem Jr8_0_at (rc : Rec) (md : Md) (t : T) (h : Heap) : exec Try.prog cfg rc md 103 (sub (bodyOf Try.prog 8) [1, 1, 1, 1, 0, 1, 0, 0]) (rndK (fun t => (t 2, t 3, t 24, t 25, t 26))) t h = Jr8_0 rc md (t 2) (t 3) (t 24) (t 25) (t 26) h := by kernel_rfl
noncomputable def J8_0 (rc : Rec) (md : Md) (h0 : Heap) (s2 : Value) (s3 : Value) (s24 : Value) (s25 : Value) (s26 : Value) (h : Heap) : Option (Value × Heap) :=
  runL (fun x : (Value × Value × Value × Value × Value) × Heap => Jr8_0 rc md x.1.1 x.1.2.1 x.1.2.2.1 x.1.2.2.2.1 x.1.2.2.2.2 x.2) (fun e (s : Value × Value × Value × Value × Value) h => Jk8_0 rc md h0 e s.1 s.2.1 s.2.2.1 s.2.2.2.1 s.2.2.2.2 h) (s2, s3, s24, s25, s26) h
theorem J8_0_step (rc : Rec) (md : Md) (h0 : Heap) (s2 : Value) (s3 : Value) (s24 : Value) (s25 : Value) (s26 : Value) (h : Heap) : J8_0 rc md h0 s2 s3 s24 s25 s26 h = (Jr8_0 rc md s2 s3 s24 s25 s26 h).bind fun x => match x with
    | .inl (s, h) => J8_0 rc md h0 s.1 s.2.1 s.2.2.1 s.2.2.2.1 s.2.2.2.2 h
    | .inr (e, s, h) => Jk8_0 rc md h0 e s.1 s.2.1 s.2.2.1 s.2.2.2.1 s.2.2.2.2 h := by
  unfold J8_0
  rw [runL_eq]
  refine congrArg (Option.bind _) (funext fun x => ?_)
  rcases x with ⟨s, h⟩ | ⟨e, s, h⟩ <;> rfl
theorem J8_0_cut (rc : Rec) (md : Md) (h0 : Heap) : cut Try.prog cfg rc md 103 (bodyOf Try.prog 8) [1, 1, 1, 1, 0, 1, 0] (retK Try.prog cfg 8 (rsOf Try.prog 8) h0) = fun t h => J8_0 rc md h0 (t 2) (t 3) (t 24) (t 25) (t 26) h := by
  funext t h
  have e : sub (bodyOf Try.prog 8) [1, 1, 1, 1, 0, 1, 0] = .loop (sub (bodyOf Try.prog 8) [1, 1, 1, 1, 0, 1, 0, 0]) := by kernel_rfl
  unfold cut
  rw [e]
  exact loop_eq (by kernel_rfl) (fun t => (t 2, t 3, t 24, t 25, t 26)) (fun x : (Value × Value × Value × Value × Value) × Heap => Jr8_0 rc md x.1.1 x.1.2.1 x.1.2.2.1 x.1.2.2.2.1 x.1.2.2.2.2 x.2) (fun t h => Jr8_0_at rc md t h) (fun e (s : Value × Value × Value × Value × Value) h => Jk8_0 rc md h0 e s.1 s.2.1 s.2.2.1 s.2.2.2.1 s.2.2.2.2 h) (fun e t h => Jk8_0_at rc md h0 e t h) t h
noncomputable def F8 (rc : Rec) (md : Md) (a0_0 : Int) (a0_1 : Int) (a0_2 : Int) (a0_3 : Value) (a0_4 : Value) (h0 : Heap) : Option (Value × Heap) :=
  let h1 : Heap := h0 ++ [.own [(.int .i64 a0_0), (.int .i64 a0_1), (.int .i64 a0_2), a0_3, a0_4]]
  ldN 5 (.pointer (some ⟨h0.length, 0, none⟩)) h1 fun v2 =>
  cl (rc md 31 [v2] h1) fun v3 h4 =>
  cBn v3 fun b5 =>
  bif !b5 then
    cl (rc md 32 [] h4) fun v6 h7 =>
    cBn v6 fun b8 =>
    some ((.bool b8), List.take h0.length h7)
  else
    ldN 5 (.pointer (some ⟨h0.length, 0, none⟩)) h4 fun v9 =>
    cl (rc md 33 [v9] h4) fun v10 h11 =>
    aBin Try.prog .eql 68 v10 (.pointer none) fun v12 =>
    cBn v12 fun b13 =>
    bif b13 then
      some ((.bool false), List.take h0.length h11)
    else
      ld1 (.pointer (some ⟨h0.length, 4, none⟩)) h11 fun v14 =>
      lenS v14 fun v15 =>
      cIn .i64 v15 fun n16 =>
      J8_0 rc md h0 (.bool false) v10 v14 (.int .i64 n16) (.int .i64 0) h11
noncomputable def F8H (rc : Rec) (md : Md) (X0 : T → Heap → Option (Value × Heap)) (a0_0 : Int) (a0_1 : Int) (a0_2 : Int) (a0_3 : Value) (a0_4 : Value) (h0 : Heap) : Option (Value × Heap) :=
  let h1 : Heap := h0 ++ [.own [(.int .i64 a0_0), (.int .i64 a0_1), (.int .i64 a0_2), a0_3, a0_4]]
  ldN 5 (.pointer (some ⟨h0.length, 0, none⟩)) h1 fun v2 =>
  cl (rc md 31 [v2] h1) fun v3 h4 =>
  cBn v3 fun b5 =>
  bif !b5 then
    cl (rc md 32 [] h4) fun v6 h7 =>
    cBn v6 fun b8 =>
    some ((.bool b8), List.take h0.length h7)
  else
    ldN 5 (.pointer (some ⟨h0.length, 0, none⟩)) h4 fun v9 =>
    cl (rc md 33 [v9] h4) fun v10 h11 =>
    aBin Try.prog .eql 68 v10 (.pointer none) fun v12 =>
    cBn v12 fun b13 =>
    bif b13 then
      some ((.bool false), List.take h0.length h11)
    else
      ld1 (.pointer (some ⟨h0.length, 4, none⟩)) h11 fun v14 =>
      lenS v14 fun v15 =>
      cIn .i64 v15 fun n16 =>
      X0 (upd (upd (upd (upd (upd (upd (upd (upd (upd (upd (upd (upd (upd (upd (args0 [(.agg #[(.int .i64 a0_0), (.int .i64 a0_1), (.int .i64 a0_2), a0_3, a0_4])]) 1 (.pointer (some ⟨h0.length, 0, none⟩))) 2 (.bool false)) 15 v2) 16 (.bool b5)) 17 (.bool (!b5))) 19 v9) 20 v10) 3 v10) 21 v10) 22 v12) 23 (.pointer (some ⟨h0.length, 4, none⟩))) 24 v14) 25 (.int .i64 n16)) 26 (.int .i64 0)) h11
theorem F8_h0 (rc : Rec) (md : Md) (a0_0 : Int) (a0_1 : Int) (a0_2 : Int) (a0_3 : Value) (a0_4 : Value) (h0 : Heap) : callStep0 Try.prog cfg rc md 8 [(.agg #[(.int .i64 a0_0), (.int .i64 a0_1), (.int .i64 a0_2), a0_3, a0_4])] h0 = exec Try.prog cfg rc ⟨md.ro, h0.length⟩ 103 (bodyOf Try.prog 8) (retK Try.prog cfg 8 (rsOf Try.prog 8) h0) (args0 [(.agg #[(.int .i64 a0_0), (.int .i64 a0_1), (.int .i64 a0_2), a0_3, a0_4])]) h0 := callStep0_run (by kernel_rfl) (by kernel_rfl) (by kernel_rfl)
theorem F8_h1 (rc : Rec) (md : Md) (X : Nat → T → Heap → Option (Value × Heap)) (a0_0 : Int) (a0_1 : Int) (a0_2 : Int) (a0_3 : Value) (a0_4 : Value) (h0 : Heap) : execG Try.prog cfg X rc md 103 (replS (bodyOf Try.prog 8) [([1, 1, 1, 1, 0, 1, 0], 0), ([1, 1, 1, 1, 1, 0, 1, 0], 1), ([1, 1, 1, 1, 1], 2)]) (retK Try.prog cfg 8 (rsOf Try.prog 8) h0) (args0 [(.agg #[(.int .i64 a0_0), (.int .i64 a0_1), (.int .i64 a0_2), a0_3, a0_4])]) h0 = F8H rc md (X 0) a0_0 a0_1 a0_2 a0_3 a0_4 h0 := by kernel_rfl
theorem F8_h2 (rc : Rec) (md : Md) (a0_0 : Int) (a0_1 : Int) (a0_2 : Int) (a0_3 : Value) (a0_4 : Value) (h0 : Heap) : F8H rc md (fun t h => J8_0 rc md h0 (t 2) (t 3) (t 24) (t 25) (t 26) h) a0_0 a0_1 a0_2 a0_3 a0_4 h0 = F8 rc md a0_0 a0_1 a0_2 a0_3 a0_4 h0 := by unfold F8H F8; kernel_rfl
theorem F8_eq0 (rc : Rec) (md : Md) (a0_0 : Int) (a0_1 : Int) (a0_2 : Int) (a0_3 : Value) (a0_4 : Value) (h0 : Heap) : callStep0 Try.prog cfg rc md 8 [(.agg #[(.int .i64 a0_0), (.int .i64 a0_1), (.int .i64 a0_2), a0_3, a0_4])] h0 = F8 rc ⟨md.ro, h0.length⟩ a0_0 a0_1 a0_2 a0_3 a0_4 h0 := by
  rw [F8_h0, exec_holes [([1, 1, 1, 1, 0, 1, 0], 0), ([1, 1, 1, 1, 1, 0, 1, 0], 1), ([1, 1, 1, 1, 1], 2)] (by kernel_rfl), F8_h1, show (goX Try.prog cfg rc ⟨md.ro, h0.length⟩ 103 (bodyOf Try.prog 8) [([1, 1, 1, 1, 0, 1, 0], 0), ([1, 1, 1, 1, 1, 0, 1, 0], 1), ([1, 1, 1, 1, 1], 2)] (retK Try.prog cfg 8 (rsOf Try.prog 8) h0)) 0 = _ from J8_0_cut rc ⟨md.ro, h0.length⟩ h0]
  exact F8_h2 rc _ a0_0 a0_1 a0_2 a0_3 a0_4 h0
theorem F8_eq (rc : Rec) (md : Md) (a0_0 : Int) (a0_1 : Int) (a0_2 : Int) (a0_3 : Value) (a0_4 : Value) (h0 : Heap) : callStep Try.prog cfg rc md 8 [(.agg #[(.int .i64 a0_0), (.int .i64 a0_1), (.int .i64 a0_2), a0_3, a0_4])] h0 = F8 rc ⟨md.ro, h0.length⟩ a0_0 a0_1 a0_2 a0_3 a0_4 h0 := (callStep_ne (by kernel_rfl)).trans (F8_eq0 rc md a0_0 a0_1 a0_2 a0_3 a0_4 h0)

end Go.Det.E
