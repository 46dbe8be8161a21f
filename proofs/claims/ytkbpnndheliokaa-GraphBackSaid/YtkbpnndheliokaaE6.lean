/- Printed functions. -/
import Derived.Test.YtkbpnndheliokaaE1
import Derived.Test.YtkbpnndheliokaaDetT
import Derived.Test.YtkbpnndheliokaaDetX
import Derived.Test.YtkbpnndheliokaaProg
set_option autoImplicit false
set_option linter.unusedVariables false
set_option linter.unusedSimpArgs false
namespace Go.Det.E
open Go.Proofs Go.Det

/-- tombolo/tombololaw24.GraphPlays -/
noncomputable def Jk3_2 (rc : Rec) (md : Md) (h0 : Heap) (e : Exit) (s0 : Value) (s4 : Value) (s5 : Value) (s7 : Value) (s10 : Value) (h : Heap) : Option (Value × Heap) :=
  match e with
  | .normal =>
    cl (rc md 10 [] h) fun v1 h2 =>
    cBn v1 fun b3 =>
    some ((.bool b3), List.take h0.length h2)
  | .exit j =>
    bif Nat.beq j 2 then
      cl (rc md 10 [] h) fun v4 h5 =>
      cBn v4 fun b6 =>
      some ((.bool b6), List.take h0.length h5)
    else
      none
  | .ret =>
    fin1 h0 s4 h
  | .goto l => none
  | .panic ps => none
  | .outgrown => none
theorem Jk3_2_at (rc : Rec) (md : Md) (h0 : Heap) (e : Exit) (t : T) (h : Heap) : kAt Try.prog cfg rc md 116 (bodyOf Try.prog 3) [1, 1, 1, 1, 1, 1, 1, 0, 1, 0] (retK Try.prog cfg 3 (rsOf Try.prog 3) h0) e t h = Jk3_2 rc md h0 e (t 0) (t 4) (t 5) (t 7) (t 10) h := by cases e <;> kernel_rfl
noncomputable def Jk3_2b0 (rc : Rec) (md : Md) (e : Exit) (s0 : Value) (s4 : Value) (s5 : Value) (s7 : Value) (s10 : Value) (s11 : Value) (h : Heap) : Option (((Value × Value × Value × Value × Value) × Heap) ⊕ (Exit × (Value × Value × Value × Value × Value) × Heap)) :=
  match e with
  | .normal =>
    aBin Try.prog .add 3 s10 (.int .i64 1) fun v1 =>
    some (.inl ((s0, s4, s5, s7, v1), h))
  | .exit j =>
    bif Nat.beq j 4 then
      aBin Try.prog .add 3 s10 (.int .i64 1) fun v2 =>
      some (.inl ((s0, s4, s5, s7, v2), h))
    else
      bif Nat.beq j 3 then
        aBin Try.prog .add 3 s10 (.int .i64 1) fun v3 =>
        some (.inl ((s0, s4, s5, s7, v3), h))
      else
        some (.inr ((.exit j), (s0, s4, s5, s7, s10), h))
  | .ret =>
    some (.inr (.ret, (s0, s4, s5, s7, s10), h))
  | .goto l => some (.inr ((.goto l), (s0, s4, s5, s7, s10), h))
  | .panic ps => some (.inr ((.panic ps), (s0, s4, s5, s7, s10), h))
  | .outgrown => some (.inr (.outgrown, (s0, s4, s5, s7, s10), h))
theorem Jk3_2b0_at (rc : Rec) (md : Md) (e : Exit) (t : T) (h : Heap) : kAt Try.prog cfg rc md 116 (sub (bodyOf Try.prog 3) [1, 1, 1, 1, 1, 1, 1, 0, 1, 0, 0]) [1, 0, 0, 1, 0] (rndK (fun t => (t 0, t 4, t 5, t 7, t 10))) e t h = Jk3_2b0 rc md e (t 0) (t 4) (t 5) (t 7) (t 10) (t 11) h := by cases e <;> kernel_rfl
/-- a round -/
noncomputable def Jr3_2b0 (rc : Rec) (md : Md) (s0 : Value) (s4 : Value) (s5 : Value) (s7 : Value) (s10 : Value) (s11 : Value) (h : Heap) : Option (((Value × Value × Value × Value × Value × Value) × Heap) ⊕ (Exit × (Value × Value × Value × Value × Value × Value) × Heap)) :=
  aBin Try.prog .leq 3 s11 s0 fun v1 =>
  cBn v1 fun b2 =>
  bif b2 then
    aBin Try.prog .geq 3 s10 (.int .i64 0) fun v3 =>
    (bif wantV v3 true then
    some (s11, h)
    else some (undef, h)).bind fun p4 =>
    (bif wantV v3 true then
    aBin Try.prog .geq 3 p4.1 (.int .i64 0) fun v5 =>
    some (v5, p4.2)
    else some (undef, p4.2)).bind fun p6 =>
    cBn v3 fun q7 =>
    cBn (bif q7 then p6.1 else (.bool false)) fun b8 =>
    (bif wantV (.bool b8) true then
    some (s10, p6.2)
    else some (undef, p6.2)).bind fun p9 =>
    (bif wantV (.bool b8) true then
    some (s0, p9.2)
    else some (undef, p9.2)).bind fun p10 =>
    (bif wantV (.bool b8) true then
    aBin Try.prog .lss 3 p9.1 p10.1 fun v11 =>
    some (v11, p10.2)
    else some (undef, p10.2)).bind fun p12 =>
    cBn (bif b8 then p12.1 else (.bool false)) fun b13 =>
    (bif wantV (.bool b13) true then
    some (s11, p12.2)
    else some (undef, p12.2)).bind fun p14 =>
    (bif wantV (.bool b13) true then
    some (s0, p14.2)
    else some (undef, p14.2)).bind fun p15 =>
    (bif wantV (.bool b13) true then
    aBin Try.prog .lss 3 p14.1 p15.1 fun v16 =>
    some (v16, p15.2)
    else some (undef, p15.2)).bind fun p17 =>
    cBn (bif b13 then p17.1 else (.bool false)) fun b18 =>
    cl (rc md 13 [s5, s10, s11] p17.2) fun v19 h20 =>
    cBn v19 fun b21 =>
    (bif wantV (.bool b18) true then
    some (s7, h20)
    else some (undef, h20)).bind fun p22 =>
    (bif wantV (.bool b18) true then
    some (s10, p22.2)
    else some (undef, p22.2)).bind fun p23 =>
    (bif wantV (.bool b18) true then
    some (s11, p23.2)
    else some (undef, p23.2)).bind fun p24 =>
    (bif wantV (.bool b18) true then
    aBuiltin Try.prog md .min #[3, 3] [p23.1, p24.1] p24.2 fun v25 h26 =>
    cIn .i64 v25 fun n27 =>
    some ((.int .i64 n27), h26)
    else some (undef, p24.2)).bind fun p28 =>
    (bif wantV (.bool b18) true then
    some (s10, p28.2)
    else some (undef, p28.2)).bind fun p29 =>
    (bif wantV (.bool b18) true then
    some (s11, p29.2)
    else some (undef, p29.2)).bind fun p30 =>
    (bif wantV (.bool b18) true then
    aBuiltin Try.prog md .max #[3, 3] [p29.1, p30.1] p30.2 fun v31 h32 =>
    cIn .i64 v31 fun n33 =>
    some ((.int .i64 n33), h32)
    else some (undef, p30.2)).bind fun p34 =>
    (bif wantV (.bool b18) true then
    aBuild Try.prog 34 [(0, p28.1), (1, p34.1)] fun v35 =>
    some (v35, p34.2)
    else some (undef, p34.2)).bind fun p36 =>
    (bif wantV (.bool b18) true then
    aLookup Try.prog 29 p22.1 p36.1 false p36.2 fun v37 =>
    cBn v37 fun b38 =>
    some ((.bool b38), p36.2)
    else some (undef, p36.2)).bind fun p39 =>
    cBn (bif b18 then p39.1 else (.bool false)) fun b40 =>
    aBin Try.prog .neq 4 (.bool b21) (.bool b40) fun v41 =>
    (bif wantV v41 false then
    some (s5, p39.2)
    else some (undef, p39.2)).bind fun p42 =>
    (bif wantV v41 false then
    some (s10, p42.2)
    else some (undef, p42.2)).bind fun p43 =>
    (bif wantV v41 false then
    some (s11, p43.2)
    else some (undef, p43.2)).bind fun p44 =>
    (bif wantV v41 false then
    cl (rc md 14 [p42.1, p43.1, p44.1] p44.2) fun v45 h46 =>
    cBn v45 fun b47 =>
    some ((.bool b47), h46)
    else some (undef, p44.2)).bind fun p48 =>
    (bif wantV v41 false then
    some ((.bool b18), p48.2)
    else some (undef, p48.2)).bind fun p49 =>
    (bif wantV v41 false then
    some (p49.1, p49.2)
    else some (undef, p49.2)).bind fun p50 =>
    (bif wantV p50.1 true then
    some (s7, p50.2)
    else some (undef, p50.2)).bind fun p51 =>
    (bif wantV p50.1 true then
    some (s10, p51.2)
    else some (undef, p51.2)).bind fun p52 =>
    (bif wantV p50.1 true then
    some (s11, p52.2)
    else some (undef, p52.2)).bind fun p53 =>
    (bif wantV p50.1 true then
    some (s0, p53.2)
    else some (undef, p53.2)).bind fun p54 =>
    (bif wantV p50.1 true then
    cl (rc md 15 [p51.1, p52.1, p53.1, p54.1] p54.2) fun v55 h56 =>
    cBn v55 fun b57 =>
    some ((.bool b57), h56)
    else some (undef, p54.2)).bind fun p58 =>
    (bif wantV v41 false then
    cBn p50.1 fun q59 =>
    cBn (bif q59 then p58.1 else (.bool false)) fun b60 =>
    some ((.bool b60), p58.2)
    else some (undef, p58.2)).bind fun p61 =>
    (bif wantV v41 false then
    aBin Try.prog .neq 4 p48.1 p61.1 fun v62 =>
    some (v62, p61.2)
    else some (undef, p61.2)).bind fun p63 =>
    cBn v41 fun q64 =>
    cBn (bif q64 then (.bool true) else p63.1) fun b65 =>
    bif b65 then
      some (.inr (.ret, (s0, (.bool false), s5, s7, s10, s11), p63.2))
    else
      aBin Try.prog .add 3 s11 (.int .i64 1) fun v66 =>
      some (.inl ((s0, s4, s5, s7, s10, v66), p63.2))
  else
    some (.inr ((.exit 4), (s0, s4, s5, s7, s10, s11), h))
theorem Jr3_2b0_at (rc : Rec) (md : Md) (t : T) (h : Heap) : exec Try.prog cfg rc md 116 (sub (bodyOf Try.prog 3) [1, 1, 1, 1, 1, 1, 1, 0, 1, 0, 0, 1, 0, 0, 1, 0, 0]) (rndK (fun t => (t 0, t 4, t 5, t 7, t 10, t 11))) t h = Jr3_2b0 rc md (t 0) (t 4) (t 5) (t 7) (t 10) (t 11) h := by kernel_rfl
noncomputable def J3_2b0 (rc : Rec) (md : Md) (s0 : Value) (s4 : Value) (s5 : Value) (s7 : Value) (s10 : Value) (s11 : Value) (h : Heap) : Option (((Value × Value × Value × Value × Value) × Heap) ⊕ (Exit × (Value × Value × Value × Value × Value) × Heap)) :=
  runL (fun x : (Value × Value × Value × Value × Value × Value) × Heap => Jr3_2b0 rc md x.1.1 x.1.2.1 x.1.2.2.1 x.1.2.2.2.1 x.1.2.2.2.2.1 x.1.2.2.2.2.2 x.2) (fun e (s : Value × Value × Value × Value × Value × Value) h => Jk3_2b0 rc md e s.1 s.2.1 s.2.2.1 s.2.2.2.1 s.2.2.2.2.1 s.2.2.2.2.2 h) (s0, s4, s5, s7, s10, s11) h
theorem J3_2b0_step (rc : Rec) (md : Md) (s0 : Value) (s4 : Value) (s5 : Value) (s7 : Value) (s10 : Value) (s11 : Value) (h : Heap) : J3_2b0 rc md s0 s4 s5 s7 s10 s11 h = (Jr3_2b0 rc md s0 s4 s5 s7 s10 s11 h).bind fun x => match x with
    | .inl (s, h) => J3_2b0 rc md s.1 s.2.1 s.2.2.1 s.2.2.2.1 s.2.2.2.2.1 s.2.2.2.2.2 h
    | .inr (e, s, h) => Jk3_2b0 rc md e s.1 s.2.1 s.2.2.1 s.2.2.2.1 s.2.2.2.2.1 s.2.2.2.2.2 h := by
  unfold J3_2b0
  rw [runL_eq]
  refine congrArg (Option.bind _) (funext fun x => ?_)
  rcases x with ⟨s, h⟩ | ⟨e, s, h⟩ <;> rfl
theorem J3_2b0_cut (rc : Rec) (md : Md) : cut Try.prog cfg rc md 116 (sub (bodyOf Try.prog 3) [1, 1, 1, 1, 1, 1, 1, 0, 1, 0, 0]) [1, 0, 0, 1, 0] (rndK (fun t => (t 0, t 4, t 5, t 7, t 10))) = fun t h => J3_2b0 rc md (t 0) (t 4) (t 5) (t 7) (t 10) (t 11) h := by
  funext t h
  have e : sub (sub (bodyOf Try.prog 3) [1, 1, 1, 1, 1, 1, 1, 0, 1, 0, 0]) [1, 0, 0, 1, 0] = .loop (sub (bodyOf Try.prog 3) [1, 1, 1, 1, 1, 1, 1, 0, 1, 0, 0, 1, 0, 0, 1, 0, 0]) := by kernel_rfl
  unfold cut
  rw [e]
  exact loop_eq (by kernel_rfl) (fun t => (t 0, t 4, t 5, t 7, t 10, t 11)) (fun x : (Value × Value × Value × Value × Value × Value) × Heap => Jr3_2b0 rc md x.1.1 x.1.2.1 x.1.2.2.1 x.1.2.2.2.1 x.1.2.2.2.2.1 x.1.2.2.2.2.2 x.2) (fun t h => Jr3_2b0_at rc md t h) (fun e (s : Value × Value × Value × Value × Value × Value) h => Jk3_2b0 rc md e s.1 s.2.1 s.2.2.1 s.2.2.2.1 s.2.2.2.2.1 s.2.2.2.2.2 h) (fun e t h => Jk3_2b0_at rc md e t h) t h
/-- a round -/
noncomputable def Jr3_2 (rc : Rec) (md : Md) (s0 : Value) (s4 : Value) (s5 : Value) (s7 : Value) (s10 : Value) (h : Heap) : Option (((Value × Value × Value × Value × Value) × Heap) ⊕ (Exit × (Value × Value × Value × Value × Value) × Heap)) :=
  aBin Try.prog .leq 3 s10 s0 fun v1 =>
  cBn v1 fun b2 =>
  bif b2 then
    J3_2b0 rc md s0 s4 s5 s7 s10 (.int .i64 (-1)) h
  else
    some (.inr ((.exit 2), (s0, s4, s5, s7, s10), h))
noncomputable def Jr3_2H (rc : Rec) (md : Md) (X0 : T → Heap → Option (((Value × Value × Value × Value × Value) × Heap) ⊕ (Exit × (Value × Value × Value × Value × Value) × Heap))) (t : T) (h : Heap) : Option (((Value × Value × Value × Value × Value) × Heap) ⊕ (Exit × (Value × Value × Value × Value × Value) × Heap)) :=
  aBin Try.prog .leq 3 (t 10) (t 0) fun v1 =>
  cBn v1 fun b2 =>
  bif b2 then
    X0 (upd (upd (upd (upd t 57 (t 10)) 58 (t 0)) 59 v1) 11 (.int .i64 (-1))) h
  else
    some (.inr ((.exit 2), ((t 0), (t 4), (t 5), (t 7), (t 10)), h))
theorem Jr3_2_h1 (rc : Rec) (md : Md) (X : Nat → T → Heap → Option (((Value × Value × Value × Value × Value) × Heap) ⊕ (Exit × (Value × Value × Value × Value × Value) × Heap))) (t : T) (h : Heap) : execG Try.prog cfg X rc md 116 (replS (sub (bodyOf Try.prog 3) [1, 1, 1, 1, 1, 1, 1, 0, 1, 0, 0]) [([1, 0, 0, 1, 0], 0)]) (rndK (fun t => (t 0, t 4, t 5, t 7, t 10))) t h = Jr3_2H rc md (X 0) t h := by kernel_rfl
theorem Jr3_2_h2 (rc : Rec) (md : Md) (t : T) (h : Heap) : Jr3_2H rc md (fun t h => J3_2b0 rc md (t 0) (t 4) (t 5) (t 7) (t 10) (t 11) h) t h = Jr3_2 rc md (t 0) (t 4) (t 5) (t 7) (t 10) h := by unfold Jr3_2H Jr3_2; kernel_rfl
theorem Jr3_2_at (rc : Rec) (md : Md) (t : T) (h : Heap) : exec Try.prog cfg rc md 116 (sub (bodyOf Try.prog 3) [1, 1, 1, 1, 1, 1, 1, 0, 1, 0, 0]) (rndK (fun t => (t 0, t 4, t 5, t 7, t 10))) t h = Jr3_2 rc md (t 0) (t 4) (t 5) (t 7) (t 10) h := by
  rw [exec_holes [([1, 0, 0, 1, 0], 0)] (by kernel_rfl), Jr3_2_h1, show (goX Try.prog cfg rc md 116 (sub (bodyOf Try.prog 3) [1, 1, 1, 1, 1, 1, 1, 0, 1, 0, 0]) [([1, 0, 0, 1, 0], 0)] (rndK (fun t => (t 0, t 4, t 5, t 7, t 10)))) 0 = _ from J3_2b0_cut rc md]
  exact Jr3_2_h2 rc md t h
noncomputable def J3_2 (rc : Rec) (md : Md) (h0 : Heap) (s0 : Value) (s4 : Value) (s5 : Value) (s7 : Value) (s10 : Value) (h : Heap) : Option (Value × Heap) :=
  runL (fun x : (Value × Value × Value × Value × Value) × Heap => Jr3_2 rc md x.1.1 x.1.2.1 x.1.2.2.1 x.1.2.2.2.1 x.1.2.2.2.2 x.2) (fun e (s : Value × Value × Value × Value × Value) h => Jk3_2 rc md h0 e s.1 s.2.1 s.2.2.1 s.2.2.2.1 s.2.2.2.2 h) (s0, s4, s5, s7, s10) h
theorem J3_2_step (rc : Rec) (md : Md) (h0 : Heap) (s0 : Value) (s4 : Value) (s5 : Value) (s7 : Value) (s10 : Value) (h : Heap) : J3_2 rc md h0 s0 s4 s5 s7 s10 h = (Jr3_2 rc md s0 s4 s5 s7 s10 h).bind fun x => match x with
    | .inl (s, h) => J3_2 rc md h0 s.1 s.2.1 s.2.2.1 s.2.2.2.1 s.2.2.2.2 h
    | .inr (e, s, h) => Jk3_2 rc md h0 e s.1 s.2.1 s.2.2.1 s.2.2.2.1 s.2.2.2.2 h := by
  unfold J3_2
  rw [runL_eq]
  refine congrArg (Option.bind _) (funext fun x => ?_)
  rcases x with ⟨s, h⟩ | ⟨e, s, h⟩ <;> rfl
theorem J3_2_cut (rc : Rec) (md : Md) (h0 : Heap) : cut Try.prog cfg rc md 116 (bodyOf Try.prog 3) [1, 1, 1, 1, 1, 1, 1, 0, 1, 0] (retK Try.prog cfg 3 (rsOf Try.prog 3) h0) = fun t h => J3_2 rc md h0 (t 0) (t 4) (t 5) (t 7) (t 10) h := by
  funext t h
  have e : sub (bodyOf Try.prog 3) [1, 1, 1, 1, 1, 1, 1, 0, 1, 0] = .loop (sub (bodyOf Try.prog 3) [1, 1, 1, 1, 1, 1, 1, 0, 1, 0, 0]) := by kernel_rfl
  unfold cut
  rw [e]
  exact loop_eq (by kernel_rfl) (fun t => (t 0, t 4, t 5, t 7, t 10)) (fun x : (Value × Value × Value × Value × Value) × Heap => Jr3_2 rc md x.1.1 x.1.2.1 x.1.2.2.1 x.1.2.2.2.1 x.1.2.2.2.2 x.2) (fun t h => Jr3_2_at rc md t h) (fun e (s : Value × Value × Value × Value × Value) h => Jk3_2 rc md h0 e s.1 s.2.1 s.2.2.1 s.2.2.2.1 s.2.2.2.2 h) (fun e t h => Jk3_2_at rc md h0 e t h) t h
noncomputable def J3_1 (rc : Rec) (md : Md) (h0 : Heap) (s0 : Value) (s4 : Value) (s5 : Value) (s7 : Value) (h : Heap) : Option (Value × Heap) :=
  J3_2 rc md h0 s0 s4 s5 s7 (.int .i64 (-1)) h
noncomputable def J3_1H (rc : Rec) (md : Md) (h0 : Heap) (X1 : T → Heap → Option (Value × Heap)) (t : T) (h : Heap) : Option (Value × Heap) :=
  X1 (upd t 10 (.int .i64 (-1))) h
theorem J3_1_h1 (rc : Rec) (md : Md) (h0 : Heap) (X : Nat → T → Heap → Option (Value × Heap)) (t : T) (h : Heap) : execG Try.prog cfg X rc md 116 (sub (replS (bodyOf Try.prog 3) [([1, 1, 1, 1, 1, 1, 0, 1, 0], 0), ([1, 1, 1, 1, 1, 1, 1, 0, 1, 0], 1)]) [1, 1, 1, 1, 1, 1, 1]) (kAtG Try.prog cfg X rc md 116 (replS (bodyOf Try.prog 3) [([1, 1, 1, 1, 1, 1, 0, 1, 0], 0), ([1, 1, 1, 1, 1, 1, 1, 0, 1, 0], 1)]) [1, 1, 1, 1, 1, 1, 1] (retK Try.prog cfg 3 (rsOf Try.prog 3) h0)) t h = J3_1H rc md h0 (X 1) t h := by kernel_rfl
theorem J3_1_h2 (rc : Rec) (md : Md) (h0 : Heap) (t : T) (h : Heap) : J3_1H rc md h0 (fun t h => J3_2 rc md h0 (t 0) (t 4) (t 5) (t 7) (t 10) h) t h = J3_1 rc md h0 (t 0) (t 4) (t 5) (t 7) h := by (unfold J3_1H J3_1; kernel_rfl)
theorem J3_1_at (rc : Rec) (md : Md) (h0 : Heap) (t : T) (h : Heap) : cut Try.prog cfg rc md 116 (bodyOf Try.prog 3) [1, 1, 1, 1, 1, 1, 1] (retK Try.prog cfg 3 (rsOf Try.prog 3) h0) t h = J3_1 rc md h0 (t 0) (t 4) (t 5) (t 7) h := by
  rw [cut_holes [([1, 1, 1, 1, 1, 1, 0, 1, 0], 0), ([1, 1, 1, 1, 1, 1, 1, 0, 1, 0], 1)] [1, 1, 1, 1, 1, 1, 1] (by kernel_rfl), J3_1_h1, show (goX Try.prog cfg rc md 116 (bodyOf Try.prog 3) [([1, 1, 1, 1, 1, 1, 0, 1, 0], 0), ([1, 1, 1, 1, 1, 1, 1, 0, 1, 0], 1)] (retK Try.prog cfg 3 (rsOf Try.prog 3) h0)) 1 = _ from J3_2_cut rc md h0]
  exact J3_1_h2 rc md h0 t h
theorem J3_1_cut (rc : Rec) (md : Md) (h0 : Heap) : cut Try.prog cfg rc md 116 (bodyOf Try.prog 3) [1, 1, 1, 1, 1, 1, 1] (retK Try.prog cfg 3 (rsOf Try.prog 3) h0) = fun t h => J3_1 rc md h0 (t 0) (t 4) (t 5) (t 7) h := funext fun t => funext fun h => J3_1_at rc md h0 t h
noncomputable def Jk3_0 (rc : Rec) (md : Md) (h0 : Heap) (e : Exit) (s0 : Value) (s4 : Value) (s5 : Value) (s7 : Value) (s44 : Value) (s45 : Value) (s46 : Value) (h : Heap) : Option (Value × Heap) :=
  match e with
  | .normal =>
    J3_1 rc md h0 s0 s4 s5 s7 h
  | .exit j =>
    bif Nat.beq j 0 then
      J3_1 rc md h0 s0 s4 s5 s7 h
    else
      none
  | .ret =>
    fin1 h0 s4 h
  | .goto l => none
  | .panic ps => none
  | .outgrown => none
noncomputable def Jk3_0H (rc : Rec) (md : Md) (h0 : Heap) (X2 : T → Heap → Option (Value × Heap)) (e : Exit) (t : T) (h : Heap) : Option (Value × Heap) :=
  match e with
  | .normal =>
    X2 t h
  | .exit j =>
    bif Nat.beq j 0 then
      X2 t h
    else
      none
  | .ret =>
    fin1 h0 (t 4) h
  | .goto l => none
  | .panic ps => none
  | .outgrown => none
theorem Jk3_0_h1 (rc : Rec) (md : Md) (h0 : Heap) (X : Nat → T → Heap → Option (Value × Heap)) (e : Exit) (t : T) (h : Heap) : kAtG Try.prog cfg X rc md 116 (replS (bodyOf Try.prog 3) [([1, 1, 1, 1, 1, 1, 1, 0, 1, 0], 1), ([1, 1, 1, 1, 1, 1, 1], 2)]) [1, 1, 1, 1, 1, 1, 0, 1, 0] (retK Try.prog cfg 3 (rsOf Try.prog 3) h0) e t h = Jk3_0H rc md h0 (X 2) e t h := by cases e <;> kernel_rfl
theorem Jk3_0_h2 (rc : Rec) (md : Md) (h0 : Heap) (e : Exit) (t : T) (h : Heap) : Jk3_0H rc md h0 (fun t h => J3_1 rc md h0 (t 0) (t 4) (t 5) (t 7) h) e t h = Jk3_0 rc md h0 e (t 0) (t 4) (t 5) (t 7) (t 44) (t 45) (t 46) h := by cases e <;> (unfold Jk3_0H Jk3_0; kernel_rfl)
theorem Jk3_0_at (rc : Rec) (md : Md) (h0 : Heap) (e : Exit) (t : T) (h : Heap) : kAt Try.prog cfg rc md 116 (bodyOf Try.prog 3) [1, 1, 1, 1, 1, 1, 0, 1, 0] (retK Try.prog cfg 3 (rsOf Try.prog 3) h0) e t h = Jk3_0 rc md h0 e (t 0) (t 4) (t 5) (t 7) (t 44) (t 45) (t 46) h := by
  rw [kAt_holes [([1, 1, 1, 1, 1, 1, 1, 0, 1, 0], 1), ([1, 1, 1, 1, 1, 1, 1], 2)] [1, 1, 1, 1, 1, 1, 0, 1, 0] (by kernel_rfl), Jk3_0_h1, show (goX Try.prog cfg rc md 116 (bodyOf Try.prog 3) [([1, 1, 1, 1, 1, 1, 1, 0, 1, 0], 1), ([1, 1, 1, 1, 1, 1, 1], 2)] (retK Try.prog cfg 3 (rsOf Try.prog 3) h0)) 2 = _ from J3_1_cut rc md h0]
  exact Jk3_0_h2 rc md h0 e t h
/-- a round -/
noncomputable def Jr3_0 (rc : Rec) (md : Md) (s0 : Value) (s4 : Value) (s5 : Value) (s7 : Value) (s44 : Value) (s45 : Value) (s46 : Value) (h : Heap) : Option (((Value × Value × Value × Value × Value × Value × Value) × Heap) ⊕ (Exit × (Value × Value × Value × Value × Value × Value × Value) × Heap)) :=
  aBin Try.prog .lss 3 s46 s45 fun v1 =>
  cBn v1 fun b2 =>
  bif b2 then
    ixSV 3 s44 s46 fun v3 =>
    ldN 3 v3 h fun v4 =>
    let h5 : Heap := h ++ [.own [(.int .i64 0), (.int .i64 0), (.int .i64 0)]]
    st md 3 (.pointer (some ⟨h.length, 0, none⟩)) v4 h5 fun h6 =>
    ldN 3 (.pointer (some ⟨h.length, 0, none⟩)) h6 fun v7 =>
    cl (rc md 12 [s5, s7, s0, v7] h6) fun v8 h9 =>
    cBn v8 fun b10 =>
    bif !b10 then
      some (.inr (.ret, (s0, (.bool false), s5, s7, s44, s45, s46), h9))
    else
      aBin Try.prog .add 3 s46 (.int .i64 1) fun v11 =>
      some (.inl ((s0, s4, s5, s7, s44, s45, v11), h9))
  else
    some (.inr ((.exit 0), (s0, s4, s5, s7, s44, s45, s46), h))
theorem Jr3_0_at (rc : Rec) (md : Md) (t : T) (h : Heap) : exec Try.prog cfg rc md 116 (sub (bodyOf Try.prog 3) [1, 1, 1, 1, 1, 1, 0, 1, 0, 0]) (rndK (fun t => (t 0, t 4, t 5, t 7, t 44, t 45, t 46))) t h = Jr3_0 rc md (t 0) (t 4) (t 5) (t 7) (t 44) (t 45) (t 46) h := by kernel_rfl
noncomputable def J3_0 (rc : Rec) (md : Md) (h0 : Heap) (s0 : Value) (s4 : Value) (s5 : Value) (s7 : Value) (s44 : Value) (s45 : Value) (s46 : Value) (h : Heap) : Option (Value × Heap) :=
  runL (fun x : (Value × Value × Value × Value × Value × Value × Value) × Heap => Jr3_0 rc md x.1.1 x.1.2.1 x.1.2.2.1 x.1.2.2.2.1 x.1.2.2.2.2.1 x.1.2.2.2.2.2.1 x.1.2.2.2.2.2.2 x.2) (fun e (s : Value × Value × Value × Value × Value × Value × Value) h => Jk3_0 rc md h0 e s.1 s.2.1 s.2.2.1 s.2.2.2.1 s.2.2.2.2.1 s.2.2.2.2.2.1 s.2.2.2.2.2.2 h) (s0, s4, s5, s7, s44, s45, s46) h
theorem J3_0_step (rc : Rec) (md : Md) (h0 : Heap) (s0 : Value) (s4 : Value) (s5 : Value) (s7 : Value) (s44 : Value) (s45 : Value) (s46 : Value) (h : Heap) : J3_0 rc md h0 s0 s4 s5 s7 s44 s45 s46 h = (Jr3_0 rc md s0 s4 s5 s7 s44 s45 s46 h).bind fun x => match x with
    | .inl (s, h) => J3_0 rc md h0 s.1 s.2.1 s.2.2.1 s.2.2.2.1 s.2.2.2.2.1 s.2.2.2.2.2.1 s.2.2.2.2.2.2 h
    | .inr (e, s, h) => Jk3_0 rc md h0 e s.1 s.2.1 s.2.2.1 s.2.2.2.1 s.2.2.2.2.1 s.2.2.2.2.2.1 s.2.2.2.2.2.2 h := by
  unfold J3_0
  rw [runL_eq]
  refine congrArg (Option.bind _) (funext fun x => ?_)
  rcases x with ⟨s, h⟩ | ⟨e, s, h⟩ <;> rfl
theorem J3_0_cut (rc : Rec) (md : Md) (h0 : Heap) : cut Try.prog cfg rc md 116 (bodyOf Try.prog 3) [1, 1, 1, 1, 1, 1, 0, 1, 0] (retK Try.prog cfg 3 (rsOf Try.prog 3) h0) = fun t h => J3_0 rc md h0 (t 0) (t 4) (t 5) (t 7) (t 44) (t 45) (t 46) h := by
  funext t h
  have e : sub (bodyOf Try.prog 3) [1, 1, 1, 1, 1, 1, 0, 1, 0] = .loop (sub (bodyOf Try.prog 3) [1, 1, 1, 1, 1, 1, 0, 1, 0, 0]) := by kernel_rfl
  unfold cut
  rw [e]
  exact loop_eq (by kernel_rfl) (fun t => (t 0, t 4, t 5, t 7, t 44, t 45, t 46)) (fun x : (Value × Value × Value × Value × Value × Value × Value) × Heap => Jr3_0 rc md x.1.1 x.1.2.1 x.1.2.2.1 x.1.2.2.2.1 x.1.2.2.2.2.1 x.1.2.2.2.2.2.1 x.1.2.2.2.2.2.2 x.2) (fun t h => Jr3_0_at rc md t h) (fun e (s : Value × Value × Value × Value × Value × Value × Value) h => Jk3_0 rc md h0 e s.1 s.2.1 s.2.2.1 s.2.2.2.1 s.2.2.2.2.1 s.2.2.2.2.2.1 s.2.2.2.2.2.2 h) (fun e t h => Jk3_0_at rc md h0 e t h) t h
noncomputable def F3 (rc : Rec) (md : Md) (a0 : Int) (a1 : Value) (h0 : Heap) : Option (Value × Heap) :=
  lenS a1 fun v1 =>
  cIn .i64 v1 fun n2 =>
  bif (decide (n2 > 60)) then
    cl (rc md 10 [] h0) fun v3 h4 =>
    cBn v3 fun b5 =>
    some ((.bool b5), List.take h0.length h4)
  else
    cl (rc md 11 [(.int .i64 a0)] h0) fun v6 h7 =>
    exT v6 0 fun v8 =>
    exT v6 1 fun v9 =>
    cIn .i64 v9 fun n10 =>
    (bif wantV (.bool (decide (a0 < 1))) false then
    some ((.int .i64 a0), h7)
    else some (undef, h7)).bind fun p11 =>
    (bif wantV (.bool (decide (a0 < 1))) false then
    aBin Try.prog .gtr 3 p11.1 (.int .i64 16) fun v12 =>
    some (v12, p11.2)
    else some (undef, p11.2)).bind fun p13 =>
    cBn (bif (decide (a0 < 1)) then (.bool true) else p13.1) fun b14 =>
    bif b14 then
      (bif wantV (.bool (n10 == 11)) true then
      some (v8, p13.2)
      else some (undef, p13.2)).bind fun p15 =>
      (bif wantV (.bool (n10 == 11)) true then
      aBin Try.prog .eql 24 p15.1 (.pointer none) fun v16 =>
      some (v16, p15.2)
      else some (undef, p15.2)).bind fun p17 =>
      cBn (bif (n10 == 11) then p17.1 else (.bool false)) fun b18 =>
      (bif wantV (.bool b18) true then
      cl (rc md 10 [] p17.2) fun v19 h20 =>
      cBn v19 fun b21 =>
      some ((.bool b21), h20)
      else some (undef, p17.2)).bind fun p22 =>
      cBn (bif b18 then p22.1 else (.bool false)) fun b23 =>
      some ((.bool b23), List.take h0.length p22.2)
    else
      (bif wantV (.bool (n10 != 0)) false then
      some (v8, p13.2)
      else some (undef, p13.2)).bind fun p24 =>
      (bif wantV (.bool (n10 != 0)) false then
      aBin Try.prog .eql 24 p24.1 (.pointer none) fun v25 =>
      some (v25, p24.2)
      else some (undef, p24.2)).bind fun p26 =>
      cBn (bif (n10 != 0) then (.bool true) else p26.1) fun b27 =>
      bif b27 then
        some ((.bool false), List.take h0.length p26.2)
      else
        aMakeMap Try.prog 29 p26.2 fun v28 h29 =>
        lenS a1 fun v30 =>
        cIn .i64 v30 fun n31 =>
        J3_0 rc md h0 (.int .i64 a0) (.bool false) v8 v28 a1 (.int .i64 n31) (.int .i64 0) h29
noncomputable def F3H (rc : Rec) (md : Md) (X0 : T → Heap → Option (Value × Heap)) (a0 : Int) (a1 : Value) (h0 : Heap) : Option (Value × Heap) :=
  lenS a1 fun v1 =>
  cIn .i64 v1 fun n2 =>
  bif (decide (n2 > 60)) then
    cl (rc md 10 [] h0) fun v3 h4 =>
    cBn v3 fun b5 =>
    some ((.bool b5), List.take h0.length h4)
  else
    cl (rc md 11 [(.int .i64 a0)] h0) fun v6 h7 =>
    exT v6 0 fun v8 =>
    exT v6 1 fun v9 =>
    cIn .i64 v9 fun n10 =>
    (bif wantV (.bool (decide (a0 < 1))) false then
    some ((.int .i64 a0), h7)
    else some (undef, h7)).bind fun p11 =>
    (bif wantV (.bool (decide (a0 < 1))) false then
    aBin Try.prog .gtr 3 p11.1 (.int .i64 16) fun v12 =>
    some (v12, p11.2)
    else some (undef, p11.2)).bind fun p13 =>
    cBn (bif (decide (a0 < 1)) then (.bool true) else p13.1) fun b14 =>
    bif b14 then
      (bif wantV (.bool (n10 == 11)) true then
      some (v8, p13.2)
      else some (undef, p13.2)).bind fun p15 =>
      (bif wantV (.bool (n10 == 11)) true then
      aBin Try.prog .eql 24 p15.1 (.pointer none) fun v16 =>
      some (v16, p15.2)
      else some (undef, p15.2)).bind fun p17 =>
      cBn (bif (n10 == 11) then p17.1 else (.bool false)) fun b18 =>
      (bif wantV (.bool b18) true then
      cl (rc md 10 [] p17.2) fun v19 h20 =>
      cBn v19 fun b21 =>
      some ((.bool b21), h20)
      else some (undef, p17.2)).bind fun p22 =>
      cBn (bif b18 then p22.1 else (.bool false)) fun b23 =>
      some ((.bool b23), List.take h0.length p22.2)
    else
      (bif wantV (.bool (n10 != 0)) false then
      some (v8, p13.2)
      else some (undef, p13.2)).bind fun p24 =>
      (bif wantV (.bool (n10 != 0)) false then
      aBin Try.prog .eql 24 p24.1 (.pointer none) fun v25 =>
      some (v25, p24.2)
      else some (undef, p24.2)).bind fun p26 =>
      cBn (bif (n10 != 0) then (.bool true) else p26.1) fun b27 =>
      bif b27 then
        some ((.bool false), List.take h0.length p26.2)
      else
        aMakeMap Try.prog 29 p26.2 fun v28 h29 =>
        lenS a1 fun v30 =>
        cIn .i64 v30 fun n31 =>
        X0 (upd (upd (upd (upd (upd (upd (upd (upd (upd (upd (upd (upd (upd (upd (upd (upd (upd (upd (upd (upd (upd (upd (upd (upd (upd (upd (upd (upd (args0 [(.int .i64 a0), a1]) 4 (.bool false)) 13 a1) 14 (.int .i64 n2)) 15 (.bool (decide (n2 > 60)))) 18 (.int .i64 a0)) 19 v6) 17 v6) 20 v8) 21 (.int .i64 n10)) 5 v8) 6 (.int .i64 n10)) 22 (.int .i64 a0)) 23 (.bool (decide (a0 < 1)))) 24 (.bool (decide (a0 < 1)))) 25 p11.1) 26 p13.1) 27 (.bool b14)) 37 (.int .i64 n10)) 38 (.bool (n10 != 0))) 39 (.bool (n10 != 0))) 40 p24.1) 41 p26.1) 42 (.bool b27)) 43 v28) 7 v28) 44 a1) 45 (.int .i64 n31)) 46 (.int .i64 0)) h29
theorem F3_h0 (rc : Rec) (md : Md) (a0 : Int) (a1 : Value) (h0 : Heap) : callStep0 Try.prog cfg rc md 3 [(.int .i64 a0), a1] h0 = exec Try.prog cfg rc ⟨md.ro, h0.length⟩ 116 (bodyOf Try.prog 3) (retK Try.prog cfg 3 (rsOf Try.prog 3) h0) (args0 [(.int .i64 a0), a1]) h0 := callStep0_run (by kernel_rfl) (by kernel_rfl) (by kernel_rfl)
theorem F3_h1 (rc : Rec) (md : Md) (X : Nat → T → Heap → Option (Value × Heap)) (a0 : Int) (a1 : Value) (h0 : Heap) : execG Try.prog cfg X rc md 116 (replS (bodyOf Try.prog 3) [([1, 1, 1, 1, 1, 1, 0, 1, 0], 0), ([1, 1, 1, 1, 1, 1, 1, 0, 1, 0], 1), ([1, 1, 1, 1, 1, 1, 1], 2)]) (retK Try.prog cfg 3 (rsOf Try.prog 3) h0) (args0 [(.int .i64 a0), a1]) h0 = F3H rc md (X 0) a0 a1 h0 := by kernel_rfl
theorem F3_h2 (rc : Rec) (md : Md) (a0 : Int) (a1 : Value) (h0 : Heap) : F3H rc md (fun t h => J3_0 rc md h0 (t 0) (t 4) (t 5) (t 7) (t 44) (t 45) (t 46) h) a0 a1 h0 = F3 rc md a0 a1 h0 := by unfold F3H F3; kernel_rfl
theorem F3_eq0 (rc : Rec) (md : Md) (a0 : Int) (a1 : Value) (h0 : Heap) : callStep0 Try.prog cfg rc md 3 [(.int .i64 a0), a1] h0 = F3 rc ⟨md.ro, h0.length⟩ a0 a1 h0 := by
  rw [F3_h0, exec_holes [([1, 1, 1, 1, 1, 1, 0, 1, 0], 0), ([1, 1, 1, 1, 1, 1, 1, 0, 1, 0], 1), ([1, 1, 1, 1, 1, 1, 1], 2)] (by kernel_rfl), F3_h1, show (goX Try.prog cfg rc ⟨md.ro, h0.length⟩ 116 (bodyOf Try.prog 3) [([1, 1, 1, 1, 1, 1, 0, 1, 0], 0), ([1, 1, 1, 1, 1, 1, 1, 0, 1, 0], 1), ([1, 1, 1, 1, 1, 1, 1], 2)] (retK Try.prog cfg 3 (rsOf Try.prog 3) h0)) 0 = _ from J3_0_cut rc ⟨md.ro, h0.length⟩ h0]
  exact F3_h2 rc _ a0 a1 h0
theorem F3_eq (rc : Rec) (md : Md) (a0 : Int) (a1 : Value) (h0 : Heap) : callStep Try.prog cfg rc md 3 [(.int .i64 a0), a1] h0 = F3 rc ⟨md.ro, h0.length⟩ a0 a1 h0 := (callStep_ne (by kernel_rfl)).trans (F3_eq0 rc md a0 a1 h0)

/-- tombolo/tombololaw24.GraphParts -/
noncomputable def Jk4_8 (rc : Rec) (md : Md) (h0 : Heap) (e : Exit) (s4 : Value) (s199 : Value) (s200 : Value) (s201 : Value) (h : Heap) : Option (Value × Heap) :=
  match e with
  | .normal =>
    cl (rc md 10 [] h) fun v1 h2 =>
    cBn v1 fun b3 =>
    some ((.bool b3), List.take h0.length h2)
  | .exit j =>
    bif Nat.beq j 16 then
      cl (rc md 10 [] h) fun v4 h5 =>
      cBn v4 fun b6 =>
      some ((.bool b6), List.take h0.length h5)
    else
      none
  | .ret =>
    fin1 h0 s4 h
  | .goto l => none
  | .panic ps => none
  | .outgrown => none
theorem Jk4_8_at (rc : Rec) (md : Md) (h0 : Heap) (e : Exit) (t : T) (h : Heap) : kAt Try.prog cfg rc md 209 (bodyOf Try.prog 4) [1, 1, 1, 1, 1, 1, 1, 1, 1, 1, 1, 1, 1, 1, 0, 1, 0] (retK Try.prog cfg 4 (rsOf Try.prog 4) h0) e t h = Jk4_8 rc md h0 e (t 4) (t 199) (t 200) (t 201) h := by cases e <;> kernel_rfl
/-- a round -/
noncomputable def Jr4_8 (rc : Rec) (md : Md) (s4 : Value) (s199 : Value) (s200 : Value) (s201 : Value) (h : Heap) : Option (((Value × Value × Value × Value) × Heap) ⊕ (Exit × (Value × Value × Value × Value) × Heap)) :=
  aBin Try.prog .lss 3 s201 s200 fun v1 =>
  cBn v1 fun b2 =>
  bif b2 then
    ixSV 1 s199 s201 fun v3 =>
    ld1 v3 h fun v4 =>
    cIn .i64 v4 fun n5 =>
    bif (n5 != 1) then
      some (.inr (.ret, ((.bool false), s199, s200, s201), h))
    else
      aBin Try.prog .add 3 s201 (.int .i64 1) fun v6 =>
      some (.inl ((s4, s199, s200, v6), h))
  else
    some (.inr ((.exit 16), (s4, s199, s200, s201), h))
theorem Jr4_8_at (rc : Rec) (md : Md) (t : T) (h : Heap) : exec Try.prog cfg rc md 209 (sub (bodyOf Try.prog 4) [1, 1, 1, 1, 1, 1, 1, 1, 1, 1, 1, 1, 1, 1, 0, 1, 0, 0]) (rndK (fun t => (t 4, t 199, t 200, t 201))) t h = Jr4_8 rc md (t 4) (t 199) (t 200) (t 201) h := by kernel_rfl
noncomputable def J4_8 (rc : Rec) (md : Md) (h0 : Heap) (s4 : Value) (s199 : Value) (s200 : Value) (s201 : Value) (h : Heap) : Option (Value × Heap) :=
  runL (fun x : (Value × Value × Value × Value) × Heap => Jr4_8 rc md x.1.1 x.1.2.1 x.1.2.2.1 x.1.2.2.2 x.2) (fun e (s : Value × Value × Value × Value) h => Jk4_8 rc md h0 e s.1 s.2.1 s.2.2.1 s.2.2.2 h) (s4, s199, s200, s201) h
theorem J4_8_step (rc : Rec) (md : Md) (h0 : Heap) (s4 : Value) (s199 : Value) (s200 : Value) (s201 : Value) (h : Heap) : J4_8 rc md h0 s4 s199 s200 s201 h = (Jr4_8 rc md s4 s199 s200 s201 h).bind fun x => match x with
    | .inl (s, h) => J4_8 rc md h0 s.1 s.2.1 s.2.2.1 s.2.2.2 h
    | .inr (e, s, h) => Jk4_8 rc md h0 e s.1 s.2.1 s.2.2.1 s.2.2.2 h := by
  unfold J4_8
  rw [runL_eq]
  refine congrArg (Option.bind _) (funext fun x => ?_)
  rcases x with ⟨s, h⟩ | ⟨e, s, h⟩ <;> rfl
theorem J4_8_cut (rc : Rec) (md : Md) (h0 : Heap) : cut Try.prog cfg rc md 209 (bodyOf Try.prog 4) [1, 1, 1, 1, 1, 1, 1, 1, 1, 1, 1, 1, 1, 1, 0, 1, 0] (retK Try.prog cfg 4 (rsOf Try.prog 4) h0) = fun t h => J4_8 rc md h0 (t 4) (t 199) (t 200) (t 201) h := by
  funext t h
  have e : sub (bodyOf Try.prog 4) [1, 1, 1, 1, 1, 1, 1, 1, 1, 1, 1, 1, 1, 1, 0, 1, 0] = .loop (sub (bodyOf Try.prog 4) [1, 1, 1, 1, 1, 1, 1, 1, 1, 1, 1, 1, 1, 1, 0, 1, 0, 0]) := by kernel_rfl
  unfold cut
  rw [e]
  exact loop_eq (by kernel_rfl) (fun t => (t 4, t 199, t 200, t 201)) (fun x : (Value × Value × Value × Value) × Heap => Jr4_8 rc md x.1.1 x.1.2.1 x.1.2.2.1 x.1.2.2.2 x.2) (fun t h => Jr4_8_at rc md t h) (fun e (s : Value × Value × Value × Value) h => Jk4_8 rc md h0 e s.1 s.2.1 s.2.2.1 s.2.2.2 h) (fun e t h => Jk4_8_at rc md h0 e t h) t h
noncomputable def J4_7 (rc : Rec) (md : Md) (h0 : Heap) (s4 : Value) (s15 : Value) (h : Heap) : Option (Value × Heap) :=
  lenS s15 fun v1 =>
  cIn .i64 v1 fun n2 =>
  J4_8 rc md h0 s4 s15 (.int .i64 n2) (.int .i64 0) h
noncomputable def J4_7H (rc : Rec) (md : Md) (h0 : Heap) (X4 : T → Heap → Option (Value × Heap)) (t : T) (h : Heap) : Option (Value × Heap) :=
  lenS (t 15) fun v1 =>
  cIn .i64 v1 fun n2 =>
  X4 (upd (upd (upd t 199 (t 15)) 200 (.int .i64 n2)) 201 (.int .i64 0)) h
theorem J4_7_h1 (rc : Rec) (md : Md) (h0 : Heap) (X : Nat → T → Heap → Option (Value × Heap)) (t : T) (h : Heap) : execG Try.prog cfg X rc md 209 (sub (replS (bodyOf Try.prog 4) [([1, 1, 1, 1, 1, 0, 1, 0], 0), ([1, 1, 1, 1, 1, 1, 1, 0, 1, 0], 1), ([1, 1, 1, 1, 1, 1, 1, 1, 1, 1, 0, 1, 0], 2), ([1, 1, 1, 1, 1, 1, 1, 1, 1, 1, 1, 1, 1, 0, 1, 0], 3), ([1, 1, 1, 1, 1, 1, 1, 1, 1, 1, 1, 1, 1, 1, 0, 1, 0], 4)]) [1, 1, 1, 1, 1, 1, 1, 1, 1, 1, 1, 1, 1, 1]) (kAtG Try.prog cfg X rc md 209 (replS (bodyOf Try.prog 4) [([1, 1, 1, 1, 1, 0, 1, 0], 0), ([1, 1, 1, 1, 1, 1, 1, 0, 1, 0], 1), ([1, 1, 1, 1, 1, 1, 1, 1, 1, 1, 0, 1, 0], 2), ([1, 1, 1, 1, 1, 1, 1, 1, 1, 1, 1, 1, 1, 0, 1, 0], 3), ([1, 1, 1, 1, 1, 1, 1, 1, 1, 1, 1, 1, 1, 1, 0, 1, 0], 4)]) [1, 1, 1, 1, 1, 1, 1, 1, 1, 1, 1, 1, 1, 1] (retK Try.prog cfg 4 (rsOf Try.prog 4) h0)) t h = J4_7H rc md h0 (X 4) t h := by kernel_rfl
theorem J4_7_h2 (rc : Rec) (md : Md) (h0 : Heap) (t : T) (h : Heap) : J4_7H rc md h0 (fun t h => J4_8 rc md h0 (t 4) (t 199) (t 200) (t 201) h) t h = J4_7 rc md h0 (t 4) (t 15) h := by (unfold J4_7H J4_7; kernel_rfl)
theorem J4_7_at (rc : Rec) (md : Md) (h0 : Heap) (t : T) (h : Heap) : cut Try.prog cfg rc md 209 (bodyOf Try.prog 4) [1, 1, 1, 1, 1, 1, 1, 1, 1, 1, 1, 1, 1, 1] (retK Try.prog cfg 4 (rsOf Try.prog 4) h0) t h = J4_7 rc md h0 (t 4) (t 15) h := by
  rw [cut_holes [([1, 1, 1, 1, 1, 0, 1, 0], 0), ([1, 1, 1, 1, 1, 1, 1, 0, 1, 0], 1), ([1, 1, 1, 1, 1, 1, 1, 1, 1, 1, 0, 1, 0], 2), ([1, 1, 1, 1, 1, 1, 1, 1, 1, 1, 1, 1, 1, 0, 1, 0], 3), ([1, 1, 1, 1, 1, 1, 1, 1, 1, 1, 1, 1, 1, 1, 0, 1, 0], 4)] [1, 1, 1, 1, 1, 1, 1, 1, 1, 1, 1, 1, 1, 1] (by kernel_rfl), J4_7_h1, show (goX Try.prog cfg rc md 209 (bodyOf Try.prog 4) [([1, 1, 1, 1, 1, 0, 1, 0], 0), ([1, 1, 1, 1, 1, 1, 1, 0, 1, 0], 1), ([1, 1, 1, 1, 1, 1, 1, 1, 1, 1, 0, 1, 0], 2), ([1, 1, 1, 1, 1, 1, 1, 1, 1, 1, 1, 1, 1, 0, 1, 0], 3), ([1, 1, 1, 1, 1, 1, 1, 1, 1, 1, 1, 1, 1, 1, 0, 1, 0], 4)] (retK Try.prog cfg 4 (rsOf Try.prog 4) h0)) 4 = _ from J4_8_cut rc md h0]
  exact J4_7_h2 rc md h0 t h
theorem J4_7_cut (rc : Rec) (md : Md) (h0 : Heap) : cut Try.prog cfg rc md 209 (bodyOf Try.prog 4) [1, 1, 1, 1, 1, 1, 1, 1, 1, 1, 1, 1, 1, 1] (retK Try.prog cfg 4 (rsOf Try.prog 4) h0) = fun t h => J4_7 rc md h0 (t 4) (t 15) h := funext fun t => funext fun h => J4_7_at rc md h0 t h
noncomputable def Jk4_6 (rc : Rec) (md : Md) (h0 : Heap) (e : Exit) (s0 : Value) (s4 : Value) (s7 : Value) (s15 : Value) (s16 : Value) (s112 : Value) (s113 : Value) (s114 : Value) (h : Heap) : Option (Value × Heap) :=
  match e with
  | .normal =>
    J4_7 rc md h0 s4 s15 h
  | .exit j =>
    bif Nat.beq j 8 then
      J4_7 rc md h0 s4 s15 h
    else
      none
  | .ret =>
    fin1 h0 s4 h
  | .goto l => none
  | .panic ps => none
  | .outgrown => none
noncomputable def Jk4_6H (rc : Rec) (md : Md) (h0 : Heap) (X5 : T → Heap → Option (Value × Heap)) (e : Exit) (t : T) (h : Heap) : Option (Value × Heap) :=
  match e with
  | .normal =>
    X5 t h
  | .exit j =>
    bif Nat.beq j 8 then
      X5 t h
    else
      none
  | .ret =>
    fin1 h0 (t 4) h
  | .goto l => none
  | .panic ps => none
  | .outgrown => none
theorem Jk4_6_h1 (rc : Rec) (md : Md) (h0 : Heap) (X : Nat → T → Heap → Option (Value × Heap)) (e : Exit) (t : T) (h : Heap) : kAtG Try.prog cfg X rc md 209 (replS (bodyOf Try.prog 4) [([1, 1, 1, 1, 1, 0, 1, 0], 0), ([1, 1, 1, 1, 1, 1, 1, 0, 1, 0], 1), ([1, 1, 1, 1, 1, 1, 1, 1, 1, 1, 0, 1, 0], 2), ([1, 1, 1, 1, 1, 1, 1, 1, 1, 1, 1, 1, 1, 1, 0, 1, 0], 4), ([1, 1, 1, 1, 1, 1, 1, 1, 1, 1, 1, 1, 1, 1], 5)]) [1, 1, 1, 1, 1, 1, 1, 1, 1, 1, 1, 1, 1, 0, 1, 0] (retK Try.prog cfg 4 (rsOf Try.prog 4) h0) e t h = Jk4_6H rc md h0 (X 5) e t h := by cases e <;> kernel_rfl
theorem Jk4_6_h2 (rc : Rec) (md : Md) (h0 : Heap) (e : Exit) (t : T) (h : Heap) : Jk4_6H rc md h0 (fun t h => J4_7 rc md h0 (t 4) (t 15) h) e t h = Jk4_6 rc md h0 e (t 0) (t 4) (t 7) (t 15) (t 16) (t 112) (t 113) (t 114) h := by cases e <;> (unfold Jk4_6H Jk4_6; kernel_rfl)
theorem Jk4_6_at (rc : Rec) (md : Md) (h0 : Heap) (e : Exit) (t : T) (h : Heap) : kAt Try.prog cfg rc md 209 (bodyOf Try.prog 4) [1, 1, 1, 1, 1, 1, 1, 1, 1, 1, 1, 1, 1, 0, 1, 0] (retK Try.prog cfg 4 (rsOf Try.prog 4) h0) e t h = Jk4_6 rc md h0 e (t 0) (t 4) (t 7) (t 15) (t 16) (t 112) (t 113) (t 114) h := by
  rw [kAt_holes [([1, 1, 1, 1, 1, 0, 1, 0], 0), ([1, 1, 1, 1, 1, 1, 1, 0, 1, 0], 1), ([1, 1, 1, 1, 1, 1, 1, 1, 1, 1, 0, 1, 0], 2), ([1, 1, 1, 1, 1, 1, 1, 1, 1, 1, 1, 1, 1, 1, 0, 1, 0], 4), ([1, 1, 1, 1, 1, 1, 1, 1, 1, 1, 1, 1, 1, 1], 5)] [1, 1, 1, 1, 1, 1, 1, 1, 1, 1, 1, 1, 1, 0, 1, 0] (by kernel_rfl), Jk4_6_h1, show (goX Try.prog cfg rc md 209 (bodyOf Try.prog 4) [([1, 1, 1, 1, 1, 0, 1, 0], 0), ([1, 1, 1, 1, 1, 1, 1, 0, 1, 0], 1), ([1, 1, 1, 1, 1, 1, 1, 1, 1, 1, 0, 1, 0], 2), ([1, 1, 1, 1, 1, 1, 1, 1, 1, 1, 1, 1, 1, 1, 0, 1, 0], 4), ([1, 1, 1, 1, 1, 1, 1, 1, 1, 1, 1, 1, 1, 1], 5)] (retK Try.prog cfg 4 (rsOf Try.prog 4) h0)) 5 = _ from J4_7_cut rc md h0]
  exact Jk4_6_h2 rc md h0 e t h
noncomputable def Jk4_6b2 (rc : Rec) (md : Md) (e : Exit) (s0 : Value) (s4 : Value) (s7 : Value) (s15 : Value) (s16 : Value) (s18 : Value) (s112 : Value) (s113 : Value) (s114 : Value) (s173 : Value) (s174 : Value) (h : Heap) : Option (((Value × Value × Value × Value × Value × Value × Value × Value) × Heap) ⊕ (Exit × (Value × Value × Value × Value × Value × Value × Value × Value) × Heap)) :=
  match e with
  | .normal =>
    aBin Try.prog .add 3 s114 (.int .i64 1) fun v1 =>
    some (.inl ((s0, s4, s7, s15, s16, s112, s113, v1), h))
  | .exit j =>
    bif Nat.beq j 12 then
      aBin Try.prog .add 3 s114 (.int .i64 1) fun v2 =>
      some (.inl ((s0, s4, s7, s15, s16, s112, s113, v2), h))
    else
      bif Nat.beq j 9 then
        aBin Try.prog .add 3 s114 (.int .i64 1) fun v3 =>
        some (.inl ((s0, s4, s7, s15, s16, s112, s113, v3), h))
      else
        some (.inr ((.exit j), (s0, s4, s7, s15, s16, s112, s113, s114), h))
  | .ret =>
    some (.inr (.ret, (s0, s4, s7, s15, s16, s112, s113, s114), h))
  | .goto l => some (.inr ((.goto l), (s0, s4, s7, s15, s16, s112, s113, s114), h))
  | .panic ps => some (.inr ((.panic ps), (s0, s4, s7, s15, s16, s112, s113, s114), h))
  | .outgrown => some (.inr (.outgrown, (s0, s4, s7, s15, s16, s112, s113, s114), h))
theorem Jk4_6b2_at (rc : Rec) (md : Md) (e : Exit) (t : T) (h : Heap) : kAt Try.prog cfg rc md 209 (sub (bodyOf Try.prog 4) [1, 1, 1, 1, 1, 1, 1, 1, 1, 1, 1, 1, 1, 0, 1, 0, 0]) [1, 1, 0, 0, 1, 1, 1, 1, 1, 0] (rndK (fun t => (t 0, t 4, t 7, t 15, t 16, t 112, t 113, t 114))) e t h = Jk4_6b2 rc md e (t 0) (t 4) (t 7) (t 15) (t 16) (t 18) (t 112) (t 113) (t 114) (t 173) (t 174) h := by cases e <;> kernel_rfl
noncomputable def J4_6b2b1 (rc : Rec) (md : Md) (s0 : Value) (s4 : Value) (s7 : Value) (s15 : Value) (s16 : Value) (s18 : Value) (s21 : Value) (s22 : Value) (s112 : Value) (s113 : Value) (s114 : Value) (s173 : Value) (s174 : Value) (h : Heap) : Option (((Value × Value × Value × Value × Value × Value × Value × Value × Value × Value × Value) × Heap) ⊕ (Exit × (Value × Value × Value × Value × Value × Value × Value × Value × Value × Value × Value) × Heap)) :=
  cl (rc md 15 [s7, s16, s21, s0] h) fun v1 h2 =>
  cBn v1 fun b3 =>
  aBin Try.prog .neq 4 s22 (.bool b3) fun v4 =>
  cBn v4 fun b5 =>
  bif b5 then
    some (.inr (.ret, (s0, (.bool false), s7, s15, s16, s18, s112, s113, s114, s173, s174), h2))
  else
    aBin Try.prog .add 3 s174 (.int .i64 1) fun v6 =>
    some (.inl ((s0, s4, s7, s15, s16, s18, s112, s113, s114, s173, v6), h2))
theorem J4_6b2b1_at (rc : Rec) (md : Md) (t : T) (h : Heap) : cut Try.prog cfg rc md 209 (sub (bodyOf Try.prog 4) [1, 1, 1, 1, 1, 1, 1, 1, 1, 1, 1, 1, 1, 0, 1, 0, 0, 1, 1, 0, 0, 1, 1, 1, 1, 1, 0, 0]) [1, 1, 0, 0, 1, 1, 1] (rndK (fun t => (t 0, t 4, t 7, t 15, t 16, t 18, t 112, t 113, t 114, t 173, t 174))) t h = J4_6b2b1 rc md (t 0) (t 4) (t 7) (t 15) (t 16) (t 18) (t 21) (t 22) (t 112) (t 113) (t 114) (t 173) (t 174) h := by kernel_rfl
theorem J4_6b2b1_cut (rc : Rec) (md : Md) : cut Try.prog cfg rc md 209 (sub (bodyOf Try.prog 4) [1, 1, 1, 1, 1, 1, 1, 1, 1, 1, 1, 1, 1, 0, 1, 0, 0, 1, 1, 0, 0, 1, 1, 1, 1, 1, 0, 0]) [1, 1, 0, 0, 1, 1, 1] (rndK (fun t => (t 0, t 4, t 7, t 15, t 16, t 18, t 112, t 113, t 114, t 173, t 174))) = fun t h => J4_6b2b1 rc md (t 0) (t 4) (t 7) (t 15) (t 16) (t 18) (t 21) (t 22) (t 112) (t 113) (t 114) (t 173) (t 174) h := funext fun t => funext fun h => J4_6b2b1_at rc md t h
noncomputable def Jk4_6b2b0 (rc : Rec) (md : Md) (e : Exit) (s0 : Value) (s4 : Value) (s7 : Value) (s15 : Value) (s16 : Value) (s18 : Value) (s21 : Value) (s22 : Value) (s112 : Value) (s113 : Value) (s114 : Value) (s173 : Value) (s174 : Value) (s177 : Value) (s178 : Value) (s179 : Value) (h : Heap) : Option (((Value × Value × Value × Value × Value × Value × Value × Value × Value × Value × Value) × Heap) ⊕ (Exit × (Value × Value × Value × Value × Value × Value × Value × Value × Value × Value × Value) × Heap)) :=
  match e with
  | .normal =>
    J4_6b2b1 rc md s0 s4 s7 s15 s16 s18 s21 s22 s112 s113 s114 s173 s174 h
  | .exit j =>
    bif Nat.beq j 14 then
      J4_6b2b1 rc md s0 s4 s7 s15 s16 s18 s21 s22 s112 s113 s114 s173 s174 h
    else
      bif Nat.beq j 13 then
        aBin Try.prog .add 3 s174 (.int .i64 1) fun v1 =>
        some (.inl ((s0, s4, s7, s15, s16, s18, s112, s113, s114, s173, v1), h))
      else
        some (.inr ((.exit j), (s0, s4, s7, s15, s16, s18, s112, s113, s114, s173, s174), h))
  | .ret =>
    some (.inr (.ret, (s0, s4, s7, s15, s16, s18, s112, s113, s114, s173, s174), h))
  | .goto l => some (.inr ((.goto l), (s0, s4, s7, s15, s16, s18, s112, s113, s114, s173, s174), h))
  | .panic ps => some (.inr ((.panic ps), (s0, s4, s7, s15, s16, s18, s112, s113, s114, s173, s174), h))
  | .outgrown => some (.inr (.outgrown, (s0, s4, s7, s15, s16, s18, s112, s113, s114, s173, s174), h))
noncomputable def Jk4_6b2b0H (rc : Rec) (md : Md) (X1 : T → Heap → Option (((Value × Value × Value × Value × Value × Value × Value × Value × Value × Value × Value) × Heap) ⊕ (Exit × (Value × Value × Value × Value × Value × Value × Value × Value × Value × Value × Value) × Heap))) (e : Exit) (t : T) (h : Heap) : Option (((Value × Value × Value × Value × Value × Value × Value × Value × Value × Value × Value) × Heap) ⊕ (Exit × (Value × Value × Value × Value × Value × Value × Value × Value × Value × Value × Value) × Heap)) :=
  match e with
  | .normal =>
    X1 t h
  | .exit j =>
    bif Nat.beq j 14 then
      X1 t h
    else
      bif Nat.beq j 13 then
        aBin Try.prog .add 3 (t 174) (.int .i64 1) fun v1 =>
        some (.inl (((t 0), (t 4), (t 7), (t 15), (t 16), (t 18), (t 112), (t 113), (t 114), (t 173), v1), h))
      else
        some (.inr ((.exit j), ((t 0), (t 4), (t 7), (t 15), (t 16), (t 18), (t 112), (t 113), (t 114), (t 173), (t 174)), h))
  | .ret =>
    some (.inr (.ret, ((t 0), (t 4), (t 7), (t 15), (t 16), (t 18), (t 112), (t 113), (t 114), (t 173), (t 174)), h))
  | .goto l => some (.inr ((.goto l), ((t 0), (t 4), (t 7), (t 15), (t 16), (t 18), (t 112), (t 113), (t 114), (t 173), (t 174)), h))
  | .panic ps => some (.inr ((.panic ps), ((t 0), (t 4), (t 7), (t 15), (t 16), (t 18), (t 112), (t 113), (t 114), (t 173), (t 174)), h))
  | .outgrown => some (.inr (.outgrown, ((t 0), (t 4), (t 7), (t 15), (t 16), (t 18), (t 112), (t 113), (t 114), (t 173), (t 174)), h))
theorem Jk4_6b2b0_h1 (rc : Rec) (md : Md) (X : Nat → T → Heap → Option (((Value × Value × Value × Value × Value × Value × Value × Value × Value × Value × Value) × Heap) ⊕ (Exit × (Value × Value × Value × Value × Value × Value × Value × Value × Value × Value × Value) × Heap))) (e : Exit) (t : T) (h : Heap) : kAtG Try.prog cfg X rc md 209 (replS (sub (bodyOf Try.prog 4) [1, 1, 1, 1, 1, 1, 1, 1, 1, 1, 1, 1, 1, 0, 1, 0, 0, 1, 1, 0, 0, 1, 1, 1, 1, 1, 0, 0]) [([1, 1, 0, 0, 1, 1, 1], 1)]) [1, 1, 0, 0, 1, 1, 0, 1, 0] (rndK (fun t => (t 0, t 4, t 7, t 15, t 16, t 18, t 112, t 113, t 114, t 173, t 174))) e t h = Jk4_6b2b0H rc md (X 1) e t h := by cases e <;> kernel_rfl
theorem Jk4_6b2b0_h2 (rc : Rec) (md : Md) (e : Exit) (t : T) (h : Heap) : Jk4_6b2b0H rc md (fun t h => J4_6b2b1 rc md (t 0) (t 4) (t 7) (t 15) (t 16) (t 18) (t 21) (t 22) (t 112) (t 113) (t 114) (t 173) (t 174) h) e t h = Jk4_6b2b0 rc md e (t 0) (t 4) (t 7) (t 15) (t 16) (t 18) (t 21) (t 22) (t 112) (t 113) (t 114) (t 173) (t 174) (t 177) (t 178) (t 179) h := by cases e <;> (unfold Jk4_6b2b0H Jk4_6b2b0; kernel_rfl)
theorem Jk4_6b2b0_at (rc : Rec) (md : Md) (e : Exit) (t : T) (h : Heap) : kAt Try.prog cfg rc md 209 (sub (bodyOf Try.prog 4) [1, 1, 1, 1, 1, 1, 1, 1, 1, 1, 1, 1, 1, 0, 1, 0, 0, 1, 1, 0, 0, 1, 1, 1, 1, 1, 0, 0]) [1, 1, 0, 0, 1, 1, 0, 1, 0] (rndK (fun t => (t 0, t 4, t 7, t 15, t 16, t 18, t 112, t 113, t 114, t 173, t 174))) e t h = Jk4_6b2b0 rc md e (t 0) (t 4) (t 7) (t 15) (t 16) (t 18) (t 21) (t 22) (t 112) (t 113) (t 114) (t 173) (t 174) (t 177) (t 178) (t 179) h := by
  rw [kAt_holes [([1, 1, 0, 0, 1, 1, 1], 1)] [1, 1, 0, 0, 1, 1, 0, 1, 0] (by kernel_rfl), Jk4_6b2b0_h1, show (goX Try.prog cfg rc md 209 (sub (bodyOf Try.prog 4) [1, 1, 1, 1, 1, 1, 1, 1, 1, 1, 1, 1, 1, 0, 1, 0, 0, 1, 1, 0, 0, 1, 1, 1, 1, 1, 0, 0]) [([1, 1, 0, 0, 1, 1, 1], 1)] (rndK (fun t => (t 0, t 4, t 7, t 15, t 16, t 18, t 112, t 113, t 114, t 173, t 174)))) 1 = _ from J4_6b2b1_cut rc md]
  exact Jk4_6b2b0_h2 rc md e t h
/-- a round -/
noncomputable def Jr4_6b2b0 (rc : Rec) (md : Md) (s0 : Value) (s4 : Value) (s7 : Value) (s15 : Value) (s16 : Value) (s18 : Value) (s21 : Value) (s22 : Value) (s112 : Value) (s113 : Value) (s114 : Value) (s173 : Value) (s174 : Value) (s177 : Value) (s178 : Value) (s179 : Value) (h : Heap) : Option (((Value × Value × Value × Value × Value × Value × Value × Value × Value × Value × Value × Value × Value × Value × Value × Value) × Heap) ⊕ (Exit × (Value × Value × Value × Value × Value × Value × Value × Value × Value × Value × Value × Value × Value × Value × Value × Value) × Heap)) :=
  aBin Try.prog .lss 3 s179 s178 fun v1 =>
  cBn v1 fun b2 =>
  bif b2 then
    ixSV 1 s177 s179 fun v3 =>
    ld1 v3 h fun v4 =>
    cIn .i64 v4 fun n5 =>
    (bif wantV s22 false then
    some (s21, h)
    else some (undef, h)).bind fun p6 =>
    (bif wantV s22 false then
    some ((.int .i64 n5), p6.2)
    else some (undef, p6.2)).bind fun p7 =>
    (bif wantV s22 false then
    aBin Try.prog .eql 3 p6.1 p7.1 fun v8 =>
    some (v8, p7.2)
    else some (undef, p7.2)).bind fun p9 =>
    cBn s22 fun q10 =>
    cBn (bif q10 then (.bool true) else p9.1) fun b11 =>
    aBin Try.prog .add 3 s179 (.int .i64 1) fun v12 =>
    some (.inl ((s0, s4, s7, s15, s16, s18, s21, (.bool b11), s112, s113, s114, s173, s174, s177, s178, v12), p9.2))
  else
    some (.inr ((.exit 14), (s0, s4, s7, s15, s16, s18, s21, s22, s112, s113, s114, s173, s174, s177, s178, s179), h))
theorem Jr4_6b2b0_at (rc : Rec) (md : Md) (t : T) (h : Heap) : exec Try.prog cfg rc md 209 (sub (bodyOf Try.prog 4) [1, 1, 1, 1, 1, 1, 1, 1, 1, 1, 1, 1, 1, 0, 1, 0, 0, 1, 1, 0, 0, 1, 1, 1, 1, 1, 0, 0, 1, 1, 0, 0, 1, 1, 0, 1, 0, 0]) (rndK (fun t => (t 0, t 4, t 7, t 15, t 16, t 18, t 21, t 22, t 112, t 113, t 114, t 173, t 174, t 177, t 178, t 179))) t h = Jr4_6b2b0 rc md (t 0) (t 4) (t 7) (t 15) (t 16) (t 18) (t 21) (t 22) (t 112) (t 113) (t 114) (t 173) (t 174) (t 177) (t 178) (t 179) h := by kernel_rfl
noncomputable def J4_6b2b0 (rc : Rec) (md : Md) (s0 : Value) (s4 : Value) (s7 : Value) (s15 : Value) (s16 : Value) (s18 : Value) (s21 : Value) (s22 : Value) (s112 : Value) (s113 : Value) (s114 : Value) (s173 : Value) (s174 : Value) (s177 : Value) (s178 : Value) (s179 : Value) (h : Heap) : Option (((Value × Value × Value × Value × Value × Value × Value × Value × Value × Value × Value) × Heap) ⊕ (Exit × (Value × Value × Value × Value × Value × Value × Value × Value × Value × Value × Value) × Heap)) :=
  runL (fun x : (Value × Value × Value × Value × Value × Value × Value × Value × Value × Value × Value × Value × Value × Value × Value × Value) × Heap => Jr4_6b2b0 rc md x.1.1 x.1.2.1 x.1.2.2.1 x.1.2.2.2.1 x.1.2.2.2.2.1 x.1.2.2.2.2.2.1 x.1.2.2.2.2.2.2.1 x.1.2.2.2.2.2.2.2.1 x.1.2.2.2.2.2.2.2.2.1 x.1.2.2.2.2.2.2.2.2.2.1 x.1.2.2.2.2.2.2.2.2.2.2.1 x.1.2.2.2.2.2.2.2.2.2.2.2.1 x.1.2.2.2.2.2.2.2.2.2.2.2.2.1 x.1.2.2.2.2.2.2.2.2.2.2.2.2.2.1 x.1.2.2.2.2.2.2.2.2.2.2.2.2.2.2.1 x.1.2.2.2.2.2.2.2.2.2.2.2.2.2.2.2 x.2) (fun e (s : Value × Value × Value × Value × Value × Value × Value × Value × Value × Value × Value × Value × Value × Value × Value × Value) h => Jk4_6b2b0 rc md e s.1 s.2.1 s.2.2.1 s.2.2.2.1 s.2.2.2.2.1 s.2.2.2.2.2.1 s.2.2.2.2.2.2.1 s.2.2.2.2.2.2.2.1 s.2.2.2.2.2.2.2.2.1 s.2.2.2.2.2.2.2.2.2.1 s.2.2.2.2.2.2.2.2.2.2.1 s.2.2.2.2.2.2.2.2.2.2.2.1 s.2.2.2.2.2.2.2.2.2.2.2.2.1 s.2.2.2.2.2.2.2.2.2.2.2.2.2.1 s.2.2.2.2.2.2.2.2.2.2.2.2.2.2.1 s.2.2.2.2.2.2.2.2.2.2.2.2.2.2.2 h) (s0, s4, s7, s15, s16, s18, s21, s22, s112, s113, s114, s173, s174, s177, s178, s179) h
theorem J4_6b2b0_step (rc : Rec) (md : Md) (s0 : Value) (s4 : Value) (s7 : Value) (s15 : Value) (s16 : Value) (s18 : Value) (s21 : Value) (s22 : Value) (s112 : Value) (s113 : Value) (s114 : Value) (s173 : Value) (s174 : Value) (s177 : Value) (s178 : Value) (s179 : Value) (h : Heap) : J4_6b2b0 rc md s0 s4 s7 s15 s16 s18 s21 s22 s112 s113 s114 s173 s174 s177 s178 s179 h = (Jr4_6b2b0 rc md s0 s4 s7 s15 s16 s18 s21 s22 s112 s113 s114 s173 s174 s177 s178 s179 h).bind fun x => match x with
    | .inl (s, h) => J4_6b2b0 rc md s.1 s.2.1 s.2.2.1 s.2.2.2.1 s.2.2.2.2.1 s.2.2.2.2.2.1 s.2.2.2.2.2.2.1 s.2.2.2.2.2.2.2.1 s.2.2.2.2.2.2.2.2.1 s.2.2.2.2.2.2.2.2.2.1 s.2.2.2.2.2.2.2.2.2.2.1 s.2.2.2.2.2.2.2.2.2.2.2.1 s.2.2.2.2.2.2.2.2.2.2.2.2.1 s.2.2.2.2.2.2.2.2.2.2.2.2.2.1 s.2.2.2.2.2.2.2.2.2.2.2.2.2.2.1 s.2.2.2.2.2.2.2.2.2.2.2.2.2.2.2 h
    | .inr (e, s, h) => Jk4_6b2b0 rc md e s.1 s.2.1 s.2.2.1 s.2.2.2.1 s.2.2.2.2.1 s.2.2.2.2.2.1 s.2.2.2.2.2.2.1 s.2.2.2.2.2.2.2.1 s.2.2.2.2.2.2.2.2.1 s.2.2.2.2.2.2.2.2.2.1 s.2.2.2.2.2.2.2.2.2.2.1 s.2.2.2.2.2.2.2.2.2.2.2.1 s.2.2.2.2.2.2.2.2.2.2.2.2.1 s.2.2.2.2.2.2.2.2.2.2.2.2.2.1 s.2.2.2.2.2.2.2.2.2.2.2.2.2.2.1 s.2.2.2.2.2.2.2.2.2.2.2.2.2.2.2 h := by
  unfold J4_6b2b0
  rw [runL_eq]
  refine congrArg (Option.bind _) (funext fun x => ?_)
  rcases x with ⟨s, h⟩ | ⟨e, s, h⟩ <;> rfl
theorem J4_6b2b0_cut (rc : Rec) (md : Md) : cut Try.prog cfg rc md 209 (sub (bodyOf Try.prog 4) [1, 1, 1, 1, 1, 1, 1, 1, 1, 1, 1, 1, 1, 0, 1, 0, 0, 1, 1, 0, 0, 1, 1, 1, 1, 1, 0, 0]) [1, 1, 0, 0, 1, 1, 0, 1, 0] (rndK (fun t => (t 0, t 4, t 7, t 15, t 16, t 18, t 112, t 113, t 114, t 173, t 174))) = fun t h => J4_6b2b0 rc md (t 0) (t 4) (t 7) (t 15) (t 16) (t 18) (t 21) (t 22) (t 112) (t 113) (t 114) (t 173) (t 174) (t 177) (t 178) (t 179) h := by
  funext t h
  have e : sub (sub (bodyOf Try.prog 4) [1, 1, 1, 1, 1, 1, 1, 1, 1, 1, 1, 1, 1, 0, 1, 0, 0, 1, 1, 0, 0, 1, 1, 1, 1, 1, 0, 0]) [1, 1, 0, 0, 1, 1, 0, 1, 0] = .loop (sub (bodyOf Try.prog 4) [1, 1, 1, 1, 1, 1, 1, 1, 1, 1, 1, 1, 1, 0, 1, 0, 0, 1, 1, 0, 0, 1, 1, 1, 1, 1, 0, 0, 1, 1, 0, 0, 1, 1, 0, 1, 0, 0]) := by kernel_rfl
  unfold cut
  rw [e]
  exact loop_eq (by kernel_rfl) (fun t => (t 0, t 4, t 7, t 15, t 16, t 18, t 21, t 22, t 112, t 113, t 114, t 173, t 174, t 177, t 178, t 179)) (fun x : (Value × Value × Value × Value × Value × Value × Value × Value × Value × Value × Value × Value × Value × Value × Value × Value) × Heap => Jr4_6b2b0 rc md x.1.1 x.1.2.1 x.1.2.2.1 x.1.2.2.2.1 x.1.2.2.2.2.1 x.1.2.2.2.2.2.1 x.1.2.2.2.2.2.2.1 x.1.2.2.2.2.2.2.2.1 x.1.2.2.2.2.2.2.2.2.1 x.1.2.2.2.2.2.2.2.2.2.1 x.1.2.2.2.2.2.2.2.2.2.2.1 x.1.2.2.2.2.2.2.2.2.2.2.2.1 x.1.2.2.2.2.2.2.2.2.2.2.2.2.1 x.1.2.2.2.2.2.2.2.2.2.2.2.2.2.1 x.1.2.2.2.2.2.2.2.2.2.2.2.2.2.2.1 x.1.2.2.2.2.2.2.2.2.2.2.2.2.2.2.2 x.2) (fun t h => Jr4_6b2b0_at rc md t h) (fun e (s : Value × Value × Value × Value × Value × Value × Value × Value × Value × Value × Value × Value × Value × Value × Value × Value) h => Jk4_6b2b0 rc md e s.1 s.2.1 s.2.2.1 s.2.2.2.1 s.2.2.2.2.1 s.2.2.2.2.2.1 s.2.2.2.2.2.2.1 s.2.2.2.2.2.2.2.1 s.2.2.2.2.2.2.2.2.1 s.2.2.2.2.2.2.2.2.2.1 s.2.2.2.2.2.2.2.2.2.2.1 s.2.2.2.2.2.2.2.2.2.2.2.1 s.2.2.2.2.2.2.2.2.2.2.2.2.1 s.2.2.2.2.2.2.2.2.2.2.2.2.2.1 s.2.2.2.2.2.2.2.2.2.2.2.2.2.2.1 s.2.2.2.2.2.2.2.2.2.2.2.2.2.2.2 h) (fun e t h => Jk4_6b2b0_at rc md e t h) t h
/-- a round -/
noncomputable def Jr4_6b2 (rc : Rec) (md : Md) (s0 : Value) (s4 : Value) (s7 : Value) (s15 : Value) (s16 : Value) (s18 : Value) (s112 : Value) (s113 : Value) (s114 : Value) (s173 : Value) (s174 : Value) (h : Heap) : Option (((Value × Value × Value × Value × Value × Value × Value × Value × Value × Value × Value) × Heap) ⊕ (Exit × (Value × Value × Value × Value × Value × Value × Value × Value × Value × Value × Value) × Heap)) :=
  aBin Try.prog .lss 3 s174 s173 fun v1 =>
  cBn v1 fun b2 =>
  bif b2 then
    lenS s18 fun v3 =>
    cIn .i64 v3 fun n4 =>
    J4_6b2b0 rc md s0 s4 s7 s15 s16 s18 s174 (.bool false) s112 s113 s114 s173 s174 s18 (.int .i64 n4) (.int .i64 0) h
  else
    some (.inr ((.exit 12), (s0, s4, s7, s15, s16, s18, s112, s113, s114, s173, s174), h))
noncomputable def Jr4_6b2H (rc : Rec) (md : Md) (X0 : T → Heap → Option (((Value × Value × Value × Value × Value × Value × Value × Value × Value × Value × Value) × Heap) ⊕ (Exit × (Value × Value × Value × Value × Value × Value × Value × Value × Value × Value × Value) × Heap))) (t : T) (h : Heap) : Option (((Value × Value × Value × Value × Value × Value × Value × Value × Value × Value × Value) × Heap) ⊕ (Exit × (Value × Value × Value × Value × Value × Value × Value × Value × Value × Value × Value) × Heap)) :=
  aBin Try.prog .lss 3 (t 174) (t 173) fun v1 =>
  cBn v1 fun b2 =>
  bif b2 then
    lenS (t 18) fun v3 =>
    cIn .i64 v3 fun n4 =>
    X0 (upd (upd (upd (upd (upd (upd (upd t 175 v1) 176 (t 174)) 21 (t 174)) 22 (.bool false)) 177 (t 18)) 178 (.int .i64 n4)) 179 (.int .i64 0)) h
  else
    some (.inr ((.exit 12), ((t 0), (t 4), (t 7), (t 15), (t 16), (t 18), (t 112), (t 113), (t 114), (t 173), (t 174)), h))
theorem Jr4_6b2_h1 (rc : Rec) (md : Md) (X : Nat → T → Heap → Option (((Value × Value × Value × Value × Value × Value × Value × Value × Value × Value × Value) × Heap) ⊕ (Exit × (Value × Value × Value × Value × Value × Value × Value × Value × Value × Value × Value) × Heap))) (t : T) (h : Heap) : execG Try.prog cfg X rc md 209 (replS (sub (bodyOf Try.prog 4) [1, 1, 1, 1, 1, 1, 1, 1, 1, 1, 1, 1, 1, 0, 1, 0, 0, 1, 1, 0, 0, 1, 1, 1, 1, 1, 0, 0]) [([1, 1, 0, 0, 1, 1, 0, 1, 0], 0), ([1, 1, 0, 0, 1, 1, 1], 1)]) (rndK (fun t => (t 0, t 4, t 7, t 15, t 16, t 18, t 112, t 113, t 114, t 173, t 174))) t h = Jr4_6b2H rc md (X 0) t h := by kernel_rfl
theorem Jr4_6b2_h2 (rc : Rec) (md : Md) (t : T) (h : Heap) : Jr4_6b2H rc md (fun t h => J4_6b2b0 rc md (t 0) (t 4) (t 7) (t 15) (t 16) (t 18) (t 21) (t 22) (t 112) (t 113) (t 114) (t 173) (t 174) (t 177) (t 178) (t 179) h) t h = Jr4_6b2 rc md (t 0) (t 4) (t 7) (t 15) (t 16) (t 18) (t 112) (t 113) (t 114) (t 173) (t 174) h := by unfold Jr4_6b2H Jr4_6b2; kernel_rfl
theorem Jr4_6b2_at (rc : Rec) (md : Md) (t : T) (h : Heap) : exec Try.prog cfg rc md 209 (sub (bodyOf Try.prog 4) [1, 1, 1, 1, 1, 1, 1, 1, 1, 1, 1, 1, 1, 0, 1, 0, 0, 1, 1, 0, 0, 1, 1, 1, 1, 1, 0, 0]) (rndK (fun t => (t 0, t 4, t 7, t 15, t 16, t 18, t 112, t 113, t 114, t 173, t 174))) t h = Jr4_6b2 rc md (t 0) (t 4) (t 7) (t 15) (t 16) (t 18) (t 112) (t 113) (t 114) (t 173) (t 174) h := by
  rw [exec_holes [([1, 1, 0, 0, 1, 1, 0, 1, 0], 0), ([1, 1, 0, 0, 1, 1, 1], 1)] (by kernel_rfl), Jr4_6b2_h1, show (goX Try.prog cfg rc md 209 (sub (bodyOf Try.prog 4) [1, 1, 1, 1, 1, 1, 1, 1, 1, 1, 1, 1, 1, 0, 1, 0, 0, 1, 1, 0, 0, 1, 1, 1, 1, 1, 0, 0]) [([1, 1, 0, 0, 1, 1, 0, 1, 0], 0), ([1, 1, 0, 0, 1, 1, 1], 1)] (rndK (fun t => (t 0, t 4, t 7, t 15, t 16, t 18, t 112, t 113, t 114, t 173, t 174)))) 0 = _ from J4_6b2b0_cut rc md]
  exact Jr4_6b2_h2 rc md t h
noncomputable def J4_6b2 (rc : Rec) (md : Md) (s0 : Value) (s4 : Value) (s7 : Value) (s15 : Value) (s16 : Value) (s18 : Value) (s112 : Value) (s113 : Value) (s114 : Value) (s173 : Value) (s174 : Value) (h : Heap) : Option (((Value × Value × Value × Value × Value × Value × Value × Value) × Heap) ⊕ (Exit × (Value × Value × Value × Value × Value × Value × Value × Value) × Heap)) :=
  runL (fun x : (Value × Value × Value × Value × Value × Value × Value × Value × Value × Value × Value) × Heap => Jr4_6b2 rc md x.1.1 x.1.2.1 x.1.2.2.1 x.1.2.2.2.1 x.1.2.2.2.2.1 x.1.2.2.2.2.2.1 x.1.2.2.2.2.2.2.1 x.1.2.2.2.2.2.2.2.1 x.1.2.2.2.2.2.2.2.2.1 x.1.2.2.2.2.2.2.2.2.2.1 x.1.2.2.2.2.2.2.2.2.2.2 x.2) (fun e (s : Value × Value × Value × Value × Value × Value × Value × Value × Value × Value × Value) h => Jk4_6b2 rc md e s.1 s.2.1 s.2.2.1 s.2.2.2.1 s.2.2.2.2.1 s.2.2.2.2.2.1 s.2.2.2.2.2.2.1 s.2.2.2.2.2.2.2.1 s.2.2.2.2.2.2.2.2.1 s.2.2.2.2.2.2.2.2.2.1 s.2.2.2.2.2.2.2.2.2.2 h) (s0, s4, s7, s15, s16, s18, s112, s113, s114, s173, s174) h
theorem J4_6b2_step (rc : Rec) (md : Md) (s0 : Value) (s4 : Value) (s7 : Value) (s15 : Value) (s16 : Value) (s18 : Value) (s112 : Value) (s113 : Value) (s114 : Value) (s173 : Value) (s174 : Value) (h : Heap) : J4_6b2 rc md s0 s4 s7 s15 s16 s18 s112 s113 s114 s173 s174 h = (Jr4_6b2 rc md s0 s4 s7 s15 s16 s18 s112 s113 s114 s173 s174 h).bind fun x => match x with
    | .inl (s, h) => J4_6b2 rc md s.1 s.2.1 s.2.2.1 s.2.2.2.1 s.2.2.2.2.1 s.2.2.2.2.2.1 s.2.2.2.2.2.2.1 s.2.2.2.2.2.2.2.1 s.2.2.2.2.2.2.2.2.1 s.2.2.2.2.2.2.2.2.2.1 s.2.2.2.2.2.2.2.2.2.2 h
    | .inr (e, s, h) => Jk4_6b2 rc md e s.1 s.2.1 s.2.2.1 s.2.2.2.1 s.2.2.2.2.1 s.2.2.2.2.2.1 s.2.2.2.2.2.2.1 s.2.2.2.2.2.2.2.1 s.2.2.2.2.2.2.2.2.1 s.2.2.2.2.2.2.2.2.2.1 s.2.2.2.2.2.2.2.2.2.2 h := by
  unfold J4_6b2
  rw [runL_eq]
  refine congrArg (Option.bind _) (funext fun x => ?_)
  rcases x with ⟨s, h⟩ | ⟨e, s, h⟩ <;> rfl
theorem J4_6b2_cut (rc : Rec) (md : Md) : cut Try.prog cfg rc md 209 (sub (bodyOf Try.prog 4) [1, 1, 1, 1, 1, 1, 1, 1, 1, 1, 1, 1, 1, 0, 1, 0, 0]) [1, 1, 0, 0, 1, 1, 1, 1, 1, 0] (rndK (fun t => (t 0, t 4, t 7, t 15, t 16, t 112, t 113, t 114))) = fun t h => J4_6b2 rc md (t 0) (t 4) (t 7) (t 15) (t 16) (t 18) (t 112) (t 113) (t 114) (t 173) (t 174) h := by
  funext t h
  have e : sub (sub (bodyOf Try.prog 4) [1, 1, 1, 1, 1, 1, 1, 1, 1, 1, 1, 1, 1, 0, 1, 0, 0]) [1, 1, 0, 0, 1, 1, 1, 1, 1, 0] = .loop (sub (bodyOf Try.prog 4) [1, 1, 1, 1, 1, 1, 1, 1, 1, 1, 1, 1, 1, 0, 1, 0, 0, 1, 1, 0, 0, 1, 1, 1, 1, 1, 0, 0]) := by kernel_rfl
  unfold cut
  rw [e]
  exact loop_eq (by kernel_rfl) (fun t => (t 0, t 4, t 7, t 15, t 16, t 18, t 112, t 113, t 114, t 173, t 174)) (fun x : (Value × Value × Value × Value × Value × Value × Value × Value × Value × Value × Value) × Heap => Jr4_6b2 rc md x.1.1 x.1.2.1 x.1.2.2.1 x.1.2.2.2.1 x.1.2.2.2.2.1 x.1.2.2.2.2.2.1 x.1.2.2.2.2.2.2.1 x.1.2.2.2.2.2.2.2.1 x.1.2.2.2.2.2.2.2.2.1 x.1.2.2.2.2.2.2.2.2.2.1 x.1.2.2.2.2.2.2.2.2.2.2 x.2) (fun t h => Jr4_6b2_at rc md t h) (fun e (s : Value × Value × Value × Value × Value × Value × Value × Value × Value × Value × Value) h => Jk4_6b2 rc md e s.1 s.2.1 s.2.2.1 s.2.2.2.1 s.2.2.2.2.1 s.2.2.2.2.2.1 s.2.2.2.2.2.2.1 s.2.2.2.2.2.2.2.1 s.2.2.2.2.2.2.2.2.1 s.2.2.2.2.2.2.2.2.2.1 s.2.2.2.2.2.2.2.2.2.2 h) (fun e t h => Jk4_6b2_at rc md e t h) t h
noncomputable def J4_6b1 (rc : Rec) (md : Md) (s0 : Value) (s4 : Value) (s7 : Value) (s15 : Value) (s16 : Value) (s18 : Value) (s112 : Value) (s113 : Value) (s114 : Value) (h : Heap) : Option (((Value × Value × Value × Value × Value × Value × Value × Value) × Heap) ⊕ (Exit × (Value × Value × Value × Value × Value × Value × Value × Value) × Heap)) :=
  J4_6b2 rc md s0 s4 s7 s15 s16 s18 s112 s113 s114 s0 (.int .i64 0) h
noncomputable def J4_6b1H (rc : Rec) (md : Md) (X1 : T → Heap → Option (((Value × Value × Value × Value × Value × Value × Value × Value) × Heap) ⊕ (Exit × (Value × Value × Value × Value × Value × Value × Value × Value) × Heap))) (t : T) (h : Heap) : Option (((Value × Value × Value × Value × Value × Value × Value × Value) × Heap) ⊕ (Exit × (Value × Value × Value × Value × Value × Value × Value × Value) × Heap)) :=
  X1 (upd (upd t 173 (t 0)) 174 (.int .i64 0)) h
theorem J4_6b1_h1 (rc : Rec) (md : Md) (X : Nat → T → Heap → Option (((Value × Value × Value × Value × Value × Value × Value × Value) × Heap) ⊕ (Exit × (Value × Value × Value × Value × Value × Value × Value × Value) × Heap))) (t : T) (h : Heap) : execG Try.prog cfg X rc md 209 (sub (replS (sub (bodyOf Try.prog 4) [1, 1, 1, 1, 1, 1, 1, 1, 1, 1, 1, 1, 1, 0, 1, 0, 0]) [([1, 1, 0, 0, 1, 1, 1, 0, 1, 0], 0), ([1, 1, 0, 0, 1, 1, 1, 1, 1, 0], 1)]) [1, 1, 0, 0, 1, 1, 1, 1]) (kAtG Try.prog cfg X rc md 209 (replS (sub (bodyOf Try.prog 4) [1, 1, 1, 1, 1, 1, 1, 1, 1, 1, 1, 1, 1, 0, 1, 0, 0]) [([1, 1, 0, 0, 1, 1, 1, 0, 1, 0], 0), ([1, 1, 0, 0, 1, 1, 1, 1, 1, 0], 1)]) [1, 1, 0, 0, 1, 1, 1, 1] (rndK (fun t => (t 0, t 4, t 7, t 15, t 16, t 112, t 113, t 114)))) t h = J4_6b1H rc md (X 1) t h := by kernel_rfl
theorem J4_6b1_h2 (rc : Rec) (md : Md) (t : T) (h : Heap) : J4_6b1H rc md (fun t h => J4_6b2 rc md (t 0) (t 4) (t 7) (t 15) (t 16) (t 18) (t 112) (t 113) (t 114) (t 173) (t 174) h) t h = J4_6b1 rc md (t 0) (t 4) (t 7) (t 15) (t 16) (t 18) (t 112) (t 113) (t 114) h := by (unfold J4_6b1H J4_6b1; kernel_rfl)
theorem J4_6b1_at (rc : Rec) (md : Md) (t : T) (h : Heap) : cut Try.prog cfg rc md 209 (sub (bodyOf Try.prog 4) [1, 1, 1, 1, 1, 1, 1, 1, 1, 1, 1, 1, 1, 0, 1, 0, 0]) [1, 1, 0, 0, 1, 1, 1, 1] (rndK (fun t => (t 0, t 4, t 7, t 15, t 16, t 112, t 113, t 114))) t h = J4_6b1 rc md (t 0) (t 4) (t 7) (t 15) (t 16) (t 18) (t 112) (t 113) (t 114) h := by
  rw [cut_holes [([1, 1, 0, 0, 1, 1, 1, 0, 1, 0], 0), ([1, 1, 0, 0, 1, 1, 1, 1, 1, 0], 1)] [1, 1, 0, 0, 1, 1, 1, 1] (by kernel_rfl), J4_6b1_h1, show (goX Try.prog cfg rc md 209 (sub (bodyOf Try.prog 4) [1, 1, 1, 1, 1, 1, 1, 1, 1, 1, 1, 1, 1, 0, 1, 0, 0]) [([1, 1, 0, 0, 1, 1, 1, 0, 1, 0], 0), ([1, 1, 0, 0, 1, 1, 1, 1, 1, 0], 1)] (rndK (fun t => (t 0, t 4, t 7, t 15, t 16, t 112, t 113, t 114)))) 1 = _ from J4_6b2_cut rc md]
  exact J4_6b1_h2 rc md t h
theorem J4_6b1_cut (rc : Rec) (md : Md) : cut Try.prog cfg rc md 209 (sub (bodyOf Try.prog 4) [1, 1, 1, 1, 1, 1, 1, 1, 1, 1, 1, 1, 1, 0, 1, 0, 0]) [1, 1, 0, 0, 1, 1, 1, 1] (rndK (fun t => (t 0, t 4, t 7, t 15, t 16, t 112, t 113, t 114))) = fun t h => J4_6b1 rc md (t 0) (t 4) (t 7) (t 15) (t 16) (t 18) (t 112) (t 113) (t 114) h := funext fun t => funext fun h => J4_6b1_at rc md t h
noncomputable def Jk4_6b0 (rc : Rec) (md : Md) (e : Exit) (s0 : Value) (s4 : Value) (s7 : Value) (s15 : Value) (s16 : Value) (s18 : Value) (s112 : Value) (s113 : Value) (s114 : Value) (s131 : Value) (s132 : Value) (s133 : Value) (h : Heap) : Option (((Value × Value × Value × Value × Value × Value × Value × Value) × Heap) ⊕ (Exit × (Value × Value × Value × Value × Value × Value × Value × Value) × Heap)) :=
  match e with
  | .normal =>
    J4_6b1 rc md s0 s4 s7 s15 s16 s18 s112 s113 s114 h
  | .exit j =>
    bif Nat.beq j 10 then
      J4_6b1 rc md s0 s4 s7 s15 s16 s18 s112 s113 s114 h
    else
      bif Nat.beq j 9 then
        aBin Try.prog .add 3 s114 (.int .i64 1) fun v1 =>
        some (.inl ((s0, s4, s7, s15, s16, s112, s113, v1), h))
      else
        some (.inr ((.exit j), (s0, s4, s7, s15, s16, s112, s113, s114), h))
  | .ret =>
    some (.inr (.ret, (s0, s4, s7, s15, s16, s112, s113, s114), h))
  | .goto l => some (.inr ((.goto l), (s0, s4, s7, s15, s16, s112, s113, s114), h))
  | .panic ps => some (.inr ((.panic ps), (s0, s4, s7, s15, s16, s112, s113, s114), h))
  | .outgrown => some (.inr (.outgrown, (s0, s4, s7, s15, s16, s112, s113, s114), h))
noncomputable def Jk4_6b0H (rc : Rec) (md : Md) (X2 : T → Heap → Option (((Value × Value × Value × Value × Value × Value × Value × Value) × Heap) ⊕ (Exit × (Value × Value × Value × Value × Value × Value × Value × Value) × Heap))) (e : Exit) (t : T) (h : Heap) : Option (((Value × Value × Value × Value × Value × Value × Value × Value) × Heap) ⊕ (Exit × (Value × Value × Value × Value × Value × Value × Value × Value) × Heap)) :=
  match e with
  | .normal =>
    X2 t h
  | .exit j =>
    bif Nat.beq j 10 then
      X2 t h
    else
      bif Nat.beq j 9 then
        aBin Try.prog .add 3 (t 114) (.int .i64 1) fun v1 =>
        some (.inl (((t 0), (t 4), (t 7), (t 15), (t 16), (t 112), (t 113), v1), h))
      else
        some (.inr ((.exit j), ((t 0), (t 4), (t 7), (t 15), (t 16), (t 112), (t 113), (t 114)), h))
  | .ret =>
    some (.inr (.ret, ((t 0), (t 4), (t 7), (t 15), (t 16), (t 112), (t 113), (t 114)), h))
  | .goto l => some (.inr ((.goto l), ((t 0), (t 4), (t 7), (t 15), (t 16), (t 112), (t 113), (t 114)), h))
  | .panic ps => some (.inr ((.panic ps), ((t 0), (t 4), (t 7), (t 15), (t 16), (t 112), (t 113), (t 114)), h))
  | .outgrown => some (.inr (.outgrown, ((t 0), (t 4), (t 7), (t 15), (t 16), (t 112), (t 113), (t 114)), h))
theorem Jk4_6b0_h1 (rc : Rec) (md : Md) (X : Nat → T → Heap → Option (((Value × Value × Value × Value × Value × Value × Value × Value) × Heap) ⊕ (Exit × (Value × Value × Value × Value × Value × Value × Value × Value) × Heap))) (e : Exit) (t : T) (h : Heap) : kAtG Try.prog cfg X rc md 209 (replS (sub (bodyOf Try.prog 4) [1, 1, 1, 1, 1, 1, 1, 1, 1, 1, 1, 1, 1, 0, 1, 0, 0]) [([1, 1, 0, 0, 1, 1, 1, 1, 1, 0], 1), ([1, 1, 0, 0, 1, 1, 1, 1], 2)]) [1, 1, 0, 0, 1, 1, 1, 0, 1, 0] (rndK (fun t => (t 0, t 4, t 7, t 15, t 16, t 112, t 113, t 114))) e t h = Jk4_6b0H rc md (X 2) e t h := by cases e <;> kernel_rfl
theorem Jk4_6b0_h2 (rc : Rec) (md : Md) (e : Exit) (t : T) (h : Heap) : Jk4_6b0H rc md (fun t h => J4_6b1 rc md (t 0) (t 4) (t 7) (t 15) (t 16) (t 18) (t 112) (t 113) (t 114) h) e t h = Jk4_6b0 rc md e (t 0) (t 4) (t 7) (t 15) (t 16) (t 18) (t 112) (t 113) (t 114) (t 131) (t 132) (t 133) h := by cases e <;> (unfold Jk4_6b0H Jk4_6b0; kernel_rfl)
theorem Jk4_6b0_at (rc : Rec) (md : Md) (e : Exit) (t : T) (h : Heap) : kAt Try.prog cfg rc md 209 (sub (bodyOf Try.prog 4) [1, 1, 1, 1, 1, 1, 1, 1, 1, 1, 1, 1, 1, 0, 1, 0, 0]) [1, 1, 0, 0, 1, 1, 1, 0, 1, 0] (rndK (fun t => (t 0, t 4, t 7, t 15, t 16, t 112, t 113, t 114))) e t h = Jk4_6b0 rc md e (t 0) (t 4) (t 7) (t 15) (t 16) (t 18) (t 112) (t 113) (t 114) (t 131) (t 132) (t 133) h := by
  rw [kAt_holes [([1, 1, 0, 0, 1, 1, 1, 1, 1, 0], 1), ([1, 1, 0, 0, 1, 1, 1, 1], 2)] [1, 1, 0, 0, 1, 1, 1, 0, 1, 0] (by kernel_rfl), Jk4_6b0_h1, show (goX Try.prog cfg rc md 209 (sub (bodyOf Try.prog 4) [1, 1, 1, 1, 1, 1, 1, 1, 1, 1, 1, 1, 1, 0, 1, 0, 0]) [([1, 1, 0, 0, 1, 1, 1, 1, 1, 0], 1), ([1, 1, 0, 0, 1, 1, 1, 1], 2)] (rndK (fun t => (t 0, t 4, t 7, t 15, t 16, t 112, t 113, t 114)))) 2 = _ from J4_6b1_cut rc md]
  exact Jk4_6b0_h2 rc md e t h
/-- a round -/
noncomputable def Jr4_6b0 (rc : Rec) (md : Md) (s0 : Value) (s4 : Value) (s7 : Value) (s15 : Value) (s16 : Value) (s18 : Value) (s112 : Value) (s113 : Value) (s114 : Value) (s131 : Value) (s132 : Value) (s133 : Value) (h : Heap) : Option (((Value × Value × Value × Value × Value × Value × Value × Value × Value × Value × Value × Value) × Heap) ⊕ (Exit × (Value × Value × Value × Value × Value × Value × Value × Value × Value × Value × Value × Value) × Heap)) :=
  aBin Try.prog .lss 3 s133 s132 fun v1 =>
  cBn v1 fun b2 =>
  bif b2 then
    ixSV 1 s131 s133 fun v3 =>
    ld1 v3 h fun v4 =>
    cIn .i64 v4 fun n5 =>
    (bif wantV (.bool (decide (n5 < 0))) false then
    some ((.int .i64 n5), h)
    else some (undef, h)).bind fun p6 =>
    (bif wantV (.bool (decide (n5 < 0))) false then
    some (s0, p6.2)
    else some (undef, p6.2)).bind fun p7 =>
    (bif wantV (.bool (decide (n5 < 0))) false then
    aBin Try.prog .geq 3 p6.1 p7.1 fun v8 =>
    some (v8, p7.2)
    else some (undef, p7.2)).bind fun p9 =>
    cBn (bif (decide (n5 < 0)) then (.bool true) else p9.1) fun b10 =>
    (bif wantV (.bool b10) false then
    some (s133, p9.2)
    else some (undef, p9.2)).bind fun p11 =>
    (bif wantV (.bool b10) false then
    aBin Try.prog .gtr 3 p11.1 (.int .i64 0) fun v12 =>
    some (v12, p11.2)
    else some (undef, p11.2)).bind fun p13 =>
    (bif wantV (.bool b10) false then
    some (p13.1, p13.2)
    else some (undef, p13.2)).bind fun p14 =>
    (bif wantV p14.1 true then
    some (s18, p14.2)
    else some (undef, p14.2)).bind fun p15 =>
    (bif wantV p14.1 true then
    some (s133, p15.2)
    else some (undef, p15.2)).bind fun p16 =>
    (bif wantV p14.1 true then
    aBin Try.prog .sub 3 p16.1 (.int .i64 1) fun v17 =>
    some (v17, p16.2)
    else some (undef, p16.2)).bind fun p18 =>
    (bif wantV p14.1 true then
    ixSV 1 p15.1 p18.1 fun v19 =>
    some (v19, p18.2)
    else some (undef, p18.2)).bind fun p20 =>
    (bif wantV p14.1 true then
    ld1 p20.1 p20.2 fun v21 =>
    cIn .i64 v21 fun n22 =>
    some ((.int .i64 n22), p20.2)
    else some (undef, p20.2)).bind fun p23 =>
    (bif wantV p14.1 true then
    some ((.int .i64 n5), p23.2)
    else some (undef, p23.2)).bind fun p24 =>
    (bif wantV p14.1 true then
    aBin Try.prog .geq 3 p23.1 p24.1 fun v25 =>
    some (v25, p24.2)
    else some (undef, p24.2)).bind fun p26 =>
    (bif wantV (.bool b10) false then
    cBn p14.1 fun q27 =>
    cBn (bif q27 then p26.1 else (.bool false)) fun b28 =>
    some ((.bool b28), p26.2)
    else some (undef, p26.2)).bind fun p29 =>
    cBn (bif b10 then (.bool true) else p29.1) fun b30 =>
    (bif wantV (.bool b30) false then
    some (s7, p29.2)
    else some (undef, p29.2)).bind fun p31 =>
    (bif wantV (.bool b30) false then
    some (s16, p31.2)
    else some (undef, p31.2)).bind fun p32 =>
    (bif wantV (.bool b30) false then
    some ((.int .i64 n5), p32.2)
    else some (undef, p32.2)).bind fun p33 =>
    (bif wantV (.bool b30) false then
    some (s0, p33.2)
    else some (undef, p33.2)).bind fun p34 =>
    (bif wantV (.bool b30) false then
    cl (rc md 15 [p31.1, p32.1, p33.1, p34.1] p34.2) fun v35 h36 =>
    cBn v35 fun b37 =>
    some ((.bool b37), h36)
    else some (undef, p34.2)).bind fun p38 =>
    (bif wantV (.bool b30) false then
    aUn .not p38.1 fun v39 =>
    some (v39, p38.2)
    else some (undef, p38.2)).bind fun p40 =>
    cBn (bif b30 then (.bool true) else p40.1) fun b41 =>
    bif b41 then
      some (.inr (.ret, (s0, (.bool false), s7, s15, s16, s18, s112, s113, s114, s131, s132, s133), p40.2))
    else
      ixS 1 s15 n5 fun v42 =>
      ld1 v42 p40.2 fun v43 =>
      cIn .i64 v43 fun n44 =>
      ixS 1 s15 n5 fun v45 =>
      st md 1 v45 (.int .i64 (IntKind.wrap .i64 (n44 + 1))) p40.2 fun h46 =>
      aBin Try.prog .add 3 s133 (.int .i64 1) fun v47 =>
      some (.inl ((s0, s4, s7, s15, s16, s18, s112, s113, s114, s131, s132, v47), h46))
  else
    some (.inr ((.exit 10), (s0, s4, s7, s15, s16, s18, s112, s113, s114, s131, s132, s133), h))
theorem Jr4_6b0_at (rc : Rec) (md : Md) (t : T) (h : Heap) : exec Try.prog cfg rc md 209 (sub (bodyOf Try.prog 4) [1, 1, 1, 1, 1, 1, 1, 1, 1, 1, 1, 1, 1, 0, 1, 0, 0, 1, 1, 0, 0, 1, 1, 1, 0, 1, 0, 0]) (rndK (fun t => (t 0, t 4, t 7, t 15, t 16, t 18, t 112, t 113, t 114, t 131, t 132, t 133))) t h = Jr4_6b0 rc md (t 0) (t 4) (t 7) (t 15) (t 16) (t 18) (t 112) (t 113) (t 114) (t 131) (t 132) (t 133) h := by kernel_rfl
noncomputable def J4_6b0 (rc : Rec) (md : Md) (s0 : Value) (s4 : Value) (s7 : Value) (s15 : Value) (s16 : Value) (s18 : Value) (s112 : Value) (s113 : Value) (s114 : Value) (s131 : Value) (s132 : Value) (s133 : Value) (h : Heap) : Option (((Value × Value × Value × Value × Value × Value × Value × Value) × Heap) ⊕ (Exit × (Value × Value × Value × Value × Value × Value × Value × Value) × Heap)) :=
  runL (fun x : (Value × Value × Value × Value × Value × Value × Value × Value × Value × Value × Value × Value) × Heap => Jr4_6b0 rc md x.1.1 x.1.2.1 x.1.2.2.1 x.1.2.2.2.1 x.1.2.2.2.2.1 x.1.2.2.2.2.2.1 x.1.2.2.2.2.2.2.1 x.1.2.2.2.2.2.2.2.1 x.1.2.2.2.2.2.2.2.2.1 x.1.2.2.2.2.2.2.2.2.2.1 x.1.2.2.2.2.2.2.2.2.2.2.1 x.1.2.2.2.2.2.2.2.2.2.2.2 x.2) (fun e (s : Value × Value × Value × Value × Value × Value × Value × Value × Value × Value × Value × Value) h => Jk4_6b0 rc md e s.1 s.2.1 s.2.2.1 s.2.2.2.1 s.2.2.2.2.1 s.2.2.2.2.2.1 s.2.2.2.2.2.2.1 s.2.2.2.2.2.2.2.1 s.2.2.2.2.2.2.2.2.1 s.2.2.2.2.2.2.2.2.2.1 s.2.2.2.2.2.2.2.2.2.2.1 s.2.2.2.2.2.2.2.2.2.2.2 h) (s0, s4, s7, s15, s16, s18, s112, s113, s114, s131, s132, s133) h
theorem J4_6b0_step (rc : Rec) (md : Md) (s0 : Value) (s4 : Value) (s7 : Value) (s15 : Value) (s16 : Value) (s18 : Value) (s112 : Value) (s113 : Value) (s114 : Value) (s131 : Value) (s132 : Value) (s133 : Value) (h : Heap) : J4_6b0 rc md s0 s4 s7 s15 s16 s18 s112 s113 s114 s131 s132 s133 h = (Jr4_6b0 rc md s0 s4 s7 s15 s16 s18 s112 s113 s114 s131 s132 s133 h).bind fun x => match x with
    | .inl (s, h) => J4_6b0 rc md s.1 s.2.1 s.2.2.1 s.2.2.2.1 s.2.2.2.2.1 s.2.2.2.2.2.1 s.2.2.2.2.2.2.1 s.2.2.2.2.2.2.2.1 s.2.2.2.2.2.2.2.2.1 s.2.2.2.2.2.2.2.2.2.1 s.2.2.2.2.2.2.2.2.2.2.1 s.2.2.2.2.2.2.2.2.2.2.2 h
    | .inr (e, s, h) => Jk4_6b0 rc md e s.1 s.2.1 s.2.2.1 s.2.2.2.1 s.2.2.2.2.1 s.2.2.2.2.2.1 s.2.2.2.2.2.2.1 s.2.2.2.2.2.2.2.1 s.2.2.2.2.2.2.2.2.1 s.2.2.2.2.2.2.2.2.2.1 s.2.2.2.2.2.2.2.2.2.2.1 s.2.2.2.2.2.2.2.2.2.2.2 h := by
  unfold J4_6b0
  rw [runL_eq]
  refine congrArg (Option.bind _) (funext fun x => ?_)
  rcases x with ⟨s, h⟩ | ⟨e, s, h⟩ <;> rfl
theorem J4_6b0_cut (rc : Rec) (md : Md) : cut Try.prog cfg rc md 209 (sub (bodyOf Try.prog 4) [1, 1, 1, 1, 1, 1, 1, 1, 1, 1, 1, 1, 1, 0, 1, 0, 0]) [1, 1, 0, 0, 1, 1, 1, 0, 1, 0] (rndK (fun t => (t 0, t 4, t 7, t 15, t 16, t 112, t 113, t 114))) = fun t h => J4_6b0 rc md (t 0) (t 4) (t 7) (t 15) (t 16) (t 18) (t 112) (t 113) (t 114) (t 131) (t 132) (t 133) h := by
  funext t h
  have e : sub (sub (bodyOf Try.prog 4) [1, 1, 1, 1, 1, 1, 1, 1, 1, 1, 1, 1, 1, 0, 1, 0, 0]) [1, 1, 0, 0, 1, 1, 1, 0, 1, 0] = .loop (sub (bodyOf Try.prog 4) [1, 1, 1, 1, 1, 1, 1, 1, 1, 1, 1, 1, 1, 0, 1, 0, 0, 1, 1, 0, 0, 1, 1, 1, 0, 1, 0, 0]) := by kernel_rfl
  unfold cut
  rw [e]
  exact loop_eq (by kernel_rfl) (fun t => (t 0, t 4, t 7, t 15, t 16, t 18, t 112, t 113, t 114, t 131, t 132, t 133)) (fun x : (Value × Value × Value × Value × Value × Value × Value × Value × Value × Value × Value × Value) × Heap => Jr4_6b0 rc md x.1.1 x.1.2.1 x.1.2.2.1 x.1.2.2.2.1 x.1.2.2.2.2.1 x.1.2.2.2.2.2.1 x.1.2.2.2.2.2.2.1 x.1.2.2.2.2.2.2.2.1 x.1.2.2.2.2.2.2.2.2.1 x.1.2.2.2.2.2.2.2.2.2.1 x.1.2.2.2.2.2.2.2.2.2.2.1 x.1.2.2.2.2.2.2.2.2.2.2.2 x.2) (fun t h => Jr4_6b0_at rc md t h) (fun e (s : Value × Value × Value × Value × Value × Value × Value × Value × Value × Value × Value × Value) h => Jk4_6b0 rc md e s.1 s.2.1 s.2.2.1 s.2.2.2.1 s.2.2.2.2.1 s.2.2.2.2.2.1 s.2.2.2.2.2.2.1 s.2.2.2.2.2.2.2.1 s.2.2.2.2.2.2.2.2.1 s.2.2.2.2.2.2.2.2.2.1 s.2.2.2.2.2.2.2.2.2.2.1 s.2.2.2.2.2.2.2.2.2.2.2 h) (fun e t h => Jk4_6b0_at rc md e t h) t h
/-- a round -/
noncomputable def Jr4_6 (rc : Rec) (md : Md) (s0 : Value) (s4 : Value) (s7 : Value) (s15 : Value) (s16 : Value) (s112 : Value) (s113 : Value) (s114 : Value) (h : Heap) : Option (((Value × Value × Value × Value × Value × Value × Value × Value) × Heap) ⊕ (Exit × (Value × Value × Value × Value × Value × Value × Value × Value) × Heap)) :=
  aBin Try.prog .lss 3 s114 s113 fun v1 =>
  cBn v1 fun b2 =>
  bif b2 then
    ixSV 1 s112 s114 fun v3 =>
    ld1 v3 h fun v4 =>
    lenS v4 fun v5 =>
    cIn .i64 v5 fun n6 =>
    (bif wantV (.bool (n6 == 0)) false then
    some (v4, h)
    else some (undef, h)).bind fun p7 =>
    (bif wantV (.bool (n6 == 0)) false then
    ixS 1 p7.1 0 fun v8 =>
    some (v8, p7.2)
    else some (undef, p7.2)).bind fun p9 =>
    (bif wantV (.bool (n6 == 0)) false then
    ld1 p9.1 p9.2 fun v10 =>
    cIn .i64 v10 fun n11 =>
    some ((.int .i64 n11), p9.2)
    else some (undef, p9.2)).bind fun p12 =>
    (bif wantV (.bool (n6 == 0)) false then
    some (s16, p12.2)
    else some (undef, p12.2)).bind fun p13 =>
    (bif wantV (.bool (n6 == 0)) false then
    aBin Try.prog .leq 3 p12.1 p13.1 fun v14 =>
    some (v14, p13.2)
    else some (undef, p13.2)).bind fun p15 =>
    cBn (bif (n6 == 0) then (.bool true) else p15.1) fun b16 =>
    bif b16 then
      some (.inr (.ret, (s0, (.bool false), s7, s15, s16, s112, s113, s114), p15.2))
    else
      ixS 1 v4 0 fun v17 =>
      ld1 v17 p15.2 fun v18 =>
      cIn .i64 v18 fun n19 =>
      lenS v4 fun v20 =>
      cIn .i64 v20 fun n21 =>
      J4_6b0 rc md s0 s4 s7 s15 (.int .i64 n19) v4 s112 s113 s114 v4 (.int .i64 n21) (.int .i64 0) p15.2
  else
    some (.inr ((.exit 8), (s0, s4, s7, s15, s16, s112, s113, s114), h))
noncomputable def Jr4_6H (rc : Rec) (md : Md) (X0 : T → Heap → Option (((Value × Value × Value × Value × Value × Value × Value × Value) × Heap) ⊕ (Exit × (Value × Value × Value × Value × Value × Value × Value × Value) × Heap))) (t : T) (h : Heap) : Option (((Value × Value × Value × Value × Value × Value × Value × Value) × Heap) ⊕ (Exit × (Value × Value × Value × Value × Value × Value × Value × Value) × Heap)) :=
  aBin Try.prog .lss 3 (t 114) (t 113) fun v1 =>
  cBn v1 fun b2 =>
  bif b2 then
    ixSV 1 (t 112) (t 114) fun v3 =>
    ld1 v3 h fun v4 =>
    lenS v4 fun v5 =>
    cIn .i64 v5 fun n6 =>
    (bif wantV (.bool (n6 == 0)) false then
    some (v4, h)
    else some (undef, h)).bind fun p7 =>
    (bif wantV (.bool (n6 == 0)) false then
    ixS 1 p7.1 0 fun v8 =>
    some (v8, p7.2)
    else some (undef, p7.2)).bind fun p9 =>
    (bif wantV (.bool (n6 == 0)) false then
    ld1 p9.1 p9.2 fun v10 =>
    cIn .i64 v10 fun n11 =>
    some ((.int .i64 n11), p9.2)
    else some (undef, p9.2)).bind fun p12 =>
    (bif wantV (.bool (n6 == 0)) false then
    some ((t 16), p12.2)
    else some (undef, p12.2)).bind fun p13 =>
    (bif wantV (.bool (n6 == 0)) false then
    aBin Try.prog .leq 3 p12.1 p13.1 fun v14 =>
    some (v14, p13.2)
    else some (undef, p13.2)).bind fun p15 =>
    cBn (bif (n6 == 0) then (.bool true) else p15.1) fun b16 =>
    bif b16 then
      some (.inr (.ret, ((t 0), (.bool false), (t 7), (t 15), (t 16), (t 112), (t 113), (t 114)), p15.2))
    else
      ixS 1 v4 0 fun v17 =>
      ld1 v17 p15.2 fun v18 =>
      cIn .i64 v18 fun n19 =>
      lenS v4 fun v20 =>
      cIn .i64 v20 fun n21 =>
      X0 (upd (upd (upd (upd (upd (upd (upd (upd (upd (upd (upd (upd (upd (upd (upd (upd (upd (upd (upd (upd (upd t 115 v1) 116 v3) 117 v4) 18 v4) 118 v4) 119 (.int .i64 n6)) 120 (.bool (n6 == 0))) 121 (.bool (n6 == 0))) 122 p7.1) 123 p9.1) 124 p12.1) 125 p13.1) 126 p15.1) 127 (.bool b16)) 128 v4) 129 v17) 130 (.int .i64 n19)) 16 (.int .i64 n19)) 131 v4) 132 (.int .i64 n21)) 133 (.int .i64 0)) p15.2
  else
    some (.inr ((.exit 8), ((t 0), (t 4), (t 7), (t 15), (t 16), (t 112), (t 113), (t 114)), h))
theorem Jr4_6_h1 (rc : Rec) (md : Md) (X : Nat → T → Heap → Option (((Value × Value × Value × Value × Value × Value × Value × Value) × Heap) ⊕ (Exit × (Value × Value × Value × Value × Value × Value × Value × Value) × Heap))) (t : T) (h : Heap) : execG Try.prog cfg X rc md 209 (replS (sub (bodyOf Try.prog 4) [1, 1, 1, 1, 1, 1, 1, 1, 1, 1, 1, 1, 1, 0, 1, 0, 0]) [([1, 1, 0, 0, 1, 1, 1, 0, 1, 0], 0), ([1, 1, 0, 0, 1, 1, 1, 1, 1, 0], 1), ([1, 1, 0, 0, 1, 1, 1, 1], 2)]) (rndK (fun t => (t 0, t 4, t 7, t 15, t 16, t 112, t 113, t 114))) t h = Jr4_6H rc md (X 0) t h := by kernel_rfl
theorem Jr4_6_h2 (rc : Rec) (md : Md) (t : T) (h : Heap) : Jr4_6H rc md (fun t h => J4_6b0 rc md (t 0) (t 4) (t 7) (t 15) (t 16) (t 18) (t 112) (t 113) (t 114) (t 131) (t 132) (t 133) h) t h = Jr4_6 rc md (t 0) (t 4) (t 7) (t 15) (t 16) (t 112) (t 113) (t 114) h := by unfold Jr4_6H Jr4_6; kernel_rfl
theorem Jr4_6_at (rc : Rec) (md : Md) (t : T) (h : Heap) : exec Try.prog cfg rc md 209 (sub (bodyOf Try.prog 4) [1, 1, 1, 1, 1, 1, 1, 1, 1, 1, 1, 1, 1, 0, 1, 0, 0]) (rndK (fun t => (t 0, t 4, t 7, t 15, t 16, t 112, t 113, t 114))) t h = Jr4_6 rc md (t 0) (t 4) (t 7) (t 15) (t 16) (t 112) (t 113) (t 114) h := by
  rw [exec_holes [([1, 1, 0, 0, 1, 1, 1, 0, 1, 0], 0), ([1, 1, 0, 0, 1, 1, 1, 1, 1, 0], 1), ([1, 1, 0, 0, 1, 1, 1, 1], 2)] (by kernel_rfl), Jr4_6_h1, show (goX Try.prog cfg rc md 209 (sub (bodyOf Try.prog 4) [1, 1, 1, 1, 1, 1, 1, 1, 1, 1, 1, 1, 1, 0, 1, 0, 0]) [([1, 1, 0, 0, 1, 1, 1, 0, 1, 0], 0), ([1, 1, 0, 0, 1, 1, 1, 1, 1, 0], 1), ([1, 1, 0, 0, 1, 1, 1, 1], 2)] (rndK (fun t => (t 0, t 4, t 7, t 15, t 16, t 112, t 113, t 114)))) 0 = _ from J4_6b0_cut rc md]
  exact Jr4_6_h2 rc md t h
noncomputable def J4_6 (rc : Rec) (md : Md) (h0 : Heap) (s0 : Value) (s4 : Value) (s7 : Value) (s15 : Value) (s16 : Value) (s112 : Value) (s113 : Value) (s114 : Value) (h : Heap) : Option (Value × Heap) :=
  runL (fun x : (Value × Value × Value × Value × Value × Value × Value × Value) × Heap => Jr4_6 rc md x.1.1 x.1.2.1 x.1.2.2.1 x.1.2.2.2.1 x.1.2.2.2.2.1 x.1.2.2.2.2.2.1 x.1.2.2.2.2.2.2.1 x.1.2.2.2.2.2.2.2 x.2) (fun e (s : Value × Value × Value × Value × Value × Value × Value × Value) h => Jk4_6 rc md h0 e s.1 s.2.1 s.2.2.1 s.2.2.2.1 s.2.2.2.2.1 s.2.2.2.2.2.1 s.2.2.2.2.2.2.1 s.2.2.2.2.2.2.2 h) (s0, s4, s7, s15, s16, s112, s113, s114) h
theorem J4_6_step (rc : Rec) (md : Md) (h0 : Heap) (s0 : Value) (s4 : Value) (s7 : Value) (s15 : Value) (s16 : Value) (s112 : Value) (s113 : Value) (s114 : Value) (h : Heap) : J4_6 rc md h0 s0 s4 s7 s15 s16 s112 s113 s114 h = (Jr4_6 rc md s0 s4 s7 s15 s16 s112 s113 s114 h).bind fun x => match x with
    | .inl (s, h) => J4_6 rc md h0 s.1 s.2.1 s.2.2.1 s.2.2.2.1 s.2.2.2.2.1 s.2.2.2.2.2.1 s.2.2.2.2.2.2.1 s.2.2.2.2.2.2.2 h
    | .inr (e, s, h) => Jk4_6 rc md h0 e s.1 s.2.1 s.2.2.1 s.2.2.2.1 s.2.2.2.2.1 s.2.2.2.2.2.1 s.2.2.2.2.2.2.1 s.2.2.2.2.2.2.2 h := by
  unfold J4_6
  rw [runL_eq]
  refine congrArg (Option.bind _) (funext fun x => ?_)
  rcases x with ⟨s, h⟩ | ⟨e, s, h⟩ <;> rfl
theorem J4_6_cut (rc : Rec) (md : Md) (h0 : Heap) : cut Try.prog cfg rc md 209 (bodyOf Try.prog 4) [1, 1, 1, 1, 1, 1, 1, 1, 1, 1, 1, 1, 1, 0, 1, 0] (retK Try.prog cfg 4 (rsOf Try.prog 4) h0) = fun t h => J4_6 rc md h0 (t 0) (t 4) (t 7) (t 15) (t 16) (t 112) (t 113) (t 114) h := by
  funext t h
  have e : sub (bodyOf Try.prog 4) [1, 1, 1, 1, 1, 1, 1, 1, 1, 1, 1, 1, 1, 0, 1, 0] = .loop (sub (bodyOf Try.prog 4) [1, 1, 1, 1, 1, 1, 1, 1, 1, 1, 1, 1, 1, 0, 1, 0, 0]) := by kernel_rfl
  unfold cut
  rw [e]
  exact loop_eq (by kernel_rfl) (fun t => (t 0, t 4, t 7, t 15, t 16, t 112, t 113, t 114)) (fun x : (Value × Value × Value × Value × Value × Value × Value × Value) × Heap => Jr4_6 rc md x.1.1 x.1.2.1 x.1.2.2.1 x.1.2.2.2.1 x.1.2.2.2.2.1 x.1.2.2.2.2.2.1 x.1.2.2.2.2.2.2.1 x.1.2.2.2.2.2.2.2 x.2) (fun t h => Jr4_6_at rc md t h) (fun e (s : Value × Value × Value × Value × Value × Value × Value × Value) h => Jk4_6 rc md h0 e s.1 s.2.1 s.2.2.1 s.2.2.2.1 s.2.2.2.2.1 s.2.2.2.2.2.1 s.2.2.2.2.2.2.1 s.2.2.2.2.2.2.2 h) (fun e t h => Jk4_6_at rc md h0 e t h) t h
noncomputable def J4_5 (rc : Rec) (md : Md) (h0 : Heap) (s0 : Value) (s4 : Value) (s5 : Value) (s7 : Value) (h : Heap) : Option (Value × Heap) :=
  aMakeSlice Try.prog 39 s0 s0 h fun v1 h2 =>
  cl (rc md 17 [s5] h2) fun v3 h4 =>
  lenS v3 fun v5 =>
  cIn .i64 v5 fun n6 =>
  J4_6 rc md h0 s0 s4 s7 v1 (.int .i64 (-1)) v3 (.int .i64 n6) (.int .i64 0) h4
noncomputable def J4_5H (rc : Rec) (md : Md) (h0 : Heap) (X3 : T → Heap → Option (Value × Heap)) (t : T) (h : Heap) : Option (Value × Heap) :=
  aMakeSlice Try.prog 39 (t 0) (t 0) h fun v1 h2 =>
  cl (rc md 17 [(t 5)] h2) fun v3 h4 =>
  lenS v3 fun v5 =>
  cIn .i64 v5 fun n6 =>
  X3 (upd (upd (upd (upd (upd (upd (upd (upd t 109 (t 0)) 110 v1) 15 v1) 16 (.int .i64 (-1))) 111 (t 5)) 112 v3) 113 (.int .i64 n6)) 114 (.int .i64 0)) h4
theorem J4_5_h1 (rc : Rec) (md : Md) (h0 : Heap) (X : Nat → T → Heap → Option (Value × Heap)) (t : T) (h : Heap) : execG Try.prog cfg X rc md 209 (sub (replS (bodyOf Try.prog 4) [([1, 1, 1, 1, 1, 0, 1, 0], 0), ([1, 1, 1, 1, 1, 1, 1, 0, 1, 0], 1), ([1, 1, 1, 1, 1, 1, 1, 1, 1, 1, 0, 1, 0], 2), ([1, 1, 1, 1, 1, 1, 1, 1, 1, 1, 1, 1, 1, 0, 1, 0], 3), ([1, 1, 1, 1, 1, 1, 1, 1, 1, 1, 1, 1, 1, 1, 0, 1, 0], 4), ([1, 1, 1, 1, 1, 1, 1, 1, 1, 1, 1, 1, 1, 1], 5)]) [1, 1, 1, 1, 1, 1, 1, 1, 1, 1, 1]) (kAtG Try.prog cfg X rc md 209 (replS (bodyOf Try.prog 4) [([1, 1, 1, 1, 1, 0, 1, 0], 0), ([1, 1, 1, 1, 1, 1, 1, 0, 1, 0], 1), ([1, 1, 1, 1, 1, 1, 1, 1, 1, 1, 0, 1, 0], 2), ([1, 1, 1, 1, 1, 1, 1, 1, 1, 1, 1, 1, 1, 0, 1, 0], 3), ([1, 1, 1, 1, 1, 1, 1, 1, 1, 1, 1, 1, 1, 1, 0, 1, 0], 4), ([1, 1, 1, 1, 1, 1, 1, 1, 1, 1, 1, 1, 1, 1], 5)]) [1, 1, 1, 1, 1, 1, 1, 1, 1, 1, 1] (retK Try.prog cfg 4 (rsOf Try.prog 4) h0)) t h = J4_5H rc md h0 (X 3) t h := by kernel_rfl
theorem J4_5_h2 (rc : Rec) (md : Md) (h0 : Heap) (t : T) (h : Heap) : J4_5H rc md h0 (fun t h => J4_6 rc md h0 (t 0) (t 4) (t 7) (t 15) (t 16) (t 112) (t 113) (t 114) h) t h = J4_5 rc md h0 (t 0) (t 4) (t 5) (t 7) h := by (unfold J4_5H J4_5; kernel_rfl)
theorem J4_5_at (rc : Rec) (md : Md) (h0 : Heap) (t : T) (h : Heap) : cut Try.prog cfg rc md 209 (bodyOf Try.prog 4) [1, 1, 1, 1, 1, 1, 1, 1, 1, 1, 1] (retK Try.prog cfg 4 (rsOf Try.prog 4) h0) t h = J4_5 rc md h0 (t 0) (t 4) (t 5) (t 7) h := by
  rw [cut_holes [([1, 1, 1, 1, 1, 0, 1, 0], 0), ([1, 1, 1, 1, 1, 1, 1, 0, 1, 0], 1), ([1, 1, 1, 1, 1, 1, 1, 1, 1, 1, 0, 1, 0], 2), ([1, 1, 1, 1, 1, 1, 1, 1, 1, 1, 1, 1, 1, 0, 1, 0], 3), ([1, 1, 1, 1, 1, 1, 1, 1, 1, 1, 1, 1, 1, 1, 0, 1, 0], 4), ([1, 1, 1, 1, 1, 1, 1, 1, 1, 1, 1, 1, 1, 1], 5)] [1, 1, 1, 1, 1, 1, 1, 1, 1, 1, 1] (by kernel_rfl), J4_5_h1, show (goX Try.prog cfg rc md 209 (bodyOf Try.prog 4) [([1, 1, 1, 1, 1, 0, 1, 0], 0), ([1, 1, 1, 1, 1, 1, 1, 0, 1, 0], 1), ([1, 1, 1, 1, 1, 1, 1, 1, 1, 1, 0, 1, 0], 2), ([1, 1, 1, 1, 1, 1, 1, 1, 1, 1, 1, 1, 1, 0, 1, 0], 3), ([1, 1, 1, 1, 1, 1, 1, 1, 1, 1, 1, 1, 1, 1, 0, 1, 0], 4), ([1, 1, 1, 1, 1, 1, 1, 1, 1, 1, 1, 1, 1, 1], 5)] (retK Try.prog cfg 4 (rsOf Try.prog 4) h0)) 3 = _ from J4_6_cut rc md h0]
  exact J4_5_h2 rc md h0 t h
theorem J4_5_cut (rc : Rec) (md : Md) (h0 : Heap) : cut Try.prog cfg rc md 209 (bodyOf Try.prog 4) [1, 1, 1, 1, 1, 1, 1, 1, 1, 1, 1] (retK Try.prog cfg 4 (rsOf Try.prog 4) h0) = fun t h => J4_5 rc md h0 (t 0) (t 4) (t 5) (t 7) h := funext fun t => funext fun h => J4_5_at rc md h0 t h
noncomputable def Jk4_4 (rc : Rec) (md : Md) (h0 : Heap) (e : Exit) (s0 : Value) (s4 : Value) (s5 : Value) (s7 : Value) (s10 : Value) (s13 : Value) (s95 : Value) (s96 : Value) (h : Heap) : Option (Value × Heap) :=
  match e with
  | .normal =>
    J4_5 rc md h0 s0 s4 s5 s7 h
  | .exit j =>
    bif Nat.beq j 6 then
      J4_5 rc md h0 s0 s4 s5 s7 h
    else
      none
  | .ret =>
    fin1 h0 s4 h
  | .goto l => none
  | .panic ps => none
  | .outgrown => none
noncomputable def Jk4_4H (rc : Rec) (md : Md) (h0 : Heap) (X6 : T → Heap → Option (Value × Heap)) (e : Exit) (t : T) (h : Heap) : Option (Value × Heap) :=
  match e with
  | .normal =>
    X6 t h
  | .exit j =>
    bif Nat.beq j 6 then
      X6 t h
    else
      none
  | .ret =>
    fin1 h0 (t 4) h
  | .goto l => none
  | .panic ps => none
  | .outgrown => none
theorem Jk4_4_h1 (rc : Rec) (md : Md) (h0 : Heap) (X : Nat → T → Heap → Option (Value × Heap)) (e : Exit) (t : T) (h : Heap) : kAtG Try.prog cfg X rc md 209 (replS (bodyOf Try.prog 4) [([1, 1, 1, 1, 1, 0, 1, 0], 0), ([1, 1, 1, 1, 1, 1, 1, 0, 1, 0], 1), ([1, 1, 1, 1, 1, 1, 1, 1, 1, 1, 1, 1, 1, 0, 1, 0], 3), ([1, 1, 1, 1, 1, 1, 1, 1, 1, 1, 1, 1, 1, 1, 0, 1, 0], 4), ([1, 1, 1, 1, 1, 1, 1, 1, 1, 1, 1, 1, 1, 1], 5), ([1, 1, 1, 1, 1, 1, 1, 1, 1, 1, 1], 6)]) [1, 1, 1, 1, 1, 1, 1, 1, 1, 1, 0, 1, 0] (retK Try.prog cfg 4 (rsOf Try.prog 4) h0) e t h = Jk4_4H rc md h0 (X 6) e t h := by cases e <;> kernel_rfl
theorem Jk4_4_h2 (rc : Rec) (md : Md) (h0 : Heap) (e : Exit) (t : T) (h : Heap) : Jk4_4H rc md h0 (fun t h => J4_5 rc md h0 (t 0) (t 4) (t 5) (t 7) h) e t h = Jk4_4 rc md h0 e (t 0) (t 4) (t 5) (t 7) (t 10) (t 13) (t 95) (t 96) h := by cases e <;> (unfold Jk4_4H Jk4_4; kernel_rfl)
theorem Jk4_4_at (rc : Rec) (md : Md) (h0 : Heap) (e : Exit) (t : T) (h : Heap) : kAt Try.prog cfg rc md 209 (bodyOf Try.prog 4) [1, 1, 1, 1, 1, 1, 1, 1, 1, 1, 0, 1, 0] (retK Try.prog cfg 4 (rsOf Try.prog 4) h0) e t h = Jk4_4 rc md h0 e (t 0) (t 4) (t 5) (t 7) (t 10) (t 13) (t 95) (t 96) h := by
  rw [kAt_holes [([1, 1, 1, 1, 1, 0, 1, 0], 0), ([1, 1, 1, 1, 1, 1, 1, 0, 1, 0], 1), ([1, 1, 1, 1, 1, 1, 1, 1, 1, 1, 1, 1, 1, 0, 1, 0], 3), ([1, 1, 1, 1, 1, 1, 1, 1, 1, 1, 1, 1, 1, 1, 0, 1, 0], 4), ([1, 1, 1, 1, 1, 1, 1, 1, 1, 1, 1, 1, 1, 1], 5), ([1, 1, 1, 1, 1, 1, 1, 1, 1, 1, 1], 6)] [1, 1, 1, 1, 1, 1, 1, 1, 1, 1, 0, 1, 0] (by kernel_rfl), Jk4_4_h1, show (goX Try.prog cfg rc md 209 (bodyOf Try.prog 4) [([1, 1, 1, 1, 1, 0, 1, 0], 0), ([1, 1, 1, 1, 1, 1, 1, 0, 1, 0], 1), ([1, 1, 1, 1, 1, 1, 1, 1, 1, 1, 1, 1, 1, 0, 1, 0], 3), ([1, 1, 1, 1, 1, 1, 1, 1, 1, 1, 1, 1, 1, 1, 0, 1, 0], 4), ([1, 1, 1, 1, 1, 1, 1, 1, 1, 1, 1, 1, 1, 1], 5), ([1, 1, 1, 1, 1, 1, 1, 1, 1, 1, 1], 6)] (retK Try.prog cfg 4 (rsOf Try.prog 4) h0)) 6 = _ from J4_5_cut rc md h0]
  exact Jk4_4_h2 rc md h0 e t h
/-- a round -/
noncomputable def Jr4_4 (rc : Rec) (md : Md) (s0 : Value) (s4 : Value) (s5 : Value) (s7 : Value) (s10 : Value) (s13 : Value) (s95 : Value) (s96 : Value) (h : Heap) : Option (((Value × Value × Value × Value × Value × Value × Value × Value) × Heap) ⊕ (Exit × (Value × Value × Value × Value × Value × Value × Value × Value) × Heap)) :=
  aBin Try.prog .lss 3 s96 s95 fun v1 =>
  cBn v1 fun b2 =>
  bif b2 then
    ixSV 2 s13 s96 fun v3 =>
    ldN 2 v3 h fun v4 =>
    ixSV 2 s10 s96 fun v5 =>
    ldN 2 v5 h fun v6 =>
    aBin Try.prog .neq 34 v4 v6 fun v7 =>
    cBn v7 fun b8 =>
    bif b8 then
      some (.inr (.ret, (s0, (.bool false), s5, s7, s10, s13, s95, s96), h))
    else
      aBin Try.prog .add 3 s96 (.int .i64 1) fun v9 =>
      some (.inl ((s0, s4, s5, s7, s10, s13, s95, v9), h))
  else
    some (.inr ((.exit 6), (s0, s4, s5, s7, s10, s13, s95, s96), h))
theorem Jr4_4_at (rc : Rec) (md : Md) (t : T) (h : Heap) : exec Try.prog cfg rc md 209 (sub (bodyOf Try.prog 4) [1, 1, 1, 1, 1, 1, 1, 1, 1, 1, 0, 1, 0, 0]) (rndK (fun t => (t 0, t 4, t 5, t 7, t 10, t 13, t 95, t 96))) t h = Jr4_4 rc md (t 0) (t 4) (t 5) (t 7) (t 10) (t 13) (t 95) (t 96) h := by kernel_rfl
noncomputable def J4_4 (rc : Rec) (md : Md) (h0 : Heap) (s0 : Value) (s4 : Value) (s5 : Value) (s7 : Value) (s10 : Value) (s13 : Value) (s95 : Value) (s96 : Value) (h : Heap) : Option (Value × Heap) :=
  runL (fun x : (Value × Value × Value × Value × Value × Value × Value × Value) × Heap => Jr4_4 rc md x.1.1 x.1.2.1 x.1.2.2.1 x.1.2.2.2.1 x.1.2.2.2.2.1 x.1.2.2.2.2.2.1 x.1.2.2.2.2.2.2.1 x.1.2.2.2.2.2.2.2 x.2) (fun e (s : Value × Value × Value × Value × Value × Value × Value × Value) h => Jk4_4 rc md h0 e s.1 s.2.1 s.2.2.1 s.2.2.2.1 s.2.2.2.2.1 s.2.2.2.2.2.1 s.2.2.2.2.2.2.1 s.2.2.2.2.2.2.2 h) (s0, s4, s5, s7, s10, s13, s95, s96) h
theorem J4_4_step (rc : Rec) (md : Md) (h0 : Heap) (s0 : Value) (s4 : Value) (s5 : Value) (s7 : Value) (s10 : Value) (s13 : Value) (s95 : Value) (s96 : Value) (h : Heap) : J4_4 rc md h0 s0 s4 s5 s7 s10 s13 s95 s96 h = (Jr4_4 rc md s0 s4 s5 s7 s10 s13 s95 s96 h).bind fun x => match x with
    | .inl (s, h) => J4_4 rc md h0 s.1 s.2.1 s.2.2.1 s.2.2.2.1 s.2.2.2.2.1 s.2.2.2.2.2.1 s.2.2.2.2.2.2.1 s.2.2.2.2.2.2.2 h
    | .inr (e, s, h) => Jk4_4 rc md h0 e s.1 s.2.1 s.2.2.1 s.2.2.2.1 s.2.2.2.2.1 s.2.2.2.2.2.1 s.2.2.2.2.2.2.1 s.2.2.2.2.2.2.2 h := by
  unfold J4_4
  rw [runL_eq]
  refine congrArg (Option.bind _) (funext fun x => ?_)
  rcases x with ⟨s, h⟩ | ⟨e, s, h⟩ <;> rfl
theorem J4_4_cut (rc : Rec) (md : Md) (h0 : Heap) : cut Try.prog cfg rc md 209 (bodyOf Try.prog 4) [1, 1, 1, 1, 1, 1, 1, 1, 1, 1, 0, 1, 0] (retK Try.prog cfg 4 (rsOf Try.prog 4) h0) = fun t h => J4_4 rc md h0 (t 0) (t 4) (t 5) (t 7) (t 10) (t 13) (t 95) (t 96) h := by
  funext t h
  have e : sub (bodyOf Try.prog 4) [1, 1, 1, 1, 1, 1, 1, 1, 1, 1, 0, 1, 0] = .loop (sub (bodyOf Try.prog 4) [1, 1, 1, 1, 1, 1, 1, 1, 1, 1, 0, 1, 0, 0]) := by kernel_rfl
  unfold cut
  rw [e]
  exact loop_eq (by kernel_rfl) (fun t => (t 0, t 4, t 5, t 7, t 10, t 13, t 95, t 96)) (fun x : (Value × Value × Value × Value × Value × Value × Value × Value) × Heap => Jr4_4 rc md x.1.1 x.1.2.1 x.1.2.2.1 x.1.2.2.2.1 x.1.2.2.2.2.1 x.1.2.2.2.2.2.1 x.1.2.2.2.2.2.2.1 x.1.2.2.2.2.2.2.2 x.2) (fun t h => Jr4_4_at rc md t h) (fun e (s : Value × Value × Value × Value × Value × Value × Value × Value) h => Jk4_4 rc md h0 e s.1 s.2.1 s.2.2.1 s.2.2.2.1 s.2.2.2.2.1 s.2.2.2.2.2.1 s.2.2.2.2.2.2.1 s.2.2.2.2.2.2.2 h) (fun e t h => Jk4_4_at rc md h0 e t h) t h
noncomputable def J4_3 (rc : Rec) (md : Md) (h0 : Heap) (s0 : Value) (s4 : Value) (s5 : Value) (s7 : Value) (s10 : Value) (h : Heap) : Option (Value × Heap) :=
  cl (rc md 16 [s5] h) fun v1 h2 =>
  lenS v1 fun v3 =>
  cIn .i64 v3 fun n4 =>
  lenS s10 fun v5 =>
  cIn .i64 v5 fun n6 =>
  bif (n4 != n6) then
    some ((.bool false), List.take h0.length h2)
  else
    lenS s10 fun v7 =>
    cIn .i64 v7 fun n8 =>
    J4_4 rc md h0 s0 s4 s5 s7 s10 v1 (.int .i64 n8) (.int .i64 0) h2
noncomputable def J4_3H (rc : Rec) (md : Md) (h0 : Heap) (X2 : T → Heap → Option (Value × Heap)) (t : T) (h : Heap) : Option (Value × Heap) :=
  cl (rc md 16 [(t 5)] h) fun v1 h2 =>
  lenS v1 fun v3 =>
  cIn .i64 v3 fun n4 =>
  lenS (t 10) fun v5 =>
  cIn .i64 v5 fun n6 =>
  bif (n4 != n6) then
    some ((.bool false), List.take h0.length h2)
  else
    lenS (t 10) fun v7 =>
    cIn .i64 v7 fun n8 =>
    X2 (upd (upd (upd (upd (upd (upd (upd (upd (upd (upd (upd t 87 (t 5)) 88 v1) 13 v1) 89 v1) 90 (.int .i64 n4)) 91 (t 10)) 92 (.int .i64 n6)) 93 (.bool (n4 != n6))) 94 (t 10)) 95 (.int .i64 n8)) 96 (.int .i64 0)) h2
theorem J4_3_h1 (rc : Rec) (md : Md) (h0 : Heap) (X : Nat → T → Heap → Option (Value × Heap)) (t : T) (h : Heap) : execG Try.prog cfg X rc md 209 (sub (replS (bodyOf Try.prog 4) [([1, 1, 1, 1, 1, 0, 1, 0], 0), ([1, 1, 1, 1, 1, 1, 1, 0, 1, 0], 1), ([1, 1, 1, 1, 1, 1, 1, 1, 1, 1, 0, 1, 0], 2), ([1, 1, 1, 1, 1, 1, 1, 1, 1, 1, 1, 1, 1, 0, 1, 0], 3), ([1, 1, 1, 1, 1, 1, 1, 1, 1, 1, 1, 1, 1, 1, 0, 1, 0], 4), ([1, 1, 1, 1, 1, 1, 1, 1, 1, 1, 1, 1, 1, 1], 5), ([1, 1, 1, 1, 1, 1, 1, 1, 1, 1, 1], 6)]) [1, 1, 1, 1, 1, 1, 1, 1]) (kAtG Try.prog cfg X rc md 209 (replS (bodyOf Try.prog 4) [([1, 1, 1, 1, 1, 0, 1, 0], 0), ([1, 1, 1, 1, 1, 1, 1, 0, 1, 0], 1), ([1, 1, 1, 1, 1, 1, 1, 1, 1, 1, 0, 1, 0], 2), ([1, 1, 1, 1, 1, 1, 1, 1, 1, 1, 1, 1, 1, 0, 1, 0], 3), ([1, 1, 1, 1, 1, 1, 1, 1, 1, 1, 1, 1, 1, 1, 0, 1, 0], 4), ([1, 1, 1, 1, 1, 1, 1, 1, 1, 1, 1, 1, 1, 1], 5), ([1, 1, 1, 1, 1, 1, 1, 1, 1, 1, 1], 6)]) [1, 1, 1, 1, 1, 1, 1, 1] (retK Try.prog cfg 4 (rsOf Try.prog 4) h0)) t h = J4_3H rc md h0 (X 2) t h := by kernel_rfl
theorem J4_3_h2 (rc : Rec) (md : Md) (h0 : Heap) (t : T) (h : Heap) : J4_3H rc md h0 (fun t h => J4_4 rc md h0 (t 0) (t 4) (t 5) (t 7) (t 10) (t 13) (t 95) (t 96) h) t h = J4_3 rc md h0 (t 0) (t 4) (t 5) (t 7) (t 10) h := by (unfold J4_3H J4_3; kernel_rfl)
theorem J4_3_at (rc : Rec) (md : Md) (h0 : Heap) (t : T) (h : Heap) : cut Try.prog cfg rc md 209 (bodyOf Try.prog 4) [1, 1, 1, 1, 1, 1, 1, 1] (retK Try.prog cfg 4 (rsOf Try.prog 4) h0) t h = J4_3 rc md h0 (t 0) (t 4) (t 5) (t 7) (t 10) h := by
  rw [cut_holes [([1, 1, 1, 1, 1, 0, 1, 0], 0), ([1, 1, 1, 1, 1, 1, 1, 0, 1, 0], 1), ([1, 1, 1, 1, 1, 1, 1, 1, 1, 1, 0, 1, 0], 2), ([1, 1, 1, 1, 1, 1, 1, 1, 1, 1, 1, 1, 1, 0, 1, 0], 3), ([1, 1, 1, 1, 1, 1, 1, 1, 1, 1, 1, 1, 1, 1, 0, 1, 0], 4), ([1, 1, 1, 1, 1, 1, 1, 1, 1, 1, 1, 1, 1, 1], 5), ([1, 1, 1, 1, 1, 1, 1, 1, 1, 1, 1], 6)] [1, 1, 1, 1, 1, 1, 1, 1] (by kernel_rfl), J4_3_h1, show (goX Try.prog cfg rc md 209 (bodyOf Try.prog 4) [([1, 1, 1, 1, 1, 0, 1, 0], 0), ([1, 1, 1, 1, 1, 1, 1, 0, 1, 0], 1), ([1, 1, 1, 1, 1, 1, 1, 1, 1, 1, 0, 1, 0], 2), ([1, 1, 1, 1, 1, 1, 1, 1, 1, 1, 1, 1, 1, 0, 1, 0], 3), ([1, 1, 1, 1, 1, 1, 1, 1, 1, 1, 1, 1, 1, 1, 0, 1, 0], 4), ([1, 1, 1, 1, 1, 1, 1, 1, 1, 1, 1, 1, 1, 1], 5), ([1, 1, 1, 1, 1, 1, 1, 1, 1, 1, 1], 6)] (retK Try.prog cfg 4 (rsOf Try.prog 4) h0)) 2 = _ from J4_4_cut rc md h0]
  exact J4_3_h2 rc md h0 t h
theorem J4_3_cut (rc : Rec) (md : Md) (h0 : Heap) : cut Try.prog cfg rc md 209 (bodyOf Try.prog 4) [1, 1, 1, 1, 1, 1, 1, 1] (retK Try.prog cfg 4 (rsOf Try.prog 4) h0) = fun t h => J4_3 rc md h0 (t 0) (t 4) (t 5) (t 7) (t 10) h := funext fun t => funext fun h => J4_3_at rc md h0 t h
noncomputable def Jk4_2 (rc : Rec) (md : Md) (h0 : Heap) (e : Exit) (s0 : Value) (s4 : Value) (s5 : Value) (s7 : Value) (s10 : Value) (s64 : Value) (s65 : Value) (h : Heap) : Option (Value × Heap) :=
  match e with
  | .normal =>
    J4_3 rc md h0 s0 s4 s5 s7 s10 h
  | .exit j =>
    bif Nat.beq j 2 then
      J4_3 rc md h0 s0 s4 s5 s7 s10 h
    else
      none
  | .ret =>
    fin1 h0 s4 h
  | .goto l => none
  | .panic ps => none
  | .outgrown => none
noncomputable def Jk4_2H (rc : Rec) (md : Md) (h0 : Heap) (X7 : T → Heap → Option (Value × Heap)) (e : Exit) (t : T) (h : Heap) : Option (Value × Heap) :=
  match e with
  | .normal =>
    X7 t h
  | .exit j =>
    bif Nat.beq j 2 then
      X7 t h
    else
      none
  | .ret =>
    fin1 h0 (t 4) h
  | .goto l => none
  | .panic ps => none
  | .outgrown => none
theorem Jk4_2_h1 (rc : Rec) (md : Md) (h0 : Heap) (X : Nat → T → Heap → Option (Value × Heap)) (e : Exit) (t : T) (h : Heap) : kAtG Try.prog cfg X rc md 209 (replS (bodyOf Try.prog 4) [([1, 1, 1, 1, 1, 0, 1, 0], 0), ([1, 1, 1, 1, 1, 1, 1, 1, 1, 1, 0, 1, 0], 2), ([1, 1, 1, 1, 1, 1, 1, 1, 1, 1, 1, 1, 1, 0, 1, 0], 3), ([1, 1, 1, 1, 1, 1, 1, 1, 1, 1, 1, 1, 1, 1, 0, 1, 0], 4), ([1, 1, 1, 1, 1, 1, 1, 1, 1, 1, 1, 1, 1, 1], 5), ([1, 1, 1, 1, 1, 1, 1, 1, 1, 1, 1], 6), ([1, 1, 1, 1, 1, 1, 1, 1], 7)]) [1, 1, 1, 1, 1, 1, 1, 0, 1, 0] (retK Try.prog cfg 4 (rsOf Try.prog 4) h0) e t h = Jk4_2H rc md h0 (X 7) e t h := by cases e <;> kernel_rfl
theorem Jk4_2_h2 (rc : Rec) (md : Md) (h0 : Heap) (e : Exit) (t : T) (h : Heap) : Jk4_2H rc md h0 (fun t h => J4_3 rc md h0 (t 0) (t 4) (t 5) (t 7) (t 10) h) e t h = Jk4_2 rc md h0 e (t 0) (t 4) (t 5) (t 7) (t 10) (t 64) (t 65) h := by cases e <;> (unfold Jk4_2H Jk4_2; kernel_rfl)
theorem Jk4_2_at (rc : Rec) (md : Md) (h0 : Heap) (e : Exit) (t : T) (h : Heap) : kAt Try.prog cfg rc md 209 (bodyOf Try.prog 4) [1, 1, 1, 1, 1, 1, 1, 0, 1, 0] (retK Try.prog cfg 4 (rsOf Try.prog 4) h0) e t h = Jk4_2 rc md h0 e (t 0) (t 4) (t 5) (t 7) (t 10) (t 64) (t 65) h := by
  rw [kAt_holes [([1, 1, 1, 1, 1, 0, 1, 0], 0), ([1, 1, 1, 1, 1, 1, 1, 1, 1, 1, 0, 1, 0], 2), ([1, 1, 1, 1, 1, 1, 1, 1, 1, 1, 1, 1, 1, 0, 1, 0], 3), ([1, 1, 1, 1, 1, 1, 1, 1, 1, 1, 1, 1, 1, 1, 0, 1, 0], 4), ([1, 1, 1, 1, 1, 1, 1, 1, 1, 1, 1, 1, 1, 1], 5), ([1, 1, 1, 1, 1, 1, 1, 1, 1, 1, 1], 6), ([1, 1, 1, 1, 1, 1, 1, 1], 7)] [1, 1, 1, 1, 1, 1, 1, 0, 1, 0] (by kernel_rfl), Jk4_2_h1, show (goX Try.prog cfg rc md 209 (bodyOf Try.prog 4) [([1, 1, 1, 1, 1, 0, 1, 0], 0), ([1, 1, 1, 1, 1, 1, 1, 1, 1, 1, 0, 1, 0], 2), ([1, 1, 1, 1, 1, 1, 1, 1, 1, 1, 1, 1, 1, 0, 1, 0], 3), ([1, 1, 1, 1, 1, 1, 1, 1, 1, 1, 1, 1, 1, 1, 0, 1, 0], 4), ([1, 1, 1, 1, 1, 1, 1, 1, 1, 1, 1, 1, 1, 1], 5), ([1, 1, 1, 1, 1, 1, 1, 1, 1, 1, 1], 6), ([1, 1, 1, 1, 1, 1, 1, 1], 7)] (retK Try.prog cfg 4 (rsOf Try.prog 4) h0)) 7 = _ from J4_3_cut rc md h0]
  exact Jk4_2_h2 rc md h0 e t h
noncomputable def Jk4_2b0 (rc : Rec) (md : Md) (e : Exit) (s0 : Value) (s4 : Value) (s5 : Value) (s7 : Value) (s10 : Value) (s11 : Value) (s12 : Value) (s64 : Value) (s65 : Value) (h : Heap) : Option (((Value × Value × Value × Value × Value × Value × Value) × Heap) ⊕ (Exit × (Value × Value × Value × Value × Value × Value × Value) × Heap)) :=
  match e with
  | .normal =>
    aBin Try.prog .add 3 s65 (.int .i64 1) fun v1 =>
    some (.inl ((s0, s4, s5, s7, s10, s64, v1), h))
  | .exit j =>
    bif Nat.beq j 4 then
      aBin Try.prog .add 3 s65 (.int .i64 1) fun v2 =>
      some (.inl ((s0, s4, s5, s7, s10, s64, v2), h))
    else
      bif Nat.beq j 3 then
        aBin Try.prog .add 3 s65 (.int .i64 1) fun v3 =>
        some (.inl ((s0, s4, s5, s7, s10, s64, v3), h))
      else
        some (.inr ((.exit j), (s0, s4, s5, s7, s10, s64, s65), h))
  | .ret =>
    some (.inr (.ret, (s0, s4, s5, s7, s10, s64, s65), h))
  | .goto l => some (.inr ((.goto l), (s0, s4, s5, s7, s10, s64, s65), h))
  | .panic ps => some (.inr ((.panic ps), (s0, s4, s5, s7, s10, s64, s65), h))
  | .outgrown => some (.inr (.outgrown, (s0, s4, s5, s7, s10, s64, s65), h))
theorem Jk4_2b0_at (rc : Rec) (md : Md) (e : Exit) (t : T) (h : Heap) : kAt Try.prog cfg rc md 209 (sub (bodyOf Try.prog 4) [1, 1, 1, 1, 1, 1, 1, 0, 1, 0, 0]) [1, 1, 0, 0, 1, 1, 0] (rndK (fun t => (t 0, t 4, t 5, t 7, t 10, t 64, t 65))) e t h = Jk4_2b0 rc md e (t 0) (t 4) (t 5) (t 7) (t 10) (t 11) (t 12) (t 64) (t 65) h := by cases e <;> kernel_rfl
/-- a round -/
noncomputable def Jr4_2b0 (rc : Rec) (md : Md) (s0 : Value) (s4 : Value) (s5 : Value) (s7 : Value) (s10 : Value) (s11 : Value) (s12 : Value) (s64 : Value) (s65 : Value) (h : Heap) : Option (((Value × Value × Value × Value × Value × Value × Value × Value × Value) × Heap) ⊕ (Exit × (Value × Value × Value × Value × Value × Value × Value × Value × Value) × Heap)) :=
  aBin Try.prog .lss 3 s12 s0 fun v1 =>
  cBn v1 fun b2 =>
  bif b2 then
    aBuild Try.prog 34 [(0, s11), (1, s12)] fun v3 =>
    aLookup Try.prog 29 s7 v3 false h fun v4 =>
    cBn v4 fun b5 =>
    bif b5 then
      aBuild Try.prog 34 [(0, s11), (1, s12)] fun v6 =>
      aBuildSlice Try.prog 37 1 [(0, v6)] h fun v7 h8 =>
      aBuiltin Try.prog md .append #[37, 37] [s10, v7] h8 fun v9 h10 =>
      aBin Try.prog .add 3 s12 (.int .i64 1) fun v11 =>
      some (.inl ((s0, s4, s5, s7, v9, s11, v11, s64, s65), h10))
    else
      aBin Try.prog .add 3 s12 (.int .i64 1) fun v12 =>
      some (.inl ((s0, s4, s5, s7, s10, s11, v12, s64, s65), h))
  else
    some (.inr ((.exit 4), (s0, s4, s5, s7, s10, s11, s12, s64, s65), h))
theorem Jr4_2b0_at (rc : Rec) (md : Md) (t : T) (h : Heap) : exec Try.prog cfg rc md 209 (sub (bodyOf Try.prog 4) [1, 1, 1, 1, 1, 1, 1, 0, 1, 0, 0, 1, 1, 0, 0, 1, 1, 0, 0]) (rndK (fun t => (t 0, t 4, t 5, t 7, t 10, t 11, t 12, t 64, t 65))) t h = Jr4_2b0 rc md (t 0) (t 4) (t 5) (t 7) (t 10) (t 11) (t 12) (t 64) (t 65) h := by kernel_rfl
noncomputable def J4_2b0 (rc : Rec) (md : Md) (s0 : Value) (s4 : Value) (s5 : Value) (s7 : Value) (s10 : Value) (s11 : Value) (s12 : Value) (s64 : Value) (s65 : Value) (h : Heap) : Option (((Value × Value × Value × Value × Value × Value × Value) × Heap) ⊕ (Exit × (Value × Value × Value × Value × Value × Value × Value) × Heap)) :=
  runL (fun x : (Value × Value × Value × Value × Value × Value × Value × Value × Value) × Heap => Jr4_2b0 rc md x.1.1 x.1.2.1 x.1.2.2.1 x.1.2.2.2.1 x.1.2.2.2.2.1 x.1.2.2.2.2.2.1 x.1.2.2.2.2.2.2.1 x.1.2.2.2.2.2.2.2.1 x.1.2.2.2.2.2.2.2.2 x.2) (fun e (s : Value × Value × Value × Value × Value × Value × Value × Value × Value) h => Jk4_2b0 rc md e s.1 s.2.1 s.2.2.1 s.2.2.2.1 s.2.2.2.2.1 s.2.2.2.2.2.1 s.2.2.2.2.2.2.1 s.2.2.2.2.2.2.2.1 s.2.2.2.2.2.2.2.2 h) (s0, s4, s5, s7, s10, s11, s12, s64, s65) h
theorem J4_2b0_step (rc : Rec) (md : Md) (s0 : Value) (s4 : Value) (s5 : Value) (s7 : Value) (s10 : Value) (s11 : Value) (s12 : Value) (s64 : Value) (s65 : Value) (h : Heap) : J4_2b0 rc md s0 s4 s5 s7 s10 s11 s12 s64 s65 h = (Jr4_2b0 rc md s0 s4 s5 s7 s10 s11 s12 s64 s65 h).bind fun x => match x with
    | .inl (s, h) => J4_2b0 rc md s.1 s.2.1 s.2.2.1 s.2.2.2.1 s.2.2.2.2.1 s.2.2.2.2.2.1 s.2.2.2.2.2.2.1 s.2.2.2.2.2.2.2.1 s.2.2.2.2.2.2.2.2 h
    | .inr (e, s, h) => Jk4_2b0 rc md e s.1 s.2.1 s.2.2.1 s.2.2.2.1 s.2.2.2.2.1 s.2.2.2.2.2.1 s.2.2.2.2.2.2.1 s.2.2.2.2.2.2.2.1 s.2.2.2.2.2.2.2.2 h := by
  unfold J4_2b0
  rw [runL_eq]
  refine congrArg (Option.bind _) (funext fun x => ?_)
  rcases x with ⟨s, h⟩ | ⟨e, s, h⟩ <;> rfl
theorem J4_2b0_cut (rc : Rec) (md : Md) : cut Try.prog cfg rc md 209 (sub (bodyOf Try.prog 4) [1, 1, 1, 1, 1, 1, 1, 0, 1, 0, 0]) [1, 1, 0, 0, 1, 1, 0] (rndK (fun t => (t 0, t 4, t 5, t 7, t 10, t 64, t 65))) = fun t h => J4_2b0 rc md (t 0) (t 4) (t 5) (t 7) (t 10) (t 11) (t 12) (t 64) (t 65) h := by
  funext t h
  have e : sub (sub (bodyOf Try.prog 4) [1, 1, 1, 1, 1, 1, 1, 0, 1, 0, 0]) [1, 1, 0, 0, 1, 1, 0] = .loop (sub (bodyOf Try.prog 4) [1, 1, 1, 1, 1, 1, 1, 0, 1, 0, 0, 1, 1, 0, 0, 1, 1, 0, 0]) := by kernel_rfl
  unfold cut
  rw [e]
  exact loop_eq (by kernel_rfl) (fun t => (t 0, t 4, t 5, t 7, t 10, t 11, t 12, t 64, t 65)) (fun x : (Value × Value × Value × Value × Value × Value × Value × Value × Value) × Heap => Jr4_2b0 rc md x.1.1 x.1.2.1 x.1.2.2.1 x.1.2.2.2.1 x.1.2.2.2.2.1 x.1.2.2.2.2.2.1 x.1.2.2.2.2.2.2.1 x.1.2.2.2.2.2.2.2.1 x.1.2.2.2.2.2.2.2.2 x.2) (fun t h => Jr4_2b0_at rc md t h) (fun e (s : Value × Value × Value × Value × Value × Value × Value × Value × Value) h => Jk4_2b0 rc md e s.1 s.2.1 s.2.2.1 s.2.2.2.1 s.2.2.2.2.1 s.2.2.2.2.2.1 s.2.2.2.2.2.2.1 s.2.2.2.2.2.2.2.1 s.2.2.2.2.2.2.2.2 h) (fun e t h => Jk4_2b0_at rc md e t h) t h
/-- a round -/
noncomputable def Jr4_2 (rc : Rec) (md : Md) (s0 : Value) (s4 : Value) (s5 : Value) (s7 : Value) (s10 : Value) (s64 : Value) (s65 : Value) (h : Heap) : Option (((Value × Value × Value × Value × Value × Value × Value) × Heap) ⊕ (Exit × (Value × Value × Value × Value × Value × Value × Value) × Heap)) :=
  aBin Try.prog .lss 3 s65 s64 fun v1 =>
  cBn v1 fun b2 =>
  bif b2 then
    aBin Try.prog .add 3 s65 (.int .i64 1) fun v3 =>
    J4_2b0 rc md s0 s4 s5 s7 s10 s65 v3 s64 s65 h
  else
    some (.inr ((.exit 2), (s0, s4, s5, s7, s10, s64, s65), h))
noncomputable def Jr4_2H (rc : Rec) (md : Md) (X0 : T → Heap → Option (((Value × Value × Value × Value × Value × Value × Value) × Heap) ⊕ (Exit × (Value × Value × Value × Value × Value × Value × Value) × Heap))) (t : T) (h : Heap) : Option (((Value × Value × Value × Value × Value × Value × Value) × Heap) ⊕ (Exit × (Value × Value × Value × Value × Value × Value × Value) × Heap)) :=
  aBin Try.prog .lss 3 (t 65) (t 64) fun v1 =>
  cBn v1 fun b2 =>
  bif b2 then
    aBin Try.prog .add 3 (t 65) (.int .i64 1) fun v3 =>
    X0 (upd (upd (upd (upd (upd (upd t 66 v1) 67 (t 65)) 11 (t 65)) 68 (t 65)) 69 v3) 12 v3) h
  else
    some (.inr ((.exit 2), ((t 0), (t 4), (t 5), (t 7), (t 10), (t 64), (t 65)), h))
theorem Jr4_2_h1 (rc : Rec) (md : Md) (X : Nat → T → Heap → Option (((Value × Value × Value × Value × Value × Value × Value) × Heap) ⊕ (Exit × (Value × Value × Value × Value × Value × Value × Value) × Heap))) (t : T) (h : Heap) : execG Try.prog cfg X rc md 209 (replS (sub (bodyOf Try.prog 4) [1, 1, 1, 1, 1, 1, 1, 0, 1, 0, 0]) [([1, 1, 0, 0, 1, 1, 0], 0)]) (rndK (fun t => (t 0, t 4, t 5, t 7, t 10, t 64, t 65))) t h = Jr4_2H rc md (X 0) t h := by kernel_rfl
theorem Jr4_2_h2 (rc : Rec) (md : Md) (t : T) (h : Heap) : Jr4_2H rc md (fun t h => J4_2b0 rc md (t 0) (t 4) (t 5) (t 7) (t 10) (t 11) (t 12) (t 64) (t 65) h) t h = Jr4_2 rc md (t 0) (t 4) (t 5) (t 7) (t 10) (t 64) (t 65) h := by unfold Jr4_2H Jr4_2; kernel_rfl
theorem Jr4_2_at (rc : Rec) (md : Md) (t : T) (h : Heap) : exec Try.prog cfg rc md 209 (sub (bodyOf Try.prog 4) [1, 1, 1, 1, 1, 1, 1, 0, 1, 0, 0]) (rndK (fun t => (t 0, t 4, t 5, t 7, t 10, t 64, t 65))) t h = Jr4_2 rc md (t 0) (t 4) (t 5) (t 7) (t 10) (t 64) (t 65) h := by
  rw [exec_holes [([1, 1, 0, 0, 1, 1, 0], 0)] (by kernel_rfl), Jr4_2_h1, show (goX Try.prog cfg rc md 209 (sub (bodyOf Try.prog 4) [1, 1, 1, 1, 1, 1, 1, 0, 1, 0, 0]) [([1, 1, 0, 0, 1, 1, 0], 0)] (rndK (fun t => (t 0, t 4, t 5, t 7, t 10, t 64, t 65)))) 0 = _ from J4_2b0_cut rc md]
  exact Jr4_2_h2 rc md t h
noncomputable def J4_2 (rc : Rec) (md : Md) (h0 : Heap) (s0 : Value) (s4 : Value) (s5 : Value) (s7 : Value) (s10 : Value) (s64 : Value) (s65 : Value) (h : Heap) : Option (Value × Heap) :=
  runL (fun x : (Value × Value × Value × Value × Value × Value × Value) × Heap => Jr4_2 rc md x.1.1 x.1.2.1 x.1.2.2.1 x.1.2.2.2.1 x.1.2.2.2.2.1 x.1.2.2.2.2.2.1 x.1.2.2.2.2.2.2 x.2) (fun e (s : Value × Value × Value × Value × Value × Value × Value) h => Jk4_2 rc md h0 e s.1 s.2.1 s.2.2.1 s.2.2.2.1 s.2.2.2.2.1 s.2.2.2.2.2.1 s.2.2.2.2.2.2 h) (s0, s4, s5, s7, s10, s64, s65) h
theorem J4_2_step (rc : Rec) (md : Md) (h0 : Heap) (s0 : Value) (s4 : Value) (s5 : Value) (s7 : Value) (s10 : Value) (s64 : Value) (s65 : Value) (h : Heap) : J4_2 rc md h0 s0 s4 s5 s7 s10 s64 s65 h = (Jr4_2 rc md s0 s4 s5 s7 s10 s64 s65 h).bind fun x => match x with
    | .inl (s, h) => J4_2 rc md h0 s.1 s.2.1 s.2.2.1 s.2.2.2.1 s.2.2.2.2.1 s.2.2.2.2.2.1 s.2.2.2.2.2.2 h
    | .inr (e, s, h) => Jk4_2 rc md h0 e s.1 s.2.1 s.2.2.1 s.2.2.2.1 s.2.2.2.2.1 s.2.2.2.2.2.1 s.2.2.2.2.2.2 h := by
  unfold J4_2
  rw [runL_eq]
  refine congrArg (Option.bind _) (funext fun x => ?_)
  rcases x with ⟨s, h⟩ | ⟨e, s, h⟩ <;> rfl
theorem J4_2_cut (rc : Rec) (md : Md) (h0 : Heap) : cut Try.prog cfg rc md 209 (bodyOf Try.prog 4) [1, 1, 1, 1, 1, 1, 1, 0, 1, 0] (retK Try.prog cfg 4 (rsOf Try.prog 4) h0) = fun t h => J4_2 rc md h0 (t 0) (t 4) (t 5) (t 7) (t 10) (t 64) (t 65) h := by
  funext t h
  have e : sub (bodyOf Try.prog 4) [1, 1, 1, 1, 1, 1, 1, 0, 1, 0] = .loop (sub (bodyOf Try.prog 4) [1, 1, 1, 1, 1, 1, 1, 0, 1, 0, 0]) := by kernel_rfl
  unfold cut
  rw [e]
  exact loop_eq (by kernel_rfl) (fun t => (t 0, t 4, t 5, t 7, t 10, t 64, t 65)) (fun x : (Value × Value × Value × Value × Value × Value × Value) × Heap => Jr4_2 rc md x.1.1 x.1.2.1 x.1.2.2.1 x.1.2.2.2.1 x.1.2.2.2.2.1 x.1.2.2.2.2.2.1 x.1.2.2.2.2.2.2 x.2) (fun t h => Jr4_2_at rc md t h) (fun e (s : Value × Value × Value × Value × Value × Value × Value) h => Jk4_2 rc md h0 e s.1 s.2.1 s.2.2.1 s.2.2.2.1 s.2.2.2.2.1 s.2.2.2.2.2.1 s.2.2.2.2.2.2 h) (fun e t h => Jk4_2_at rc md h0 e t h) t h
noncomputable def J4_1 (rc : Rec) (md : Md) (h0 : Heap) (s0 : Value) (s4 : Value) (s5 : Value) (s7 : Value) (h : Heap) : Option (Value × Heap) :=
  J4_2 rc md h0 s0 s4 s5 s7 (.slice none 0 0) s0 (.int .i64 0) h
noncomputable def J4_1H (rc : Rec) (md : Md) (h0 : Heap) (X1 : T → Heap → Option (Value × Heap)) (t : T) (h : Heap) : Option (Value × Heap) :=
  X1 (upd (upd (upd t 10 (.slice none 0 0)) 64 (t 0)) 65 (.int .i64 0)) h
theorem J4_1_h1 (rc : Rec) (md : Md) (h0 : Heap) (X : Nat → T → Heap → Option (Value × Heap)) (t : T) (h : Heap) : execG Try.prog cfg X rc md 209 (sub (replS (bodyOf Try.prog 4) [([1, 1, 1, 1, 1, 0, 1, 0], 0), ([1, 1, 1, 1, 1, 1, 1, 0, 1, 0], 1), ([1, 1, 1, 1, 1, 1, 1, 1, 1, 1, 0, 1, 0], 2), ([1, 1, 1, 1, 1, 1, 1, 1, 1, 1, 1, 1, 1, 0, 1, 0], 3), ([1, 1, 1, 1, 1, 1, 1, 1, 1, 1, 1, 1, 1, 1, 0, 1, 0], 4), ([1, 1, 1, 1, 1, 1, 1, 1, 1, 1, 1, 1, 1, 1], 5), ([1, 1, 1, 1, 1, 1, 1, 1, 1, 1, 1], 6), ([1, 1, 1, 1, 1, 1, 1, 1], 7)]) [1, 1, 1, 1, 1, 1]) (kAtG Try.prog cfg X rc md 209 (replS (bodyOf Try.prog 4) [([1, 1, 1, 1, 1, 0, 1, 0], 0), ([1, 1, 1, 1, 1, 1, 1, 0, 1, 0], 1), ([1, 1, 1, 1, 1, 1, 1, 1, 1, 1, 0, 1, 0], 2), ([1, 1, 1, 1, 1, 1, 1, 1, 1, 1, 1, 1, 1, 0, 1, 0], 3), ([1, 1, 1, 1, 1, 1, 1, 1, 1, 1, 1, 1, 1, 1, 0, 1, 0], 4), ([1, 1, 1, 1, 1, 1, 1, 1, 1, 1, 1, 1, 1, 1], 5), ([1, 1, 1, 1, 1, 1, 1, 1, 1, 1, 1], 6), ([1, 1, 1, 1, 1, 1, 1, 1], 7)]) [1, 1, 1, 1, 1, 1] (retK Try.prog cfg 4 (rsOf Try.prog 4) h0)) t h = J4_1H rc md h0 (X 1) t h := by kernel_rfl
theorem J4_1_h2 (rc : Rec) (md : Md) (h0 : Heap) (t : T) (h : Heap) : J4_1H rc md h0 (fun t h => J4_2 rc md h0 (t 0) (t 4) (t 5) (t 7) (t 10) (t 64) (t 65) h) t h = J4_1 rc md h0 (t 0) (t 4) (t 5) (t 7) h := by (unfold J4_1H J4_1; kernel_rfl)
theorem J4_1_at (rc : Rec) (md : Md) (h0 : Heap) (t : T) (h : Heap) : cut Try.prog cfg rc md 209 (bodyOf Try.prog 4) [1, 1, 1, 1, 1, 1] (retK Try.prog cfg 4 (rsOf Try.prog 4) h0) t h = J4_1 rc md h0 (t 0) (t 4) (t 5) (t 7) h := by
  rw [cut_holes [([1, 1, 1, 1, 1, 0, 1, 0], 0), ([1, 1, 1, 1, 1, 1, 1, 0, 1, 0], 1), ([1, 1, 1, 1, 1, 1, 1, 1, 1, 1, 0, 1, 0], 2), ([1, 1, 1, 1, 1, 1, 1, 1, 1, 1, 1, 1, 1, 0, 1, 0], 3), ([1, 1, 1, 1, 1, 1, 1, 1, 1, 1, 1, 1, 1, 1, 0, 1, 0], 4), ([1, 1, 1, 1, 1, 1, 1, 1, 1, 1, 1, 1, 1, 1], 5), ([1, 1, 1, 1, 1, 1, 1, 1, 1, 1, 1], 6), ([1, 1, 1, 1, 1, 1, 1, 1], 7)] [1, 1, 1, 1, 1, 1] (by kernel_rfl), J4_1_h1, show (goX Try.prog cfg rc md 209 (bodyOf Try.prog 4) [([1, 1, 1, 1, 1, 0, 1, 0], 0), ([1, 1, 1, 1, 1, 1, 1, 0, 1, 0], 1), ([1, 1, 1, 1, 1, 1, 1, 1, 1, 1, 0, 1, 0], 2), ([1, 1, 1, 1, 1, 1, 1, 1, 1, 1, 1, 1, 1, 0, 1, 0], 3), ([1, 1, 1, 1, 1, 1, 1, 1, 1, 1, 1, 1, 1, 1, 0, 1, 0], 4), ([1, 1, 1, 1, 1, 1, 1, 1, 1, 1, 1, 1, 1, 1], 5), ([1, 1, 1, 1, 1, 1, 1, 1, 1, 1, 1], 6), ([1, 1, 1, 1, 1, 1, 1, 1], 7)] (retK Try.prog cfg 4 (rsOf Try.prog 4) h0)) 1 = _ from J4_2_cut rc md h0]
  exact J4_1_h2 rc md h0 t h
theorem J4_1_cut (rc : Rec) (md : Md) (h0 : Heap) : cut Try.prog cfg rc md 209 (bodyOf Try.prog 4) [1, 1, 1, 1, 1, 1] (retK Try.prog cfg 4 (rsOf Try.prog 4) h0) = fun t h => J4_1 rc md h0 (t 0) (t 4) (t 5) (t 7) h := funext fun t => funext fun h => J4_1_at rc md h0 t h
noncomputable def Jk4_0 (rc : Rec) (md : Md) (h0 : Heap) (e : Exit) (s0 : Value) (s4 : Value) (s5 : Value) (s7 : Value) (s51 : Value) (s52 : Value) (s53 : Value) (h : Heap) : Option (Value × Heap) :=
  match e with
  | .normal =>
    J4_1 rc md h0 s0 s4 s5 s7 h
  | .exit j =>
    bif Nat.beq j 0 then
      J4_1 rc md h0 s0 s4 s5 s7 h
    else
      none
  | .ret =>
    fin1 h0 s4 h
  | .goto l => none
  | .panic ps => none
  | .outgrown => none
noncomputable def Jk4_0H (rc : Rec) (md : Md) (h0 : Heap) (X8 : T → Heap → Option (Value × Heap)) (e : Exit) (t : T) (h : Heap) : Option (Value × Heap) :=
  match e with
  | .normal =>
    X8 t h
  | .exit j =>
    bif Nat.beq j 0 then
      X8 t h
    else
      none
  | .ret =>
    fin1 h0 (t 4) h
  | .goto l => none
  | .panic ps => none
  | .outgrown => none
theorem Jk4_0_h1 (rc : Rec) (md : Md) (h0 : Heap) (X : Nat → T → Heap → Option (Value × Heap)) (e : Exit) (t : T) (h : Heap) : kAtG Try.prog cfg X rc md 209 (replS (bodyOf Try.prog 4) [([1, 1, 1, 1, 1, 1, 1, 0, 1, 0], 1), ([1, 1, 1, 1, 1, 1, 1, 1, 1, 1, 0, 1, 0], 2), ([1, 1, 1, 1, 1, 1, 1, 1, 1, 1, 1, 1, 1, 0, 1, 0], 3), ([1, 1, 1, 1, 1, 1, 1, 1, 1, 1, 1, 1, 1, 1, 0, 1, 0], 4), ([1, 1, 1, 1, 1, 1, 1, 1, 1, 1, 1, 1, 1, 1], 5), ([1, 1, 1, 1, 1, 1, 1, 1, 1, 1, 1], 6), ([1, 1, 1, 1, 1, 1, 1, 1], 7), ([1, 1, 1, 1, 1, 1], 8)]) [1, 1, 1, 1, 1, 0, 1, 0] (retK Try.prog cfg 4 (rsOf Try.prog 4) h0) e t h = Jk4_0H rc md h0 (X 8) e t h := by cases e <;> kernel_rfl
theorem Jk4_0_h2 (rc : Rec) (md : Md) (h0 : Heap) (e : Exit) (t : T) (h : Heap) : Jk4_0H rc md h0 (fun t h => J4_1 rc md h0 (t 0) (t 4) (t 5) (t 7) h) e t h = Jk4_0 rc md h0 e (t 0) (t 4) (t 5) (t 7) (t 51) (t 52) (t 53) h := by cases e <;> (unfold Jk4_0H Jk4_0; kernel_rfl)
theorem Jk4_0_at (rc : Rec) (md : Md) (h0 : Heap) (e : Exit) (t : T) (h : Heap) : kAt Try.prog cfg rc md 209 (bodyOf Try.prog 4) [1, 1, 1, 1, 1, 0, 1, 0] (retK Try.prog cfg 4 (rsOf Try.prog 4) h0) e t h = Jk4_0 rc md h0 e (t 0) (t 4) (t 5) (t 7) (t 51) (t 52) (t 53) h := by
  rw [kAt_holes [([1, 1, 1, 1, 1, 1, 1, 0, 1, 0], 1), ([1, 1, 1, 1, 1, 1, 1, 1, 1, 1, 0, 1, 0], 2), ([1, 1, 1, 1, 1, 1, 1, 1, 1, 1, 1, 1, 1, 0, 1, 0], 3), ([1, 1, 1, 1, 1, 1, 1, 1, 1, 1, 1, 1, 1, 1, 0, 1, 0], 4), ([1, 1, 1, 1, 1, 1, 1, 1, 1, 1, 1, 1, 1, 1], 5), ([1, 1, 1, 1, 1, 1, 1, 1, 1, 1, 1], 6), ([1, 1, 1, 1, 1, 1, 1, 1], 7), ([1, 1, 1, 1, 1, 1], 8)] [1, 1, 1, 1, 1, 0, 1, 0] (by kernel_rfl), Jk4_0_h1, show (goX Try.prog cfg rc md 209 (bodyOf Try.prog 4) [([1, 1, 1, 1, 1, 1, 1, 0, 1, 0], 1), ([1, 1, 1, 1, 1, 1, 1, 1, 1, 1, 0, 1, 0], 2), ([1, 1, 1, 1, 1, 1, 1, 1, 1, 1, 1, 1, 1, 0, 1, 0], 3), ([1, 1, 1, 1, 1, 1, 1, 1, 1, 1, 1, 1, 1, 1, 0, 1, 0], 4), ([1, 1, 1, 1, 1, 1, 1, 1, 1, 1, 1, 1, 1, 1], 5), ([1, 1, 1, 1, 1, 1, 1, 1, 1, 1, 1], 6), ([1, 1, 1, 1, 1, 1, 1, 1], 7), ([1, 1, 1, 1, 1, 1], 8)] (retK Try.prog cfg 4 (rsOf Try.prog 4) h0)) 8 = _ from J4_1_cut rc md h0]
  exact Jk4_0_h2 rc md h0 e t h
/-- a round -/
noncomputable def Jr4_0 (rc : Rec) (md : Md) (s0 : Value) (s4 : Value) (s5 : Value) (s7 : Value) (s51 : Value) (s52 : Value) (s53 : Value) (h : Heap) : Option (((Value × Value × Value × Value × Value × Value × Value) × Heap) ⊕ (Exit × (Value × Value × Value × Value × Value × Value × Value) × Heap)) :=
  aBin Try.prog .lss 3 s53 s52 fun v1 =>
  cBn v1 fun b2 =>
  bif b2 then
    ixSV 3 s51 s53 fun v3 =>
    ldN 3 v3 h fun v4 =>
    let h5 : Heap := h ++ [.own [(.int .i64 0), (.int .i64 0), (.int .i64 0)]]
    st md 3 (.pointer (some ⟨h.length, 0, none⟩)) v4 h5 fun h6 =>
    ldN 3 (.pointer (some ⟨h.length, 0, none⟩)) h6 fun v7 =>
    cl (rc md 12 [s5, s7, s0, v7] h6) fun v8 h9 =>
    cBn v8 fun b10 =>
    bif !b10 then
      some (.inr (.ret, (s0, (.bool false), s5, s7, s51, s52, s53), h9))
    else
      aBin Try.prog .add 3 s53 (.int .i64 1) fun v11 =>
      some (.inl ((s0, s4, s5, s7, s51, s52, v11), h9))
  else
    some (.inr ((.exit 0), (s0, s4, s5, s7, s51, s52, s53), h))
theorem Jr4_0_at (rc : Rec) (md : Md) (t : T) (h : Heap) : exec Try.prog cfg rc md 209 (sub (bodyOf Try.prog 4) [1, 1, 1, 1, 1, 0, 1, 0, 0]) (rndK (fun t => (t 0, t 4, t 5, t 7, t 51, t 52, t 53))) t h = Jr4_0 rc md (t 0) (t 4) (t 5) (t 7) (t 51) (t 52) (t 53) h := by kernel_rfl
noncomputable def J4_0 (rc : Rec) (md : Md) (h0 : Heap) (s0 : Value) (s4 : Value) (s5 : Value) (s7 : Value) (s51 : Value) (s52 : Value) (s53 : Value) (h : Heap) : Option (Value × Heap) :=
  runL (fun x : (Value × Value × Value × Value × Value × Value × Value) × Heap => Jr4_0 rc md x.1.1 x.1.2.1 x.1.2.2.1 x.1.2.2.2.1 x.1.2.2.2.2.1 x.1.2.2.2.2.2.1 x.1.2.2.2.2.2.2 x.2) (fun e (s : Value × Value × Value × Value × Value × Value × Value) h => Jk4_0 rc md h0 e s.1 s.2.1 s.2.2.1 s.2.2.2.1 s.2.2.2.2.1 s.2.2.2.2.2.1 s.2.2.2.2.2.2 h) (s0, s4, s5, s7, s51, s52, s53) h
theorem J4_0_step (rc : Rec) (md : Md) (h0 : Heap) (s0 : Value) (s4 : Value) (s5 : Value) (s7 : Value) (s51 : Value) (s52 : Value) (s53 : Value) (h : Heap) : J4_0 rc md h0 s0 s4 s5 s7 s51 s52 s53 h = (Jr4_0 rc md s0 s4 s5 s7 s51 s52 s53 h).bind fun x => match x with
    | .inl (s, h) => J4_0 rc md h0 s.1 s.2.1 s.2.2.1 s.2.2.2.1 s.2.2.2.2.1 s.2.2.2.2.2.1 s.2.2.2.2.2.2 h
    | .inr (e, s, h) => Jk4_0 rc md h0 e s.1 s.2.1 s.2.2.1 s.2.2.2.1 s.2.2.2.2.1 s.2.2.2.2.2.1 s.2.2.2.2.2.2 h := by
  unfold J4_0
  rw [runL_eq]
  refine congrArg (Option.bind _) (funext fun x => ?_)
  rcases x with ⟨s, h⟩ | ⟨e, s, h⟩ <;> rfl
theorem J4_0_cut (rc : Rec) (md : Md) (h0 : Heap) : cut Try.prog cfg rc md 209 (bodyOf Try.prog 4) [1, 1, 1, 1, 1, 0, 1, 0] (retK Try.prog cfg 4 (rsOf Try.prog 4) h0) = fun t h => J4_0 rc md h0 (t 0) (t 4) (t 5) (t 7) (t 51) (t 52) (t 53) h := by
  funext t h
  have e : sub (bodyOf Try.prog 4) [1, 1, 1, 1, 1, 0, 1, 0] = .loop (sub (bodyOf Try.prog 4) [1, 1, 1, 1, 1, 0, 1, 0, 0]) := by kernel_rfl
  unfold cut
  rw [e]
  exact loop_eq (by kernel_rfl) (fun t => (t 0, t 4, t 5, t 7, t 51, t 52, t 53)) (fun x : (Value × Value × Value × Value × Value × Value × Value) × Heap => Jr4_0 rc md x.1.1 x.1.2.1 x.1.2.2.1 x.1.2.2.2.1 x.1.2.2.2.2.1 x.1.2.2.2.2.2.1 x.1.2.2.2.2.2.2 x.2) (fun t h => Jr4_0_at rc md t h) (fun e (s : Value × Value × Value × Value × Value × Value × Value) h => Jk4_0 rc md h0 e s.1 s.2.1 s.2.2.1 s.2.2.2.1 s.2.2.2.2.1 s.2.2.2.2.2.1 s.2.2.2.2.2.2 h) (fun e t h => Jk4_0_at rc md h0 e t h) t h
noncomputable def F4 (rc : Rec) (md : Md) (a0 : Int) (a1 : Value) (h0 : Heap) : Option (Value × Heap) :=
  lenS a1 fun v1 =>
  cIn .i64 v1 fun n2 =>
  (bif wantV (.bool (decide (n2 > 60))) false then
  some ((.int .i64 a0), h0)
  else some (undef, h0)).bind fun p3 =>
  (bif wantV (.bool (decide (n2 > 60))) false then
  aBin Try.prog .lss 3 p3.1 (.int .i64 1) fun v4 =>
  some (v4, p3.2)
  else some (undef, p3.2)).bind fun p5 =>
  cBn (bif (decide (n2 > 60)) then (.bool true) else p5.1) fun b6 =>
  (bif wantV (.bool b6) false then
  some ((.int .i64 a0), p5.2)
  else some (undef, p5.2)).bind fun p7 =>
  (bif wantV (.bool b6) false then
  aBin Try.prog .gtr 3 p7.1 (.int .i64 16) fun v8 =>
  some (v8, p7.2)
  else some (undef, p7.2)).bind fun p9 =>
  cBn (bif b6 then (.bool true) else p9.1) fun b10 =>
  bif b10 then
    cl (rc md 10 [] p9.2) fun v11 h12 =>
    cBn v11 fun b13 =>
    some ((.bool b13), List.take h0.length h12)
  else
    cl (rc md 11 [(.int .i64 a0)] p9.2) fun v14 h15 =>
    exT v14 0 fun v16 =>
    exT v14 1 fun v17 =>
    cIn .i64 v17 fun n18 =>
    (bif wantV (.bool (n18 != 0)) false then
    some (v16, h15)
    else some (undef, h15)).bind fun p19 =>
    (bif wantV (.bool (n18 != 0)) false then
    aBin Try.prog .eql 24 p19.1 (.pointer none) fun v20 =>
    some (v20, p19.2)
    else some (undef, p19.2)).bind fun p21 =>
    cBn (bif (n18 != 0) then (.bool true) else p21.1) fun b22 =>
    bif b22 then
      some ((.bool false), List.take h0.length p21.2)
    else
      aMakeMap Try.prog 29 p21.2 fun v23 h24 =>
      lenS a1 fun v25 =>
      cIn .i64 v25 fun n26 =>
      J4_0 rc md h0 (.int .i64 a0) (.bool false) v16 v23 a1 (.int .i64 n26) (.int .i64 0) h24
noncomputable def F4H (rc : Rec) (md : Md) (X0 : T → Heap → Option (Value × Heap)) (a0 : Int) (a1 : Value) (h0 : Heap) : Option (Value × Heap) :=
  lenS a1 fun v1 =>
  cIn .i64 v1 fun n2 =>
  (bif wantV (.bool (decide (n2 > 60))) false then
  some ((.int .i64 a0), h0)
  else some (undef, h0)).bind fun p3 =>
  (bif wantV (.bool (decide (n2 > 60))) false then
  aBin Try.prog .lss 3 p3.1 (.int .i64 1) fun v4 =>
  some (v4, p3.2)
  else some (undef, p3.2)).bind fun p5 =>
  cBn (bif (decide (n2 > 60)) then (.bool true) else p5.1) fun b6 =>
  (bif wantV (.bool b6) false then
  some ((.int .i64 a0), p5.2)
  else some (undef, p5.2)).bind fun p7 =>
  (bif wantV (.bool b6) false then
  aBin Try.prog .gtr 3 p7.1 (.int .i64 16) fun v8 =>
  some (v8, p7.2)
  else some (undef, p7.2)).bind fun p9 =>
  cBn (bif b6 then (.bool true) else p9.1) fun b10 =>
  bif b10 then
    cl (rc md 10 [] p9.2) fun v11 h12 =>
    cBn v11 fun b13 =>
    some ((.bool b13), List.take h0.length h12)
  else
    cl (rc md 11 [(.int .i64 a0)] p9.2) fun v14 h15 =>
    exT v14 0 fun v16 =>
    exT v14 1 fun v17 =>
    cIn .i64 v17 fun n18 =>
    (bif wantV (.bool (n18 != 0)) false then
    some (v16, h15)
    else some (undef, h15)).bind fun p19 =>
    (bif wantV (.bool (n18 != 0)) false then
    aBin Try.prog .eql 24 p19.1 (.pointer none) fun v20 =>
    some (v20, p19.2)
    else some (undef, p19.2)).bind fun p21 =>
    cBn (bif (n18 != 0) then (.bool true) else p21.1) fun b22 =>
    bif b22 then
      some ((.bool false), List.take h0.length p21.2)
    else
      aMakeMap Try.prog 29 p21.2 fun v23 h24 =>
      lenS a1 fun v25 =>
      cIn .i64 v25 fun n26 =>
      X0 (upd (upd (upd (upd (upd (upd (upd (upd (upd (upd (upd (upd (upd (upd (upd (upd (upd (upd (upd (upd (upd (upd (upd (upd (upd (upd (upd (upd (upd (upd (args0 [(.int .i64 a0), a1]) 4 (.bool false)) 27 a1) 28 (.int .i64 n2)) 29 (.bool (decide (n2 > 60)))) 30 (.bool (decide (n2 > 60)))) 31 p3.1) 32 p5.1) 33 (.bool b6)) 34 (.bool b6)) 35 p7.1) 36 p9.1) 37 (.bool b10)) 40 (.int .i64 a0)) 41 v14) 39 v14) 42 v16) 43 (.int .i64 n18)) 5 v16) 6 (.int .i64 n18)) 44 (.int .i64 n18)) 45 (.bool (n18 != 0))) 46 (.bool (n18 != 0))) 47 p19.1) 48 p21.1) 49 (.bool b22)) 50 v23) 7 v23) 51 a1) 52 (.int .i64 n26)) 53 (.int .i64 0)) h24
theorem F4_h0 (rc : Rec) (md : Md) (a0 : Int) (a1 : Value) (h0 : Heap) : callStep0 Try.prog cfg rc md 4 [(.int .i64 a0), a1] h0 = exec Try.prog cfg rc ⟨md.ro, h0.length⟩ 209 (bodyOf Try.prog 4) (retK Try.prog cfg 4 (rsOf Try.prog 4) h0) (args0 [(.int .i64 a0), a1]) h0 := callStep0_run (by kernel_rfl) (by kernel_rfl) (by kernel_rfl)
theorem F4_h1 (rc : Rec) (md : Md) (X : Nat → T → Heap → Option (Value × Heap)) (a0 : Int) (a1 : Value) (h0 : Heap) : execG Try.prog cfg X rc md 209 (replS (bodyOf Try.prog 4) [([1, 1, 1, 1, 1, 0, 1, 0], 0), ([1, 1, 1, 1, 1, 1, 1, 0, 1, 0], 1), ([1, 1, 1, 1, 1, 1, 1, 1, 1, 1, 0, 1, 0], 2), ([1, 1, 1, 1, 1, 1, 1, 1, 1, 1, 1, 1, 1, 0, 1, 0], 3), ([1, 1, 1, 1, 1, 1, 1, 1, 1, 1, 1, 1, 1, 1, 0, 1, 0], 4), ([1, 1, 1, 1, 1, 1, 1, 1, 1, 1, 1, 1, 1, 1], 5), ([1, 1, 1, 1, 1, 1, 1, 1, 1, 1, 1], 6), ([1, 1, 1, 1, 1, 1, 1, 1], 7), ([1, 1, 1, 1, 1, 1], 8)]) (retK Try.prog cfg 4 (rsOf Try.prog 4) h0) (args0 [(.int .i64 a0), a1]) h0 = F4H rc md (X 0) a0 a1 h0 := by kernel_rfl
theorem F4_h2 (rc : Rec) (md : Md) (a0 : Int) (a1 : Value) (h0 : Heap) : F4H rc md (fun t h => J4_0 rc md h0 (t 0) (t 4) (t 5) (t 7) (t 51) (t 52) (t 53) h) a0 a1 h0 = F4 rc md a0 a1 h0 := by unfold F4H F4; kernel_rfl
theorem F4_eq0 (rc : Rec) (md : Md) (a0 : Int) (a1 : Value) (h0 : Heap) : callStep0 Try.prog cfg rc md 4 [(.int .i64 a0), a1] h0 = F4 rc ⟨md.ro, h0.length⟩ a0 a1 h0 := by
  rw [F4_h0, exec_holes [([1, 1, 1, 1, 1, 0, 1, 0], 0), ([1, 1, 1, 1, 1, 1, 1, 0, 1, 0], 1), ([1, 1, 1, 1, 1, 1, 1, 1, 1, 1, 0, 1, 0], 2), ([1, 1, 1, 1, 1, 1, 1, 1, 1, 1, 1, 1, 1, 0, 1, 0], 3), ([1, 1, 1, 1, 1, 1, 1, 1, 1, 1, 1, 1, 1, 1, 0, 1, 0], 4), ([1, 1, 1, 1, 1, 1, 1, 1, 1, 1, 1, 1, 1, 1], 5), ([1, 1, 1, 1, 1, 1, 1, 1, 1, 1, 1], 6), ([1, 1, 1, 1, 1, 1, 1, 1], 7), ([1, 1, 1, 1, 1, 1], 8)] (by kernel_rfl), F4_h1, show (goX Try.prog cfg rc ⟨md.ro, h0.length⟩ 209 (bodyOf Try.prog 4) [([1, 1, 1, 1, 1, 0, 1, 0], 0), ([1, 1, 1, 1, 1, 1, 1, 0, 1, 0], 1), ([1, 1, 1, 1, 1, 1, 1, 1, 1, 1, 0, 1, 0], 2), ([1, 1, 1, 1, 1, 1, 1, 1, 1, 1, 1, 1, 1, 0, 1, 0], 3), ([1, 1, 1, 1, 1, 1, 1, 1, 1, 1, 1, 1, 1, 1, 0, 1, 0], 4), ([1, 1, 1, 1, 1, 1, 1, 1, 1, 1, 1, 1, 1, 1], 5), ([1, 1, 1, 1, 1, 1, 1, 1, 1, 1, 1], 6), ([1, 1, 1, 1, 1, 1, 1, 1], 7), ([1, 1, 1, 1, 1, 1], 8)] (retK Try.prog cfg 4 (rsOf Try.prog 4) h0)) 0 = _ from J4_0_cut rc ⟨md.ro, h0.length⟩ h0]
  exact F4_h2 rc _ a0 a1 h0
theorem F4_eq (rc : Rec) (md : Md) (a0 : Int) (a1 : Value) (h0 : Heap) : callStep Try.prog cfg rc md 4 [(.int .i64 a0), a1] h0 = F4 rc ⟨md.ro, h0.length⟩ a0 a1 h0 := (callStep_ne (by kernel_rfl)).trans (F4_eq0 rc md a0 a1 h0)

/-- tombolo/tombololaw24.GraphBack -/
noncomputable def J6_1 (rc : Rec) (md : Md) (h0 : Heap) (s5 : Value) (s7 : Value) (h : Heap) : Option (Value × Heap) :=
  cl (rc md 19 [s7] h) fun v1 h2 =>
  fA 0 s5 fun v3 =>
  st md 1 v3 (.int .i64 1) h2 fun h4 =>
  ldN 3 s5 h4 fun v5 =>
  cl (rc md 18 [s7, v5] h4) fun v6 h7 =>
  exT v6 0 fun v8 =>
  cBn v8 fun b9 =>
  exT v6 1 fun v10 =>
  cIn .i64 v10 fun n11 =>
  aBin Try.prog .eql 24 v1 (.pointer none) fun v12 =>
  (bif wantV v12 false then
  some ((.bool b9), h7)
  else some (undef, h7)).bind fun p13 =>
  (bif wantV v12 false then
  aUn .not p13.1 fun v14 =>
  some (v14, p13.2)
  else some (undef, p13.2)).bind fun p15 =>
  cBn v12 fun q16 =>
  cBn (bif q16 then (.bool true) else p15.1) fun b17 =>
  bif b17 then
    aBin Try.prog .neq 24 v1 (.pointer none) fun v18 =>
    (bif wantV v18 true then
    some (s7, p15.2)
    else some (undef, p15.2)).bind fun p19 =>
    (bif wantV v18 true then
    some (v1, p19.2)
    else some (undef, p19.2)).bind fun p20 =>
    (bif wantV v18 true then
    cl (rc md 20 [p19.1, p20.1] p20.2) fun v21 h22 =>
    cBn v21 fun b23 =>
    some ((.bool b23), h22)
    else some (undef, p20.2)).bind fun p24 =>
    cBn v18 fun q25 =>
    cBn (bif q25 then p24.1 else (.bool false)) fun b26 =>
    (bif wantV (.bool b26) true then
    some ((.int .i64 n11), p24.2)
    else some (undef, p24.2)).bind fun p27 =>
    (bif wantV (.bool b26) true then
    aBin Try.prog .neq 25 p27.1 (.int .i64 0) fun v28 =>
    some (v28, p27.2)
    else some (undef, p27.2)).bind fun p29 =>
    (bif wantV (.bool b26) true then
    some (p29.1, p29.2)
    else some (undef, p29.2)).bind fun p30 =>
    (bif wantV p30.1 false then
    some (s7, p30.2)
    else some (undef, p30.2)).bind fun p31 =>
    (bif wantV p30.1 false then
    fA 1 s5 fun v32 =>
    some (v32, p31.2)
    else some (undef, p31.2)).bind fun p33 =>
    (bif wantV p30.1 false then
    ld1 p33.1 p33.2 fun v34 =>
    cIn .i64 v34 fun n35 =>
    some ((.int .i64 n35), p33.2)
    else some (undef, p33.2)).bind fun p36 =>
    (bif wantV p30.1 false then
    fA 2 s5 fun v37 =>
    some (v37, p36.2)
    else some (undef, p36.2)).bind fun p38 =>
    (bif wantV p30.1 false then
    ld1 p38.1 p38.2 fun v39 =>
    cIn .i64 v39 fun n40 =>
    some ((.int .i64 n40), p38.2)
    else some (undef, p38.2)).bind fun p41 =>
    (bif wantV p30.1 false then
    cl (rc md 13 [p31.1, p36.1, p41.1] p41.2) fun v42 h43 =>
    cBn v42 fun b44 =>
    some ((.bool b44), h43)
    else some (undef, p41.2)).bind fun p45 =>
    (bif wantV (.bool b26) true then
    cBn p30.1 fun q46 =>
    cBn (bif q46 then (.bool true) else p45.1) fun b47 =>
    some ((.bool b47), p45.2)
    else some (undef, p45.2)).bind fun p48 =>
    cBn (bif b26 then p48.1 else (.bool false)) fun b49 =>
    (bif wantV (.bool b49) true then
    cl (rc md 10 [] p48.2) fun v50 h51 =>
    cBn v50 fun b52 =>
    some ((.bool b52), h51)
    else some (undef, p48.2)).bind fun p53 =>
    cBn (bif b49 then p53.1 else (.bool false)) fun b54 =>
    some ((.bool b54), List.take h0.length p53.2)
  else
    fA 1 s5 fun v55 =>
    ld1 v55 p15.2 fun v56 =>
    cIn .i64 v56 fun n57 =>
    fA 2 s5 fun v58 =>
    ld1 v58 p15.2 fun v59 =>
    cIn .i64 v59 fun n60 =>
    cl (rc md 14 [s7, (.int .i64 n57), (.int .i64 n60)] p15.2) fun v61 h62 =>
    cBn v61 fun b63 =>
    (bif wantV (.bool (!b63)) false then
    some (s7, h62)
    else some (undef, h62)).bind fun p64 =>
    (bif wantV (.bool (!b63)) false then
    cl (rc md 17 [p64.1] p64.2) fun v65 h66 =>
    some (v65, h66)
    else some (undef, p64.2)).bind fun p67 =>
    (bif wantV (.bool (!b63)) false then
    lenS p67.1 fun v68 =>
    cIn .i64 v68 fun n69 =>
    some ((.int .i64 n69), p67.2)
    else some (undef, p67.2)).bind fun p70 =>
    (bif wantV (.bool (!b63)) false then
    some (v1, p70.2)
    else some (undef, p70.2)).bind fun p71 =>
    (bif wantV (.bool (!b63)) false then
    cl (rc md 17 [p71.1] p71.2) fun v72 h73 =>
    some (v72, h73)
    else some (undef, p71.2)).bind fun p74 =>
    (bif wantV (.bool (!b63)) false then
    lenS p74.1 fun v75 =>
    cIn .i64 v75 fun n76 =>
    some ((.int .i64 n76), p74.2)
    else some (undef, p74.2)).bind fun p77 =>
    (bif wantV (.bool (!b63)) false then
    aBin Try.prog .gtr 3 p70.1 p77.1 fun v78 =>
    some (v78, p77.2)
    else some (undef, p77.2)).bind fun p79 =>
    cBn (bif !b63 then (.bool true) else p79.1) fun b80 =>
    (bif wantV (.bool b80) false then
    some (s7, p79.2)
    else some (undef, p79.2)).bind fun p81 =>
    (bif wantV (.bool b80) false then
    cl (rc md 17 [p81.1] p81.2) fun v82 h83 =>
    some (v82, h83)
    else some (undef, p81.2)).bind fun p84 =>
    (bif wantV (.bool b80) false then
    lenS p84.1 fun v85 =>
    cIn .i64 v85 fun n86 =>
    some ((.int .i64 n86), p84.2)
    else some (undef, p84.2)).bind fun p87 =>
    (bif wantV (.bool b80) false then
    some (v1, p87.2)
    else some (undef, p87.2)).bind fun p88 =>
    (bif wantV (.bool b80) false then
    cl (rc md 17 [p88.1] p88.2) fun v89 h90 =>
    some (v89, h90)
    else some (undef, p88.2)).bind fun p91 =>
    (bif wantV (.bool b80) false then
    lenS p91.1 fun v92 =>
    cIn .i64 v92 fun n93 =>
    some ((.int .i64 n93), p91.2)
    else some (undef, p91.2)).bind fun p94 =>
    (bif wantV (.bool b80) false then
    aBin Try.prog .sub 3 p94.1 (.int .i64 1) fun v95 =>
    some (v95, p94.2)
    else some (undef, p94.2)).bind fun p96 =>
    (bif wantV (.bool b80) false then
    aBin Try.prog .lss 3 p87.1 p96.1 fun v97 =>
    some (v97, p96.2)
    else some (undef, p96.2)).bind fun p98 =>
    cBn (bif b80 then (.bool true) else p98.1) fun b99 =>
    bif b99 then
      some ((.bool false), List.take h0.length p98.2)
    else
      fA 0 s5 fun v100 =>
      st md 1 v100 (.int .i64 2) p98.2 fun h101 =>
      ldN 3 s5 h101 fun v102 =>
      cl (rc md 18 [s7, v102] h101) fun v103 h104 =>
      exT v103 0 fun v105 =>
      cBn v105 fun b106 =>
      exT v103 1 fun v107 =>
      cIn .i64 v107 fun n108 =>
      (bif wantV (.bool b106) true then
      some ((.int .i64 n108), h104)
      else some (undef, h104)).bind fun p109 =>
      (bif wantV (.bool b106) true then
      aBin Try.prog .eql 25 p109.1 (.int .i64 0) fun v110 =>
      some (v110, p109.2)
      else some (undef, p109.2)).bind fun p111 =>
      cBn (bif b106 then p111.1 else (.bool false)) fun b112 =>
      (bif wantV (.bool b112) true then
      some (s7, p111.2)
      else some (undef, p111.2)).bind fun p113 =>
      (bif wantV (.bool b112) true then
      some (v1, p113.2)
      else some (undef, p113.2)).bind fun p114 =>
      (bif wantV (.bool b112) true then
      cl (rc md 20 [p113.1, p114.1] p114.2) fun v115 h116 =>
      cBn v115 fun b117 =>
      some ((.bool b117), h116)
      else some (undef, p114.2)).bind fun p118 =>
      cBn (bif b112 then p118.1 else (.bool false)) fun b119 =>
      (bif wantV (.bool b119) true then
      cl (rc md 10 [] p118.2) fun v120 h121 =>
      cBn v120 fun b122 =>
      some ((.bool b122), h121)
      else some (undef, p118.2)).bind fun p123 =>
      cBn (bif b119 then p123.1 else (.bool false)) fun b124 =>
      some ((.bool b124), List.take h0.length p123.2)
theorem J6_1_at (rc : Rec) (md : Md) (h0 : Heap) (t : T) (h : Heap) : cut Try.prog cfg rc md 132 (bodyOf Try.prog 6) [1, 1, 1, 1, 1] (retK Try.prog cfg 6 (rsOf Try.prog 6) h0) t h = J6_1 rc md h0 (t 5) (t 7) h := by kernel_rfl
theorem J6_1_cut (rc : Rec) (md : Md) (h0 : Heap) : cut Try.prog cfg rc md 132 (bodyOf Try.prog 6) [1, 1, 1, 1, 1] (retK Try.prog cfg 6 (rsOf Try.prog 6) h0) = fun t h => J6_1 rc md h0 (t 5) (t 7) h := funext fun t => funext fun h => J6_1_at rc md h0 t h
noncomputable def Jk6_0 (rc : Rec) (md : Md) (h0 : Heap) (e : Exit) (s5 : Value) (s6 : Value) (s7 : Value) (s39 : Value) (s40 : Value) (s41 : Value) (h : Heap) : Option (Value × Heap) :=
  match e with
  | .normal =>
    J6_1 rc md h0 s5 s7 h
  | .exit j =>
    bif Nat.beq j 0 then
      J6_1 rc md h0 s5 s7 h
    else
      none
  | .ret =>
    fin1 h0 s6 h
  | .goto l => none
  | .panic ps => none
  | .outgrown => none
noncomputable def Jk6_0H (rc : Rec) (md : Md) (h0 : Heap) (X1 : T → Heap → Option (Value × Heap)) (e : Exit) (t : T) (h : Heap) : Option (Value × Heap) :=
  match e with
  | .normal =>
    X1 t h
  | .exit j =>
    bif Nat.beq j 0 then
      X1 t h
    else
      none
  | .ret =>
    fin1 h0 (t 6) h
  | .goto l => none
  | .panic ps => none
  | .outgrown => none
theorem Jk6_0_h1 (rc : Rec) (md : Md) (h0 : Heap) (X : Nat → T → Heap → Option (Value × Heap)) (e : Exit) (t : T) (h : Heap) : kAtG Try.prog cfg X rc md 132 (replS (bodyOf Try.prog 6) [([1, 1, 1, 1, 1], 1)]) [1, 1, 1, 1, 0, 1, 0] (retK Try.prog cfg 6 (rsOf Try.prog 6) h0) e t h = Jk6_0H rc md h0 (X 1) e t h := by cases e <;> kernel_rfl
theorem Jk6_0_h2 (rc : Rec) (md : Md) (h0 : Heap) (e : Exit) (t : T) (h : Heap) : Jk6_0H rc md h0 (fun t h => J6_1 rc md h0 (t 5) (t 7) h) e t h = Jk6_0 rc md h0 e (t 5) (t 6) (t 7) (t 39) (t 40) (t 41) h := by cases e <;> (unfold Jk6_0H Jk6_0; kernel_rfl)
theorem Jk6_0_at (rc : Rec) (md : Md) (h0 : Heap) (e : Exit) (t : T) (h : Heap) : kAt Try.prog cfg rc md 132 (bodyOf Try.prog 6) [1, 1, 1, 1, 0, 1, 0] (retK Try.prog cfg 6 (rsOf Try.prog 6) h0) e t h = Jk6_0 rc md h0 e (t 5) (t 6) (t 7) (t 39) (t 40) (t 41) h := by
  rw [kAt_holes [([1, 1, 1, 1, 1], 1)] [1, 1, 1, 1, 0, 1, 0] (by kernel_rfl), Jk6_0_h1, show (goX Try.prog cfg rc md 132 (bodyOf Try.prog 6) [([1, 1, 1, 1, 1], 1)] (retK Try.prog cfg 6 (rsOf Try.prog 6) h0)) 1 = _ from J6_1_cut rc md h0]
  exact Jk6_0_h2 rc md h0 e t h
/-- a round -/
noncomputable def Jr6_0 (rc : Rec) (md : Md) (s5 : Value) (s6 : Value) (s7 : Value) (s39 : Value) (s40 : Value) (s41 : Value) (h : Heap) : Option (((Value × Value × Value × Value × Value × Value) × Heap) ⊕ (Exit × (Value × Value × Value × Value × Value × Value) × Heap)) :=
  aBin Try.prog .lss 3 s41 s40 fun v1 =>
  cBn v1 fun b2 =>
  bif b2 then
    ixSV 3 s39 s41 fun v3 =>
    ldN 3 v3 h fun v4 =>
    let h5 : Heap := h ++ [.own [(.int .i64 0), (.int .i64 0), (.int .i64 0)]]
    st md 3 (.pointer (some ⟨h.length, 0, none⟩)) v4 h5 fun h6 =>
    ldN 3 (.pointer (some ⟨h.length, 0, none⟩)) h6 fun v7 =>
    cl (rc md 18 [s7, v7] h6) fun v8 h9 =>
    aBin Try.prog .add 3 s41 (.int .i64 1) fun v10 =>
    some (.inl ((s5, s6, s7, s39, s40, v10), h9))
  else
    some (.inr ((.exit 0), (s5, s6, s7, s39, s40, s41), h))
theorem Jr6_0_at (rc : Rec) (md : Md) (t : T) (h : Heap) : exec Try.prog cfg rc md 132 (sub (bodyOf Try.prog 6) [1, 1, 1, 1, 0, 1, 0, 0]) (rndK (fun t => (t 5, t 6, t 7, t 39, t 40, t 41))) t h = Jr6_0 rc md (t 5) (t 6) (t 7) (t 39) (t 40) (t 41) h := by kernel_rfl
noncomputable def J6_0 (rc : Rec) (md : Md) (h0 : Heap) (s5 : Value) (s6 : Value) (s7 : Value) (s39 : Value) (s40 : Value) (s41 : Value) (h : Heap) : Option (Value × Heap) :=
  runL (fun x : (Value × Value × Value × Value × Value × Value) × Heap => Jr6_0 rc md x.1.1 x.1.2.1 x.1.2.2.1 x.1.2.2.2.1 x.1.2.2.2.2.1 x.1.2.2.2.2.2 x.2) (fun e (s : Value × Value × Value × Value × Value × Value) h => Jk6_0 rc md h0 e s.1 s.2.1 s.2.2.1 s.2.2.2.1 s.2.2.2.2.1 s.2.2.2.2.2 h) (s5, s6, s7, s39, s40, s41) h
theorem J6_0_step (rc : Rec) (md : Md) (h0 : Heap) (s5 : Value) (s6 : Value) (s7 : Value) (s39 : Value) (s40 : Value) (s41 : Value) (h : Heap) : J6_0 rc md h0 s5 s6 s7 s39 s40 s41 h = (Jr6_0 rc md s5 s6 s7 s39 s40 s41 h).bind fun x => match x with
    | .inl (s, h) => J6_0 rc md h0 s.1 s.2.1 s.2.2.1 s.2.2.2.1 s.2.2.2.2.1 s.2.2.2.2.2 h
    | .inr (e, s, h) => Jk6_0 rc md h0 e s.1 s.2.1 s.2.2.1 s.2.2.2.1 s.2.2.2.2.1 s.2.2.2.2.2 h := by
  unfold J6_0
  rw [runL_eq]
  refine congrArg (Option.bind _) (funext fun x => ?_)
  rcases x with ⟨s, h⟩ | ⟨e, s, h⟩ <;> rfl
theorem J6_0_cut (rc : Rec) (md : Md) (h0 : Heap) : cut Try.prog cfg rc md 132 (bodyOf Try.prog 6) [1, 1, 1, 1, 0, 1, 0] (retK Try.prog cfg 6 (rsOf Try.prog 6) h0) = fun t h => J6_0 rc md h0 (t 5) (t 6) (t 7) (t 39) (t 40) (t 41) h := by
  funext t h
  have e : sub (bodyOf Try.prog 6) [1, 1, 1, 1, 0, 1, 0] = .loop (sub (bodyOf Try.prog 6) [1, 1, 1, 1, 0, 1, 0, 0]) := by kernel_rfl
  unfold cut
  rw [e]
  exact loop_eq (by kernel_rfl) (fun t => (t 5, t 6, t 7, t 39, t 40, t 41)) (fun x : (Value × Value × Value × Value × Value × Value) × Heap => Jr6_0 rc md x.1.1 x.1.2.1 x.1.2.2.1 x.1.2.2.2.1 x.1.2.2.2.2.1 x.1.2.2.2.2.2 x.2) (fun t h => Jr6_0_at rc md t h) (fun e (s : Value × Value × Value × Value × Value × Value) h => Jk6_0 rc md h0 e s.1 s.2.1 s.2.2.1 s.2.2.2.1 s.2.2.2.2.1 s.2.2.2.2.2 h) (fun e t h => Jk6_0_at rc md h0 e t h) t h
noncomputable def F6 (rc : Rec) (md : Md) (a0 : Int) (a1 : Value) (a2_0 : Int) (a2_1 : Int) (a2_2 : Int) (h0 : Heap) : Option (Value × Heap) :=
  let h1 : Heap := h0 ++ [.own [(.int .i64 a2_0), (.int .i64 a2_1), (.int .i64 a2_2)]]
  (bif wantV (.bool (decide (a0 < 1))) false then
  some ((.int .i64 a0), h1)
  else some (undef, h1)).bind fun p2 =>
  (bif wantV (.bool (decide (a0 < 1))) false then
  aBin Try.prog .gtr 3 p2.1 (.int .i64 16) fun v3 =>
  some (v3, p2.2)
  else some (undef, p2.2)).bind fun p4 =>
  cBn (bif (decide (a0 < 1)) then (.bool true) else p4.1) fun b5 =>
  (bif wantV (.bool b5) false then
  some (a1, p4.2)
  else some (undef, p4.2)).bind fun p6 =>
  (bif wantV (.bool b5) false then
  lenS p6.1 fun v7 =>
  cIn .i64 v7 fun n8 =>
  some ((.int .i64 n8), p6.2)
  else some (undef, p6.2)).bind fun p9 =>
  (bif wantV (.bool b5) false then
  aBin Try.prog .gtr 3 p9.1 (.int .i64 40) fun v10 =>
  some (v10, p9.2)
  else some (undef, p9.2)).bind fun p11 =>
  cBn (bif b5 then (.bool true) else p11.1) fun b12 =>
  bif b12 then
    cl (rc md 10 [] p11.2) fun v13 h14 =>
    cBn v13 fun b15 =>
    some ((.bool b15), List.take h0.length h14)
  else
    cl (rc md 11 [(.int .i64 a0)] p11.2) fun v16 h17 =>
    exT v16 0 fun v18 =>
    exT v16 1 fun v19 =>
    cIn .i64 v19 fun n20 =>
    (bif wantV (.bool (n20 != 0)) false then
    some (v18, h17)
    else some (undef, h17)).bind fun p21 =>
    (bif wantV (.bool (n20 != 0)) false then
    aBin Try.prog .eql 24 p21.1 (.pointer none) fun v22 =>
    some (v22, p21.2)
    else some (undef, p21.2)).bind fun p23 =>
    cBn (bif (n20 != 0) then (.bool true) else p23.1) fun b24 =>
    bif b24 then
      some ((.bool false), List.take h0.length p23.2)
    else
      lenS a1 fun v25 =>
      cIn .i64 v25 fun n26 =>
      J6_0 rc md h0 (.pointer (some ⟨h0.length, 0, none⟩)) (.bool false) v18 a1 (.int .i64 n26) (.int .i64 0) p23.2
noncomputable def F6H (rc : Rec) (md : Md) (X0 : T → Heap → Option (Value × Heap)) (a0 : Int) (a1 : Value) (a2_0 : Int) (a2_1 : Int) (a2_2 : Int) (h0 : Heap) : Option (Value × Heap) :=
  let h1 : Heap := h0 ++ [.own [(.int .i64 a2_0), (.int .i64 a2_1), (.int .i64 a2_2)]]
  (bif wantV (.bool (decide (a0 < 1))) false then
  some ((.int .i64 a0), h1)
  else some (undef, h1)).bind fun p2 =>
  (bif wantV (.bool (decide (a0 < 1))) false then
  aBin Try.prog .gtr 3 p2.1 (.int .i64 16) fun v3 =>
  some (v3, p2.2)
  else some (undef, p2.2)).bind fun p4 =>
  cBn (bif (decide (a0 < 1)) then (.bool true) else p4.1) fun b5 =>
  (bif wantV (.bool b5) false then
  some (a1, p4.2)
  else some (undef, p4.2)).bind fun p6 =>
  (bif wantV (.bool b5) false then
  lenS p6.1 fun v7 =>
  cIn .i64 v7 fun n8 =>
  some ((.int .i64 n8), p6.2)
  else some (undef, p6.2)).bind fun p9 =>
  (bif wantV (.bool b5) false then
  aBin Try.prog .gtr 3 p9.1 (.int .i64 40) fun v10 =>
  some (v10, p9.2)
  else some (undef, p9.2)).bind fun p11 =>
  cBn (bif b5 then (.bool true) else p11.1) fun b12 =>
  bif b12 then
    cl (rc md 10 [] p11.2) fun v13 h14 =>
    cBn v13 fun b15 =>
    some ((.bool b15), List.take h0.length h14)
  else
    cl (rc md 11 [(.int .i64 a0)] p11.2) fun v16 h17 =>
    exT v16 0 fun v18 =>
    exT v16 1 fun v19 =>
    cIn .i64 v19 fun n20 =>
    (bif wantV (.bool (n20 != 0)) false then
    some (v18, h17)
    else some (undef, h17)).bind fun p21 =>
    (bif wantV (.bool (n20 != 0)) false then
    aBin Try.prog .eql 24 p21.1 (.pointer none) fun v22 =>
    some (v22, p21.2)
    else some (undef, p21.2)).bind fun p23 =>
    cBn (bif (n20 != 0) then (.bool true) else p23.1) fun b24 =>
    bif b24 then
      some ((.bool false), List.take h0.length p23.2)
    else
      lenS a1 fun v25 =>
      cIn .i64 v25 fun n26 =>
      X0 (upd (upd (upd (upd (upd (upd (upd (upd (upd (upd (upd (upd (upd (upd (upd (upd (upd (upd (upd (upd (upd (upd (upd (upd (upd (upd (upd (upd (upd (args0 [(.int .i64 a0), a1, (.agg #[(.int .i64 a2_0), (.int .i64 a2_1), (.int .i64 a2_2)])]) 5 (.pointer (some ⟨h0.length, 0, none⟩))) 6 (.bool false)) 16 (.int .i64 a0)) 17 (.bool (decide (a0 < 1)))) 18 (.bool (decide (a0 < 1)))) 19 p2.1) 20 p4.1) 21 (.bool b5)) 22 (.bool b5)) 23 p6.1) 24 p9.1) 25 p11.1) 26 (.bool b12)) 29 (.int .i64 a0)) 30 v16) 28 v16) 31 v18) 32 (.int .i64 n20)) 7 v18) 8 (.int .i64 n20)) 33 (.int .i64 n20)) 34 (.bool (n20 != 0))) 35 (.bool (n20 != 0))) 36 p21.1) 37 p23.1) 38 (.bool b24)) 39 a1) 40 (.int .i64 n26)) 41 (.int .i64 0)) p23.2
theorem F6_h0 (rc : Rec) (md : Md) (a0 : Int) (a1 : Value) (a2_0 : Int) (a2_1 : Int) (a2_2 : Int) (h0 : Heap) : callStep0 Try.prog cfg rc md 6 [(.int .i64 a0), a1, (.agg #[(.int .i64 a2_0), (.int .i64 a2_1), (.int .i64 a2_2)])] h0 = exec Try.prog cfg rc ⟨md.ro, h0.length⟩ 132 (bodyOf Try.prog 6) (retK Try.prog cfg 6 (rsOf Try.prog 6) h0) (args0 [(.int .i64 a0), a1, (.agg #[(.int .i64 a2_0), (.int .i64 a2_1), (.int .i64 a2_2)])]) h0 := callStep0_run (by kernel_rfl) (by kernel_rfl) (by kernel_rfl)
theorem F6_h1 (rc : Rec) (md : Md) (X : Nat → T → Heap → Option (Value × Heap)) (a0 : Int) (a1 : Value) (a2_0 : Int) (a2_1 : Int) (a2_2 : Int) (h0 : Heap) : execG Try.prog cfg X rc md 132 (replS (bodyOf Try.prog 6) [([1, 1, 1, 1, 0, 1, 0], 0), ([1, 1, 1, 1, 1], 1)]) (retK Try.prog cfg 6 (rsOf Try.prog 6) h0) (args0 [(.int .i64 a0), a1, (.agg #[(.int .i64 a2_0), (.int .i64 a2_1), (.int .i64 a2_2)])]) h0 = F6H rc md (X 0) a0 a1 a2_0 a2_1 a2_2 h0 := by kernel_rfl
theorem F6_h2 (rc : Rec) (md : Md) (a0 : Int) (a1 : Value) (a2_0 : Int) (a2_1 : Int) (a2_2 : Int) (h0 : Heap) : F6H rc md (fun t h => J6_0 rc md h0 (t 5) (t 6) (t 7) (t 39) (t 40) (t 41) h) a0 a1 a2_0 a2_1 a2_2 h0 = F6 rc md a0 a1 a2_0 a2_1 a2_2 h0 := by unfold F6H F6; kernel_rfl
theorem F6_eq0 (rc : Rec) (md : Md) (a0 : Int) (a1 : Value) (a2_0 : Int) (a2_1 : Int) (a2_2 : Int) (h0 : Heap) : callStep0 Try.prog cfg rc md 6 [(.int .i64 a0), a1, (.agg #[(.int .i64 a2_0), (.int .i64 a2_1), (.int .i64 a2_2)])] h0 = F6 rc ⟨md.ro, h0.length⟩ a0 a1 a2_0 a2_1 a2_2 h0 := by
  rw [F6_h0, exec_holes [([1, 1, 1, 1, 0, 1, 0], 0), ([1, 1, 1, 1, 1], 1)] (by kernel_rfl), F6_h1, show (goX Try.prog cfg rc ⟨md.ro, h0.length⟩ 132 (bodyOf Try.prog 6) [([1, 1, 1, 1, 0, 1, 0], 0), ([1, 1, 1, 1, 1], 1)] (retK Try.prog cfg 6 (rsOf Try.prog 6) h0)) 0 = _ from J6_0_cut rc ⟨md.ro, h0.length⟩ h0]
  exact F6_h2 rc _ a0 a1 a2_0 a2_1 a2_2 h0
theorem F6_eq (rc : Rec) (md : Md) (a0 : Int) (a1 : Value) (a2_0 : Int) (a2_1 : Int) (a2_2 : Int) (h0 : Heap) : callStep Try.prog cfg rc md 6 [(.int .i64 a0), a1, (.agg #[(.int .i64 a2_0), (.int .i64 a2_1), (.int .i64 a2_2)])] h0 = F6 rc ⟨md.ro, h0.length⟩ a0 a1 a2_0 a2_1 a2_2 h0 := (callStep_ne (by kernel_rfl)).trans (F6_eq0 rc md a0 a1 a2_0 a2_1 a2_2 h0)

/-- tombolo/graph.New -/
noncomputable def F11 (rc : Rec) (md : Md) (a0 : Int) (h0 : Heap) : Option (Value × Heap) :=
  (bif wantV (.bool (decide (a0 < 1))) false then
  some ((.int .i64 a0), h0)
  else some (undef, h0)).bind fun p1 =>
  (bif wantV (.bool (decide (a0 < 1))) false then
  aBin Try.prog .gtr 3 p1.1 (.int .i64 16) fun v2 =>
  some (v2, p1.2)
  else some (undef, p1.2)).bind fun p3 =>
  cBn (bif (decide (a0 < 1)) then (.bool true) else p3.1) fun b4 =>
  bif b4 then
    some ((.tuple #[(.pointer none), (.int .i64 11)]), p3.2)
  else
    let h5 : Heap := p3.2 ++ [.own [(.int .i64 a0), (.int .u32 0), (.int .u32 0), (.int .u32 0), (.int .u32 0), (.int .u32 0), (.int .u32 0), (.int .u32 0), (.int .u32 0), (.int .u32 0), (.int .u32 0), (.int .u32 0), (.int .u32 0), (.int .u32 0), (.int .u32 0), (.int .u32 0), (.int .u32 0)]]
    some ((.tuple #[(.pointer (some ⟨p3.2.length, 0, none⟩)), (.int .i64 0)]), h5)
theorem F11_eq0 (rc : Rec) (md : Md) (a0 : Int) (h0 : Heap) : callStep0 Try.prog cfg rc md 11 [(.int .i64 a0)] h0 = F11 rc md a0 h0 := by kernel_rfl
theorem F11_eq (rc : Rec) (md : Md) (a0 : Int) (h0 : Heap) : callStep Try.prog cfg rc md 11 [(.int .i64 a0)] h0 = F11 rc md a0 h0 := (callStep_ne (by kernel_rfl)).trans (F11_eq0 rc md a0 h0)

/-- tombolo/tombololaw24.step -/
noncomputable def F12 (rc : Rec) (md : Md) (a0 : Value) (a1 : Value) (a2 : Int) (a3_0 : Int) (a3_1 : Int) (a3_2 : Int) (h0 : Heap) : Option (Value × Heap) :=
  let h1 : Heap := h0 ++ [.own [(.int .i64 a2)]]
  let h2 : Heap := h1 ++ [.own [(.int .i64 a3_0), (.int .i64 a3_1), (.int .i64 a3_2)]]
  ldN 3 (.pointer (some ⟨h1.length, 0, none⟩)) h2 fun v3 =>
  cl (rc md 18 [a0, v3] h2) fun v4 h5 =>
  exT v4 0 fun v6 =>
  cBn v6 fun b7 =>
  exT v4 1 fun v8 =>
  cIn .i64 v8 fun n9 =>
  ld1 (.pointer (some ⟨h1.length, 1, none⟩)) h5 fun v10 =>
  cIn .i64 v10 fun n11 =>
  ld1 (.pointer (some ⟨h1.length, 2, none⟩)) h5 fun v12 =>
  cIn .i64 v12 fun n13 =>
  ld1 (.pointer (some ⟨h1.length, 1, none⟩)) h5 fun v14 =>
  cIn .i64 v14 fun n15 =>
  ld1 (.pointer (some ⟨h1.length, 2, none⟩)) h5 fun v16 =>
  cIn .i64 v16 fun n17 =>
  let h18 : Heap := h5 ++ [.own [(.int .i64 0), (.int .i64 0)]]
  st md 2 (.pointer (some ⟨h5.length, 0, none⟩)) (.agg #[(.int .i64 (if n13 < n11 then n13 else n11)), (.int .i64 (if n17 > n15 then n17 else n15))]) h18 fun h19 =>
  ld1 (.pointer (some ⟨h1.length, 0, none⟩)) h19 fun v20 =>
  cIn .i64 v20 fun n21 =>
  (bif wantV (.bool (decide (n21 < 1))) false then
  some ((.pointer (some ⟨h1.length, 0, none⟩)), h19)
  else some (undef, h19)).bind fun p22 =>
  (bif wantV (.bool (decide (n21 < 1))) false then
  ld1 p22.1 p22.2 fun v23 =>
  cIn .i64 v23 fun n24 =>
  some ((.int .i64 n24), p22.2)
  else some (undef, p22.2)).bind fun p25 =>
  (bif wantV (.bool (decide (n21 < 1))) false then
  aBin Try.prog .gtr 3 p25.1 (.int .i64 3) fun v26 =>
  some (v26, p25.2)
  else some (undef, p25.2)).bind fun p27 =>
  cBn (bif (decide (n21 < 1)) then (.bool true) else p27.1) fun b28 =>
  bif b28 then
    (bif wantV (.bool (n9 == 10)) true then
    some ((.bool b7), p27.2)
    else some (undef, p27.2)).bind fun p29 =>
    (bif wantV (.bool (n9 == 10)) true then
    aUn .not p29.1 fun v30 =>
    some (v30, p29.2)
    else some (undef, p29.2)).bind fun p31 =>
    cBn (bif (n9 == 10) then p31.1 else (.bool false)) fun b32 =>
    some ((.bool b32), p31.2)
  else
    ld1 (.pointer (some ⟨h1.length, 1, none⟩)) p27.2 fun v33 =>
    cIn .i64 v33 fun n34 =>
    cl (rc md 38 [(.int .i64 n34), (.pointer (some ⟨h0.length, 0, none⟩))] p27.2) fun v35 h36 =>
    cBn v35 fun b37 =>
    (bif wantV (.bool (!b37)) false then
    some ((.func (.func 38) #[] #[(.pointer (some ⟨h0.length, 0, none⟩))]), h36)
    else some (undef, h36)).bind fun p38 =>
    (bif wantV (.bool (!b37)) false then
    some ((.pointer (some ⟨h1.length, 2, none⟩)), p38.2)
    else some (undef, p38.2)).bind fun p39 =>
    (bif wantV (.bool (!b37)) false then
    ld1 p39.1 p39.2 fun v40 =>
    cIn .i64 v40 fun n41 =>
    some ((.int .i64 n41), p39.2)
    else some (undef, p39.2)).bind fun p42 =>
    (bif wantV (.bool (!b37)) false then
    clV rc md p38.1 [p42.1] p42.2 fun v43 h44 =>
    cBn v43 fun b45 =>
    some ((.bool b45), h44)
    else some (undef, p42.2)).bind fun p46 =>
    (bif wantV (.bool (!b37)) false then
    aUn .not p46.1 fun v47 =>
    some (v47, p46.2)
    else some (undef, p46.2)).bind fun p48 =>
    cBn (bif !b37 then (.bool true) else p48.1) fun b49 =>
    bif b49 then
      (bif wantV (.bool (n9 == 30)) true then
      some ((.bool b7), p48.2)
      else some (undef, p48.2)).bind fun p50 =>
      (bif wantV (.bool (n9 == 30)) true then
      aUn .not p50.1 fun v51 =>
      some (v51, p50.2)
      else some (undef, p50.2)).bind fun p52 =>
      cBn (bif (n9 == 30) then p52.1 else (.bool false)) fun b53 =>
      some ((.bool b53), p52.2)
    else
      ld1 (.pointer (some ⟨h1.length, 0, none⟩)) p48.2 fun v54 =>
      cIn .i64 v54 fun n55 =>
      bif (n55 == 3) then
        (bif wantV (.bool (n9 == 0)) true then
        some ((.bool b7), p48.2)
        else some (undef, p48.2)).bind fun p56 =>
        (bif wantV (.bool (n9 == 0)) true then
        some (a1, p56.2)
        else some (undef, p56.2)).bind fun p57 =>
        (bif wantV (.bool (n9 == 0)) true then
        some ((.pointer (some ⟨h1.length, 1, none⟩)), p57.2)
        else some (undef, p57.2)).bind fun p58 =>
        (bif wantV (.bool (n9 == 0)) true then
        ld1 p58.1 p58.2 fun v59 =>
        cIn .i64 v59 fun n60 =>
        some ((.int .i64 n60), p58.2)
        else some (undef, p58.2)).bind fun p61 =>
        (bif wantV (.bool (n9 == 0)) true then
        some ((.pointer (some ⟨h1.length, 2, none⟩)), p61.2)
        else some (undef, p61.2)).bind fun p62 =>
        (bif wantV (.bool (n9 == 0)) true then
        ld1 p62.1 p62.2 fun v63 =>
        cIn .i64 v63 fun n64 =>
        some ((.int .i64 n64), p62.2)
        else some (undef, p62.2)).bind fun p65 =>
        (bif wantV (.bool (n9 == 0)) true then
        ld1 (.pointer (some ⟨h0.length, 0, none⟩)) p65.2 fun v66 =>
        cIn .i64 v66 fun n67 =>
        some ((.int .i64 n67), p65.2)
        else some (undef, p65.2)).bind fun p68 =>
        (bif wantV (.bool (n9 == 0)) true then
        cl (rc md 15 [p57.1, p61.1, p65.1, p68.1] p68.2) fun v69 h70 =>
        cBn v69 fun b71 =>
        some ((.bool b71), h70)
        else some (undef, p68.2)).bind fun p72 =>
        (bif wantV (.bool (n9 == 0)) true then
        aBin Try.prog .eql 4 p56.1 p72.1 fun v73 =>
        some (v73, p72.2)
        else some (undef, p72.2)).bind fun p74 =>
        cBn (bif (n9 == 0) then p74.1 else (.bool false)) fun b75 =>
        some ((.bool b75), p74.2)
      else
        ld1 (.pointer (some ⟨h1.length, 1, none⟩)) p48.2 fun v76 =>
        cIn .i64 v76 fun n77 =>
        ld1 (.pointer (some ⟨h1.length, 2, none⟩)) p48.2 fun v78 =>
        cIn .i64 v78 fun n79 =>
        bif (n77 == n79) then
          (bif wantV (.bool (n9 == 31)) true then
          some ((.bool b7), p48.2)
          else some (undef, p48.2)).bind fun p80 =>
          (bif wantV (.bool (n9 == 31)) true then
          aUn .not p80.1 fun v81 =>
          some (v81, p80.2)
          else some (undef, p80.2)).bind fun p82 =>
          cBn (bif (n9 == 31) then p82.1 else (.bool false)) fun b83 =>
          some ((.bool b83), p82.2)
        else
          ldN 2 (.pointer (some ⟨h5.length, 0, none⟩)) p48.2 fun v84 =>
          aLookup Try.prog 29 a1 v84 false p48.2 fun v85 =>
          cBn v85 fun b86 =>
          ldN 2 (.pointer (some ⟨h5.length, 0, none⟩)) p48.2 fun v87 =>
          ld1 (.pointer (some ⟨h1.length, 0, none⟩)) p48.2 fun v88 =>
          cIn .i64 v88 fun n89 =>
          aMapPut Try.prog md 29 a1 v87 (.bool (n89 == 1)) p48.2 fun h90 =>
          (bif wantV (.bool (n9 == 0)) true then
          some ((.bool b7), h90)
          else some (undef, h90)).bind fun p91 =>
          (bif wantV (.bool (n9 == 0)) true then
          some ((.bool b86), p91.2)
          else some (undef, p91.2)).bind fun p92 =>
          (bif wantV (.bool (n9 == 0)) true then
          some ((.pointer (some ⟨h1.length, 0, none⟩)), p92.2)
          else some (undef, p92.2)).bind fun p93 =>
          (bif wantV (.bool (n9 == 0)) true then
          ld1 p93.1 p93.2 fun v94 =>
          cIn .i64 v94 fun n95 =>
          some ((.int .i64 n95), p93.2)
          else some (undef, p93.2)).bind fun p96 =>
          (bif wantV (.bool (n9 == 0)) true then
          aBin Try.prog .eql 3 p96.1 (.int .i64 1) fun v97 =>
          some (v97, p96.2)
          else some (undef, p96.2)).bind fun p98 =>
          (bif wantV (.bool (n9 == 0)) true then
          aBin Try.prog .neq 4 p92.1 p98.1 fun v99 =>
          some (v99, p98.2)
          else some (undef, p98.2)).bind fun p100 =>
          (bif wantV (.bool (n9 == 0)) true then
          aBin Try.prog .eql 4 p91.1 p100.1 fun v101 =>
          some (v101, p100.2)
          else some (undef, p100.2)).bind fun p102 =>
          cBn (bif (n9 == 0) then p102.1 else (.bool false)) fun b103 =>
          some ((.bool b103), p102.2)
theorem F12_eq0 (rc : Rec) (md : Md) (a0 : Value) (a1 : Value) (a2 : Int) (a3_0 : Int) (a3_1 : Int) (a3_2 : Int) (h0 : Heap) : callStep0 Try.prog cfg rc md 12 [a0, a1, (.int .i64 a2), (.agg #[(.int .i64 a3_0), (.int .i64 a3_1), (.int .i64 a3_2)])] h0 = F12 rc md a0 a1 a2 a3_0 a3_1 a3_2 h0 := by kernel_rfl
theorem F12_eq (rc : Rec) (md : Md) (a0 : Value) (a1 : Value) (a2 : Int) (a3_0 : Int) (a3_1 : Int) (a3_2 : Int) (h0 : Heap) : callStep Try.prog cfg rc md 12 [a0, a1, (.int .i64 a2), (.agg #[(.int .i64 a3_0), (.int .i64 a3_1), (.int .i64 a3_2)])] h0 = F12 rc md a0 a1 a2 a3_0 a3_1 a3_2 h0 := (callStep_ne (by kernel_rfl)).trans (F12_eq0 rc md a0 a1 a2 a3_0 a3_1 a3_2 h0)

/-- (*tombolo/graph.Graph).Has -/
noncomputable def F13 (rc : Rec) (md : Md) (a0 : Value) (a1 : Int) (a2 : Int) (h0 : Heap) : Option (Value × Heap) :=
  cl (rc md 39 [a0, (.int .i64 a1)] h0) fun v1 h2 =>
  cBn v1 fun b3 =>
  (bif wantV (.bool b3) true then
  some (a0, h2)
  else some (undef, h2)).bind fun p4 =>
  (bif wantV (.bool b3) true then
  some ((.int .i64 a2), p4.2)
  else some (undef, p4.2)).bind fun p5 =>
  (bif wantV (.bool b3) true then
  cl (rc md 39 [p4.1, p5.1] p5.2) fun v6 h7 =>
  cBn v6 fun b8 =>
  some ((.bool b8), h7)
  else some (undef, p5.2)).bind fun p9 =>
  cBn (bif b3 then p9.1 else (.bool false)) fun b10 =>
  (bif wantV (.bool b10) true then
  some (a0, p9.2)
  else some (undef, p9.2)).bind fun p11 =>
  (bif wantV (.bool b10) true then
  some ((.int .i64 a1), p11.2)
  else some (undef, p11.2)).bind fun p12 =>
  (bif wantV (.bool b10) true then
  bif okNil Try.prog p11.1 then
  some (p11.1, p12.2)
  else none
  else some (undef, p12.2)).bind fun p13 =>
  (bif wantV (.bool b10) true then
  fA 1 p13.1 fun v14 =>
  some (v14, p13.2)
  else some (undef, p13.2)).bind fun p15 =>
  (bif wantV (.bool b10) true then
  ixAV 16 1 p15.1 p12.1 fun v16 =>
  some (v16, p15.2)
  else some (undef, p15.2)).bind fun p17 =>
  (bif wantV (.bool b10) true then
  ld1 p17.1 p17.2 fun v18 =>
  cIn .u32 v18 fun n19 =>
  some ((.int .u32 n19), p17.2)
  else some (undef, p17.2)).bind fun p20 =>
  (bif wantV (.bool b10) true then
  some ((.int .i64 a2), p20.2)
  else some (undef, p20.2)).bind fun p21 =>
  (bif wantV (.bool b10) true then
  aBin Try.prog .shr 79 p20.1 p21.1 fun v22 =>
  some (v22, p21.2)
  else some (undef, p21.2)).bind fun p23 =>
  (bif wantV (.bool b10) true then
  aBin Try.prog .and 79 p23.1 (.int .u32 1) fun v24 =>
  some (v24, p23.2)
  else some (undef, p23.2)).bind fun p25 =>
  (bif wantV (.bool b10) true then
  aBin Try.prog .eql 79 p25.1 (.int .u32 1) fun v26 =>
  some (v26, p25.2)
  else some (undef, p25.2)).bind fun p27 =>
  cBn (bif b10 then p27.1 else (.bool false)) fun b28 =>
  some ((.bool b28), h0)
theorem F13_eq0 (rc : Rec) (md : Md) (a0 : Value) (a1 : Int) (a2 : Int) (h0 : Heap) : callStep0 Try.prog cfg rc md 13 [a0, (.int .i64 a1), (.int .i64 a2)] h0 = F13 rc ⟨h0.length, h0.length⟩ a0 a1 a2 h0 := by kernel_rfl
theorem F13_eq (rc : Rec) (md : Md) (a0 : Value) (a1 : Int) (a2 : Int) (h0 : Heap) : callStep Try.prog cfg rc md 13 [a0, (.int .i64 a1), (.int .i64 a2)] h0 = F13 rc ⟨h0.length, h0.length⟩ a0 a1 a2 h0 := (callStep_ne (by kernel_rfl)).trans (F13_eq0 rc md a0 a1 a2 h0)

/-- (*tombolo/graph.Graph).Joined -/
noncomputable def F14 (rc : Rec) (md : Md) (a0 : Value) (a1 : Int) (a2 : Int) (h0 : Heap) : Option (Value × Heap) :=
  cl (rc md 39 [a0, (.int .i64 a1)] h0) fun v1 h2 =>
  cBn v1 fun b3 =>
  (bif wantV (.bool b3) true then
  some (a0, h2)
  else some (undef, h2)).bind fun p4 =>
  (bif wantV (.bool b3) true then
  some ((.int .i64 a2), p4.2)
  else some (undef, p4.2)).bind fun p5 =>
  (bif wantV (.bool b3) true then
  cl (rc md 39 [p4.1, p5.1] p5.2) fun v6 h7 =>
  cBn v6 fun b8 =>
  some ((.bool b8), h7)
  else some (undef, p5.2)).bind fun p9 =>
  cBn (bif b3 then p9.1 else (.bool false)) fun b10 =>
  (bif wantV (.bool b10) true then
  some (a0, p9.2)
  else some (undef, p9.2)).bind fun p11 =>
  (bif wantV (.bool b10) true then
  some ((.int .i64 a1), p11.2)
  else some (undef, p11.2)).bind fun p12 =>
  (bif wantV (.bool b10) true then
  cl (rc md 40 [p11.1, p12.1] p12.2) fun v13 h14 =>
  cIn .u32 v13 fun n15 =>
  some ((.int .u32 n15), h14)
  else some (undef, p12.2)).bind fun p16 =>
  (bif wantV (.bool b10) true then
  some ((.int .i64 a2), p16.2)
  else some (undef, p16.2)).bind fun p17 =>
  (bif wantV (.bool b10) true then
  aBin Try.prog .shr 79 p16.1 p17.1 fun v18 =>
  some (v18, p17.2)
  else some (undef, p17.2)).bind fun p19 =>
  (bif wantV (.bool b10) true then
  aBin Try.prog .and 79 p19.1 (.int .u32 1) fun v20 =>
  some (v20, p19.2)
  else some (undef, p19.2)).bind fun p21 =>
  (bif wantV (.bool b10) true then
  aBin Try.prog .eql 79 p21.1 (.int .u32 1) fun v22 =>
  some (v22, p21.2)
  else some (undef, p21.2)).bind fun p23 =>
  cBn (bif b10 then p23.1 else (.bool false)) fun b24 =>
  some ((.bool b24), h0)
theorem F14_eq0 (rc : Rec) (md : Md) (a0 : Value) (a1 : Int) (a2 : Int) (h0 : Heap) : callStep0 Try.prog cfg rc md 14 [a0, (.int .i64 a1), (.int .i64 a2)] h0 = F14 rc ⟨h0.length, h0.length⟩ a0 a1 a2 h0 := by kernel_rfl
theorem F14_eq (rc : Rec) (md : Md) (a0 : Value) (a1 : Int) (a2 : Int) (h0 : Heap) : callStep Try.prog cfg rc md 14 [a0, (.int .i64 a1), (.int .i64 a2)] h0 = F14 rc ⟨h0.length, h0.length⟩ a0 a1 a2 h0 := (callStep_ne (by kernel_rfl)).trans (F14_eq0 rc md a0 a1 a2 h0)

/-- (tombolo/tombololaw24.set).joined -/
noncomputable def J15_1 (rc : Rec) (md : Md) (h0 : Heap) (s1 : Value) (s2 : Value) (s9 : Value) (h : Heap) : Option (Value × Heap) :=
  cl (rc md 41 [s9, s1, s2] h) fun v1 h2 =>
  cBn v1 fun b3 =>
  some ((.bool b3), h0)
theorem J15_1_at (rc : Rec) (md : Md) (h0 : Heap) (t : T) (h : Heap) : cut Try.prog cfg rc md 39 (bodyOf Try.prog 15) [1, 1, 1] (retK Try.prog cfg 15 (rsOf Try.prog 15) h0) t h = J15_1 rc md h0 (t 1) (t 2) (t 9) h := by kernel_rfl
theorem J15_1_cut (rc : Rec) (md : Md) (h0 : Heap) : cut Try.prog cfg rc md 39 (bodyOf Try.prog 15) [1, 1, 1] (retK Try.prog cfg 15 (rsOf Try.prog 15) h0) = fun t h => J15_1 rc md h0 (t 1) (t 2) (t 9) h := funext fun t => funext fun h => J15_1_at rc md h0 t h
noncomputable def Jk15_0 (rc : Rec) (md : Md) (h0 : Heap) (e : Exit) (s0 : Value) (s1 : Value) (s2 : Value) (s3 : Value) (s8 : Value) (s9 : Value) (s12 : Value) (s13 : Value) (h : Heap) : Option (Value × Heap) :=
  match e with
  | .normal =>
    J15_1 rc md h0 s1 s2 s9 h
  | .exit j =>
    bif Nat.beq j 0 then
      J15_1 rc md h0 s1 s2 s9 h
    else
      none
  | .ret =>
    fin2 h0 s8
  | .goto l => none
  | .panic ps => none
  | .outgrown => none
noncomputable def Jk15_0H (rc : Rec) (md : Md) (h0 : Heap) (X1 : T → Heap → Option (Value × Heap)) (e : Exit) (t : T) (h : Heap) : Option (Value × Heap) :=
  match e with
  | .normal =>
    X1 t h
  | .exit j =>
    bif Nat.beq j 0 then
      X1 t h
    else
      none
  | .ret =>
    fin2 h0 (t 8)
  | .goto l => none
  | .panic ps => none
  | .outgrown => none
theorem Jk15_0_h1 (rc : Rec) (md : Md) (h0 : Heap) (X : Nat → T → Heap → Option (Value × Heap)) (e : Exit) (t : T) (h : Heap) : kAtG Try.prog cfg X rc md 39 (replS (bodyOf Try.prog 15) [([1, 1, 1], 1)]) [1, 1, 0, 1, 0] (retK Try.prog cfg 15 (rsOf Try.prog 15) h0) e t h = Jk15_0H rc md h0 (X 1) e t h := by cases e <;> kernel_rfl
theorem Jk15_0_h2 (rc : Rec) (md : Md) (h0 : Heap) (e : Exit) (t : T) (h : Heap) : Jk15_0H rc md h0 (fun t h => J15_1 rc md h0 (t 1) (t 2) (t 9) h) e t h = Jk15_0 rc md h0 e (t 0) (t 1) (t 2) (t 3) (t 8) (t 9) (t 12) (t 13) h := by cases e <;> (unfold Jk15_0H Jk15_0; kernel_rfl)
theorem Jk15_0_at (rc : Rec) (md : Md) (h0 : Heap) (e : Exit) (t : T) (h : Heap) : kAt Try.prog cfg rc md 39 (bodyOf Try.prog 15) [1, 1, 0, 1, 0] (retK Try.prog cfg 15 (rsOf Try.prog 15) h0) e t h = Jk15_0 rc md h0 e (t 0) (t 1) (t 2) (t 3) (t 8) (t 9) (t 12) (t 13) h := by
  rw [kAt_holes [([1, 1, 1], 1)] [1, 1, 0, 1, 0] (by kernel_rfl), Jk15_0_h1, show (goX Try.prog cfg rc md 39 (bodyOf Try.prog 15) [([1, 1, 1], 1)] (retK Try.prog cfg 15 (rsOf Try.prog 15) h0)) 1 = _ from J15_1_cut rc md h0]
  exact Jk15_0_h2 rc md h0 e t h
noncomputable def Jk15_0b0 (rc : Rec) (md : Md) (e : Exit) (s0 : Value) (s1 : Value) (s2 : Value) (s3 : Value) (s8 : Value) (s9 : Value) (s10 : Value) (s11 : Value) (s12 : Value) (s13 : Value) (h : Heap) : Option (((Value × Value × Value × Value × Value × Value × Value × Value) × Heap) ⊕ (Exit × (Value × Value × Value × Value × Value × Value × Value × Value) × Heap)) :=
  match e with
  | .normal =>
    aBin Try.prog .add 3 s13 (.int .i64 1) fun v1 =>
    some (.inl ((s0, s1, s2, s3, s8, s9, s12, v1), h))
  | .exit j =>
    bif Nat.beq j 2 then
      aBin Try.prog .add 3 s13 (.int .i64 1) fun v2 =>
      some (.inl ((s0, s1, s2, s3, s8, s9, s12, v2), h))
    else
      bif Nat.beq j 1 then
        aBin Try.prog .add 3 s13 (.int .i64 1) fun v3 =>
        some (.inl ((s0, s1, s2, s3, s8, s9, s12, v3), h))
      else
        some (.inr ((.exit j), (s0, s1, s2, s3, s8, s9, s12, s13), h))
  | .ret =>
    some (.inr (.ret, (s0, s1, s2, s3, s8, s9, s12, s13), h))
  | .goto l => some (.inr ((.goto l), (s0, s1, s2, s3, s8, s9, s12, s13), h))
  | .panic ps => some (.inr ((.panic ps), (s0, s1, s2, s3, s8, s9, s12, s13), h))
  | .outgrown => some (.inr (.outgrown, (s0, s1, s2, s3, s8, s9, s12, s13), h))
theorem Jk15_0b0_at (rc : Rec) (md : Md) (e : Exit) (t : T) (h : Heap) : kAt Try.prog cfg rc md 39 (sub (bodyOf Try.prog 15) [1, 1, 0, 1, 0, 0]) [1, 1, 0, 0, 1, 1, 0] (rndK (fun t => (t 0, t 1, t 2, t 3, t 8, t 9, t 12, t 13))) e t h = Jk15_0b0 rc md e (t 0) (t 1) (t 2) (t 3) (t 8) (t 9) (t 10) (t 11) (t 12) (t 13) h := by cases e <;> kernel_rfl
/-- a round -/
noncomputable def Jr15_0b0 (rc : Rec) (md : Md) (s0 : Value) (s1 : Value) (s2 : Value) (s3 : Value) (s8 : Value) (s9 : Value) (s10 : Value) (s11 : Value) (s12 : Value) (s13 : Value) (h : Heap) : Option (((Value × Value × Value × Value × Value × Value × Value × Value × Value × Value) × Heap) ⊕ (Exit × (Value × Value × Value × Value × Value × Value × Value × Value × Value × Value) × Heap)) :=
  aBin Try.prog .lss 3 s11 s3 fun v1 =>
  cBn v1 fun b2 =>
  bif b2 then
    aBuild Try.prog 34 [(0, s10), (1, s11)] fun v3 =>
    aLookup Try.prog 29 s0 v3 false h fun v4 =>
    cBn v4 fun b5 =>
    bif b5 then
      aBuild Try.prog 34 [(0, s10), (1, s11)] fun v6 =>
      aBuildSlice Try.prog 85 1 [(0, v6)] h fun v7 h8 =>
      aBuiltin Try.prog md .append #[85, 85] [s9, v7] h8 fun v9 h10 =>
      aBin Try.prog .add 3 s11 (.int .i64 1) fun v11 =>
      some (.inl ((s0, s1, s2, s3, s8, v9, s10, v11, s12, s13), h10))
    else
      aBin Try.prog .add 3 s11 (.int .i64 1) fun v12 =>
      some (.inl ((s0, s1, s2, s3, s8, s9, s10, v12, s12, s13), h))
  else
    some (.inr ((.exit 2), (s0, s1, s2, s3, s8, s9, s10, s11, s12, s13), h))
theorem Jr15_0b0_at (rc : Rec) (md : Md) (t : T) (h : Heap) : exec Try.prog cfg rc md 39 (sub (bodyOf Try.prog 15) [1, 1, 0, 1, 0, 0, 1, 1, 0, 0, 1, 1, 0, 0]) (rndK (fun t => (t 0, t 1, t 2, t 3, t 8, t 9, t 10, t 11, t 12, t 13))) t h = Jr15_0b0 rc md (t 0) (t 1) (t 2) (t 3) (t 8) (t 9) (t 10) (t 11) (t 12) (t 13) h := by kernel_rfl
noncomputable def J15_0b0 (rc : Rec) (md : Md) (s0 : Value) (s1 : Value) (s2 : Value) (s3 : Value) (s8 : Value) (s9 : Value) (s10 : Value) (s11 : Value) (s12 : Value) (s13 : Value) (h : Heap) : Option (((Value × Value × Value × Value × Value × Value × Value × Value) × Heap) ⊕ (Exit × (Value × Value × Value × Value × Value × Value × Value × Value) × Heap)) :=
  runL (fun x : (Value × Value × Value × Value × Value × Value × Value × Value × Value × Value) × Heap => Jr15_0b0 rc md x.1.1 x.1.2.1 x.1.2.2.1 x.1.2.2.2.1 x.1.2.2.2.2.1 x.1.2.2.2.2.2.1 x.1.2.2.2.2.2.2.1 x.1.2.2.2.2.2.2.2.1 x.1.2.2.2.2.2.2.2.2.1 x.1.2.2.2.2.2.2.2.2.2 x.2) (fun e (s : Value × Value × Value × Value × Value × Value × Value × Value × Value × Value) h => Jk15_0b0 rc md e s.1 s.2.1 s.2.2.1 s.2.2.2.1 s.2.2.2.2.1 s.2.2.2.2.2.1 s.2.2.2.2.2.2.1 s.2.2.2.2.2.2.2.1 s.2.2.2.2.2.2.2.2.1 s.2.2.2.2.2.2.2.2.2 h) (s0, s1, s2, s3, s8, s9, s10, s11, s12, s13) h
theorem J15_0b0_step (rc : Rec) (md : Md) (s0 : Value) (s1 : Value) (s2 : Value) (s3 : Value) (s8 : Value) (s9 : Value) (s10 : Value) (s11 : Value) (s12 : Value) (s13 : Value) (h : Heap) : J15_0b0 rc md s0 s1 s2 s3 s8 s9 s10 s11 s12 s13 h = (Jr15_0b0 rc md s0 s1 s2 s3 s8 s9 s10 s11 s12 s13 h).bind fun x => match x with
    | .inl (s, h) => J15_0b0 rc md s.1 s.2.1 s.2.2.1 s.2.2.2.1 s.2.2.2.2.1 s.2.2.2.2.2.1 s.2.2.2.2.2.2.1 s.2.2.2.2.2.2.2.1 s.2.2.2.2.2.2.2.2.1 s.2.2.2.2.2.2.2.2.2 h
    | .inr (e, s, h) => Jk15_0b0 rc md e s.1 s.2.1 s.2.2.1 s.2.2.2.1 s.2.2.2.2.1 s.2.2.2.2.2.1 s.2.2.2.2.2.2.1 s.2.2.2.2.2.2.2.1 s.2.2.2.2.2.2.2.2.1 s.2.2.2.2.2.2.2.2.2 h := by
  unfold J15_0b0
  rw [runL_eq]
  refine congrArg (Option.bind _) (funext fun x => ?_)
  rcases x with ⟨s, h⟩ | ⟨e, s, h⟩ <;> rfl
theorem J15_0b0_cut (rc : Rec) (md : Md) : cut Try.prog cfg rc md 39 (sub (bodyOf Try.prog 15) [1, 1, 0, 1, 0, 0]) [1, 1, 0, 0, 1, 1, 0] (rndK (fun t => (t 0, t 1, t 2, t 3, t 8, t 9, t 12, t 13))) = fun t h => J15_0b0 rc md (t 0) (t 1) (t 2) (t 3) (t 8) (t 9) (t 10) (t 11) (t 12) (t 13) h := by
  funext t h
  have e : sub (sub (bodyOf Try.prog 15) [1, 1, 0, 1, 0, 0]) [1, 1, 0, 0, 1, 1, 0] = .loop (sub (bodyOf Try.prog 15) [1, 1, 0, 1, 0, 0, 1, 1, 0, 0, 1, 1, 0, 0]) := by kernel_rfl
  unfold cut
  rw [e]
  exact loop_eq (by kernel_rfl) (fun t => (t 0, t 1, t 2, t 3, t 8, t 9, t 10, t 11, t 12, t 13)) (fun x : (Value × Value × Value × Value × Value × Value × Value × Value × Value × Value) × Heap => Jr15_0b0 rc md x.1.1 x.1.2.1 x.1.2.2.1 x.1.2.2.2.1 x.1.2.2.2.2.1 x.1.2.2.2.2.2.1 x.1.2.2.2.2.2.2.1 x.1.2.2.2.2.2.2.2.1 x.1.2.2.2.2.2.2.2.2.1 x.1.2.2.2.2.2.2.2.2.2 x.2) (fun t h => Jr15_0b0_at rc md t h) (fun e (s : Value × Value × Value × Value × Value × Value × Value × Value × Value × Value) h => Jk15_0b0 rc md e s.1 s.2.1 s.2.2.1 s.2.2.2.1 s.2.2.2.2.1 s.2.2.2.2.2.1 s.2.2.2.2.2.2.1 s.2.2.2.2.2.2.2.1 s.2.2.2.2.2.2.2.2.1 s.2.2.2.2.2.2.2.2.2 h) (fun e t h => Jk15_0b0_at rc md e t h) t h
/-- a round -/
noncomputable def Jr15_0 (rc : Rec) (md : Md) (s0 : Value) (s1 : Value) (s2 : Value) (s3 : Value) (s8 : Value) (s9 : Value) (s12 : Value) (s13 : Value) (h : Heap) : Option (((Value × Value × Value × Value × Value × Value × Value × Value) × Heap) ⊕ (Exit × (Value × Value × Value × Value × Value × Value × Value × Value) × Heap)) :=
  aBin Try.prog .lss 3 s13 s12 fun v1 =>
  cBn v1 fun b2 =>
  bif b2 then
    aBin Try.prog .add 3 s13 (.int .i64 1) fun v3 =>
    J15_0b0 rc md s0 s1 s2 s3 s8 s9 s13 v3 s12 s13 h
  else
    some (.inr ((.exit 0), (s0, s1, s2, s3, s8, s9, s12, s13), h))
noncomputable def Jr15_0H (rc : Rec) (md : Md) (X0 : T → Heap → Option (((Value × Value × Value × Value × Value × Value × Value × Value) × Heap) ⊕ (Exit × (Value × Value × Value × Value × Value × Value × Value × Value) × Heap))) (t : T) (h : Heap) : Option (((Value × Value × Value × Value × Value × Value × Value × Value) × Heap) ⊕ (Exit × (Value × Value × Value × Value × Value × Value × Value × Value) × Heap)) :=
  aBin Try.prog .lss 3 (t 13) (t 12) fun v1 =>
  cBn v1 fun b2 =>
  bif b2 then
    aBin Try.prog .add 3 (t 13) (.int .i64 1) fun v3 =>
    X0 (upd (upd (upd (upd (upd (upd t 14 v1) 15 (t 13)) 10 (t 13)) 16 (t 13)) 17 v3) 11 v3) h
  else
    some (.inr ((.exit 0), ((t 0), (t 1), (t 2), (t 3), (t 8), (t 9), (t 12), (t 13)), h))
theorem Jr15_0_h1 (rc : Rec) (md : Md) (X : Nat → T → Heap → Option (((Value × Value × Value × Value × Value × Value × Value × Value) × Heap) ⊕ (Exit × (Value × Value × Value × Value × Value × Value × Value × Value) × Heap))) (t : T) (h : Heap) : execG Try.prog cfg X rc md 39 (replS (sub (bodyOf Try.prog 15) [1, 1, 0, 1, 0, 0]) [([1, 1, 0, 0, 1, 1, 0], 0)]) (rndK (fun t => (t 0, t 1, t 2, t 3, t 8, t 9, t 12, t 13))) t h = Jr15_0H rc md (X 0) t h := by kernel_rfl
theorem Jr15_0_h2 (rc : Rec) (md : Md) (t : T) (h : Heap) : Jr15_0H rc md (fun t h => J15_0b0 rc md (t 0) (t 1) (t 2) (t 3) (t 8) (t 9) (t 10) (t 11) (t 12) (t 13) h) t h = Jr15_0 rc md (t 0) (t 1) (t 2) (t 3) (t 8) (t 9) (t 12) (t 13) h := by unfold Jr15_0H Jr15_0; kernel_rfl
theorem Jr15_0_at (rc : Rec) (md : Md) (t : T) (h : Heap) : exec Try.prog cfg rc md 39 (sub (bodyOf Try.prog 15) [1, 1, 0, 1, 0, 0]) (rndK (fun t => (t 0, t 1, t 2, t 3, t 8, t 9, t 12, t 13))) t h = Jr15_0 rc md (t 0) (t 1) (t 2) (t 3) (t 8) (t 9) (t 12) (t 13) h := by
  rw [exec_holes [([1, 1, 0, 0, 1, 1, 0], 0)] (by kernel_rfl), Jr15_0_h1, show (goX Try.prog cfg rc md 39 (sub (bodyOf Try.prog 15) [1, 1, 0, 1, 0, 0]) [([1, 1, 0, 0, 1, 1, 0], 0)] (rndK (fun t => (t 0, t 1, t 2, t 3, t 8, t 9, t 12, t 13)))) 0 = _ from J15_0b0_cut rc md]
  exact Jr15_0_h2 rc md t h
noncomputable def J15_0 (rc : Rec) (md : Md) (h0 : Heap) (s0 : Value) (s1 : Value) (s2 : Value) (s3 : Value) (s8 : Value) (s9 : Value) (s12 : Value) (s13 : Value) (h : Heap) : Option (Value × Heap) :=
  runL (fun x : (Value × Value × Value × Value × Value × Value × Value × Value) × Heap => Jr15_0 rc md x.1.1 x.1.2.1 x.1.2.2.1 x.1.2.2.2.1 x.1.2.2.2.2.1 x.1.2.2.2.2.2.1 x.1.2.2.2.2.2.2.1 x.1.2.2.2.2.2.2.2 x.2) (fun e (s : Value × Value × Value × Value × Value × Value × Value × Value) h => Jk15_0 rc md h0 e s.1 s.2.1 s.2.2.1 s.2.2.2.1 s.2.2.2.2.1 s.2.2.2.2.2.1 s.2.2.2.2.2.2.1 s.2.2.2.2.2.2.2 h) (s0, s1, s2, s3, s8, s9, s12, s13) h
theorem J15_0_step (rc : Rec) (md : Md) (h0 : Heap) (s0 : Value) (s1 : Value) (s2 : Value) (s3 : Value) (s8 : Value) (s9 : Value) (s12 : Value) (s13 : Value) (h : Heap) : J15_0 rc md h0 s0 s1 s2 s3 s8 s9 s12 s13 h = (Jr15_0 rc md s0 s1 s2 s3 s8 s9 s12 s13 h).bind fun x => match x with
    | .inl (s, h) => J15_0 rc md h0 s.1 s.2.1 s.2.2.1 s.2.2.2.1 s.2.2.2.2.1 s.2.2.2.2.2.1 s.2.2.2.2.2.2.1 s.2.2.2.2.2.2.2 h
    | .inr (e, s, h) => Jk15_0 rc md h0 e s.1 s.2.1 s.2.2.1 s.2.2.2.1 s.2.2.2.2.1 s.2.2.2.2.2.1 s.2.2.2.2.2.2.1 s.2.2.2.2.2.2.2 h := by
  unfold J15_0
  rw [runL_eq]
  refine congrArg (Option.bind _) (funext fun x => ?_)
  rcases x with ⟨s, h⟩ | ⟨e, s, h⟩ <;> rfl
theorem J15_0_cut (rc : Rec) (md : Md) (h0 : Heap) : cut Try.prog cfg rc md 39 (bodyOf Try.prog 15) [1, 1, 0, 1, 0] (retK Try.prog cfg 15 (rsOf Try.prog 15) h0) = fun t h => J15_0 rc md h0 (t 0) (t 1) (t 2) (t 3) (t 8) (t 9) (t 12) (t 13) h := by
  funext t h
  have e : sub (bodyOf Try.prog 15) [1, 1, 0, 1, 0] = .loop (sub (bodyOf Try.prog 15) [1, 1, 0, 1, 0, 0]) := by kernel_rfl
  unfold cut
  rw [e]
  exact loop_eq (by kernel_rfl) (fun t => (t 0, t 1, t 2, t 3, t 8, t 9, t 12, t 13)) (fun x : (Value × Value × Value × Value × Value × Value × Value × Value) × Heap => Jr15_0 rc md x.1.1 x.1.2.1 x.1.2.2.1 x.1.2.2.2.1 x.1.2.2.2.2.1 x.1.2.2.2.2.2.1 x.1.2.2.2.2.2.2.1 x.1.2.2.2.2.2.2.2 x.2) (fun t h => Jr15_0_at rc md t h) (fun e (s : Value × Value × Value × Value × Value × Value × Value × Value) h => Jk15_0 rc md h0 e s.1 s.2.1 s.2.2.1 s.2.2.2.1 s.2.2.2.2.1 s.2.2.2.2.2.1 s.2.2.2.2.2.2.1 s.2.2.2.2.2.2.2 h) (fun e t h => Jk15_0_at rc md h0 e t h) t h
noncomputable def F15 (rc : Rec) (md : Md) (a0 : Value) (a1 : Int) (a2 : Int) (a3 : Int) (h0 : Heap) : Option (Value × Heap) :=
  J15_0 rc md h0 a0 (.int .i64 a1) (.int .i64 a2) (.int .i64 a3) (.bool false) (.slice none 0 0) (.int .i64 a3) (.int .i64 0) h0
noncomputable def F15H (rc : Rec) (md : Md) (X0 : T → Heap → Option (Value × Heap)) (a0 : Value) (a1 : Int) (a2 : Int) (a3 : Int) (h0 : Heap) : Option (Value × Heap) :=
  X0 (upd (upd (upd (upd (args0 [a0, (.int .i64 a1), (.int .i64 a2), (.int .i64 a3)]) 8 (.bool false)) 9 (.slice none 0 0)) 12 (.int .i64 a3)) 13 (.int .i64 0)) h0
theorem F15_h0 (rc : Rec) (md : Md) (a0 : Value) (a1 : Int) (a2 : Int) (a3 : Int) (h0 : Heap) : callStep0 Try.prog cfg rc md 15 [a0, (.int .i64 a1), (.int .i64 a2), (.int .i64 a3)] h0 = exec Try.prog cfg rc ⟨h0.length, h0.length⟩ 39 (bodyOf Try.prog 15) (retK Try.prog cfg 15 (rsOf Try.prog 15) h0) (args0 [a0, (.int .i64 a1), (.int .i64 a2), (.int .i64 a3)]) h0 := callStep0_run (by kernel_rfl) (by kernel_rfl) (by kernel_rfl)
theorem F15_h1 (rc : Rec) (md : Md) (X : Nat → T → Heap → Option (Value × Heap)) (a0 : Value) (a1 : Int) (a2 : Int) (a3 : Int) (h0 : Heap) : execG Try.prog cfg X rc md 39 (replS (bodyOf Try.prog 15) [([1, 1, 0, 1, 0], 0), ([1, 1, 1], 1)]) (retK Try.prog cfg 15 (rsOf Try.prog 15) h0) (args0 [a0, (.int .i64 a1), (.int .i64 a2), (.int .i64 a3)]) h0 = F15H rc md (X 0) a0 a1 a2 a3 h0 := by kernel_rfl
theorem F15_h2 (rc : Rec) (md : Md) (a0 : Value) (a1 : Int) (a2 : Int) (a3 : Int) (h0 : Heap) : F15H rc md (fun t h => J15_0 rc md h0 (t 0) (t 1) (t 2) (t 3) (t 8) (t 9) (t 12) (t 13) h) a0 a1 a2 a3 h0 = F15 rc md a0 a1 a2 a3 h0 := by unfold F15H F15; kernel_rfl
theorem F15_eq0 (rc : Rec) (md : Md) (a0 : Value) (a1 : Int) (a2 : Int) (a3 : Int) (h0 : Heap) : callStep0 Try.prog cfg rc md 15 [a0, (.int .i64 a1), (.int .i64 a2), (.int .i64 a3)] h0 = F15 rc ⟨h0.length, h0.length⟩ a0 a1 a2 a3 h0 := by
  rw [F15_h0, exec_holes [([1, 1, 0, 1, 0], 0), ([1, 1, 1], 1)] (by kernel_rfl), F15_h1, show (goX Try.prog cfg rc ⟨h0.length, h0.length⟩ 39 (bodyOf Try.prog 15) [([1, 1, 0, 1, 0], 0), ([1, 1, 1], 1)] (retK Try.prog cfg 15 (rsOf Try.prog 15) h0)) 0 = _ from J15_0_cut rc ⟨h0.length, h0.length⟩ h0]
  exact F15_h2 rc _ a0 a1 a2 a3 h0
theorem F15_eq (rc : Rec) (md : Md) (a0 : Value) (a1 : Int) (a2 : Int) (a3 : Int) (h0 : Heap) : callStep Try.prog cfg rc md 15 [a0, (.int .i64 a1), (.int .i64 a2), (.int .i64 a3)] h0 = F15 rc ⟨h0.length, h0.length⟩ a0 a1 a2 a3 h0 := (callStep_ne (by kernel_rfl)).trans (F15_eq0 rc md a0 a1 a2 a3 h0)

/-- (*tombolo/graph.Graph).Edges -/
noncomputable def Jk16_0 (rc : Rec) (md : Md) (h0 : Heap) (e : Exit) (s0 : Value) (s2 : Value) (s3 : Value) (s9 : Value) (s10 : Value) (h : Heap) : Option (Value × Heap) :=
  match e with
  | .normal =>
    some (s3, h)
  | .exit j =>
    bif Nat.beq j 0 then
      some (s3, h)
    else
      none
  | .ret =>
    some (s2, h)
  | .goto l => none
  | .panic ps => none
  | .outgrown => none
theorem Jk16_0_at (rc : Rec) (md : Md) (h0 : Heap) (e : Exit) (t : T) (h : Heap) : kAt Try.prog cfg rc md 35 (bodyOf Try.prog 16) [1, 1, 0, 1, 0] (retK Try.prog cfg 16 (rsOf Try.prog 16) h0) e t h = Jk16_0 rc md h0 e (t 0) (t 2) (t 3) (t 9) (t 10) h := by cases e <;> kernel_rfl
noncomputable def Jk16_0b0 (rc : Rec) (md : Md) (e : Exit) (s0 : Value) (s2 : Value) (s3 : Value) (s4 : Value) (s5 : Value) (s9 : Value) (s10 : Value) (h : Heap) : Option (((Value × Value × Value × Value × Value) × Heap) ⊕ (Exit × (Value × Value × Value × Value × Value) × Heap)) :=
  match e with
  | .normal =>
    aBin Try.prog .add 3 s10 (.int .i64 1) fun v1 =>
    some (.inl ((s0, s2, s3, s9, v1), h))
  | .exit j =>
    bif Nat.beq j 2 then
      aBin Try.prog .add 3 s10 (.int .i64 1) fun v2 =>
      some (.inl ((s0, s2, s3, s9, v2), h))
    else
      bif Nat.beq j 1 then
        aBin Try.prog .add 3 s10 (.int .i64 1) fun v3 =>
        some (.inl ((s0, s2, s3, s9, v3), h))
      else
        some (.inr ((.exit j), (s0, s2, s3, s9, s10), h))
  | .ret =>
    some (.inr (.ret, (s0, s2, s3, s9, s10), h))
  | .goto l => some (.inr ((.goto l), (s0, s2, s3, s9, s10), h))
  | .panic ps => some (.inr ((.panic ps), (s0, s2, s3, s9, s10), h))
  | .outgrown => some (.inr (.outgrown, (s0, s2, s3, s9, s10), h))
theorem Jk16_0b0_at (rc : Rec) (md : Md) (e : Exit) (t : T) (h : Heap) : kAt Try.prog cfg rc md 35 (sub (bodyOf Try.prog 16) [1, 1, 0, 1, 0, 0]) [1, 1, 0, 0, 1, 1, 0] (rndK (fun t => (t 0, t 2, t 3, t 9, t 10))) e t h = Jk16_0b0 rc md e (t 0) (t 2) (t 3) (t 4) (t 5) (t 9) (t 10) h := by cases e <;> kernel_rfl
/-- a round -/
noncomputable def Jr16_0b0 (rc : Rec) (md : Md) (s0 : Value) (s2 : Value) (s3 : Value) (s4 : Value) (s5 : Value) (s9 : Value) (s10 : Value) (h : Heap) : Option (((Value × Value × Value × Value × Value × Value × Value) × Heap) ⊕ (Exit × (Value × Value × Value × Value × Value × Value × Value) × Heap)) :=
  bif okNil Try.prog s0 then
  fA 0 s0 fun v1 =>
  ld1 v1 h fun v2 =>
  cIn .i64 v2 fun n3 =>
  aBin Try.prog .lss 3 s5 (.int .i64 n3) fun v4 =>
  cBn v4 fun b5 =>
  bif b5 then
    cl (rc md 13 [s0, s4, s5] h) fun v6 h7 =>
    cBn v6 fun b8 =>
    bif b8 then
      aBuild Try.prog 34 [(0, s4), (1, s5)] fun v9 =>
      aBuildSlice Try.prog 37 1 [(0, v9)] h7 fun v10 h11 =>
      aBuiltin Try.prog md .append #[37, 37] [s3, v10] h11 fun v12 h13 =>
      aBin Try.prog .add 3 s5 (.int .i64 1) fun v14 =>
      some (.inl ((s0, s2, v12, s4, v14, s9, s10), h13))
    else
      aBin Try.prog .add 3 s5 (.int .i64 1) fun v15 =>
      some (.inl ((s0, s2, s3, s4, v15, s9, s10), h7))
  else
    some (.inr ((.exit 2), (s0, s2, s3, s4, s5, s9, s10), h))
  else none
theorem Jr16_0b0_at (rc : Rec) (md : Md) (t : T) (h : Heap) : exec Try.prog cfg rc md 35 (sub (bodyOf Try.prog 16) [1, 1, 0, 1, 0, 0, 1, 1, 0, 0, 1, 1, 0, 0]) (rndK (fun t => (t 0, t 2, t 3, t 4, t 5, t 9, t 10))) t h = Jr16_0b0 rc md (t 0) (t 2) (t 3) (t 4) (t 5) (t 9) (t 10) h := by kernel_rfl
noncomputable def J16_0b0 (rc : Rec) (md : Md) (s0 : Value) (s2 : Value) (s3 : Value) (s4 : Value) (s5 : Value) (s9 : Value) (s10 : Value) (h : Heap) : Option (((Value × Value × Value × Value × Value) × Heap) ⊕ (Exit × (Value × Value × Value × Value × Value) × Heap)) :=
  runL (fun x : (Value × Value × Value × Value × Value × Value × Value) × Heap => Jr16_0b0 rc md x.1.1 x.1.2.1 x.1.2.2.1 x.1.2.2.2.1 x.1.2.2.2.2.1 x.1.2.2.2.2.2.1 x.1.2.2.2.2.2.2 x.2) (fun e (s : Value × Value × Value × Value × Value × Value × Value) h => Jk16_0b0 rc md e s.1 s.2.1 s.2.2.1 s.2.2.2.1 s.2.2.2.2.1 s.2.2.2.2.2.1 s.2.2.2.2.2.2 h) (s0, s2, s3, s4, s5, s9, s10) h
theorem J16_0b0_step (rc : Rec) (md : Md) (s0 : Value) (s2 : Value) (s3 : Value) (s4 : Value) (s5 : Value) (s9 : Value) (s10 : Value) (h : Heap) : J16_0b0 rc md s0 s2 s3 s4 s5 s9 s10 h = (Jr16_0b0 rc md s0 s2 s3 s4 s5 s9 s10 h).bind fun x => match x with
    | .inl (s, h) => J16_0b0 rc md s.1 s.2.1 s.2.2.1 s.2.2.2.1 s.2.2.2.2.1 s.2.2.2.2.2.1 s.2.2.2.2.2.2 h
    | .inr (e, s, h) => Jk16_0b0 rc md e s.1 s.2.1 s.2.2.1 s.2.2.2.1 s.2.2.2.2.1 s.2.2.2.2.2.1 s.2.2.2.2.2.2 h := by
  unfold J16_0b0
  rw [runL_eq]
  refine congrArg (Option.bind _) (funext fun x => ?_)
  rcases x with ⟨s, h⟩ | ⟨e, s, h⟩ <;> rfl
theorem J16_0b0_cut (rc : Rec) (md : Md) : cut Try.prog cfg rc md 35 (sub (bodyOf Try.prog 16) [1, 1, 0, 1, 0, 0]) [1, 1, 0, 0, 1, 1, 0] (rndK (fun t => (t 0, t 2, t 3, t 9, t 10))) = fun t h => J16_0b0 rc md (t 0) (t 2) (t 3) (t 4) (t 5) (t 9) (t 10) h := by
  funext t h
  have e : sub (sub (bodyOf Try.prog 16) [1, 1, 0, 1, 0, 0]) [1, 1, 0, 0, 1, 1, 0] = .loop (sub (bodyOf Try.prog 16) [1, 1, 0, 1, 0, 0, 1, 1, 0, 0, 1, 1, 0, 0]) := by kernel_rfl
  unfold cut
  rw [e]
  exact loop_eq (by kernel_rfl) (fun t => (t 0, t 2, t 3, t 4, t 5, t 9, t 10)) (fun x : (Value × Value × Value × Value × Value × Value × Value) × Heap => Jr16_0b0 rc md x.1.1 x.1.2.1 x.1.2.2.1 x.1.2.2.2.1 x.1.2.2.2.2.1 x.1.2.2.2.2.2.1 x.1.2.2.2.2.2.2 x.2) (fun t h => Jr16_0b0_at rc md t h) (fun e (s : Value × Value × Value × Value × Value × Value × Value) h => Jk16_0b0 rc md e s.1 s.2.1 s.2.2.1 s.2.2.2.1 s.2.2.2.2.1 s.2.2.2.2.2.1 s.2.2.2.2.2.2 h) (fun e t h => Jk16_0b0_at rc md e t h) t h
/-- a round -/
noncomputable def Jr16_0 (rc : Rec) (md : Md) (s0 : Value) (s2 : Value) (s3 : Value) (s9 : Value) (s10 : Value) (h : Heap) : Option (((Value × Value × Value × Value × Value) × Heap) ⊕ (Exit × (Value × Value × Value × Value × Value) × Heap)) :=
  aBin Try.prog .lss 3 s10 s9 fun v1 =>
  cBn v1 fun b2 =>
  bif b2 then
    aBin Try.prog .add 3 s10 (.int .i64 1) fun v3 =>
    J16_0b0 rc md s0 s2 s3 s10 v3 s9 s10 h
  else
    some (.inr ((.exit 0), (s0, s2, s3, s9, s10), h))
noncomputable def Jr16_0H (rc : Rec) (md : Md) (X0 : T → Heap → Option (((Value × Value × Value × Value × Value) × Heap) ⊕ (Exit × (Value × Value × Value × Value × Value) × Heap))) (t : T) (h : Heap) : Option (((Value × Value × Value × Value × Value) × Heap) ⊕ (Exit × (Value × Value × Value × Value × Value) × Heap)) :=
  aBin Try.prog .lss 3 (t 10) (t 9) fun v1 =>
  cBn v1 fun b2 =>
  bif b2 then
    aBin Try.prog .add 3 (t 10) (.int .i64 1) fun v3 =>
    X0 (upd (upd (upd (upd (upd (upd t 11 v1) 12 (t 10)) 4 (t 10)) 13 (t 10)) 14 v3) 5 v3) h
  else
    some (.inr ((.exit 0), ((t 0), (t 2), (t 3), (t 9), (t 10)), h))
theorem Jr16_0_h1 (rc : Rec) (md : Md) (X : Nat → T → Heap → Option (((Value × Value × Value × Value × Value) × Heap) ⊕ (Exit × (Value × Value × Value × Value × Value) × Heap))) (t : T) (h : Heap) : execG Try.prog cfg X rc md 35 (replS (sub (bodyOf Try.prog 16) [1, 1, 0, 1, 0, 0]) [([1, 1, 0, 0, 1, 1, 0], 0)]) (rndK (fun t => (t 0, t 2, t 3, t 9, t 10))) t h = Jr16_0H rc md (X 0) t h := by kernel_rfl
theorem Jr16_0_h2 (rc : Rec) (md : Md) (t : T) (h : Heap) : Jr16_0H rc md (fun t h => J16_0b0 rc md (t 0) (t 2) (t 3) (t 4) (t 5) (t 9) (t 10) h) t h = Jr16_0 rc md (t 0) (t 2) (t 3) (t 9) (t 10) h := by unfold Jr16_0H Jr16_0; kernel_rfl
theorem Jr16_0_at (rc : Rec) (md : Md) (t : T) (h : Heap) : exec Try.prog cfg rc md 35 (sub (bodyOf Try.prog 16) [1, 1, 0, 1, 0, 0]) (rndK (fun t => (t 0, t 2, t 3, t 9, t 10))) t h = Jr16_0 rc md (t 0) (t 2) (t 3) (t 9) (t 10) h := by
  rw [exec_holes [([1, 1, 0, 0, 1, 1, 0], 0)] (by kernel_rfl), Jr16_0_h1, show (goX Try.prog cfg rc md 35 (sub (bodyOf Try.prog 16) [1, 1, 0, 1, 0, 0]) [([1, 1, 0, 0, 1, 1, 0], 0)] (rndK (fun t => (t 0, t 2, t 3, t 9, t 10)))) 0 = _ from J16_0b0_cut rc md]
  exact Jr16_0_h2 rc md t h
noncomputable def J16_0 (rc : Rec) (md : Md) (h0 : Heap) (s0 : Value) (s2 : Value) (s3 : Value) (s9 : Value) (s10 : Value) (h : Heap) : Option (Value × Heap) :=
  runL (fun x : (Value × Value × Value × Value × Value) × Heap => Jr16_0 rc md x.1.1 x.1.2.1 x.1.2.2.1 x.1.2.2.2.1 x.1.2.2.2.2 x.2) (fun e (s : Value × Value × Value × Value × Value) h => Jk16_0 rc md h0 e s.1 s.2.1 s.2.2.1 s.2.2.2.1 s.2.2.2.2 h) (s0, s2, s3, s9, s10) h
theorem J16_0_step (rc : Rec) (md : Md) (h0 : Heap) (s0 : Value) (s2 : Value) (s3 : Value) (s9 : Value) (s10 : Value) (h : Heap) : J16_0 rc md h0 s0 s2 s3 s9 s10 h = (Jr16_0 rc md s0 s2 s3 s9 s10 h).bind fun x => match x with
    | .inl (s, h) => J16_0 rc md h0 s.1 s.2.1 s.2.2.1 s.2.2.2.1 s.2.2.2.2 h
    | .inr (e, s, h) => Jk16_0 rc md h0 e s.1 s.2.1 s.2.2.1 s.2.2.2.1 s.2.2.2.2 h := by
  unfold J16_0
  rw [runL_eq]
  refine congrArg (Option.bind _) (funext fun x => ?_)
  rcases x with ⟨s, h⟩ | ⟨e, s, h⟩ <;> rfl
theorem J16_0_cut (rc : Rec) (md : Md) (h0 : Heap) : cut Try.prog cfg rc md 35 (bodyOf Try.prog 16) [1, 1, 0, 1, 0] (retK Try.prog cfg 16 (rsOf Try.prog 16) h0) = fun t h => J16_0 rc md h0 (t 0) (t 2) (t 3) (t 9) (t 10) h := by
  funext t h
  have e : sub (bodyOf Try.prog 16) [1, 1, 0, 1, 0] = .loop (sub (bodyOf Try.prog 16) [1, 1, 0, 1, 0, 0]) := by kernel_rfl
  unfold cut
  rw [e]
  exact loop_eq (by kernel_rfl) (fun t => (t 0, t 2, t 3, t 9, t 10)) (fun x : (Value × Value × Value × Value × Value) × Heap => Jr16_0 rc md x.1.1 x.1.2.1 x.1.2.2.1 x.1.2.2.2.1 x.1.2.2.2.2 x.2) (fun t h => Jr16_0_at rc md t h) (fun e (s : Value × Value × Value × Value × Value) h => Jk16_0 rc md h0 e s.1 s.2.1 s.2.2.1 s.2.2.2.1 s.2.2.2.2 h) (fun e t h => Jk16_0_at rc md h0 e t h) t h
noncomputable def F16 (rc : Rec) (md : Md) (a0 : Value) (h0 : Heap) : Option (Value × Heap) :=
  bif okNil Try.prog a0 then
  fA 0 a0 fun v1 =>
  ld1 v1 h0 fun v2 =>
  cIn .i64 v2 fun n3 =>
  J16_0 rc md h0 a0 (.slice none 0 0) (.slice none 0 0) (.int .i64 n3) (.int .i64 0) h0
  else none
noncomputable def F16H (rc : Rec) (md : Md) (X0 : T → Heap → Option (Value × Heap)) (a0 : Value) (h0 : Heap) : Option (Value × Heap) :=
  bif okNil Try.prog a0 then
  fA 0 a0 fun v1 =>
  ld1 v1 h0 fun v2 =>
  cIn .i64 v2 fun n3 =>
  X0 (upd (upd (upd (upd (upd (upd (upd (args0 [a0]) 2 (.slice none 0 0)) 3 (.slice none 0 0)) 6 a0) 7 a0) 8 v1) 9 (.int .i64 n3)) 10 (.int .i64 0)) h0
  else none
theorem F16_h0 (rc : Rec) (md : Md) (a0 : Value) (h0 : Heap) : callStep0 Try.prog cfg rc md 16 [a0] h0 = exec Try.prog cfg rc md 35 (bodyOf Try.prog 16) (retK Try.prog cfg 16 (rsOf Try.prog 16) h0) (args0 [a0]) h0 := callStep0_run (by kernel_rfl) (by kernel_rfl) (by kernel_rfl)
theorem F16_h1 (rc : Rec) (md : Md) (X : Nat → T → Heap → Option (Value × Heap)) (a0 : Value) (h0 : Heap) : execG Try.prog cfg X rc md 35 (replS (bodyOf Try.prog 16) [([1, 1, 0, 1, 0], 0)]) (retK Try.prog cfg 16 (rsOf Try.prog 16) h0) (args0 [a0]) h0 = F16H rc md (X 0) a0 h0 := by kernel_rfl
theorem F16_h2 (rc : Rec) (md : Md) (a0 : Value) (h0 : Heap) : F16H rc md (fun t h => J16_0 rc md h0 (t 0) (t 2) (t 3) (t 9) (t 10) h) a0 h0 = F16 rc md a0 h0 := by unfold F16H F16; kernel_rfl
theorem F16_eq0 (rc : Rec) (md : Md) (a0 : Value) (h0 : Heap) : callStep0 Try.prog cfg rc md 16 [a0] h0 = F16 rc md a0 h0 := by
  rw [F16_h0, exec_holes [([1, 1, 0, 1, 0], 0)] (by kernel_rfl), F16_h1, show (goX Try.prog cfg rc md 35 (bodyOf Try.prog 16) [([1, 1, 0, 1, 0], 0)] (retK Try.prog cfg 16 (rsOf Try.prog 16) h0)) 0 = _ from J16_0_cut rc md h0]
  exact F16_h2 rc _ a0 h0
theorem F16_eq (rc : Rec) (md : Md) (a0 : Value) (h0 : Heap) : callStep Try.prog cfg rc md 16 [a0] h0 = F16 rc md a0 h0 := (callStep_ne (by kernel_rfl)).trans (F16_eq0 rc md a0 h0)

/-- (*tombolo/graph.Graph).Parts -/
noncomputable def Jk17_0 (rc : Rec) (md : Md) (h0 : Heap) (e : Exit) (s0 : Value) (s2 : Value) (s3 : Value) (s4 : Value) (s12 : Value) (s13 : Value) (h : Heap) : Option (Value × Heap) :=
  match e with
  | .normal =>
    some (s3, h)
  | .exit j =>
    bif Nat.beq j 0 then
      some (s3, h)
    else
      none
  | .ret =>
    some (s2, h)
  | .goto l => none
  | .panic ps => none
  | .outgrown => none
theorem Jk17_0_at (rc : Rec) (md : Md) (h0 : Heap) (e : Exit) (t : T) (h : Heap) : kAt Try.prog cfg rc md 50 (bodyOf Try.prog 17) [1, 1, 1, 0, 1, 0] (retK Try.prog cfg 17 (rsOf Try.prog 17) h0) e t h = Jk17_0 rc md h0 e (t 0) (t 2) (t 3) (t 4) (t 12) (t 13) h := by cases e <;> kernel_rfl
noncomputable def J17_0b1 (rc : Rec) (md : Md) (s0 : Value) (s2 : Value) (s3 : Value) (s4 : Value) (s7 : Value) (s12 : Value) (s13 : Value) (h : Heap) : Option (((Value × Value × Value × Value × Value × Value) × Heap) ⊕ (Exit × (Value × Value × Value × Value × Value × Value) × Heap)) :=
  aBuildSlice Try.prog 40 1 [(0, s7)] h fun v1 h2 =>
  aBuiltin Try.prog md .append #[40, 40] [s3, v1] h2 fun v3 h4 =>
  aBin Try.prog .add 3 s13 (.int .i64 1) fun v5 =>
  some (.inl ((s0, s2, v3, s4, s12, v5), h4))
theorem J17_0b1_at (rc : Rec) (md : Md) (t : T) (h : Heap) : cut Try.prog cfg rc md 50 (sub (bodyOf Try.prog 17) [1, 1, 1, 0, 1, 0, 0]) [1, 1, 0, 0, 1, 1, 1, 1, 1, 1] (rndK (fun t => (t 0, t 2, t 3, t 4, t 12, t 13))) t h = J17_0b1 rc md (t 0) (t 2) (t 3) (t 4) (t 7) (t 12) (t 13) h := by kernel_rfl
theorem J17_0b1_cut (rc : Rec) (md : Md) : cut Try.prog cfg rc md 50 (sub (bodyOf Try.prog 17) [1, 1, 1, 0, 1, 0, 0]) [1, 1, 0, 0, 1, 1, 1, 1, 1, 1] (rndK (fun t => (t 0, t 2, t 3, t 4, t 12, t 13))) = fun t h => J17_0b1 rc md (t 0) (t 2) (t 3) (t 4) (t 7) (t 12) (t 13) h := funext fun t => funext fun h => J17_0b1_at rc md t h
noncomputable def Jk17_0b0 (rc : Rec) (md : Md) (e : Exit) (s0 : Value) (s2 : Value) (s3 : Value) (s4 : Value) (s6 : Value) (s7 : Value) (s12 : Value) (s13 : Value) (s30 : Value) (s31 : Value) (h : Heap) : Option (((Value × Value × Value × Value × Value × Value) × Heap) ⊕ (Exit × (Value × Value × Value × Value × Value × Value) × Heap)) :=
  match e with
  | .normal =>
    J17_0b1 rc md s0 s2 s3 s4 s7 s12 s13 h
  | .exit j =>
    bif Nat.beq j 2 then
      J17_0b1 rc md s0 s2 s3 s4 s7 s12 s13 h
    else
      bif Nat.beq j 1 then
        aBin Try.prog .add 3 s13 (.int .i64 1) fun v1 =>
        some (.inl ((s0, s2, s3, s4, s12, v1), h))
      else
        some (.inr ((.exit j), (s0, s2, s3, s4, s12, s13), h))
  | .ret =>
    some (.inr (.ret, (s0, s2, s3, s4, s12, s13), h))
  | .goto l => some (.inr ((.goto l), (s0, s2, s3, s4, s12, s13), h))
  | .panic ps => some (.inr ((.panic ps), (s0, s2, s3, s4, s12, s13), h))
  | .outgrown => some (.inr (.outgrown, (s0, s2, s3, s4, s12, s13), h))
noncomputable def Jk17_0b0H (rc : Rec) (md : Md) (X1 : T → Heap → Option (((Value × Value × Value × Value × Value × Value) × Heap) ⊕ (Exit × (Value × Value × Value × Value × Value × Value) × Heap))) (e : Exit) (t : T) (h : Heap) : Option (((Value × Value × Value × Value × Value × Value) × Heap) ⊕ (Exit × (Value × Value × Value × Value × Value × Value) × Heap)) :=
  match e with
  | .normal =>
    X1 t h
  | .exit j =>
    bif Nat.beq j 2 then
      X1 t h
    else
      bif Nat.beq j 1 then
        aBin Try.prog .add 3 (t 13) (.int .i64 1) fun v1 =>
        some (.inl (((t 0), (t 2), (t 3), (t 4), (t 12), v1), h))
      else
        some (.inr ((.exit j), ((t 0), (t 2), (t 3), (t 4), (t 12), (t 13)), h))
  | .ret =>
    some (.inr (.ret, ((t 0), (t 2), (t 3), (t 4), (t 12), (t 13)), h))
  | .goto l => some (.inr ((.goto l), ((t 0), (t 2), (t 3), (t 4), (t 12), (t 13)), h))
  | .panic ps => some (.inr ((.panic ps), ((t 0), (t 2), (t 3), (t 4), (t 12), (t 13)), h))
  | .outgrown => some (.inr (.outgrown, ((t 0), (t 2), (t 3), (t 4), (t 12), (t 13)), h))
theorem Jk17_0b0_h1 (rc : Rec) (md : Md) (X : Nat → T → Heap → Option (((Value × Value × Value × Value × Value × Value) × Heap) ⊕ (Exit × (Value × Value × Value × Value × Value × Value) × Heap))) (e : Exit) (t : T) (h : Heap) : kAtG Try.prog cfg X rc md 50 (replS (sub (bodyOf Try.prog 17) [1, 1, 1, 0, 1, 0, 0]) [([1, 1, 0, 0, 1, 1, 1, 1, 1, 1], 1)]) [1, 1, 0, 0, 1, 1, 1, 1, 1, 0, 1, 0] (rndK (fun t => (t 0, t 2, t 3, t 4, t 12, t 13))) e t h = Jk17_0b0H rc md (X 1) e t h := by cases e <;> kernel_rfl
theorem Jk17_0b0_h2 (rc : Rec) (md : Md) (e : Exit) (t : T) (h : Heap) : Jk17_0b0H rc md (fun t h => J17_0b1 rc md (t 0) (t 2) (t 3) (t 4) (t 7) (t 12) (t 13) h) e t h = Jk17_0b0 rc md e (t 0) (t 2) (t 3) (t 4) (t 6) (t 7) (t 12) (t 13) (t 30) (t 31) h := by cases e <;> (unfold Jk17_0b0H Jk17_0b0; kernel_rfl)
theorem Jk17_0b0_at (rc : Rec) (md : Md) (e : Exit) (t : T) (h : Heap) : kAt Try.prog cfg rc md 50 (sub (bodyOf Try.prog 17) [1, 1, 1, 0, 1, 0, 0]) [1, 1, 0, 0, 1, 1, 1, 1, 1, 0, 1, 0] (rndK (fun t => (t 0, t 2, t 3, t 4, t 12, t 13))) e t h = Jk17_0b0 rc md e (t 0) (t 2) (t 3) (t 4) (t 6) (t 7) (t 12) (t 13) (t 30) (t 31) h := by
  rw [kAt_holes [([1, 1, 0, 0, 1, 1, 1, 1, 1, 1], 1)] [1, 1, 0, 0, 1, 1, 1, 1, 1, 0, 1, 0] (by kernel_rfl), Jk17_0b0_h1, show (goX Try.prog cfg rc md 50 (sub (bodyOf Try.prog 17) [1, 1, 1, 0, 1, 0, 0]) [([1, 1, 0, 0, 1, 1, 1, 1, 1, 1], 1)] (rndK (fun t => (t 0, t 2, t 3, t 4, t 12, t 13)))) 1 = _ from J17_0b1_cut rc md]
  exact Jk17_0b0_h2 rc md e t h
/-- a round -/
noncomputable def Jr17_0b0 (rc : Rec) (md : Md) (s0 : Value) (s2 : Value) (s3 : Value) (s4 : Value) (s6 : Value) (s7 : Value) (s12 : Value) (s13 : Value) (s30 : Value) (s31 : Value) (h : Heap) : Option (((Value × Value × Value × Value × Value × Value × Value × Value × Value × Value) × Heap) ⊕ (Exit × (Value × Value × Value × Value × Value × Value × Value × Value × Value × Value) × Heap)) :=
  aBin Try.prog .lss 3 s31 s30 fun v1 =>
  cBn v1 fun b2 =>
  bif b2 then
    aBin Try.prog .shr 79 s6 s31 fun v3 =>
    aBin Try.prog .and 79 v3 (.int .u32 1) fun v4 =>
    aBin Try.prog .eql 79 v4 (.int .u32 1) fun v5 =>
    cBn v5 fun b6 =>
    bif b6 then
      aBuildSlice Try.prog 39 1 [(0, s31)] h fun v7 h8 =>
      aBuiltin Try.prog md .append #[39, 39] [s7, v7] h8 fun v9 h10 =>
      aBin Try.prog .add 3 s31 (.int .i64 1) fun v11 =>
      some (.inl ((s0, s2, s3, s4, s6, v9, s12, s13, s30, v11), h10))
    else
      aBin Try.prog .add 3 s31 (.int .i64 1) fun v12 =>
      some (.inl ((s0, s2, s3, s4, s6, s7, s12, s13, s30, v12), h))
  else
    some (.inr ((.exit 2), (s0, s2, s3, s4, s6, s7, s12, s13, s30, s31), h))
theorem Jr17_0b0_at (rc : Rec) (md : Md) (t : T) (h : Heap) : exec Try.prog cfg rc md 50 (sub (bodyOf Try.prog 17) [1, 1, 1, 0, 1, 0, 0, 1, 1, 0, 0, 1, 1, 1, 1, 1, 0, 1, 0, 0]) (rndK (fun t => (t 0, t 2, t 3, t 4, t 6, t 7, t 12, t 13, t 30, t 31))) t h = Jr17_0b0 rc md (t 0) (t 2) (t 3) (t 4) (t 6) (t 7) (t 12) (t 13) (t 30) (t 31) h := by kernel_rfl
noncomputable def J17_0b0 (rc : Rec) (md : Md) (s0 : Value) (s2 : Value) (s3 : Value) (s4 : Value) (s6 : Value) (s7 : Value) (s12 : Value) (s13 : Value) (s30 : Value) (s31 : Value) (h : Heap) : Option (((Value × Value × Value × Value × Value × Value) × Heap) ⊕ (Exit × (Value × Value × Value × Value × Value × Value) × Heap)) :=
  runL (fun x : (Value × Value × Value × Value × Value × Value × Value × Value × Value × Value) × Heap => Jr17_0b0 rc md x.1.1 x.1.2.1 x.1.2.2.1 x.1.2.2.2.1 x.1.2.2.2.2.1 x.1.2.2.2.2.2.1 x.1.2.2.2.2.2.2.1 x.1.2.2.2.2.2.2.2.1 x.1.2.2.2.2.2.2.2.2.1 x.1.2.2.2.2.2.2.2.2.2 x.2) (fun e (s : Value × Value × Value × Value × Value × Value × Value × Value × Value × Value) h => Jk17_0b0 rc md e s.1 s.2.1 s.2.2.1 s.2.2.2.1 s.2.2.2.2.1 s.2.2.2.2.2.1 s.2.2.2.2.2.2.1 s.2.2.2.2.2.2.2.1 s.2.2.2.2.2.2.2.2.1 s.2.2.2.2.2.2.2.2.2 h) (s0, s2, s3, s4, s6, s7, s12, s13, s30, s31) h
theorem J17_0b0_step (rc : Rec) (md : Md) (s0 : Value) (s2 : Value) (s3 : Value) (s4 : Value) (s6 : Value) (s7 : Value) (s12 : Value) (s13 : Value) (s30 : Value) (s31 : Value) (h : Heap) : J17_0b0 rc md s0 s2 s3 s4 s6 s7 s12 s13 s30 s31 h = (Jr17_0b0 rc md s0 s2 s3 s4 s6 s7 s12 s13 s30 s31 h).bind fun x => match x with
    | .inl (s, h) => J17_0b0 rc md s.1 s.2.1 s.2.2.1 s.2.2.2.1 s.2.2.2.2.1 s.2.2.2.2.2.1 s.2.2.2.2.2.2.1 s.2.2.2.2.2.2.2.1 s.2.2.2.2.2.2.2.2.1 s.2.2.2.2.2.2.2.2.2 h
    | .inr (e, s, h) => Jk17_0b0 rc md e s.1 s.2.1 s.2.2.1 s.2.2.2.1 s.2.2.2.2.1 s.2.2.2.2.2.1 s.2.2.2.2.2.2.1 s.2.2.2.2.2.2.2.1 s.2.2.2.2.2.2.2.2.1 s.2.2.2.2.2.2.2.2.2 h := by
  unfold J17_0b0
  rw [runL_eq]
  refine congrArg (Option.bind _) (funext fun x => ?_)
  rcases x with ⟨s, h⟩ | ⟨e, s, h⟩ <;> rfl
theorem J17_0b0_cut (rc : Rec) (md : Md) : cut Try.prog cfg rc md 50 (sub (bodyOf Try.prog 17) [1, 1, 1, 0, 1, 0, 0]) [1, 1, 0, 0, 1, 1, 1, 1, 1, 0, 1, 0] (rndK (fun t => (t 0, t 2, t 3, t 4, t 12, t 13))) = fun t h => J17_0b0 rc md (t 0) (t 2) (t 3) (t 4) (t 6) (t 7) (t 12) (t 13) (t 30) (t 31) h := by
  funext t h
  have e : sub (sub (bodyOf Try.prog 17) [1, 1, 1, 0, 1, 0, 0]) [1, 1, 0, 0, 1, 1, 1, 1, 1, 0, 1, 0] = .loop (sub (bodyOf Try.prog 17) [1, 1, 1, 0, 1, 0, 0, 1, 1, 0, 0, 1, 1, 1, 1, 1, 0, 1, 0, 0]) := by kernel_rfl
  unfold cut
  rw [e]
  exact loop_eq (by kernel_rfl) (fun t => (t 0, t 2, t 3, t 4, t 6, t 7, t 12, t 13, t 30, t 31)) (fun x : (Value × Value × Value × Value × Value × Value × Value × Value × Value × Value) × Heap => Jr17_0b0 rc md x.1.1 x.1.2.1 x.1.2.2.1 x.1.2.2.2.1 x.1.2.2.2.2.1 x.1.2.2.2.2.2.1 x.1.2.2.2.2.2.2.1 x.1.2.2.2.2.2.2.2.1 x.1.2.2.2.2.2.2.2.2.1 x.1.2.2.2.2.2.2.2.2.2 x.2) (fun t h => Jr17_0b0_at rc md t h) (fun e (s : Value × Value × Value × Value × Value × Value × Value × Value × Value × Value) h => Jk17_0b0 rc md e s.1 s.2.1 s.2.2.1 s.2.2.2.1 s.2.2.2.2.1 s.2.2.2.2.2.1 s.2.2.2.2.2.2.1 s.2.2.2.2.2.2.2.1 s.2.2.2.2.2.2.2.2.1 s.2.2.2.2.2.2.2.2.2 h) (fun e t h => Jk17_0b0_at rc md e t h) t h
/-- a round -/
noncomputable def Jr17_0 (rc : Rec) (md : Md) (s0 : Value) (s2 : Value) (s3 : Value) (s4 : Value) (s12 : Value) (s13 : Value) (h : Heap) : Option (((Value × Value × Value × Value × Value × Value) × Heap) ⊕ (Exit × (Value × Value × Value × Value × Value × Value) × Heap)) :=
  aBin Try.prog .lss 3 s13 s12 fun v1 =>
  cBn v1 fun b2 =>
  bif b2 then
    aBin Try.prog .shr 79 s4 s13 fun v3 =>
    aBin Try.prog .and 79 v3 (.int .u32 1) fun v4 =>
    aBin Try.prog .eql 79 v4 (.int .u32 1) fun v5 =>
    cBn v5 fun b6 =>
    bif b6 then
      aBin Try.prog .add 3 s13 (.int .i64 1) fun v7 =>
      some (.inl ((s0, s2, s3, s4, s12, v7), h))
    else
      cl (rc md 40 [s0, s13] h) fun v8 h9 =>
      cIn .u32 v8 fun n10 =>
      aBin Try.prog .or 79 s4 (.int .u32 n10) fun v11 =>
      bif okNil Try.prog s0 then
      fA 0 s0 fun v12 =>
      ld1 v12 h9 fun v13 =>
      cIn .i64 v13 fun n14 =>
      J17_0b0 rc md s0 s2 s3 v11 (.int .u32 n10) (.slice none 0 0) s12 s13 (.int .i64 n14) (.int .i64 0) h9
      else none
  else
    some (.inr ((.exit 0), (s0, s2, s3, s4, s12, s13), h))
noncomputable def Jr17_0H (rc : Rec) (md : Md) (X0 : T → Heap → Option (((Value × Value × Value × Value × Value × Value) × Heap) ⊕ (Exit × (Value × Value × Value × Value × Value × Value) × Heap))) (t : T) (h : Heap) : Option (((Value × Value × Value × Value × Value × Value) × Heap) ⊕ (Exit × (Value × Value × Value × Value × Value × Value) × Heap)) :=
  aBin Try.prog .lss 3 (t 13) (t 12) fun v1 =>
  cBn v1 fun b2 =>
  bif b2 then
    aBin Try.prog .shr 79 (t 4) (t 13) fun v3 =>
    aBin Try.prog .and 79 v3 (.int .u32 1) fun v4 =>
    aBin Try.prog .eql 79 v4 (.int .u32 1) fun v5 =>
    cBn v5 fun b6 =>
    bif b6 then
      aBin Try.prog .add 3 (t 13) (.int .i64 1) fun v7 =>
      some (.inl (((t 0), (t 2), (t 3), (t 4), (t 12), v7), h))
    else
      cl (rc md 40 [(t 0), (t 13)] h) fun v8 h9 =>
      cIn .u32 v8 fun n10 =>
      aBin Try.prog .or 79 (t 4) (.int .u32 n10) fun v11 =>
      bif okNil Try.prog (t 0) then
      fA 0 (t 0) fun v12 =>
      ld1 v12 h9 fun v13 =>
      cIn .i64 v13 fun n14 =>
      X0 (upd (upd (upd (upd (upd (upd (upd (upd (upd (upd (upd (upd (upd (upd (upd (upd (upd (upd (upd (upd (upd (upd t 14 v1) 15 (t 13)) 5 (t 13)) 16 (t 4)) 17 (t 13)) 18 v3) 19 v4) 20 v5) 21 (t 0)) 22 (t 13)) 23 (.int .u32 n10)) 6 (.int .u32 n10)) 24 (t 4)) 25 (.int .u32 n10)) 26 v11) 4 v11) 7 (.slice none 0 0)) 27 (t 0)) 28 (t 0)) 29 v12) 30 (.int .i64 n14)) 31 (.int .i64 0)) h9
      else none
  else
    some (.inr ((.exit 0), ((t 0), (t 2), (t 3), (t 4), (t 12), (t 13)), h))
theorem Jr17_0_h1 (rc : Rec) (md : Md) (X : Nat → T → Heap → Option (((Value × Value × Value × Value × Value × Value) × Heap) ⊕ (Exit × (Value × Value × Value × Value × Value × Value) × Heap))) (t : T) (h : Heap) : execG Try.prog cfg X rc md 50 (replS (sub (bodyOf Try.prog 17) [1, 1, 1, 0, 1, 0, 0]) [([1, 1, 0, 0, 1, 1, 1, 1, 1, 0, 1, 0], 0), ([1, 1, 0, 0, 1, 1, 1, 1, 1, 1], 1)]) (rndK (fun t => (t 0, t 2, t 3, t 4, t 12, t 13))) t h = Jr17_0H rc md (X 0) t h := by kernel_rfl
theorem Jr17_0_h2 (rc : Rec) (md : Md) (t : T) (h : Heap) : Jr17_0H rc md (fun t h => J17_0b0 rc md (t 0) (t 2) (t 3) (t 4) (t 6) (t 7) (t 12) (t 13) (t 30) (t 31) h) t h = Jr17_0 rc md (t 0) (t 2) (t 3) (t 4) (t 12) (t 13) h := by unfold Jr17_0H Jr17_0; kernel_rfl
theorem Jr17_0_at (rc : Rec) (md : Md) (t : T) (h : Heap) : exec Try.prog cfg rc md 50 (sub (bodyOf Try.prog 17) [1, 1, 1, 0, 1, 0, 0]) (rndK (fun t => (t 0, t 2, t 3, t 4, t 12, t 13))) t h = Jr17_0 rc md (t 0) (t 2) (t 3) (t 4) (t 12) (t 13) h := by
  rw [exec_holes [([1, 1, 0, 0, 1, 1, 1, 1, 1, 0, 1, 0], 0), ([1, 1, 0, 0, 1, 1, 1, 1, 1, 1], 1)] (by kernel_rfl), Jr17_0_h1, show (goX Try.prog cfg rc md 50 (sub (bodyOf Try.prog 17) [1, 1, 1, 0, 1, 0, 0]) [([1, 1, 0, 0, 1, 1, 1, 1, 1, 0, 1, 0], 0), ([1, 1, 0, 0, 1, 1, 1, 1, 1, 1], 1)] (rndK (fun t => (t 0, t 2, t 3, t 4, t 12, t 13)))) 0 = _ from J17_0b0_cut rc md]
  exact Jr17_0_h2 rc md t h
noncomputable def J17_0 (rc : Rec) (md : Md) (h0 : Heap) (s0 : Value) (s2 : Value) (s3 : Value) (s4 : Value) (s12 : Value) (s13 : Value) (h : Heap) : Option (Value × Heap) :=
  runL (fun x : (Value × Value × Value × Value × Value × Value) × Heap => Jr17_0 rc md x.1.1 x.1.2.1 x.1.2.2.1 x.1.2.2.2.1 x.1.2.2.2.2.1 x.1.2.2.2.2.2 x.2) (fun e (s : Value × Value × Value × Value × Value × Value) h => Jk17_0 rc md h0 e s.1 s.2.1 s.2.2.1 s.2.2.2.1 s.2.2.2.2.1 s.2.2.2.2.2 h) (s0, s2, s3, s4, s12, s13) h
theorem J17_0_step (rc : Rec) (md : Md) (h0 : Heap) (s0 : Value) (s2 : Value) (s3 : Value) (s4 : Value) (s12 : Value) (s13 : Value) (h : Heap) : J17_0 rc md h0 s0 s2 s3 s4 s12 s13 h = (Jr17_0 rc md s0 s2 s3 s4 s12 s13 h).bind fun x => match x with
    | .inl (s, h) => J17_0 rc md h0 s.1 s.2.1 s.2.2.1 s.2.2.2.1 s.2.2.2.2.1 s.2.2.2.2.2 h
    | .inr (e, s, h) => Jk17_0 rc md h0 e s.1 s.2.1 s.2.2.1 s.2.2.2.1 s.2.2.2.2.1 s.2.2.2.2.2 h := by
  unfold J17_0
  rw [runL_eq]
  refine congrArg (Option.bind _) (funext fun x => ?_)
  rcases x with ⟨s, h⟩ | ⟨e, s, h⟩ <;> rfl
theorem J17_0_cut (rc : Rec) (md : Md) (h0 : Heap) : cut Try.prog cfg rc md 50 (bodyOf Try.prog 17) [1, 1, 1, 0, 1, 0] (retK Try.prog cfg 17 (rsOf Try.prog 17) h0) = fun t h => J17_0 rc md h0 (t 0) (t 2) (t 3) (t 4) (t 12) (t 13) h := by
  funext t h
  have e : sub (bodyOf Try.prog 17) [1, 1, 1, 0, 1, 0] = .loop (sub (bodyOf Try.prog 17) [1, 1, 1, 0, 1, 0, 0]) := by kernel_rfl
  unfold cut
  rw [e]
  exact loop_eq (by kernel_rfl) (fun t => (t 0, t 2, t 3, t 4, t 12, t 13)) (fun x : (Value × Value × Value × Value × Value × Value) × Heap => Jr17_0 rc md x.1.1 x.1.2.1 x.1.2.2.1 x.1.2.2.2.1 x.1.2.2.2.2.1 x.1.2.2.2.2.2 x.2) (fun t h => Jr17_0_at rc md t h) (fun e (s : Value × Value × Value × Value × Value × Value) h => Jk17_0 rc md h0 e s.1 s.2.1 s.2.2.1 s.2.2.2.1 s.2.2.2.2.1 s.2.2.2.2.2 h) (fun e t h => Jk17_0_at rc md h0 e t h) t h
noncomputable def F17 (rc : Rec) (md : Md) (a0 : Value) (h0 : Heap) : Option (Value × Heap) :=
  bif okNil Try.prog a0 then
  fA 0 a0 fun v1 =>
  ld1 v1 h0 fun v2 =>
  cIn .i64 v2 fun n3 =>
  J17_0 rc md h0 a0 (.slice none 0 0) (.slice none 0 0) (.int .u32 0) (.int .i64 n3) (.int .i64 0) h0
  else none
noncomputable def F17H (rc : Rec) (md : Md) (X0 : T → Heap → Option (Value × Heap)) (a0 : Value) (h0 : Heap) : Option (Value × Heap) :=
  bif okNil Try.prog a0 then
  fA 0 a0 fun v1 =>
  ld1 v1 h0 fun v2 =>
  cIn .i64 v2 fun n3 =>
  X0 (upd (upd (upd (upd (upd (upd (upd (upd (args0 [a0]) 2 (.slice none 0 0)) 3 (.slice none 0 0)) 4 (.int .u32 0)) 9 a0) 10 a0) 11 v1) 12 (.int .i64 n3)) 13 (.int .i64 0)) h0
  else none
theorem F17_h0 (rc : Rec) (md : Md) (a0 : Value) (h0 : Heap) : callStep0 Try.prog cfg rc md 17 [a0] h0 = exec Try.prog cfg rc md 50 (bodyOf Try.prog 17) (retK Try.prog cfg 17 (rsOf Try.prog 17) h0) (args0 [a0]) h0 := callStep0_run (by kernel_rfl) (by kernel_rfl) (by kernel_rfl)
theorem F17_h1 (rc : Rec) (md : Md) (X : Nat → T → Heap → Option (Value × Heap)) (a0 : Value) (h0 : Heap) : execG Try.prog cfg X rc md 50 (replS (bodyOf Try.prog 17) [([1, 1, 1, 0, 1, 0], 0)]) (retK Try.prog cfg 17 (rsOf Try.prog 17) h0) (args0 [a0]) h0 = F17H rc md (X 0) a0 h0 := by kernel_rfl
theorem F17_h2 (rc : Rec) (md : Md) (a0 : Value) (h0 : Heap) : F17H rc md (fun t h => J17_0 rc md h0 (t 0) (t 2) (t 3) (t 4) (t 12) (t 13) h) a0 h0 = F17 rc md a0 h0 := by unfold F17H F17; kernel_rfl
theorem F17_eq0 (rc : Rec) (md : Md) (a0 : Value) (h0 : Heap) : callStep0 Try.prog cfg rc md 17 [a0] h0 = F17 rc md a0 h0 := by
  rw [F17_h0, exec_holes [([1, 1, 1, 0, 1, 0], 0)] (by kernel_rfl), F17_h1, show (goX Try.prog cfg rc md 50 (bodyOf Try.prog 17) [([1, 1, 1, 0, 1, 0], 0)] (retK Try.prog cfg 17 (rsOf Try.prog 17) h0)) 0 = _ from J17_0_cut rc md h0]
  exact F17_h2 rc _ a0 h0
theorem F17_eq (rc : Rec) (md : Md) (a0 : Value) (h0 : Heap) : callStep Try.prog cfg rc md 17 [a0] h0 = F17 rc md a0 h0 := (callStep_ne (by kernel_rfl)).trans (F17_eq0 rc md a0 h0)

/-- (*tombolo/graph.Graph).Do -/
noncomputable def F18 (rc : Rec) (md : Md) (a0 : Value) (a1_0 : Int) (a1_1 : Int) (a1_2 : Int) (h0 : Heap) : Option (Value × Heap) :=
  let h1 : Heap := h0 ++ [.own [(.int .i64 a1_0), (.int .i64 a1_1), (.int .i64 a1_2)]]
  bif okNil Try.prog a0 then
  fA 0 a0 fun v2 =>
  ld1 v2 h1 fun v3 =>
  cIn .i64 v3 fun n4 =>
  ldN 3 (.pointer (some ⟨h0.length, 0, none⟩)) h1 fun v5 =>
  cl (rc md 42 [(.agg #[(.int .i64 n4), (.int .i64 0), (.int .i64 0)]), v5] h1) fun v6 h7 =>
  cIn .i64 v6 fun n8 =>
  bif (n8 != 0) then
    some ((.tuple #[(.bool false), (.int .i64 n8)]), List.take h0.length h7)
  else
    ld1 (.pointer (some ⟨h0.length, 0, none⟩)) h7 fun v9 =>
    cIn .i64 v9 fun n10 =>
    bif (n10 == 3) then
      ld1 (.pointer (some ⟨h0.length, 1, none⟩)) h7 fun v11 =>
      cIn .i64 v11 fun n12 =>
      ld1 (.pointer (some ⟨h0.length, 2, none⟩)) h7 fun v13 =>
      cIn .i64 v13 fun n14 =>
      cl (rc md 14 [a0, (.int .i64 n12), (.int .i64 n14)] h7) fun v15 h16 =>
      cBn v15 fun b17 =>
      some ((.tuple #[(.bool b17), (.int .i64 0)]), List.take h0.length h16)
    else
      ld1 (.pointer (some ⟨h0.length, 1, none⟩)) h7 fun v18 =>
      cIn .i64 v18 fun n19 =>
      ld1 (.pointer (some ⟨h0.length, 2, none⟩)) h7 fun v20 =>
      cIn .i64 v20 fun n21 =>
      cl (rc md 13 [a0, (.int .i64 n19), (.int .i64 n21)] h7) fun v22 h23 =>
      cBn v22 fun b24 =>
      ld1 (.pointer (some ⟨h0.length, 0, none⟩)) h23 fun v25 =>
      cIn .i64 v25 fun n26 =>
      aBin Try.prog .eql 4 (.bool b24) (.bool (n26 == 1)) fun v27 =>
      cBn v27 fun b28 =>
      bif b28 then
        some ((.tuple #[(.bool false), (.int .i64 0)]), List.take h0.length h23)
      else
        ld1 (.pointer (some ⟨h0.length, 1, none⟩)) h23 fun v29 =>
        cIn .i64 v29 fun n30 =>
        ld1 (.pointer (some ⟨h0.length, 2, none⟩)) h23 fun v31 =>
        cIn .i64 v31 fun n32 =>
        cl (rc md 43 [a0, (.int .i64 n30), (.int .i64 n32)] h23) fun v33 h34 =>
        some ((.tuple #[(.bool true), (.int .i64 0)]), List.take h0.length h34)
  else none
theorem F18_eq0 (rc : Rec) (md : Md) (a0 : Value) (a1_0 : Int) (a1_1 : Int) (a1_2 : Int) (h0 : Heap) : callStep0 Try.prog cfg rc md 18 [a0, (.agg #[(.int .i64 a1_0), (.int .i64 a1_1), (.int .i64 a1_2)])] h0 = F18 rc ⟨md.ro, h0.length⟩ a0 a1_0 a1_1 a1_2 h0 := by kernel_rfl
theorem F18_eq (rc : Rec) (md : Md) (a0 : Value) (a1_0 : Int) (a1_1 : Int) (a1_2 : Int) (h0 : Heap) : callStep Try.prog cfg rc md 18 [a0, (.agg #[(.int .i64 a1_0), (.int .i64 a1_1), (.int .i64 a1_2)])] h0 = F18 rc ⟨md.ro, h0.length⟩ a0 a1_0 a1_1 a1_2 h0 := (callStep_ne (by kernel_rfl)).trans (F18_eq0 rc md a0 a1_0 a1_1 a1_2 h0)

/-- (*tombolo/graph.Graph).Copy -/
noncomputable def F19 (rc : Rec) (md : Md) (a0 : Value) (h0 : Heap) : Option (Value × Heap) :=
  bif okNil Try.prog a0 then
  ldN 17 a0 h0 fun v1 =>
  let h2 : Heap := h0 ++ [.own [(.int .i64 0), (.int .u32 0), (.int .u32 0), (.int .u32 0), (.int .u32 0), (.int .u32 0), (.int .u32 0), (.int .u32 0), (.int .u32 0), (.int .u32 0), (.int .u32 0), (.int .u32 0), (.int .u32 0), (.int .u32 0), (.int .u32 0), (.int .u32 0), (.int .u32 0)]]
  st md 17 (.pointer (some ⟨h0.length, 0, none⟩)) v1 h2 fun h3 =>
  some ((.pointer (some ⟨h0.length, 0, none⟩)), h3)
  else none
theorem F19_eq0 (rc : Rec) (md : Md) (a0 : Value) (h0 : Heap) : callStep0 Try.prog cfg rc md 19 [a0] h0 = F19 rc md a0 h0 := by kernel_rfl
theorem F19_eq (rc : Rec) (md : Md) (a0 : Value) (h0 : Heap) : callStep Try.prog cfg rc md 19 [a0] h0 = F19 rc md a0 h0 := (callStep_ne (by kernel_rfl)).trans (F19_eq0 rc md a0 h0)

/-- tombolo/graph.Equal -/
noncomputable def F20 (rc : Rec) (md : Md) (a0 : Value) (a1 : Value) (h0 : Heap) : Option (Value × Heap) :=
  bif okNil Try.prog a0 then
  fA 0 a0 fun v1 =>
  ld1 v1 h0 fun v2 =>
  cIn .i64 v2 fun n3 =>
  bif okNil Try.prog a1 then
  fA 0 a1 fun v4 =>
  ld1 v4 h0 fun v5 =>
  cIn .i64 v5 fun n6 =>
  (bif wantV (.bool (n3 == n6)) true then
  some (a0, h0)
  else some (undef, h0)).bind fun p7 =>
  (bif wantV (.bool (n3 == n6)) true then
  bif okNil Try.prog p7.1 then
  some (p7.1, p7.2)
  else none
  else some (undef, p7.2)).bind fun p8 =>
  (bif wantV (.bool (n3 == n6)) true then
  fA 1 p8.1 fun v9 =>
  some (v9, p8.2)
  else some (undef, p8.2)).bind fun p10 =>
  (bif wantV (.bool (n3 == n6)) true then
  ldN 16 p10.1 p10.2 fun v11 =>
  some (v11, p10.2)
  else some (undef, p10.2)).bind fun p12 =>
  (bif wantV (.bool (n3 == n6)) true then
  some (a1, p12.2)
  else some (undef, p12.2)).bind fun p13 =>
  (bif wantV (.bool (n3 == n6)) true then
  bif okNil Try.prog p13.1 then
  some (p13.1, p13.2)
  else none
  else some (undef, p13.2)).bind fun p14 =>
  (bif wantV (.bool (n3 == n6)) true then
  fA 1 p14.1 fun v15 =>
  some (v15, p14.2)
  else some (undef, p14.2)).bind fun p16 =>
  (bif wantV (.bool (n3 == n6)) true then
  ldN 16 p16.1 p16.2 fun v17 =>
  some (v17, p16.2)
  else some (undef, p16.2)).bind fun p18 =>
  (bif wantV (.bool (n3 == n6)) true then
  aBin Try.prog .eql 80 p12.1 p18.1 fun v19 =>
  some (v19, p18.2)
  else some (undef, p18.2)).bind fun p20 =>
  cBn (bif (n3 == n6) then p20.1 else (.bool false)) fun b21 =>
  some ((.bool b21), h0)
  else none
  else none
theorem F20_eq0 (rc : Rec) (md : Md) (a0 : Value) (a1 : Value) (h0 : Heap) : callStep0 Try.prog cfg rc md 20 [a0, a1] h0 = F20 rc ⟨h0.length, h0.length⟩ a0 a1 h0 := by kernel_rfl
theorem F20_eq (rc : Rec) (md : Md) (a0 : Value) (a1 : Value) (h0 : Heap) : callStep Try.prog cfg rc md 20 [a0, a1] h0 = F20 rc ⟨h0.length, h0.length⟩ a0 a1 h0 := (callStep_ne (by kernel_rfl)).trans (F20_eq0 rc md a0 a1 h0)

/-- tombolo/tombololaw24.step$1 -/
noncomputable def F38 (rc : Rec) (md : Md) (a0 : Int) (c0 : Value) (h0 : Heap) : Option (Value × Heap) :=
  (bif wantV (.bool (decide (a0 ≥ 0))) true then
  some ((.int .i64 a0), h0)
  else some (undef, h0)).bind fun p1 =>
  (bif wantV (.bool (decide (a0 ≥ 0))) true then
  ld1 c0 p1.2 fun v2 =>
  cIn .i64 v2 fun n3 =>
  some ((.int .i64 n3), p1.2)
  else some (undef, p1.2)).bind fun p4 =>
  (bif wantV (.bool (decide (a0 ≥ 0))) true then
  aBin Try.prog .lss 3 p1.1 p4.1 fun v5 =>
  some (v5, p4.2)
  else some (undef, p4.2)).bind fun p6 =>
  cBn (bif (decide (a0 ≥ 0)) then p6.1 else (.bool false)) fun b7 =>
  some ((.bool b7), h0)
theorem F38_eq0 (rc : Rec) (md : Md) (a0 : Int) (c0 : Value) (h0 : Heap) : callStep0 Try.prog cfg rc md 38 [(.int .i64 a0), c0] h0 = F38 rc ⟨h0.length, h0.length⟩ a0 c0 h0 := by kernel_rfl
theorem F38_eq (rc : Rec) (md : Md) (a0 : Int) (c0 : Value) (h0 : Heap) : callStep Try.prog cfg rc md 38 [(.int .i64 a0), c0] h0 = F38 rc ⟨h0.length, h0.length⟩ a0 c0 h0 := (callStep_ne (by kernel_rfl)).trans (F38_eq0 rc md a0 c0 h0)

/-- (*tombolo/graph.Graph).there -/
noncomputable def F39 (rc : Rec) (md : Md) (a0 : Value) (a1 : Int) (h0 : Heap) : Option (Value × Heap) :=
  (bif wantV (.bool (decide (a1 ≥ 0))) true then
  some ((.int .i64 a1), h0)
  else some (undef, h0)).bind fun p1 =>
  (bif wantV (.bool (decide (a1 ≥ 0))) true then
  some (a0, p1.2)
  else some (undef, p1.2)).bind fun p2 =>
  (bif wantV (.bool (decide (a1 ≥ 0))) true then
  bif okNil Try.prog p2.1 then
  some (p2.1, p2.2)
  else none
  else some (undef, p2.2)).bind fun p3 =>
  (bif wantV (.bool (decide (a1 ≥ 0))) true then
  fA 0 p3.1 fun v4 =>
  some (v4, p3.2)
  else some (undef, p3.2)).bind fun p5 =>
  (bif wantV (.bool (decide (a1 ≥ 0))) true then
  ld1 p5.1 p5.2 fun v6 =>
  cIn .i64 v6 fun n7 =>
  some ((.int .i64 n7), p5.2)
  else some (undef, p5.2)).bind fun p8 =>
  (bif wantV (.bool (decide (a1 ≥ 0))) true then
  aBin Try.prog .lss 3 p1.1 p8.1 fun v9 =>
  some (v9, p8.2)
  else some (undef, p8.2)).bind fun p10 =>
  cBn (bif (decide (a1 ≥ 0)) then p10.1 else (.bool false)) fun b11 =>
  some ((.bool b11), h0)
theorem F39_eq0 (rc : Rec) (md : Md) (a0 : Value) (a1 : Int) (h0 : Heap) : callStep0 Try.prog cfg rc md 39 [a0, (.int .i64 a1)] h0 = F39 rc ⟨h0.length, h0.length⟩ a0 a1 h0 := by kernel_rfl
theorem F39_eq (rc : Rec) (md : Md) (a0 : Value) (a1 : Int) (h0 : Heap) : callStep Try.prog cfg rc md 39 [a0, (.int .i64 a1)] h0 = F39 rc ⟨h0.length, h0.length⟩ a0 a1 h0 := (callStep_ne (by kernel_rfl)).trans (F39_eq0 rc md a0 a1 h0)

/-- (*tombolo/graph.Graph).reach -/
noncomputable def Jk40_0 (rc : Rec) (md : Md) (h0 : Heap) (e : Exit) (s0 : Value) (s4 : Value) (s5 : Value) (h : Heap) : Option (Value × Heap) :=
  match e with
  | .normal =>
    fin2 h0 s4
  | .exit j =>
    bif Nat.beq j 0 then
      fin2 h0 s4
    else
      none
  | .ret =>
    fin2 h0 s4
  | .goto l => none
  | .panic ps => none
  | .outgrown => none
theorem Jk40_0_at (rc : Rec) (md : Md) (h0 : Heap) (e : Exit) (t : T) (h : Heap) : kAt Try.prog cfg rc md 37 (bodyOf Try.prog 40) [1, 1, 0] (retK Try.prog cfg 40 (rsOf Try.prog 40) h0) e t h = Jk40_0 rc md h0 e (t 0) (t 4) (t 5) h := by cases e <;> kernel_rfl
noncomputable def J40_0b1 (rc : Rec) (md : Md) (s0 : Value) (s4 : Value) (s5 : Value) (s6 : Value) (h : Heap) : Option (((Value × Value × Value) × Heap) ⊕ (Exit × (Value × Value × Value) × Heap)) :=
  aBin Try.prog .eql 79 s6 s5 fun v1 =>
  cBn v1 fun b2 =>
  bif b2 then
    some (.inr (.ret, (s0, s5, s5), h))
  else
    some (.inl ((s0, s4, s6), h))
theorem J40_0b1_at (rc : Rec) (md : Md) (t : T) (h : Heap) : cut Try.prog cfg rc md 37 (sub (bodyOf Try.prog 40) [1, 1, 0, 0]) [0, 1, 1] (rndK (fun t => (t 0, t 4, t 5))) t h = J40_0b1 rc md (t 0) (t 4) (t 5) (t 6) h := by kernel_rfl
theorem J40_0b1_cut (rc : Rec) (md : Md) : cut Try.prog cfg rc md 37 (sub (bodyOf Try.prog 40) [1, 1, 0, 0]) [0, 1, 1] (rndK (fun t => (t 0, t 4, t 5))) = fun t h => J40_0b1 rc md (t 0) (t 4) (t 5) (t 6) h := funext fun t => funext fun h => J40_0b1_at rc md t h
noncomputable def Jk40_0b0 (rc : Rec) (md : Md) (e : Exit) (s0 : Value) (s4 : Value) (s5 : Value) (s6 : Value) (s14 : Value) (s15 : Value) (h : Heap) : Option (((Value × Value × Value) × Heap) ⊕ (Exit × (Value × Value × Value) × Heap)) :=
  match e with
  | .normal =>
    J40_0b1 rc md s0 s4 s5 s6 h
  | .exit j =>
    bif Nat.beq j 2 then
      J40_0b1 rc md s0 s4 s5 s6 h
    else
      bif Nat.beq j 1 then
        some (.inl ((s0, s4, s5), h))
      else
        some (.inr ((.exit j), (s0, s4, s5), h))
  | .ret =>
    some (.inr (.ret, (s0, s4, s5), h))
  | .goto l => some (.inr ((.goto l), (s0, s4, s5), h))
  | .panic ps => some (.inr ((.panic ps), (s0, s4, s5), h))
  | .outgrown => some (.inr (.outgrown, (s0, s4, s5), h))
noncomputable def Jk40_0b0H (rc : Rec) (md : Md) (X1 : T → Heap → Option (((Value × Value × Value) × Heap) ⊕ (Exit × (Value × Value × Value) × Heap))) (e : Exit) (t : T) (h : Heap) : Option (((Value × Value × Value) × Heap) ⊕ (Exit × (Value × Value × Value) × Heap)) :=
  match e with
  | .normal =>
    X1 t h
  | .exit j =>
    bif Nat.beq j 2 then
      X1 t h
    else
      bif Nat.beq j 1 then
        some (.inl (((t 0), (t 4), (t 5)), h))
      else
        some (.inr ((.exit j), ((t 0), (t 4), (t 5)), h))
  | .ret =>
    some (.inr (.ret, ((t 0), (t 4), (t 5)), h))
  | .goto l => some (.inr ((.goto l), ((t 0), (t 4), (t 5)), h))
  | .panic ps => some (.inr ((.panic ps), ((t 0), (t 4), (t 5)), h))
  | .outgrown => some (.inr (.outgrown, ((t 0), (t 4), (t 5)), h))
theorem Jk40_0b0_h1 (rc : Rec) (md : Md) (X : Nat → T → Heap → Option (((Value × Value × Value) × Heap) ⊕ (Exit × (Value × Value × Value) × Heap))) (e : Exit) (t : T) (h : Heap) : kAtG Try.prog cfg X rc md 37 (replS (sub (bodyOf Try.prog 40) [1, 1, 0, 0]) [([0, 1, 1], 1)]) [0, 1, 0, 1, 0] (rndK (fun t => (t 0, t 4, t 5))) e t h = Jk40_0b0H rc md (X 1) e t h := by cases e <;> kernel_rfl
theorem Jk40_0b0_h2 (rc : Rec) (md : Md) (e : Exit) (t : T) (h : Heap) : Jk40_0b0H rc md (fun t h => J40_0b1 rc md (t 0) (t 4) (t 5) (t 6) h) e t h = Jk40_0b0 rc md e (t 0) (t 4) (t 5) (t 6) (t 14) (t 15) h := by cases e <;> (unfold Jk40_0b0H Jk40_0b0; kernel_rfl)
theorem Jk40_0b0_at (rc : Rec) (md : Md) (e : Exit) (t : T) (h : Heap) : kAt Try.prog cfg rc md 37 (sub (bodyOf Try.prog 40) [1, 1, 0, 0]) [0, 1, 0, 1, 0] (rndK (fun t => (t 0, t 4, t 5))) e t h = Jk40_0b0 rc md e (t 0) (t 4) (t 5) (t 6) (t 14) (t 15) h := by
  rw [kAt_holes [([0, 1, 1], 1)] [0, 1, 0, 1, 0] (by kernel_rfl), Jk40_0b0_h1, show (goX Try.prog cfg rc md 37 (sub (bodyOf Try.prog 40) [1, 1, 0, 0]) [([0, 1, 1], 1)] (rndK (fun t => (t 0, t 4, t 5)))) 1 = _ from J40_0b1_cut rc md]
  exact Jk40_0b0_h2 rc md e t h
/-- a round -/
noncomputable def Jr40_0b0 (rc : Rec) (md : Md) (s0 : Value) (s4 : Value) (s5 : Value) (s6 : Value) (s14 : Value) (s15 : Value) (h : Heap) : Option (((Value × Value × Value × Value × Value × Value) × Heap) ⊕ (Exit × (Value × Value × Value × Value × Value × Value) × Heap)) :=
  aBin Try.prog .lss 3 s15 s14 fun v1 =>
  cBn v1 fun b2 =>
  bif b2 then
    aBin Try.prog .shr 79 s5 s15 fun v3 =>
    aBin Try.prog .and 79 v3 (.int .u32 1) fun v4 =>
    aBin Try.prog .eql 79 v4 (.int .u32 1) fun v5 =>
    cBn v5 fun b6 =>
    bif b6 then
      bif okNil Try.prog s0 then
      fA 1 s0 fun v7 =>
      ixAV 16 1 v7 s15 fun v8 =>
      ld1 v8 h fun v9 =>
      cIn .u32 v9 fun n10 =>
      aBin Try.prog .or 79 s6 (.int .u32 n10) fun v11 =>
      aBin Try.prog .add 3 s15 (.int .i64 1) fun v12 =>
      some (.inl ((s0, s4, s5, v11, s14, v12), h))
      else none
    else
      aBin Try.prog .add 3 s15 (.int .i64 1) fun v13 =>
      some (.inl ((s0, s4, s5, s6, s14, v13), h))
  else
    some (.inr ((.exit 2), (s0, s4, s5, s6, s14, s15), h))
theorem Jr40_0b0_at (rc : Rec) (md : Md) (t : T) (h : Heap) : exec Try.prog cfg rc md 37 (sub (bodyOf Try.prog 40) [1, 1, 0, 0, 0, 1, 0, 1, 0, 0]) (rndK (fun t => (t 0, t 4, t 5, t 6, t 14, t 15))) t h = Jr40_0b0 rc md (t 0) (t 4) (t 5) (t 6) (t 14) (t 15) h := by kernel_rfl
noncomputable def J40_0b0 (rc : Rec) (md : Md) (s0 : Value) (s4 : Value) (s5 : Value) (s6 : Value) (s14 : Value) (s15 : Value) (h : Heap) : Option (((Value × Value × Value) × Heap) ⊕ (Exit × (Value × Value × Value) × Heap)) :=
  runL (fun x : (Value × Value × Value × Value × Value × Value) × Heap => Jr40_0b0 rc md x.1.1 x.1.2.1 x.1.2.2.1 x.1.2.2.2.1 x.1.2.2.2.2.1 x.1.2.2.2.2.2 x.2) (fun e (s : Value × Value × Value × Value × Value × Value) h => Jk40_0b0 rc md e s.1 s.2.1 s.2.2.1 s.2.2.2.1 s.2.2.2.2.1 s.2.2.2.2.2 h) (s0, s4, s5, s6, s14, s15) h
theorem J40_0b0_step (rc : Rec) (md : Md) (s0 : Value) (s4 : Value) (s5 : Value) (s6 : Value) (s14 : Value) (s15 : Value) (h : Heap) : J40_0b0 rc md s0 s4 s5 s6 s14 s15 h = (Jr40_0b0 rc md s0 s4 s5 s6 s14 s15 h).bind fun x => match x with
    | .inl (s, h) => J40_0b0 rc md s.1 s.2.1 s.2.2.1 s.2.2.2.1 s.2.2.2.2.1 s.2.2.2.2.2 h
    | .inr (e, s, h) => Jk40_0b0 rc md e s.1 s.2.1 s.2.2.1 s.2.2.2.1 s.2.2.2.2.1 s.2.2.2.2.2 h := by
  unfold J40_0b0
  rw [runL_eq]
  refine congrArg (Option.bind _) (funext fun x => ?_)
  rcases x with ⟨s, h⟩ | ⟨e, s, h⟩ <;> rfl
theorem J40_0b0_cut (rc : Rec) (md : Md) : cut Try.prog cfg rc md 37 (sub (bodyOf Try.prog 40) [1, 1, 0, 0]) [0, 1, 0, 1, 0] (rndK (fun t => (t 0, t 4, t 5))) = fun t h => J40_0b0 rc md (t 0) (t 4) (t 5) (t 6) (t 14) (t 15) h := by
  funext t h
  have e : sub (sub (bodyOf Try.prog 40) [1, 1, 0, 0]) [0, 1, 0, 1, 0] = .loop (sub (bodyOf Try.prog 40) [1, 1, 0, 0, 0, 1, 0, 1, 0, 0]) := by kernel_rfl
  unfold cut
  rw [e]
  exact loop_eq (by kernel_rfl) (fun t => (t 0, t 4, t 5, t 6, t 14, t 15)) (fun x : (Value × Value × Value × Value × Value × Value) × Heap => Jr40_0b0 rc md x.1.1 x.1.2.1 x.1.2.2.1 x.1.2.2.2.1 x.1.2.2.2.2.1 x.1.2.2.2.2.2 x.2) (fun t h => Jr40_0b0_at rc md t h) (fun e (s : Value × Value × Value × Value × Value × Value) h => Jk40_0b0 rc md e s.1 s.2.1 s.2.2.1 s.2.2.2.1 s.2.2.2.2.1 s.2.2.2.2.2 h) (fun e t h => Jk40_0b0_at rc md e t h) t h
/-- a round -/
noncomputable def Jr40_0 (rc : Rec) (md : Md) (s0 : Value) (s4 : Value) (s5 : Value) (h : Heap) : Option (((Value × Value × Value) × Heap) ⊕ (Exit × (Value × Value × Value) × Heap)) :=
  bif okNil Try.prog s0 then
  fA 0 s0 fun v1 =>
  ld1 v1 h fun v2 =>
  cIn .i64 v2 fun n3 =>
  J40_0b0 rc md s0 s4 s5 s5 (.int .i64 n3) (.int .i64 0) h
  else none
noncomputable def Jr40_0H (rc : Rec) (md : Md) (X0 : T → Heap → Option (((Value × Value × Value) × Heap) ⊕ (Exit × (Value × Value × Value) × Heap))) (t : T) (h : Heap) : Option (((Value × Value × Value) × Heap) ⊕ (Exit × (Value × Value × Value) × Heap)) :=
  bif okNil Try.prog (t 0) then
  fA 0 (t 0) fun v1 =>
  ld1 v1 h fun v2 =>
  cIn .i64 v2 fun n3 =>
  X0 (upd (upd (upd (upd (upd (upd (upd t 10 (t 5)) 6 (t 5)) 11 (t 0)) 12 (t 0)) 13 v1) 14 (.int .i64 n3)) 15 (.int .i64 0)) h
  else none
theorem Jr40_0_h1 (rc : Rec) (md : Md) (X : Nat → T → Heap → Option (((Value × Value × Value) × Heap) ⊕ (Exit × (Value × Value × Value) × Heap))) (t : T) (h : Heap) : execG Try.prog cfg X rc md 37 (replS (sub (bodyOf Try.prog 40) [1, 1, 0, 0]) [([0, 1, 0, 1, 0], 0), ([0, 1, 1], 1)]) (rndK (fun t => (t 0, t 4, t 5))) t h = Jr40_0H rc md (X 0) t h := by kernel_rfl
theorem Jr40_0_h2 (rc : Rec) (md : Md) (t : T) (h : Heap) : Jr40_0H rc md (fun t h => J40_0b0 rc md (t 0) (t 4) (t 5) (t 6) (t 14) (t 15) h) t h = Jr40_0 rc md (t 0) (t 4) (t 5) h := by unfold Jr40_0H Jr40_0; kernel_rfl
theorem Jr40_0_at (rc : Rec) (md : Md) (t : T) (h : Heap) : exec Try.prog cfg rc md 37 (sub (bodyOf Try.prog 40) [1, 1, 0, 0]) (rndK (fun t => (t 0, t 4, t 5))) t h = Jr40_0 rc md (t 0) (t 4) (t 5) h := by
  rw [exec_holes [([0, 1, 0, 1, 0], 0), ([0, 1, 1], 1)] (by kernel_rfl), Jr40_0_h1, show (goX Try.prog cfg rc md 37 (sub (bodyOf Try.prog 40) [1, 1, 0, 0]) [([0, 1, 0, 1, 0], 0), ([0, 1, 1], 1)] (rndK (fun t => (t 0, t 4, t 5)))) 0 = _ from J40_0b0_cut rc md]
  exact Jr40_0_h2 rc md t h
noncomputable def J40_0 (rc : Rec) (md : Md) (h0 : Heap) (s0 : Value) (s4 : Value) (s5 : Value) (h : Heap) : Option (Value × Heap) :=
  runL (fun x : (Value × Value × Value) × Heap => Jr40_0 rc md x.1.1 x.1.2.1 x.1.2.2 x.2) (fun e (s : Value × Value × Value) h => Jk40_0 rc md h0 e s.1 s.2.1 s.2.2 h) (s0, s4, s5) h
theorem J40_0_step (rc : Rec) (md : Md) (h0 : Heap) (s0 : Value) (s4 : Value) (s5 : Value) (h : Heap) : J40_0 rc md h0 s0 s4 s5 h = (Jr40_0 rc md s0 s4 s5 h).bind fun x => match x with
    | .inl (s, h) => J40_0 rc md h0 s.1 s.2.1 s.2.2 h
    | .inr (e, s, h) => Jk40_0 rc md h0 e s.1 s.2.1 s.2.2 h := by
  unfold J40_0
  rw [runL_eq]
  refine congrArg (Option.bind _) (funext fun x => ?_)
  rcases x with ⟨s, h⟩ | ⟨e, s, h⟩ <;> rfl
theorem J40_0_cut (rc : Rec) (md : Md) (h0 : Heap) : cut Try.prog cfg rc md 37 (bodyOf Try.prog 40) [1, 1, 0] (retK Try.prog cfg 40 (rsOf Try.prog 40) h0) = fun t h => J40_0 rc md h0 (t 0) (t 4) (t 5) h := by
  funext t h
  have e : sub (bodyOf Try.prog 40) [1, 1, 0] = .loop (sub (bodyOf Try.prog 40) [1, 1, 0, 0]) := by kernel_rfl
  unfold cut
  rw [e]
  exact loop_eq (by kernel_rfl) (fun t => (t 0, t 4, t 5)) (fun x : (Value × Value × Value) × Heap => Jr40_0 rc md x.1.1 x.1.2.1 x.1.2.2 x.2) (fun t h => Jr40_0_at rc md t h) (fun e (s : Value × Value × Value) h => Jk40_0 rc md h0 e s.1 s.2.1 s.2.2 h) (fun e t h => Jk40_0_at rc md h0 e t h) t h
noncomputable def F40 (rc : Rec) (md : Md) (a0 : Value) (a1 : Int) (h0 : Heap) : Option (Value × Heap) :=
  shI .shl 1 a1 .u32 fun v1 =>
  J40_0 rc md h0 a0 (.int .u32 0) v1 h0
noncomputable def F40H (rc : Rec) (md : Md) (X0 : T → Heap → Option (Value × Heap)) (a0 : Value) (a1 : Int) (h0 : Heap) : Option (Value × Heap) :=
  shI .shl 1 a1 .u32 fun v1 =>
  X0 (upd (upd (upd (upd (args0 [a0, (.int .i64 a1)]) 4 (.int .u32 0)) 8 (.int .i64 a1)) 9 v1) 5 v1) h0
theorem F40_h0 (rc : Rec) (md : Md) (a0 : Value) (a1 : Int) (h0 : Heap) : callStep0 Try.prog cfg rc md 40 [a0, (.int .i64 a1)] h0 = exec Try.prog cfg rc ⟨h0.length, h0.length⟩ 37 (bodyOf Try.prog 40) (retK Try.prog cfg 40 (rsOf Try.prog 40) h0) (args0 [a0, (.int .i64 a1)]) h0 := callStep0_run (by kernel_rfl) (by kernel_rfl) (by kernel_rfl)
theorem F40_h1 (rc : Rec) (md : Md) (X : Nat → T → Heap → Option (Value × Heap)) (a0 : Value) (a1 : Int) (h0 : Heap) : execG Try.prog cfg X rc md 37 (replS (bodyOf Try.prog 40) [([1, 1, 0], 0)]) (retK Try.prog cfg 40 (rsOf Try.prog 40) h0) (args0 [a0, (.int .i64 a1)]) h0 = F40H rc md (X 0) a0 a1 h0 := by kernel_rfl
theorem F40_h2 (rc : Rec) (md : Md) (a0 : Value) (a1 : Int) (h0 : Heap) : F40H rc md (fun t h => J40_0 rc md h0 (t 0) (t 4) (t 5) h) a0 a1 h0 = F40 rc md a0 a1 h0 := by unfold F40H F40; kernel_rfl
theorem F40_eq0 (rc : Rec) (md : Md) (a0 : Value) (a1 : Int) (h0 : Heap) : callStep0 Try.prog cfg rc md 40 [a0, (.int .i64 a1)] h0 = F40 rc ⟨h0.length, h0.length⟩ a0 a1 h0 := by
  rw [F40_h0, exec_holes [([1, 1, 0], 0)] (by kernel_rfl), F40_h1, show (goX Try.prog cfg rc ⟨h0.length, h0.length⟩ 37 (bodyOf Try.prog 40) [([1, 1, 0], 0)] (retK Try.prog cfg 40 (rsOf Try.prog 40) h0)) 0 = _ from J40_0_cut rc ⟨h0.length, h0.length⟩ h0]
  exact F40_h2 rc _ a0 a1 h0
theorem F40_eq (rc : Rec) (md : Md) (a0 : Value) (a1 : Int) (h0 : Heap) : callStep Try.prog cfg rc md 40 [a0, (.int .i64 a1)] h0 = F40 rc ⟨h0.length, h0.length⟩ a0 a1 h0 := (callStep_ne (by kernel_rfl)).trans (F40_eq0 rc md a0 a1 h0)

/-- (tombolo/tomboloref10.Graph).Joined -/
noncomputable def J41_1 (rc : Rec) (md : Md) (h0 : Heap) (s2 : Value) (s7 : Value) (h : Heap) : Option (Value × Heap) :=
  cl (rc md 68 [s7, s2] h) fun v1 h2 =>
  cBn v1 fun b3 =>
  some ((.bool b3), h0)
theorem J41_1_at (rc : Rec) (md : Md) (h0 : Heap) (t : T) (h : Heap) : cut Try.prog cfg rc md 73 (bodyOf Try.prog 41) [1, 1, 1] (retK Try.prog cfg 41 (rsOf Try.prog 41) h0) t h = J41_1 rc md h0 (t 2) (t 7) h := by kernel_rfl
theorem J41_1_cut (rc : Rec) (md : Md) (h0 : Heap) : cut Try.prog cfg rc md 73 (bodyOf Try.prog 41) [1, 1, 1] (retK Try.prog cfg 41 (rsOf Try.prog 41) h0) = fun t h => J41_1 rc md h0 (t 2) (t 7) h := funext fun t => funext fun h => J41_1_at rc md h0 t h
noncomputable def Jk41_0 (rc : Rec) (md : Md) (h0 : Heap) (e : Exit) (s0 : Value) (s2 : Value) (s6 : Value) (s7 : Value) (s8 : Value) (h : Heap) : Option (Value × Heap) :=
  match e with
  | .normal =>
    J41_1 rc md h0 s2 s7 h
  | .exit j =>
    bif Nat.beq j 0 then
      J41_1 rc md h0 s2 s7 h
    else
      none
  | .ret =>
    fin2 h0 s6
  | .goto l => none
  | .panic ps => none
  | .outgrown => none
noncomputable def Jk41_0H (rc : Rec) (md : Md) (h0 : Heap) (X1 : T → Heap → Option (Value × Heap)) (e : Exit) (t : T) (h : Heap) : Option (Value × Heap) :=
  match e with
  | .normal =>
    X1 t h
  | .exit j =>
    bif Nat.beq j 0 then
      X1 t h
    else
      none
  | .ret =>
    fin2 h0 (t 6)
  | .goto l => none
  | .panic ps => none
  | .outgrown => none
theorem Jk41_0_h1 (rc : Rec) (md : Md) (h0 : Heap) (X : Nat → T → Heap → Option (Value × Heap)) (e : Exit) (t : T) (h : Heap) : kAtG Try.prog cfg X rc md 73 (replS (bodyOf Try.prog 41) [([1, 1, 1], 1)]) [1, 1, 0, 1, 0] (retK Try.prog cfg 41 (rsOf Try.prog 41) h0) e t h = Jk41_0H rc md h0 (X 1) e t h := by cases e <;> kernel_rfl
theorem Jk41_0_h2 (rc : Rec) (md : Md) (h0 : Heap) (e : Exit) (t : T) (h : Heap) : Jk41_0H rc md h0 (fun t h => J41_1 rc md h0 (t 2) (t 7) h) e t h = Jk41_0 rc md h0 e (t 0) (t 2) (t 6) (t 7) (t 8) h := by cases e <;> (unfold Jk41_0H Jk41_0; kernel_rfl)
theorem Jk41_0_at (rc : Rec) (md : Md) (h0 : Heap) (e : Exit) (t : T) (h : Heap) : kAt Try.prog cfg rc md 73 (bodyOf Try.prog 41) [1, 1, 0, 1, 0] (retK Try.prog cfg 41 (rsOf Try.prog 41) h0) e t h = Jk41_0 rc md h0 e (t 0) (t 2) (t 6) (t 7) (t 8) h := by
  rw [kAt_holes [([1, 1, 1], 1)] [1, 1, 0, 1, 0] (by kernel_rfl), Jk41_0_h1, show (goX Try.prog cfg rc md 73 (bodyOf Try.prog 41) [([1, 1, 1], 1)] (retK Try.prog cfg 41 (rsOf Try.prog 41) h0)) 1 = _ from J41_1_cut rc md h0]
  exact Jk41_0_h2 rc md h0 e t h
noncomputable def Jk41_0b0 (rc : Rec) (md : Md) (e : Exit) (s0 : Value) (s2 : Value) (s6 : Value) (s7 : Value) (s8 : Value) (s9 : Value) (h : Heap) : Option (((Value × Value × Value × Value × Value) × Heap) ⊕ (Exit × (Value × Value × Value × Value × Value) × Heap)) :=
  match e with
  | .normal =>
    aBin Try.prog .add 3 s8 (.int .i64 1) fun v1 =>
    some (.inl ((s0, s2, s6, s7, v1), h))
  | .exit j =>
    bif Nat.beq j 2 then
      aBin Try.prog .add 3 s8 (.int .i64 1) fun v2 =>
      some (.inl ((s0, s2, s6, s7, v2), h))
    else
      bif Nat.beq j 1 then
        aBin Try.prog .add 3 s8 (.int .i64 1) fun v3 =>
        some (.inl ((s0, s2, s6, s7, v3), h))
      else
        some (.inr ((.exit j), (s0, s2, s6, s7, s8), h))
  | .ret =>
    some (.inr (.ret, (s0, s2, s6, s7, s8), h))
  | .goto l => some (.inr ((.goto l), (s0, s2, s6, s7, s8), h))
  | .panic ps => some (.inr ((.panic ps), (s0, s2, s6, s7, s8), h))
  | .outgrown => some (.inr (.outgrown, (s0, s2, s6, s7, s8), h))
theorem Jk41_0b0_at (rc : Rec) (md : Md) (e : Exit) (t : T) (h : Heap) : kAt Try.prog cfg rc md 73 (sub (bodyOf Try.prog 41) [1, 1, 0, 1, 0, 0]) [1, 0, 0, 1, 0] (rndK (fun t => (t 0, t 2, t 6, t 7, t 8))) e t h = Jk41_0b0 rc md e (t 0) (t 2) (t 6) (t 7) (t 8) (t 9) h := by cases e <;> kernel_rfl
noncomputable def J41_0b0b0 (rc : Rec) (md : Md) (s0 : Value) (s2 : Value) (s6 : Value) (s7 : Value) (s8 : Value) (s9 : Value) (s10 : Value) (s11 : Value) (h : Heap) : Option (((Value × Value × Value × Value × Value × Value) × Heap) ⊕ (Exit × (Value × Value × Value × Value × Value × Value) × Heap)) :=
  ixSV 1 s7 s8 fun v1 =>
  ld1 v1 h fun v2 =>
  cIn .i64 v2 fun n3 =>
  aBin Try.prog .eql 3 s11 (.int .i64 n3) fun v4 =>
  (bif wantV v4 true then
  some (s7, h)
  else some (undef, h)).bind fun p5 =>
  (bif wantV v4 true then
  some (s10, p5.2)
  else some (undef, p5.2)).bind fun p6 =>
  (bif wantV v4 true then
  cl (rc md 68 [p5.1, p6.1] p6.2) fun v7 h8 =>
  cBn v7 fun b9 =>
  some ((.bool b9), h8)
  else some (undef, p6.2)).bind fun p10 =>
  (bif wantV v4 true then
  aUn .not p10.1 fun v11 =>
  some (v11, p10.2)
  else some (undef, p10.2)).bind fun p12 =>
  cBn v4 fun q13 =>
  cBn (bif q13 then p12.1 else (.bool false)) fun b14 =>
  bif b14 then
    aBuildSlice Try.prog 39 1 [(0, s10)] p12.2 fun v15 h16 =>
    aBuiltin Try.prog md .append #[39, 39] [s7, v15] h16 fun v17 h18 =>
    aBin Try.prog .add 3 s9 (.int .i64 1) fun v19 =>
    some (.inl ((s0, s2, s6, v17, s8, v19), h18))
  else
    aBin Try.prog .add 3 s9 (.int .i64 1) fun v20 =>
    some (.inl ((s0, s2, s6, s7, s8, v20), p12.2))
theorem J41_0b0b0_at (rc : Rec) (md : Md) (t : T) (h : Heap) : cut Try.prog cfg rc md 73 (sub (bodyOf Try.prog 41) [1, 1, 0, 1, 0, 0, 1, 0, 0, 1, 0, 0]) [1, 0, 0, 1, 1, 1] (rndK (fun t => (t 0, t 2, t 6, t 7, t 8, t 9))) t h = J41_0b0b0 rc md (t 0) (t 2) (t 6) (t 7) (t 8) (t 9) (t 10) (t 11) h := by kernel_rfl
theorem J41_0b0b0_cut (rc : Rec) (md : Md) : cut Try.prog cfg rc md 73 (sub (bodyOf Try.prog 41) [1, 1, 0, 1, 0, 0, 1, 0, 0, 1, 0, 0]) [1, 0, 0, 1, 1, 1] (rndK (fun t => (t 0, t 2, t 6, t 7, t 8, t 9))) = fun t h => J41_0b0b0 rc md (t 0) (t 2) (t 6) (t 7) (t 8) (t 9) (t 10) (t 11) h := funext fun t => funext fun h => J41_0b0b0_at rc md t h
/-- a round -/
noncomputable def Jr41_0b0 (rc : Rec) (md : Md) (s0 : Value) (s2 : Value) (s6 : Value) (s7 : Value) (s8 : Value) (s9 : Value) (h : Heap) : Option (((Value × Value × Value × Value × Value × Value) × Heap) ⊕ (Exit × (Value × Value × Value × Value × Value × Value) × Heap)) :=
  lenS s0 fun v1 =>
  cIn .i64 v1 fun n2 =>
  aBin Try.prog .lss 3 s9 (.int .i64 n2) fun v3 =>
  cBn v3 fun b4 =>
  bif b4 then
    ixSV 2 s0 s9 fun v5 =>
    ixA 2 1 v5 0 fun v6 =>
    ld1 v6 h fun v7 =>
    cIn .i64 v7 fun n8 =>
    ixSV 2 s0 s9 fun v9 =>
    ixA 2 1 v9 1 fun v10 =>
    ld1 v10 h fun v11 =>
    cIn .i64 v11 fun n12 =>
    bif (decide (n8 < 0)) then
      aBin Try.prog .add 3 s9 (.int .i64 1) fun v13 =>
      some (.inl ((s0, s2, s6, s7, s8, v13), h))
    else
      ixSV 1 s7 s8 fun v14 =>
      ld1 v14 h fun v15 =>
      cIn .i64 v15 fun n16 =>
      (bif wantV (.bool (n8 == n16)) true then
      some (s7, h)
      else some (undef, h)).bind fun p17 =>
      (bif wantV (.bool (n8 == n16)) true then
      some ((.int .i64 n12), p17.2)
      else some (undef, p17.2)).bind fun p18 =>
      (bif wantV (.bool (n8 == n16)) true then
      cl (rc md 68 [p17.1, p18.1] p18.2) fun v19 h20 =>
      cBn v19 fun b21 =>
      some ((.bool b21), h20)
      else some (undef, p18.2)).bind fun p22 =>
      (bif wantV (.bool (n8 == n16)) true then
      aUn .not p22.1 fun v23 =>
      some (v23, p22.2)
      else some (undef, p22.2)).bind fun p24 =>
      cBn (bif (n8 == n16) then p24.1 else (.bool false)) fun b25 =>
      bif b25 then
        let h26 : Heap := p24.2 ++ [.own [(.int .i64 n12)]]
        aBuiltin Try.prog md .append #[39, 39] [s7, (.slice (some ⟨p24.2.length, 0, none⟩) 1 1)] h26 fun v27 h28 =>
        J41_0b0b0 rc md s0 s2 s6 v27 s8 s9 (.int .i64 n8) (.int .i64 n12) h28
      else
        J41_0b0b0 rc md s0 s2 s6 s7 s8 s9 (.int .i64 n8) (.int .i64 n12) p24.2
  else
    some (.inr ((.exit 2), (s0, s2, s6, s7, s8, s9), h))
noncomputable def Jr41_0b0H (rc : Rec) (md : Md) (X0 : T → Heap → Option (((Value × Value × Value × Value × Value × Value) × Heap) ⊕ (Exit × (Value × Value × Value × Value × Value × Value) × Heap))) (t : T) (h : Heap) : Option (((Value × Value × Value × Value × Value × Value) × Heap) ⊕ (Exit × (Value × Value × Value × Value × Value × Value) × Heap)) :=
  lenS (t 0) fun v1 =>
  cIn .i64 v1 fun n2 =>
  aBin Try.prog .lss 3 (t 9) (.int .i64 n2) fun v3 =>
  cBn v3 fun b4 =>
  bif b4 then
    ixSV 2 (t 0) (t 9) fun v5 =>
    ixA 2 1 v5 0 fun v6 =>
    ld1 v6 h fun v7 =>
    cIn .i64 v7 fun n8 =>
    ixSV 2 (t 0) (t 9) fun v9 =>
    ixA 2 1 v9 1 fun v10 =>
    ld1 v10 h fun v11 =>
    cIn .i64 v11 fun n12 =>
    bif (decide (n8 < 0)) then
      aBin Try.prog .add 3 (t 9) (.int .i64 1) fun v13 =>
      some (.inl (((t 0), (t 2), (t 6), (t 7), (t 8), v13), h))
    else
      ixSV 1 (t 7) (t 8) fun v14 =>
      ld1 v14 h fun v15 =>
      cIn .i64 v15 fun n16 =>
      (bif wantV (.bool (n8 == n16)) true then
      some ((t 7), h)
      else some (undef, h)).bind fun p17 =>
      (bif wantV (.bool (n8 == n16)) true then
      some ((.int .i64 n12), p17.2)
      else some (undef, p17.2)).bind fun p18 =>
      (bif wantV (.bool (n8 == n16)) true then
      cl (rc md 68 [p17.1, p18.1] p18.2) fun v19 h20 =>
      cBn v19 fun b21 =>
      some ((.bool b21), h20)
      else some (undef, p18.2)).bind fun p22 =>
      (bif wantV (.bool (n8 == n16)) true then
      aUn .not p22.1 fun v23 =>
      some (v23, p22.2)
      else some (undef, p22.2)).bind fun p24 =>
      cBn (bif (n8 == n16) then p24.1 else (.bool false)) fun b25 =>
      bif b25 then
        let h26 : Heap := p24.2 ++ [.own [(.int .i64 n12)]]
        aBuiltin Try.prog md .append #[39, 39] [(t 7), (.slice (some ⟨p24.2.length, 0, none⟩) 1 1)] h26 fun v27 h28 =>
        X0 (upd (upd (upd (upd (upd (upd (upd (upd (upd (upd (upd (upd (upd (upd (upd (upd (upd (upd (upd (upd (upd (upd (upd (upd (upd (upd (upd (upd (upd (upd (upd (upd (upd (upd (upd t 20 (t 9)) 21 (t 0)) 22 (.int .i64 n2)) 23 v3) 26 (t 0)) 27 (t 9)) 28 v5) 29 v6) 30 (.int .i64 n8)) 31 (t 0)) 32 (t 9)) 33 v9) 34 v10) 35 (.int .i64 n12)) 10 (.int .i64 n8)) 11 (.int .i64 n12)) 36 (.int .i64 n8)) 37 (.bool (decide (n8 < 0)))) 38 (.int .i64 n8)) 39 (t 7)) 40 (t 8)) 41 v14) 42 (.int .i64 n16)) 43 (.bool (n8 == n16))) 44 (.bool (n8 == n16))) 45 p17.1) 46 p18.1) 47 p22.1) 48 p24.1) 49 (.bool b25)) 50 (t 7)) 51 (.int .i64 n12)) 52 (.slice (some ⟨p24.2.length, 0, none⟩) 1 1)) 53 v27) 7 v27) h28
      else
        X0 (upd (upd (upd (upd (upd (upd (upd (upd (upd (upd (upd (upd (upd (upd (upd (upd (upd (upd (upd (upd (upd (upd (upd (upd (upd (upd (upd (upd (upd (upd t 20 (t 9)) 21 (t 0)) 22 (.int .i64 n2)) 23 v3) 26 (t 0)) 27 (t 9)) 28 v5) 29 v6) 30 (.int .i64 n8)) 31 (t 0)) 32 (t 9)) 33 v9) 34 v10) 35 (.int .i64 n12)) 10 (.int .i64 n8)) 11 (.int .i64 n12)) 36 (.int .i64 n8)) 37 (.bool (decide (n8 < 0)))) 38 (.int .i64 n8)) 39 (t 7)) 40 (t 8)) 41 v14) 42 (.int .i64 n16)) 43 (.bool (n8 == n16))) 44 (.bool (n8 == n16))) 45 p17.1) 46 p18.1) 47 p22.1) 48 p24.1) 49 (.bool b25)) p24.2
  else
    some (.inr ((.exit 2), ((t 0), (t 2), (t 6), (t 7), (t 8), (t 9)), h))
theorem Jr41_0b0_h1 (rc : Rec) (md : Md) (X : Nat → T → Heap → Option (((Value × Value × Value × Value × Value × Value) × Heap) ⊕ (Exit × (Value × Value × Value × Value × Value × Value) × Heap))) (t : T) (h : Heap) : execG Try.prog cfg X rc md 73 (replS (sub (bodyOf Try.prog 41) [1, 1, 0, 1, 0, 0, 1, 0, 0, 1, 0, 0]) [([1, 0, 0, 1, 1, 1], 0)]) (rndK (fun t => (t 0, t 2, t 6, t 7, t 8, t 9))) t h = Jr41_0b0H rc md (X 0) t h := by kernel_rfl
theorem Jr41_0b0_h2 (rc : Rec) (md : Md) (t : T) (h : Heap) : Jr41_0b0H rc md (fun t h => J41_0b0b0 rc md (t 0) (t 2) (t 6) (t 7) (t 8) (t 9) (t 10) (t 11) h) t h = Jr41_0b0 rc md (t 0) (t 2) (t 6) (t 7) (t 8) (t 9) h := by unfold Jr41_0b0H Jr41_0b0; kernel_rfl
theorem Jr41_0b0_at (rc : Rec) (md : Md) (t : T) (h : Heap) : exec Try.prog cfg rc md 73 (sub (bodyOf Try.prog 41) [1, 1, 0, 1, 0, 0, 1, 0, 0, 1, 0, 0]) (rndK (fun t => (t 0, t 2, t 6, t 7, t 8, t 9))) t h = Jr41_0b0 rc md (t 0) (t 2) (t 6) (t 7) (t 8) (t 9) h := by
  rw [exec_holes [([1, 0, 0, 1, 1, 1], 0)] (by kernel_rfl), Jr41_0b0_h1, show (goX Try.prog cfg rc md 73 (sub (bodyOf Try.prog 41) [1, 1, 0, 1, 0, 0, 1, 0, 0, 1, 0, 0]) [([1, 0, 0, 1, 1, 1], 0)] (rndK (fun t => (t 0, t 2, t 6, t 7, t 8, t 9)))) 0 = _ from J41_0b0b0_cut rc md]
  exact Jr41_0b0_h2 rc md t h
noncomputable def J41_0b0 (rc : Rec) (md : Md) (s0 : Value) (s2 : Value) (s6 : Value) (s7 : Value) (s8 : Value) (s9 : Value) (h : Heap) : Option (((Value × Value × Value × Value × Value) × Heap) ⊕ (Exit × (Value × Value × Value × Value × Value) × Heap)) :=
  runL (fun x : (Value × Value × Value × Value × Value × Value) × Heap => Jr41_0b0 rc md x.1.1 x.1.2.1 x.1.2.2.1 x.1.2.2.2.1 x.1.2.2.2.2.1 x.1.2.2.2.2.2 x.2) (fun e (s : Value × Value × Value × Value × Value × Value) h => Jk41_0b0 rc md e s.1 s.2.1 s.2.2.1 s.2.2.2.1 s.2.2.2.2.1 s.2.2.2.2.2 h) (s0, s2, s6, s7, s8, s9) h
theorem J41_0b0_step (rc : Rec) (md : Md) (s0 : Value) (s2 : Value) (s6 : Value) (s7 : Value) (s8 : Value) (s9 : Value) (h : Heap) : J41_0b0 rc md s0 s2 s6 s7 s8 s9 h = (Jr41_0b0 rc md s0 s2 s6 s7 s8 s9 h).bind fun x => match x with
    | .inl (s, h) => J41_0b0 rc md s.1 s.2.1 s.2.2.1 s.2.2.2.1 s.2.2.2.2.1 s.2.2.2.2.2 h
    | .inr (e, s, h) => Jk41_0b0 rc md e s.1 s.2.1 s.2.2.1 s.2.2.2.1 s.2.2.2.2.1 s.2.2.2.2.2 h := by
  unfold J41_0b0
  rw [runL_eq]
  refine congrArg (Option.bind _) (funext fun x => ?_)
  rcases x with ⟨s, h⟩ | ⟨e, s, h⟩ <;> rfl
theorem J41_0b0_cut (rc : Rec) (md : Md) : cut Try.prog cfg rc md 73 (sub (bodyOf Try.prog 41) [1, 1, 0, 1, 0, 0]) [1, 0, 0, 1, 0] (rndK (fun t => (t 0, t 2, t 6, t 7, t 8))) = fun t h => J41_0b0 rc md (t 0) (t 2) (t 6) (t 7) (t 8) (t 9) h := by
  funext t h
  have e : sub (sub (bodyOf Try.prog 41) [1, 1, 0, 1, 0, 0]) [1, 0, 0, 1, 0] = .loop (sub (bodyOf Try.prog 41) [1, 1, 0, 1, 0, 0, 1, 0, 0, 1, 0, 0]) := by kernel_rfl
  unfold cut
  rw [e]
  exact loop_eq (by kernel_rfl) (fun t => (t 0, t 2, t 6, t 7, t 8, t 9)) (fun x : (Value × Value × Value × Value × Value × Value) × Heap => Jr41_0b0 rc md x.1.1 x.1.2.1 x.1.2.2.1 x.1.2.2.2.1 x.1.2.2.2.2.1 x.1.2.2.2.2.2 x.2) (fun t h => Jr41_0b0_at rc md t h) (fun e (s : Value × Value × Value × Value × Value × Value) h => Jk41_0b0 rc md e s.1 s.2.1 s.2.2.1 s.2.2.2.1 s.2.2.2.2.1 s.2.2.2.2.2 h) (fun e t h => Jk41_0b0_at rc md e t h) t h
/-- a round -/
noncomputable def Jr41_0 (rc : Rec) (md : Md) (s0 : Value) (s2 : Value) (s6 : Value) (s7 : Value) (s8 : Value) (h : Heap) : Option (((Value × Value × Value × Value × Value) × Heap) ⊕ (Exit × (Value × Value × Value × Value × Value) × Heap)) :=
  lenS s7 fun v1 =>
  cIn .i64 v1 fun n2 =>
  aBin Try.prog .lss 3 s8 (.int .i64 n2) fun v3 =>
  cBn v3 fun b4 =>
  bif b4 then
    J41_0b0 rc md s0 s2 s6 s7 s8 (.int .i64 0) h
  else
    some (.inr ((.exit 0), (s0, s2, s6, s7, s8), h))
noncomputable def Jr41_0H (rc : Rec) (md : Md) (X0 : T → Heap → Option (((Value × Value × Value × Value × Value) × Heap) ⊕ (Exit × (Value × Value × Value × Value × Value) × Heap))) (t : T) (h : Heap) : Option (((Value × Value × Value × Value × Value) × Heap) ⊕ (Exit × (Value × Value × Value × Value × Value) × Heap)) :=
  lenS (t 7) fun v1 =>
  cIn .i64 v1 fun n2 =>
  aBin Try.prog .lss 3 (t 8) (.int .i64 n2) fun v3 =>
  cBn v3 fun b4 =>
  bif b4 then
    X0 (upd (upd (upd (upd (upd t 14 (t 8)) 15 (t 7)) 16 (.int .i64 n2)) 17 v3) 9 (.int .i64 0)) h
  else
    some (.inr ((.exit 0), ((t 0), (t 2), (t 6), (t 7), (t 8)), h))
theorem Jr41_0_h1 (rc : Rec) (md : Md) (X : Nat → T → Heap → Option (((Value × Value × Value × Value × Value) × Heap) ⊕ (Exit × (Value × Value × Value × Value × Value) × Heap))) (t : T) (h : Heap) : execG Try.prog cfg X rc md 73 (replS (sub (bodyOf Try.prog 41) [1, 1, 0, 1, 0, 0]) [([1, 0, 0, 1, 0], 0)]) (rndK (fun t => (t 0, t 2, t 6, t 7, t 8))) t h = Jr41_0H rc md (X 0) t h := by kernel_rfl
theorem Jr41_0_h2 (rc : Rec) (md : Md) (t : T) (h : Heap) : Jr41_0H rc md (fun t h => J41_0b0 rc md (t 0) (t 2) (t 6) (t 7) (t 8) (t 9) h) t h = Jr41_0 rc md (t 0) (t 2) (t 6) (t 7) (t 8) h := by unfold Jr41_0H Jr41_0; kernel_rfl
theorem Jr41_0_at (rc : Rec) (md : Md) (t : T) (h : Heap) : exec Try.prog cfg rc md 73 (sub (bodyOf Try.prog 41) [1, 1, 0, 1, 0, 0]) (rndK (fun t => (t 0, t 2, t 6, t 7, t 8))) t h = Jr41_0 rc md (t 0) (t 2) (t 6) (t 7) (t 8) h := by
  rw [exec_holes [([1, 0, 0, 1, 0], 0)] (by kernel_rfl), Jr41_0_h1, show (goX Try.prog cfg rc md 73 (sub (bodyOf Try.prog 41) [1, 1, 0, 1, 0, 0]) [([1, 0, 0, 1, 0], 0)] (rndK (fun t => (t 0, t 2, t 6, t 7, t 8)))) 0 = _ from J41_0b0_cut rc md]
  exact Jr41_0_h2 rc md t h
noncomputable def J41_0 (rc : Rec) (md : Md) (h0 : Heap) (s0 : Value) (s2 : Value) (s6 : Value) (s7 : Value) (s8 : Value) (h : Heap) : Option (Value × Heap) :=
  runL (fun x : (Value × Value × Value × Value × Value) × Heap => Jr41_0 rc md x.1.1 x.1.2.1 x.1.2.2.1 x.1.2.2.2.1 x.1.2.2.2.2 x.2) (fun e (s : Value × Value × Value × Value × Value) h => Jk41_0 rc md h0 e s.1 s.2.1 s.2.2.1 s.2.2.2.1 s.2.2.2.2 h) (s0, s2, s6, s7, s8) h
theorem J41_0_step (rc : Rec) (md : Md) (h0 : Heap) (s0 : Value) (s2 : Value) (s6 : Value) (s7 : Value) (s8 : Value) (h : Heap) : J41_0 rc md h0 s0 s2 s6 s7 s8 h = (Jr41_0 rc md s0 s2 s6 s7 s8 h).bind fun x => match x with
    | .inl (s, h) => J41_0 rc md h0 s.1 s.2.1 s.2.2.1 s.2.2.2.1 s.2.2.2.2 h
    | .inr (e, s, h) => Jk41_0 rc md h0 e s.1 s.2.1 s.2.2.1 s.2.2.2.1 s.2.2.2.2 h := by
  unfold J41_0
  rw [runL_eq]
  refine congrArg (Option.bind _) (funext fun x => ?_)
  rcases x with ⟨s, h⟩ | ⟨e, s, h⟩ <;> rfl
theorem J41_0_cut (rc : Rec) (md : Md) (h0 : Heap) : cut Try.prog cfg rc md 73 (bodyOf Try.prog 41) [1, 1, 0, 1, 0] (retK Try.prog cfg 41 (rsOf Try.prog 41) h0) = fun t h => J41_0 rc md h0 (t 0) (t 2) (t 6) (t 7) (t 8) h := by
  funext t h
  have e : sub (bodyOf Try.prog 41) [1, 1, 0, 1, 0] = .loop (sub (bodyOf Try.prog 41) [1, 1, 0, 1, 0, 0]) := by kernel_rfl
  unfold cut
  rw [e]
  exact loop_eq (by kernel_rfl) (fun t => (t 0, t 2, t 6, t 7, t 8)) (fun x : (Value × Value × Value × Value × Value) × Heap => Jr41_0 rc md x.1.1 x.1.2.1 x.1.2.2.1 x.1.2.2.2.1 x.1.2.2.2.2 x.2) (fun t h => Jr41_0_at rc md t h) (fun e (s : Value × Value × Value × Value × Value) h => Jk41_0 rc md h0 e s.1 s.2.1 s.2.2.1 s.2.2.2.1 s.2.2.2.2 h) (fun e t h => Jk41_0_at rc md h0 e t h) t h
noncomputable def F41 (rc : Rec) (md : Md) (a0 : Value) (a1 : Int) (a2 : Int) (h0 : Heap) : Option (Value × Heap) :=
  let h1 : Heap := h0 ++ [.own [(.int .i64 a1)]]
  J41_0 rc md h0 a0 (.int .i64 a2) (.bool false) (.slice (some ⟨h0.length, 0, none⟩) 1 1) (.int .i64 0) h1
noncomputable def F41H (rc : Rec) (md : Md) (X0 : T → Heap → Option (Value × Heap)) (a0 : Value) (a1 : Int) (a2 : Int) (h0 : Heap) : Option (Value × Heap) :=
  let h1 : Heap := h0 ++ [.own [(.int .i64 a1)]]
  X0 (upd (upd (upd (upd (upd (args0 [a0, (.int .i64 a1), (.int .i64 a2)]) 6 (.bool false)) 12 (.int .i64 a1)) 13 (.slice (some ⟨h0.length, 0, none⟩) 1 1)) 7 (.slice (some ⟨h0.length, 0, none⟩) 1 1)) 8 (.int .i64 0)) h1
theorem F41_h0 (rc : Rec) (md : Md) (a0 : Value) (a1 : Int) (a2 : Int) (h0 : Heap) : callStep0 Try.prog cfg rc md 41 [a0, (.int .i64 a1), (.int .i64 a2)] h0 = exec Try.prog cfg rc ⟨h0.length, h0.length⟩ 73 (bodyOf Try.prog 41) (retK Try.prog cfg 41 (rsOf Try.prog 41) h0) (args0 [a0, (.int .i64 a1), (.int .i64 a2)]) h0 := callStep0_run (by kernel_rfl) (by kernel_rfl) (by kernel_rfl)
theorem F41_h1 (rc : Rec) (md : Md) (X : Nat → T → Heap → Option (Value × Heap)) (a0 : Value) (a1 : Int) (a2 : Int) (h0 : Heap) : execG Try.prog cfg X rc md 73 (replS (bodyOf Try.prog 41) [([1, 1, 0, 1, 0], 0), ([1, 1, 1], 1)]) (retK Try.prog cfg 41 (rsOf Try.prog 41) h0) (args0 [a0, (.int .i64 a1), (.int .i64 a2)]) h0 = F41H rc md (X 0) a0 a1 a2 h0 := by kernel_rfl
theorem F41_h2 (rc : Rec) (md : Md) (a0 : Value) (a1 : Int) (a2 : Int) (h0 : Heap) : F41H rc md (fun t h => J41_0 rc md h0 (t 0) (t 2) (t 6) (t 7) (t 8) h) a0 a1 a2 h0 = F41 rc md a0 a1 a2 h0 := by unfold F41H F41; kernel_rfl
theorem F41_eq0 (rc : Rec) (md : Md) (a0 : Value) (a1 : Int) (a2 : Int) (h0 : Heap) : callStep0 Try.prog cfg rc md 41 [a0, (.int .i64 a1), (.int .i64 a2)] h0 = F41 rc ⟨h0.length, h0.length⟩ a0 a1 a2 h0 := by
  rw [F41_h0, exec_holes [([1, 1, 0, 1, 0], 0), ([1, 1, 1], 1)] (by kernel_rfl), F41_h1, show (goX Try.prog cfg rc ⟨h0.length, h0.length⟩ 73 (bodyOf Try.prog 41) [([1, 1, 0, 1, 0], 0), ([1, 1, 1], 1)] (retK Try.prog cfg 41 (rsOf Try.prog 41) h0)) 0 = _ from J41_0_cut rc ⟨h0.length, h0.length⟩ h0]
  exact F41_h2 rc _ a0 a1 a2 h0
theorem F41_eq (rc : Rec) (md : Md) (a0 : Value) (a1 : Int) (a2 : Int) (h0 : Heap) : callStep Try.prog cfg rc md 41 [a0, (.int .i64 a1), (.int .i64 a2)] h0 = F41 rc ⟨h0.length, h0.length⟩ a0 a1 a2 h0 := (callStep_ne (by kernel_rfl)).trans (F41_eq0 rc md a0 a1 a2 h0)

/-- tombolo/thread.Wrong -/
noncomputable def F42 (rc : Rec) (md : Md) (a0_0 : Int) (a0_1 : Int) (a0_2 : Int) (a1_0 : Int) (a1_1 : Int) (a1_2 : Int) (h0 : Heap) : Option (Value × Heap) :=
  let h1 : Heap := h0 ++ [.own [(.int .i64 a0_0), (.int .i64 a0_1), (.int .i64 a0_2)]]
  let h2 : Heap := h1 ++ [.own [(.int .i64 a1_0), (.int .i64 a1_1), (.int .i64 a1_2)]]
  ld1 (.pointer (some ⟨h1.length, 0, none⟩)) h2 fun v3 =>
  cIn .i64 v3 fun n4 =>
  (bif wantV (.bool (decide (n4 < 1))) false then
  some ((.pointer (some ⟨h1.length, 0, none⟩)), h2)
  else some (undef, h2)).bind fun p5 =>
  (bif wantV (.bool (decide (n4 < 1))) false then
  ld1 p5.1 p5.2 fun v6 =>
  cIn .i64 v6 fun n7 =>
  some ((.int .i64 n7), p5.2)
  else some (undef, p5.2)).bind fun p8 =>
  (bif wantV (.bool (decide (n4 < 1))) false then
  aBin Try.prog .gtr 3 p8.1 (.int .i64 3) fun v9 =>
  some (v9, p8.2)
  else some (undef, p8.2)).bind fun p10 =>
  cBn (bif (decide (n4 < 1)) then (.bool true) else p10.1) fun b11 =>
  bif b11 then
    some ((.int .i64 10), List.take h0.length p10.2)
  else
    ld1 (.pointer (some ⟨h1.length, 1, none⟩)) p10.2 fun v12 =>
    cIn .i64 v12 fun n13 =>
    cl (rc md 69 [(.int .i64 n13), (.pointer (some ⟨h0.length, 0, none⟩))] p10.2) fun v14 h15 =>
    cBn v14 fun b16 =>
    (bif wantV (.bool (!b16)) false then
    some ((.func (.func 69) #[] #[(.pointer (some ⟨h0.length, 0, none⟩))]), h15)
    else some (undef, h15)).bind fun p17 =>
    (bif wantV (.bool (!b16)) false then
    some ((.pointer (some ⟨h1.length, 2, none⟩)), p17.2)
    else some (undef, p17.2)).bind fun p18 =>
    (bif wantV (.bool (!b16)) false then
    ld1 p18.1 p18.2 fun v19 =>
    cIn .i64 v19 fun n20 =>
    some ((.int .i64 n20), p18.2)
    else some (undef, p18.2)).bind fun p21 =>
    (bif wantV (.bool (!b16)) false then
    clV rc md p17.1 [p21.1] p21.2 fun v22 h23 =>
    cBn v22 fun b24 =>
    some ((.bool b24), h23)
    else some (undef, p21.2)).bind fun p25 =>
    (bif wantV (.bool (!b16)) false then
    aUn .not p25.1 fun v26 =>
    some (v26, p25.2)
    else some (undef, p25.2)).bind fun p27 =>
    cBn (bif !b16 then (.bool true) else p27.1) fun b28 =>
    bif b28 then
      some ((.int .i64 30), List.take h0.length p27.2)
    else
      ld1 (.pointer (some ⟨h1.length, 1, none⟩)) p27.2 fun v29 =>
      cIn .i64 v29 fun n30 =>
      ld1 (.pointer (some ⟨h1.length, 2, none⟩)) p27.2 fun v31 =>
      cIn .i64 v31 fun n32 =>
      (bif wantV (.bool (n30 == n32)) true then
      some ((.pointer (some ⟨h1.length, 0, none⟩)), p27.2)
      else some (undef, p27.2)).bind fun p33 =>
      (bif wantV (.bool (n30 == n32)) true then
      ld1 p33.1 p33.2 fun v34 =>
      cIn .i64 v34 fun n35 =>
      some ((.int .i64 n35), p33.2)
      else some (undef, p33.2)).bind fun p36 =>
      (bif wantV (.bool (n30 == n32)) true then
      aBin Try.prog .neq 3 p36.1 (.int .i64 3) fun v37 =>
      some (v37, p36.2)
      else some (undef, p36.2)).bind fun p38 =>
      cBn (bif (n30 == n32) then p38.1 else (.bool false)) fun b39 =>
      bif b39 then
        some ((.int .i64 31), List.take h0.length p38.2)
      else
        some ((.int .i64 0), List.take h0.length p38.2)
theorem F42_eq0 (rc : Rec) (md : Md) (a0_0 : Int) (a0_1 : Int) (a0_2 : Int) (a1_0 : Int) (a1_1 : Int) (a1_2 : Int) (h0 : Heap) : callStep0 Try.prog cfg rc md 42 [(.agg #[(.int .i64 a0_0), (.int .i64 a0_1), (.int .i64 a0_2)]), (.agg #[(.int .i64 a1_0), (.int .i64 a1_1), (.int .i64 a1_2)])] h0 = F42 rc ⟨md.ro, h0.length⟩ a0_0 a0_1 a0_2 a1_0 a1_1 a1_2 h0 := by kernel_rfl
theorem F42_eq (rc : Rec) (md : Md) (a0_0 : Int) (a0_1 : Int) (a0_2 : Int) (a1_0 : Int) (a1_1 : Int) (a1_2 : Int) (h0 : Heap) : callStep Try.prog cfg rc md 42 [(.agg #[(.int .i64 a0_0), (.int .i64 a0_1), (.int .i64 a0_2)]), (.agg #[(.int .i64 a1_0), (.int .i64 a1_1), (.int .i64 a1_2)])] h0 = F42 rc ⟨md.ro, h0.length⟩ a0_0 a0_1 a0_2 a1_0 a1_1 a1_2 h0 := (callStep_ne (by kernel_rfl)).trans (F42_eq0 rc md a0_0 a0_1 a0_2 a1_0 a1_1 a1_2 h0)

/-- (*tombolo/graph.Graph).turn -/
noncomputable def F43 (rc : Rec) (md : Md) (a0 : Value) (a1 : Int) (a2 : Int) (h0 : Heap) : Option (Value × Heap) :=
  bif okNil Try.prog a0 then
  fA 1 a0 fun v1 =>
  ixA 16 1 v1 a1 fun v2 =>
  ld1 v2 h0 fun v3 =>
  cIn .u32 v3 fun n4 =>
  shI .shl 1 a2 .u32 fun v5 =>
  aBin Try.prog .xor 79 (.int .u32 n4) v5 fun v7 =>
  bif okNil Try.prog a0 then
  fA 1 a0 fun v8 =>
  ixA 16 1 v8 a1 fun v9 =>
  st md 1 v9 v7 h0 fun h10 =>
  bif okNil Try.prog a0 then
  fA 1 a0 fun v11 =>
  ixA 16 1 v11 a2 fun v12 =>
  ld1 v12 h10 fun v13 =>
  cIn .u32 v13 fun n14 =>
  shI .shl 1 a1 .u32 fun v15 =>
  aBin Try.prog .xor 79 (.int .u32 n14) v15 fun v17 =>
  bif okNil Try.prog a0 then
  fA 1 a0 fun v18 =>
  ixA 16 1 v18 a2 fun v19 =>
  st md 1 v19 v17 h10 fun h20 =>
  some ((.tuple #[]), List.take h0.length h20)
  else none
  else none
  else none
  else none
theorem F43_eq0 (rc : Rec) (md : Md) (a0 : Value) (a1 : Int) (a2 : Int) (h0 : Heap) : callStep0 Try.prog cfg rc md 43 [a0, (.int .i64 a1), (.int .i64 a2)] h0 = F43 rc ⟨md.ro, h0.length⟩ a0 a1 a2 h0 := by kernel_rfl
theorem F43_eq (rc : Rec) (md : Md) (a0 : Value) (a1 : Int) (a2 : Int) (h0 : Heap) : callStep Try.prog cfg rc md 43 [a0, (.int .i64 a1), (.int .i64 a2)] h0 = F43 rc ⟨md.ro, h0.length⟩ a0 a1 a2 h0 := (callStep_ne (by kernel_rfl)).trans (F43_eq0 rc md a0 a1 a2 h0)

/-- tombolo/tomboloref10.has -/
noncomputable def Jk68_0 (rc : Rec) (md : Md) (h0 : Heap) (e : Exit) (s0 : Value) (s1 : Value) (s4 : Value) (s5 : Value) (h : Heap) : Option (Value × Heap) :=
  match e with
  | .normal =>
    some ((.bool false), h0)
  | .exit j =>
    bif Nat.beq j 0 then
      some ((.bool false), h0)
    else
      none
  | .ret =>
    fin2 h0 s4
  | .goto l => none
  | .panic ps => none
  | .outgrown => none
theorem Jk68_0_at (rc : Rec) (md : Md) (h0 : Heap) (e : Exit) (t : T) (h : Heap) : kAt Try.prog cfg rc md 18 (bodyOf Try.prog 68) [1, 0, 1, 0] (retK Try.prog cfg 68 (rsOf Try.prog 68) h0) e t h = Jk68_0 rc md h0 e (t 0) (t 1) (t 4) (t 5) h := by cases e <;> kernel_rfl
/-- a round -/
noncomputable def Jr68_0 (rc : Rec) (md : Md) (s0 : Value) (s1 : Value) (s4 : Value) (s5 : Value) (h : Heap) : Option (((Value × Value × Value × Value) × Heap) ⊕ (Exit × (Value × Value × Value × Value) × Heap)) :=
  lenS s0 fun v1 =>
  cIn .i64 v1 fun n2 =>
  aBin Try.prog .lss 3 s5 (.int .i64 n2) fun v3 =>
  cBn v3 fun b4 =>
  bif b4 then
    ixSV 1 s0 s5 fun v5 =>
    ld1 v5 h fun v6 =>
    cIn .i64 v6 fun n7 =>
    aBin Try.prog .eql 3 (.int .i64 n7) s1 fun v8 =>
    cBn v8 fun b9 =>
    bif b9 then
      some (.inr (.ret, (s0, s1, (.bool true), s5), h))
    else
      aBin Try.prog .add 3 s5 (.int .i64 1) fun v10 =>
      some (.inl ((s0, s1, s4, v10), h))
  else
    some (.inr ((.exit 0), (s0, s1, s4, s5), h))
theorem Jr68_0_at (rc : Rec) (md : Md) (t : T) (h : Heap) : exec Try.prog cfg rc md 18 (sub (bodyOf Try.prog 68) [1, 0, 1, 0, 0]) (rndK (fun t => (t 0, t 1, t 4, t 5))) t h = Jr68_0 rc md (t 0) (t 1) (t 4) (t 5) h := by kernel_rfl
noncomputable def J68_0 (rc : Rec) (md : Md) (h0 : Heap) (s0 : Value) (s1 : Value) (s4 : Value) (s5 : Value) (h : Heap) : Option (Value × Heap) :=
  runL (fun x : (Value × Value × Value × Value) × Heap => Jr68_0 rc md x.1.1 x.1.2.1 x.1.2.2.1 x.1.2.2.2 x.2) (fun e (s : Value × Value × Value × Value) h => Jk68_0 rc md h0 e s.1 s.2.1 s.2.2.1 s.2.2.2 h) (s0, s1, s4, s5) h
theorem J68_0_step (rc : Rec) (md : Md) (h0 : Heap) (s0 : Value) (s1 : Value) (s4 : Value) (s5 : Value) (h : Heap) : J68_0 rc md h0 s0 s1 s4 s5 h = (Jr68_0 rc md s0 s1 s4 s5 h).bind fun x => match x with
    | .inl (s, h) => J68_0 rc md h0 s.1 s.2.1 s.2.2.1 s.2.2.2 h
    | .inr (e, s, h) => Jk68_0 rc md h0 e s.1 s.2.1 s.2.2.1 s.2.2.2 h := by
  unfold J68_0
  rw [runL_eq]
  refine congrArg (Option.bind _) (funext fun x => ?_)
  rcases x with ⟨s, h⟩ | ⟨e, s, h⟩ <;> rfl
theorem J68_0_cut (rc : Rec) (md : Md) (h0 : Heap) : cut Try.prog cfg rc md 18 (bodyOf Try.prog 68) [1, 0, 1, 0] (retK Try.prog cfg 68 (rsOf Try.prog 68) h0) = fun t h => J68_0 rc md h0 (t 0) (t 1) (t 4) (t 5) h := by
  funext t h
  have e : sub (bodyOf Try.prog 68) [1, 0, 1, 0] = .loop (sub (bodyOf Try.prog 68) [1, 0, 1, 0, 0]) := by kernel_rfl
  unfold cut
  rw [e]
  exact loop_eq (by kernel_rfl) (fun t => (t 0, t 1, t 4, t 5)) (fun x : (Value × Value × Value × Value) × Heap => Jr68_0 rc md x.1.1 x.1.2.1 x.1.2.2.1 x.1.2.2.2 x.2) (fun t h => Jr68_0_at rc md t h) (fun e (s : Value × Value × Value × Value) h => Jk68_0 rc md h0 e s.1 s.2.1 s.2.2.1 s.2.2.2 h) (fun e t h => Jk68_0_at rc md h0 e t h) t h
noncomputable def F68 (rc : Rec) (md : Md) (a0 : Value) (a1 : Int) (h0 : Heap) : Option (Value × Heap) :=
  J68_0 rc md h0 a0 (.int .i64 a1) (.bool false) (.int .i64 0) h0
noncomputable def F68H (rc : Rec) (md : Md) (X0 : T → Heap → Option (Value × Heap)) (a0 : Value) (a1 : Int) (h0 : Heap) : Option (Value × Heap) :=
  X0 (upd (upd (args0 [a0, (.int .i64 a1)]) 4 (.bool false)) 5 (.int .i64 0)) h0
theorem F68_h0 (rc : Rec) (md : Md) (a0 : Value) (a1 : Int) (h0 : Heap) : callStep0 Try.prog cfg rc md 68 [a0, (.int .i64 a1)] h0 = exec Try.prog cfg rc ⟨h0.length, h0.length⟩ 18 (bodyOf Try.prog 68) (retK Try.prog cfg 68 (rsOf Try.prog 68) h0) (args0 [a0, (.int .i64 a1)]) h0 := callStep0_run (by kernel_rfl) (by kernel_rfl) (by kernel_rfl)
theorem F68_h1 (rc : Rec) (md : Md) (X : Nat → T → Heap → Option (Value × Heap)) (a0 : Value) (a1 : Int) (h0 : Heap) : execG Try.prog cfg X rc md 18 (replS (bodyOf Try.prog 68) [([1, 0, 1, 0], 0)]) (retK Try.prog cfg 68 (rsOf Try.prog 68) h0) (args0 [a0, (.int .i64 a1)]) h0 = F68H rc md (X 0) a0 a1 h0 := by kernel_rfl
theorem F68_h2 (rc : Rec) (md : Md) (a0 : Value) (a1 : Int) (h0 : Heap) : F68H rc md (fun t h => J68_0 rc md h0 (t 0) (t 1) (t 4) (t 5) h) a0 a1 h0 = F68 rc md a0 a1 h0 := by unfold F68H F68; kernel_rfl
theorem F68_eq0 (rc : Rec) (md : Md) (a0 : Value) (a1 : Int) (h0 : Heap) : callStep0 Try.prog cfg rc md 68 [a0, (.int .i64 a1)] h0 = F68 rc ⟨h0.length, h0.length⟩ a0 a1 h0 := by
  rw [F68_h0, exec_holes [([1, 0, 1, 0], 0)] (by kernel_rfl), F68_h1, show (goX Try.prog cfg rc ⟨h0.length, h0.length⟩ 18 (bodyOf Try.prog 68) [([1, 0, 1, 0], 0)] (retK Try.prog cfg 68 (rsOf Try.prog 68) h0)) 0 = _ from J68_0_cut rc ⟨h0.length, h0.length⟩ h0]
  exact F68_h2 rc _ a0 a1 h0
theorem F68_eq (rc : Rec) (md : Md) (a0 : Value) (a1 : Int) (h0 : Heap) : callStep Try.prog cfg rc md 68 [a0, (.int .i64 a1)] h0 = F68 rc ⟨h0.length, h0.length⟩ a0 a1 h0 := (callStep_ne (by kernel_rfl)).trans (F68_eq0 rc md a0 a1 h0)

/-- tombolo/thread.Wrong$1 -/
noncomputable def F69 (rc : Rec) (md : Md) (a0 : Int) (c0 : Value) (h0 : Heap) : Option (Value × Heap) :=
  (bif wantV (.bool (decide (a0 ≥ 0))) true then
  some ((.int .i64 a0), h0)
  else some (undef, h0)).bind fun p1 =>
  (bif wantV (.bool (decide (a0 ≥ 0))) true then
  fA 0 c0 fun v2 =>
  some (v2, p1.2)
  else some (undef, p1.2)).bind fun p3 =>
  (bif wantV (.bool (decide (a0 ≥ 0))) true then
  ld1 p3.1 p3.2 fun v4 =>
  cIn .i64 v4 fun n5 =>
  some ((.int .i64 n5), p3.2)
  else some (undef, p3.2)).bind fun p6 =>
  (bif wantV (.bool (decide (a0 ≥ 0))) true then
  aBin Try.prog .lss 3 p1.1 p6.1 fun v7 =>
  some (v7, p6.2)
  else some (undef, p6.2)).bind fun p8 =>
  cBn (bif (decide (a0 ≥ 0)) then p8.1 else (.bool false)) fun b9 =>
  some ((.bool b9), h0)
theorem F69_eq0 (rc : Rec) (md : Md) (a0 : Int) (c0 : Value) (h0 : Heap) : callStep0 Try.prog cfg rc md 69 [(.int .i64 a0), c0] h0 = F69 rc ⟨h0.length, h0.length⟩ a0 c0 h0 := by kernel_rfl
theorem F69_eq (rc : Rec) (md : Md) (a0 : Int) (c0 : Value) (h0 : Heap) : callStep Try.prog cfg rc md 69 [(.int .i64 a0), c0] h0 = F69 rc ⟨h0.length, h0.length⟩ a0 c0 h0 := (callStep_ne (by kernel_rfl)).trans (F69_eq0 rc md a0 c0 h0)

end Go.Det.E
