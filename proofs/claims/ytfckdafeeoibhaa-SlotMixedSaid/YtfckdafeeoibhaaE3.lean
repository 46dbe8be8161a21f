/- Printed functions. -/
import Derived.Test.YtfckdafeeoibhaaE1
import Derived.Test.YtfckdafeeoibhaaDetT
import Derived.Test.YtfckdafeeoibhaaDetX
import Derived.Test.YtfckdafeeoibhaaProg
set_option autoImplicit false
set_option linter.unusedVariables false
set_option linter.unusedSimpArgs false
namespace Go.Det.E
open Go.Proofs Go.Det

/-- tombolo/tombololaw07.SlotSeries -/
noncomputable def Jk3_2 (rc : Rec) (md : Md) (h0 : Heap) (e : Exit) (s4 : Value) (s5 : Value) (s6 : Value) (s7 : Value) (s8 : Value) (s45 : Value) (s46 : Value) (s47 : Value) (h : Heap) : Option (Value × Heap) :=
  match e with
  | .normal =>
    cl (rc md 15 [] h) fun v1 h2 =>
    cBn v1 fun b3 =>
    some ((.bool b3), List.take h0.length h2)
  | .exit j =>
    bif Nat.beq j 2 then
      cl (rc md 15 [] h) fun v4 h5 =>
      cBn v4 fun b6 =>
      some ((.bool b6), List.take h0.length h5)
    else
      none
  | .ret =>
    fin1 h0 s4 h
  | .goto l => none
  | .panic ps => none
  | .outgrown => none
theorem Jk3_2_at (rc : Rec) (md : Md) (h0 : Heap) (e : Exit) (t : T) (h : Heap) : kAt Try.prog cfg rc md 160 (bodyOf Try.prog 3) [1, 1, 1, 1, 1, 1, 1, 0, 1, 0] (retK Try.prog cfg 3 (rsOf Try.prog 3) h0) e t h = Jk3_2 rc md h0 e (t 4) (t 5) (t 6) (t 7) (t 8) (t 45) (t 46) (t 47) h := by cases e <;> kernel_rfl
noncomputable def J3_2b1 (rc : Rec) (md : Md) (s4 : Value) (s5 : Value) (s6 : Value) (s7 : Value) (s8 : Value) (s14 : Value) (s15 : Value) (s45 : Value) (s46 : Value) (s47 : Value) (h : Heap) : Option (((Value × Value × Value × Value × Value × Value × Value × Value) × Heap) ⊕ (Exit × (Value × Value × Value × Value × Value × Value × Value × Value) × Heap)) :=
  cl (rc md 25 [s14] h) fun v1 h2 =>
  exT v1 0 fun v3 =>
  cIn .i64 v3 fun n4 =>
  exT v1 1 fun v5 =>
  cBn v5 fun b6 =>
  lenS s7 fun v7 =>
  cIn .i64 v7 fun n8 =>
  aBin Try.prog .neq 4 (.bool b6) (.bool (decide (n8 > 0))) fun v9 =>
  (bif wantV v9 false then
  some ((.bool b6), h2)
  else some (undef, h2)).bind fun p10 =>
  (bif wantV v9 false then
  some (p10.1, p10.2)
  else some (undef, p10.2)).bind fun p11 =>
  (bif wantV p11.1 true then
  some ((.int .i64 n4), p11.2)
  else some (undef, p11.2)).bind fun p12 =>
  (bif wantV p11.1 true then
  some (s7, p12.2)
  else some (undef, p12.2)).bind fun p13 =>
  (bif wantV p11.1 true then
  ixS 1 p13.1 0 fun v14 =>
  some (v14, p13.2)
  else some (undef, p13.2)).bind fun p15 =>
  (bif wantV p11.1 true then
  ld1 p15.1 p15.2 fun v16 =>
  cIn .i64 v16 fun n17 =>
  some ((.int .i64 n17), p15.2)
  else some (undef, p15.2)).bind fun p18 =>
  (bif wantV p11.1 true then
  aBin Try.prog .neq 3 p12.1 p18.1 fun v19 =>
  some (v19, p18.2)
  else some (undef, p18.2)).bind fun p20 =>
  (bif wantV v9 false then
  cBn p11.1 fun q21 =>
  cBn (bif q21 then p20.1 else (.bool false)) fun b22 =>
  some ((.bool b22), p20.2)
  else some (undef, p20.2)).bind fun p23 =>
  cBn v9 fun q24 =>
  cBn (bif q24 then (.bool true) else p23.1) fun b25 =>
  (bif wantV (.bool b25) false then
  some ((.bool b6), p23.2)
  else some (undef, p23.2)).bind fun p26 =>
  (bif wantV (.bool b25) false then
  aUn .not p26.1 fun v27 =>
  some (v27, p26.2)
  else some (undef, p26.2)).bind fun p28 =>
  (bif wantV (.bool b25) false then
  some (p28.1, p28.2)
  else some (undef, p28.2)).bind fun p29 =>
  (bif wantV p29.1 true then
  some ((.int .i64 n4), p29.2)
  else some (undef, p29.2)).bind fun p30 =>
  (bif wantV p29.1 true then
  aBin Try.prog .neq 3 p30.1 (.int .i64 0) fun v31 =>
  some (v31, p30.2)
  else some (undef, p30.2)).bind fun p32 =>
  (bif wantV p29.1 true then
  some (p32.1, p32.2)
  else some (undef, p32.2)).bind fun p33 =>
  (bif wantV p33.1 false then
  some (s15, p33.2)
  else some (undef, p33.2)).bind fun p34 =>
  (bif wantV p33.1 false then
  aBin Try.prog .neq 3 p34.1 (.int .i64 0) fun v35 =>
  some (v35, p34.2)
  else some (undef, p34.2)).bind fun p36 =>
  (bif wantV p29.1 true then
  cBn p33.1 fun q37 =>
  cBn (bif q37 then (.bool true) else p36.1) fun b38 =>
  some ((.bool b38), p36.2)
  else some (undef, p36.2)).bind fun p39 =>
  (bif wantV (.bool b25) false then
  cBn p29.1 fun q40 =>
  cBn (bif q40 then p39.1 else (.bool false)) fun b41 =>
  some ((.bool b41), p39.2)
  else some (undef, p39.2)).bind fun p42 =>
  cBn (bif b25 then (.bool true) else p42.1) fun b43 =>
  bif b43 then
    some (.inr (.ret, ((.bool false), s5, s6, s7, s8, s45, s46, s47), p42.2))
  else
    bif b6 then
      aSlice Try.prog 22 s7 (some (.int .i64 1)) none none fun v44 =>
      let h45 : Heap := p42.2 ++ [.own [(.int .i64 n4)]]
      aBuiltin Try.prog md .append #[22, 22] [s8, (.slice (some ⟨p42.2.length, 0, none⟩) 1 1)] h45 fun v46 h47 =>
      aBin Try.prog .add 3 s47 (.int .i64 1) fun v48 =>
      some (.inl ((s4, s5, s6, v44, v46, s45, s46, v48), h47))
    else
      aBin Try.prog .add 3 s47 (.int .i64 1) fun v49 =>
      some (.inl ((s4, s5, s6, s7, s8, s45, s46, v49), p42.2))
theorem J3_2b1_at (rc : Rec) (md : Md) (t : T) (h : Heap) : cut Try.prog cfg rc md 160 (sub (bodyOf Try.prog 3) [1, 1, 1, 1, 1, 1, 1, 0, 1, 0, 0]) [1, 1, 0, 0, 1, 1, 1, 1, 1, 1, 1] (rndK (fun t => (t 4, t 5, t 6, t 7, t 8, t 45, t 46, t 47))) t h = J3_2b1 rc md (t 4) (t 5) (t 6) (t 7) (t 8) (t 14) (t 15) (t 45) (t 46) (t 47) h := by kernel_rfl
theorem J3_2b1_cut (rc : Rec) (md : Md) : cut Try.prog cfg rc md 160 (sub (bodyOf Try.prog 3) [1, 1, 1, 1, 1, 1, 1, 0, 1, 0, 0]) [1, 1, 0, 0, 1, 1, 1, 1, 1, 1, 1] (rndK (fun t => (t 4, t 5, t 6, t 7, t 8, t 45, t 46, t 47))) = fun t h => J3_2b1 rc md (t 4) (t 5) (t 6) (t 7) (t 8) (t 14) (t 15) (t 45) (t 46) (t 47) h := funext fun t => funext fun h => J3_2b1_at rc md t h
noncomputable def Jk3_2b0 (rc : Rec) (md : Md) (e : Exit) (s4 : Value) (s5 : Value) (s6 : Value) (s7 : Value) (s8 : Value) (s14 : Value) (s15 : Value) (s45 : Value) (s46 : Value) (s47 : Value) (h : Heap) : Option (((Value × Value × Value × Value × Value × Value × Value × Value) × Heap) ⊕ (Exit × (Value × Value × Value × Value × Value × Value × Value × Value) × Heap)) :=
  match e with
  | .normal =>
    J3_2b1 rc md s4 s5 s6 s7 s8 s14 s15 s45 s46 s47 h
  | .exit j =>
    bif Nat.beq j 4 then
      J3_2b1 rc md s4 s5 s6 s7 s8 s14 s15 s45 s46 s47 h
    else
      bif Nat.beq j 3 then
        aBin Try.prog .add 3 s47 (.int .i64 1) fun v1 =>
        some (.inl ((s4, s5, s6, s7, s8, s45, s46, v1), h))
      else
        some (.inr ((.exit j), (s4, s5, s6, s7, s8, s45, s46, s47), h))
  | .ret =>
    some (.inr (.ret, (s4, s5, s6, s7, s8, s45, s46, s47), h))
  | .goto l => some (.inr ((.goto l), (s4, s5, s6, s7, s8, s45, s46, s47), h))
  | .panic ps => some (.inr ((.panic ps), (s4, s5, s6, s7, s8, s45, s46, s47), h))
  | .outgrown => some (.inr (.outgrown, (s4, s5, s6, s7, s8, s45, s46, s47), h))
noncomputable def Jk3_2b0H (rc : Rec) (md : Md) (X1 : T → Heap → Option (((Value × Value × Value × Value × Value × Value × Value × Value) × Heap) ⊕ (Exit × (Value × Value × Value × Value × Value × Value × Value × Value) × Heap))) (e : Exit) (t : T) (h : Heap) : Option (((Value × Value × Value × Value × Value × Value × Value × Value) × Heap) ⊕ (Exit × (Value × Value × Value × Value × Value × Value × Value × Value) × Heap)) :=
  match e with
  | .normal =>
    X1 t h
  | .exit j =>
    bif Nat.beq j 4 then
      X1 t h
    else
      bif Nat.beq j 3 then
        aBin Try.prog .add 3 (t 47) (.int .i64 1) fun v1 =>
        some (.inl (((t 4), (t 5), (t 6), (t 7), (t 8), (t 45), (t 46), v1), h))
      else
        some (.inr ((.exit j), ((t 4), (t 5), (t 6), (t 7), (t 8), (t 45), (t 46), (t 47)), h))
  | .ret =>
    some (.inr (.ret, ((t 4), (t 5), (t 6), (t 7), (t 8), (t 45), (t 46), (t 47)), h))
  | .goto l => some (.inr ((.goto l), ((t 4), (t 5), (t 6), (t 7), (t 8), (t 45), (t 46), (t 47)), h))
  | .panic ps => some (.inr ((.panic ps), ((t 4), (t 5), (t 6), (t 7), (t 8), (t 45), (t 46), (t 47)), h))
  | .outgrown => some (.inr (.outgrown, ((t 4), (t 5), (t 6), (t 7), (t 8), (t 45), (t 46), (t 47)), h))
theorem Jk3_2b0_h1 (rc : Rec) (md : Md) (X : Nat → T → Heap → Option (((Value × Value × Value × Value × Value × Value × Value × Value) × Heap) ⊕ (Exit × (Value × Value × Value × Value × Value × Value × Value × Value) × Heap))) (e : Exit) (t : T) (h : Heap) : kAtG Try.prog cfg X rc md 160 (replS (sub (bodyOf Try.prog 3) [1, 1, 1, 1, 1, 1, 1, 0, 1, 0, 0]) [([1, 1, 0, 0, 1, 1, 1, 1, 1, 1, 1], 1)]) [1, 1, 0, 0, 1, 1, 1, 1, 1, 1, 0, 0] (rndK (fun t => (t 4, t 5, t 6, t 7, t 8, t 45, t 46, t 47))) e t h = Jk3_2b0H rc md (X 1) e t h := by cases e <;> kernel_rfl
theorem Jk3_2b0_h2 (rc : Rec) (md : Md) (e : Exit) (t : T) (h : Heap) : Jk3_2b0H rc md (fun t h => J3_2b1 rc md (t 4) (t 5) (t 6) (t 7) (t 8) (t 14) (t 15) (t 45) (t 46) (t 47) h) e t h = Jk3_2b0 rc md e (t 4) (t 5) (t 6) (t 7) (t 8) (t 14) (t 15) (t 45) (t 46) (t 47) h := by cases e <;> (unfold Jk3_2b0H Jk3_2b0; kernel_rfl)
theorem Jk3_2b0_at (rc : Rec) (md : Md) (e : Exit) (t : T) (h : Heap) : kAt Try.prog cfg rc md 160 (sub (bodyOf Try.prog 3) [1, 1, 1, 1, 1, 1, 1, 0, 1, 0, 0]) [1, 1, 0, 0, 1, 1, 1, 1, 1, 1, 0, 0] (rndK (fun t => (t 4, t 5, t 6, t 7, t 8, t 45, t 46, t 47))) e t h = Jk3_2b0 rc md e (t 4) (t 5) (t 6) (t 7) (t 8) (t 14) (t 15) (t 45) (t 46) (t 47) h := by
  rw [kAt_holes [([1, 1, 0, 0, 1, 1, 1, 1, 1, 1, 1], 1)] [1, 1, 0, 0, 1, 1, 1, 1, 1, 1, 0, 0] (by kernel_rfl), Jk3_2b0_h1, show (goX Try.prog cfg rc md 160 (sub (bodyOf Try.prog 3) [1, 1, 1, 1, 1, 1, 1, 0, 1, 0, 0]) [([1, 1, 0, 0, 1, 1, 1, 1, 1, 1, 1], 1)] (rndK (fun t => (t 4, t 5, t 6, t 7, t 8, t 45, t 46, t 47)))) 1 = _ from J3_2b1_cut rc md]
  exact Jk3_2b0_h2 rc md e t h
/-- a round -/
noncomputable def Jr3_2b0 (rc : Rec) (md : Md) (s4 : Value) (s5 : Value) (s6 : Value) (s7 : Value) (s8 : Value) (s14 : Value) (s15 : Value) (s45 : Value) (s46 : Value) (s47 : Value) (h : Heap) : Option (((Value × Value × Value × Value × Value × Value × Value × Value × Value × Value) × Heap) ⊕ (Exit × (Value × Value × Value × Value × Value × Value × Value × Value × Value × Value) × Heap)) :=
  cl (rc md 24 [s14, s6] h) fun v1 h2 =>
  cBn v1 fun b3 =>
  bif !b3 then
    aBin Try.prog .add 3 s15 (.int .i64 1) fun v4 =>
    aBin Try.prog .gtr 3 v4 (.int .i64 2) fun v5 =>
    cBn v5 fun b6 =>
    bif b6 then
      some (.inr (.ret, ((.bool false), s5, s6, s7, s8, s14, v4, s45, s46, s47), h2))
    else
      some (.inl ((s4, s5, s6, s7, s8, s14, v4, s45, s46, s47), h2))
  else
    some (.inr ((.exit 4), (s4, s5, s6, s7, s8, s14, s15, s45, s46, s47), h2))
theorem Jr3_2b0_at (rc : Rec) (md : Md) (t : T) (h : Heap) : exec Try.prog cfg rc md 160 (sub (bodyOf Try.prog 3) [1, 1, 1, 1, 1, 1, 1, 0, 1, 0, 0, 1, 1, 0, 0, 1, 1, 1, 1, 1, 1, 0, 0, 0]) (rndK (fun t => (t 4, t 5, t 6, t 7, t 8, t 14, t 15, t 45, t 46, t 47))) t h = Jr3_2b0 rc md (t 4) (t 5) (t 6) (t 7) (t 8) (t 14) (t 15) (t 45) (t 46) (t 47) h := by kernel_rfl
noncomputable def J3_2b0 (rc : Rec) (md : Md) (s4 : Value) (s5 : Value) (s6 : Value) (s7 : Value) (s8 : Value) (s14 : Value) (s15 : Value) (s45 : Value) (s46 : Value) (s47 : Value) (h : Heap) : Option (((Value × Value × Value × Value × Value × Value × Value × Value) × Heap) ⊕ (Exit × (Value × Value × Value × Value × Value × Value × Value × Value) × Heap)) :=
  runL (fun x : (Value × Value × Value × Value × Value × Value × Value × Value × Value × Value) × Heap => Jr3_2b0 rc md x.1.1 x.1.2.1 x.1.2.2.1 x.1.2.2.2.1 x.1.2.2.2.2.1 x.1.2.2.2.2.2.1 x.1.2.2.2.2.2.2.1 x.1.2.2.2.2.2.2.2.1 x.1.2.2.2.2.2.2.2.2.1 x.1.2.2.2.2.2.2.2.2.2 x.2) (fun e (s : Value × Value × Value × Value × Value × Value × Value × Value × Value × Value) h => Jk3_2b0 rc md e s.1 s.2.1 s.2.2.1 s.2.2.2.1 s.2.2.2.2.1 s.2.2.2.2.2.1 s.2.2.2.2.2.2.1 s.2.2.2.2.2.2.2.1 s.2.2.2.2.2.2.2.2.1 s.2.2.2.2.2.2.2.2.2 h) (s4, s5, s6, s7, s8, s14, s15, s45, s46, s47) h
theorem J3_2b0_step (rc : Rec) (md : Md) (s4 : Value) (s5 : Value) (s6 : Value) (s7 : Value) (s8 : Value) (s14 : Value) (s15 : Value) (s45 : Value) (s46 : Value) (s47 : Value) (h : Heap) : J3_2b0 rc md s4 s5 s6 s7 s8 s14 s15 s45 s46 s47 h = (Jr3_2b0 rc md s4 s5 s6 s7 s8 s14 s15 s45 s46 s47 h).bind fun x => match x with
    | .inl (s, h) => J3_2b0 rc md s.1 s.2.1 s.2.2.1 s.2.2.2.1 s.2.2.2.2.1 s.2.2.2.2.2.1 s.2.2.2.2.2.2.1 s.2.2.2.2.2.2.2.1 s.2.2.2.2.2.2.2.2.1 s.2.2.2.2.2.2.2.2.2 h
    | .inr (e, s, h) => Jk3_2b0 rc md e s.1 s.2.1 s.2.2.1 s.2.2.2.1 s.2.2.2.2.1 s.2.2.2.2.2.1 s.2.2.2.2.2.2.1 s.2.2.2.2.2.2.2.1 s.2.2.2.2.2.2.2.2.1 s.2.2.2.2.2.2.2.2.2 h := by
  unfold J3_2b0
  rw [runL_eq]
  refine congrArg (Option.bind _) (funext fun x => ?_)
  rcases x with ⟨s, h⟩ | ⟨e, s, h⟩ <;> rfl
theorem J3_2b0_cut (rc : Rec) (md : Md) : cut Try.prog cfg rc md 160 (sub (bodyOf Try.prog 3) [1, 1, 1, 1, 1, 1, 1, 0, 1, 0, 0]) [1, 1, 0, 0, 1, 1, 1, 1, 1, 1, 0, 0] (rndK (fun t => (t 4, t 5, t 6, t 7, t 8, t 45, t 46, t 47))) = fun t h => J3_2b0 rc md (t 4) (t 5) (t 6) (t 7) (t 8) (t 14) (t 15) (t 45) (t 46) (t 47) h := by
  funext t h
  have e : sub (sub (bodyOf Try.prog 3) [1, 1, 1, 1, 1, 1, 1, 0, 1, 0, 0]) [1, 1, 0, 0, 1, 1, 1, 1, 1, 1, 0, 0] = .loop (sub (bodyOf Try.prog 3) [1, 1, 1, 1, 1, 1, 1, 0, 1, 0, 0, 1, 1, 0, 0, 1, 1, 1, 1, 1, 1, 0, 0, 0]) := by kernel_rfl
  unfold cut
  rw [e]
  exact loop_eq (by kernel_rfl) (fun t => (t 4, t 5, t 6, t 7, t 8, t 14, t 15, t 45, t 46, t 47)) (fun x : (Value × Value × Value × Value × Value × Value × Value × Value × Value × Value) × Heap => Jr3_2b0 rc md x.1.1 x.1.2.1 x.1.2.2.1 x.1.2.2.2.1 x.1.2.2.2.2.1 x.1.2.2.2.2.2.1 x.1.2.2.2.2.2.2.1 x.1.2.2.2.2.2.2.2.1 x.1.2.2.2.2.2.2.2.2.1 x.1.2.2.2.2.2.2.2.2.2 x.2) (fun t h => Jr3_2b0_at rc md t h) (fun e (s : Value × Value × Value × Value × Value × Value × Value × Value × Value × Value) h => Jk3_2b0 rc md e s.1 s.2.1 s.2.2.1 s.2.2.2.1 s.2.2.2.2.1 s.2.2.2.2.2.1 s.2.2.2.2.2.2.1 s.2.2.2.2.2.2.2.1 s.2.2.2.2.2.2.2.2.1 s.2.2.2.2.2.2.2.2.2 h) (fun e t h => Jk3_2b0_at rc md e t h) t h
/-- a round -/
noncomputable def Jr3_2 (rc : Rec) (md : Md) (s4 : Value) (s5 : Value) (s6 : Value) (s7 : Value) (s8 : Value) (s45 : Value) (s46 : Value) (s47 : Value) (h : Heap) : Option (((Value × Value × Value × Value × Value × Value × Value × Value) × Heap) ⊕ (Exit × (Value × Value × Value × Value × Value × Value × Value × Value) × Heap)) :=
  aBin Try.prog .lss 3 s47 s46 fun v1 =>
  cBn v1 fun b2 =>
  bif b2 then
    ixSV 1 s45 s47 fun v3 =>
    ld1 v3 h fun v4 =>
    cIn .i64 v4 fun n5 =>
    cl (rc md 19 [s6] h) fun v6 h7 =>
    ldN 3 s5 h7 fun v8 =>
    cl (rc md 18 [(.iface 31 v6), v8] h7) fun v9 h10 =>
    cl (rc md 17 [v9, s7] h10) fun v11 h12 =>
    cBn v11 fun b13 =>
    bif !b13 then
      some (.inr (.ret, ((.bool false), s5, s6, s7, s8, s45, s46, s47), h12))
    else
      (bif wantV (.bool (decide (n5 ≥ 0))) true then
      some (s8, h12)
      else some (undef, h12)).bind fun p14 =>
      (bif wantV (.bool (decide (n5 ≥ 0))) true then
      lenS p14.1 fun v15 =>
      cIn .i64 v15 fun n16 =>
      some ((.int .i64 n16), p14.2)
      else some (undef, p14.2)).bind fun p17 =>
      (bif wantV (.bool (decide (n5 ≥ 0))) true then
      aBin Try.prog .gtr 3 p17.1 (.int .i64 0) fun v18 =>
      some (v18, p17.2)
      else some (undef, p17.2)).bind fun p19 =>
      cBn (bif (decide (n5 ≥ 0)) then p19.1 else (.bool false)) fun b20 =>
      bif b20 then
        lenS s8 fun v21 =>
        cIn .i64 v21 fun n22 =>
        divI .rem n5 n22 .i64 fun v23 =>
        ixSV 1 s8 v23 fun v24 =>
        ld1 v24 p19.2 fun v25 =>
        cIn .i64 v25 fun n26 =>
        ldN 3 s5 p19.2 fun v27 =>
        cl (rc md 20 [v27, (.int .i64 n26)] p19.2) fun v28 h29 =>
        aBin Try.prog .eql 33 v28 (.pointer none) fun v30 =>
        (bif wantV v30 false then
        some (v28, h29)
        else some (undef, h29)).bind fun p31 =>
        (bif wantV v30 false then
        some (s6, p31.2)
        else some (undef, p31.2)).bind fun p32 =>
        (bif wantV v30 false then
        cl (rc md 21 [p31.1, p32.1] p32.2) fun v33 h34 =>
        cBn v33 fun b35 =>
        some ((.bool b35), h34)
        else some (undef, p32.2)).bind fun p36 =>
        cBn v30 fun q37 =>
        cBn (bif q37 then (.bool true) else p36.1) fun b38 =>
        (bif wantV (.bool b38) false then
        some (v28, p36.2)
        else some (undef, p36.2)).bind fun p39 =>
        (bif wantV (.bool b38) false then
        some (s6, p39.2)
        else some (undef, p39.2)).bind fun p40 =>
        (bif wantV (.bool b38) false then
        cl (rc md 21 [p39.1, p40.1] p40.2) fun v41 h42 =>
        cBn v41 fun b43 =>
        some ((.bool b43), h42)
        else some (undef, p40.2)).bind fun p44 =>
        cBn (bif b38 then (.bool true) else p44.1) fun b45 =>
        (bif wantV (.bool b45) false then
        some (v28, p44.2)
        else some (undef, p44.2)).bind fun p46 =>
        (bif wantV (.bool b45) false then
        some (s6, p46.2)
        else some (undef, p46.2)).bind fun p47 =>
        (bif wantV (.bool b45) false then
        cl (rc md 21 [p46.1, p47.1] p47.2) fun v48 h49 =>
        cBn v48 fun b50 =>
        some ((.bool b50), h49)
        else some (undef, p47.2)).bind fun p51 =>
        (bif wantV (.bool b45) false then
        aUn .not p51.1 fun v52 =>
        some (v52, p51.2)
        else some (undef, p51.2)).bind fun p53 =>
        cBn (bif b45 then (.bool true) else p53.1) fun b54 =>
        (bif wantV (.bool b54) false then
        some (v28, p53.2)
        else some (undef, p53.2)).bind fun p55 =>
        (bif wantV (.bool b54) false then
        some (s6, p55.2)
        else some (undef, p55.2)).bind fun p56 =>
        (bif wantV (.bool b54) false then
        cl (rc md 21 [p55.1, p56.1] p56.2) fun v57 h58 =>
        cBn v57 fun b59 =>
        some ((.bool b59), h58)
        else some (undef, p56.2)).bind fun p60 =>
        (bif wantV (.bool b54) false then
        aUn .not p60.1 fun v61 =>
        some (v61, p60.2)
        else some (undef, p60.2)).bind fun p62 =>
        cBn (bif b54 then (.bool true) else p62.1) fun b63 =>
        bif b63 then
          some (.inr (.ret, ((.bool false), s5, s6, s7, s8, s45, s46, s47), p62.2))
        else
          let h64 : Heap := p62.2 ++ [.own [(.int .i64 n26)]]
          aBuiltin Try.prog md .append #[22, 22] [(.slice (some ⟨p62.2.length, 0, none⟩) 1 1), s7] h64 fun v65 h66 =>
          cl (rc md 22 [s8, (.int .i64 n26)] h66) fun v67 h68 =>
          aBin Try.prog .add 3 s47 (.int .i64 1) fun v69 =>
          some (.inl ((s4, s5, s6, v65, v67, s45, s46, v69), h68))
      else
        ldN 3 s5 p19.2 fun v70 =>
        cl (rc md 23 [v70] p19.2) fun v71 h72 =>
        aBin Try.prog .eql 37 v71 (.pointer none) fun v73 =>
        cBn v73 fun b74 =>
        bif b74 then
          some (.inr (.ret, ((.bool false), s5, s6, s7, s8, s45, s46, s47), h72))
        else
          J3_2b0 rc md s4 s5 s6 s7 s8 v71 (.int .i64 0) s45 s46 s47 h72
  else
    some (.inr ((.exit 2), (s4, s5, s6, s7, s8, s45, s46, s47), h))
noncomputable def Jr3_2H (rc : Rec) (md : Md) (X0 : T → Heap → Option (((Value × Value × Value × Value × Value × Value × Value × Value) × Heap) ⊕ (Exit × (Value × Value × Value × Value × Value × Value × Value × Value) × Heap))) (t : T) (h : Heap) : Option (((Value × Value × Value × Value × Value × Value × Value × Value) × Heap) ⊕ (Exit × (Value × Value × Value × Value × Value × Value × Value × Value) × Heap)) :=
  aBin Try.prog .lss 3 (t 47) (t 46) fun v1 =>
  cBn v1 fun b2 =>
  bif b2 then
    ixSV 1 (t 45) (t 47) fun v3 =>
    ld1 v3 h fun v4 =>
    cIn .i64 v4 fun n5 =>
    cl (rc md 19 [(t 6)] h) fun v6 h7 =>
    ldN 3 (t 5) h7 fun v8 =>
    cl (rc md 18 [(.iface 31 v6), v8] h7) fun v9 h10 =>
    cl (rc md 17 [v9, (t 7)] h10) fun v11 h12 =>
    cBn v11 fun b13 =>
    bif !b13 then
      some (.inr (.ret, ((.bool false), (t 5), (t 6), (t 7), (t 8), (t 45), (t 46), (t 47)), h12))
    else
      (bif wantV (.bool (decide (n5 ≥ 0))) true then
      some ((t 8), h12)
      else some (undef, h12)).bind fun p14 =>
      (bif wantV (.bool (decide (n5 ≥ 0))) true then
      lenS p14.1 fun v15 =>
      cIn .i64 v15 fun n16 =>
      some ((.int .i64 n16), p14.2)
      else some (undef, p14.2)).bind fun p17 =>
      (bif wantV (.bool (decide (n5 ≥ 0))) true then
      aBin Try.prog .gtr 3 p17.1 (.int .i64 0) fun v18 =>
      some (v18, p17.2)
      else some (undef, p17.2)).bind fun p19 =>
      cBn (bif (decide (n5 ≥ 0)) then p19.1 else (.bool false)) fun b20 =>
      bif b20 then
        lenS (t 8) fun v21 =>
        cIn .i64 v21 fun n22 =>
        divI .rem n5 n22 .i64 fun v23 =>
        ixSV 1 (t 8) v23 fun v24 =>
        ld1 v24 p19.2 fun v25 =>
        cIn .i64 v25 fun n26 =>
        ldN 3 (t 5) p19.2 fun v27 =>
        cl (rc md 20 [v27, (.int .i64 n26)] p19.2) fun v28 h29 =>
        aBin Try.prog .eql 33 v28 (.pointer none) fun v30 =>
        (bif wantV v30 false then
        some (v28, h29)
        else some (undef, h29)).bind fun p31 =>
        (bif wantV v30 false then
        some ((t 6), p31.2)
        else some (undef, p31.2)).bind fun p32 =>
        (bif wantV v30 false then
        cl (rc md 21 [p31.1, p32.1] p32.2) fun v33 h34 =>
        cBn v33 fun b35 =>
        some ((.bool b35), h34)
        else some (undef, p32.2)).bind fun p36 =>
        cBn v30 fun q37 =>
        cBn (bif q37 then (.bool true) else p36.1) fun b38 =>
        (bif wantV (.bool b38) false then
        some (v28, p36.2)
        else some (undef, p36.2)).bind fun p39 =>
        (bif wantV (.bool b38) false then
        some ((t 6), p39.2)
        else some (undef, p39.2)).bind fun p40 =>
        (bif wantV (.bool b38) false then
        cl (rc md 21 [p39.1, p40.1] p40.2) fun v41 h42 =>
        cBn v41 fun b43 =>
        some ((.bool b43), h42)
        else some (undef, p40.2)).bind fun p44 =>
        cBn (bif b38 then (.bool true) else p44.1) fun b45 =>
        (bif wantV (.bool b45) false then
        some (v28, p44.2)
        else some (undef, p44.2)).bind fun p46 =>
        (bif wantV (.bool b45) false then
        some ((t 6), p46.2)
        else some (undef, p46.2)).bind fun p47 =>
        (bif wantV (.bool b45) false then
        cl (rc md 21 [p46.1, p47.1] p47.2) fun v48 h49 =>
        cBn v48 fun b50 =>
        some ((.bool b50), h49)
        else some (undef, p47.2)).bind fun p51 =>
        (bif wantV (.bool b45) false then
        aUn .not p51.1 fun v52 =>
        some (v52, p51.2)
        else some (undef, p51.2)).bind fun p53 =>
        cBn (bif b45 then (.bool true) else p53.1) fun b54 =>
        (bif wantV (.bool b54) false then
        some (v28, p53.2)
        else some (undef, p53.2)).bind fun p55 =>
        (bif wantV (.bool b54) false then
        some ((t 6), p55.2)
        else some (undef, p55.2)).bind fun p56 =>
        (bif wantV (.bool b54) false then
        cl (rc md 21 [p55.1, p56.1] p56.2) fun v57 h58 =>
        cBn v57 fun b59 =>
        some ((.bool b59), h58)
        else some (undef, p56.2)).bind fun p60 =>
        (bif wantV (.bool b54) false then
        aUn .not p60.1 fun v61 =>
        some (v61, p60.2)
        else some (undef, p60.2)).bind fun p62 =>
        cBn (bif b54 then (.bool true) else p62.1) fun b63 =>
        bif b63 then
          some (.inr (.ret, ((.bool false), (t 5), (t 6), (t 7), (t 8), (t 45), (t 46), (t 47)), p62.2))
        else
          let h64 : Heap := p62.2 ++ [.own [(.int .i64 n26)]]
          aBuiltin Try.prog md .append #[22, 22] [(.slice (some ⟨p62.2.length, 0, none⟩) 1 1), (t 7)] h64 fun v65 h66 =>
          cl (rc md 22 [(t 8), (.int .i64 n26)] h66) fun v67 h68 =>
          aBin Try.prog .add 3 (t 47) (.int .i64 1) fun v69 =>
          some (.inl (((t 4), (t 5), (t 6), v65, v67, (t 45), (t 46), v69), h68))
      else
        ldN 3 (t 5) p19.2 fun v70 =>
        cl (rc md 23 [v70] p19.2) fun v71 h72 =>
        aBin Try.prog .eql 37 v71 (.pointer none) fun v73 =>
        cBn v73 fun b74 =>
        bif b74 then
          some (.inr (.ret, ((.bool false), (t 5), (t 6), (t 7), (t 8), (t 45), (t 46), (t 47)), h72))
        else
          X0 (upd (upd (upd (upd (upd (upd (upd (upd (upd (upd (upd (upd (upd (upd (upd (upd (upd (upd (upd (upd (upd (upd (upd (upd (upd t 48 v1) 49 v3) 50 (.int .i64 n5)) 11 (.int .i64 n5)) 51 (t 6)) 52 v6) 53 (.iface 31 v6)) 54 v8) 55 v9) 56 (t 7)) 57 (.bool b13)) 58 (.bool (!b13))) 59 (.int .i64 n5)) 60 (.bool (decide (n5 ≥ 0)))) 61 (.bool (decide (n5 ≥ 0)))) 62 p14.1) 63 p17.1) 64 p19.1) 65 (.bool b20)) 107 v70) 108 v71) 14 v71) 109 v71) 110 v73) 15 (.int .i64 0)) h72
  else
    some (.inr ((.exit 2), ((t 4), (t 5), (t 6), (t 7), (t 8), (t 45), (t 46), (t 47)), h))
theorem Jr3_2_h1 (rc : Rec) (md : Md) (X : Nat → T → Heap → Option (((Value × Value × Value × Value × Value × Value × Value × Value) × Heap) ⊕ (Exit × (Value × Value × Value × Value × Value × Value × Value × Value) × Heap))) (t : T) (h : Heap) : execG Try.prog cfg X rc md 160 (replS (sub (bodyOf Try.prog 3) [1, 1, 1, 1, 1, 1, 1, 0, 1, 0, 0]) [([1, 1, 0, 0, 1, 1, 1, 1, 1, 1, 0, 0], 0), ([1, 1, 0, 0, 1, 1, 1, 1, 1, 1, 1], 1)]) (rndK (fun t => (t 4, t 5, t 6, t 7, t 8, t 45, t 46, t 47))) t h = Jr3_2H rc md (X 0) t h := by kernel_rfl
theorem Jr3_2_h2 (rc : Rec) (md : Md) (t : T) (h : Heap) : Jr3_2H rc md (fun t h => J3_2b0 rc md (t 4) (t 5) (t 6) (t 7) (t 8) (t 14) (t 15) (t 45) (t 46) (t 47) h) t h = Jr3_2 rc md (t 4) (t 5) (t 6) (t 7) (t 8) (t 45) (t 46) (t 47) h := by unfold Jr3_2H Jr3_2; kernel_rfl
theorem Jr3_2_at (rc : Rec) (md : Md) (t : T) (h : Heap) : exec Try.prog cfg rc md 160 (sub (bodyOf Try.prog 3) [1, 1, 1, 1, 1, 1, 1, 0, 1, 0, 0]) (rndK (fun t => (t 4, t 5, t 6, t 7, t 8, t 45, t 46, t 47))) t h = Jr3_2 rc md (t 4) (t 5) (t 6) (t 7) (t 8) (t 45) (t 46) (t 47) h := by
  rw [exec_holes [([1, 1, 0, 0, 1, 1, 1, 1, 1, 1, 0, 0], 0), ([1, 1, 0, 0, 1, 1, 1, 1, 1, 1, 1], 1)] (by kernel_rfl), Jr3_2_h1, show (goX Try.prog cfg rc md 160 (sub (bodyOf Try.prog 3) [1, 1, 1, 1, 1, 1, 1, 0, 1, 0, 0]) [([1, 1, 0, 0, 1, 1, 1, 1, 1, 1, 0, 0], 0), ([1, 1, 0, 0, 1, 1, 1, 1, 1, 1, 1], 1)] (rndK (fun t => (t 4, t 5, t 6, t 7, t 8, t 45, t 46, t 47)))) 0 = _ from J3_2b0_cut rc md]
  exact Jr3_2_h2 rc md t h
noncomputable def J3_2 (rc : Rec) (md : Md) (h0 : Heap) (s4 : Value) (s5 : Value) (s6 : Value) (s7 : Value) (s8 : Value) (s45 : Value) (s46 : Value) (s47 : Value) (h : Heap) : Option (Value × Heap) :=
  runL (fun x : (Value × Value × Value × Value × Value × Value × Value × Value) × Heap => Jr3_2 rc md x.1.1 x.1.2.1 x.1.2.2.1 x.1.2.2.2.1 x.1.2.2.2.2.1 x.1.2.2.2.2.2.1 x.1.2.2.2.2.2.2.1 x.1.2.2.2.2.2.2.2 x.2) (fun e (s : Value × Value × Value × Value × Value × Value × Value × Value) h => Jk3_2 rc md h0 e s.1 s.2.1 s.2.2.1 s.2.2.2.1 s.2.2.2.2.1 s.2.2.2.2.2.1 s.2.2.2.2.2.2.1 s.2.2.2.2.2.2.2 h) (s4, s5, s6, s7, s8, s45, s46, s47) h
theorem J3_2_step (rc : Rec) (md : Md) (h0 : Heap) (s4 : Value) (s5 : Value) (s6 : Value) (s7 : Value) (s8 : Value) (s45 : Value) (s46 : Value) (s47 : Value) (h : Heap) : J3_2 rc md h0 s4 s5 s6 s7 s8 s45 s46 s47 h = (Jr3_2 rc md s4 s5 s6 s7 s8 s45 s46 s47 h).bind fun x => match x with
    | .inl (s, h) => J3_2 rc md h0 s.1 s.2.1 s.2.2.1 s.2.2.2.1 s.2.2.2.2.1 s.2.2.2.2.2.1 s.2.2.2.2.2.2.1 s.2.2.2.2.2.2.2 h
    | .inr (e, s, h) => Jk3_2 rc md h0 e s.1 s.2.1 s.2.2.1 s.2.2.2.1 s.2.2.2.2.1 s.2.2.2.2.2.1 s.2.2.2.2.2.2.1 s.2.2.2.2.2.2.2 h := by
  unfold J3_2
  rw [runL_eq]
  refine congrArg (Option.bind _) (funext fun x => ?_)
  rcases x with ⟨s, h⟩ | ⟨e, s, h⟩ <;> rfl
theorem J3_2_cut (rc : Rec) (md : Md) (h0 : Heap) : cut Try.prog cfg rc md 160 (bodyOf Try.prog 3) [1, 1, 1, 1, 1, 1, 1, 0, 1, 0] (retK Try.prog cfg 3 (rsOf Try.prog 3) h0) = fun t h => J3_2 rc md h0 (t 4) (t 5) (t 6) (t 7) (t 8) (t 45) (t 46) (t 47) h := by
  funext t h
  have e : sub (bodyOf Try.prog 3) [1, 1, 1, 1, 1, 1, 1, 0, 1, 0] = .loop (sub (bodyOf Try.prog 3) [1, 1, 1, 1, 1, 1, 1, 0, 1, 0, 0]) := by kernel_rfl
  unfold cut
  rw [e]
  exact loop_eq (by kernel_rfl) (fun t => (t 4, t 5, t 6, t 7, t 8, t 45, t 46, t 47)) (fun x : (Value × Value × Value × Value × Value × Value × Value × Value) × Heap => Jr3_2 rc md x.1.1 x.1.2.1 x.1.2.2.1 x.1.2.2.2.1 x.1.2.2.2.2.1 x.1.2.2.2.2.2.1 x.1.2.2.2.2.2.2.1 x.1.2.2.2.2.2.2.2 x.2) (fun t h => Jr3_2_at rc md t h) (fun e (s : Value × Value × Value × Value × Value × Value × Value × Value) h => Jk3_2 rc md h0 e s.1 s.2.1 s.2.2.1 s.2.2.2.1 s.2.2.2.2.1 s.2.2.2.2.2.1 s.2.2.2.2.2.2.1 s.2.2.2.2.2.2.2 h) (fun e t h => Jk3_2_at rc md h0 e t h) t h
noncomputable def J3_1 (rc : Rec) (md : Md) (h0 : Heap) (s1 : Value) (s4 : Value) (s5 : Value) (s6 : Value) (s7 : Value) (s8 : Value) (h : Heap) : Option (Value × Heap) :=
  lenS s1 fun v1 =>
  cIn .i64 v1 fun n2 =>
  J3_2 rc md h0 s4 s5 s6 s7 s8 s1 (.int .i64 n2) (.int .i64 0) h
noncomputable def J3_1H (rc : Rec) (md : Md) (h0 : Heap) (X1 : T → Heap → Option (Value × Heap)) (t : T) (h : Heap) : Option (Value × Heap) :=
  lenS (t 1) fun v1 =>
  cIn .i64 v1 fun n2 =>
  X1 (upd (upd (upd t 45 (t 1)) 46 (.int .i64 n2)) 47 (.int .i64 0)) h
theorem J3_1_h1 (rc : Rec) (md : Md) (h0 : Heap) (X : Nat → T → Heap → Option (Value × Heap)) (t : T) (h : Heap) : execG Try.prog cfg X rc md 160 (sub (replS (bodyOf Try.prog 3) [([1, 1, 1, 1, 1, 1, 0, 1, 0], 0), ([1, 1, 1, 1, 1, 1, 1, 0, 1, 0], 1)]) [1, 1, 1, 1, 1, 1, 1]) (kAtG Try.prog cfg X rc md 160 (replS (bodyOf Try.prog 3) [([1, 1, 1, 1, 1, 1, 0, 1, 0], 0), ([1, 1, 1, 1, 1, 1, 1, 0, 1, 0], 1)]) [1, 1, 1, 1, 1, 1, 1] (retK Try.prog cfg 3 (rsOf Try.prog 3) h0)) t h = J3_1H rc md h0 (X 1) t h := by kernel_rfl
theorem J3_1_h2 (rc : Rec) (md : Md) (h0 : Heap) (t : T) (h : Heap) : J3_1H rc md h0 (fun t h => J3_2 rc md h0 (t 4) (t 5) (t 6) (t 7) (t 8) (t 45) (t 46) (t 47) h) t h = J3_1 rc md h0 (t 1) (t 4) (t 5) (t 6) (t 7) (t 8) h := by (unfold J3_1H J3_1; kernel_rfl)
theorem J3_1_at (rc : Rec) (md : Md) (h0 : Heap) (t : T) (h : Heap) : cut Try.prog cfg rc md 160 (bodyOf Try.prog 3) [1, 1, 1, 1, 1, 1, 1] (retK Try.prog cfg 3 (rsOf Try.prog 3) h0) t h = J3_1 rc md h0 (t 1) (t 4) (t 5) (t 6) (t 7) (t 8) h := by
  rw [cut_holes [([1, 1, 1, 1, 1, 1, 0, 1, 0], 0), ([1, 1, 1, 1, 1, 1, 1, 0, 1, 0], 1)] [1, 1, 1, 1, 1, 1, 1] (by kernel_rfl), J3_1_h1, show (goX Try.prog cfg rc md 160 (bodyOf Try.prog 3) [([1, 1, 1, 1, 1, 1, 0, 1, 0], 0), ([1, 1, 1, 1, 1, 1, 1, 0, 1, 0], 1)] (retK Try.prog cfg 3 (rsOf Try.prog 3) h0)) 1 = _ from J3_2_cut rc md h0]
  exact J3_1_h2 rc md h0 t h
theorem J3_1_cut (rc : Rec) (md : Md) (h0 : Heap) : cut Try.prog cfg rc md 160 (bodyOf Try.prog 3) [1, 1, 1, 1, 1, 1, 1] (retK Try.prog cfg 3 (rsOf Try.prog 3) h0) = fun t h => J3_1 rc md h0 (t 1) (t 4) (t 5) (t 6) (t 7) (t 8) h := funext fun t => funext fun h => J3_1_at rc md h0 t h
noncomputable def Jk3_0 (rc : Rec) (md : Md) (h0 : Heap) (e : Exit) (s1 : Value) (s4 : Value) (s5 : Value) (s6 : Value) (s7 : Value) (s8 : Value) (s36 : Value) (s37 : Value) (h : Heap) : Option (Value × Heap) :=
  match e with
  | .normal =>
    J3_1 rc md h0 s1 s4 s5 s6 s7 s8 h
  | .exit j =>
    bif Nat.beq j 0 then
      J3_1 rc md h0 s1 s4 s5 s6 s7 s8 h
    else
      none
  | .ret =>
    fin1 h0 s4 h
  | .goto l => none
  | .panic ps => none
  | .outgrown => none
noncomputable def Jk3_0H (rc : Rec) (md : Md) (h0 : Heap) (X2 : T → Heap → Option (Value × Heap)) (e : Exit) (t : T) (h : Heap) : Option (Value × Heap) :=
  match e with
  | .normal =>
    X2 t h
  | .exit j =>
    bif Nat.beq j 0 then
      X2 t h
    else
      none
  | .ret =>
    fin1 h0 (t 4) h
  | .goto l => none
  | .panic ps => none
  | .outgrown => none
theorem Jk3_0_h1 (rc : Rec) (md : Md) (h0 : Heap) (X : Nat → T → Heap → Option (Value × Heap)) (e : Exit) (t : T) (h : Heap) : kAtG Try.prog cfg X rc md 160 (replS (bodyOf Try.prog 3) [([1, 1, 1, 1, 1, 1, 1, 0, 1, 0], 1), ([1, 1, 1, 1, 1, 1, 1], 2)]) [1, 1, 1, 1, 1, 1, 0, 1, 0] (retK Try.prog cfg 3 (rsOf Try.prog 3) h0) e t h = Jk3_0H rc md h0 (X 2) e t h := by cases e <;> kernel_rfl
theorem Jk3_0_h2 (rc : Rec) (md : Md) (h0 : Heap) (e : Exit) (t : T) (h : Heap) : Jk3_0H rc md h0 (fun t h => J3_1 rc md h0 (t 1) (t 4) (t 5) (t 6) (t 7) (t 8) h) e t h = Jk3_0 rc md h0 e (t 1) (t 4) (t 5) (t 6) (t 7) (t 8) (t 36) (t 37) h := by cases e <;> (unfold Jk3_0H Jk3_0; kernel_rfl)
theorem Jk3_0_at (rc : Rec) (md : Md) (h0 : Heap) (e : Exit) (t : T) (h : Heap) : kAt Try.prog cfg rc md 160 (bodyOf Try.prog 3) [1, 1, 1, 1, 1, 1, 0, 1, 0] (retK Try.prog cfg 3 (rsOf Try.prog 3) h0) e t h = Jk3_0 rc md h0 e (t 1) (t 4) (t 5) (t 6) (t 7) (t 8) (t 36) (t 37) h := by
  rw [kAt_holes [([1, 1, 1, 1, 1, 1, 1, 0, 1, 0], 1), ([1, 1, 1, 1, 1, 1, 1], 2)] [1, 1, 1, 1, 1, 1, 0, 1, 0] (by kernel_rfl), Jk3_0_h1, show (goX Try.prog cfg rc md 160 (bodyOf Try.prog 3) [([1, 1, 1, 1, 1, 1, 1, 0, 1, 0], 1), ([1, 1, 1, 1, 1, 1, 1], 2)] (retK Try.prog cfg 3 (rsOf Try.prog 3) h0)) 2 = _ from J3_1_cut rc md h0]
  exact Jk3_0_h2 rc md h0 e t h
/-- a round -/
noncomputable def Jr3_0 (rc : Rec) (md : Md) (s1 : Value) (s4 : Value) (s5 : Value) (s6 : Value) (s7 : Value) (s8 : Value) (s36 : Value) (s37 : Value) (h : Heap) : Option (((Value × Value × Value × Value × Value × Value × Value × Value) × Heap) ⊕ (Exit × (Value × Value × Value × Value × Value × Value × Value × Value) × Heap)) :=
  aBin Try.prog .lss 3 s37 s36 fun v1 =>
  cBn v1 fun b2 =>
  bif b2 then
    aBuildSlice Try.prog 22 1 [(0, s37)] h fun v3 h4 =>
    aBuiltin Try.prog md .append #[22, 22] [s7, v3] h4 fun v5 h6 =>
    aBin Try.prog .add 3 s37 (.int .i64 1) fun v7 =>
    some (.inl ((s1, s4, s5, s6, v5, s8, s36, v7), h6))
  else
    some (.inr ((.exit 0), (s1, s4, s5, s6, s7, s8, s36, s37), h))
theorem Jr3_0_at (rc : Rec) (md : Md) (t : T) (h : Heap) : exec Try.prog cfg rc md 160 (sub (bodyOf Try.prog 3) [1, 1, 1, 1, 1, 1, 0, 1, 0, 0]) (rndK (fun t => (t 1, t 4, t 5, t 6, t 7, t 8, t 36, t 37))) t h = Jr3_0 rc md (t 1) (t 4) (t 5) (t 6) (t 7) (t 8) (t 36) (t 37) h := by kernel_rfl
noncomputable def J3_0 (rc : Rec) (md : Md) (h0 : Heap) (s1 : Value) (s4 : Value) (s5 : Value) (s6 : Value) (s7 : Value) (s8 : Value) (s36 : Value) (s37 : Value) (h : Heap) : Option (Value × Heap) :=
  runL (fun x : (Value × Value × Value × Value × Value × Value × Value × Value) × Heap => Jr3_0 rc md x.1.1 x.1.2.1 x.1.2.2.1 x.1.2.2.2.1 x.1.2.2.2.2.1 x.1.2.2.2.2.2.1 x.1.2.2.2.2.2.2.1 x.1.2.2.2.2.2.2.2 x.2) (fun e (s : Value × Value × Value × Value × Value × Value × Value × Value) h => Jk3_0 rc md h0 e s.1 s.2.1 s.2.2.1 s.2.2.2.1 s.2.2.2.2.1 s.2.2.2.2.2.1 s.2.2.2.2.2.2.1 s.2.2.2.2.2.2.2 h) (s1, s4, s5, s6, s7, s8, s36, s37) h
theorem J3_0_step (rc : Rec) (md : Md) (h0 : Heap) (s1 : Value) (s4 : Value) (s5 : Value) (s6 : Value) (s7 : Value) (s8 : Value) (s36 : Value) (s37 : Value) (h : Heap) : J3_0 rc md h0 s1 s4 s5 s6 s7 s8 s36 s37 h = (Jr3_0 rc md s1 s4 s5 s6 s7 s8 s36 s37 h).bind fun x => match x with
    | .inl (s, h) => J3_0 rc md h0 s.1 s.2.1 s.2.2.1 s.2.2.2.1 s.2.2.2.2.1 s.2.2.2.2.2.1 s.2.2.2.2.2.2.1 s.2.2.2.2.2.2.2 h
    | .inr (e, s, h) => Jk3_0 rc md h0 e s.1 s.2.1 s.2.2.1 s.2.2.2.1 s.2.2.2.2.1 s.2.2.2.2.2.1 s.2.2.2.2.2.2.1 s.2.2.2.2.2.2.2 h := by
  unfold J3_0
  rw [runL_eq]
  refine congrArg (Option.bind _) (funext fun x => ?_)
  rcases x with ⟨s, h⟩ | ⟨e, s, h⟩ <;> rfl
theorem J3_0_cut (rc : Rec) (md : Md) (h0 : Heap) : cut Try.prog cfg rc md 160 (bodyOf Try.prog 3) [1, 1, 1, 1, 1, 1, 0, 1, 0] (retK Try.prog cfg 3 (rsOf Try.prog 3) h0) = fun t h => J3_0 rc md h0 (t 1) (t 4) (t 5) (t 6) (t 7) (t 8) (t 36) (t 37) h := by
  funext t h
  have e : sub (bodyOf Try.prog 3) [1, 1, 1, 1, 1, 1, 0, 1, 0] = .loop (sub (bodyOf Try.prog 3) [1, 1, 1, 1, 1, 1, 0, 1, 0, 0]) := by kernel_rfl
  unfold cut
  rw [e]
  exact loop_eq (by kernel_rfl) (fun t => (t 1, t 4, t 5, t 6, t 7, t 8, t 36, t 37)) (fun x : (Value × Value × Value × Value × Value × Value × Value × Value) × Heap => Jr3_0 rc md x.1.1 x.1.2.1 x.1.2.2.1 x.1.2.2.2.1 x.1.2.2.2.2.1 x.1.2.2.2.2.2.1 x.1.2.2.2.2.2.2.1 x.1.2.2.2.2.2.2.2 x.2) (fun t h => Jr3_0_at rc md t h) (fun e (s : Value × Value × Value × Value × Value × Value × Value × Value) h => Jk3_0 rc md h0 e s.1 s.2.1 s.2.2.1 s.2.2.2.1 s.2.2.2.2.1 s.2.2.2.2.2.1 s.2.2.2.2.2.2.1 s.2.2.2.2.2.2.2 h) (fun e t h => Jk3_0_at rc md h0 e t h) t h
noncomputable def F3 (rc : Rec) (md : Md) (a0 : Int) (a1 : Value) (h0 : Heap) : Option (Value × Heap) :=
  let h1 : Heap := h0 ++ [.own [(.int .i64 0), (.int .i64 0), (.int .i64 0)]]
  st md 3 (.pointer (some ⟨h0.length, 0, none⟩)) (.agg #[(.int .i64 1), (.int .i64 a0), (.int .i64 1)]) h1 fun h2 =>
  (bif wantV (.bool (decide (a0 < 0))) false then
  some ((.int .i64 a0), h2)
  else some (undef, h2)).bind fun p3 =>
  (bif wantV (.bool (decide (a0 < 0))) false then
  aBin Try.prog .gtr 3 p3.1 (.int .i64 48) fun v4 =>
  some (v4, p3.2)
  else some (undef, p3.2)).bind fun p5 =>
  cBn (bif (decide (a0 < 0)) then (.bool true) else p5.1) fun b6 =>
  (bif wantV (.bool b6) false then
  some (a1, p5.2)
  else some (undef, p5.2)).bind fun p7 =>
  (bif wantV (.bool b6) false then
  lenS p7.1 fun v8 =>
  cIn .i64 v8 fun n9 =>
  some ((.int .i64 n9), p7.2)
  else some (undef, p7.2)).bind fun p10 =>
  (bif wantV (.bool b6) false then
  aBin Try.prog .gtr 3 p10.1 (.int .i64 60) fun v11 =>
  some (v11, p10.2)
  else some (undef, p10.2)).bind fun p12 =>
  cBn (bif b6 then (.bool true) else p12.1) fun b13 =>
  bif b13 then
    cl (rc md 15 [] p12.2) fun v14 h15 =>
    cBn v14 fun b16 =>
    some ((.bool b16), List.take h0.length h15)
  else
    ldN 3 (.pointer (some ⟨h0.length, 0, none⟩)) p12.2 fun v17 =>
    cl (rc md 16 [v17] p12.2) fun v18 h19 =>
    aBin Try.prog .eql 26 v18 (.pointer none) fun v20 =>
    cBn v20 fun b21 =>
    bif b21 then
      some ((.bool false), List.take h0.length h19)
    else
      J3_0 rc md h0 a1 (.bool false) (.pointer (some ⟨h0.length, 0, none⟩)) v18 (.slice none 0 0) (.slice none 0 0) (.int .i64 a0) (.int .i64 0) h19
noncomputable def F3H (rc : Rec) (md : Md) (X0 : T → Heap → Option (Value × Heap)) (a0 : Int) (a1 : Value) (h0 : Heap) : Option (Value × Heap) :=
  let h1 : Heap := h0 ++ [.own [(.int .i64 0), (.int .i64 0), (.int .i64 0)]]
  st md 3 (.pointer (some ⟨h0.length, 0, none⟩)) (.agg #[(.int .i64 1), (.int .i64 a0), (.int .i64 1)]) h1 fun h2 =>
  (bif wantV (.bool (decide (a0 < 0))) false then
  some ((.int .i64 a0), h2)
  else some (undef, h2)).bind fun p3 =>
  (bif wantV (.bool (decide (a0 < 0))) false then
  aBin Try.prog .gtr 3 p3.1 (.int .i64 48) fun v4 =>
  some (v4, p3.2)
  else some (undef, p3.2)).bind fun p5 =>
  cBn (bif (decide (a0 < 0)) then (.bool true) else p5.1) fun b6 =>
  (bif wantV (.bool b6) false then
  some (a1, p5.2)
  else some (undef, p5.2)).bind fun p7 =>
  (bif wantV (.bool b6) false then
  lenS p7.1 fun v8 =>
  cIn .i64 v8 fun n9 =>
  some ((.int .i64 n9), p7.2)
  else some (undef, p7.2)).bind fun p10 =>
  (bif wantV (.bool b6) false then
  aBin Try.prog .gtr 3 p10.1 (.int .i64 60) fun v11 =>
  some (v11, p10.2)
  else some (undef, p10.2)).bind fun p12 =>
  cBn (bif b6 then (.bool true) else p12.1) fun b13 =>
  bif b13 then
    cl (rc md 15 [] p12.2) fun v14 h15 =>
    cBn v14 fun b16 =>
    some ((.bool b16), List.take h0.length h15)
  else
    ldN 3 (.pointer (some ⟨h0.length, 0, none⟩)) p12.2 fun v17 =>
    cl (rc md 16 [v17] p12.2) fun v18 h19 =>
    aBin Try.prog .eql 26 v18 (.pointer none) fun v20 =>
    cBn v20 fun b21 =>
    bif b21 then
      some ((.bool false), List.take h0.length h19)
    else
      X0 (upd (upd (upd (upd (upd (upd (upd (upd (upd (upd (upd (upd (upd (upd (upd (upd (upd (upd (upd (upd (upd (upd (upd (upd (args0 [(.int .i64 a0), a1]) 4 (.bool false)) 18 (.int .i64 a0)) 19 (.agg #[(.int .i64 1), (.int .i64 a0), (.int .i64 1)])) 5 (.pointer (some ⟨h0.length, 0, none⟩))) 20 (.int .i64 a0)) 21 (.bool (decide (a0 < 0)))) 22 (.bool (decide (a0 < 0)))) 23 p3.1) 24 p5.1) 25 (.bool b6)) 26 (.bool b6)) 27 p7.1) 28 p10.1) 29 p12.1) 30 (.bool b13)) 32 v17) 33 v18) 6 v18) 34 v18) 35 v20) 7 (.slice none 0 0)) 8 (.slice none 0 0)) 36 (.int .i64 a0)) 37 (.int .i64 0)) h19
theorem F3_h0 (rc : Rec) (md : Md) (a0 : Int) (a1 : Value) (h0 : Heap) : callStep0 Try.prog cfg rc md 3 [(.int .i64 a0), a1] h0 = exec Try.prog cfg rc ⟨md.ro, h0.length⟩ 160 (bodyOf Try.prog 3) (retK Try.prog cfg 3 (rsOf Try.prog 3) h0) (args0 [(.int .i64 a0), a1]) h0 := callStep0_run (by kernel_rfl) (by kernel_rfl) (by kernel_rfl)
theorem F3_h1 (rc : Rec) (md : Md) (X : Nat → T → Heap → Option (Value × Heap)) (a0 : Int) (a1 : Value) (h0 : Heap) : execG Try.prog cfg X rc md 160 (replS (bodyOf Try.prog 3) [([1, 1, 1, 1, 1, 1, 0, 1, 0], 0), ([1, 1, 1, 1, 1, 1, 1, 0, 1, 0], 1), ([1, 1, 1, 1, 1, 1, 1], 2)]) (retK Try.prog cfg 3 (rsOf Try.prog 3) h0) (args0 [(.int .i64 a0), a1]) h0 = F3H rc md (X 0) a0 a1 h0 := by kernel_rfl
theorem F3_h2 (rc : Rec) (md : Md) (a0 : Int) (a1 : Value) (h0 : Heap) : F3H rc md (fun t h => J3_0 rc md h0 (t 1) (t 4) (t 5) (t 6) (t 7) (t 8) (t 36) (t 37) h) a0 a1 h0 = F3 rc md a0 a1 h0 := by unfold F3H F3; kernel_rfl
theorem F3_eq0 (rc : Rec) (md : Md) (a0 : Int) (a1 : Value) (h0 : Heap) : callStep0 Try.prog cfg rc md 3 [(.int .i64 a0), a1] h0 = F3 rc ⟨md.ro, h0.length⟩ a0 a1 h0 := by
  rw [F3_h0, exec_holes [([1, 1, 1, 1, 1, 1, 0, 1, 0], 0), ([1, 1, 1, 1, 1, 1, 1, 0, 1, 0], 1), ([1, 1, 1, 1, 1, 1, 1], 2)] (by kernel_rfl), F3_h1, show (goX Try.prog cfg rc ⟨md.ro, h0.length⟩ 160 (bodyOf Try.prog 3) [([1, 1, 1, 1, 1, 1, 0, 1, 0], 0), ([1, 1, 1, 1, 1, 1, 1, 0, 1, 0], 1), ([1, 1, 1, 1, 1, 1, 1], 2)] (retK Try.prog cfg 3 (rsOf Try.prog 3) h0)) 0 = _ from J3_0_cut rc ⟨md.ro, h0.length⟩ h0]
  exact F3_h2 rc _ a0 a1 h0
theorem F3_eq (rc : Rec) (md : Md) (a0 : Int) (a1 : Value) (h0 : Heap) : callStep Try.prog cfg rc md 3 [(.int .i64 a0), a1] h0 = F3 rc ⟨md.ro, h0.length⟩ a0 a1 h0 := (callStep_ne (by kernel_rfl)).trans (F3_eq0 rc md a0 a1 h0)

/-- tombolo/tombololaw07.SlotMixed -/
noncomputable def Jk4_10 (rc : Rec) (md : Md) (h0 : Heap) (e : Exit) (s6 : Value) (s187 : Value) (s188 : Value) (s189 : Value) (h : Heap) : Option (Value × Heap) :=
  match e with
  | .normal =>
    cl (rc md 15 [] h) fun v1 h2 =>
    cBn v1 fun b3 =>
    some ((.bool b3), List.take h0.length h2)
  | .exit j =>
    bif Nat.beq j 14 then
      cl (rc md 15 [] h) fun v4 h5 =>
      cBn v4 fun b6 =>
      some ((.bool b6), List.take h0.length h5)
    else
      none
  | .ret =>
    fin1 h0 s6 h
  | .goto l => none
  | .panic ps => none
  | .outgrown => none
theorem Jk4_10_at (rc : Rec) (md : Md) (h0 : Heap) (e : Exit) (t : T) (h : Heap) : kAt Try.prog cfg rc md 197 (bodyOf Try.prog 4) [1, 1, 1, 1, 1, 1, 1, 1, 1, 1, 1, 0, 1, 0] (retK Try.prog cfg 4 (rsOf Try.prog 4) h0) e t h = Jk4_10 rc md h0 e (t 6) (t 187) (t 188) (t 189) h := by cases e <;> kernel_rfl
/-- a round -/
noncomputable def Jr4_10 (rc : Rec) (md : Md) (s6 : Value) (s187 : Value) (s188 : Value) (s189 : Value) (h : Heap) : Option (((Value × Value × Value × Value) × Heap) ⊕ (Exit × (Value × Value × Value × Value) × Heap)) :=
  aBin Try.prog .lss 3 s189 s188 fun v1 =>
  cBn v1 fun b2 =>
  bif b2 then
    ixSV 1 s187 s189 fun v3 =>
    ld1 v3 h fun v4 =>
    cIn .i64 v4 fun n5 =>
    bif (n5 != 1) then
      some (.inr (.ret, ((.bool false), s187, s188, s189), h))
    else
      aBin Try.prog .add 3 s189 (.int .i64 1) fun v6 =>
      some (.inl ((s6, s187, s188, v6), h))
  else
    some (.inr ((.exit 14), (s6, s187, s188, s189), h))
theorem Jr4_10_at (rc : Rec) (md : Md) (t : T) (h : Heap) : exec Try.prog cfg rc md 197 (sub (bodyOf Try.prog 4) [1, 1, 1, 1, 1, 1, 1, 1, 1, 1, 1, 0, 1, 0, 0]) (rndK (fun t => (t 6, t 187, t 188, t 189))) t h = Jr4_10 rc md (t 6) (t 187) (t 188) (t 189) h := by kernel_rfl
noncomputable def J4_10 (rc : Rec) (md : Md) (h0 : Heap) (s6 : Value) (s187 : Value) (s188 : Value) (s189 : Value) (h : Heap) : Option (Value × Heap) :=
  runL (fun x : (Value × Value × Value × Value) × Heap => Jr4_10 rc md x.1.1 x.1.2.1 x.1.2.2.1 x.1.2.2.2 x.2) (fun e (s : Value × Value × Value × Value) h => Jk4_10 rc md h0 e s.1 s.2.1 s.2.2.1 s.2.2.2 h) (s6, s187, s188, s189) h
theorem J4_10_step (rc : Rec) (md : Md) (h0 : Heap) (s6 : Value) (s187 : Value) (s188 : Value) (s189 : Value) (h : Heap) : J4_10 rc md h0 s6 s187 s188 s189 h = (Jr4_10 rc md s6 s187 s188 s189 h).bind fun x => match x with
    | .inl (s, h) => J4_10 rc md h0 s.1 s.2.1 s.2.2.1 s.2.2.2 h
    | .inr (e, s, h) => Jk4_10 rc md h0 e s.1 s.2.1 s.2.2.1 s.2.2.2 h := by
  unfold J4_10
  rw [runL_eq]
  refine congrArg (Option.bind _) (funext fun x => ?_)
  rcases x with ⟨s, h⟩ | ⟨e, s, h⟩ <;> rfl
theorem J4_10_cut (rc : Rec) (md : Md) (h0 : Heap) : cut Try.prog cfg rc md 197 (bodyOf Try.prog 4) [1, 1, 1, 1, 1, 1, 1, 1, 1, 1, 1, 0, 1, 0] (retK Try.prog cfg 4 (rsOf Try.prog 4) h0) = fun t h => J4_10 rc md h0 (t 6) (t 187) (t 188) (t 189) h := by
  funext t h
  have e : sub (bodyOf Try.prog 4) [1, 1, 1, 1, 1, 1, 1, 1, 1, 1, 1, 0, 1, 0] = .loop (sub (bodyOf Try.prog 4) [1, 1, 1, 1, 1, 1, 1, 1, 1, 1, 1, 0, 1, 0, 0]) := by kernel_rfl
  unfold cut
  rw [e]
  exact loop_eq (by kernel_rfl) (fun t => (t 6, t 187, t 188, t 189)) (fun x : (Value × Value × Value × Value) × Heap => Jr4_10 rc md x.1.1 x.1.2.1 x.1.2.2.1 x.1.2.2.2 x.2) (fun t h => Jr4_10_at rc md t h) (fun e (s : Value × Value × Value × Value) h => Jk4_10 rc md h0 e s.1 s.2.1 s.2.2.1 s.2.2.2 h) (fun e t h => Jk4_10_at rc md h0 e t h) t h
noncomputable def J4_9 (rc : Rec) (md : Md) (h0 : Heap) (s6 : Value) (s14 : Value) (h : Heap) : Option (Value × Heap) :=
  lenS s14 fun v1 =>
  cIn .i64 v1 fun n2 =>
  J4_10 rc md h0 s6 s14 (.int .i64 n2) (.int .i64 0) h
noncomputable def J4_9H (rc : Rec) (md : Md) (h0 : Heap) (X5 : T → Heap → Option (Value × Heap)) (t : T) (h : Heap) : Option (Value × Heap) :=
  lenS (t 14) fun v1 =>
  cIn .i64 v1 fun n2 =>
  X5 (upd (upd (upd t 187 (t 14)) 188 (.int .i64 n2)) 189 (.int .i64 0)) h
theorem J4_9_h1 (rc : Rec) (md : Md) (h0 : Heap) (X : Nat → T → Heap → Option (Value × Heap)) (t : T) (h : Heap) : execG Try.prog cfg X rc md 197 (sub (replS (bodyOf Try.prog 4) [([1, 1, 1, 1, 1, 0, 1, 0], 0), ([1, 1, 1, 1, 1, 1, 0, 1, 0], 1), ([1, 1, 1, 1, 1, 1, 1, 0, 1, 0], 2), ([1, 1, 1, 1, 1, 1, 1, 1, 1, 0, 1, 0], 3), ([1, 1, 1, 1, 1, 1, 1, 1, 1, 1, 0, 1, 0], 4), ([1, 1, 1, 1, 1, 1, 1, 1, 1, 1, 1, 0, 1, 0], 5)]) [1, 1, 1, 1, 1, 1, 1, 1, 1, 1, 1]) (kAtG Try.prog cfg X rc md 197 (replS (bodyOf Try.prog 4) [([1, 1, 1, 1, 1, 0, 1, 0], 0), ([1, 1, 1, 1, 1, 1, 0, 1, 0], 1), ([1, 1, 1, 1, 1, 1, 1, 0, 1, 0], 2), ([1, 1, 1, 1, 1, 1, 1, 1, 1, 0, 1, 0], 3), ([1, 1, 1, 1, 1, 1, 1, 1, 1, 1, 0, 1, 0], 4), ([1, 1, 1, 1, 1, 1, 1, 1, 1, 1, 1, 0, 1, 0], 5)]) [1, 1, 1, 1, 1, 1, 1, 1, 1, 1, 1] (retK Try.prog cfg 4 (rsOf Try.prog 4) h0)) t h = J4_9H rc md h0 (X 5) t h := by kernel_rfl
theorem J4_9_h2 (rc : Rec) (md : Md) (h0 : Heap) (t : T) (h : Heap) : J4_9H rc md h0 (fun t h => J4_10 rc md h0 (t 6) (t 187) (t 188) (t 189) h) t h = J4_9 rc md h0 (t 6) (t 14) h := by (unfold J4_9H J4_9; kernel_rfl)
theorem J4_9_at (rc : Rec) (md : Md) (h0 : Heap) (t : T) (h : Heap) : cut Try.prog cfg rc md 197 (bodyOf Try.prog 4) [1, 1, 1, 1, 1, 1, 1, 1, 1, 1, 1] (retK Try.prog cfg 4 (rsOf Try.prog 4) h0) t h = J4_9 rc md h0 (t 6) (t 14) h := by
  rw [cut_holes [([1, 1, 1, 1, 1, 0, 1, 0], 0), ([1, 1, 1, 1, 1, 1, 0, 1, 0], 1), ([1, 1, 1, 1, 1, 1, 1, 0, 1, 0], 2), ([1, 1, 1, 1, 1, 1, 1, 1, 1, 0, 1, 0], 3), ([1, 1, 1, 1, 1, 1, 1, 1, 1, 1, 0, 1, 0], 4), ([1, 1, 1, 1, 1, 1, 1, 1, 1, 1, 1, 0, 1, 0], 5)] [1, 1, 1, 1, 1, 1, 1, 1, 1, 1, 1] (by kernel_rfl), J4_9_h1, show (goX Try.prog cfg rc md 197 (bodyOf Try.prog 4) [([1, 1, 1, 1, 1, 0, 1, 0], 0), ([1, 1, 1, 1, 1, 1, 0, 1, 0], 1), ([1, 1, 1, 1, 1, 1, 1, 0, 1, 0], 2), ([1, 1, 1, 1, 1, 1, 1, 1, 1, 0, 1, 0], 3), ([1, 1, 1, 1, 1, 1, 1, 1, 1, 1, 0, 1, 0], 4), ([1, 1, 1, 1, 1, 1, 1, 1, 1, 1, 1, 0, 1, 0], 5)] (retK Try.prog cfg 4 (rsOf Try.prog 4) h0)) 5 = _ from J4_10_cut rc md h0]
  exact J4_9_h2 rc md h0 t h
theorem J4_9_cut (rc : Rec) (md : Md) (h0 : Heap) : cut Try.prog cfg rc md 197 (bodyOf Try.prog 4) [1, 1, 1, 1, 1, 1, 1, 1, 1, 1, 1] (retK Try.prog cfg 4 (rsOf Try.prog 4) h0) = fun t h => J4_9 rc md h0 (t 6) (t 14) h := funext fun t => funext fun h => J4_9_at rc md h0 t h
noncomputable def Jk4_8 (rc : Rec) (md : Md) (h0 : Heap) (e : Exit) (s6 : Value) (s14 : Value) (s164 : Value) (s165 : Value) (s166 : Value) (h : Heap) : Option (Value × Heap) :=
  match e with
  | .normal =>
    J4_9 rc md h0 s6 s14 h
  | .exit j =>
    bif Nat.beq j 10 then
      J4_9 rc md h0 s6 s14 h
    else
      none
  | .ret =>
    fin1 h0 s6 h
  | .goto l => none
  | .panic ps => none
  | .outgrown => none
noncomputable def Jk4_8H (rc : Rec) (md : Md) (h0 : Heap) (X6 : T → Heap → Option (Value × Heap)) (e : Exit) (t : T) (h : Heap) : Option (Value × Heap) :=
  match e with
  | .normal =>
    X6 t h
  | .exit j =>
    bif Nat.beq j 10 then
      X6 t h
    else
      none
  | .ret =>
    fin1 h0 (t 6) h
  | .goto l => none
  | .panic ps => none
  | .outgrown => none
theorem Jk4_8_h1 (rc : Rec) (md : Md) (h0 : Heap) (X : Nat → T → Heap → Option (Value × Heap)) (e : Exit) (t : T) (h : Heap) : kAtG Try.prog cfg X rc md 197 (replS (bodyOf Try.prog 4) [([1, 1, 1, 1, 1, 0, 1, 0], 0), ([1, 1, 1, 1, 1, 1, 0, 1, 0], 1), ([1, 1, 1, 1, 1, 1, 1, 0, 1, 0], 2), ([1, 1, 1, 1, 1, 1, 1, 1, 1, 0, 1, 0], 3), ([1, 1, 1, 1, 1, 1, 1, 1, 1, 1, 1, 0, 1, 0], 5), ([1, 1, 1, 1, 1, 1, 1, 1, 1, 1, 1], 6)]) [1, 1, 1, 1, 1, 1, 1, 1, 1, 1, 0, 1, 0] (retK Try.prog cfg 4 (rsOf Try.prog 4) h0) e t h = Jk4_8H rc md h0 (X 6) e t h := by cases e <;> kernel_rfl
theorem Jk4_8_h2 (rc : Rec) (md : Md) (h0 : Heap) (e : Exit) (t : T) (h : Heap) : Jk4_8H rc md h0 (fun t h => J4_9 rc md h0 (t 6) (t 14) h) e t h = Jk4_8 rc md h0 e (t 6) (t 14) (t 164) (t 165) (t 166) h := by cases e <;> (unfold Jk4_8H Jk4_8; kernel_rfl)
theorem Jk4_8_at (rc : Rec) (md : Md) (h0 : Heap) (e : Exit) (t : T) (h : Heap) : kAt Try.prog cfg rc md 197 (bodyOf Try.prog 4) [1, 1, 1, 1, 1, 1, 1, 1, 1, 1, 0, 1, 0] (retK Try.prog cfg 4 (rsOf Try.prog 4) h0) e t h = Jk4_8 rc md h0 e (t 6) (t 14) (t 164) (t 165) (t 166) h := by
  rw [kAt_holes [([1, 1, 1, 1, 1, 0, 1, 0], 0), ([1, 1, 1, 1, 1, 1, 0, 1, 0], 1), ([1, 1, 1, 1, 1, 1, 1, 0, 1, 0], 2), ([1, 1, 1, 1, 1, 1, 1, 1, 1, 0, 1, 0], 3), ([1, 1, 1, 1, 1, 1, 1, 1, 1, 1, 1, 0, 1, 0], 5), ([1, 1, 1, 1, 1, 1, 1, 1, 1, 1, 1], 6)] [1, 1, 1, 1, 1, 1, 1, 1, 1, 1, 0, 1, 0] (by kernel_rfl), Jk4_8_h1, show (goX Try.prog cfg rc md 197 (bodyOf Try.prog 4) [([1, 1, 1, 1, 1, 0, 1, 0], 0), ([1, 1, 1, 1, 1, 1, 0, 1, 0], 1), ([1, 1, 1, 1, 1, 1, 1, 0, 1, 0], 2), ([1, 1, 1, 1, 1, 1, 1, 1, 1, 0, 1, 0], 3), ([1, 1, 1, 1, 1, 1, 1, 1, 1, 1, 1, 0, 1, 0], 5), ([1, 1, 1, 1, 1, 1, 1, 1, 1, 1, 1], 6)] (retK Try.prog cfg 4 (rsOf Try.prog 4) h0)) 6 = _ from J4_9_cut rc md h0]
  exact Jk4_8_h2 rc md h0 e t h
noncomputable def Jk4_8b0 (rc : Rec) (md : Md) (e : Exit) (s6 : Value) (s14 : Value) (s164 : Value) (s165 : Value) (s166 : Value) (s173 : Value) (s174 : Value) (s175 : Value) (h : Heap) : Option (((Value × Value × Value × Value × Value) × Heap) ⊕ (Exit × (Value × Value × Value × Value × Value) × Heap)) :=
  match e with
  | .normal =>
    aBin Try.prog .add 3 s166 (.int .i64 1) fun v1 =>
    some (.inl ((s6, s14, s164, s165, v1), h))
  | .exit j =>
    bif Nat.beq j 12 then
      aBin Try.prog .add 3 s166 (.int .i64 1) fun v2 =>
      some (.inl ((s6, s14, s164, s165, v2), h))
    else
      bif Nat.beq j 11 then
        aBin Try.prog .add 3 s166 (.int .i64 1) fun v3 =>
        some (.inl ((s6, s14, s164, s165, v3), h))
      else
        some (.inr ((.exit j), (s6, s14, s164, s165, s166), h))
  | .ret =>
    some (.inr (.ret, (s6, s14, s164, s165, s166), h))
  | .goto l => some (.inr ((.goto l), (s6, s14, s164, s165, s166), h))
  | .panic ps => some (.inr ((.panic ps), (s6, s14, s164, s165, s166), h))
  | .outgrown => some (.inr (.outgrown, (s6, s14, s164, s165, s166), h))
theorem Jk4_8b0_at (rc : Rec) (md : Md) (e : Exit) (t : T) (h : Heap) : kAt Try.prog cfg rc md 197 (sub (bodyOf Try.prog 4) [1, 1, 1, 1, 1, 1, 1, 1, 1, 1, 0, 1, 0, 0]) [1, 1, 0, 0, 1, 1, 0] (rndK (fun t => (t 6, t 14, t 164, t 165, t 166))) e t h = Jk4_8b0 rc md e (t 6) (t 14) (t 164) (t 165) (t 166) (t 173) (t 174) (t 175) h := by cases e <;> kernel_rfl
/-- a round -/
noncomputable def Jr4_8b0 (rc : Rec) (md : Md) (s6 : Value) (s14 : Value) (s164 : Value) (s165 : Value) (s166 : Value) (s173 : Value) (s174 : Value) (s175 : Value) (h : Heap) : Option (((Value × Value × Value × Value × Value × Value × Value × Value) × Heap) ⊕ (Exit × (Value × Value × Value × Value × Value × Value × Value × Value) × Heap)) :=
  aBin Try.prog .lss 3 s175 s174 fun v1 =>
  cBn v1 fun b2 =>
  bif b2 then
    ixSV 1 s173 s175 fun v3 =>
    ld1 v3 h fun v4 =>
    cIn .i64 v4 fun n5 =>
    ixS 1 s14 n5 fun v6 =>
    ld1 v6 h fun v7 =>
    cIn .i64 v7 fun n8 =>
    ixS 1 s14 n5 fun v9 =>
    st md 1 v9 (.int .i64 (IntKind.wrap .i64 (n8 + 1))) h fun h10 =>
    aBin Try.prog .add 3 s175 (.int .i64 1) fun v11 =>
    some (.inl ((s6, s14, s164, s165, s166, s173, s174, v11), h10))
  else
    some (.inr ((.exit 12), (s6, s14, s164, s165, s166, s173, s174, s175), h))
theorem Jr4_8b0_at (rc : Rec) (md : Md) (t : T) (h : Heap) : exec Try.prog cfg rc md 197 (sub (bodyOf Try.prog 4) [1, 1, 1, 1, 1, 1, 1, 1, 1, 1, 0, 1, 0, 0, 1, 1, 0, 0, 1, 1, 0, 0]) (rndK (fun t => (t 6, t 14, t 164, t 165, t 166, t 173, t 174, t 175))) t h = Jr4_8b0 rc md (t 6) (t 14) (t 164) (t 165) (t 166) (t 173) (t 174) (t 175) h := by kernel_rfl
noncomputable def J4_8b0 (rc : Rec) (md : Md) (s6 : Value) (s14 : Value) (s164 : Value) (s165 : Value) (s166 : Value) (s173 : Value) (s174 : Value) (s175 : Value) (h : Heap) : Option (((Value × Value × Value × Value × Value) × Heap) ⊕ (Exit × (Value × Value × Value × Value × Value) × Heap)) :=
  runL (fun x : (Value × Value × Value × Value × Value × Value × Value × Value) × Heap => Jr4_8b0 rc md x.1.1 x.1.2.1 x.1.2.2.1 x.1.2.2.2.1 x.1.2.2.2.2.1 x.1.2.2.2.2.2.1 x.1.2.2.2.2.2.2.1 x.1.2.2.2.2.2.2.2 x.2) (fun e (s : Value × Value × Value × Value × Value × Value × Value × Value) h => Jk4_8b0 rc md e s.1 s.2.1 s.2.2.1 s.2.2.2.1 s.2.2.2.2.1 s.2.2.2.2.2.1 s.2.2.2.2.2.2.1 s.2.2.2.2.2.2.2 h) (s6, s14, s164, s165, s166, s173, s174, s175) h
theorem J4_8b0_step (rc : Rec) (md : Md) (s6 : Value) (s14 : Value) (s164 : Value) (s165 : Value) (s166 : Value) (s173 : Value) (s174 : Value) (s175 : Value) (h : Heap) : J4_8b0 rc md s6 s14 s164 s165 s166 s173 s174 s175 h = (Jr4_8b0 rc md s6 s14 s164 s165 s166 s173 s174 s175 h).bind fun x => match x with
    | .inl (s, h) => J4_8b0 rc md s.1 s.2.1 s.2.2.1 s.2.2.2.1 s.2.2.2.2.1 s.2.2.2.2.2.1 s.2.2.2.2.2.2.1 s.2.2.2.2.2.2.2 h
    | .inr (e, s, h) => Jk4_8b0 rc md e s.1 s.2.1 s.2.2.1 s.2.2.2.1 s.2.2.2.2.1 s.2.2.2.2.2.1 s.2.2.2.2.2.2.1 s.2.2.2.2.2.2.2 h := by
  unfold J4_8b0
  rw [runL_eq]
  refine congrArg (Option.bind _) (funext fun x => ?_)
  rcases x with ⟨s, h⟩ | ⟨e, s, h⟩ <;> rfl
theorem J4_8b0_cut (rc : Rec) (md : Md) : cut Try.prog cfg rc md 197 (sub (bodyOf Try.prog 4) [1, 1, 1, 1, 1, 1, 1, 1, 1, 1, 0, 1, 0, 0]) [1, 1, 0, 0, 1, 1, 0] (rndK (fun t => (t 6, t 14, t 164, t 165, t 166))) = fun t h => J4_8b0 rc md (t 6) (t 14) (t 164) (t 165) (t 166) (t 173) (t 174) (t 175) h := by
  funext t h
  have e : sub (sub (bodyOf Try.prog 4) [1, 1, 1, 1, 1, 1, 1, 1, 1, 1, 0, 1, 0, 0]) [1, 1, 0, 0, 1, 1, 0] = .loop (sub (bodyOf Try.prog 4) [1, 1, 1, 1, 1, 1, 1, 1, 1, 1, 0, 1, 0, 0, 1, 1, 0, 0, 1, 1, 0, 0]) := by kernel_rfl
  unfold cut
  rw [e]
  exact loop_eq (by kernel_rfl) (fun t => (t 6, t 14, t 164, t 165, t 166, t 173, t 174, t 175)) (fun x : (Value × Value × Value × Value × Value × Value × Value × Value) × Heap => Jr4_8b0 rc md x.1.1 x.1.2.1 x.1.2.2.1 x.1.2.2.2.1 x.1.2.2.2.2.1 x.1.2.2.2.2.2.1 x.1.2.2.2.2.2.2.1 x.1.2.2.2.2.2.2.2 x.2) (fun t h => Jr4_8b0_at rc md t h) (fun e (s : Value × Value × Value × Value × Value × Value × Value × Value) h => Jk4_8b0 rc md e s.1 s.2.1 s.2.2.1 s.2.2.2.1 s.2.2.2.2.1 s.2.2.2.2.2.1 s.2.2.2.2.2.2.1 s.2.2.2.2.2.2.2 h) (fun e t h => Jk4_8b0_at rc md e t h) t h
/-- a round -/
noncomputable def Jr4_8 (rc : Rec) (md : Md) (s6 : Value) (s14 : Value) (s164 : Value) (s165 : Value) (s166 : Value) (h : Heap) : Option (((Value × Value × Value × Value × Value) × Heap) ⊕ (Exit × (Value × Value × Value × Value × Value) × Heap)) :=
  aBin Try.prog .lss 3 s166 s165 fun v1 =>
  cBn v1 fun b2 =>
  bif b2 then
    ixSV 1 s164 s166 fun v3 =>
    ld1 v3 h fun v4 =>
    bif okNil Try.prog v4 then
    fA 2 v4 fun v5 =>
    ld1 v5 h fun v6 =>
    lenS v6 fun v7 =>
    cIn .i64 v7 fun n8 =>
    J4_8b0 rc md s6 s14 s164 s165 s166 v6 (.int .i64 n8) (.int .i64 0) h
    else none
  else
    some (.inr ((.exit 10), (s6, s14, s164, s165, s166), h))
noncomputable def Jr4_8H (rc : Rec) (md : Md) (X0 : T → Heap → Option (((Value × Value × Value × Value × Value) × Heap) ⊕ (Exit × (Value × Value × Value × Value × Value) × Heap))) (t : T) (h : Heap) : Option (((Value × Value × Value × Value × Value) × Heap) ⊕ (Exit × (Value × Value × Value × Value × Value) × Heap)) :=
  aBin Try.prog .lss 3 (t 166) (t 165) fun v1 =>
  cBn v1 fun b2 =>
  bif b2 then
    ixSV 1 (t 164) (t 166) fun v3 =>
    ld1 v3 h fun v4 =>
    bif okNil Try.prog v4 then
    fA 2 v4 fun v5 =>
    ld1 v5 h fun v6 =>
    lenS v6 fun v7 =>
    cIn .i64 v7 fun n8 =>
    X0 (upd (upd (upd (upd (upd (upd (upd (upd (upd (upd t 167 v1) 168 v3) 169 v4) 18 v4) 170 v4) 171 v4) 172 v5) 173 v6) 174 (.int .i64 n8)) 175 (.int .i64 0)) h
    else none
  else
    some (.inr ((.exit 10), ((t 6), (t 14), (t 164), (t 165), (t 166)), h))
theorem Jr4_8_h1 (rc : Rec) (md : Md) (X : Nat → T → Heap → Option (((Value × Value × Value × Value × Value) × Heap) ⊕ (Exit × (Value × Value × Value × Value × Value) × Heap))) (t : T) (h : Heap) : execG Try.prog cfg X rc md 197 (replS (sub (bodyOf Try.prog 4) [1, 1, 1, 1, 1, 1, 1, 1, 1, 1, 0, 1, 0, 0]) [([1, 1, 0, 0, 1, 1, 0], 0)]) (rndK (fun t => (t 6, t 14, t 164, t 165, t 166))) t h = Jr4_8H rc md (X 0) t h := by kernel_rfl
theorem Jr4_8_h2 (rc : Rec) (md : Md) (t : T) (h : Heap) : Jr4_8H rc md (fun t h => J4_8b0 rc md (t 6) (t 14) (t 164) (t 165) (t 166) (t 173) (t 174) (t 175) h) t h = Jr4_8 rc md (t 6) (t 14) (t 164) (t 165) (t 166) h := by unfold Jr4_8H Jr4_8; kernel_rfl
theorem Jr4_8_at (rc : Rec) (md : Md) (t : T) (h : Heap) : exec Try.prog cfg rc md 197 (sub (bodyOf Try.prog 4) [1, 1, 1, 1, 1, 1, 1, 1, 1, 1, 0, 1, 0, 0]) (rndK (fun t => (t 6, t 14, t 164, t 165, t 166))) t h = Jr4_8 rc md (t 6) (t 14) (t 164) (t 165) (t 166) h := by
  rw [exec_holes [([1, 1, 0, 0, 1, 1, 0], 0)] (by kernel_rfl), Jr4_8_h1, show (goX Try.prog cfg rc md 197 (sub (bodyOf Try.prog 4) [1, 1, 1, 1, 1, 1, 1, 1, 1, 1, 0, 1, 0, 0]) [([1, 1, 0, 0, 1, 1, 0], 0)] (rndK (fun t => (t 6, t 14, t 164, t 165, t 166)))) 0 = _ from J4_8b0_cut rc md]
  exact Jr4_8_h2 rc md t h
noncomputable def J4_8 (rc : Rec) (md : Md) (h0 : Heap) (s6 : Value) (s14 : Value) (s164 : Value) (s165 : Value) (s166 : Value) (h : Heap) : Option (Value × Heap) :=
  runL (fun x : (Value × Value × Value × Value × Value) × Heap => Jr4_8 rc md x.1.1 x.1.2.1 x.1.2.2.1 x.1.2.2.2.1 x.1.2.2.2.2 x.2) (fun e (s : Value × Value × Value × Value × Value) h => Jk4_8 rc md h0 e s.1 s.2.1 s.2.2.1 s.2.2.2.1 s.2.2.2.2 h) (s6, s14, s164, s165, s166) h
theorem J4_8_step (rc : Rec) (md : Md) (h0 : Heap) (s6 : Value) (s14 : Value) (s164 : Value) (s165 : Value) (s166 : Value) (h : Heap) : J4_8 rc md h0 s6 s14 s164 s165 s166 h = (Jr4_8 rc md s6 s14 s164 s165 s166 h).bind fun x => match x with
    | .inl (s, h) => J4_8 rc md h0 s.1 s.2.1 s.2.2.1 s.2.2.2.1 s.2.2.2.2 h
    | .inr (e, s, h) => Jk4_8 rc md h0 e s.1 s.2.1 s.2.2.1 s.2.2.2.1 s.2.2.2.2 h := by
  unfold J4_8
  rw [runL_eq]
  refine congrArg (Option.bind _) (funext fun x => ?_)
  rcases x with ⟨s, h⟩ | ⟨e, s, h⟩ <;> rfl
theorem J4_8_cut (rc : Rec) (md : Md) (h0 : Heap) : cut Try.prog cfg rc md 197 (bodyOf Try.prog 4) [1, 1, 1, 1, 1, 1, 1, 1, 1, 1, 0, 1, 0] (retK Try.prog cfg 4 (rsOf Try.prog 4) h0) = fun t h => J4_8 rc md h0 (t 6) (t 14) (t 164) (t 165) (t 166) h := by
  funext t h
  have e : sub (bodyOf Try.prog 4) [1, 1, 1, 1, 1, 1, 1, 1, 1, 1, 0, 1, 0] = .loop (sub (bodyOf Try.prog 4) [1, 1, 1, 1, 1, 1, 1, 1, 1, 1, 0, 1, 0, 0]) := by kernel_rfl
  unfold cut
  rw [e]
  exact loop_eq (by kernel_rfl) (fun t => (t 6, t 14, t 164, t 165, t 166)) (fun x : (Value × Value × Value × Value × Value) × Heap => Jr4_8 rc md x.1.1 x.1.2.1 x.1.2.2.1 x.1.2.2.2.1 x.1.2.2.2.2 x.2) (fun t h => Jr4_8_at rc md t h) (fun e (s : Value × Value × Value × Value × Value) h => Jk4_8 rc md h0 e s.1 s.2.1 s.2.2.1 s.2.2.2.1 s.2.2.2.2 h) (fun e t h => Jk4_8_at rc md h0 e t h) t h
noncomputable def J4_7 (rc : Rec) (md : Md) (h0 : Heap) (s6 : Value) (s8 : Value) (s14 : Value) (h : Heap) : Option (Value × Heap) :=
  bif okNil Try.prog s8 then
  fA 4 s8 fun v1 =>
  ld1 v1 h fun v2 =>
  lenS v2 fun v3 =>
  cIn .i64 v3 fun n4 =>
  J4_8 rc md h0 s6 s14 v2 (.int .i64 n4) (.int .i64 0) h
  else none
noncomputable def J4_7H (rc : Rec) (md : Md) (h0 : Heap) (X4 : T → Heap → Option (Value × Heap)) (t : T) (h : Heap) : Option (Value × Heap) :=
  bif okNil Try.prog (t 8) then
  fA 4 (t 8) fun v1 =>
  ld1 v1 h fun v2 =>
  lenS v2 fun v3 =>
  cIn .i64 v3 fun n4 =>
  X4 (upd (upd (upd (upd (upd (upd t 161 (t 8)) 162 (t 8)) 163 v1) 164 v2) 165 (.int .i64 n4)) 166 (.int .i64 0)) h
  else none
theorem J4_7_h1 (rc : Rec) (md : Md) (h0 : Heap) (X : Nat → T → Heap → Option (Value × Heap)) (t : T) (h : Heap) : execG Try.prog cfg X rc md 197 (sub (replS (bodyOf Try.prog 4) [([1, 1, 1, 1, 1, 0, 1, 0], 0), ([1, 1, 1, 1, 1, 1, 0, 1, 0], 1), ([1, 1, 1, 1, 1, 1, 1, 0, 1, 0], 2), ([1, 1, 1, 1, 1, 1, 1, 1, 1, 0, 1, 0], 3), ([1, 1, 1, 1, 1, 1, 1, 1, 1, 1, 0, 1, 0], 4), ([1, 1, 1, 1, 1, 1, 1, 1, 1, 1, 1, 0, 1, 0], 5), ([1, 1, 1, 1, 1, 1, 1, 1, 1, 1, 1], 6)]) [1, 1, 1, 1, 1, 1, 1, 1, 1, 1]) (kAtG Try.prog cfg X rc md 197 (replS (bodyOf Try.prog 4) [([1, 1, 1, 1, 1, 0, 1, 0], 0), ([1, 1, 1, 1, 1, 1, 0, 1, 0], 1), ([1, 1, 1, 1, 1, 1, 1, 0, 1, 0], 2), ([1, 1, 1, 1, 1, 1, 1, 1, 1, 0, 1, 0], 3), ([1, 1, 1, 1, 1, 1, 1, 1, 1, 1, 0, 1, 0], 4), ([1, 1, 1, 1, 1, 1, 1, 1, 1, 1, 1, 0, 1, 0], 5), ([1, 1, 1, 1, 1, 1, 1, 1, 1, 1, 1], 6)]) [1, 1, 1, 1, 1, 1, 1, 1, 1, 1] (retK Try.prog cfg 4 (rsOf Try.prog 4) h0)) t h = J4_7H rc md h0 (X 4) t h := by kernel_rfl
theorem J4_7_h2 (rc : Rec) (md : Md) (h0 : Heap) (t : T) (h : Heap) : J4_7H rc md h0 (fun t h => J4_8 rc md h0 (t 6) (t 14) (t 164) (t 165) (t 166) h) t h = J4_7 rc md h0 (t 6) (t 8) (t 14) h := by (unfold J4_7H J4_7; kernel_rfl)
theorem J4_7_at (rc : Rec) (md : Md) (h0 : Heap) (t : T) (h : Heap) : cut Try.prog cfg rc md 197 (bodyOf Try.prog 4) [1, 1, 1, 1, 1, 1, 1, 1, 1, 1] (retK Try.prog cfg 4 (rsOf Try.prog 4) h0) t h = J4_7 rc md h0 (t 6) (t 8) (t 14) h := by
  rw [cut_holes [([1, 1, 1, 1, 1, 0, 1, 0], 0), ([1, 1, 1, 1, 1, 1, 0, 1, 0], 1), ([1, 1, 1, 1, 1, 1, 1, 0, 1, 0], 2), ([1, 1, 1, 1, 1, 1, 1, 1, 1, 0, 1, 0], 3), ([1, 1, 1, 1, 1, 1, 1, 1, 1, 1, 0, 1, 0], 4), ([1, 1, 1, 1, 1, 1, 1, 1, 1, 1, 1, 0, 1, 0], 5), ([1, 1, 1, 1, 1, 1, 1, 1, 1, 1, 1], 6)] [1, 1, 1, 1, 1, 1, 1, 1, 1, 1] (by kernel_rfl), J4_7_h1, show (goX Try.prog cfg rc md 197 (bodyOf Try.prog 4) [([1, 1, 1, 1, 1, 0, 1, 0], 0), ([1, 1, 1, 1, 1, 1, 0, 1, 0], 1), ([1, 1, 1, 1, 1, 1, 1, 0, 1, 0], 2), ([1, 1, 1, 1, 1, 1, 1, 1, 1, 0, 1, 0], 3), ([1, 1, 1, 1, 1, 1, 1, 1, 1, 1, 0, 1, 0], 4), ([1, 1, 1, 1, 1, 1, 1, 1, 1, 1, 1, 0, 1, 0], 5), ([1, 1, 1, 1, 1, 1, 1, 1, 1, 1, 1], 6)] (retK Try.prog cfg 4 (rsOf Try.prog 4) h0)) 4 = _ from J4_8_cut rc md h0]
  exact J4_7_h2 rc md h0 t h
theorem J4_7_cut (rc : Rec) (md : Md) (h0 : Heap) : cut Try.prog cfg rc md 197 (bodyOf Try.prog 4) [1, 1, 1, 1, 1, 1, 1, 1, 1, 1] (retK Try.prog cfg 4 (rsOf Try.prog 4) h0) = fun t h => J4_7 rc md h0 (t 6) (t 8) (t 14) h := funext fun t => funext fun h => J4_7_at rc md h0 t h
noncomputable def Jk4_6 (rc : Rec) (md : Md) (h0 : Heap) (e : Exit) (s6 : Value) (s8 : Value) (s14 : Value) (s148 : Value) (s149 : Value) (s150 : Value) (h : Heap) : Option (Value × Heap) :=
  match e with
  | .normal =>
    J4_7 rc md h0 s6 s8 s14 h
  | .exit j =>
    bif Nat.beq j 8 then
      J4_7 rc md h0 s6 s8 s14 h
    else
      none
  | .ret =>
    fin1 h0 s6 h
  | .goto l => none
  | .panic ps => none
  | .outgrown => none
noncomputable def Jk4_6H (rc : Rec) (md : Md) (h0 : Heap) (X7 : T → Heap → Option (Value × Heap)) (e : Exit) (t : T) (h : Heap) : Option (Value × Heap) :=
  match e with
  | .normal =>
    X7 t h
  | .exit j =>
    bif Nat.beq j 8 then
      X7 t h
    else
      none
  | .ret =>
    fin1 h0 (t 6) h
  | .goto l => none
  | .panic ps => none
  | .outgrown => none
theorem Jk4_6_h1 (rc : Rec) (md : Md) (h0 : Heap) (X : Nat → T → Heap → Option (Value × Heap)) (e : Exit) (t : T) (h : Heap) : kAtG Try.prog cfg X rc md 197 (replS (bodyOf Try.prog 4) [([1, 1, 1, 1, 1, 0, 1, 0], 0), ([1, 1, 1, 1, 1, 1, 0, 1, 0], 1), ([1, 1, 1, 1, 1, 1, 1, 0, 1, 0], 2), ([1, 1, 1, 1, 1, 1, 1, 1, 1, 1, 0, 1, 0], 4), ([1, 1, 1, 1, 1, 1, 1, 1, 1, 1, 1, 0, 1, 0], 5), ([1, 1, 1, 1, 1, 1, 1, 1, 1, 1, 1], 6), ([1, 1, 1, 1, 1, 1, 1, 1, 1, 1], 7)]) [1, 1, 1, 1, 1, 1, 1, 1, 1, 0, 1, 0] (retK Try.prog cfg 4 (rsOf Try.prog 4) h0) e t h = Jk4_6H rc md h0 (X 7) e t h := by cases e <;> kernel_rfl
theorem Jk4_6_h2 (rc : Rec) (md : Md) (h0 : Heap) (e : Exit) (t : T) (h : Heap) : Jk4_6H rc md h0 (fun t h => J4_7 rc md h0 (t 6) (t 8) (t 14) h) e t h = Jk4_6 rc md h0 e (t 6) (t 8) (t 14) (t 148) (t 149) (t 150) h := by cases e <;> (unfold Jk4_6H Jk4_6; kernel_rfl)
theorem Jk4_6_at (rc : Rec) (md : Md) (h0 : Heap) (e : Exit) (t : T) (h : Heap) : kAt Try.prog cfg rc md 197 (bodyOf Try.prog 4) [1, 1, 1, 1, 1, 1, 1, 1, 1, 0, 1, 0] (retK Try.prog cfg 4 (rsOf Try.prog 4) h0) e t h = Jk4_6 rc md h0 e (t 6) (t 8) (t 14) (t 148) (t 149) (t 150) h := by
  rw [kAt_holes [([1, 1, 1, 1, 1, 0, 1, 0], 0), ([1, 1, 1, 1, 1, 1, 0, 1, 0], 1), ([1, 1, 1, 1, 1, 1, 1, 0, 1, 0], 2), ([1, 1, 1, 1, 1, 1, 1, 1, 1, 1, 0, 1, 0], 4), ([1, 1, 1, 1, 1, 1, 1, 1, 1, 1, 1, 0, 1, 0], 5), ([1, 1, 1, 1, 1, 1, 1, 1, 1, 1, 1], 6), ([1, 1, 1, 1, 1, 1, 1, 1, 1, 1], 7)] [1, 1, 1, 1, 1, 1, 1, 1, 1, 0, 1, 0] (by kernel_rfl), Jk4_6_h1, show (goX Try.prog cfg rc md 197 (bodyOf Try.prog 4) [([1, 1, 1, 1, 1, 0, 1, 0], 0), ([1, 1, 1, 1, 1, 1, 0, 1, 0], 1), ([1, 1, 1, 1, 1, 1, 1, 0, 1, 0], 2), ([1, 1, 1, 1, 1, 1, 1, 1, 1, 1, 0, 1, 0], 4), ([1, 1, 1, 1, 1, 1, 1, 1, 1, 1, 1, 0, 1, 0], 5), ([1, 1, 1, 1, 1, 1, 1, 1, 1, 1, 1], 6), ([1, 1, 1, 1, 1, 1, 1, 1, 1, 1], 7)] (retK Try.prog cfg 4 (rsOf Try.prog 4) h0)) 7 = _ from J4_7_cut rc md h0]
  exact Jk4_6_h2 rc md h0 e t h
/-- a round -/
noncomputable def Jr4_6 (rc : Rec) (md : Md) (s6 : Value) (s8 : Value) (s14 : Value) (s148 : Value) (s149 : Value) (s150 : Value) (h : Heap) : Option (((Value × Value × Value × Value × Value × Value) × Heap) ⊕ (Exit × (Value × Value × Value × Value × Value × Value) × Heap)) :=
  aBin Try.prog .lss 3 s150 s149 fun v1 =>
  cBn v1 fun b2 =>
  bif b2 then
    ixSV 1 s148 s150 fun v3 =>
    ld1 v3 h fun v4 =>
    cIn .i64 v4 fun n5 =>
    ixS 1 s14 n5 fun v6 =>
    ld1 v6 h fun v7 =>
    cIn .i64 v7 fun n8 =>
    ixS 1 s14 n5 fun v9 =>
    st md 1 v9 (.int .i64 (IntKind.wrap .i64 (n8 + 1))) h fun h10 =>
    aBin Try.prog .add 3 s150 (.int .i64 1) fun v11 =>
    some (.inl ((s6, s8, s14, s148, s149, v11), h10))
  else
    some (.inr ((.exit 8), (s6, s8, s14, s148, s149, s150), h))
theorem Jr4_6_at (rc : Rec) (md : Md) (t : T) (h : Heap) : exec Try.prog cfg rc md 197 (sub (bodyOf Try.prog 4) [1, 1, 1, 1, 1, 1, 1, 1, 1, 0, 1, 0, 0]) (rndK (fun t => (t 6, t 8, t 14, t 148, t 149, t 150))) t h = Jr4_6 rc md (t 6) (t 8) (t 14) (t 148) (t 149) (t 150) h := by kernel_rfl
noncomputable def J4_6 (rc : Rec) (md : Md) (h0 : Heap) (s6 : Value) (s8 : Value) (s14 : Value) (s148 : Value) (s149 : Value) (s150 : Value) (h : Heap) : Option (Value × Heap) :=
  runL (fun x : (Value × Value × Value × Value × Value × Value) × Heap => Jr4_6 rc md x.1.1 x.1.2.1 x.1.2.2.1 x.1.2.2.2.1 x.1.2.2.2.2.1 x.1.2.2.2.2.2 x.2) (fun e (s : Value × Value × Value × Value × Value × Value) h => Jk4_6 rc md h0 e s.1 s.2.1 s.2.2.1 s.2.2.2.1 s.2.2.2.2.1 s.2.2.2.2.2 h) (s6, s8, s14, s148, s149, s150) h
theorem J4_6_step (rc : Rec) (md : Md) (h0 : Heap) (s6 : Value) (s8 : Value) (s14 : Value) (s148 : Value) (s149 : Value) (s150 : Value) (h : Heap) : J4_6 rc md h0 s6 s8 s14 s148 s149 s150 h = (Jr4_6 rc md s6 s8 s14 s148 s149 s150 h).bind fun x => match x with
    | .inl (s, h) => J4_6 rc md h0 s.1 s.2.1 s.2.2.1 s.2.2.2.1 s.2.2.2.2.1 s.2.2.2.2.2 h
    | .inr (e, s, h) => Jk4_6 rc md h0 e s.1 s.2.1 s.2.2.1 s.2.2.2.1 s.2.2.2.2.1 s.2.2.2.2.2 h := by
  unfold J4_6
  rw [runL_eq]
  refine congrArg (Option.bind _) (funext fun x => ?_)
  rcases x with ⟨s, h⟩ | ⟨e, s, h⟩ <;> rfl
theorem J4_6_cut (rc : Rec) (md : Md) (h0 : Heap) : cut Try.prog cfg rc md 197 (bodyOf Try.prog 4) [1, 1, 1, 1, 1, 1, 1, 1, 1, 0, 1, 0] (retK Try.prog cfg 4 (rsOf Try.prog 4) h0) = fun t h => J4_6 rc md h0 (t 6) (t 8) (t 14) (t 148) (t 149) (t 150) h := by
  funext t h
  have e : sub (bodyOf Try.prog 4) [1, 1, 1, 1, 1, 1, 1, 1, 1, 0, 1, 0] = .loop (sub (bodyOf Try.prog 4) [1, 1, 1, 1, 1, 1, 1, 1, 1, 0, 1, 0, 0]) := by kernel_rfl
  unfold cut
  rw [e]
  exact loop_eq (by kernel_rfl) (fun t => (t 6, t 8, t 14, t 148, t 149, t 150)) (fun x : (Value × Value × Value × Value × Value × Value) × Heap => Jr4_6 rc md x.1.1 x.1.2.1 x.1.2.2.1 x.1.2.2.2.1 x.1.2.2.2.2.1 x.1.2.2.2.2.2 x.2) (fun t h => Jr4_6_at rc md t h) (fun e (s : Value × Value × Value × Value × Value × Value) h => Jk4_6 rc md h0 e s.1 s.2.1 s.2.2.1 s.2.2.2.1 s.2.2.2.2.1 s.2.2.2.2.2 h) (fun e t h => Jk4_6_at rc md h0 e t h) t h
noncomputable def J4_5 (rc : Rec) (md : Md) (h0 : Heap) (s0 : Value) (s6 : Value) (s7 : Value) (s8 : Value) (h : Heap) : Option (Value × Heap) :=
  aMakeSlice Try.prog 22 s0 s0 h fun v1 h2 =>
  bif okNil Try.prog s8 then
  fA 3 s8 fun v3 =>
  ld1 v3 h2 fun v4 =>
  cl (rc md 19 [v4] h2) fun v5 h6 =>
  ldN 3 s7 h6 fun v7 =>
  cl (rc md 18 [(.iface 31 v5), v7] h6) fun v8 h9 =>
  lenS v8 fun v10 =>
  cIn .i64 v10 fun n11 =>
  J4_6 rc md h0 s6 s8 v1 v8 (.int .i64 n11) (.int .i64 0) h9
  else none
noncomputable def J4_5H (rc : Rec) (md : Md) (h0 : Heap) (X3 : T → Heap → Option (Value × Heap)) (t : T) (h : Heap) : Option (Value × Heap) :=
  aMakeSlice Try.prog 22 (t 0) (t 0) h fun v1 h2 =>
  bif okNil Try.prog (t 8) then
  fA 3 (t 8) fun v3 =>
  ld1 v3 h2 fun v4 =>
  cl (rc md 19 [v4] h2) fun v5 h6 =>
  ldN 3 (t 7) h6 fun v7 =>
  cl (rc md 18 [(.iface 31 v5), v7] h6) fun v8 h9 =>
  lenS v8 fun v10 =>
  cIn .i64 v10 fun n11 =>
  X3 (upd (upd (upd (upd (upd (upd (upd (upd (upd (upd (upd (upd (upd t 139 (t 0)) 140 v1) 14 v1) 141 (t 8)) 142 (t 8)) 143 v3) 144 v4) 145 v5) 146 (.iface 31 v5)) 147 v7) 148 v8) 149 (.int .i64 n11)) 150 (.int .i64 0)) h9
  else none
theorem J4_5_h1 (rc : Rec) (md : Md) (h0 : Heap) (X : Nat → T → Heap → Option (Value × Heap)) (t : T) (h : Heap) : execG Try.prog cfg X rc md 197 (sub (replS (bodyOf Try.prog 4) [([1, 1, 1, 1, 1, 0, 1, 0], 0), ([1, 1, 1, 1, 1, 1, 0, 1, 0], 1), ([1, 1, 1, 1, 1, 1, 1, 0, 1, 0], 2), ([1, 1, 1, 1, 1, 1, 1, 1, 1, 0, 1, 0], 3), ([1, 1, 1, 1, 1, 1, 1, 1, 1, 1, 0, 1, 0], 4), ([1, 1, 1, 1, 1, 1, 1, 1, 1, 1, 1, 0, 1, 0], 5), ([1, 1, 1, 1, 1, 1, 1, 1, 1, 1, 1], 6), ([1, 1, 1, 1, 1, 1, 1, 1, 1, 1], 7)]) [1, 1, 1, 1, 1, 1, 1, 1]) (kAtG Try.prog cfg X rc md 197 (replS (bodyOf Try.prog 4) [([1, 1, 1, 1, 1, 0, 1, 0], 0), ([1, 1, 1, 1, 1, 1, 0, 1, 0], 1), ([1, 1, 1, 1, 1, 1, 1, 0, 1, 0], 2), ([1, 1, 1, 1, 1, 1, 1, 1, 1, 0, 1, 0], 3), ([1, 1, 1, 1, 1, 1, 1, 1, 1, 1, 0, 1, 0], 4), ([1, 1, 1, 1, 1, 1, 1, 1, 1, 1, 1, 0, 1, 0], 5), ([1, 1, 1, 1, 1, 1, 1, 1, 1, 1, 1], 6), ([1, 1, 1, 1, 1, 1, 1, 1, 1, 1], 7)]) [1, 1, 1, 1, 1, 1, 1, 1] (retK Try.prog cfg 4 (rsOf Try.prog 4) h0)) t h = J4_5H rc md h0 (X 3) t h := by kernel_rfl
theorem J4_5_h2 (rc : Rec) (md : Md) (h0 : Heap) (t : T) (h : Heap) : J4_5H rc md h0 (fun t h => J4_6 rc md h0 (t 6) (t 8) (t 14) (t 148) (t 149) (t 150) h) t h = J4_5 rc md h0 (t 0) (t 6) (t 7) (t 8) h := by (unfold J4_5H J4_5; kernel_rfl)
theorem J4_5_at (rc : Rec) (md : Md) (h0 : Heap) (t : T) (h : Heap) : cut Try.prog cfg rc md 197 (bodyOf Try.prog 4) [1, 1, 1, 1, 1, 1, 1, 1] (retK Try.prog cfg 4 (rsOf Try.prog 4) h0) t h = J4_5 rc md h0 (t 0) (t 6) (t 7) (t 8) h := by
  rw [cut_holes [([1, 1, 1, 1, 1, 0, 1, 0], 0), ([1, 1, 1, 1, 1, 1, 0, 1, 0], 1), ([1, 1, 1, 1, 1, 1, 1, 0, 1, 0], 2), ([1, 1, 1, 1, 1, 1, 1, 1, 1, 0, 1, 0], 3), ([1, 1, 1, 1, 1, 1, 1, 1, 1, 1, 0, 1, 0], 4), ([1, 1, 1, 1, 1, 1, 1, 1, 1, 1, 1, 0, 1, 0], 5), ([1, 1, 1, 1, 1, 1, 1, 1, 1, 1, 1], 6), ([1, 1, 1, 1, 1, 1, 1, 1, 1, 1], 7)] [1, 1, 1, 1, 1, 1, 1, 1] (by kernel_rfl), J4_5_h1, show (goX Try.prog cfg rc md 197 (bodyOf Try.prog 4) [([1, 1, 1, 1, 1, 0, 1, 0], 0), ([1, 1, 1, 1, 1, 1, 0, 1, 0], 1), ([1, 1, 1, 1, 1, 1, 1, 0, 1, 0], 2), ([1, 1, 1, 1, 1, 1, 1, 1, 1, 0, 1, 0], 3), ([1, 1, 1, 1, 1, 1, 1, 1, 1, 1, 0, 1, 0], 4), ([1, 1, 1, 1, 1, 1, 1, 1, 1, 1, 1, 0, 1, 0], 5), ([1, 1, 1, 1, 1, 1, 1, 1, 1, 1, 1], 6), ([1, 1, 1, 1, 1, 1, 1, 1, 1, 1], 7)] (retK Try.prog cfg 4 (rsOf Try.prog 4) h0)) 3 = _ from J4_6_cut rc md h0]
  exact J4_5_h2 rc md h0 t h
theorem J4_5_cut (rc : Rec) (md : Md) (h0 : Heap) : cut Try.prog cfg rc md 197 (bodyOf Try.prog 4) [1, 1, 1, 1, 1, 1, 1, 1] (retK Try.prog cfg 4 (rsOf Try.prog 4) h0) = fun t h => J4_5 rc md h0 (t 0) (t 6) (t 7) (t 8) h := funext fun t => funext fun h => J4_5_at rc md h0 t h
noncomputable def Jk4_4 (rc : Rec) (md : Md) (h0 : Heap) (e : Exit) (s0 : Value) (s6 : Value) (s7 : Value) (s8 : Value) (s110 : Value) (s111 : Value) (s112 : Value) (h : Heap) : Option (Value × Heap) :=
  match e with
  | .normal =>
    J4_5 rc md h0 s0 s6 s7 s8 h
  | .exit j =>
    bif Nat.beq j 4 then
      J4_5 rc md h0 s0 s6 s7 s8 h
    else
      none
  | .ret =>
    fin1 h0 s6 h
  | .goto l => none
  | .panic ps => none
  | .outgrown => none
noncomputable def Jk4_4H (rc : Rec) (md : Md) (h0 : Heap) (X8 : T → Heap → Option (Value × Heap)) (e : Exit) (t : T) (h : Heap) : Option (Value × Heap) :=
  match e with
  | .normal =>
    X8 t h
  | .exit j =>
    bif Nat.beq j 4 then
      X8 t h
    else
      none
  | .ret =>
    fin1 h0 (t 6) h
  | .goto l => none
  | .panic ps => none
  | .outgrown => none
theorem Jk4_4_h1 (rc : Rec) (md : Md) (h0 : Heap) (X : Nat → T → Heap → Option (Value × Heap)) (e : Exit) (t : T) (h : Heap) : kAtG Try.prog cfg X rc md 197 (replS (bodyOf Try.prog 4) [([1, 1, 1, 1, 1, 0, 1, 0], 0), ([1, 1, 1, 1, 1, 1, 0, 1, 0], 1), ([1, 1, 1, 1, 1, 1, 1, 1, 1, 0, 1, 0], 3), ([1, 1, 1, 1, 1, 1, 1, 1, 1, 1, 0, 1, 0], 4), ([1, 1, 1, 1, 1, 1, 1, 1, 1, 1, 1, 0, 1, 0], 5), ([1, 1, 1, 1, 1, 1, 1, 1, 1, 1, 1], 6), ([1, 1, 1, 1, 1, 1, 1, 1, 1, 1], 7), ([1, 1, 1, 1, 1, 1, 1, 1], 8)]) [1, 1, 1, 1, 1, 1, 1, 0, 1, 0] (retK Try.prog cfg 4 (rsOf Try.prog 4) h0) e t h = Jk4_4H rc md h0 (X 8) e t h := by cases e <;> kernel_rfl
theorem Jk4_4_h2 (rc : Rec) (md : Md) (h0 : Heap) (e : Exit) (t : T) (h : Heap) : Jk4_4H rc md h0 (fun t h => J4_5 rc md h0 (t 0) (t 6) (t 7) (t 8) h) e t h = Jk4_4 rc md h0 e (t 0) (t 6) (t 7) (t 8) (t 110) (t 111) (t 112) h := by cases e <;> (unfold Jk4_4H Jk4_4; kernel_rfl)
theorem Jk4_4_at (rc : Rec) (md : Md) (h0 : Heap) (e : Exit) (t : T) (h : Heap) : kAt Try.prog cfg rc md 197 (bodyOf Try.prog 4) [1, 1, 1, 1, 1, 1, 1, 0, 1, 0] (retK Try.prog cfg 4 (rsOf Try.prog 4) h0) e t h = Jk4_4 rc md h0 e (t 0) (t 6) (t 7) (t 8) (t 110) (t 111) (t 112) h := by
  rw [kAt_holes [([1, 1, 1, 1, 1, 0, 1, 0], 0), ([1, 1, 1, 1, 1, 1, 0, 1, 0], 1), ([1, 1, 1, 1, 1, 1, 1, 1, 1, 0, 1, 0], 3), ([1, 1, 1, 1, 1, 1, 1, 1, 1, 1, 0, 1, 0], 4), ([1, 1, 1, 1, 1, 1, 1, 1, 1, 1, 1, 0, 1, 0], 5), ([1, 1, 1, 1, 1, 1, 1, 1, 1, 1, 1], 6), ([1, 1, 1, 1, 1, 1, 1, 1, 1, 1], 7), ([1, 1, 1, 1, 1, 1, 1, 1], 8)] [1, 1, 1, 1, 1, 1, 1, 0, 1, 0] (by kernel_rfl), Jk4_4_h1, show (goX Try.prog cfg rc md 197 (bodyOf Try.prog 4) [([1, 1, 1, 1, 1, 0, 1, 0], 0), ([1, 1, 1, 1, 1, 1, 0, 1, 0], 1), ([1, 1, 1, 1, 1, 1, 1, 1, 1, 0, 1, 0], 3), ([1, 1, 1, 1, 1, 1, 1, 1, 1, 1, 0, 1, 0], 4), ([1, 1, 1, 1, 1, 1, 1, 1, 1, 1, 1, 0, 1, 0], 5), ([1, 1, 1, 1, 1, 1, 1, 1, 1, 1, 1], 6), ([1, 1, 1, 1, 1, 1, 1, 1, 1, 1], 7), ([1, 1, 1, 1, 1, 1, 1, 1], 8)] (retK Try.prog cfg 4 (rsOf Try.prog 4) h0)) 8 = _ from J4_5_cut rc md h0]
  exact Jk4_4_h2 rc md h0 e t h
noncomputable def Jk4_4b0 (rc : Rec) (md : Md) (e : Exit) (s0 : Value) (s6 : Value) (s7 : Value) (s8 : Value) (s12 : Value) (s13 : Value) (s110 : Value) (s111 : Value) (s112 : Value) (h : Heap) : Option (((Value × Value × Value × Value × Value × Value × Value) × Heap) ⊕ (Exit × (Value × Value × Value × Value × Value × Value × Value) × Heap)) :=
  match e with
  | .normal =>
    aBin Try.prog .add 3 s112 (.int .i64 1) fun v1 =>
    some (.inl ((s0, s6, s7, s8, s110, s111, v1), h))
  | .exit j =>
    bif Nat.beq j 6 then
      aBin Try.prog .add 3 s112 (.int .i64 1) fun v2 =>
      some (.inl ((s0, s6, s7, s8, s110, s111, v2), h))
    else
      bif Nat.beq j 5 then
        aBin Try.prog .add 3 s112 (.int .i64 1) fun v3 =>
        some (.inl ((s0, s6, s7, s8, s110, s111, v3), h))
      else
        some (.inr ((.exit j), (s0, s6, s7, s8, s110, s111, s112), h))
  | .ret =>
    some (.inr (.ret, (s0, s6, s7, s8, s110, s111, s112), h))
  | .goto l => some (.inr ((.goto l), (s0, s6, s7, s8, s110, s111, s112), h))
  | .panic ps => some (.inr ((.panic ps), (s0, s6, s7, s8, s110, s111, s112), h))
  | .outgrown => some (.inr (.outgrown, (s0, s6, s7, s8, s110, s111, s112), h))
theorem Jk4_4b0_at (rc : Rec) (md : Md) (e : Exit) (t : T) (h : Heap) : kAt Try.prog cfg rc md 197 (sub (bodyOf Try.prog 4) [1, 1, 1, 1, 1, 1, 1, 0, 1, 0, 0]) [1, 1, 0, 0, 1, 1, 0] (rndK (fun t => (t 0, t 6, t 7, t 8, t 110, t 111, t 112))) e t h = Jk4_4b0 rc md e (t 0) (t 6) (t 7) (t 8) (t 12) (t 13) (t 110) (t 111) (t 112) h := by cases e <;> kernel_rfl
/-- a round -/
noncomputable def Jr4_4b0 (rc : Rec) (md : Md) (s0 : Value) (s6 : Value) (s7 : Value) (s8 : Value) (s12 : Value) (s13 : Value) (s110 : Value) (s111 : Value) (s112 : Value) (h : Heap) : Option (((Value × Value × Value × Value × Value × Value × Value × Value × Value) × Heap) ⊕ (Exit × (Value × Value × Value × Value × Value × Value × Value × Value × Value) × Heap)) :=
  bif okNil Try.prog s12 then
  fA 0 s12 fun v1 =>
  ld1 v1 h fun v2 =>
  aBin Try.prog .neq 37 v2 (.pointer none) fun v3 =>
  (bif wantV v3 false then
  some (s12, h)
  else some (undef, h)).bind fun p4 =>
  (bif wantV v3 false then
  bif okNil Try.prog p4.1 then
  some (p4.1, p4.2)
  else none
  else some (undef, p4.2)).bind fun p5 =>
  (bif wantV v3 false then
  fA 1 p5.1 fun v6 =>
  some (v6, p5.2)
  else some (undef, p5.2)).bind fun p7 =>
  (bif wantV v3 false then
  ld1 p7.1 p7.2 fun v8 =>
  some (v8, p7.2)
  else some (undef, p7.2)).bind fun p9 =>
  (bif wantV v3 false then
  aBin Try.prog .neq 33 p9.1 (.pointer none) fun v10 =>
  some (v10, p9.2)
  else some (undef, p9.2)).bind fun p11 =>
  cBn v3 fun q12 =>
  cBn (bif q12 then (.bool true) else p11.1) fun b13 =>
  bif b13 then
    aBin Try.prog .gtr 3 s13 (.int .i64 6) fun v14 =>
    (bif wantV v14 false then
    some (s8, p11.2)
    else some (undef, p11.2)).bind fun p15 =>
    (bif wantV v14 false then
    some (s12, p15.2)
    else some (undef, p15.2)).bind fun p16 =>
    (bif wantV v14 false then
    cl (rc md 27 [p15.1, p16.1, (.bool false)] p16.2) fun v17 h18 =>
    cBn v17 fun b19 =>
    some ((.bool b19), h18)
    else some (undef, p16.2)).bind fun p20 =>
    (bif wantV v14 false then
    aUn .not p20.1 fun v21 =>
    some (v21, p20.2)
    else some (undef, p20.2)).bind fun p22 =>
    cBn v14 fun q23 =>
    cBn (bif q23 then (.bool true) else p22.1) fun b24 =>
    bif b24 then
      some (.inr (.ret, (s0, (.bool false), s7, s8, s12, s13, s110, s111, s112), p22.2))
    else
      aBin Try.prog .add 3 s13 (.int .i64 1) fun v25 =>
      some (.inl ((s0, s6, s7, s8, s12, v25, s110, s111, s112), p22.2))
  else
    some (.inr ((.exit 6), (s0, s6, s7, s8, s12, s13, s110, s111, s112), p11.2))
  else none
theorem Jr4_4b0_at (rc : Rec) (md : Md) (t : T) (h : Heap) : exec Try.prog cfg rc md 197 (sub (bodyOf Try.prog 4) [1, 1, 1, 1, 1, 1, 1, 0, 1, 0, 0, 1, 1, 0, 0, 1, 1, 0, 0]) (rndK (fun t => (t 0, t 6, t 7, t 8, t 12, t 13, t 110, t 111, t 112))) t h = Jr4_4b0 rc md (t 0) (t 6) (t 7) (t 8) (t 12) (t 13) (t 110) (t 111) (t 112) h := by kernel_rfl
noncomputable def J4_4b0 (rc : Rec) (md : Md) (s0 : Value) (s6 : Value) (s7 : Value) (s8 : Value) (s12 : Value) (s13 : Value) (s110 : Value) (s111 : Value) (s112 : Value) (h : Heap) : Option (((Value × Value × Value × Value × Value × Value × Value) × Heap) ⊕ (Exit × (Value × Value × Value × Value × Value × Value × Value) × Heap)) :=
  runL (fun x : (Value × Value × Value × Value × Value × Value × Value × Value × Value) × Heap => Jr4_4b0 rc md x.1.1 x.1.2.1 x.1.2.2.1 x.1.2.2.2.1 x.1.2.2.2.2.1 x.1.2.2.2.2.2.1 x.1.2.2.2.2.2.2.1 x.1.2.2.2.2.2.2.2.1 x.1.2.2.2.2.2.2.2.2 x.2) (fun e (s : Value × Value × Value × Value × Value × Value × Value × Value × Value) h => Jk4_4b0 rc md e s.1 s.2.1 s.2.2.1 s.2.2.2.1 s.2.2.2.2.1 s.2.2.2.2.2.1 s.2.2.2.2.2.2.1 s.2.2.2.2.2.2.2.1 s.2.2.2.2.2.2.2.2 h) (s0, s6, s7, s8, s12, s13, s110, s111, s112) h
theorem J4_4b0_step (rc : Rec) (md : Md) (s0 : Value) (s6 : Value) (s7 : Value) (s8 : Value) (s12 : Value) (s13 : Value) (s110 : Value) (s111 : Value) (s112 : Value) (h : Heap) : J4_4b0 rc md s0 s6 s7 s8 s12 s13 s110 s111 s112 h = (Jr4_4b0 rc md s0 s6 s7 s8 s12 s13 s110 s111 s112 h).bind fun x => match x with
    | .inl (s, h) => J4_4b0 rc md s.1 s.2.1 s.2.2.1 s.2.2.2.1 s.2.2.2.2.1 s.2.2.2.2.2.1 s.2.2.2.2.2.2.1 s.2.2.2.2.2.2.2.1 s.2.2.2.2.2.2.2.2 h
    | .inr (e, s, h) => Jk4_4b0 rc md e s.1 s.2.1 s.2.2.1 s.2.2.2.1 s.2.2.2.2.1 s.2.2.2.2.2.1 s.2.2.2.2.2.2.1 s.2.2.2.2.2.2.2.1 s.2.2.2.2.2.2.2.2 h := by
  unfold J4_4b0
  rw [runL_eq]
  refine congrArg (Option.bind _) (funext fun x => ?_)
  rcases x with ⟨s, h⟩ | ⟨e, s, h⟩ <;> rfl
theorem J4_4b0_cut (rc : Rec) (md : Md) : cut Try.prog cfg rc md 197 (sub (bodyOf Try.prog 4) [1, 1, 1, 1, 1, 1, 1, 0, 1, 0, 0]) [1, 1, 0, 0, 1, 1, 0] (rndK (fun t => (t 0, t 6, t 7, t 8, t 110, t 111, t 112))) = fun t h => J4_4b0 rc md (t 0) (t 6) (t 7) (t 8) (t 12) (t 13) (t 110) (t 111) (t 112) h := by
  funext t h
  have e : sub (sub (bodyOf Try.prog 4) [1, 1, 1, 1, 1, 1, 1, 0, 1, 0, 0]) [1, 1, 0, 0, 1, 1, 0] = .loop (sub (bodyOf Try.prog 4) [1, 1, 1, 1, 1, 1, 1, 0, 1, 0, 0, 1, 1, 0, 0, 1, 1, 0, 0]) := by kernel_rfl
  unfold cut
  rw [e]
  exact loop_eq (by kernel_rfl) (fun t => (t 0, t 6, t 7, t 8, t 12, t 13, t 110, t 111, t 112)) (fun x : (Value × Value × Value × Value × Value × Value × Value × Value × Value) × Heap => Jr4_4b0 rc md x.1.1 x.1.2.1 x.1.2.2.1 x.1.2.2.2.1 x.1.2.2.2.2.1 x.1.2.2.2.2.2.1 x.1.2.2.2.2.2.2.1 x.1.2.2.2.2.2.2.2.1 x.1.2.2.2.2.2.2.2.2 x.2) (fun t h => Jr4_4b0_at rc md t h) (fun e (s : Value × Value × Value × Value × Value × Value × Value × Value × Value) h => Jk4_4b0 rc md e s.1 s.2.1 s.2.2.1 s.2.2.2.1 s.2.2.2.2.1 s.2.2.2.2.2.1 s.2.2.2.2.2.2.1 s.2.2.2.2.2.2.2.1 s.2.2.2.2.2.2.2.2 h) (fun e t h => Jk4_4b0_at rc md e t h) t h
/-- a round -/
noncomputable def Jr4_4 (rc : Rec) (md : Md) (s0 : Value) (s6 : Value) (s7 : Value) (s8 : Value) (s110 : Value) (s111 : Value) (s112 : Value) (h : Heap) : Option (((Value × Value × Value × Value × Value × Value × Value) × Heap) ⊕ (Exit × (Value × Value × Value × Value × Value × Value × Value) × Heap)) :=
  aBin Try.prog .lss 3 s112 s111 fun v1 =>
  cBn v1 fun b2 =>
  bif b2 then
    ixSV 1 s110 s112 fun v3 =>
    ld1 v3 h fun v4 =>
    J4_4b0 rc md s0 s6 s7 s8 v4 (.int .i64 0) s110 s111 s112 h
  else
    some (.inr ((.exit 4), (s0, s6, s7, s8, s110, s111, s112), h))
noncomputable def Jr4_4H (rc : Rec) (md : Md) (X0 : T → Heap → Option (((Value × Value × Value × Value × Value × Value × Value) × Heap) ⊕ (Exit × (Value × Value × Value × Value × Value × Value × Value) × Heap))) (t : T) (h : Heap) : Option (((Value × Value × Value × Value × Value × Value × Value) × Heap) ⊕ (Exit × (Value × Value × Value × Value × Value × Value × Value) × Heap)) :=
  aBin Try.prog .lss 3 (t 112) (t 111) fun v1 =>
  cBn v1 fun b2 =>
  bif b2 then
    ixSV 1 (t 110) (t 112) fun v3 =>
    ld1 v3 h fun v4 =>
    X0 (upd (upd (upd (upd (upd t 113 v1) 114 v3) 115 v4) 12 v4) 13 (.int .i64 0)) h
  else
    some (.inr ((.exit 4), ((t 0), (t 6), (t 7), (t 8), (t 110), (t 111), (t 112)), h))
theorem Jr4_4_h1 (rc : Rec) (md : Md) (X : Nat → T → Heap → Option (((Value × Value × Value × Value × Value × Value × Value) × Heap) ⊕ (Exit × (Value × Value × Value × Value × Value × Value × Value) × Heap))) (t : T) (h : Heap) : execG Try.prog cfg X rc md 197 (replS (sub (bodyOf Try.prog 4) [1, 1, 1, 1, 1, 1, 1, 0, 1, 0, 0]) [([1, 1, 0, 0, 1, 1, 0], 0)]) (rndK (fun t => (t 0, t 6, t 7, t 8, t 110, t 111, t 112))) t h = Jr4_4H rc md (X 0) t h := by kernel_rfl
theorem Jr4_4_h2 (rc : Rec) (md : Md) (t : T) (h : Heap) : Jr4_4H rc md (fun t h => J4_4b0 rc md (t 0) (t 6) (t 7) (t 8) (t 12) (t 13) (t 110) (t 111) (t 112) h) t h = Jr4_4 rc md (t 0) (t 6) (t 7) (t 8) (t 110) (t 111) (t 112) h := by unfold Jr4_4H Jr4_4; kernel_rfl
theorem Jr4_4_at (rc : Rec) (md : Md) (t : T) (h : Heap) : exec Try.prog cfg rc md 197 (sub (bodyOf Try.prog 4) [1, 1, 1, 1, 1, 1, 1, 0, 1, 0, 0]) (rndK (fun t => (t 0, t 6, t 7, t 8, t 110, t 111, t 112))) t h = Jr4_4 rc md (t 0) (t 6) (t 7) (t 8) (t 110) (t 111) (t 112) h := by
  rw [exec_holes [([1, 1, 0, 0, 1, 1, 0], 0)] (by kernel_rfl), Jr4_4_h1, show (goX Try.prog cfg rc md 197 (sub (bodyOf Try.prog 4) [1, 1, 1, 1, 1, 1, 1, 0, 1, 0, 0]) [([1, 1, 0, 0, 1, 1, 0], 0)] (rndK (fun t => (t 0, t 6, t 7, t 8, t 110, t 111, t 112)))) 0 = _ from J4_4b0_cut rc md]
  exact Jr4_4_h2 rc md t h
noncomputable def J4_4 (rc : Rec) (md : Md) (h0 : Heap) (s0 : Value) (s6 : Value) (s7 : Value) (s8 : Value) (s110 : Value) (s111 : Value) (s112 : Value) (h : Heap) : Option (Value × Heap) :=
  runL (fun x : (Value × Value × Value × Value × Value × Value × Value) × Heap => Jr4_4 rc md x.1.1 x.1.2.1 x.1.2.2.1 x.1.2.2.2.1 x.1.2.2.2.2.1 x.1.2.2.2.2.2.1 x.1.2.2.2.2.2.2 x.2) (fun e (s : Value × Value × Value × Value × Value × Value × Value) h => Jk4_4 rc md h0 e s.1 s.2.1 s.2.2.1 s.2.2.2.1 s.2.2.2.2.1 s.2.2.2.2.2.1 s.2.2.2.2.2.2 h) (s0, s6, s7, s8, s110, s111, s112) h
theorem J4_4_step (rc : Rec) (md : Md) (h0 : Heap) (s0 : Value) (s6 : Value) (s7 : Value) (s8 : Value) (s110 : Value) (s111 : Value) (s112 : Value) (h : Heap) : J4_4 rc md h0 s0 s6 s7 s8 s110 s111 s112 h = (Jr4_4 rc md s0 s6 s7 s8 s110 s111 s112 h).bind fun x => match x with
    | .inl (s, h) => J4_4 rc md h0 s.1 s.2.1 s.2.2.1 s.2.2.2.1 s.2.2.2.2.1 s.2.2.2.2.2.1 s.2.2.2.2.2.2 h
    | .inr (e, s, h) => Jk4_4 rc md h0 e s.1 s.2.1 s.2.2.1 s.2.2.2.1 s.2.2.2.2.1 s.2.2.2.2.2.1 s.2.2.2.2.2.2 h := by
  unfold J4_4
  rw [runL_eq]
  refine congrArg (Option.bind _) (funext fun x => ?_)
  rcases x with ⟨s, h⟩ | ⟨e, s, h⟩ <;> rfl
theorem J4_4_cut (rc : Rec) (md : Md) (h0 : Heap) : cut Try.prog cfg rc md 197 (bodyOf Try.prog 4) [1, 1, 1, 1, 1, 1, 1, 0, 1, 0] (retK Try.prog cfg 4 (rsOf Try.prog 4) h0) = fun t h => J4_4 rc md h0 (t 0) (t 6) (t 7) (t 8) (t 110) (t 111) (t 112) h := by
  funext t h
  have e : sub (bodyOf Try.prog 4) [1, 1, 1, 1, 1, 1, 1, 0, 1, 0] = .loop (sub (bodyOf Try.prog 4) [1, 1, 1, 1, 1, 1, 1, 0, 1, 0, 0]) := by kernel_rfl
  unfold cut
  rw [e]
  exact loop_eq (by kernel_rfl) (fun t => (t 0, t 6, t 7, t 8, t 110, t 111, t 112)) (fun x : (Value × Value × Value × Value × Value × Value × Value) × Heap => Jr4_4 rc md x.1.1 x.1.2.1 x.1.2.2.1 x.1.2.2.2.1 x.1.2.2.2.2.1 x.1.2.2.2.2.2.1 x.1.2.2.2.2.2.2 x.2) (fun t h => Jr4_4_at rc md t h) (fun e (s : Value × Value × Value × Value × Value × Value × Value) h => Jk4_4 rc md h0 e s.1 s.2.1 s.2.2.1 s.2.2.2.1 s.2.2.2.2.1 s.2.2.2.2.2.1 s.2.2.2.2.2.2 h) (fun e t h => Jk4_4_at rc md h0 e t h) t h
noncomputable def J4_3 (rc : Rec) (md : Md) (h0 : Heap) (s0 : Value) (s6 : Value) (s7 : Value) (s8 : Value) (h : Heap) : Option (Value × Heap) :=
  bif okNil Try.prog s8 then
  fA 4 s8 fun v1 =>
  ld1 v1 h fun v2 =>
  lenS v2 fun v3 =>
  cIn .i64 v3 fun n4 =>
  J4_4 rc md h0 s0 s6 s7 s8 v2 (.int .i64 n4) (.int .i64 0) h
  else none
noncomputable def J4_3H (rc : Rec) (md : Md) (h0 : Heap) (X2 : T → Heap → Option (Value × Heap)) (t : T) (h : Heap) : Option (Value × Heap) :=
  bif okNil Try.prog (t 8) then
  fA 4 (t 8) fun v1 =>
  ld1 v1 h fun v2 =>
  lenS v2 fun v3 =>
  cIn .i64 v3 fun n4 =>
  X2 (upd (upd (upd (upd (upd (upd t 107 (t 8)) 108 (t 8)) 109 v1) 110 v2) 111 (.int .i64 n4)) 112 (.int .i64 0)) h
  else none
theorem J4_3_h1 (rc : Rec) (md : Md) (h0 : Heap) (X : Nat → T → Heap → Option (Value × Heap)) (t : T) (h : Heap) : execG Try.prog cfg X rc md 197 (sub (replS (bodyOf Try.prog 4) [([1, 1, 1, 1, 1, 0, 1, 0], 0), ([1, 1, 1, 1, 1, 1, 0, 1, 0], 1), ([1, 1, 1, 1, 1, 1, 1, 0, 1, 0], 2), ([1, 1, 1, 1, 1, 1, 1, 1, 1, 0, 1, 0], 3), ([1, 1, 1, 1, 1, 1, 1, 1, 1, 1, 0, 1, 0], 4), ([1, 1, 1, 1, 1, 1, 1, 1, 1, 1, 1, 0, 1, 0], 5), ([1, 1, 1, 1, 1, 1, 1, 1, 1, 1, 1], 6), ([1, 1, 1, 1, 1, 1, 1, 1, 1, 1], 7), ([1, 1, 1, 1, 1, 1, 1, 1], 8)]) [1, 1, 1, 1, 1, 1, 1]) (kAtG Try.prog cfg X rc md 197 (replS (bodyOf Try.prog 4) [([1, 1, 1, 1, 1, 0, 1, 0], 0), ([1, 1, 1, 1, 1, 1, 0, 1, 0], 1), ([1, 1, 1, 1, 1, 1, 1, 0, 1, 0], 2), ([1, 1, 1, 1, 1, 1, 1, 1, 1, 0, 1, 0], 3), ([1, 1, 1, 1, 1, 1, 1, 1, 1, 1, 0, 1, 0], 4), ([1, 1, 1, 1, 1, 1, 1, 1, 1, 1, 1, 0, 1, 0], 5), ([1, 1, 1, 1, 1, 1, 1, 1, 1, 1, 1], 6), ([1, 1, 1, 1, 1, 1, 1, 1, 1, 1], 7), ([1, 1, 1, 1, 1, 1, 1, 1], 8)]) [1, 1, 1, 1, 1, 1, 1] (retK Try.prog cfg 4 (rsOf Try.prog 4) h0)) t h = J4_3H rc md h0 (X 2) t h := by kernel_rfl
theorem J4_3_h2 (rc : Rec) (md : Md) (h0 : Heap) (t : T) (h : Heap) : J4_3H rc md h0 (fun t h => J4_4 rc md h0 (t 0) (t 6) (t 7) (t 8) (t 110) (t 111) (t 112) h) t h = J4_3 rc md h0 (t 0) (t 6) (t 7) (t 8) h := by (unfold J4_3H J4_3; kernel_rfl)
theorem J4_3_at (rc : Rec) (md : Md) (h0 : Heap) (t : T) (h : Heap) : cut Try.prog cfg rc md 197 (bodyOf Try.prog 4) [1, 1, 1, 1, 1, 1, 1] (retK Try.prog cfg 4 (rsOf Try.prog 4) h0) t h = J4_3 rc md h0 (t 0) (t 6) (t 7) (t 8) h := by
  rw [cut_holes [([1, 1, 1, 1, 1, 0, 1, 0], 0), ([1, 1, 1, 1, 1, 1, 0, 1, 0], 1), ([1, 1, 1, 1, 1, 1, 1, 0, 1, 0], 2), ([1, 1, 1, 1, 1, 1, 1, 1, 1, 0, 1, 0], 3), ([1, 1, 1, 1, 1, 1, 1, 1, 1, 1, 0, 1, 0], 4), ([1, 1, 1, 1, 1, 1, 1, 1, 1, 1, 1, 0, 1, 0], 5), ([1, 1, 1, 1, 1, 1, 1, 1, 1, 1, 1], 6), ([1, 1, 1, 1, 1, 1, 1, 1, 1, 1], 7), ([1, 1, 1, 1, 1, 1, 1, 1], 8)] [1, 1, 1, 1, 1, 1, 1] (by kernel_rfl), J4_3_h1, show (goX Try.prog cfg rc md 197 (bodyOf Try.prog 4) [([1, 1, 1, 1, 1, 0, 1, 0], 0), ([1, 1, 1, 1, 1, 1, 0, 1, 0], 1), ([1, 1, 1, 1, 1, 1, 1, 0, 1, 0], 2), ([1, 1, 1, 1, 1, 1, 1, 1, 1, 0, 1, 0], 3), ([1, 1, 1, 1, 1, 1, 1, 1, 1, 1, 0, 1, 0], 4), ([1, 1, 1, 1, 1, 1, 1, 1, 1, 1, 1, 0, 1, 0], 5), ([1, 1, 1, 1, 1, 1, 1, 1, 1, 1, 1], 6), ([1, 1, 1, 1, 1, 1, 1, 1, 1, 1], 7), ([1, 1, 1, 1, 1, 1, 1, 1], 8)] (retK Try.prog cfg 4 (rsOf Try.prog 4) h0)) 2 = _ from J4_4_cut rc md h0]
  exact J4_3_h2 rc md h0 t h
theorem J4_3_cut (rc : Rec) (md : Md) (h0 : Heap) : cut Try.prog cfg rc md 197 (bodyOf Try.prog 4) [1, 1, 1, 1, 1, 1, 1] (retK Try.prog cfg 4 (rsOf Try.prog 4) h0) = fun t h => J4_3 rc md h0 (t 0) (t 6) (t 7) (t 8) h := funext fun t => funext fun h => J4_3_at rc md h0 t h
noncomputable def Jk4_2 (rc : Rec) (md : Md) (h0 : Heap) (e : Exit) (s0 : Value) (s1 : Value) (s6 : Value) (s7 : Value) (s8 : Value) (s76 : Value) (s77 : Value) (s78 : Value) (h : Heap) : Option (Value × Heap) :=
  match e with
  | .normal =>
    J4_3 rc md h0 s0 s6 s7 s8 h
  | .exit j =>
    bif Nat.beq j 2 then
      J4_3 rc md h0 s0 s6 s7 s8 h
    else
      none
  | .ret =>
    fin1 h0 s6 h
  | .goto l => none
  | .panic ps => none
  | .outgrown => none
noncomputable def Jk4_2H (rc : Rec) (md : Md) (h0 : Heap) (X9 : T → Heap → Option (Value × Heap)) (e : Exit) (t : T) (h : Heap) : Option (Value × Heap) :=
  match e with
  | .normal =>
    X9 t h
  | .exit j =>
    bif Nat.beq j 2 then
      X9 t h
    else
      none
  | .ret =>
    fin1 h0 (t 6) h
  | .goto l => none
  | .panic ps => none
  | .outgrown => none
theorem Jk4_2_h1 (rc : Rec) (md : Md) (h0 : Heap) (X : Nat → T → Heap → Option (Value × Heap)) (e : Exit) (t : T) (h : Heap) : kAtG Try.prog cfg X rc md 197 (replS (bodyOf Try.prog 4) [([1, 1, 1, 1, 1, 0, 1, 0], 0), ([1, 1, 1, 1, 1, 1, 1, 0, 1, 0], 2), ([1, 1, 1, 1, 1, 1, 1, 1, 1, 0, 1, 0], 3), ([1, 1, 1, 1, 1, 1, 1, 1, 1, 1, 0, 1, 0], 4), ([1, 1, 1, 1, 1, 1, 1, 1, 1, 1, 1, 0, 1, 0], 5), ([1, 1, 1, 1, 1, 1, 1, 1, 1, 1, 1], 6), ([1, 1, 1, 1, 1, 1, 1, 1, 1, 1], 7), ([1, 1, 1, 1, 1, 1, 1, 1], 8), ([1, 1, 1, 1, 1, 1, 1], 9)]) [1, 1, 1, 1, 1, 1, 0, 1, 0] (retK Try.prog cfg 4 (rsOf Try.prog 4) h0) e t h = Jk4_2H rc md h0 (X 9) e t h := by cases e <;> kernel_rfl
theorem Jk4_2_h2 (rc : Rec) (md : Md) (h0 : Heap) (e : Exit) (t : T) (h : Heap) : Jk4_2H rc md h0 (fun t h => J4_3 rc md h0 (t 0) (t 6) (t 7) (t 8) h) e t h = Jk4_2 rc md h0 e (t 0) (t 1) (t 6) (t 7) (t 8) (t 76) (t 77) (t 78) h := by cases e <;> (unfold Jk4_2H Jk4_2; kernel_rfl)
theorem Jk4_2_at (rc : Rec) (md : Md) (h0 : Heap) (e : Exit) (t : T) (h : Heap) : kAt Try.prog cfg rc md 197 (bodyOf Try.prog 4) [1, 1, 1, 1, 1, 1, 0, 1, 0] (retK Try.prog cfg 4 (rsOf Try.prog 4) h0) e t h = Jk4_2 rc md h0 e (t 0) (t 1) (t 6) (t 7) (t 8) (t 76) (t 77) (t 78) h := by
  rw [kAt_holes [([1, 1, 1, 1, 1, 0, 1, 0], 0), ([1, 1, 1, 1, 1, 1, 1, 0, 1, 0], 2), ([1, 1, 1, 1, 1, 1, 1, 1, 1, 0, 1, 0], 3), ([1, 1, 1, 1, 1, 1, 1, 1, 1, 1, 0, 1, 0], 4), ([1, 1, 1, 1, 1, 1, 1, 1, 1, 1, 1, 0, 1, 0], 5), ([1, 1, 1, 1, 1, 1, 1, 1, 1, 1, 1], 6), ([1, 1, 1, 1, 1, 1, 1, 1, 1, 1], 7), ([1, 1, 1, 1, 1, 1, 1, 1], 8), ([1, 1, 1, 1, 1, 1, 1], 9)] [1, 1, 1, 1, 1, 1, 0, 1, 0] (by kernel_rfl), Jk4_2_h1, show (goX Try.prog cfg rc md 197 (bodyOf Try.prog 4) [([1, 1, 1, 1, 1, 0, 1, 0], 0), ([1, 1, 1, 1, 1, 1, 1, 0, 1, 0], 2), ([1, 1, 1, 1, 1, 1, 1, 1, 1, 0, 1, 0], 3), ([1, 1, 1, 1, 1, 1, 1, 1, 1, 1, 0, 1, 0], 4), ([1, 1, 1, 1, 1, 1, 1, 1, 1, 1, 1, 0, 1, 0], 5), ([1, 1, 1, 1, 1, 1, 1, 1, 1, 1, 1], 6), ([1, 1, 1, 1, 1, 1, 1, 1, 1, 1], 7), ([1, 1, 1, 1, 1, 1, 1, 1], 8), ([1, 1, 1, 1, 1, 1, 1], 9)] (retK Try.prog cfg 4 (rsOf Try.prog 4) h0)) 9 = _ from J4_3_cut rc md h0]
  exact Jk4_2_h2 rc md h0 e t h
/-- a round -/
noncomputable def Jr4_2 (rc : Rec) (md : Md) (s0 : Value) (s1 : Value) (s6 : Value) (s7 : Value) (s8 : Value) (s76 : Value) (s77 : Value) (s78 : Value) (h : Heap) : Option (((Value × Value × Value × Value × Value × Value × Value × Value) × Heap) ⊕ (Exit × (Value × Value × Value × Value × Value × Value × Value × Value) × Heap)) :=
  aBin Try.prog .lss 3 s78 s77 fun v1 =>
  cBn v1 fun b2 =>
  bif b2 then
    ixSV 1 s76 s78 fun v3 =>
    ld1 v3 h fun v4 =>
    cIn .i64 v4 fun n5 =>
    bif (decide (n5 < 0)) then
      aBin Try.prog .add 3 s78 (.int .i64 1) fun v6 =>
      some (.inl ((s0, s1, s6, s7, s8, s76, s77, v6), h))
    else
      bif okNil Try.prog s8 then
      fA 4 s8 fun v7 =>
      ld1 v7 h fun v8 =>
      aBin Try.prog .rem 3 (.int .i64 n5) s1 fun v9 =>
      ixSV 1 v8 v9 fun v10 =>
      ld1 v10 h fun v11 =>
      aBin Try.prog .quo 3 (.int .i64 n5) s1 fun v12 =>
      aBin Try.prog .rem 3 v12 (.int .i64 2) fun v13 =>
      aBin Try.prog .eql 3 v13 (.int .i64 1) fun v14 =>
      cl (rc md 27 [s8, v11, v14] h) fun v15 h16 =>
      cBn v15 fun b17 =>
      (bif wantV (.bool (!b17)) false then
      some (s8, h16)
      else some (undef, h16)).bind fun p18 =>
      (bif wantV (.bool (!b17)) false then
      cl (rc md 28 [p18.1] p18.2) fun v19 h20 =>
      cBn v19 fun b21 =>
      some ((.bool b21), h20)
      else some (undef, p18.2)).bind fun p22 =>
      (bif wantV (.bool (!b17)) false then
      aUn .not p22.1 fun v23 =>
      some (v23, p22.2)
      else some (undef, p22.2)).bind fun p24 =>
      cBn (bif !b17 then (.bool true) else p24.1) fun b25 =>
      bif b25 then
        some (.inr (.ret, (s0, s1, (.bool false), s7, s8, s76, s77, s78), p24.2))
      else
        aBin Try.prog .add 3 s78 (.int .i64 1) fun v26 =>
        some (.inl ((s0, s1, s6, s7, s8, s76, s77, v26), p24.2))
      else none
  else
    some (.inr ((.exit 2), (s0, s1, s6, s7, s8, s76, s77, s78), h))
theorem Jr4_2_at (rc : Rec) (md : Md) (t : T) (h : Heap) : exec Try.prog cfg rc md 197 (sub (bodyOf Try.prog 4) [1, 1, 1, 1, 1, 1, 0, 1, 0, 0]) (rndK (fun t => (t 0, t 1, t 6, t 7, t 8, t 76, t 77, t 78))) t h = Jr4_2 rc md (t 0) (t 1) (t 6) (t 7) (t 8) (t 76) (t 77) (t 78) h := by kernel_rfl
noncomputable def J4_2 (rc : Rec) (md : Md) (h0 : Heap) (s0 : Value) (s1 : Value) (s6 : Value) (s7 : Value) (s8 : Value) (s76 : Value) (s77 : Value) (s78 : Value) (h : Heap) : Option (Value × Heap) :=
  runL (fun x : (Value × Value × Value × Value × Value × Value × Value × Value) × Heap => Jr4_2 rc md x.1.1 x.1.2.1 x.1.2.2.1 x.1.2.2.2.1 x.1.2.2.2.2.1 x.1.2.2.2.2.2.1 x.1.2.2.2.2.2.2.1 x.1.2.2.2.2.2.2.2 x.2) (fun e (s : Value × Value × Value × Value × Value × Value × Value × Value) h => Jk4_2 rc md h0 e s.1 s.2.1 s.2.2.1 s.2.2.2.1 s.2.2.2.2.1 s.2.2.2.2.2.1 s.2.2.2.2.2.2.1 s.2.2.2.2.2.2.2 h) (s0, s1, s6, s7, s8, s76, s77, s78) h
theorem J4_2_step (rc : Rec) (md : Md) (h0 : Heap) (s0 : Value) (s1 : Value) (s6 : Value) (s7 : Value) (s8 : Value) (s76 : Value) (s77 : Value) (s78 : Value) (h : Heap) : J4_2 rc md h0 s0 s1 s6 s7 s8 s76 s77 s78 h = (Jr4_2 rc md s0 s1 s6 s7 s8 s76 s77 s78 h).bind fun x => match x with
    | .inl (s, h) => J4_2 rc md h0 s.1 s.2.1 s.2.2.1 s.2.2.2.1 s.2.2.2.2.1 s.2.2.2.2.2.1 s.2.2.2.2.2.2.1 s.2.2.2.2.2.2.2 h
    | .inr (e, s, h) => Jk4_2 rc md h0 e s.1 s.2.1 s.2.2.1 s.2.2.2.1 s.2.2.2.2.1 s.2.2.2.2.2.1 s.2.2.2.2.2.2.1 s.2.2.2.2.2.2.2 h := by
  unfold J4_2
  rw [runL_eq]
  refine congrArg (Option.bind _) (funext fun x => ?_)
  rcases x with ⟨s, h⟩ | ⟨e, s, h⟩ <;> rfl
theorem J4_2_cut (rc : Rec) (md : Md) (h0 : Heap) : cut Try.prog cfg rc md 197 (bodyOf Try.prog 4) [1, 1, 1, 1, 1, 1, 0, 1, 0] (retK Try.prog cfg 4 (rsOf Try.prog 4) h0) = fun t h => J4_2 rc md h0 (t 0) (t 1) (t 6) (t 7) (t 8) (t 76) (t 77) (t 78) h := by
  funext t h
  have e : sub (bodyOf Try.prog 4) [1, 1, 1, 1, 1, 1, 0, 1, 0] = .loop (sub (bodyOf Try.prog 4) [1, 1, 1, 1, 1, 1, 0, 1, 0, 0]) := by kernel_rfl
  unfold cut
  rw [e]
  exact loop_eq (by kernel_rfl) (fun t => (t 0, t 1, t 6, t 7, t 8, t 76, t 77, t 78)) (fun x : (Value × Value × Value × Value × Value × Value × Value × Value) × Heap => Jr4_2 rc md x.1.1 x.1.2.1 x.1.2.2.1 x.1.2.2.2.1 x.1.2.2.2.2.1 x.1.2.2.2.2.2.1 x.1.2.2.2.2.2.2.1 x.1.2.2.2.2.2.2.2 x.2) (fun t h => Jr4_2_at rc md t h) (fun e (s : Value × Value × Value × Value × Value × Value × Value × Value) h => Jk4_2 rc md h0 e s.1 s.2.1 s.2.2.1 s.2.2.2.1 s.2.2.2.2.1 s.2.2.2.2.2.1 s.2.2.2.2.2.2.1 s.2.2.2.2.2.2.2 h) (fun e t h => Jk4_2_at rc md h0 e t h) t h
noncomputable def J4_1 (rc : Rec) (md : Md) (h0 : Heap) (s0 : Value) (s1 : Value) (s2 : Value) (s6 : Value) (s7 : Value) (s8 : Value) (h : Heap) : Option (Value × Heap) :=
  lenS s2 fun v1 =>
  cIn .i64 v1 fun n2 =>
  J4_2 rc md h0 s0 s1 s6 s7 s8 s2 (.int .i64 n2) (.int .i64 0) h
noncomputable def J4_1H (rc : Rec) (md : Md) (h0 : Heap) (X1 : T → Heap → Option (Value × Heap)) (t : T) (h : Heap) : Option (Value × Heap) :=
  lenS (t 2) fun v1 =>
  cIn .i64 v1 fun n2 =>
  X1 (upd (upd (upd t 76 (t 2)) 77 (.int .i64 n2)) 78 (.int .i64 0)) h
theorem J4_1_h1 (rc : Rec) (md : Md) (h0 : Heap) (X : Nat → T → Heap → Option (Value × Heap)) (t : T) (h : Heap) : execG Try.prog cfg X rc md 197 (sub (replS (bodyOf Try.prog 4) [([1, 1, 1, 1, 1, 0, 1, 0], 0), ([1, 1, 1, 1, 1, 1, 0, 1, 0], 1), ([1, 1, 1, 1, 1, 1, 1, 0, 1, 0], 2), ([1, 1, 1, 1, 1, 1, 1, 1, 1, 0, 1, 0], 3), ([1, 1, 1, 1, 1, 1, 1, 1, 1, 1, 0, 1, 0], 4), ([1, 1, 1, 1, 1, 1, 1, 1, 1, 1, 1, 0, 1, 0], 5), ([1, 1, 1, 1, 1, 1, 1, 1, 1, 1, 1], 6), ([1, 1, 1, 1, 1, 1, 1, 1, 1, 1], 7), ([1, 1, 1, 1, 1, 1, 1, 1], 8), ([1, 1, 1, 1, 1, 1, 1], 9)]) [1, 1, 1, 1, 1, 1]) (kAtG Try.prog cfg X rc md 197 (replS (bodyOf Try.prog 4) [([1, 1, 1, 1, 1, 0, 1, 0], 0), ([1, 1, 1, 1, 1, 1, 0, 1, 0], 1), ([1, 1, 1, 1, 1, 1, 1, 0, 1, 0], 2), ([1, 1, 1, 1, 1, 1, 1, 1, 1, 0, 1, 0], 3), ([1, 1, 1, 1, 1, 1, 1, 1, 1, 1, 0, 1, 0], 4), ([1, 1, 1, 1, 1, 1, 1, 1, 1, 1, 1, 0, 1, 0], 5), ([1, 1, 1, 1, 1, 1, 1, 1, 1, 1, 1], 6), ([1, 1, 1, 1, 1, 1, 1, 1, 1, 1], 7), ([1, 1, 1, 1, 1, 1, 1, 1], 8), ([1, 1, 1, 1, 1, 1, 1], 9)]) [1, 1, 1, 1, 1, 1] (retK Try.prog cfg 4 (rsOf Try.prog 4) h0)) t h = J4_1H rc md h0 (X 1) t h := by kernel_rfl
theorem J4_1_h2 (rc : Rec) (md : Md) (h0 : Heap) (t : T) (h : Heap) : J4_1H rc md h0 (fun t h => J4_2 rc md h0 (t 0) (t 1) (t 6) (t 7) (t 8) (t 76) (t 77) (t 78) h) t h = J4_1 rc md h0 (t 0) (t 1) (t 2) (t 6) (t 7) (t 8) h := by (unfold J4_1H J4_1; kernel_rfl)
theorem J4_1_at (rc : Rec) (md : Md) (h0 : Heap) (t : T) (h : Heap) : cut Try.prog cfg rc md 197 (bodyOf Try.prog 4) [1, 1, 1, 1, 1, 1] (retK Try.prog cfg 4 (rsOf Try.prog 4) h0) t h = J4_1 rc md h0 (t 0) (t 1) (t 2) (t 6) (t 7) (t 8) h := by
  rw [cut_holes [([1, 1, 1, 1, 1, 0, 1, 0], 0), ([1, 1, 1, 1, 1, 1, 0, 1, 0], 1), ([1, 1, 1, 1, 1, 1, 1, 0, 1, 0], 2), ([1, 1, 1, 1, 1, 1, 1, 1, 1, 0, 1, 0], 3), ([1, 1, 1, 1, 1, 1, 1, 1, 1, 1, 0, 1, 0], 4), ([1, 1, 1, 1, 1, 1, 1, 1, 1, 1, 1, 0, 1, 0], 5), ([1, 1, 1, 1, 1, 1, 1, 1, 1, 1, 1], 6), ([1, 1, 1, 1, 1, 1, 1, 1, 1, 1], 7), ([1, 1, 1, 1, 1, 1, 1, 1], 8), ([1, 1, 1, 1, 1, 1, 1], 9)] [1, 1, 1, 1, 1, 1] (by kernel_rfl), J4_1_h1, show (goX Try.prog cfg rc md 197 (bodyOf Try.prog 4) [([1, 1, 1, 1, 1, 0, 1, 0], 0), ([1, 1, 1, 1, 1, 1, 0, 1, 0], 1), ([1, 1, 1, 1, 1, 1, 1, 0, 1, 0], 2), ([1, 1, 1, 1, 1, 1, 1, 1, 1, 0, 1, 0], 3), ([1, 1, 1, 1, 1, 1, 1, 1, 1, 1, 0, 1, 0], 4), ([1, 1, 1, 1, 1, 1, 1, 1, 1, 1, 1, 0, 1, 0], 5), ([1, 1, 1, 1, 1, 1, 1, 1, 1, 1, 1], 6), ([1, 1, 1, 1, 1, 1, 1, 1, 1, 1], 7), ([1, 1, 1, 1, 1, 1, 1, 1], 8), ([1, 1, 1, 1, 1, 1, 1], 9)] (retK Try.prog cfg 4 (rsOf Try.prog 4) h0)) 1 = _ from J4_2_cut rc md h0]
  exact J4_1_h2 rc md h0 t h
theorem J4_1_cut (rc : Rec) (md : Md) (h0 : Heap) : cut Try.prog cfg rc md 197 (bodyOf Try.prog 4) [1, 1, 1, 1, 1, 1] (retK Try.prog cfg 4 (rsOf Try.prog 4) h0) = fun t h => J4_1 rc md h0 (t 0) (t 1) (t 2) (t 6) (t 7) (t 8) h := funext fun t => funext fun h => J4_1_at rc md h0 t h
noncomputable def Jk4_0 (rc : Rec) (md : Md) (h0 : Heap) (e : Exit) (s0 : Value) (s1 : Value) (s2 : Value) (s6 : Value) (s7 : Value) (s8 : Value) (s61 : Value) (s62 : Value) (h : Heap) : Option (Value × Heap) :=
  match e with
  | .normal =>
    J4_1 rc md h0 s0 s1 s2 s6 s7 s8 h
  | .exit j =>
    bif Nat.beq j 0 then
      J4_1 rc md h0 s0 s1 s2 s6 s7 s8 h
    else
      none
  | .ret =>
    fin1 h0 s6 h
  | .goto l => none
  | .panic ps => none
  | .outgrown => none
noncomputable def Jk4_0H (rc : Rec) (md : Md) (h0 : Heap) (X10 : T → Heap → Option (Value × Heap)) (e : Exit) (t : T) (h : Heap) : Option (Value × Heap) :=
  match e with
  | .normal =>
    X10 t h
  | .exit j =>
    bif Nat.beq j 0 then
      X10 t h
    else
      none
  | .ret =>
    fin1 h0 (t 6) h
  | .goto l => none
  | .panic ps => none
  | .outgrown => none
theorem Jk4_0_h1 (rc : Rec) (md : Md) (h0 : Heap) (X : Nat → T → Heap → Option (Value × Heap)) (e : Exit) (t : T) (h : Heap) : kAtG Try.prog cfg X rc md 197 (replS (bodyOf Try.prog 4) [([1, 1, 1, 1, 1, 1, 0, 1, 0], 1), ([1, 1, 1, 1, 1, 1, 1, 0, 1, 0], 2), ([1, 1, 1, 1, 1, 1, 1, 1, 1, 0, 1, 0], 3), ([1, 1, 1, 1, 1, 1, 1, 1, 1, 1, 0, 1, 0], 4), ([1, 1, 1, 1, 1, 1, 1, 1, 1, 1, 1, 0, 1, 0], 5), ([1, 1, 1, 1, 1, 1, 1, 1, 1, 1, 1], 6), ([1, 1, 1, 1, 1, 1, 1, 1, 1, 1], 7), ([1, 1, 1, 1, 1, 1, 1, 1], 8), ([1, 1, 1, 1, 1, 1, 1], 9), ([1, 1, 1, 1, 1, 1], 10)]) [1, 1, 1, 1, 1, 0, 1, 0] (retK Try.prog cfg 4 (rsOf Try.prog 4) h0) e t h = Jk4_0H rc md h0 (X 10) e t h := by cases e <;> kernel_rfl
theorem Jk4_0_h2 (rc : Rec) (md : Md) (h0 : Heap) (e : Exit) (t : T) (h : Heap) : Jk4_0H rc md h0 (fun t h => J4_1 rc md h0 (t 0) (t 1) (t 2) (t 6) (t 7) (t 8) h) e t h = Jk4_0 rc md h0 e (t 0) (t 1) (t 2) (t 6) (t 7) (t 8) (t 61) (t 62) h := by cases e <;> (unfold Jk4_0H Jk4_0; kernel_rfl)
theorem Jk4_0_at (rc : Rec) (md : Md) (h0 : Heap) (e : Exit) (t : T) (h : Heap) : kAt Try.prog cfg rc md 197 (bodyOf Try.prog 4) [1, 1, 1, 1, 1, 0, 1, 0] (retK Try.prog cfg 4 (rsOf Try.prog 4) h0) e t h = Jk4_0 rc md h0 e (t 0) (t 1) (t 2) (t 6) (t 7) (t 8) (t 61) (t 62) h := by
  rw [kAt_holes [([1, 1, 1, 1, 1, 1, 0, 1, 0], 1), ([1, 1, 1, 1, 1, 1, 1, 0, 1, 0], 2), ([1, 1, 1, 1, 1, 1, 1, 1, 1, 0, 1, 0], 3), ([1, 1, 1, 1, 1, 1, 1, 1, 1, 1, 0, 1, 0], 4), ([1, 1, 1, 1, 1, 1, 1, 1, 1, 1, 1, 0, 1, 0], 5), ([1, 1, 1, 1, 1, 1, 1, 1, 1, 1, 1], 6), ([1, 1, 1, 1, 1, 1, 1, 1, 1, 1], 7), ([1, 1, 1, 1, 1, 1, 1, 1], 8), ([1, 1, 1, 1, 1, 1, 1], 9), ([1, 1, 1, 1, 1, 1], 10)] [1, 1, 1, 1, 1, 0, 1, 0] (by kernel_rfl), Jk4_0_h1, show (goX Try.prog cfg rc md 197 (bodyOf Try.prog 4) [([1, 1, 1, 1, 1, 1, 0, 1, 0], 1), ([1, 1, 1, 1, 1, 1, 1, 0, 1, 0], 2), ([1, 1, 1, 1, 1, 1, 1, 1, 1, 0, 1, 0], 3), ([1, 1, 1, 1, 1, 1, 1, 1, 1, 1, 0, 1, 0], 4), ([1, 1, 1, 1, 1, 1, 1, 1, 1, 1, 1, 0, 1, 0], 5), ([1, 1, 1, 1, 1, 1, 1, 1, 1, 1, 1], 6), ([1, 1, 1, 1, 1, 1, 1, 1, 1, 1], 7), ([1, 1, 1, 1, 1, 1, 1, 1], 8), ([1, 1, 1, 1, 1, 1, 1], 9), ([1, 1, 1, 1, 1, 1], 10)] (retK Try.prog cfg 4 (rsOf Try.prog 4) h0)) 10 = _ from J4_1_cut rc md h0]
  exact Jk4_0_h2 rc md h0 e t h
/-- a round -/
noncomputable def Jr4_0 (rc : Rec) (md : Md) (s0 : Value) (s1 : Value) (s2 : Value) (s6 : Value) (s7 : Value) (s8 : Value) (s61 : Value) (s62 : Value) (h : Heap) : Option (((Value × Value × Value × Value × Value × Value × Value × Value) × Heap) ⊕ (Exit × (Value × Value × Value × Value × Value × Value × Value × Value) × Heap)) :=
  aBin Try.prog .lss 3 s62 s61 fun v1 =>
  cBn v1 fun b2 =>
  bif b2 then
    bif okNil Try.prog s8 then
    fA 4 s8 fun v3 =>
    ld1 v3 h fun v4 =>
    let h5 : Heap := h ++ [.own [(.pointer none), (.pointer none), (.slice none 0 0)]]
    let h6 : Heap := h5 ++ [.own [(.pointer (some ⟨h.length, 0, none⟩))]]
    aBuiltin Try.prog md .append #[45, 45] [v4, (.slice (some ⟨h5.length, 0, none⟩) 1 1)] h6 fun v7 h8 =>
    bif okNil Try.prog s8 then
    fA 4 s8 fun v9 =>
    st md 1 v9 v7 h8 fun h10 =>
    aBin Try.prog .add 3 s62 (.int .i64 1) fun v11 =>
    some (.inl ((s0, s1, s2, s6, s7, s8, s61, v11), h10))
    else none
    else none
  else
    some (.inr ((.exit 0), (s0, s1, s2, s6, s7, s8, s61, s62), h))
theorem Jr4_0_at (rc : Rec) (md : Md) (t : T) (h : Heap) : exec Try.prog cfg rc md 197 (sub (bodyOf Try.prog 4) [1, 1, 1, 1, 1, 0, 1, 0, 0]) (rndK (fun t => (t 0, t 1, t 2, t 6, t 7, t 8, t 61, t 62))) t h = Jr4_0 rc md (t 0) (t 1) (t 2) (t 6) (t 7) (t 8) (t 61) (t 62) h := by kernel_rfl
noncomputable def J4_0 (rc : Rec) (md : Md) (h0 : Heap) (s0 : Value) (s1 : Value) (s2 : Value) (s6 : Value) (s7 : Value) (s8 : Value) (s61 : Value) (s62 : Value) (h : Heap) : Option (Value × Heap) :=
  runL (fun x : (Value × Value × Value × Value × Value × Value × Value × Value) × Heap => Jr4_0 rc md x.1.1 x.1.2.1 x.1.2.2.1 x.1.2.2.2.1 x.1.2.2.2.2.1 x.1.2.2.2.2.2.1 x.1.2.2.2.2.2.2.1 x.1.2.2.2.2.2.2.2 x.2) (fun e (s : Value × Value × Value × Value × Value × Value × Value × Value) h => Jk4_0 rc md h0 e s.1 s.2.1 s.2.2.1 s.2.2.2.1 s.2.2.2.2.1 s.2.2.2.2.2.1 s.2.2.2.2.2.2.1 s.2.2.2.2.2.2.2 h) (s0, s1, s2, s6, s7, s8, s61, s62) h
theorem J4_0_step (rc : Rec) (md : Md) (h0 : Heap) (s0 : Value) (s1 : Value) (s2 : Value) (s6 : Value) (s7 : Value) (s8 : Value) (s61 : Value) (s62 : Value) (h : Heap) : J4_0 rc md h0 s0 s1 s2 s6 s7 s8 s61 s62 h = (Jr4_0 rc md s0 s1 s2 s6 s7 s8 s61 s62 h).bind fun x => match x with
    | .inl (s, h) => J4_0 rc md h0 s.1 s.2.1 s.2.2.1 s.2.2.2.1 s.2.2.2.2.1 s.2.2.2.2.2.1 s.2.2.2.2.2.2.1 s.2.2.2.2.2.2.2 h
    | .inr (e, s, h) => Jk4_0 rc md h0 e s.1 s.2.1 s.2.2.1 s.2.2.2.1 s.2.2.2.2.1 s.2.2.2.2.2.1 s.2.2.2.2.2.2.1 s.2.2.2.2.2.2.2 h := by
  unfold J4_0
  rw [runL_eq]
  refine congrArg (Option.bind _) (funext fun x => ?_)
  rcases x with ⟨s, h⟩ | ⟨e, s, h⟩ <;> rfl
theorem J4_0_cut (rc : Rec) (md : Md) (h0 : Heap) : cut Try.prog cfg rc md 197 (bodyOf Try.prog 4) [1, 1, 1, 1, 1, 0, 1, 0] (retK Try.prog cfg 4 (rsOf Try.prog 4) h0) = fun t h => J4_0 rc md h0 (t 0) (t 1) (t 2) (t 6) (t 7) (t 8) (t 61) (t 62) h := by
  funext t h
  have e : sub (bodyOf Try.prog 4) [1, 1, 1, 1, 1, 0, 1, 0] = .loop (sub (bodyOf Try.prog 4) [1, 1, 1, 1, 1, 0, 1, 0, 0]) := by kernel_rfl
  unfold cut
  rw [e]
  exact loop_eq (by kernel_rfl) (fun t => (t 0, t 1, t 2, t 6, t 7, t 8, t 61, t 62)) (fun x : (Value × Value × Value × Value × Value × Value × Value × Value) × Heap => Jr4_0 rc md x.1.1 x.1.2.1 x.1.2.2.1 x.1.2.2.2.1 x.1.2.2.2.2.1 x.1.2.2.2.2.2.1 x.1.2.2.2.2.2.2.1 x.1.2.2.2.2.2.2.2 x.2) (fun t h => Jr4_0_at rc md t h) (fun e (s : Value × Value × Value × Value × Value × Value × Value × Value) h => Jk4_0 rc md h0 e s.1 s.2.1 s.2.2.1 s.2.2.2.1 s.2.2.2.2.1 s.2.2.2.2.2.1 s.2.2.2.2.2.2.1 s.2.2.2.2.2.2.2 h) (fun e t h => Jk4_0_at rc md h0 e t h) t h
noncomputable def F4 (rc : Rec) (md : Md) (a0 : Int) (a1 : Int) (a2 : Value) (h0 : Heap) : Option (Value × Heap) :=
  let h1 : Heap := h0 ++ [.own [(.int .i64 0), (.int .i64 0), (.int .i64 0)]]
  st md 3 (.pointer (some ⟨h0.length, 0, none⟩)) (.agg #[(.int .i64 1), (.int .i64 a0), (.int .i64 1)]) h1 fun h2 =>
  (bif wantV (.bool (decide (a0 < 0))) false then
  some ((.int .i64 a0), h2)
  else some (undef, h2)).bind fun p3 =>
  (bif wantV (.bool (decide (a0 < 0))) false then
  aBin Try.prog .gtr 3 p3.1 (.int .i64 48) fun v4 =>
  some (v4, p3.2)
  else some (undef, p3.2)).bind fun p5 =>
  cBn (bif (decide (a0 < 0)) then (.bool true) else p5.1) fun b6 =>
  (bif wantV (.bool b6) false then
  some ((.int .i64 a1), p5.2)
  else some (undef, p5.2)).bind fun p7 =>
  (bif wantV (.bool b6) false then
  aBin Try.prog .lss 3 p7.1 (.int .i64 1) fun v8 =>
  some (v8, p7.2)
  else some (undef, p7.2)).bind fun p9 =>
  cBn (bif b6 then (.bool true) else p9.1) fun b10 =>
  (bif wantV (.bool b10) false then
  some ((.int .i64 a1), p9.2)
  else some (undef, p9.2)).bind fun p11 =>
  (bif wantV (.bool b10) false then
  aBin Try.prog .gtr 3 p11.1 (.int .i64 8) fun v12 =>
  some (v12, p11.2)
  else some (undef, p11.2)).bind fun p13 =>
  cBn (bif b10 then (.bool true) else p13.1) fun b14 =>
  (bif wantV (.bool b14) false then
  some (a2, p13.2)
  else some (undef, p13.2)).bind fun p15 =>
  (bif wantV (.bool b14) false then
  lenS p15.1 fun v16 =>
  cIn .i64 v16 fun n17 =>
  some ((.int .i64 n17), p15.2)
  else some (undef, p15.2)).bind fun p18 =>
  (bif wantV (.bool b14) false then
  aBin Try.prog .gtr 3 p18.1 (.int .i64 200) fun v19 =>
  some (v19, p18.2)
  else some (undef, p18.2)).bind fun p20 =>
  cBn (bif b14 then (.bool true) else p20.1) fun b21 =>
  (bif wantV (.bool b21) false then
  some ((.int .i64 a0), p20.2)
  else some (undef, p20.2)).bind fun p22 =>
  (bif wantV (.bool b21) false then
  aBuild Try.prog 43 [(0, (.int .i64 1)), (1, p22.1), (2, (.int .i64 1))] fun v23 =>
  some (v23, p22.2)
  else some (undef, p22.2)).bind fun p24 =>
  (bif wantV (.bool b21) false then
  cl (rc md 26 [p24.1] p24.2) fun v25 h26 =>
  cBn v25 fun b27 =>
  some ((.bool b27), h26)
  else some (undef, p24.2)).bind fun p28 =>
  (bif wantV (.bool b21) false then
  aUn .not p28.1 fun v29 =>
  some (v29, p28.2)
  else some (undef, p28.2)).bind fun p30 =>
  cBn (bif b21 then (.bool true) else p30.1) fun b31 =>
  bif b31 then
    cl (rc md 15 [] p30.2) fun v32 h33 =>
    cBn v32 fun b34 =>
    some ((.bool b34), List.take h0.length h33)
  else
    ldN 3 (.pointer (some ⟨h0.length, 0, none⟩)) p30.2 fun v35 =>
    ldN 3 (.pointer (some ⟨h0.length, 0, none⟩)) p30.2 fun v36 =>
    cl (rc md 16 [v36] p30.2) fun v37 h38 =>
    cLE true (fun hq => ldN 3 (.pointer (some ⟨h0.length, 0, none⟩)) hq some) v35 p30.2 h38 <|
    aBuild Try.prog 47 [(0, v35), (1, v37)] fun v39 =>
    let h40 : Heap := h38 ++ [.own v39.cells.toList]
    ld1 (.pointer (some ⟨h38.length, 3, none⟩)) h40 fun v41 =>
    aBin Try.prog .eql 26 v41 (.pointer none) fun v42 =>
    cBn v42 fun b43 =>
    bif b43 then
      some ((.bool false), List.take h0.length h40)
    else
      J4_0 rc md h0 (.int .i64 a0) (.int .i64 a1) a2 (.bool false) (.pointer (some ⟨h0.length, 0, none⟩)) (.pointer (some ⟨h38.length, 0, none⟩)) (.int .i64 a1) (.int .i64 0) h40
noncomputable def F4H (rc : Rec) (md : Md) (X0 : T → Heap → Option (Value × Heap)) (a0 : Int) (a1 : Int) (a2 : Value) (h0 : Heap) : Option (Value × Heap) :=
  let h1 : Heap := h0 ++ [.own [(.int .i64 0), (.int .i64 0), (.int .i64 0)]]
  st md 3 (.pointer (some ⟨h0.length, 0, none⟩)) (.agg #[(.int .i64 1), (.int .i64 a0), (.int .i64 1)]) h1 fun h2 =>
  (bif wantV (.bool (decide (a0 < 0))) false then
  some ((.int .i64 a0), h2)
  else some (undef, h2)).bind fun p3 =>
  (bif wantV (.bool (decide (a0 < 0))) false then
  aBin Try.prog .gtr 3 p3.1 (.int .i64 48) fun v4 =>
  some (v4, p3.2)
  else some (undef, p3.2)).bind fun p5 =>
  cBn (bif (decide (a0 < 0)) then (.bool true) else p5.1) fun b6 =>
  (bif wantV (.bool b6) false then
  some ((.int .i64 a1), p5.2)
  else some (undef, p5.2)).bind fun p7 =>
  (bif wantV (.bool b6) false then
  aBin Try.prog .lss 3 p7.1 (.int .i64 1) fun v8 =>
  some (v8, p7.2)
  else some (undef, p7.2)).bind fun p9 =>
  cBn (bif b6 then (.bool true) else p9.1) fun b10 =>
  (bif wantV (.bool b10) false then
  some ((.int .i64 a1), p9.2)
  else some (undef, p9.2)).bind fun p11 =>
  (bif wantV (.bool b10) false then
  aBin Try.prog .gtr 3 p11.1 (.int .i64 8) fun v12 =>
  some (v12, p11.2)
  else some (undef, p11.2)).bind fun p13 =>
  cBn (bif b10 then (.bool true) else p13.1) fun b14 =>
  (bif wantV (.bool b14) false then
  some (a2, p13.2)
  else some (undef, p13.2)).bind fun p15 =>
  (bif wantV (.bool b14) false then
  lenS p15.1 fun v16 =>
  cIn .i64 v16 fun n17 =>
  some ((.int .i64 n17), p15.2)
  else some (undef, p15.2)).bind fun p18 =>
  (bif wantV (.bool b14) false then
  aBin Try.prog .gtr 3 p18.1 (.int .i64 200) fun v19 =>
  some (v19, p18.2)
  else some (undef, p18.2)).bind fun p20 =>
  cBn (bif b14 then (.bool true) else p20.1) fun b21 =>
  (bif wantV (.bool b21) false then
  some ((.int .i64 a0), p20.2)
  else some (undef, p20.2)).bind fun p22 =>
  (bif wantV (.bool b21) false then
  aBuild Try.prog 43 [(0, (.int .i64 1)), (1, p22.1), (2, (.int .i64 1))] fun v23 =>
  some (v23, p22.2)
  else some (undef, p22.2)).bind fun p24 =>
  (bif wantV (.bool b21) false then
  cl (rc md 26 [p24.1] p24.2) fun v25 h26 =>
  cBn v25 fun b27 =>
  some ((.bool b27), h26)
  else some (undef, p24.2)).bind fun p28 =>
  (bif wantV (.bool b21) false then
  aUn .not p28.1 fun v29 =>
  some (v29, p28.2)
  else some (undef, p28.2)).bind fun p30 =>
  cBn (bif b21 then (.bool true) else p30.1) fun b31 =>
  bif b31 then
    cl (rc md 15 [] p30.2) fun v32 h33 =>
    cBn v32 fun b34 =>
    some ((.bool b34), List.take h0.length h33)
  else
    ldN 3 (.pointer (some ⟨h0.length, 0, none⟩)) p30.2 fun v35 =>
    ldN 3 (.pointer (some ⟨h0.length, 0, none⟩)) p30.2 fun v36 =>
    cl (rc md 16 [v36] p30.2) fun v37 h38 =>
    cLE true (fun hq => ldN 3 (.pointer (some ⟨h0.length, 0, none⟩)) hq some) v35 p30.2 h38 <|
    aBuild Try.prog 47 [(0, v35), (1, v37)] fun v39 =>
    let h40 : Heap := h38 ++ [.own v39.cells.toList]
    ld1 (.pointer (some ⟨h38.length, 3, none⟩)) h40 fun v41 =>
    aBin Try.prog .eql 26 v41 (.pointer none) fun v42 =>
    cBn v42 fun b43 =>
    bif b43 then
      some ((.bool false), List.take h0.length h40)
    else
      X0 (upd (upd (upd (upd (upd (upd (upd (upd (upd (upd (upd (upd (upd (upd (upd (upd (upd (upd (upd (upd (upd (upd (upd (upd (upd (upd (upd (upd (upd (upd (upd (upd (upd (upd (upd (upd (upd (upd (upd (upd (upd (upd (args0 [(.int .i64 a0), (.int .i64 a1), a2]) 6 (.bool false)) 23 (.int .i64 a0)) 24 (.agg #[(.int .i64 1), (.int .i64 a0), (.int .i64 1)])) 7 (.pointer (some ⟨h0.length, 0, none⟩))) 25 (.int .i64 a0)) 26 (.bool (decide (a0 < 0)))) 27 (.bool (decide (a0 < 0)))) 28 p3.1) 29 p5.1) 30 (.bool b6)) 31 (.bool b6)) 32 p7.1) 33 p9.1) 34 (.bool b10)) 35 (.bool b10)) 36 p11.1) 37 p13.1) 38 (.bool b14)) 39 (.bool b14)) 40 p15.1) 41 p18.1) 42 p20.1) 43 (.bool b21)) 44 (.bool b21)) 45 p22.1) 46 p24.1) 47 p28.1) 48 p30.1) 49 (.bool b31)) 51 v35) 52 v36) 53 v37) 54 v39) 55 (.pointer (some ⟨h38.length, 0, none⟩))) 8 (.pointer (some ⟨h38.length, 0, none⟩))) 56 (.pointer (some ⟨h38.length, 0, none⟩))) 57 (.pointer (some ⟨h38.length, 0, none⟩))) 58 (.pointer (some ⟨h38.length, 3, none⟩))) 59 v41) 60 v42) 61 (.int .i64 a1)) 62 (.int .i64 0)) h40
theorem F4_h0 (rc : Rec) (md : Md) (a0 : Int) (a1 : Int) (a2 : Value) (h0 : Heap) : callStep0 Try.prog cfg rc md 4 [(.int .i64 a0), (.int .i64 a1), a2] h0 = exec Try.prog cfg rc ⟨md.ro, h0.length⟩ 197 (bodyOf Try.prog 4) (retK Try.prog cfg 4 (rsOf Try.prog 4) h0) (args0 [(.int .i64 a0), (.int .i64 a1), a2]) h0 := callStep0_run (by kernel_rfl) (by kernel_rfl) (by kernel_rfl)
theorem F4_h1 (rc : Rec) (md : Md) (X : Nat → T → Heap → Option (Value × Heap)) (a0 : Int) (a1 : Int) (a2 : Value) (h0 : Heap) : execG Try.prog cfg X rc md 197 (replS (bodyOf Try.prog 4) [([1, 1, 1, 1, 1, 0, 1, 0], 0), ([1, 1, 1, 1, 1, 1, 0, 1, 0], 1), ([1, 1, 1, 1, 1, 1, 1, 0, 1, 0], 2), ([1, 1, 1, 1, 1, 1, 1, 1, 1, 0, 1, 0], 3), ([1, 1, 1, 1, 1, 1, 1, 1, 1, 1, 0, 1, 0], 4), ([1, 1, 1, 1, 1, 1, 1, 1, 1, 1, 1, 0, 1, 0], 5), ([1, 1, 1, 1, 1, 1, 1, 1, 1, 1, 1], 6), ([1, 1, 1, 1, 1, 1, 1, 1, 1, 1], 7), ([1, 1, 1, 1, 1, 1, 1, 1], 8), ([1, 1, 1, 1, 1, 1, 1], 9), ([1, 1, 1, 1, 1, 1], 10)]) (retK Try.prog cfg 4 (rsOf Try.prog 4) h0) (args0 [(.int .i64 a0), (.int .i64 a1), a2]) h0 = F4H rc md (X 0) a0 a1 a2 h0 := by kernel_rfl
theorem F4_h2 (rc : Rec) (md : Md) (a0 : Int) (a1 : Int) (a2 : Value) (h0 : Heap) : F4H rc md (fun t h => J4_0 rc md h0 (t 0) (t 1) (t 2) (t 6) (t 7) (t 8) (t 61) (t 62) h) a0 a1 a2 h0 = F4 rc md a0 a1 a2 h0 := by unfold F4H F4; kernel_rfl
theorem F4_eq0 (rc : Rec) (md : Md) (a0 : Int) (a1 : Int) (a2 : Value) (h0 : Heap) : callStep0 Try.prog cfg rc md 4 [(.int .i64 a0), (.int .i64 a1), a2] h0 = F4 rc ⟨md.ro, h0.length⟩ a0 a1 a2 h0 := by
  rw [F4_h0, exec_holes [([1, 1, 1, 1, 1, 0, 1, 0], 0), ([1, 1, 1, 1, 1, 1, 0, 1, 0], 1), ([1, 1, 1, 1, 1, 1, 1, 0, 1, 0], 2), ([1, 1, 1, 1, 1, 1, 1, 1, 1, 0, 1, 0], 3), ([1, 1, 1, 1, 1, 1, 1, 1, 1, 1, 0, 1, 0], 4), ([1, 1, 1, 1, 1, 1, 1, 1, 1, 1, 1, 0, 1, 0], 5), ([1, 1, 1, 1, 1, 1, 1, 1, 1, 1, 1], 6), ([1, 1, 1, 1, 1, 1, 1, 1, 1, 1], 7), ([1, 1, 1, 1, 1, 1, 1, 1], 8), ([1, 1, 1, 1, 1, 1, 1], 9), ([1, 1, 1, 1, 1, 1], 10)] (by kernel_rfl), F4_h1, show (goX Try.prog cfg rc ⟨md.ro, h0.length⟩ 197 (bodyOf Try.prog 4) [([1, 1, 1, 1, 1, 0, 1, 0], 0), ([1, 1, 1, 1, 1, 1, 0, 1, 0], 1), ([1, 1, 1, 1, 1, 1, 1, 0, 1, 0], 2), ([1, 1, 1, 1, 1, 1, 1, 1, 1, 0, 1, 0], 3), ([1, 1, 1, 1, 1, 1, 1, 1, 1, 1, 0, 1, 0], 4), ([1, 1, 1, 1, 1, 1, 1, 1, 1, 1, 1, 0, 1, 0], 5), ([1, 1, 1, 1, 1, 1, 1, 1, 1, 1, 1], 6), ([1, 1, 1, 1, 1, 1, 1, 1, 1, 1], 7), ([1, 1, 1, 1, 1, 1, 1, 1], 8), ([1, 1, 1, 1, 1, 1, 1], 9), ([1, 1, 1, 1, 1, 1], 10)] (retK Try.prog cfg 4 (rsOf Try.prog 4) h0)) 0 = _ from J4_0_cut rc ⟨md.ro, h0.length⟩ h0]
  exact F4_h2 rc _ a0 a1 a2 h0
theorem F4_eq (rc : Rec) (md : Md) (a0 : Int) (a1 : Int) (a2 : Value) (h0 : Heap) : callStep Try.prog cfg rc md 4 [(.int .i64 a0), (.int .i64 a1), a2] h0 = F4 rc ⟨md.ro, h0.length⟩ a0 a1 a2 h0 := (callStep_ne (by kernel_rfl)).trans (F4_eq0 rc md a0 a1 a2 h0)

/-- tombolo/tombololaw07.SlotMisses -/
noncomputable def Jk5_2 (rc : Rec) (md : Md) (h0 : Heap) (e : Exit) (s1 : Value) (s6 : Value) (s8 : Value) (s59 : Value) (s60 : Value) (s61 : Value) (h : Heap) : Option (Value × Heap) :=
  match e with
  | .normal =>
    cl (rc md 15 [] h) fun v1 h2 =>
    cBn v1 fun b3 =>
    some ((.bool b3), List.take h0.length h2)
  | .exit j =>
    bif Nat.beq j 2 then
      cl (rc md 15 [] h) fun v4 h5 =>
      cBn v4 fun b6 =>
      some ((.bool b6), List.take h0.length h5)
    else
      none
  | .ret =>
    fin1 h0 s6 h
  | .goto l => none
  | .panic ps => none
  | .outgrown => none
theorem Jk5_2_at (rc : Rec) (md : Md) (h0 : Heap) (e : Exit) (t : T) (h : Heap) : kAt Try.prog cfg rc md 99 (bodyOf Try.prog 5) [1, 1, 1, 1, 1, 1, 0, 1, 0] (retK Try.prog cfg 5 (rsOf Try.prog 5) h0) e t h = Jk5_2 rc md h0 e (t 1) (t 6) (t 8) (t 59) (t 60) (t 61) h := by cases e <;> kernel_rfl
/-- a round -/
noncomputable def Jr5_2 (rc : Rec) (md : Md) (s1 : Value) (s6 : Value) (s8 : Value) (s59 : Value) (s60 : Value) (s61 : Value) (h : Heap) : Option (((Value × Value × Value × Value × Value × Value) × Heap) ⊕ (Exit × (Value × Value × Value × Value × Value × Value) × Heap)) :=
  aBin Try.prog .lss 3 s61 s60 fun v1 =>
  cBn v1 fun b2 =>
  bif b2 then
    ixSV 1 s59 s61 fun v3 =>
    ld1 v3 h fun v4 =>
    cIn .i64 v4 fun n5 =>
    bif (decide (n5 < 0)) then
      aBin Try.prog .add 3 s61 (.int .i64 1) fun v6 =>
      some (.inl ((s1, s6, s8, s59, s60, v6), h))
    else
      bif okNil Try.prog s8 then
      fA 4 s8 fun v7 =>
      ld1 v7 h fun v8 =>
      aBin Try.prog .rem 3 (.int .i64 n5) s1 fun v9 =>
      ixSV 1 v8 v9 fun v10 =>
      ld1 v10 h fun v11 =>
      aBin Try.prog .quo 3 (.int .i64 n5) s1 fun v12 =>
      aBin Try.prog .rem 3 v12 (.int .i64 2) fun v13 =>
      aBin Try.prog .eql 3 v13 (.int .i64 1) fun v14 =>
      cl (rc md 27 [s8, v11, v14] h) fun v15 h16 =>
      cBn v15 fun b17 =>
      bif !b17 then
        some (.inr (.ret, (s1, (.bool false), s8, s59, s60, s61), h16))
      else
        bif okNil Try.prog s8 then
        fA 3 s8 fun v18 =>
        ld1 v18 h16 fun v19 =>
        cl (rc md 29 [v19] h16) fun v20 h21 =>
        let h22 : Heap := h21 ++ [.own [(.int .i64 0), (.int .i64 0), (.int .i64 0), (.int .i64 0), (.int .i64 0)]]
        st md 5 (.pointer (some ⟨h21.length, 0, none⟩)) v20 h22 fun h23 =>
        ld1 (.pointer (some ⟨h21.length, 3, none⟩)) h23 fun v24 =>
        cIn .i64 v24 fun n25 =>
        ld1 (.pointer (some ⟨h21.length, 2, none⟩)) h23 fun v26 =>
        cIn .i64 v26 fun n27 =>
        aBin Try.prog .sub 3 s1 (.int .i64 1) fun v28 =>
        aBin Try.prog .mul 3 (.int .i64 n27) v28 fun v29 =>
        aBin Try.prog .gtr 3 (.int .i64 n25) v29 fun v30 =>
        cBn v30 fun b31 =>
        bif b31 then
          some (.inr (.ret, (s1, (.bool false), s8, s59, s60, s61), h23))
        else
          aBin Try.prog .add 3 s61 (.int .i64 1) fun v32 =>
          some (.inl ((s1, s6, s8, s59, s60, v32), h23))
        else none
      else none
  else
    some (.inr ((.exit 2), (s1, s6, s8, s59, s60, s61), h))
theorem Jr5_2_at (rc : Rec) (md : Md) (t : T) (h : Heap) : exec Try.prog cfg rc md 99 (sub (bodyOf Try.prog 5) [1, 1, 1, 1, 1, 1, 0, 1, 0, 0]) (rndK (fun t => (t 1, t 6, t 8, t 59, t 60, t 61))) t h = Jr5_2 rc md (t 1) (t 6) (t 8) (t 59) (t 60) (t 61) h := by kernel_rfl
noncomputable def J5_2 (rc : Rec) (md : Md) (h0 : Heap) (s1 : Value) (s6 : Value) (s8 : Value) (s59 : Value) (s60 : Value) (s61 : Value) (h : Heap) : Option (Value × Heap) :=
  runL (fun x : (Value × Value × Value × Value × Value × Value) × Heap => Jr5_2 rc md x.1.1 x.1.2.1 x.1.2.2.1 x.1.2.2.2.1 x.1.2.2.2.2.1 x.1.2.2.2.2.2 x.2) (fun e (s : Value × Value × Value × Value × Value × Value) h => Jk5_2 rc md h0 e s.1 s.2.1 s.2.2.1 s.2.2.2.1 s.2.2.2.2.1 s.2.2.2.2.2 h) (s1, s6, s8, s59, s60, s61) h
theorem J5_2_step (rc : Rec) (md : Md) (h0 : Heap) (s1 : Value) (s6 : Value) (s8 : Value) (s59 : Value) (s60 : Value) (s61 : Value) (h : Heap) : J5_2 rc md h0 s1 s6 s8 s59 s60 s61 h = (Jr5_2 rc md s1 s6 s8 s59 s60 s61 h).bind fun x => match x with
    | .inl (s, h) => J5_2 rc md h0 s.1 s.2.1 s.2.2.1 s.2.2.2.1 s.2.2.2.2.1 s.2.2.2.2.2 h
    | .inr (e, s, h) => Jk5_2 rc md h0 e s.1 s.2.1 s.2.2.1 s.2.2.2.1 s.2.2.2.2.1 s.2.2.2.2.2 h := by
  unfold J5_2
  rw [runL_eq]
  refine congrArg (Option.bind _) (funext fun x => ?_)
  rcases x with ⟨s, h⟩ | ⟨e, s, h⟩ <;> rfl
theorem J5_2_cut (rc : Rec) (md : Md) (h0 : Heap) : cut Try.prog cfg rc md 99 (bodyOf Try.prog 5) [1, 1, 1, 1, 1, 1, 0, 1, 0] (retK Try.prog cfg 5 (rsOf Try.prog 5) h0) = fun t h => J5_2 rc md h0 (t 1) (t 6) (t 8) (t 59) (t 60) (t 61) h := by
  funext t h
  have e : sub (bodyOf Try.prog 5) [1, 1, 1, 1, 1, 1, 0, 1, 0] = .loop (sub (bodyOf Try.prog 5) [1, 1, 1, 1, 1, 1, 0, 1, 0, 0]) := by kernel_rfl
  unfold cut
  rw [e]
  exact loop_eq (by kernel_rfl) (fun t => (t 1, t 6, t 8, t 59, t 60, t 61)) (fun x : (Value × Value × Value × Value × Value × Value) × Heap => Jr5_2 rc md x.1.1 x.1.2.1 x.1.2.2.1 x.1.2.2.2.1 x.1.2.2.2.2.1 x.1.2.2.2.2.2 x.2) (fun t h => Jr5_2_at rc md t h) (fun e (s : Value × Value × Value × Value × Value × Value) h => Jk5_2 rc md h0 e s.1 s.2.1 s.2.2.1 s.2.2.2.1 s.2.2.2.2.1 s.2.2.2.2.2 h) (fun e t h => Jk5_2_at rc md h0 e t h) t h
noncomputable def J5_1 (rc : Rec) (md : Md) (h0 : Heap) (s1 : Value) (s2 : Value) (s6 : Value) (s8 : Value) (h : Heap) : Option (Value × Heap) :=
  lenS s2 fun v1 =>
  cIn .i64 v1 fun n2 =>
  J5_2 rc md h0 s1 s6 s8 s2 (.int .i64 n2) (.int .i64 0) h
noncomputable def J5_1H (rc : Rec) (md : Md) (h0 : Heap) (X1 : T → Heap → Option (Value × Heap)) (t : T) (h : Heap) : Option (Value × Heap) :=
  lenS (t 2) fun v1 =>
  cIn .i64 v1 fun n2 =>
  X1 (upd (upd (upd t 59 (t 2)) 60 (.int .i64 n2)) 61 (.int .i64 0)) h
theorem J5_1_h1 (rc : Rec) (md : Md) (h0 : Heap) (X : Nat → T → Heap → Option (Value × Heap)) (t : T) (h : Heap) : execG Try.prog cfg X rc md 99 (sub (replS (bodyOf Try.prog 5) [([1, 1, 1, 1, 1, 0, 1, 0], 0), ([1, 1, 1, 1, 1, 1, 0, 1, 0], 1)]) [1, 1, 1, 1, 1, 1]) (kAtG Try.prog cfg X rc md 99 (replS (bodyOf Try.prog 5) [([1, 1, 1, 1, 1, 0, 1, 0], 0), ([1, 1, 1, 1, 1, 1, 0, 1, 0], 1)]) [1, 1, 1, 1, 1, 1] (retK Try.prog cfg 5 (rsOf Try.prog 5) h0)) t h = J5_1H rc md h0 (X 1) t h := by kernel_rfl
theorem J5_1_h2 (rc : Rec) (md : Md) (h0 : Heap) (t : T) (h : Heap) : J5_1H rc md h0 (fun t h => J5_2 rc md h0 (t 1) (t 6) (t 8) (t 59) (t 60) (t 61) h) t h = J5_1 rc md h0 (t 1) (t 2) (t 6) (t 8) h := by (unfold J5_1H J5_1; kernel_rfl)
theorem J5_1_at (rc : Rec) (md : Md) (h0 : Heap) (t : T) (h : Heap) : cut Try.prog cfg rc md 99 (bodyOf Try.prog 5) [1, 1, 1, 1, 1, 1] (retK Try.prog cfg 5 (rsOf Try.prog 5) h0) t h = J5_1 rc md h0 (t 1) (t 2) (t 6) (t 8) h := by
  rw [cut_holes [([1, 1, 1, 1, 1, 0, 1, 0], 0), ([1, 1, 1, 1, 1, 1, 0, 1, 0], 1)] [1, 1, 1, 1, 1, 1] (by kernel_rfl), J5_1_h1, show (goX Try.prog cfg rc md 99 (bodyOf Try.prog 5) [([1, 1, 1, 1, 1, 0, 1, 0], 0), ([1, 1, 1, 1, 1, 1, 0, 1, 0], 1)] (retK Try.prog cfg 5 (rsOf Try.prog 5) h0)) 1 = _ from J5_2_cut rc md h0]
  exact J5_1_h2 rc md h0 t h
theorem J5_1_cut (rc : Rec) (md : Md) (h0 : Heap) : cut Try.prog cfg rc md 99 (bodyOf Try.prog 5) [1, 1, 1, 1, 1, 1] (retK Try.prog cfg 5 (rsOf Try.prog 5) h0) = fun t h => J5_1 rc md h0 (t 1) (t 2) (t 6) (t 8) h := funext fun t => funext fun h => J5_1_at rc md h0 t h
noncomputable def Jk5_0 (rc : Rec) (md : Md) (h0 : Heap) (e : Exit) (s1 : Value) (s2 : Value) (s6 : Value) (s8 : Value) (s44 : Value) (s45 : Value) (h : Heap) : Option (Value × Heap) :=
  match e with
  | .normal =>
    J5_1 rc md h0 s1 s2 s6 s8 h
  | .exit j =>
    bif Nat.beq j 0 then
      J5_1 rc md h0 s1 s2 s6 s8 h
    else
      none
  | .ret =>
    fin1 h0 s6 h
  | .goto l => none
  | .panic ps => none
  | .outgrown => none
noncomputable def Jk5_0H (rc : Rec) (md : Md) (h0 : Heap) (X2 : T → Heap → Option (Value × Heap)) (e : Exit) (t : T) (h : Heap) : Option (Value × Heap) :=
  match e with
  | .normal =>
    X2 t h
  | .exit j =>
    bif Nat.beq j 0 then
      X2 t h
    else
      none
  | .ret =>
    fin1 h0 (t 6) h
  | .goto l => none
  | .panic ps => none
  | .outgrown => none
theorem Jk5_0_h1 (rc : Rec) (md : Md) (h0 : Heap) (X : Nat → T → Heap → Option (Value × Heap)) (e : Exit) (t : T) (h : Heap) : kAtG Try.prog cfg X rc md 99 (replS (bodyOf Try.prog 5) [([1, 1, 1, 1, 1, 1, 0, 1, 0], 1), ([1, 1, 1, 1, 1, 1], 2)]) [1, 1, 1, 1, 1, 0, 1, 0] (retK Try.prog cfg 5 (rsOf Try.prog 5) h0) e t h = Jk5_0H rc md h0 (X 2) e t h := by cases e <;> kernel_rfl
theorem Jk5_0_h2 (rc : Rec) (md : Md) (h0 : Heap) (e : Exit) (t : T) (h : Heap) : Jk5_0H rc md h0 (fun t h => J5_1 rc md h0 (t 1) (t 2) (t 6) (t 8) h) e t h = Jk5_0 rc md h0 e (t 1) (t 2) (t 6) (t 8) (t 44) (t 45) h := by cases e <;> (unfold Jk5_0H Jk5_0; kernel_rfl)
theorem Jk5_0_at (rc : Rec) (md : Md) (h0 : Heap) (e : Exit) (t : T) (h : Heap) : kAt Try.prog cfg rc md 99 (bodyOf Try.prog 5) [1, 1, 1, 1, 1, 0, 1, 0] (retK Try.prog cfg 5 (rsOf Try.prog 5) h0) e t h = Jk5_0 rc md h0 e (t 1) (t 2) (t 6) (t 8) (t 44) (t 45) h := by
  rw [kAt_holes [([1, 1, 1, 1, 1, 1, 0, 1, 0], 1), ([1, 1, 1, 1, 1, 1], 2)] [1, 1, 1, 1, 1, 0, 1, 0] (by kernel_rfl), Jk5_0_h1, show (goX Try.prog cfg rc md 99 (bodyOf Try.prog 5) [([1, 1, 1, 1, 1, 1, 0, 1, 0], 1), ([1, 1, 1, 1, 1, 1], 2)] (retK Try.prog cfg 5 (rsOf Try.prog 5) h0)) 2 = _ from J5_1_cut rc md h0]
  exact Jk5_0_h2 rc md h0 e t h
/-- a round -/
noncomputable def Jr5_0 (rc : Rec) (md : Md) (s1 : Value) (s2 : Value) (s6 : Value) (s8 : Value) (s44 : Value) (s45 : Value) (h : Heap) : Option (((Value × Value × Value × Value × Value × Value) × Heap) ⊕ (Exit × (Value × Value × Value × Value × Value × Value) × Heap)) :=
  aBin Try.prog .lss 3 s45 s44 fun v1 =>
  cBn v1 fun b2 =>
  bif b2 then
    bif okNil Try.prog s8 then
    fA 4 s8 fun v3 =>
    ld1 v3 h fun v4 =>
    let h5 : Heap := h ++ [.own [(.pointer none), (.pointer none), (.slice none 0 0)]]
    let h6 : Heap := h5 ++ [.own [(.pointer (some ⟨h.length, 0, none⟩))]]
    aBuiltin Try.prog md .append #[45, 45] [v4, (.slice (some ⟨h5.length, 0, none⟩) 1 1)] h6 fun v7 h8 =>
    bif okNil Try.prog s8 then
    fA 4 s8 fun v9 =>
    st md 1 v9 v7 h8 fun h10 =>
    aBin Try.prog .add 3 s45 (.int .i64 1) fun v11 =>
    some (.inl ((s1, s2, s6, s8, s44, v11), h10))
    else none
    else none
  else
    some (.inr ((.exit 0), (s1, s2, s6, s8, s44, s45), h))
theorem Jr5_0_at (rc : Rec) (md : Md) (t : T) (h : Heap) : exec Try.prog cfg rc md 99 (sub (bodyOf Try.prog 5) [1, 1, 1, 1, 1, 0, 1, 0, 0]) (rndK (fun t => (t 1, t 2, t 6, t 8, t 44, t 45))) t h = Jr5_0 rc md (t 1) (t 2) (t 6) (t 8) (t 44) (t 45) h := by kernel_rfl
noncomputable def J5_0 (rc : Rec) (md : Md) (h0 : Heap) (s1 : Value) (s2 : Value) (s6 : Value) (s8 : Value) (s44 : Value) (s45 : Value) (h : Heap) : Option (Value × Heap) :=
  runL (fun x : (Value × Value × Value × Value × Value × Value) × Heap => Jr5_0 rc md x.1.1 x.1.2.1 x.1.2.2.1 x.1.2.2.2.1 x.1.2.2.2.2.1 x.1.2.2.2.2.2 x.2) (fun e (s : Value × Value × Value × Value × Value × Value) h => Jk5_0 rc md h0 e s.1 s.2.1 s.2.2.1 s.2.2.2.1 s.2.2.2.2.1 s.2.2.2.2.2 h) (s1, s2, s6, s8, s44, s45) h
theorem J5_0_step (rc : Rec) (md : Md) (h0 : Heap) (s1 : Value) (s2 : Value) (s6 : Value) (s8 : Value) (s44 : Value) (s45 : Value) (h : Heap) : J5_0 rc md h0 s1 s2 s6 s8 s44 s45 h = (Jr5_0 rc md s1 s2 s6 s8 s44 s45 h).bind fun x => match x with
    | .inl (s, h) => J5_0 rc md h0 s.1 s.2.1 s.2.2.1 s.2.2.2.1 s.2.2.2.2.1 s.2.2.2.2.2 h
    | .inr (e, s, h) => Jk5_0 rc md h0 e s.1 s.2.1 s.2.2.1 s.2.2.2.1 s.2.2.2.2.1 s.2.2.2.2.2 h := by
  unfold J5_0
  rw [runL_eq]
  refine congrArg (Option.bind _) (funext fun x => ?_)
  rcases x with ⟨s, h⟩ | ⟨e, s, h⟩ <;> rfl
theorem J5_0_cut (rc : Rec) (md : Md) (h0 : Heap) : cut Try.prog cfg rc md 99 (bodyOf Try.prog 5) [1, 1, 1, 1, 1, 0, 1, 0] (retK Try.prog cfg 5 (rsOf Try.prog 5) h0) = fun t h => J5_0 rc md h0 (t 1) (t 2) (t 6) (t 8) (t 44) (t 45) h := by
  funext t h
  have e : sub (bodyOf Try.prog 5) [1, 1, 1, 1, 1, 0, 1, 0] = .loop (sub (bodyOf Try.prog 5) [1, 1, 1, 1, 1, 0, 1, 0, 0]) := by kernel_rfl
  unfold cut
  rw [e]
  exact loop_eq (by kernel_rfl) (fun t => (t 1, t 2, t 6, t 8, t 44, t 45)) (fun x : (Value × Value × Value × Value × Value × Value) × Heap => Jr5_0 rc md x.1.1 x.1.2.1 x.1.2.2.1 x.1.2.2.2.1 x.1.2.2.2.2.1 x.1.2.2.2.2.2 x.2) (fun t h => Jr5_0_at rc md t h) (fun e (s : Value × Value × Value × Value × Value × Value) h => Jk5_0 rc md h0 e s.1 s.2.1 s.2.2.1 s.2.2.2.1 s.2.2.2.2.1 s.2.2.2.2.2 h) (fun e t h => Jk5_0_at rc md h0 e t h) t h
noncomputable def F5 (rc : Rec) (md : Md) (a0 : Int) (a1 : Int) (a2 : Value) (h0 : Heap) : Option (Value × Heap) :=
  let h1 : Heap := h0 ++ [.own [(.int .i64 0), (.int .i64 0), (.int .i64 0)]]
  st md 3 (.pointer (some ⟨h0.length, 0, none⟩)) (.agg #[(.int .i64 1), (.int .i64 a0), (.int .i64 1)]) h1 fun h2 =>
  (bif wantV (.bool (decide (a0 < 0))) false then
  some ((.int .i64 a0), h2)
  else some (undef, h2)).bind fun p3 =>
  (bif wantV (.bool (decide (a0 < 0))) false then
  aBin Try.prog .gtr 3 p3.1 (.int .i64 48) fun v4 =>
  some (v4, p3.2)
  else some (undef, p3.2)).bind fun p5 =>
  cBn (bif (decide (a0 < 0)) then (.bool true) else p5.1) fun b6 =>
  (bif wantV (.bool b6) false then
  some ((.int .i64 a1), p5.2)
  else some (undef, p5.2)).bind fun p7 =>
  (bif wantV (.bool b6) false then
  aBin Try.prog .lss 3 p7.1 (.int .i64 1) fun v8 =>
  some (v8, p7.2)
  else some (undef, p7.2)).bind fun p9 =>
  cBn (bif b6 then (.bool true) else p9.1) fun b10 =>
  (bif wantV (.bool b10) false then
  some ((.int .i64 a1), p9.2)
  else some (undef, p9.2)).bind fun p11 =>
  (bif wantV (.bool b10) false then
  aBin Try.prog .gtr 3 p11.1 (.int .i64 8) fun v12 =>
  some (v12, p11.2)
  else some (undef, p11.2)).bind fun p13 =>
  cBn (bif b10 then (.bool true) else p13.1) fun b14 =>
  (bif wantV (.bool b14) false then
  some (a2, p13.2)
  else some (undef, p13.2)).bind fun p15 =>
  (bif wantV (.bool b14) false then
  lenS p15.1 fun v16 =>
  cIn .i64 v16 fun n17 =>
  some ((.int .i64 n17), p15.2)
  else some (undef, p15.2)).bind fun p18 =>
  (bif wantV (.bool b14) false then
  aBin Try.prog .gtr 3 p18.1 (.int .i64 200) fun v19 =>
  some (v19, p18.2)
  else some (undef, p18.2)).bind fun p20 =>
  cBn (bif b14 then (.bool true) else p20.1) fun b21 =>
  bif b21 then
    cl (rc md 15 [] p20.2) fun v22 h23 =>
    cBn v22 fun b24 =>
    some ((.bool b24), List.take h0.length h23)
  else
    ldN 3 (.pointer (some ⟨h0.length, 0, none⟩)) p20.2 fun v25 =>
    ldN 3 (.pointer (some ⟨h0.length, 0, none⟩)) p20.2 fun v26 =>
    cl (rc md 16 [v26] p20.2) fun v27 h28 =>
    cLE true (fun hq => ldN 3 (.pointer (some ⟨h0.length, 0, none⟩)) hq some) v25 p20.2 h28 <|
    aBuild Try.prog 47 [(0, v25), (1, v27)] fun v29 =>
    let h30 : Heap := h28 ++ [.own v29.cells.toList]
    ld1 (.pointer (some ⟨h28.length, 3, none⟩)) h30 fun v31 =>
    aBin Try.prog .eql 26 v31 (.pointer none) fun v32 =>
    cBn v32 fun b33 =>
    bif b33 then
      some ((.bool false), List.take h0.length h30)
    else
      J5_0 rc md h0 (.int .i64 a1) a2 (.bool false) (.pointer (some ⟨h28.length, 0, none⟩)) (.int .i64 a1) (.int .i64 0) h30
noncomputable def F5H (rc : Rec) (md : Md) (X0 : T → Heap → Option (Value × Heap)) (a0 : Int) (a1 : Int) (a2 : Value) (h0 : Heap) : Option (Value × Heap) :=
  let h1 : Heap := h0 ++ [.own [(.int .i64 0), (.int .i64 0), (.int .i64 0)]]
  st md 3 (.pointer (some ⟨h0.length, 0, none⟩)) (.agg #[(.int .i64 1), (.int .i64 a0), (.int .i64 1)]) h1 fun h2 =>
  (bif wantV (.bool (decide (a0 < 0))) false then
  some ((.int .i64 a0), h2)
  else some (undef, h2)).bind fun p3 =>
  (bif wantV (.bool (decide (a0 < 0))) false then
  aBin Try.prog .gtr 3 p3.1 (.int .i64 48) fun v4 =>
  some (v4, p3.2)
  else some (undef, p3.2)).bind fun p5 =>
  cBn (bif (decide (a0 < 0)) then (.bool true) else p5.1) fun b6 =>
  (bif wantV (.bool b6) false then
  some ((.int .i64 a1), p5.2)
  else some (undef, p5.2)).bind fun p7 =>
  (bif wantV (.bool b6) false then
  aBin Try.prog .lss 3 p7.1 (.int .i64 1) fun v8 =>
  some (v8, p7.2)
  else some (undef, p7.2)).bind fun p9 =>
  cBn (bif b6 then (.bool true) else p9.1) fun b10 =>
  (bif wantV (.bool b10) false then
  some ((.int .i64 a1), p9.2)
  else some (undef, p9.2)).bind fun p11 =>
  (bif wantV (.bool b10) false then
  aBin Try.prog .gtr 3 p11.1 (.int .i64 8) fun v12 =>
  some (v12, p11.2)
  else some (undef, p11.2)).bind fun p13 =>
  cBn (bif b10 then (.bool true) else p13.1) fun b14 =>
  (bif wantV (.bool b14) false then
  some (a2, p13.2)
  else some (undef, p13.2)).bind fun p15 =>
  (bif wantV (.bool b14) false then
  lenS p15.1 fun v16 =>
  cIn .i64 v16 fun n17 =>
  some ((.int .i64 n17), p15.2)
  else some (undef, p15.2)).bind fun p18 =>
  (bif wantV (.bool b14) false then
  aBin Try.prog .gtr 3 p18.1 (.int .i64 200) fun v19 =>
  some (v19, p18.2)
  else some (undef, p18.2)).bind fun p20 =>
  cBn (bif b14 then (.bool true) else p20.1) fun b21 =>
  bif b21 then
    cl (rc md 15 [] p20.2) fun v22 h23 =>
    cBn v22 fun b24 =>
    some ((.bool b24), List.take h0.length h23)
  else
    ldN 3 (.pointer (some ⟨h0.length, 0, none⟩)) p20.2 fun v25 =>
    ldN 3 (.pointer (some ⟨h0.length, 0, none⟩)) p20.2 fun v26 =>
    cl (rc md 16 [v26] p20.2) fun v27 h28 =>
    cLE true (fun hq => ldN 3 (.pointer (some ⟨h0.length, 0, none⟩)) hq some) v25 p20.2 h28 <|
    aBuild Try.prog 47 [(0, v25), (1, v27)] fun v29 =>
    let h30 : Heap := h28 ++ [.own v29.cells.toList]
    ld1 (.pointer (some ⟨h28.length, 3, none⟩)) h30 fun v31 =>
    aBin Try.prog .eql 26 v31 (.pointer none) fun v32 =>
    cBn v32 fun b33 =>
    bif b33 then
      some ((.bool false), List.take h0.length h30)
    else
      X0 (upd (upd (upd (upd (upd (upd (upd (upd (upd (upd (upd (upd (upd (upd (upd (upd (upd (upd (upd (upd (upd (upd (upd (upd (upd (upd (upd (upd (upd (upd (upd (upd (upd (upd (upd (upd (args0 [(.int .i64 a0), (.int .i64 a1), a2]) 6 (.bool false)) 12 (.int .i64 a0)) 13 (.agg #[(.int .i64 1), (.int .i64 a0), (.int .i64 1)])) 7 (.pointer (some ⟨h0.length, 0, none⟩))) 14 (.int .i64 a0)) 15 (.bool (decide (a0 < 0)))) 16 (.bool (decide (a0 < 0)))) 17 p3.1) 18 p5.1) 19 (.bool b6)) 20 (.bool b6)) 21 p7.1) 22 p9.1) 23 (.bool b10)) 24 (.bool b10)) 25 p11.1) 26 p13.1) 27 (.bool b14)) 28 (.bool b14)) 29 p15.1) 30 p18.1) 31 p20.1) 32 (.bool b21)) 34 v25) 35 v26) 36 v27) 37 v29) 38 (.pointer (some ⟨h28.length, 0, none⟩))) 8 (.pointer (some ⟨h28.length, 0, none⟩))) 39 (.pointer (some ⟨h28.length, 0, none⟩))) 40 (.pointer (some ⟨h28.length, 0, none⟩))) 41 (.pointer (some ⟨h28.length, 3, none⟩))) 42 v31) 43 v32) 44 (.int .i64 a1)) 45 (.int .i64 0)) h30
theorem F5_h0 (rc : Rec) (md : Md) (a0 : Int) (a1 : Int) (a2 : Value) (h0 : Heap) : callStep0 Try.prog cfg rc md 5 [(.int .i64 a0), (.int .i64 a1), a2] h0 = exec Try.prog cfg rc ⟨md.ro, h0.length⟩ 99 (bodyOf Try.prog 5) (retK Try.prog cfg 5 (rsOf Try.prog 5) h0) (args0 [(.int .i64 a0), (.int .i64 a1), a2]) h0 := callStep0_run (by kernel_rfl) (by kernel_rfl) (by kernel_rfl)
theorem F5_h1 (rc : Rec) (md : Md) (X : Nat → T → Heap → Option (Value × Heap)) (a0 : Int) (a1 : Int) (a2 : Value) (h0 : Heap) : execG Try.prog cfg X rc md 99 (replS (bodyOf Try.prog 5) [([1, 1, 1, 1, 1, 0, 1, 0], 0), ([1, 1, 1, 1, 1, 1, 0, 1, 0], 1), ([1, 1, 1, 1, 1, 1], 2)]) (retK Try.prog cfg 5 (rsOf Try.prog 5) h0) (args0 [(.int .i64 a0), (.int .i64 a1), a2]) h0 = F5H rc md (X 0) a0 a1 a2 h0 := by kernel_rfl
theorem F5_h2 (rc : Rec) (md : Md) (a0 : Int) (a1 : Int) (a2 : Value) (h0 : Heap) : F5H rc md (fun t h => J5_0 rc md h0 (t 1) (t 2) (t 6) (t 8) (t 44) (t 45) h) a0 a1 a2 h0 = F5 rc md a0 a1 a2 h0 := by unfold F5H F5; kernel_rfl
theorem F5_eq0 (rc : Rec) (md : Md) (a0 : Int) (a1 : Int) (a2 : Value) (h0 : Heap) : callStep0 Try.prog cfg rc md 5 [(.int .i64 a0), (.int .i64 a1), a2] h0 = F5 rc ⟨md.ro, h0.length⟩ a0 a1 a2 h0 := by
  rw [F5_h0, exec_holes [([1, 1, 1, 1, 1, 0, 1, 0], 0), ([1, 1, 1, 1, 1, 1, 0, 1, 0], 1), ([1, 1, 1, 1, 1, 1], 2)] (by kernel_rfl), F5_h1, show (goX Try.prog cfg rc ⟨md.ro, h0.length⟩ 99 (bodyOf Try.prog 5) [([1, 1, 1, 1, 1, 0, 1, 0], 0), ([1, 1, 1, 1, 1, 1, 0, 1, 0], 1), ([1, 1, 1, 1, 1, 1], 2)] (retK Try.prog cfg 5 (rsOf Try.prog 5) h0)) 0 = _ from J5_0_cut rc ⟨md.ro, h0.length⟩ h0]
  exact F5_h2 rc _ a0 a1 a2 h0
theorem F5_eq (rc : Rec) (md : Md) (a0 : Int) (a1 : Int) (a2 : Value) (h0 : Heap) : callStep Try.prog cfg rc md 5 [(.int .i64 a0), (.int .i64 a1), a2] h0 = F5 rc ⟨md.ro, h0.length⟩ a0 a1 a2 h0 := (callStep_ne (by kernel_rfl)).trans (F5_eq0 rc md a0 a1 a2 h0)

/-- tombolo/tombololaw07.SlotRows -/
noncomputable def Jk6_2 (rc : Rec) (md : Md) (h0 : Heap) (e : Exit) (s0 : Value) (s1 : Value) (s6 : Value) (s7 : Value) (s8 : Value) (s65 : Value) (s66 : Value) (s67 : Value) (h : Heap) : Option (Value × Heap) :=
  match e with
  | .normal =>
    cl (rc md 15 [] h) fun v1 h2 =>
    cBn v1 fun b3 =>
    some ((.bool b3), List.take h0.length h2)
  | .exit j =>
    bif Nat.beq j 2 then
      cl (rc md 15 [] h) fun v4 h5 =>
      cBn v4 fun b6 =>
      some ((.bool b6), List.take h0.length h5)
    else
      none
  | .ret =>
    fin1 h0 s6 h
  | .goto l => none
  | .panic ps => none
  | .outgrown => none
theorem Jk6_2_at (rc : Rec) (md : Md) (h0 : Heap) (e : Exit) (t : T) (h : Heap) : kAt Try.prog cfg rc md 144 (bodyOf Try.prog 6) [1, 1, 1, 1, 1, 1, 0, 1, 0] (retK Try.prog cfg 6 (rsOf Try.prog 6) h0) e t h = Jk6_2 rc md h0 e (t 0) (t 1) (t 6) (t 7) (t 8) (t 65) (t 66) (t 67) h := by cases e <;> kernel_rfl
noncomputable def Jk6_2b2 (rc : Rec) (md : Md) (e : Exit) (s0 : Value) (s1 : Value) (s6 : Value) (s7 : Value) (s8 : Value) (s11 : Value) (s65 : Value) (s66 : Value) (s67 : Value) (s122 : Value) (s123 : Value) (s124 : Value) (h : Heap) : Option (((Value × Value × Value × Value × Value × Value × Value × Value) × Heap) ⊕ (Exit × (Value × Value × Value × Value × Value × Value × Value × Value) × Heap)) :=
  match e with
  | .normal =>
    aBin Try.prog .add 3 s67 (.int .i64 1) fun v1 =>
    some (.inl ((s0, s1, s6, s7, s8, s65, s66, v1), h))
  | .exit j =>
    bif Nat.beq j 6 then
      aBin Try.prog .add 3 s67 (.int .i64 1) fun v2 =>
      some (.inl ((s0, s1, s6, s7, s8, s65, s66, v2), h))
    else
      bif Nat.beq j 3 then
        aBin Try.prog .add 3 s67 (.int .i64 1) fun v3 =>
        some (.inl ((s0, s1, s6, s7, s8, s65, s66, v3), h))
      else
        some (.inr ((.exit j), (s0, s1, s6, s7, s8, s65, s66, s67), h))
  | .ret =>
    some (.inr (.ret, (s0, s1, s6, s7, s8, s65, s66, s67), h))
  | .goto l => some (.inr ((.goto l), (s0, s1, s6, s7, s8, s65, s66, s67), h))
  | .panic ps => some (.inr ((.panic ps), (s0, s1, s6, s7, s8, s65, s66, s67), h))
  | .outgrown => some (.inr (.outgrown, (s0, s1, s6, s7, s8, s65, s66, s67), h))
theorem Jk6_2b2_at (rc : Rec) (md : Md) (e : Exit) (t : T) (h : Heap) : kAt Try.prog cfg rc md 144 (sub (bodyOf Try.prog 6) [1, 1, 1, 1, 1, 1, 0, 1, 0, 0]) [1, 1, 0, 0, 1, 1, 1, 1, 1, 1, 0] (rndK (fun t => (t 0, t 1, t 6, t 7, t 8, t 65, t 66, t 67))) e t h = Jk6_2b2 rc md e (t 0) (t 1) (t 6) (t 7) (t 8) (t 11) (t 65) (t 66) (t 67) (t 122) (t 123) (t 124) h := by cases e <;> kernel_rfl
noncomputable def Jk6_2b2b0 (rc : Rec) (md : Md) (e : Exit) (s0 : Value) (s1 : Value) (s6 : Value) (s7 : Value) (s8 : Value) (s11 : Value) (s65 : Value) (s66 : Value) (s67 : Value) (s122 : Value) (s123 : Value) (s124 : Value) (s131 : Value) (s132 : Value) (s133 : Value) (h : Heap) : Option (((Value × Value × Value × Value × Value × Value × Value × Value × Value × Value × Value × Value) × Heap) ⊕ (Exit × (Value × Value × Value × Value × Value × Value × Value × Value × Value × Value × Value × Value) × Heap)) :=
  match e with
  | .normal =>
    aBin Try.prog .add 3 s124 (.int .i64 1) fun v1 =>
    some (.inl ((s0, s1, s6, s7, s8, s11, s65, s66, s67, s122, s123, v1), h))
  | .exit j =>
    bif Nat.beq j 8 then
      aBin Try.prog .add 3 s124 (.int .i64 1) fun v2 =>
      some (.inl ((s0, s1, s6, s7, s8, s11, s65, s66, s67, s122, s123, v2), h))
    else
      bif Nat.beq j 7 then
        aBin Try.prog .add 3 s124 (.int .i64 1) fun v3 =>
        some (.inl ((s0, s1, s6, s7, s8, s11, s65, s66, s67, s122, s123, v3), h))
      else
        some (.inr ((.exit j), (s0, s1, s6, s7, s8, s11, s65, s66, s67, s122, s123, s124), h))
  | .ret =>
    some (.inr (.ret, (s0, s1, s6, s7, s8, s11, s65, s66, s67, s122, s123, s124), h))
  | .goto l => some (.inr ((.goto l), (s0, s1, s6, s7, s8, s11, s65, s66, s67, s122, s123, s124), h))
  | .panic ps => some (.inr ((.panic ps), (s0, s1, s6, s7, s8, s11, s65, s66, s67, s122, s123, s124), h))
  | .outgrown => some (.inr (.outgrown, (s0, s1, s6, s7, s8, s11, s65, s66, s67, s122, s123, s124), h))
theorem Jk6_2b2b0_at (rc : Rec) (md : Md) (e : Exit) (t : T) (h : Heap) : kAt Try.prog cfg rc md 144 (sub (bodyOf Try.prog 6) [1, 1, 1, 1, 1, 1, 0, 1, 0, 0, 1, 1, 0, 0, 1, 1, 1, 1, 1, 1, 0, 0]) [1, 1, 0, 0, 1, 1, 0] (rndK (fun t => (t 0, t 1, t 6, t 7, t 8, t 11, t 65, t 66, t 67, t 122, t 123, t 124))) e t h = Jk6_2b2b0 rc md e (t 0) (t 1) (t 6) (t 7) (t 8) (t 11) (t 65) (t 66) (t 67) (t 122) (t 123) (t 124) (t 131) (t 132) (t 133) h := by cases e <;> kernel_rfl
/-- a round -/
noncomputable def Jr6_2b2b0 (rc : Rec) (md : Md) (s0 : Value) (s1 : Value) (s6 : Value) (s7 : Value) (s8 : Value) (s11 : Value) (s65 : Value) (s66 : Value) (s67 : Value) (s122 : Value) (s123 : Value) (s124 : Value) (s131 : Value) (s132 : Value) (s133 : Value) (h : Heap) : Option (((Value × Value × Value × Value × Value × Value × Value × Value × Value × Value × Value × Value × Value × Value × Value) × Heap) ⊕ (Exit × (Value × Value × Value × Value × Value × Value × Value × Value × Value × Value × Value × Value × Value × Value × Value) × Heap)) :=
  aBin Try.prog .lss 3 s133 s132 fun v1 =>
  cBn v1 fun b2 =>
  bif b2 then
    ixSV 1 s131 s133 fun v3 =>
    ld1 v3 h fun v4 =>
    cIn .i64 v4 fun n5 =>
    aLookup Try.prog 56 s11 (.int .i64 n5) false h fun v6 =>
    cBn v6 fun b7 =>
    bif b7 then
      some (.inr (.ret, (s0, s1, (.bool false), s7, s8, s11, s65, s66, s67, s122, s123, s124, s131, s132, s133), h))
    else
      aBin Try.prog .add 3 s133 (.int .i64 1) fun v8 =>
      some (.inl ((s0, s1, s6, s7, s8, s11, s65, s66, s67, s122, s123, s124, s131, s132, v8), h))
  else
    some (.inr ((.exit 8), (s0, s1, s6, s7, s8, s11, s65, s66, s67, s122, s123, s124, s131, s132, s133), h))
theorem Jr6_2b2b0_at (rc : Rec) (md : Md) (t : T) (h : Heap) : exec Try.prog cfg rc md 144 (sub (bodyOf Try.prog 6) [1, 1, 1, 1, 1, 1, 0, 1, 0, 0, 1, 1, 0, 0, 1, 1, 1, 1, 1, 1, 0, 0, 1, 1, 0, 0, 1, 1, 0, 0]) (rndK (fun t => (t 0, t 1, t 6, t 7, t 8, t 11, t 65, t 66, t 67, t 122, t 123, t 124, t 131, t 132, t 133))) t h = Jr6_2b2b0 rc md (t 0) (t 1) (t 6) (t 7) (t 8) (t 11) (t 65) (t 66) (t 67) (t 122) (t 123) (t 124) (t 131) (t 132) (t 133) h := by kernel_rfl
noncomputable def J6_2b2b0 (rc : Rec) (md : Md) (s0 : Value) (s1 : Value) (s6 : Value) (s7 : Value) (s8 : Value) (s11 : Value) (s65 : Value) (s66 : Value) (s67 : Value) (s122 : Value) (s123 : Value) (s124 : Value) (s131 : Value) (s132 : Value) (s133 : Value) (h : Heap) : Option (((Value × Value × Value × Value × Value × Value × Value × Value × Value × Value × Value × Value) × Heap) ⊕ (Exit × (Value × Value × Value × Value × Value × Value × Value × Value × Value × Value × Value × Value) × Heap)) :=
  runL (fun x : (Value × Value × Value × Value × Value × Value × Value × Value × Value × Value × Value × Value × Value × Value × Value) × Heap => Jr6_2b2b0 rc md x.1.1 x.1.2.1 x.1.2.2.1 x.1.2.2.2.1 x.1.2.2.2.2.1 x.1.2.2.2.2.2.1 x.1.2.2.2.2.2.2.1 x.1.2.2.2.2.2.2.2.1 x.1.2.2.2.2.2.2.2.2.1 x.1.2.2.2.2.2.2.2.2.2.1 x.1.2.2.2.2.2.2.2.2.2.2.1 x.1.2.2.2.2.2.2.2.2.2.2.2.1 x.1.2.2.2.2.2.2.2.2.2.2.2.2.1 x.1.2.2.2.2.2.2.2.2.2.2.2.2.2.1 x.1.2.2.2.2.2.2.2.2.2.2.2.2.2.2 x.2) (fun e (s : Value × Value × Value × Value × Value × Value × Value × Value × Value × Value × Value × Value × Value × Value × Value) h => Jk6_2b2b0 rc md e s.1 s.2.1 s.2.2.1 s.2.2.2.1 s.2.2.2.2.1 s.2.2.2.2.2.1 s.2.2.2.2.2.2.1 s.2.2.2.2.2.2.2.1 s.2.2.2.2.2.2.2.2.1 s.2.2.2.2.2.2.2.2.2.1 s.2.2.2.2.2.2.2.2.2.2.1 s.2.2.2.2.2.2.2.2.2.2.2.1 s.2.2.2.2.2.2.2.2.2.2.2.2.1 s.2.2.2.2.2.2.2.2.2.2.2.2.2.1 s.2.2.2.2.2.2.2.2.2.2.2.2.2.2 h) (s0, s1, s6, s7, s8, s11, s65, s66, s67, s122, s123, s124, s131, s132, s133) h
theorem J6_2b2b0_step (rc : Rec) (md : Md) (s0 : Value) (s1 : Value) (s6 : Value) (s7 : Value) (s8 : Value) (s11 : Value) (s65 : Value) (s66 : Value) (s67 : Value) (s122 : Value) (s123 : Value) (s124 : Value) (s131 : Value) (s132 : Value) (s133 : Value) (h : Heap) : J6_2b2b0 rc md s0 s1 s6 s7 s8 s11 s65 s66 s67 s122 s123 s124 s131 s132 s133 h = (Jr6_2b2b0 rc md s0 s1 s6 s7 s8 s11 s65 s66 s67 s122 s123 s124 s131 s132 s133 h).bind fun x => match x with
    | .inl (s, h) => J6_2b2b0 rc md s.1 s.2.1 s.2.2.1 s.2.2.2.1 s.2.2.2.2.1 s.2.2.2.2.2.1 s.2.2.2.2.2.2.1 s.2.2.2.2.2.2.2.1 s.2.2.2.2.2.2.2.2.1 s.2.2.2.2.2.2.2.2.2.1 s.2.2.2.2.2.2.2.2.2.2.1 s.2.2.2.2.2.2.2.2.2.2.2.1 s.2.2.2.2.2.2.2.2.2.2.2.2.1 s.2.2.2.2.2.2.2.2.2.2.2.2.2.1 s.2.2.2.2.2.2.2.2.2.2.2.2.2.2 h
    | .inr (e, s, h) => Jk6_2b2b0 rc md e s.1 s.2.1 s.2.2.1 s.2.2.2.1 s.2.2.2.2.1 s.2.2.2.2.2.1 s.2.2.2.2.2.2.1 s.2.2.2.2.2.2.2.1 s.2.2.2.2.2.2.2.2.1 s.2.2.2.2.2.2.2.2.2.1 s.2.2.2.2.2.2.2.2.2.2.1 s.2.2.2.2.2.2.2.2.2.2.2.1 s.2.2.2.2.2.2.2.2.2.2.2.2.1 s.2.2.2.2.2.2.2.2.2.2.2.2.2.1 s.2.2.2.2.2.2.2.2.2.2.2.2.2.2 h := by
  unfold J6_2b2b0
  rw [runL_eq]
  refine congrArg (Option.bind _) (funext fun x => ?_)
  rcases x with ⟨s, h⟩ | ⟨e, s, h⟩ <;> rfl
theorem J6_2b2b0_cut (rc : Rec) (md : Md) : cut Try.prog cfg rc md 144 (sub (bodyOf Try.prog 6) [1, 1, 1, 1, 1, 1, 0, 1, 0, 0, 1, 1, 0, 0, 1, 1, 1, 1, 1, 1, 0, 0]) [1, 1, 0, 0, 1, 1, 0] (rndK (fun t => (t 0, t 1, t 6, t 7, t 8, t 11, t 65, t 66, t 67, t 122, t 123, t 124))) = fun t h => J6_2b2b0 rc md (t 0) (t 1) (t 6) (t 7) (t 8) (t 11) (t 65) (t 66) (t 67) (t 122) (t 123) (t 124) (t 131) (t 132) (t 133) h := by
  funext t h
  have e : sub (sub (bodyOf Try.prog 6) [1, 1, 1, 1, 1, 1, 0, 1, 0, 0, 1, 1, 0, 0, 1, 1, 1, 1, 1, 1, 0, 0]) [1, 1, 0, 0, 1, 1, 0] = .loop (sub (bodyOf Try.prog 6) [1, 1, 1, 1, 1, 1, 0, 1, 0, 0, 1, 1, 0, 0, 1, 1, 1, 1, 1, 1, 0, 0, 1, 1, 0, 0, 1, 1, 0, 0]) := by kernel_rfl
  unfold cut
  rw [e]
  exact loop_eq (by kernel_rfl) (fun t => (t 0, t 1, t 6, t 7, t 8, t 11, t 65, t 66, t 67, t 122, t 123, t 124, t 131, t 132, t 133)) (fun x : (Value × Value × Value × Value × Value × Value × Value × Value × Value × Value × Value × Value × Value × Value × Value) × Heap => Jr6_2b2b0 rc md x.1.1 x.1.2.1 x.1.2.2.1 x.1.2.2.2.1 x.1.2.2.2.2.1 x.1.2.2.2.2.2.1 x.1.2.2.2.2.2.2.1 x.1.2.2.2.2.2.2.2.1 x.1.2.2.2.2.2.2.2.2.1 x.1.2.2.2.2.2.2.2.2.2.1 x.1.2.2.2.2.2.2.2.2.2.2.1 x.1.2.2.2.2.2.2.2.2.2.2.2.1 x.1.2.2.2.2.2.2.2.2.2.2.2.2.1 x.1.2.2.2.2.2.2.2.2.2.2.2.2.2.1 x.1.2.2.2.2.2.2.2.2.2.2.2.2.2.2 x.2) (fun t h => Jr6_2b2b0_at rc md t h) (fun e (s : Value × Value × Value × Value × Value × Value × Value × Value × Value × Value × Value × Value × Value × Value × Value) h => Jk6_2b2b0 rc md e s.1 s.2.1 s.2.2.1 s.2.2.2.1 s.2.2.2.2.1 s.2.2.2.2.2.1 s.2.2.2.2.2.2.1 s.2.2.2.2.2.2.2.1 s.2.2.2.2.2.2.2.2.1 s.2.2.2.2.2.2.2.2.2.1 s.2.2.2.2.2.2.2.2.2.2.1 s.2.2.2.2.2.2.2.2.2.2.2.1 s.2.2.2.2.2.2.2.2.2.2.2.2.1 s.2.2.2.2.2.2.2.2.2.2.2.2.2.1 s.2.2.2.2.2.2.2.2.2.2.2.2.2.2 h) (fun e t h => Jk6_2b2b0_at rc md e t h) t h
/-- a round -/
noncomputable def Jr6_2b2 (rc : Rec) (md : Md) (s0 : Value) (s1 : Value) (s6 : Value) (s7 : Value) (s8 : Value) (s11 : Value) (s65 : Value) (s66 : Value) (s67 : Value) (s122 : Value) (s123 : Value) (s124 : Value) (h : Heap) : Option (((Value × Value × Value × Value × Value × Value × Value × Value × Value × Value × Value × Value) × Heap) ⊕ (Exit × (Value × Value × Value × Value × Value × Value × Value × Value × Value × Value × Value × Value) × Heap)) :=
  aBin Try.prog .lss 3 s124 s123 fun v1 =>
  cBn v1 fun b2 =>
  bif b2 then
    ixSV 1 s122 s124 fun v3 =>
    ld1 v3 h fun v4 =>
    bif okNil Try.prog v4 then
    fA 2 v4 fun v5 =>
    ld1 v5 h fun v6 =>
    lenS v6 fun v7 =>
    cIn .i64 v7 fun n8 =>
    J6_2b2b0 rc md s0 s1 s6 s7 s8 s11 s65 s66 s67 s122 s123 s124 v6 (.int .i64 n8) (.int .i64 0) h
    else none
  else
    some (.inr ((.exit 6), (s0, s1, s6, s7, s8, s11, s65, s66, s67, s122, s123, s124), h))
noncomputable def Jr6_2b2H (rc : Rec) (md : Md) (X0 : T → Heap → Option (((Value × Value × Value × Value × Value × Value × Value × Value × Value × Value × Value × Value) × Heap) ⊕ (Exit × (Value × Value × Value × Value × Value × Value × Value × Value × Value × Value × Value × Value) × Heap))) (t : T) (h : Heap) : Option (((Value × Value × Value × Value × Value × Value × Value × Value × Value × Value × Value × Value) × Heap) ⊕ (Exit × (Value × Value × Value × Value × Value × Value × Value × Value × Value × Value × Value × Value) × Heap)) :=
  aBin Try.prog .lss 3 (t 124) (t 123) fun v1 =>
  cBn v1 fun b2 =>
  bif b2 then
    ixSV 1 (t 122) (t 124) fun v3 =>
    ld1 v3 h fun v4 =>
    bif okNil Try.prog v4 then
    fA 2 v4 fun v5 =>
    ld1 v5 h fun v6 =>
    lenS v6 fun v7 =>
    cIn .i64 v7 fun n8 =>
    X0 (upd (upd (upd (upd (upd (upd (upd (upd (upd (upd t 125 v1) 126 v3) 127 v4) 15 v4) 128 v4) 129 v4) 130 v5) 131 v6) 132 (.int .i64 n8)) 133 (.int .i64 0)) h
    else none
  else
    some (.inr ((.exit 6), ((t 0), (t 1), (t 6), (t 7), (t 8), (t 11), (t 65), (t 66), (t 67), (t 122), (t 123), (t 124)), h))
theorem Jr6_2b2_h1 (rc : Rec) (md : Md) (X : Nat → T → Heap → Option (((Value × Value × Value × Value × Value × Value × Value × Value × Value × Value × Value × Value) × Heap) ⊕ (Exit × (Value × Value × Value × Value × Value × Value × Value × Value × Value × Value × Value × Value) × Heap))) (t : T) (h : Heap) : execG Try.prog cfg X rc md 144 (replS (sub (bodyOf Try.prog 6) [1, 1, 1, 1, 1, 1, 0, 1, 0, 0, 1, 1, 0, 0, 1, 1, 1, 1, 1, 1, 0, 0]) [([1, 1, 0, 0, 1, 1, 0], 0)]) (rndK (fun t => (t 0, t 1, t 6, t 7, t 8, t 11, t 65, t 66, t 67, t 122, t 123, t 124))) t h = Jr6_2b2H rc md (X 0) t h := by kernel_rfl
theorem Jr6_2b2_h2 (rc : Rec) (md : Md) (t : T) (h : Heap) : Jr6_2b2H rc md (fun t h => J6_2b2b0 rc md (t 0) (t 1) (t 6) (t 7) (t 8) (t 11) (t 65) (t 66) (t 67) (t 122) (t 123) (t 124) (t 131) (t 132) (t 133) h) t h = Jr6_2b2 rc md (t 0) (t 1) (t 6) (t 7) (t 8) (t 11) (t 65) (t 66) (t 67) (t 122) (t 123) (t 124) h := by unfold Jr6_2b2H Jr6_2b2; kernel_rfl
theorem Jr6_2b2_at (rc : Rec) (md : Md) (t : T) (h : Heap) : exec Try.prog cfg rc md 144 (sub (bodyOf Try.prog 6) [1, 1, 1, 1, 1, 1, 0, 1, 0, 0, 1, 1, 0, 0, 1, 1, 1, 1, 1, 1, 0, 0]) (rndK (fun t => (t 0, t 1, t 6, t 7, t 8, t 11, t 65, t 66, t 67, t 122, t 123, t 124))) t h = Jr6_2b2 rc md (t 0) (t 1) (t 6) (t 7) (t 8) (t 11) (t 65) (t 66) (t 67) (t 122) (t 123) (t 124) h := by
  rw [exec_holes [([1, 1, 0, 0, 1, 1, 0], 0)] (by kernel_rfl), Jr6_2b2_h1, show (goX Try.prog cfg rc md 144 (sub (bodyOf Try.prog 6) [1, 1, 1, 1, 1, 1, 0, 1, 0, 0, 1, 1, 0, 0, 1, 1, 1, 1, 1, 1, 0, 0]) [([1, 1, 0, 0, 1, 1, 0], 0)] (rndK (fun t => (t 0, t 1, t 6, t 7, t 8, t 11, t 65, t 66, t 67, t 122, t 123, t 124)))) 0 = _ from J6_2b2b0_cut rc md]
  exact Jr6_2b2_h2 rc md t h
noncomputable def J6_2b2 (rc : Rec) (md : Md) (s0 : Value) (s1 : Value) (s6 : Value) (s7 : Value) (s8 : Value) (s11 : Value) (s65 : Value) (s66 : Value) (s67 : Value) (s122 : Value) (s123 : Value) (s124 : Value) (h : Heap) : Option (((Value × Value × Value × Value × Value × Value × Value × Value) × Heap) ⊕ (Exit × (Value × Value × Value × Value × Value × Value × Value × Value) × Heap)) :=
  runL (fun x : (Value × Value × Value × Value × Value × Value × Value × Value × Value × Value × Value × Value) × Heap => Jr6_2b2 rc md x.1.1 x.1.2.1 x.1.2.2.1 x.1.2.2.2.1 x.1.2.2.2.2.1 x.1.2.2.2.2.2.1 x.1.2.2.2.2.2.2.1 x.1.2.2.2.2.2.2.2.1 x.1.2.2.2.2.2.2.2.2.1 x.1.2.2.2.2.2.2.2.2.2.1 x.1.2.2.2.2.2.2.2.2.2.2.1 x.1.2.2.2.2.2.2.2.2.2.2.2 x.2) (fun e (s : Value × Value × Value × Value × Value × Value × Value × Value × Value × Value × Value × Value) h => Jk6_2b2 rc md e s.1 s.2.1 s.2.2.1 s.2.2.2.1 s.2.2.2.2.1 s.2.2.2.2.2.1 s.2.2.2.2.2.2.1 s.2.2.2.2.2.2.2.1 s.2.2.2.2.2.2.2.2.1 s.2.2.2.2.2.2.2.2.2.1 s.2.2.2.2.2.2.2.2.2.2.1 s.2.2.2.2.2.2.2.2.2.2.2 h) (s0, s1, s6, s7, s8, s11, s65, s66, s67, s122, s123, s124) h
theorem J6_2b2_step (rc : Rec) (md : Md) (s0 : Value) (s1 : Value) (s6 : Value) (s7 : Value) (s8 : Value) (s11 : Value) (s65 : Value) (s66 : Value) (s67 : Value) (s122 : Value) (s123 : Value) (s124 : Value) (h : Heap) : J6_2b2 rc md s0 s1 s6 s7 s8 s11 s65 s66 s67 s122 s123 s124 h = (Jr6_2b2 rc md s0 s1 s6 s7 s8 s11 s65 s66 s67 s122 s123 s124 h).bind fun x => match x with
    | .inl (s, h) => J6_2b2 rc md s.1 s.2.1 s.2.2.1 s.2.2.2.1 s.2.2.2.2.1 s.2.2.2.2.2.1 s.2.2.2.2.2.2.1 s.2.2.2.2.2.2.2.1 s.2.2.2.2.2.2.2.2.1 s.2.2.2.2.2.2.2.2.2.1 s.2.2.2.2.2.2.2.2.2.2.1 s.2.2.2.2.2.2.2.2.2.2.2 h
    | .inr (e, s, h) => Jk6_2b2 rc md e s.1 s.2.1 s.2.2.1 s.2.2.2.1 s.2.2.2.2.1 s.2.2.2.2.2.1 s.2.2.2.2.2.2.1 s.2.2.2.2.2.2.2.1 s.2.2.2.2.2.2.2.2.1 s.2.2.2.2.2.2.2.2.2.1 s.2.2.2.2.2.2.2.2.2.2.1 s.2.2.2.2.2.2.2.2.2.2.2 h := by
  unfold J6_2b2
  rw [runL_eq]
  refine congrArg (Option.bind _) (funext fun x => ?_)
  rcases x with ⟨s, h⟩ | ⟨e, s, h⟩ <;> rfl
theorem J6_2b2_cut (rc : Rec) (md : Md) : cut Try.prog cfg rc md 144 (sub (bodyOf Try.prog 6) [1, 1, 1, 1, 1, 1, 0, 1, 0, 0]) [1, 1, 0, 0, 1, 1, 1, 1, 1, 1, 0] (rndK (fun t => (t 0, t 1, t 6, t 7, t 8, t 65, t 66, t 67))) = fun t h => J6_2b2 rc md (t 0) (t 1) (t 6) (t 7) (t 8) (t 11) (t 65) (t 66) (t 67) (t 122) (t 123) (t 124) h := by
  funext t h
  have e : sub (sub (bodyOf Try.prog 6) [1, 1, 1, 1, 1, 1, 0, 1, 0, 0]) [1, 1, 0, 0, 1, 1, 1, 1, 1, 1, 0] = .loop (sub (bodyOf Try.prog 6) [1, 1, 1, 1, 1, 1, 0, 1, 0, 0, 1, 1, 0, 0, 1, 1, 1, 1, 1, 1, 0, 0]) := by kernel_rfl
  unfold cut
  rw [e]
  exact loop_eq (by kernel_rfl) (fun t => (t 0, t 1, t 6, t 7, t 8, t 11, t 65, t 66, t 67, t 122, t 123, t 124)) (fun x : (Value × Value × Value × Value × Value × Value × Value × Value × Value × Value × Value × Value) × Heap => Jr6_2b2 rc md x.1.1 x.1.2.1 x.1.2.2.1 x.1.2.2.2.1 x.1.2.2.2.2.1 x.1.2.2.2.2.2.1 x.1.2.2.2.2.2.2.1 x.1.2.2.2.2.2.2.2.1 x.1.2.2.2.2.2.2.2.2.1 x.1.2.2.2.2.2.2.2.2.2.1 x.1.2.2.2.2.2.2.2.2.2.2.1 x.1.2.2.2.2.2.2.2.2.2.2.2 x.2) (fun t h => Jr6_2b2_at rc md t h) (fun e (s : Value × Value × Value × Value × Value × Value × Value × Value × Value × Value × Value × Value) h => Jk6_2b2 rc md e s.1 s.2.1 s.2.2.1 s.2.2.2.1 s.2.2.2.2.1 s.2.2.2.2.2.1 s.2.2.2.2.2.2.1 s.2.2.2.2.2.2.2.1 s.2.2.2.2.2.2.2.2.1 s.2.2.2.2.2.2.2.2.2.1 s.2.2.2.2.2.2.2.2.2.2.1 s.2.2.2.2.2.2.2.2.2.2.2 h) (fun e t h => Jk6_2b2_at rc md e t h) t h
noncomputable def J6_2b1 (rc : Rec) (md : Md) (s0 : Value) (s1 : Value) (s6 : Value) (s7 : Value) (s8 : Value) (s11 : Value) (s65 : Value) (s66 : Value) (s67 : Value) (h : Heap) : Option (((Value × Value × Value × Value × Value × Value × Value × Value) × Heap) ⊕ (Exit × (Value × Value × Value × Value × Value × Value × Value × Value) × Heap)) :=
  bif okNil Try.prog s8 then
  fA 4 s8 fun v1 =>
  ld1 v1 h fun v2 =>
  lenS v2 fun v3 =>
  cIn .i64 v3 fun n4 =>
  J6_2b2 rc md s0 s1 s6 s7 s8 s11 s65 s66 s67 v2 (.int .i64 n4) (.int .i64 0) h
  else none
noncomputable def J6_2b1H (rc : Rec) (md : Md) (X1 : T → Heap → Option (((Value × Value × Value × Value × Value × Value × Value × Value) × Heap) ⊕ (Exit × (Value × Value × Value × Value × Value × Value × Value × Value) × Heap))) (t : T) (h : Heap) : Option (((Value × Value × Value × Value × Value × Value × Value × Value) × Heap) ⊕ (Exit × (Value × Value × Value × Value × Value × Value × Value × Value) × Heap)) :=
  bif okNil Try.prog (t 8) then
  fA 4 (t 8) fun v1 =>
  ld1 v1 h fun v2 =>
  lenS v2 fun v3 =>
  cIn .i64 v3 fun n4 =>
  X1 (upd (upd (upd (upd (upd (upd t 119 (t 8)) 120 (t 8)) 121 v1) 122 v2) 123 (.int .i64 n4)) 124 (.int .i64 0)) h
  else none
theorem J6_2b1_h1 (rc : Rec) (md : Md) (X : Nat → T → Heap → Option (((Value × Value × Value × Value × Value × Value × Value × Value) × Heap) ⊕ (Exit × (Value × Value × Value × Value × Value × Value × Value × Value) × Heap))) (t : T) (h : Heap) : execG Try.prog cfg X rc md 144 (sub (replS (sub (bodyOf Try.prog 6) [1, 1, 1, 1, 1, 1, 0, 1, 0, 0]) [([1, 1, 0, 0, 1, 1, 1, 1, 0, 1, 0], 0), ([1, 1, 0, 0, 1, 1, 1, 1, 1, 1, 0], 1)]) [1, 1, 0, 0, 1, 1, 1, 1, 1]) (kAtG Try.prog cfg X rc md 144 (replS (sub (bodyOf Try.prog 6) [1, 1, 1, 1, 1, 1, 0, 1, 0, 0]) [([1, 1, 0, 0, 1, 1, 1, 1, 0, 1, 0], 0), ([1, 1, 0, 0, 1, 1, 1, 1, 1, 1, 0], 1)]) [1, 1, 0, 0, 1, 1, 1, 1, 1] (rndK (fun t => (t 0, t 1, t 6, t 7, t 8, t 65, t 66, t 67)))) t h = J6_2b1H rc md (X 1) t h := by kernel_rfl
theorem J6_2b1_h2 (rc : Rec) (md : Md) (t : T) (h : Heap) : J6_2b1H rc md (fun t h => J6_2b2 rc md (t 0) (t 1) (t 6) (t 7) (t 8) (t 11) (t 65) (t 66) (t 67) (t 122) (t 123) (t 124) h) t h = J6_2b1 rc md (t 0) (t 1) (t 6) (t 7) (t 8) (t 11) (t 65) (t 66) (t 67) h := by (unfold J6_2b1H J6_2b1; kernel_rfl)
theorem J6_2b1_at (rc : Rec) (md : Md) (t : T) (h : Heap) : cut Try.prog cfg rc md 144 (sub (bodyOf Try.prog 6) [1, 1, 1, 1, 1, 1, 0, 1, 0, 0]) [1, 1, 0, 0, 1, 1, 1, 1, 1] (rndK (fun t => (t 0, t 1, t 6, t 7, t 8, t 65, t 66, t 67))) t h = J6_2b1 rc md (t 0) (t 1) (t 6) (t 7) (t 8) (t 11) (t 65) (t 66) (t 67) h := by
  rw [cut_holes [([1, 1, 0, 0, 1, 1, 1, 1, 0, 1, 0], 0), ([1, 1, 0, 0, 1, 1, 1, 1, 1, 1, 0], 1)] [1, 1, 0, 0, 1, 1, 1, 1, 1] (by kernel_rfl), J6_2b1_h1, show (goX Try.prog cfg rc md 144 (sub (bodyOf Try.prog 6) [1, 1, 1, 1, 1, 1, 0, 1, 0, 0]) [([1, 1, 0, 0, 1, 1, 1, 1, 0, 1, 0], 0), ([1, 1, 0, 0, 1, 1, 1, 1, 1, 1, 0], 1)] (rndK (fun t => (t 0, t 1, t 6, t 7, t 8, t 65, t 66, t 67)))) 1 = _ from J6_2b2_cut rc md]
  exact J6_2b1_h2 rc md t h
theorem J6_2b1_cut (rc : Rec) (md : Md) : cut Try.prog cfg rc md 144 (sub (bodyOf Try.prog 6) [1, 1, 1, 1, 1, 1, 0, 1, 0, 0]) [1, 1, 0, 0, 1, 1, 1, 1, 1] (rndK (fun t => (t 0, t 1, t 6, t 7, t 8, t 65, t 66, t 67))) = fun t h => J6_2b1 rc md (t 0) (t 1) (t 6) (t 7) (t 8) (t 11) (t 65) (t 66) (t 67) h := funext fun t => funext fun h => J6_2b1_at rc md t h
noncomputable def Jk6_2b0 (rc : Rec) (md : Md) (e : Exit) (s0 : Value) (s1 : Value) (s6 : Value) (s7 : Value) (s8 : Value) (s11 : Value) (s65 : Value) (s66 : Value) (s67 : Value) (s98 : Value) (s99 : Value) (s100 : Value) (h : Heap) : Option (((Value × Value × Value × Value × Value × Value × Value × Value) × Heap) ⊕ (Exit × (Value × Value × Value × Value × Value × Value × Value × Value) × Heap)) :=
  match e with
  | .normal =>
    J6_2b1 rc md s0 s1 s6 s7 s8 s11 s65 s66 s67 h
  | .exit j =>
    bif Nat.beq j 4 then
      J6_2b1 rc md s0 s1 s6 s7 s8 s11 s65 s66 s67 h
    else
      bif Nat.beq j 3 then
        aBin Try.prog .add 3 s67 (.int .i64 1) fun v1 =>
        some (.inl ((s0, s1, s6, s7, s8, s65, s66, v1), h))
      else
        some (.inr ((.exit j), (s0, s1, s6, s7, s8, s65, s66, s67), h))
  | .ret =>
    some (.inr (.ret, (s0, s1, s6, s7, s8, s65, s66, s67), h))
  | .goto l => some (.inr ((.goto l), (s0, s1, s6, s7, s8, s65, s66, s67), h))
  | .panic ps => some (.inr ((.panic ps), (s0, s1, s6, s7, s8, s65, s66, s67), h))
  | .outgrown => some (.inr (.outgrown, (s0, s1, s6, s7, s8, s65, s66, s67), h))
noncomputable def Jk6_2b0H (rc : Rec) (md : Md) (X2 : T → Heap → Option (((Value × Value × Value × Value × Value × Value × Value × Value) × Heap) ⊕ (Exit × (Value × Value × Value × Value × Value × Value × Value × Value) × Heap))) (e : Exit) (t : T) (h : Heap) : Option (((Value × Value × Value × Value × Value × Value × Value × Value) × Heap) ⊕ (Exit × (Value × Value × Value × Value × Value × Value × Value × Value) × Heap)) :=
  match e with
  | .normal =>
    X2 t h
  | .exit j =>
    bif Nat.beq j 4 then
      X2 t h
    else
      bif Nat.beq j 3 then
        aBin Try.prog .add 3 (t 67) (.int .i64 1) fun v1 =>
        some (.inl (((t 0), (t 1), (t 6), (t 7), (t 8), (t 65), (t 66), v1), h))
      else
        some (.inr ((.exit j), ((t 0), (t 1), (t 6), (t 7), (t 8), (t 65), (t 66), (t 67)), h))
  | .ret =>
    some (.inr (.ret, ((t 0), (t 1), (t 6), (t 7), (t 8), (t 65), (t 66), (t 67)), h))
  | .goto l => some (.inr ((.goto l), ((t 0), (t 1), (t 6), (t 7), (t 8), (t 65), (t 66), (t 67)), h))
  | .panic ps => some (.inr ((.panic ps), ((t 0), (t 1), (t 6), (t 7), (t 8), (t 65), (t 66), (t 67)), h))
  | .outgrown => some (.inr (.outgrown, ((t 0), (t 1), (t 6), (t 7), (t 8), (t 65), (t 66), (t 67)), h))
theorem Jk6_2b0_h1 (rc : Rec) (md : Md) (X : Nat → T → Heap → Option (((Value × Value × Value × Value × Value × Value × Value × Value) × Heap) ⊕ (Exit × (Value × Value × Value × Value × Value × Value × Value × Value) × Heap))) (e : Exit) (t : T) (h : Heap) : kAtG Try.prog cfg X rc md 144 (replS (sub (bodyOf Try.prog 6) [1, 1, 1, 1, 1, 1, 0, 1, 0, 0]) [([1, 1, 0, 0, 1, 1, 1, 1, 1, 1, 0], 1), ([1, 1, 0, 0, 1, 1, 1, 1, 1], 2)]) [1, 1, 0, 0, 1, 1, 1, 1, 0, 1, 0] (rndK (fun t => (t 0, t 1, t 6, t 7, t 8, t 65, t 66, t 67))) e t h = Jk6_2b0H rc md (X 2) e t h := by cases e <;> kernel_rfl
theorem Jk6_2b0_h2 (rc : Rec) (md : Md) (e : Exit) (t : T) (h : Heap) : Jk6_2b0H rc md (fun t h => J6_2b1 rc md (t 0) (t 1) (t 6) (t 7) (t 8) (t 11) (t 65) (t 66) (t 67) h) e t h = Jk6_2b0 rc md e (t 0) (t 1) (t 6) (t 7) (t 8) (t 11) (t 65) (t 66) (t 67) (t 98) (t 99) (t 100) h := by cases e <;> (unfold Jk6_2b0H Jk6_2b0; kernel_rfl)
theorem Jk6_2b0_at (rc : Rec) (md : Md) (e : Exit) (t : T) (h : Heap) : kAt Try.prog cfg rc md 144 (sub (bodyOf Try.prog 6) [1, 1, 1, 1, 1, 1, 0, 1, 0, 0]) [1, 1, 0, 0, 1, 1, 1, 1, 0, 1, 0] (rndK (fun t => (t 0, t 1, t 6, t 7, t 8, t 65, t 66, t 67))) e t h = Jk6_2b0 rc md e (t 0) (t 1) (t 6) (t 7) (t 8) (t 11) (t 65) (t 66) (t 67) (t 98) (t 99) (t 100) h := by
  rw [kAt_holes [([1, 1, 0, 0, 1, 1, 1, 1, 1, 1, 0], 1), ([1, 1, 0, 0, 1, 1, 1, 1, 1], 2)] [1, 1, 0, 0, 1, 1, 1, 1, 0, 1, 0] (by kernel_rfl), Jk6_2b0_h1, show (goX Try.prog cfg rc md 144 (sub (bodyOf Try.prog 6) [1, 1, 1, 1, 1, 1, 0, 1, 0, 0]) [([1, 1, 0, 0, 1, 1, 1, 1, 1, 1, 0], 1), ([1, 1, 0, 0, 1, 1, 1, 1, 1], 2)] (rndK (fun t => (t 0, t 1, t 6, t 7, t 8, t 65, t 66, t 67)))) 2 = _ from J6_2b1_cut rc md]
  exact Jk6_2b0_h2 rc md e t h
/-- a round -/
noncomputable def Jr6_2b0 (rc : Rec) (md : Md) (s0 : Value) (s1 : Value) (s6 : Value) (s7 : Value) (s8 : Value) (s11 : Value) (s65 : Value) (s66 : Value) (s67 : Value) (s98 : Value) (s99 : Value) (s100 : Value) (h : Heap) : Option (((Value × Value × Value × Value × Value × Value × Value × Value × Value × Value × Value × Value) × Heap) ⊕ (Exit × (Value × Value × Value × Value × Value × Value × Value × Value × Value × Value × Value × Value) × Heap)) :=
  aBin Try.prog .lss 3 s100 s99 fun v1 =>
  cBn v1 fun b2 =>
  bif b2 then
    ixSV 1 s98 s100 fun v3 =>
    ld1 v3 h fun v4 =>
    cIn .i64 v4 fun n5 =>
    (bif wantV (.bool (decide (n5 < 0))) false then
    some ((.int .i64 n5), h)
    else some (undef, h)).bind fun p6 =>
    (bif wantV (.bool (decide (n5 < 0))) false then
    some (s0, p6.2)
    else some (undef, p6.2)).bind fun p7 =>
    (bif wantV (.bool (decide (n5 < 0))) false then
    aBin Try.prog .geq 3 p6.1 p7.1 fun v8 =>
    some (v8, p7.2)
    else some (undef, p7.2)).bind fun p9 =>
    cBn (bif (decide (n5 < 0)) then (.bool true) else p9.1) fun b10 =>
    (bif wantV (.bool b10) false then
    some (s11, p9.2)
    else some (undef, p9.2)).bind fun p11 =>
    (bif wantV (.bool b10) false then
    some ((.int .i64 n5), p11.2)
    else some (undef, p11.2)).bind fun p12 =>
    (bif wantV (.bool b10) false then
    aLookup Try.prog 56 p11.1 p12.1 false p12.2 fun v13 =>
    cBn v13 fun b14 =>
    some ((.bool b14), p12.2)
    else some (undef, p12.2)).bind fun p15 =>
    cBn (bif b10 then (.bool true) else p15.1) fun b16 =>
    bif b16 then
      some (.inr (.ret, (s0, s1, (.bool false), s7, s8, s11, s65, s66, s67, s98, s99, s100), p15.2))
    else
      aMapPut Try.prog md 56 s11 (.int .i64 n5) (.bool true) p15.2 fun h17 =>
      aBin Try.prog .add 3 s100 (.int .i64 1) fun v18 =>
      some (.inl ((s0, s1, s6, s7, s8, s11, s65, s66, s67, s98, s99, v18), h17))
  else
    some (.inr ((.exit 4), (s0, s1, s6, s7, s8, s11, s65, s66, s67, s98, s99, s100), h))
theorem Jr6_2b0_at (rc : Rec) (md : Md) (t : T) (h : Heap) : exec Try.prog cfg rc md 144 (sub (bodyOf Try.prog 6) [1, 1, 1, 1, 1, 1, 0, 1, 0, 0, 1, 1, 0, 0, 1, 1, 1, 1, 0, 1, 0, 0]) (rndK (fun t => (t 0, t 1, t 6, t 7, t 8, t 11, t 65, t 66, t 67, t 98, t 99, t 100))) t h = Jr6_2b0 rc md (t 0) (t 1) (t 6) (t 7) (t 8) (t 11) (t 65) (t 66) (t 67) (t 98) (t 99) (t 100) h := by kernel_rfl
noncomputable def J6_2b0 (rc : Rec) (md : Md) (s0 : Value) (s1 : Value) (s6 : Value) (s7 : Value) (s8 : Value) (s11 : Value) (s65 : Value) (s66 : Value) (s67 : Value) (s98 : Value) (s99 : Value) (s100 : Value) (h : Heap) : Option (((Value × Value × Value × Value × Value × Value × Value × Value) × Heap) ⊕ (Exit × (Value × Value × Value × Value × Value × Value × Value × Value) × Heap)) :=
  runL (fun x : (Value × Value × Value × Value × Value × Value × Value × Value × Value × Value × Value × Value) × Heap => Jr6_2b0 rc md x.1.1 x.1.2.1 x.1.2.2.1 x.1.2.2.2.1 x.1.2.2.2.2.1 x.1.2.2.2.2.2.1 x.1.2.2.2.2.2.2.1 x.1.2.2.2.2.2.2.2.1 x.1.2.2.2.2.2.2.2.2.1 x.1.2.2.2.2.2.2.2.2.2.1 x.1.2.2.2.2.2.2.2.2.2.2.1 x.1.2.2.2.2.2.2.2.2.2.2.2 x.2) (fun e (s : Value × Value × Value × Value × Value × Value × Value × Value × Value × Value × Value × Value) h => Jk6_2b0 rc md e s.1 s.2.1 s.2.2.1 s.2.2.2.1 s.2.2.2.2.1 s.2.2.2.2.2.1 s.2.2.2.2.2.2.1 s.2.2.2.2.2.2.2.1 s.2.2.2.2.2.2.2.2.1 s.2.2.2.2.2.2.2.2.2.1 s.2.2.2.2.2.2.2.2.2.2.1 s.2.2.2.2.2.2.2.2.2.2.2 h) (s0, s1, s6, s7, s8, s11, s65, s66, s67, s98, s99, s100) h
theorem J6_2b0_step (rc : Rec) (md : Md) (s0 : Value) (s1 : Value) (s6 : Value) (s7 : Value) (s8 : Value) (s11 : Value) (s65 : Value) (s66 : Value) (s67 : Value) (s98 : Value) (s99 : Value) (s100 : Value) (h : Heap) : J6_2b0 rc md s0 s1 s6 s7 s8 s11 s65 s66 s67 s98 s99 s100 h = (Jr6_2b0 rc md s0 s1 s6 s7 s8 s11 s65 s66 s67 s98 s99 s100 h).bind fun x => match x with
    | .inl (s, h) => J6_2b0 rc md s.1 s.2.1 s.2.2.1 s.2.2.2.1 s.2.2.2.2.1 s.2.2.2.2.2.1 s.2.2.2.2.2.2.1 s.2.2.2.2.2.2.2.1 s.2.2.2.2.2.2.2.2.1 s.2.2.2.2.2.2.2.2.2.1 s.2.2.2.2.2.2.2.2.2.2.1 s.2.2.2.2.2.2.2.2.2.2.2 h
    | .inr (e, s, h) => Jk6_2b0 rc md e s.1 s.2.1 s.2.2.1 s.2.2.2.1 s.2.2.2.2.1 s.2.2.2.2.2.1 s.2.2.2.2.2.2.1 s.2.2.2.2.2.2.2.1 s.2.2.2.2.2.2.2.2.1 s.2.2.2.2.2.2.2.2.2.1 s.2.2.2.2.2.2.2.2.2.2.1 s.2.2.2.2.2.2.2.2.2.2.2 h := by
  unfold J6_2b0
  rw [runL_eq]
  refine congrArg (Option.bind _) (funext fun x => ?_)
  rcases x with ⟨s, h⟩ | ⟨e, s, h⟩ <;> rfl
theorem J6_2b0_cut (rc : Rec) (md : Md) : cut Try.prog cfg rc md 144 (sub (bodyOf Try.prog 6) [1, 1, 1, 1, 1, 1, 0, 1, 0, 0]) [1, 1, 0, 0, 1, 1, 1, 1, 0, 1, 0] (rndK (fun t => (t 0, t 1, t 6, t 7, t 8, t 65, t 66, t 67))) = fun t h => J6_2b0 rc md (t 0) (t 1) (t 6) (t 7) (t 8) (t 11) (t 65) (t 66) (t 67) (t 98) (t 99) (t 100) h := by
  funext t h
  have e : sub (sub (bodyOf Try.prog 6) [1, 1, 1, 1, 1, 1, 0, 1, 0, 0]) [1, 1, 0, 0, 1, 1, 1, 1, 0, 1, 0] = .loop (sub (bodyOf Try.prog 6) [1, 1, 1, 1, 1, 1, 0, 1, 0, 0, 1, 1, 0, 0, 1, 1, 1, 1, 0, 1, 0, 0]) := by kernel_rfl
  unfold cut
  rw [e]
  exact loop_eq (by kernel_rfl) (fun t => (t 0, t 1, t 6, t 7, t 8, t 11, t 65, t 66, t 67, t 98, t 99, t 100)) (fun x : (Value × Value × Value × Value × Value × Value × Value × Value × Value × Value × Value × Value) × Heap => Jr6_2b0 rc md x.1.1 x.1.2.1 x.1.2.2.1 x.1.2.2.2.1 x.1.2.2.2.2.1 x.1.2.2.2.2.2.1 x.1.2.2.2.2.2.2.1 x.1.2.2.2.2.2.2.2.1 x.1.2.2.2.2.2.2.2.2.1 x.1.2.2.2.2.2.2.2.2.2.1 x.1.2.2.2.2.2.2.2.2.2.2.1 x.1.2.2.2.2.2.2.2.2.2.2.2 x.2) (fun t h => Jr6_2b0_at rc md t h) (fun e (s : Value × Value × Value × Value × Value × Value × Value × Value × Value × Value × Value × Value) h => Jk6_2b0 rc md e s.1 s.2.1 s.2.2.1 s.2.2.2.1 s.2.2.2.2.1 s.2.2.2.2.2.1 s.2.2.2.2.2.2.1 s.2.2.2.2.2.2.2.1 s.2.2.2.2.2.2.2.2.1 s.2.2.2.2.2.2.2.2.2.1 s.2.2.2.2.2.2.2.2.2.2.1 s.2.2.2.2.2.2.2.2.2.2.2 h) (fun e t h => Jk6_2b0_at rc md e t h) t h
/-- a round -/
noncomputable def Jr6_2 (rc : Rec) (md : Md) (s0 : Value) (s1 : Value) (s6 : Value) (s7 : Value) (s8 : Value) (s65 : Value) (s66 : Value) (s67 : Value) (h : Heap) : Option (((Value × Value × Value × Value × Value × Value × Value × Value) × Heap) ⊕ (Exit × (Value × Value × Value × Value × Value × Value × Value × Value) × Heap)) :=
  aBin Try.prog .lss 3 s67 s66 fun v1 =>
  cBn v1 fun b2 =>
  bif b2 then
    ixSV 1 s65 s67 fun v3 =>
    ld1 v3 h fun v4 =>
    cIn .i64 v4 fun n5 =>
    bif (decide (n5 < 0)) then
      aBin Try.prog .add 3 s67 (.int .i64 1) fun v6 =>
      some (.inl ((s0, s1, s6, s7, s8, s65, s66, v6), h))
    else
      bif okNil Try.prog s8 then
      fA 4 s8 fun v7 =>
      ld1 v7 h fun v8 =>
      aBin Try.prog .rem 3 (.int .i64 n5) s1 fun v9 =>
      ixSV 1 v8 v9 fun v10 =>
      ld1 v10 h fun v11 =>
      aBin Try.prog .quo 3 (.int .i64 n5) s1 fun v12 =>
      aBin Try.prog .rem 3 v12 (.int .i64 2) fun v13 =>
      aBin Try.prog .eql 3 v13 (.int .i64 1) fun v14 =>
      cl (rc md 27 [s8, v11, v14] h) fun v15 h16 =>
      cBn v15 fun b17 =>
      bif !b17 then
        some (.inr (.ret, (s0, s1, (.bool false), s7, s8, s65, s66, s67), h16))
      else
        aMakeMap Try.prog 56 h16 fun v18 h19 =>
        bif okNil Try.prog s8 then
        fA 3 s8 fun v20 =>
        ld1 v20 h19 fun v21 =>
        cl (rc md 19 [v21] h19) fun v22 h23 =>
        ldN 3 s7 h23 fun v24 =>
        cl (rc md 18 [(.iface 31 v22), v24] h23) fun v25 h26 =>
        lenS v25 fun v27 =>
        cIn .i64 v27 fun n28 =>
        J6_2b0 rc md s0 s1 s6 s7 s8 v18 s65 s66 s67 v25 (.int .i64 n28) (.int .i64 0) h26
        else none
      else none
  else
    some (.inr ((.exit 2), (s0, s1, s6, s7, s8, s65, s66, s67), h))
noncomputable def Jr6_2H (rc : Rec) (md : Md) (X0 : T → Heap → Option (((Value × Value × Value × Value × Value × Value × Value × Value) × Heap) ⊕ (Exit × (Value × Value × Value × Value × Value × Value × Value × Value) × Heap))) (t : T) (h : Heap) : Option (((Value × Value × Value × Value × Value × Value × Value × Value) × Heap) ⊕ (Exit × (Value × Value × Value × Value × Value × Value × Value × Value) × Heap)) :=
  aBin Try.prog .lss 3 (t 67) (t 66) fun v1 =>
  cBn v1 fun b2 =>
  bif b2 then
    ixSV 1 (t 65) (t 67) fun v3 =>
    ld1 v3 h fun v4 =>
    cIn .i64 v4 fun n5 =>
    bif (decide (n5 < 0)) then
      aBin Try.prog .add 3 (t 67) (.int .i64 1) fun v6 =>
      some (.inl (((t 0), (t 1), (t 6), (t 7), (t 8), (t 65), (t 66), v6), h))
    else
      bif okNil Try.prog (t 8) then
      fA 4 (t 8) fun v7 =>
      ld1 v7 h fun v8 =>
      aBin Try.prog .rem 3 (.int .i64 n5) (t 1) fun v9 =>
      ixSV 1 v8 v9 fun v10 =>
      ld1 v10 h fun v11 =>
      aBin Try.prog .quo 3 (.int .i64 n5) (t 1) fun v12 =>
      aBin Try.prog .rem 3 v12 (.int .i64 2) fun v13 =>
      aBin Try.prog .eql 3 v13 (.int .i64 1) fun v14 =>
      cl (rc md 27 [(t 8), v11, v14] h) fun v15 h16 =>
      cBn v15 fun b17 =>
      bif !b17 then
        some (.inr (.ret, ((t 0), (t 1), (.bool false), (t 7), (t 8), (t 65), (t 66), (t 67)), h16))
      else
        aMakeMap Try.prog 56 h16 fun v18 h19 =>
        bif okNil Try.prog (t 8) then
        fA 3 (t 8) fun v20 =>
        ld1 v20 h19 fun v21 =>
        cl (rc md 19 [v21] h19) fun v22 h23 =>
        ldN 3 (t 7) h23 fun v24 =>
        cl (rc md 18 [(.iface 31 v22), v24] h23) fun v25 h26 =>
        lenS v25 fun v27 =>
        cIn .i64 v27 fun n28 =>
        X0 (upd (upd (upd (upd (upd (upd (upd (upd (upd (upd (upd (upd (upd (upd (upd (upd (upd (upd (upd (upd (upd (upd (upd (upd (upd (upd (upd (upd (upd (upd (upd (upd (upd (upd (upd t 68 v1) 69 v3) 70 (.int .i64 n5)) 10 (.int .i64 n5)) 71 (.int .i64 n5)) 72 (.bool (decide (n5 < 0)))) 73 (t 8)) 74 (t 8)) 75 (t 8)) 76 v7) 77 v8) 78 (.int .i64 n5)) 79 (t 1)) 80 v9) 81 v10) 82 v11) 83 (.int .i64 n5)) 84 (t 1)) 85 v12) 86 v13) 87 v14) 88 (.bool b17)) 89 (.bool (!b17))) 90 v18) 11 v18) 91 (t 8)) 92 (t 8)) 93 v20) 94 v21) 95 v22) 96 (.iface 31 v22)) 97 v24) 98 v25) 99 (.int .i64 n28)) 100 (.int .i64 0)) h26
        else none
      else none
  else
    some (.inr ((.exit 2), ((t 0), (t 1), (t 6), (t 7), (t 8), (t 65), (t 66), (t 67)), h))
theorem Jr6_2_h1 (rc : Rec) (md : Md) (X : Nat → T → Heap → Option (((Value × Value × Value × Value × Value × Value × Value × Value) × Heap) ⊕ (Exit × (Value × Value × Value × Value × Value × Value × Value × Value) × Heap))) (t : T) (h : Heap) : execG Try.prog cfg X rc md 144 (replS (sub (bodyOf Try.prog 6) [1, 1, 1, 1, 1, 1, 0, 1, 0, 0]) [([1, 1, 0, 0, 1, 1, 1, 1, 0, 1, 0], 0), ([1, 1, 0, 0, 1, 1, 1, 1, 1, 1, 0], 1), ([1, 1, 0, 0, 1, 1, 1, 1, 1], 2)]) (rndK (fun t => (t 0, t 1, t 6, t 7, t 8, t 65, t 66, t 67))) t h = Jr6_2H rc md (X 0) t h := by kernel_rfl
theorem Jr6_2_h2 (rc : Rec) (md : Md) (t : T) (h : Heap) : Jr6_2H rc md (fun t h => J6_2b0 rc md (t 0) (t 1) (t 6) (t 7) (t 8) (t 11) (t 65) (t 66) (t 67) (t 98) (t 99) (t 100) h) t h = Jr6_2 rc md (t 0) (t 1) (t 6) (t 7) (t 8) (t 65) (t 66) (t 67) h := by unfold Jr6_2H Jr6_2; kernel_rfl
theorem Jr6_2_at (rc : Rec) (md : Md) (t : T) (h : Heap) : exec Try.prog cfg rc md 144 (sub (bodyOf Try.prog 6) [1, 1, 1, 1, 1, 1, 0, 1, 0, 0]) (rndK (fun t => (t 0, t 1, t 6, t 7, t 8, t 65, t 66, t 67))) t h = Jr6_2 rc md (t 0) (t 1) (t 6) (t 7) (t 8) (t 65) (t 66) (t 67) h := by
  rw [exec_holes [([1, 1, 0, 0, 1, 1, 1, 1, 0, 1, 0], 0), ([1, 1, 0, 0, 1, 1, 1, 1, 1, 1, 0], 1), ([1, 1, 0, 0, 1, 1, 1, 1, 1], 2)] (by kernel_rfl), Jr6_2_h1, show (goX Try.prog cfg rc md 144 (sub (bodyOf Try.prog 6) [1, 1, 1, 1, 1, 1, 0, 1, 0, 0]) [([1, 1, 0, 0, 1, 1, 1, 1, 0, 1, 0], 0), ([1, 1, 0, 0, 1, 1, 1, 1, 1, 1, 0], 1), ([1, 1, 0, 0, 1, 1, 1, 1, 1], 2)] (rndK (fun t => (t 0, t 1, t 6, t 7, t 8, t 65, t 66, t 67)))) 0 = _ from J6_2b0_cut rc md]
  exact Jr6_2_h2 rc md t h
noncomputable def J6_2 (rc : Rec) (md : Md) (h0 : Heap) (s0 : Value) (s1 : Value) (s6 : Value) (s7 : Value) (s8 : Value) (s65 : Value) (s66 : Value) (s67 : Value) (h : Heap) : Option (Value × Heap) :=
  runL (fun x : (Value × Value × Value × Value × Value × Value × Value × Value) × Heap => Jr6_2 rc md x.1.1 x.1.2.1 x.1.2.2.1 x.1.2.2.2.1 x.1.2.2.2.2.1 x.1.2.2.2.2.2.1 x.1.2.2.2.2.2.2.1 x.1.2.2.2.2.2.2.2 x.2) (fun e (s : Value × Value × Value × Value × Value × Value × Value × Value) h => Jk6_2 rc md h0 e s.1 s.2.1 s.2.2.1 s.2.2.2.1 s.2.2.2.2.1 s.2.2.2.2.2.1 s.2.2.2.2.2.2.1 s.2.2.2.2.2.2.2 h) (s0, s1, s6, s7, s8, s65, s66, s67) h
theorem J6_2_step (rc : Rec) (md : Md) (h0 : Heap) (s0 : Value) (s1 : Value) (s6 : Value) (s7 : Value) (s8 : Value) (s65 : Value) (s66 : Value) (s67 : Value) (h : Heap) : J6_2 rc md h0 s0 s1 s6 s7 s8 s65 s66 s67 h = (Jr6_2 rc md s0 s1 s6 s7 s8 s65 s66 s67 h).bind fun x => match x with
    | .inl (s, h) => J6_2 rc md h0 s.1 s.2.1 s.2.2.1 s.2.2.2.1 s.2.2.2.2.1 s.2.2.2.2.2.1 s.2.2.2.2.2.2.1 s.2.2.2.2.2.2.2 h
    | .inr (e, s, h) => Jk6_2 rc md h0 e s.1 s.2.1 s.2.2.1 s.2.2.2.1 s.2.2.2.2.1 s.2.2.2.2.2.1 s.2.2.2.2.2.2.1 s.2.2.2.2.2.2.2 h := by
  unfold J6_2
  rw [runL_eq]
  refine congrArg (Option.bind _) (funext fun x => ?_)
  rcases x with ⟨s, h⟩ | ⟨e, s, h⟩ <;> rfl
theorem J6_2_cut (rc : Rec) (md : Md) (h0 : Heap) : cut Try.prog cfg rc md 144 (bodyOf Try.prog 6) [1, 1, 1, 1, 1, 1, 0, 1, 0] (retK Try.prog cfg 6 (rsOf Try.prog 6) h0) = fun t h => J6_2 rc md h0 (t 0) (t 1) (t 6) (t 7) (t 8) (t 65) (t 66) (t 67) h := by
  funext t h
  have e : sub (bodyOf Try.prog 6) [1, 1, 1, 1, 1, 1, 0, 1, 0] = .loop (sub (bodyOf Try.prog 6) [1, 1, 1, 1, 1, 1, 0, 1, 0, 0]) := by kernel_rfl
  unfold cut
  rw [e]
  exact loop_eq (by kernel_rfl) (fun t => (t 0, t 1, t 6, t 7, t 8, t 65, t 66, t 67)) (fun x : (Value × Value × Value × Value × Value × Value × Value × Value) × Heap => Jr6_2 rc md x.1.1 x.1.2.1 x.1.2.2.1 x.1.2.2.2.1 x.1.2.2.2.2.1 x.1.2.2.2.2.2.1 x.1.2.2.2.2.2.2.1 x.1.2.2.2.2.2.2.2 x.2) (fun t h => Jr6_2_at rc md t h) (fun e (s : Value × Value × Value × Value × Value × Value × Value × Value) h => Jk6_2 rc md h0 e s.1 s.2.1 s.2.2.1 s.2.2.2.1 s.2.2.2.2.1 s.2.2.2.2.2.1 s.2.2.2.2.2.2.1 s.2.2.2.2.2.2.2 h) (fun e t h => Jk6_2_at rc md h0 e t h) t h
noncomputable def J6_1 (rc : Rec) (md : Md) (h0 : Heap) (s0 : Value) (s1 : Value) (s2 : Value) (s6 : Value) (s7 : Value) (s8 : Value) (h : Heap) : Option (Value × Heap) :=
  lenS s2 fun v1 =>
  cIn .i64 v1 fun n2 =>
  J6_2 rc md h0 s0 s1 s6 s7 s8 s2 (.int .i64 n2) (.int .i64 0) h
noncomputable def J6_1H (rc : Rec) (md : Md) (h0 : Heap) (X1 : T → Heap → Option (Value × Heap)) (t : T) (h : Heap) : Option (Value × Heap) :=
  lenS (t 2) fun v1 =>
  cIn .i64 v1 fun n2 =>
  X1 (upd (upd (upd t 65 (t 2)) 66 (.int .i64 n2)) 67 (.int .i64 0)) h
theorem J6_1_h1 (rc : Rec) (md : Md) (h0 : Heap) (X : Nat → T → Heap → Option (Value × Heap)) (t : T) (h : Heap) : execG Try.prog cfg X rc md 144 (sub (replS (bodyOf Try.prog 6) [([1, 1, 1, 1, 1, 0, 1, 0], 0), ([1, 1, 1, 1, 1, 1, 0, 1, 0], 1)]) [1, 1, 1, 1, 1, 1]) (kAtG Try.prog cfg X rc md 144 (replS (bodyOf Try.prog 6) [([1, 1, 1, 1, 1, 0, 1, 0], 0), ([1, 1, 1, 1, 1, 1, 0, 1, 0], 1)]) [1, 1, 1, 1, 1, 1] (retK Try.prog cfg 6 (rsOf Try.prog 6) h0)) t h = J6_1H rc md h0 (X 1) t h := by kernel_rfl
theorem J6_1_h2 (rc : Rec) (md : Md) (h0 : Heap) (t : T) (h : Heap) : J6_1H rc md h0 (fun t h => J6_2 rc md h0 (t 0) (t 1) (t 6) (t 7) (t 8) (t 65) (t 66) (t 67) h) t h = J6_1 rc md h0 (t 0) (t 1) (t 2) (t 6) (t 7) (t 8) h := by (unfold J6_1H J6_1; kernel_rfl)
theorem J6_1_at (rc : Rec) (md : Md) (h0 : Heap) (t : T) (h : Heap) : cut Try.prog cfg rc md 144 (bodyOf Try.prog 6) [1, 1, 1, 1, 1, 1] (retK Try.prog cfg 6 (rsOf Try.prog 6) h0) t h = J6_1 rc md h0 (t 0) (t 1) (t 2) (t 6) (t 7) (t 8) h := by
  rw [cut_holes [([1, 1, 1, 1, 1, 0, 1, 0], 0), ([1, 1, 1, 1, 1, 1, 0, 1, 0], 1)] [1, 1, 1, 1, 1, 1] (by kernel_rfl), J6_1_h1, show (goX Try.prog cfg rc md 144 (bodyOf Try.prog 6) [([1, 1, 1, 1, 1, 0, 1, 0], 0), ([1, 1, 1, 1, 1, 1, 0, 1, 0], 1)] (retK Try.prog cfg 6 (rsOf Try.prog 6) h0)) 1 = _ from J6_2_cut rc md h0]
  exact J6_1_h2 rc md h0 t h
theorem J6_1_cut (rc : Rec) (md : Md) (h0 : Heap) : cut Try.prog cfg rc md 144 (bodyOf Try.prog 6) [1, 1, 1, 1, 1, 1] (retK Try.prog cfg 6 (rsOf Try.prog 6) h0) = fun t h => J6_1 rc md h0 (t 0) (t 1) (t 2) (t 6) (t 7) (t 8) h := funext fun t => funext fun h => J6_1_at rc md h0 t h
noncomputable def Jk6_0 (rc : Rec) (md : Md) (h0 : Heap) (e : Exit) (s0 : Value) (s1 : Value) (s2 : Value) (s6 : Value) (s7 : Value) (s8 : Value) (s50 : Value) (s51 : Value) (h : Heap) : Option (Value × Heap) :=
  match e with
  | .normal =>
    J6_1 rc md h0 s0 s1 s2 s6 s7 s8 h
  | .exit j =>
    bif Nat.beq j 0 then
      J6_1 rc md h0 s0 s1 s2 s6 s7 s8 h
    else
      none
  | .ret =>
    fin1 h0 s6 h
  | .goto l => none
  | .panic ps => none
  | .outgrown => none
noncomputable def Jk6_0H (rc : Rec) (md : Md) (h0 : Heap) (X2 : T → Heap → Option (Value × Heap)) (e : Exit) (t : T) (h : Heap) : Option (Value × Heap) :=
  match e with
  | .normal =>
    X2 t h
  | .exit j =>
    bif Nat.beq j 0 then
      X2 t h
    else
      none
  | .ret =>
    fin1 h0 (t 6) h
  | .goto l => none
  | .panic ps => none
  | .outgrown => none
theorem Jk6_0_h1 (rc : Rec) (md : Md) (h0 : Heap) (X : Nat → T → Heap → Option (Value × Heap)) (e : Exit) (t : T) (h : Heap) : kAtG Try.prog cfg X rc md 144 (replS (bodyOf Try.prog 6) [([1, 1, 1, 1, 1, 1, 0, 1, 0], 1), ([1, 1, 1, 1, 1, 1], 2)]) [1, 1, 1, 1, 1, 0, 1, 0] (retK Try.prog cfg 6 (rsOf Try.prog 6) h0) e t h = Jk6_0H rc md h0 (X 2) e t h := by cases e <;> kernel_rfl
theorem Jk6_0_h2 (rc : Rec) (md : Md) (h0 : Heap) (e : Exit) (t : T) (h : Heap) : Jk6_0H rc md h0 (fun t h => J6_1 rc md h0 (t 0) (t 1) (t 2) (t 6) (t 7) (t 8) h) e t h = Jk6_0 rc md h0 e (t 0) (t 1) (t 2) (t 6) (t 7) (t 8) (t 50) (t 51) h := by cases e <;> (unfold Jk6_0H Jk6_0; kernel_rfl)
theorem Jk6_0_at (rc : Rec) (md : Md) (h0 : Heap) (e : Exit) (t : T) (h : Heap) : kAt Try.prog cfg rc md 144 (bodyOf Try.prog 6) [1, 1, 1, 1, 1, 0, 1, 0] (retK Try.prog cfg 6 (rsOf Try.prog 6) h0) e t h = Jk6_0 rc md h0 e (t 0) (t 1) (t 2) (t 6) (t 7) (t 8) (t 50) (t 51) h := by
  rw [kAt_holes [([1, 1, 1, 1, 1, 1, 0, 1, 0], 1), ([1, 1, 1, 1, 1, 1], 2)] [1, 1, 1, 1, 1, 0, 1, 0] (by kernel_rfl), Jk6_0_h1, show (goX Try.prog cfg rc md 144 (bodyOf Try.prog 6) [([1, 1, 1, 1, 1, 1, 0, 1, 0], 1), ([1, 1, 1, 1, 1, 1], 2)] (retK Try.prog cfg 6 (rsOf Try.prog 6) h0)) 2 = _ from J6_1_cut rc md h0]
  exact Jk6_0_h2 rc md h0 e t h
/-- a round -/
noncomputable def Jr6_0 (rc : Rec) (md : Md) (s0 : Value) (s1 : Value) (s2 : Value) (s6 : Value) (s7 : Value) (s8 : Value) (s50 : Value) (s51 : Value) (h : Heap) : Option (((Value × Value × Value × Value × Value × Value × Value × Value) × Heap) ⊕ (Exit × (Value × Value × Value × Value × Value × Value × Value × Value) × Heap)) :=
  aBin Try.prog .lss 3 s51 s50 fun v1 =>
  cBn v1 fun b2 =>
  bif b2 then
    bif okNil Try.prog s8 then
    fA 4 s8 fun v3 =>
    ld1 v3 h fun v4 =>
    let h5 : Heap := h ++ [.own [(.pointer none), (.pointer none), (.slice none 0 0)]]
    let h6 : Heap := h5 ++ [.own [(.pointer (some ⟨h.length, 0, none⟩))]]
    aBuiltin Try.prog md .append #[45, 45] [v4, (.slice (some ⟨h5.length, 0, none⟩) 1 1)] h6 fun v7 h8 =>
    bif okNil Try.prog s8 then
    fA 4 s8 fun v9 =>
    st md 1 v9 v7 h8 fun h10 =>
    aBin Try.prog .add 3 s51 (.int .i64 1) fun v11 =>
    some (.inl ((s0, s1, s2, s6, s7, s8, s50, v11), h10))
    else none
    else none
  else
    some (.inr ((.exit 0), (s0, s1, s2, s6, s7, s8, s50, s51), h))
theorem Jr6_0_at (rc : Rec) (md : Md) (t : T) (h : Heap) : exec Try.prog cfg rc md 144 (sub (bodyOf Try.prog 6) [1, 1, 1, 1, 1, 0, 1, 0, 0]) (rndK (fun t => (t 0, t 1, t 2, t 6, t 7, t 8, t 50, t 51))) t h = Jr6_0 rc md (t 0) (t 1) (t 2) (t 6) (t 7) (t 8) (t 50) (t 51) h := by kernel_rfl
noncomputable def J6_0 (rc : Rec) (md : Md) (h0 : Heap) (s0 : Value) (s1 : Value) (s2 : Value) (s6 : Value) (s7 : Value) (s8 : Value) (s50 : Value) (s51 : Value) (h : Heap) : Option (Value × Heap) :=
  runL (fun x : (Value × Value × Value × Value × Value × Value × Value × Value) × Heap => Jr6_0 rc md x.1.1 x.1.2.1 x.1.2.2.1 x.1.2.2.2.1 x.1.2.2.2.2.1 x.1.2.2.2.2.2.1 x.1.2.2.2.2.2.2.1 x.1.2.2.2.2.2.2.2 x.2) (fun e (s : Value × Value × Value × Value × Value × Value × Value × Value) h => Jk6_0 rc md h0 e s.1 s.2.1 s.2.2.1 s.2.2.2.1 s.2.2.2.2.1 s.2.2.2.2.2.1 s.2.2.2.2.2.2.1 s.2.2.2.2.2.2.2 h) (s0, s1, s2, s6, s7, s8, s50, s51) h
theorem J6_0_step (rc : Rec) (md : Md) (h0 : Heap) (s0 : Value) (s1 : Value) (s2 : Value) (s6 : Value) (s7 : Value) (s8 : Value) (s50 : Value) (s51 : Value) (h : Heap) : J6_0 rc md h0 s0 s1 s2 s6 s7 s8 s50 s51 h = (Jr6_0 rc md s0 s1 s2 s6 s7 s8 s50 s51 h).bind fun x => match x with
    | .inl (s, h) => J6_0 rc md h0 s.1 s.2.1 s.2.2.1 s.2.2.2.1 s.2.2.2.2.1 s.2.2.2.2.2.1 s.2.2.2.2.2.2.1 s.2.2.2.2.2.2.2 h
    | .inr (e, s, h) => Jk6_0 rc md h0 e s.1 s.2.1 s.2.2.1 s.2.2.2.1 s.2.2.2.2.1 s.2.2.2.2.2.1 s.2.2.2.2.2.2.1 s.2.2.2.2.2.2.2 h := by
  unfold J6_0
  rw [runL_eq]
  refine congrArg (Option.bind _) (funext fun x => ?_)
  rcases x with ⟨s, h⟩ | ⟨e, s, h⟩ <;> rfl
theorem J6_0_cut (rc : Rec) (md : Md) (h0 : Heap) : cut Try.prog cfg rc md 144 (bodyOf Try.prog 6) [1, 1, 1, 1, 1, 0, 1, 0] (retK Try.prog cfg 6 (rsOf Try.prog 6) h0) = fun t h => J6_0 rc md h0 (t 0) (t 1) (t 2) (t 6) (t 7) (t 8) (t 50) (t 51) h := by
  funext t h
  have e : sub (bodyOf Try.prog 6) [1, 1, 1, 1, 1, 0, 1, 0] = .loop (sub (bodyOf Try.prog 6) [1, 1, 1, 1, 1, 0, 1, 0, 0]) := by kernel_rfl
  unfold cut
  rw [e]
  exact loop_eq (by kernel_rfl) (fun t => (t 0, t 1, t 2, t 6, t 7, t 8, t 50, t 51)) (fun x : (Value × Value × Value × Value × Value × Value × Value × Value) × Heap => Jr6_0 rc md x.1.1 x.1.2.1 x.1.2.2.1 x.1.2.2.2.1 x.1.2.2.2.2.1 x.1.2.2.2.2.2.1 x.1.2.2.2.2.2.2.1 x.1.2.2.2.2.2.2.2 x.2) (fun t h => Jr6_0_at rc md t h) (fun e (s : Value × Value × Value × Value × Value × Value × Value × Value) h => Jk6_0 rc md h0 e s.1 s.2.1 s.2.2.1 s.2.2.2.1 s.2.2.2.2.1 s.2.2.2.2.2.1 s.2.2.2.2.2.2.1 s.2.2.2.2.2.2.2 h) (fun e t h => Jk6_0_at rc md h0 e t h) t h
noncomputable def F6 (rc : Rec) (md : Md) (a0 : Int) (a1 : Int) (a2 : Value) (h0 : Heap) : Option (Value × Heap) :=
  let h1 : Heap := h0 ++ [.own [(.int .i64 0), (.int .i64 0), (.int .i64 0)]]
  st md 3 (.pointer (some ⟨h0.length, 0, none⟩)) (.agg #[(.int .i64 1), (.int .i64 a0), (.int .i64 1)]) h1 fun h2 =>
  (bif wantV (.bool (decide (a0 < 0))) false then
  some ((.int .i64 a0), h2)
  else some (undef, h2)).bind fun p3 =>
  (bif wantV (.bool (decide (a0 < 0))) false then
  aBin Try.prog .gtr 3 p3.1 (.int .i64 48) fun v4 =>
  some (v4, p3.2)
  else some (undef, p3.2)).bind fun p5 =>
  cBn (bif (decide (a0 < 0)) then (.bool true) else p5.1) fun b6 =>
  (bif wantV (.bool b6) false then
  some ((.int .i64 a1), p5.2)
  else some (undef, p5.2)).bind fun p7 =>
  (bif wantV (.bool b6) false then
  aBin Try.prog .lss 3 p7.1 (.int .i64 1) fun v8 =>
  some (v8, p7.2)
  else some (undef, p7.2)).bind fun p9 =>
  cBn (bif b6 then (.bool true) else p9.1) fun b10 =>
  (bif wantV (.bool b10) false then
  some ((.int .i64 a1), p9.2)
  else some (undef, p9.2)).bind fun p11 =>
  (bif wantV (.bool b10) false then
  aBin Try.prog .gtr 3 p11.1 (.int .i64 8) fun v12 =>
  some (v12, p11.2)
  else some (undef, p11.2)).bind fun p13 =>
  cBn (bif b10 then (.bool true) else p13.1) fun b14 =>
  (bif wantV (.bool b14) false then
  some (a2, p13.2)
  else some (undef, p13.2)).bind fun p15 =>
  (bif wantV (.bool b14) false then
  lenS p15.1 fun v16 =>
  cIn .i64 v16 fun n17 =>
  some ((.int .i64 n17), p15.2)
  else some (undef, p15.2)).bind fun p18 =>
  (bif wantV (.bool b14) false then
  aBin Try.prog .gtr 3 p18.1 (.int .i64 200) fun v19 =>
  some (v19, p18.2)
  else some (undef, p18.2)).bind fun p20 =>
  cBn (bif b14 then (.bool true) else p20.1) fun b21 =>
  bif b21 then
    cl (rc md 15 [] p20.2) fun v22 h23 =>
    cBn v22 fun b24 =>
    some ((.bool b24), List.take h0.length h23)
  else
    ldN 3 (.pointer (some ⟨h0.length, 0, none⟩)) p20.2 fun v25 =>
    ldN 3 (.pointer (some ⟨h0.length, 0, none⟩)) p20.2 fun v26 =>
    cl (rc md 16 [v26] p20.2) fun v27 h28 =>
    cLE true (fun hq => ldN 3 (.pointer (some ⟨h0.length, 0, none⟩)) hq some) v25 p20.2 h28 <|
    aBuild Try.prog 47 [(0, v25), (1, v27)] fun v29 =>
    let h30 : Heap := h28 ++ [.own v29.cells.toList]
    ld1 (.pointer (some ⟨h28.length, 3, none⟩)) h30 fun v31 =>
    aBin Try.prog .eql 26 v31 (.pointer none) fun v32 =>
    cBn v32 fun b33 =>
    bif b33 then
      some ((.bool false), List.take h0.length h30)
    else
      J6_0 rc md h0 (.int .i64 a0) (.int .i64 a1) a2 (.bool false) (.pointer (some ⟨h0.length, 0, none⟩)) (.pointer (some ⟨h28.length, 0, none⟩)) (.int .i64 a1) (.int .i64 0) h30
noncomputable def F6H (rc : Rec) (md : Md) (X0 : T → Heap → Option (Value × Heap)) (a0 : Int) (a1 : Int) (a2 : Value) (h0 : Heap) : Option (Value × Heap) :=
  let h1 : Heap := h0 ++ [.own [(.int .i64 0), (.int .i64 0), (.int .i64 0)]]
  st md 3 (.pointer (some ⟨h0.length, 0, none⟩)) (.agg #[(.int .i64 1), (.int .i64 a0), (.int .i64 1)]) h1 fun h2 =>
  (bif wantV (.bool (decide (a0 < 0))) false then
  some ((.int .i64 a0), h2)
  else some (undef, h2)).bind fun p3 =>
  (bif wantV (.bool (decide (a0 < 0))) false then
  aBin Try.prog .gtr 3 p3.1 (.int .i64 48) fun v4 =>
  some (v4, p3.2)
  else some (undef, p3.2)).bind fun p5 =>
  cBn (bif (decide (a0 < 0)) then (.bool true) else p5.1) fun b6 =>
  (bif wantV (.bool b6) false then
  some ((.int .i64 a1), p5.2)
  else some (undef, p5.2)).bind fun p7 =>
  (bif wantV (.bool b6) false then
  aBin Try.prog .lss 3 p7.1 (.int .i64 1) fun v8 =>
  some (v8, p7.2)
  else some (undef, p7.2)).bind fun p9 =>
  cBn (bif b6 then (.bool true) else p9.1) fun b10 =>
  (bif wantV (.bool b10) false then
  some ((.int .i64 a1), p9.2)
  else some (undef, p9.2)).bind fun p11 =>
  (bif wantV (.bool b10) false then
  aBin Try.prog .gtr 3 p11.1 (.int .i64 8) fun v12 =>
  some (v12, p11.2)
  else some (undef, p11.2)).bind fun p13 =>
  cBn (bif b10 then (.bool true) else p13.1) fun b14 =>
  (bif wantV (.bool b14) false then
  some (a2, p13.2)
  else some (undef, p13.2)).bind fun p15 =>
  (bif wantV (.bool b14) false then
  lenS p15.1 fun v16 =>
  cIn .i64 v16 fun n17 =>
  some ((.int .i64 n17), p15.2)
  else some (undef, p15.2)).bind fun p18 =>
  (bif wantV (.bool b14) false then
  aBin Try.prog .gtr 3 p18.1 (.int .i64 200) fun v19 =>
  some (v19, p18.2)
  else some (undef, p18.2)).bind fun p20 =>
  cBn (bif b14 then (.bool true) else p20.1) fun b21 =>
  bif b21 then
    cl (rc md 15 [] p20.2) fun v22 h23 =>
    cBn v22 fun b24 =>
    some ((.bool b24), List.take h0.length h23)
  else
    ldN 3 (.pointer (some ⟨h0.length, 0, none⟩)) p20.2 fun v25 =>
    ldN 3 (.pointer (some ⟨h0.length, 0, none⟩)) p20.2 fun v26 =>
    cl (rc md 16 [v26] p20.2) fun v27 h28 =>
    cLE true (fun hq => ldN 3 (.pointer (some ⟨h0.length, 0, none⟩)) hq some) v25 p20.2 h28 <|
    aBuild Try.prog 47 [(0, v25), (1, v27)] fun v29 =>
    let h30 : Heap := h28 ++ [.own v29.cells.toList]
    ld1 (.pointer (some ⟨h28.length, 3, none⟩)) h30 fun v31 =>
    aBin Try.prog .eql 26 v31 (.pointer none) fun v32 =>
    cBn v32 fun b33 =>
    bif b33 then
      some ((.bool false), List.take h0.length h30)
    else
      X0 (upd (upd (upd (upd (upd (upd (upd (upd (upd (upd (upd (upd (upd (upd (upd (upd (upd (upd (upd (upd (upd (upd (upd (upd (upd (upd (upd (upd (upd (upd (upd (upd (upd (upd (upd (upd (args0 [(.int .i64 a0), (.int .i64 a1), a2]) 6 (.bool false)) 18 (.int .i64 a0)) 19 (.agg #[(.int .i64 1), (.int .i64 a0), (.int .i64 1)])) 7 (.pointer (some ⟨h0.length, 0, none⟩))) 20 (.int .i64 a0)) 21 (.bool (decide (a0 < 0)))) 22 (.bool (decide (a0 < 0)))) 23 p3.1) 24 p5.1) 25 (.bool b6)) 26 (.bool b6)) 27 p7.1) 28 p9.1) 29 (.bool b10)) 30 (.bool b10)) 31 p11.1) 32 p13.1) 33 (.bool b14)) 34 (.bool b14)) 35 p15.1) 36 p18.1) 37 p20.1) 38 (.bool b21)) 40 v25) 41 v26) 42 v27) 43 v29) 44 (.pointer (some ⟨h28.length, 0, none⟩))) 8 (.pointer (some ⟨h28.length, 0, none⟩))) 45 (.pointer (some ⟨h28.length, 0, none⟩))) 46 (.pointer (some ⟨h28.length, 0, none⟩))) 47 (.pointer (some ⟨h28.length, 3, none⟩))) 48 v31) 49 v32) 50 (.int .i64 a1)) 51 (.int .i64 0)) h30
theorem F6_h0 (rc : Rec) (md : Md) (a0 : Int) (a1 : Int) (a2 : Value) (h0 : Heap) : callStep0 Try.prog cfg rc md 6 [(.int .i64 a0), (.int .i64 a1), a2] h0 = exec Try.prog cfg rc ⟨md.ro, h0.length⟩ 144 (bodyOf Try.prog 6) (retK Try.prog cfg 6 (rsOf Try.prog 6) h0) (args0 [(.int .i64 a0), (.int .i64 a1), a2]) h0 := callStep0_run (by kernel_rfl) (by kernel_rfl) (by kernel_rfl)
theorem F6_h1 (rc : Rec) (md : Md) (X : Nat → T → Heap → Option (Value × Heap)) (a0 : Int) (a1 : Int) (a2 : Value) (h0 : Heap) : execG Try.prog cfg X rc md 144 (replS (bodyOf Try.prog 6) [([1, 1, 1, 1, 1, 0, 1, 0], 0), ([1, 1, 1, 1, 1, 1, 0, 1, 0], 1), ([1, 1, 1, 1, 1, 1], 2)]) (retK Try.prog cfg 6 (rsOf Try.prog 6) h0) (args0 [(.int .i64 a0), (.int .i64 a1), a2]) h0 = F6H rc md (X 0) a0 a1 a2 h0 := by kernel_rfl
theorem F6_h2 (rc : Rec) (md : Md) (a0 : Int) (a1 : Int) (a2 : Value) (h0 : Heap) : F6H rc md (fun t h => J6_0 rc md h0 (t 0) (t 1) (t 2) (t 6) (t 7) (t 8) (t 50) (t 51) h) a0 a1 a2 h0 = F6 rc md a0 a1 a2 h0 := by unfold F6H F6; kernel_rfl
theorem F6_eq0 (rc : Rec) (md : Md) (a0 : Int) (a1 : Int) (a2 : Value) (h0 : Heap) : callStep0 Try.prog cfg rc md 6 [(.int .i64 a0), (.int .i64 a1), a2] h0 = F6 rc ⟨md.ro, h0.length⟩ a0 a1 a2 h0 := by
  rw [F6_h0, exec_holes [([1, 1, 1, 1, 1, 0, 1, 0], 0), ([1, 1, 1, 1, 1, 1, 0, 1, 0], 1), ([1, 1, 1, 1, 1, 1], 2)] (by kernel_rfl), F6_h1, show (goX Try.prog cfg rc ⟨md.ro, h0.length⟩ 144 (bodyOf Try.prog 6) [([1, 1, 1, 1, 1, 0, 1, 0], 0), ([1, 1, 1, 1, 1, 1, 0, 1, 0], 1), ([1, 1, 1, 1, 1, 1], 2)] (retK Try.prog cfg 6 (rsOf Try.prog 6) h0)) 0 = _ from J6_0_cut rc ⟨md.ro, h0.length⟩ h0]
  exact F6_h2 rc _ a0 a1 a2 h0
theorem F6_eq (rc : Rec) (md : Md) (a0 : Int) (a1 : Int) (a2 : Value) (h0 : Heap) : callStep Try.prog cfg rc md 6 [(.int .i64 a0), (.int .i64 a1), a2] h0 = F6 rc ⟨md.ro, h0.length⟩ a0 a1 a2 h0 := (callStep_ne (by kernel_rfl)).trans (F6_eq0 rc md a0 a1 a2 h0)

/-- tombolo/tombololaw07.begun -/
noncomputable def F16 (rc : Rec) (md : Md) (a0_0 : Int) (a0_1 : Int) (a0_2 : Int) (h0 : Heap) : Option (Value × Heap) :=
  let h1 : Heap := h0 ++ [.own [(.int .i64 a0_0), (.int .i64 a0_1), (.int .i64 a0_2)]]
  ldN 3 (.pointer (some ⟨h0.length, 0, none⟩)) h1 fun v2 =>
  cl (rc md 70 [v2] h1) fun v3 h4 =>
  cIn .i64 v3 fun n5 =>
  cl (rc md 69 [(.int .i64 n5)] h4) fun v6 h7 =>
  exT v6 0 fun v8 =>
  exT v6 1 fun v9 =>
  cIn .i64 v9 fun n10 =>
  (bif wantV (.bool (n10 != 0)) false then
  some (v8, h7)
  else some (undef, h7)).bind fun p11 =>
  (bif wantV (.bool (n10 != 0)) false then
  aBin Try.prog .eql 26 p11.1 (.pointer none) fun v12 =>
  some (v12, p11.2)
  else some (undef, p11.2)).bind fun p13 =>
  cBn (bif (n10 != 0) then (.bool true) else p13.1) fun b14 =>
  bif b14 then
    some ((.pointer none), p13.2)
  else
    cl (rc md 19 [v8] p13.2) fun v15 h16 =>
    ldN 3 (.pointer (some ⟨h0.length, 0, none⟩)) h16 fun v17 =>
    cl (rc md 71 [(.iface 31 v15), v17] h16) fun v18 h19 =>
    some (v8, h19)
theorem F16_eq0 (rc : Rec) (md : Md) (a0_0 : Int) (a0_1 : Int) (a0_2 : Int) (h0 : Heap) : callStep0 Try.prog cfg rc md 16 [(.agg #[(.int .i64 a0_0), (.int .i64 a0_1), (.int .i64 a0_2)])] h0 = F16 rc md a0_0 a0_1 a0_2 h0 := by kernel_rfl
theorem F16_eq (rc : Rec) (md : Md) (a0_0 : Int) (a0_1 : Int) (a0_2 : Int) (h0 : Heap) : callStep Try.prog cfg rc md 16 [(.agg #[(.int .i64 a0_0), (.int .i64 a0_1), (.int .i64 a0_2)])] h0 = F16 rc md a0_0 a0_1 a0_2 h0 := (callStep_ne (by kernel_rfl)).trans (F16_eq0 rc md a0_0 a0_1 a0_2 h0)

/-- tombolo/tombololaw07.same -/
noncomputable def Jk17_0 (rc : Rec) (md : Md) (h0 : Heap) (e : Exit) (s0 : Value) (s1 : Value) (s4 : Value) (s12 : Value) (s13 : Value) (h : Heap) : Option (Value × Heap) :=
  match e with
  | .normal =>
    some ((.bool true), h0)
  | .exit j =>
    bif Nat.beq j 0 then
      some ((.bool true), h0)
    else
      none
  | .ret =>
    fin2 h0 s4
  | .goto l => none
  | .panic ps => none
  | .outgrown => none
theorem Jk17_0_at (rc : Rec) (md : Md) (h0 : Heap) (e : Exit) (t : T) (h : Heap) : kAt Try.prog cfg rc md 26 (bodyOf Try.prog 17) [1, 1, 0, 1, 0] (retK Try.prog cfg 17 (rsOf Try.prog 17) h0) e t h = Jk17_0 rc md h0 e (t 0) (t 1) (t 4) (t 12) (t 13) h := by cases e <;> kernel_rfl
/-- a round -/
noncomputable def Jr17_0 (rc : Rec) (md : Md) (s0 : Value) (s1 : Value) (s4 : Value) (s12 : Value) (s13 : Value) (h : Heap) : Option (((Value × Value × Value × Value × Value) × Heap) ⊕ (Exit × (Value × Value × Value × Value × Value) × Heap)) :=
  aBin Try.prog .lss 3 s13 s12 fun v1 =>
  cBn v1 fun b2 =>
  bif b2 then
    ixSV 1 s0 s13 fun v3 =>
    ld1 v3 h fun v4 =>
    cIn .i64 v4 fun n5 =>
    ixSV 1 s1 s13 fun v6 =>
    ld1 v6 h fun v7 =>
    cIn .i64 v7 fun n8 =>
    bif (n5 != n8) then
      some (.inr (.ret, (s0, s1, (.bool false), s12, s13), h))
    else
      aBin Try.prog .add 3 s13 (.int .i64 1) fun v9 =>
      some (.inl ((s0, s1, s4, s12, v9), h))
  else
    some (.inr ((.exit 0), (s0, s1, s4, s12, s13), h))
theorem Jr17_0_at (rc : Rec) (md : Md) (t : T) (h : Heap) : exec Try.prog cfg rc md 26 (sub (bodyOf Try.prog 17) [1, 1, 0, 1, 0, 0]) (rndK (fun t => (t 0, t 1, t 4, t 12, t 13))) t h = Jr17_0 rc md (t 0) (t 1) (t 4) (t 12) (t 13) h := by kernel_rfl
noncomputable def J17_0 (rc : Rec) (md : Md) (h0 : Heap) (s0 : Value) (s1 : Value) (s4 : Value) (s12 : Value) (s13 : Value) (h : Heap) : Option (Value × Heap) :=
  runL (fun x : (Value × Value × Value × Value × Value) × Heap => Jr17_0 rc md x.1.1 x.1.2.1 x.1.2.2.1 x.1.2.2.2.1 x.1.2.2.2.2 x.2) (fun e (s : Value × Value × Value × Value × Value) h => Jk17_0 rc md h0 e s.1 s.2.1 s.2.2.1 s.2.2.2.1 s.2.2.2.2 h) (s0, s1, s4, s12, s13) h
theorem J17_0_step (rc : Rec) (md : Md) (h0 : Heap) (s0 : Value) (s1 : Value) (s4 : Value) (s12 : Value) (s13 : Value) (h : Heap) : J17_0 rc md h0 s0 s1 s4 s12 s13 h = (Jr17_0 rc md s0 s1 s4 s12 s13 h).bind fun x => match x with
    | .inl (s, h) => J17_0 rc md h0 s.1 s.2.1 s.2.2.1 s.2.2.2.1 s.2.2.2.2 h
    | .inr (e, s, h) => Jk17_0 rc md h0 e s.1 s.2.1 s.2.2.1 s.2.2.2.1 s.2.2.2.2 h := by
  unfold J17_0
  rw [runL_eq]
  refine congrArg (Option.bind _) (funext fun x => ?_)
  rcases x with ⟨s, h⟩ | ⟨e, s, h⟩ <;> rfl
theorem J17_0_cut (rc : Rec) (md : Md) (h0 : Heap) : cut Try.prog cfg rc md 26 (bodyOf Try.prog 17) [1, 1, 0, 1, 0] (retK Try.prog cfg 17 (rsOf Try.prog 17) h0) = fun t h => J17_0 rc md h0 (t 0) (t 1) (t 4) (t 12) (t 13) h := by
  funext t h
  have e : sub (bodyOf Try.prog 17) [1, 1, 0, 1, 0] = .loop (sub (bodyOf Try.prog 17) [1, 1, 0, 1, 0, 0]) := by kernel_rfl
  unfold cut
  rw [e]
  exact loop_eq (by kernel_rfl) (fun t => (t 0, t 1, t 4, t 12, t 13)) (fun x : (Value × Value × Value × Value × Value) × Heap => Jr17_0 rc md x.1.1 x.1.2.1 x.1.2.2.1 x.1.2.2.2.1 x.1.2.2.2.2 x.2) (fun t h => Jr17_0_at rc md t h) (fun e (s : Value × Value × Value × Value × Value) h => Jk17_0 rc md h0 e s.1 s.2.1 s.2.2.1 s.2.2.2.1 s.2.2.2.2 h) (fun e t h => Jk17_0_at rc md h0 e t h) t h
noncomputable def F17 (rc : Rec) (md : Md) (a0 : Value) (a1 : Value) (h0 : Heap) : Option (Value × Heap) :=
  lenS a0 fun v1 =>
  cIn .i64 v1 fun n2 =>
  lenS a1 fun v3 =>
  cIn .i64 v3 fun n4 =>
  bif (n2 != n4) then
    some ((.bool false), h0)
  else
    lenS a0 fun v5 =>
    cIn .i64 v5 fun n6 =>
    J17_0 rc md h0 a0 a1 (.bool false) (.int .i64 n6) (.int .i64 0) h0
noncomputable def F17H (rc : Rec) (md : Md) (X0 : T → Heap → Option (Value × Heap)) (a0 : Value) (a1 : Value) (h0 : Heap) : Option (Value × Heap) :=
  lenS a0 fun v1 =>
  cIn .i64 v1 fun n2 =>
  lenS a1 fun v3 =>
  cIn .i64 v3 fun n4 =>
  bif (n2 != n4) then
    some ((.bool false), h0)
  else
    lenS a0 fun v5 =>
    cIn .i64 v5 fun n6 =>
    X0 (upd (upd (upd (upd (upd (upd (upd (upd (upd (args0 [a0, a1]) 4 (.bool false)) 6 a0) 7 (.int .i64 n2)) 8 a1) 9 (.int .i64 n4)) 10 (.bool (n2 != n4))) 11 a0) 12 (.int .i64 n6)) 13 (.int .i64 0)) h0
theorem F17_h0 (rc : Rec) (md : Md) (a0 : Value) (a1 : Value) (h0 : Heap) : callStep0 Try.prog cfg rc md 17 [a0, a1] h0 = exec Try.prog cfg rc ⟨h0.length, h0.length⟩ 26 (bodyOf Try.prog 17) (retK Try.prog cfg 17 (rsOf Try.prog 17) h0) (args0 [a0, a1]) h0 := callStep0_run (by kernel_rfl) (by kernel_rfl) (by kernel_rfl)
theorem F17_h1 (rc : Rec) (md : Md) (X : Nat → T → Heap → Option (Value × Heap)) (a0 : Value) (a1 : Value) (h0 : Heap) : execG Try.prog cfg X rc md 26 (replS (bodyOf Try.prog 17) [([1, 1, 0, 1, 0], 0)]) (retK Try.prog cfg 17 (rsOf Try.prog 17) h0) (args0 [a0, a1]) h0 = F17H rc md (X 0) a0 a1 h0 := by kernel_rfl
theorem F17_h2 (rc : Rec) (md : Md) (a0 : Value) (a1 : Value) (h0 : Heap) : F17H rc md (fun t h => J17_0 rc md h0 (t 0) (t 1) (t 4) (t 12) (t 13) h) a0 a1 h0 = F17 rc md a0 a1 h0 := by unfold F17H F17; kernel_rfl
theorem F17_eq0 (rc : Rec) (md : Md) (a0 : Value) (a1 : Value) (h0 : Heap) : callStep0 Try.prog cfg rc md 17 [a0, a1] h0 = F17 rc ⟨h0.length, h0.length⟩ a0 a1 h0 := by
  rw [F17_h0, exec_holes [([1, 1, 0, 1, 0], 0)] (by kernel_rfl), F17_h1, show (goX Try.prog cfg rc ⟨h0.length, h0.length⟩ 26 (bodyOf Try.prog 17) [([1, 1, 0, 1, 0], 0)] (retK Try.prog cfg 17 (rsOf Try.prog 17) h0)) 0 = _ from J17_0_cut rc ⟨h0.length, h0.length⟩ h0]
  exact F17_h2 rc _ a0 a1 h0
theorem F17_eq (rc : Rec) (md : Md) (a0 : Value) (a1 : Value) (h0 : Heap) : callStep Try.prog cfg rc md 17 [a0, a1] h0 = F17 rc ⟨h0.length, h0.length⟩ a0 a1 h0 := (callStep_ne (by kernel_rfl)).trans (F17_eq0 rc md a0 a1 h0)

/-- tombolo/slot.List -/
noncomputable def Jk18_0 (rc : Rec) (md : Md) (h0 : Heap) (e : Exit) (s0 : Value) (s3 : Value) (s4 : Value) (s5 : Value) (s6 : Value) (h : Heap) : Option (Value × Heap) :=
  match e with
  | .normal =>
    some (s5, h)
  | .exit j =>
    bif Nat.beq j 0 then
      some (s5, h)
    else
      none
  | .ret =>
    some (s4, h)
  | .goto l => none
  | .panic ps => none
  | .outgrown => none
theorem Jk18_0_at (rc : Rec) (md : Md) (h0 : Heap) (e : Exit) (t : T) (h : Heap) : kAt Try.prog cfg rc md 48 (bodyOf Try.prog 18) [1, 1, 1, 0, 0] (retK Try.prog cfg 18 (rsOf Try.prog 18) h0) e t h = Jk18_0 rc md h0 e (t 0) (t 3) (t 4) (t 5) (t 6) h := by cases e <;> kernel_rfl
/-- a round -/
noncomputable def Jr18_0 (rc : Rec) (md : Md) (s0 : Value) (s3 : Value) (s4 : Value) (s5 : Value) (s6 : Value) (h : Heap) : Option (((Value × Value × Value × Value × Value) × Heap) ⊕ (Exit × (Value × Value × Value × Value × Value) × Heap)) :=
  aBin Try.prog .gtr 64 s6 (.int .u64 0) fun v1 =>
  (bif wantV v1 true then
  some (s6, h)
  else some (undef, h)).bind fun p2 =>
  (bif wantV v1 true then
  fA 1 s3 fun v3 =>
  some (v3, p2.2)
  else some (undef, p2.2)).bind fun p4 =>
  (bif wantV v1 true then
  ld1 p4.1 p4.2 fun v5 =>
  cIn .i64 v5 fun n6 =>
  some ((.int .i64 n6), p4.2)
  else some (undef, p4.2)).bind fun p7 =>
  (bif wantV v1 true then
  aConv Try.prog 3 64 p7.1 fun v8 =>
  some (v8, p7.2)
  else some (undef, p7.2)).bind fun p9 =>
  (bif wantV v1 true then
  aBin Try.prog .leq 64 p2.1 p9.1 fun v10 =>
  some (v10, p9.2)
  else some (undef, p9.2)).bind fun p11 =>
  cBn v1 fun q12 =>
  cBn (bif q12 then p11.1 else (.bool false)) fun b13 =>
  (bif wantV (.bool b13) true then
  some (s5, p11.2)
  else some (undef, p11.2)).bind fun p14 =>
  (bif wantV (.bool b13) true then
  lenS p14.1 fun v15 =>
  cIn .i64 v15 fun n16 =>
  some ((.int .i64 n16), p14.2)
  else some (undef, p14.2)).bind fun p17 =>
  (bif wantV (.bool b13) true then
  fA 1 s3 fun v18 =>
  some (v18, p17.2)
  else some (undef, p17.2)).bind fun p19 =>
  (bif wantV (.bool b13) true then
  ld1 p19.1 p19.2 fun v20 =>
  cIn .i64 v20 fun n21 =>
  some ((.int .i64 n21), p19.2)
  else some (undef, p19.2)).bind fun p22 =>
  (bif wantV (.bool b13) true then
  aBin Try.prog .lss 3 p17.1 p22.1 fun v23 =>
  some (v23, p22.2)
  else some (undef, p22.2)).bind fun p24 =>
  cBn (bif b13 then p24.1 else (.bool false)) fun b25 =>
  bif b25 then
    aConv Try.prog 64 3 s6 fun v26 =>
    aBin Try.prog .sub 3 v26 (.int .i64 1) fun v27 =>
    aBuildSlice Try.prog 22 1 [(0, v27)] p24.2 fun v28 h29 =>
    aBuiltin Try.prog md .append #[22, 22] [s5, v28] h29 fun v30 h31 =>
    ldN 3 s3 h31 fun v32 =>
    aConv Try.prog 64 3 s6 fun v33 =>
    aBin Try.prog .sub 3 v33 (.int .i64 1) fun v34 =>
    cl (rc md 74 [v32, v34] h31) fun v35 h36 =>
    cIn .i64 v35 fun n37 =>
    bif okNil Try.prog (.func (.method "Load") #[s0] #[]) then
    clI Try.prog rc md s0 "Load" [(.int .i64 n37)] h36 fun v38 h39 =>
    cIn .u64 v38 fun n40 =>
    some (.inl ((s0, s3, s4, v30, (.int .u64 n40)), h39))
    else none
  else
    some (.inr ((.exit 0), (s0, s3, s4, s5, s6), p24.2))
theorem Jr18_0_at (rc : Rec) (md : Md) (t : T) (h : Heap) : exec Try.prog cfg rc md 48 (sub (bodyOf Try.prog 18) [1, 1, 1, 0, 0, 0]) (rndK (fun t => (t 0, t 3, t 4, t 5, t 6))) t h = Jr18_0 rc md (t 0) (t 3) (t 4) (t 5) (t 6) h := by kernel_rfl
noncomputable def J18_0 (rc : Rec) (md : Md) (h0 : Heap) (s0 : Value) (s3 : Value) (s4 : Value) (s5 : Value) (s6 : Value) (h : Heap) : Option (Value × Heap) :=
  runL (fun x : (Value × Value × Value × Value × Value) × Heap => Jr18_0 rc md x.1.1 x.1.2.1 x.1.2.2.1 x.1.2.2.2.1 x.1.2.2.2.2 x.2) (fun e (s : Value × Value × Value × Value × Value) h => Jk18_0 rc md h0 e s.1 s.2.1 s.2.2.1 s.2.2.2.1 s.2.2.2.2 h) (s0, s3, s4, s5, s6) h
theorem J18_0_step (rc : Rec) (md : Md) (h0 : Heap) (s0 : Value) (s3 : Value) (s4 : Value) (s5 : Value) (s6 : Value) (h : Heap) : J18_0 rc md h0 s0 s3 s4 s5 s6 h = (Jr18_0 rc md s0 s3 s4 s5 s6 h).bind fun x => match x with
    | .inl (s, h) => J18_0 rc md h0 s.1 s.2.1 s.2.2.1 s.2.2.2.1 s.2.2.2.2 h
    | .inr (e, s, h) => Jk18_0 rc md h0 e s.1 s.2.1 s.2.2.1 s.2.2.2.1 s.2.2.2.2 h := by
  unfold J18_0
  rw [runL_eq]
  refine congrArg (Option.bind _) (funext fun x => ?_)
  rcases x with ⟨s, h⟩ | ⟨e, s, h⟩ <;> rfl
theorem J18_0_cut (rc : Rec) (md : Md) (h0 : Heap) : cut Try.prog cfg rc md 48 (bodyOf Try.prog 18) [1, 1, 1, 0, 0] (retK Try.prog cfg 18 (rsOf Try.prog 18) h0) = fun t h => J18_0 rc md h0 (t 0) (t 3) (t 4) (t 5) (t 6) h := by
  funext t h
  have e : sub (bodyOf Try.prog 18) [1, 1, 1, 0, 0] = .loop (sub (bodyOf Try.prog 18) [1, 1, 1, 0, 0, 0]) := by kernel_rfl
  unfold cut
  rw [e]
  exact loop_eq (by kernel_rfl) (fun t => (t 0, t 3, t 4, t 5, t 6)) (fun x : (Value × Value × Value × Value × Value) × Heap => Jr18_0 rc md x.1.1 x.1.2.1 x.1.2.2.1 x.1.2.2.2.1 x.1.2.2.2.2 x.2) (fun t h => Jr18_0_at rc md t h) (fun e (s : Value × Value × Value × Value × Value) h => Jk18_0 rc md h0 e s.1 s.2.1 s.2.2.1 s.2.2.2.1 s.2.2.2.2 h) (fun e t h => Jk18_0_at rc md h0 e t h) t h
noncomputable def F18 (rc : Rec) (md : Md) (a0 : Value) (a1_0 : Int) (a1_1 : Int) (a1_2 : Int) (h0 : Heap) : Option (Value × Heap) :=
  let h1 : Heap := h0 ++ [.own [(.int .i64 a1_0), (.int .i64 a1_1), (.int .i64 a1_2)]]
  ldN 3 (.pointer (some ⟨h0.length, 0, none⟩)) h1 fun v2 =>
  cl (rc md 73 [v2] h1) fun v3 h4 =>
  cIn .i64 v3 fun n5 =>
  bif okNil Try.prog (.func (.method "Load") #[a0] #[]) then
  clI Try.prog rc md a0 "Load" [(.int .i64 n5)] h4 fun v6 h7 =>
  cIn .u64 v6 fun n8 =>
  cl (rc md 72 [(.int .u64 n8)] h7) fun v9 h10 =>
  cIn .u64 v9 fun n11 =>
  J18_0 rc md h0 a0 (.pointer (some ⟨h0.length, 0, none⟩)) (.slice none 0 0) (.slice none 0 0) (.int .u64 n11) h10
  else none
noncomputable def F18H (rc : Rec) (md : Md) (X0 : T → Heap → Option (Value × Heap)) (a0 : Value) (a1_0 : Int) (a1_1 : Int) (a1_2 : Int) (h0 : Heap) : Option (Value × Heap) :=
  let h1 : Heap := h0 ++ [.own [(.int .i64 a1_0), (.int .i64 a1_1), (.int .i64 a1_2)]]
  ldN 3 (.pointer (some ⟨h0.length, 0, none⟩)) h1 fun v2 =>
  cl (rc md 73 [v2] h1) fun v3 h4 =>
  cIn .i64 v3 fun n5 =>
  bif okNil Try.prog (.func (.method "Load") #[a0] #[]) then
  clI Try.prog rc md a0 "Load" [(.int .i64 n5)] h4 fun v6 h7 =>
  cIn .u64 v6 fun n8 =>
  cl (rc md 72 [(.int .u64 n8)] h7) fun v9 h10 =>
  cIn .u64 v9 fun n11 =>
  X0 (upd (upd (upd (upd (upd (upd (upd (upd (upd (upd (upd (upd (args0 [a0, (.agg #[(.int .i64 a1_0), (.int .i64 a1_1), (.int .i64 a1_2)])]) 3 (.pointer (some ⟨h0.length, 0, none⟩))) 4 (.slice none 0 0)) 5 (.slice none 0 0)) 7 a0) 8 v2) 9 (.int .i64 n5)) 10 (.func (.method "Load") #[a0] #[])) 11 (.func (.method "Load") #[a0] #[])) 12 a0) 13 (.int .u64 n8)) 14 (.int .u64 n11)) 6 (.int .u64 n11)) h10
  else none
theorem F18_h0 (rc : Rec) (md : Md) (a0 : Value) (a1_0 : Int) (a1_1 : Int) (a1_2 : Int) (h0 : Heap) : callStep0 Try.prog cfg rc md 18 [a0, (.agg #[(.int .i64 a1_0), (.int .i64 a1_1), (.int .i64 a1_2)])] h0 = exec Try.prog cfg rc md 48 (bodyOf Try.prog 18) (retK Try.prog cfg 18 (rsOf Try.prog 18) h0) (args0 [a0, (.agg #[(.int .i64 a1_0), (.int .i64 a1_1), (.int .i64 a1_2)])]) h0 := callStep0_run (by kernel_rfl) (by kernel_rfl) (by kernel_rfl)
theorem F18_h1 (rc : Rec) (md : Md) (X : Nat → T → Heap → Option (Value × Heap)) (a0 : Value) (a1_0 : Int) (a1_1 : Int) (a1_2 : Int) (h0 : Heap) : execG Try.prog cfg X rc md 48 (replS (bodyOf Try.prog 18) [([1, 1, 1, 0, 0], 0)]) (retK Try.prog cfg 18 (rsOf Try.prog 18) h0) (args0 [a0, (.agg #[(.int .i64 a1_0), (.int .i64 a1_1), (.int .i64 a1_2)])]) h0 = F18H rc md (X 0) a0 a1_0 a1_1 a1_2 h0 := by kernel_rfl
theorem F18_h2 (rc : Rec) (md : Md) (a0 : Value) (a1_0 : Int) (a1_1 : Int) (a1_2 : Int) (h0 : Heap) : F18H rc md (fun t h => J18_0 rc md h0 (t 0) (t 3) (t 4) (t 5) (t 6) h) a0 a1_0 a1_1 a1_2 h0 = F18 rc md a0 a1_0 a1_1 a1_2 h0 := by unfold F18H F18; kernel_rfl
theorem F18_eq0 (rc : Rec) (md : Md) (a0 : Value) (a1_0 : Int) (a1_1 : Int) (a1_2 : Int) (h0 : Heap) : callStep0 Try.prog cfg rc md 18 [a0, (.agg #[(.int .i64 a1_0), (.int .i64 a1_1), (.int .i64 a1_2)])] h0 = F18 rc md a0 a1_0 a1_1 a1_2 h0 := by
  rw [F18_h0, exec_holes [([1, 1, 1, 0, 0], 0)] (by kernel_rfl), F18_h1, show (goX Try.prog cfg rc md 48 (bodyOf Try.prog 18) [([1, 1, 1, 0, 0], 0)] (retK Try.prog cfg 18 (rsOf Try.prog 18) h0)) 0 = _ from J18_0_cut rc md h0]
  exact F18_h2 rc _ a0 a1_0 a1_1 a1_2 h0
theorem F18_eq (rc : Rec) (md : Md) (a0 : Value) (a1_0 : Int) (a1_1 : Int) (a1_2 : Int) (h0 : Heap) : callStep Try.prog cfg rc md 18 [a0, (.agg #[(.int .i64 a1_0), (.int .i64 a1_1), (.int .i64 a1_2)])] h0 = F18 rc md a0 a1_0 a1_1 a1_2 h0 := (callStep_ne (by kernel_rfl)).trans (F18_eq0 rc md a0 a1_0 a1_1 a1_2 h0)

/-- tombolo/slot.NewGive -/
noncomputable def F20 (rc : Rec) (md : Md) (a0_0 : Int) (a0_1 : Int) (a0_2 : Int) (a1 : Int) (h0 : Heap) : Option (Value × Heap) :=
  let h1 : Heap := h0 ++ [.own [(.int .i64 a0_0), (.int .i64 a0_1), (.int .i64 a0_2)]]
  ldN 3 (.pointer (some ⟨h0.length, 0, none⟩)) h1 fun v2 =>
  aBuild Try.prog 126 [(0, v2), (1, (.int .i64 a1))] fun v3 =>
  let h4 : Heap := h1 ++ [.own v3.cells.toList]
  some ((.pointer (some ⟨h1.length, 0, none⟩)), h4)
theorem F20_eq0 (rc : Rec) (md : Md) (a0_0 : Int) (a0_1 : Int) (a0_2 : Int) (a1 : Int) (h0 : Heap) : callStep0 Try.prog cfg rc md 20 [(.agg #[(.int .i64 a0_0), (.int .i64 a0_1), (.int .i64 a0_2)]), (.int .i64 a1)] h0 = F20 rc md a0_0 a0_1 a0_2 a1 h0 := by kernel_rfl
theorem F20_eq (rc : Rec) (md : Md) (a0_0 : Int) (a0_1 : Int) (a0_2 : Int) (a1 : Int) (h0 : Heap) : callStep Try.prog cfg rc md 20 [(.agg #[(.int .i64 a0_0), (.int .i64 a0_1), (.int .i64 a0_2)]), (.int .i64 a1)] h0 = F20 rc md a0_0 a0_1 a0_2 a1 h0 := (callStep_ne (by kernel_rfl)).trans (F20_eq0 rc md a0_0 a0_1 a0_2 a1 h0)

/-- (*tombolo/slot.Give).Step -/
noncomputable def F21 (rc : Rec) (md : Md) (a0 : Value) (a1 : Value) (h0 : Heap) : Option (Value × Heap) :=
  bif okNil Try.prog a0 then
  fA 4 a0 fun v1 =>
  ld1 v1 h0 fun v2 =>
  cIn .i64 v2 fun n3 =>
  bif (n3 == 0) then
    bif okNil Try.prog a0 then
    fA 0 a0 fun v4 =>
    ldN 3 v4 h0 fun v5 =>
    cl (rc md 73 [v5] h0) fun v6 h7 =>
    cIn .i64 v6 fun n8 =>
    cl (rc md 53 [a1, (.int .i64 n8)] h7) fun v9 h10 =>
    exT v9 0 fun v11 =>
    cIn .u64 v11 fun n12 =>
    exT v9 1 fun v13 =>
    cIn .i64 v13 fun n14 =>
    bif okNil Try.prog a0 then
    fA 5 a0 fun v15 =>
    st md 1 v15 (.int .u64 n12) h10 fun h16 =>
    bif okNil Try.prog a0 then
    fA 4 a0 fun v17 =>
    st md 1 v17 (.int .i64 1) h16 fun h18 =>
    cl (rc md 68 [a0] h18) fun v19 h20 =>
    cBn v19 fun b21 =>
    some ((.bool b21), List.take h0.length h20)
    else none
    else none
    else none
  else
    bif (n3 == 1) then
      bif okNil Try.prog a0 then
      fA 0 a0 fun v22 =>
      ldN 3 v22 h0 fun v23 =>
      bif okNil Try.prog a0 then
      fA 3 a0 fun v24 =>
      ld1 v24 h0 fun v25 =>
      cIn .i64 v25 fun n26 =>
      cl (rc md 74 [v23, (.int .i64 n26)] h0) fun v27 h28 =>
      cIn .i64 v27 fun n29 =>
      bif okNil Try.prog a0 then
      fA 5 a0 fun v30 =>
      ld1 v30 h28 fun v31 =>
      cIn .u64 v31 fun n32 =>
      cl (rc md 72 [(.int .u64 n32)] h28) fun v33 h34 =>
      cIn .u64 v33 fun n35 =>
      cl (rc md 33 [a1, (.int .i64 n29), (.int .u64 n35)] h34) fun v36 h37 =>
      cIn .i64 v36 fun n38 =>
      bif okNil Try.prog a0 then
      fA 4 a0 fun v39 =>
      st md 1 v39 (.int .i64 2) h37 fun h40 =>
      cl (rc md 68 [a0] h40) fun v41 h42 =>
      cBn v41 fun b43 =>
      some ((.bool b43), List.take h0.length h42)
      else none
      else none
      else none
      else none
    else
      bif (n3 == 2) then
        bif okNil Try.prog a0 then
        fA 4 a0 fun v44 =>
        st md 1 v44 (.int .i64 0) h0 fun h45 =>
        bif okNil Try.prog a0 then
        fA 0 a0 fun v46 =>
        ldN 3 v46 h45 fun v47 =>
        cl (rc md 73 [v47] h45) fun v48 h49 =>
        cIn .i64 v48 fun n50 =>
        bif okNil Try.prog a0 then
        fA 5 a0 fun v51 =>
        ld1 v51 h49 fun v52 =>
        cIn .u64 v52 fun n53 =>
        bif okNil Try.prog a0 then
        fA 5 a0 fun v54 =>
        ld1 v54 h49 fun v55 =>
        cIn .u64 v55 fun n56 =>
        bif okNil Try.prog a0 then
        fA 3 a0 fun v57 =>
        ld1 v57 h49 fun v58 =>
        cIn .i64 v58 fun n59 =>
        cl (rc md 76 [(.int .u64 n56), (.int .u64 (IntKind.wrap .u64 (IntKind.wrap .i64 (n59 + 1))))] h49) fun v60 h61 =>
        cIn .u64 v60 fun n62 =>
        cl (rc md 75 [a1, (.int .i64 n50), (.int .u64 n53), (.int .u64 n62)] h61) fun v63 h64 =>
        exT v63 0 fun v65 =>
        cBn v65 fun b66 =>
        exT v63 1 fun v67 =>
        cIn .i64 v67 fun n68 =>
        bif b66 then
          bif okNil Try.prog a0 then
          fA 4 a0 fun v69 =>
          st md 1 v69 (.int .i64 3) h64 fun h70 =>
          cl (rc md 68 [a0] h70) fun v71 h72 =>
          cBn v71 fun b73 =>
          some ((.bool b73), List.take h0.length h72)
          else none
        else
          cl (rc md 68 [a0] h64) fun v74 h75 =>
          cBn v74 fun b76 =>
          some ((.bool b76), List.take h0.length h75)
        else none
        else none
        else none
        else none
        else none
      else
        cl (rc md 68 [a0] h0) fun v77 h78 =>
        cBn v77 fun b79 =>
        some ((.bool b79), List.take h0.length h78)
  else none
theorem F21_eq0 (rc : Rec) (md : Md) (a0 : Value) (a1 : Value) (h0 : Heap) : callStep0 Try.prog cfg rc md 21 [a0, a1] h0 = F21 rc ⟨md.ro, h0.length⟩ a0 a1 h0 := by kernel_rfl
theorem F21_eq (rc : Rec) (md : Md) (a0 : Value) (a1 : Value) (h0 : Heap) : callStep Try.prog cfg rc md 21 [a0, a1] h0 = F21 rc ⟨md.ro, h0.length⟩ a0 a1 h0 := (callStep_ne (by kernel_rfl)).trans (F21_eq0 rc md a0 a1 h0)

/-- tombolo/tombololaw07.without -/
noncomputable def Jk22_0 (rc : Rec) (md : Md) (h0 : Heap) (e : Exit) (s1 : Value) (s4 : Value) (s5 : Value) (s8 : Value) (s9 : Value) (s10 : Value) (h : Heap) : Option (Value × Heap) :=
  match e with
  | .normal =>
    some (s5, h)
  | .exit j =>
    bif Nat.beq j 0 then
      some (s5, h)
    else
      none
  | .ret =>
    some (s4, h)
  | .goto l => none
  | .panic ps => none
  | .outgrown => none
theorem Jk22_0_at (rc : Rec) (md : Md) (h0 : Heap) (e : Exit) (t : T) (h : Heap) : kAt Try.prog cfg rc md 23 (bodyOf Try.prog 22) [1, 1, 0, 1, 0] (retK Try.prog cfg 22 (rsOf Try.prog 22) h0) e t h = Jk22_0 rc md h0 e (t 1) (t 4) (t 5) (t 8) (t 9) (t 10) h := by cases e <;> kernel_rfl
/-- a round -/
noncomputable def Jr22_0 (rc : Rec) (md : Md) (s1 : Value) (s4 : Value) (s5 : Value) (s8 : Value) (s9 : Value) (s10 : Value) (h : Heap) : Option (((Value × Value × Value × Value × Value × Value) × Heap) ⊕ (Exit × (Value × Value × Value × Value × Value × Value) × Heap)) :=
  aBin Try.prog .lss 3 s10 s9 fun v1 =>
  cBn v1 fun b2 =>
  bif b2 then
    ixSV 1 s8 s10 fun v3 =>
    ld1 v3 h fun v4 =>
    cIn .i64 v4 fun n5 =>
    aBin Try.prog .neq 3 (.int .i64 n5) s1 fun v6 =>
    cBn v6 fun b7 =>
    bif b7 then
      let h8 : Heap := h ++ [.own [(.int .i64 n5)]]
      aBuiltin Try.prog md .append #[22, 22] [s5, (.slice (some ⟨h.length, 0, none⟩) 1 1)] h8 fun v9 h10 =>
      aBin Try.prog .add 3 s10 (.int .i64 1) fun v11 =>
      some (.inl ((s1, s4, v9, s8, s9, v11), h10))
    else
      aBin Try.prog .add 3 s10 (.int .i64 1) fun v12 =>
      some (.inl ((s1, s4, s5, s8, s9, v12), h))
  else
    some (.inr ((.exit 0), (s1, s4, s5, s8, s9, s10), h))
theorem Jr22_0_at (rc : Rec) (md : Md) (t : T) (h : Heap) : exec Try.prog cfg rc md 23 (sub (bodyOf Try.prog 22) [1, 1, 0, 1, 0, 0]) (rndK (fun t => (t 1, t 4, t 5, t 8, t 9, t 10))) t h = Jr22_0 rc md (t 1) (t 4) (t 5) (t 8) (t 9) (t 10) h := by kernel_rfl
noncomputable def J22_0 (rc : Rec) (md : Md) (h0 : Heap) (s1 : Value) (s4 : Value) (s5 : Value) (s8 : Value) (s9 : Value) (s10 : Value) (h : Heap) : Option (Value × Heap) :=
  runL (fun x : (Value × Value × Value × Value × Value × Value) × Heap => Jr22_0 rc md x.1.1 x.1.2.1 x.1.2.2.1 x.1.2.2.2.1 x.1.2.2.2.2.1 x.1.2.2.2.2.2 x.2) (fun e (s : Value × Value × Value × Value × Value × Value) h => Jk22_0 rc md h0 e s.1 s.2.1 s.2.2.1 s.2.2.2.1 s.2.2.2.2.1 s.2.2.2.2.2 h) (s1, s4, s5, s8, s9, s10) h
theorem J22_0_step (rc : Rec) (md : Md) (h0 : Heap) (s1 : Value) (s4 : Value) (s5 : Value) (s8 : Value) (s9 : Value) (s10 : Value) (h : Heap) : J22_0 rc md h0 s1 s4 s5 s8 s9 s10 h = (Jr22_0 rc md s1 s4 s5 s8 s9 s10 h).bind fun x => match x with
    | .inl (s, h) => J22_0 rc md h0 s.1 s.2.1 s.2.2.1 s.2.2.2.1 s.2.2.2.2.1 s.2.2.2.2.2 h
    | .inr (e, s, h) => Jk22_0 rc md h0 e s.1 s.2.1 s.2.2.1 s.2.2.2.1 s.2.2.2.2.1 s.2.2.2.2.2 h := by
  unfold J22_0
  rw [runL_eq]
  refine congrArg (Option.bind _) (funext fun x => ?_)
  rcases x with ⟨s, h⟩ | ⟨e, s, h⟩ <;> rfl
theorem J22_0_cut (rc : Rec) (md : Md) (h0 : Heap) : cut Try.prog cfg rc md 23 (bodyOf Try.prog 22) [1, 1, 0, 1, 0] (retK Try.prog cfg 22 (rsOf Try.prog 22) h0) = fun t h => J22_0 rc md h0 (t 1) (t 4) (t 5) (t 8) (t 9) (t 10) h := by
  funext t h
  have e : sub (bodyOf Try.prog 22) [1, 1, 0, 1, 0] = .loop (sub (bodyOf Try.prog 22) [1, 1, 0, 1, 0, 0]) := by kernel_rfl
  unfold cut
  rw [e]
  exact loop_eq (by kernel_rfl) (fun t => (t 1, t 4, t 5, t 8, t 9, t 10)) (fun x : (Value × Value × Value × Value × Value × Value) × Heap => Jr22_0 rc md x.1.1 x.1.2.1 x.1.2.2.1 x.1.2.2.2.1 x.1.2.2.2.2.1 x.1.2.2.2.2.2 x.2) (fun t h => Jr22_0_at rc md t h) (fun e (s : Value × Value × Value × Value × Value × Value) h => Jk22_0 rc md h0 e s.1 s.2.1 s.2.2.1 s.2.2.2.1 s.2.2.2.2.1 s.2.2.2.2.2 h) (fun e t h => Jk22_0_at rc md h0 e t h) t h
noncomputable def F22 (rc : Rec) (md : Md) (a0 : Value) (a1 : Int) (h0 : Heap) : Option (Value × Heap) :=
  lenS a0 fun v1 =>
  cIn .i64 v1 fun n2 =>
  J22_0 rc md h0 (.int .i64 a1) (.slice none 0 0) (.slice none 0 0) a0 (.int .i64 n2) (.int .i64 0) h0
noncomputable def F22H (rc : Rec) (md : Md) (X0 : T → Heap → Option (Value × Heap)) (a0 : Value) (a1 : Int) (h0 : Heap) : Option (Value × Heap) :=
  lenS a0 fun v1 =>
  cIn .i64 v1 fun n2 =>
  X0 (upd (upd (upd (upd (upd (args0 [a0, (.int .i64 a1)]) 4 (.slice none 0 0)) 5 (.slice none 0 0)) 8 a0) 9 (.int .i64 n2)) 10 (.int .i64 0)) h0
theorem F22_h0 (rc : Rec) (md : Md) (a0 : Value) (a1 : Int) (h0 : Heap) : callStep0 Try.prog cfg rc md 22 [a0, (.int .i64 a1)] h0 = exec Try.prog cfg rc md 23 (bodyOf Try.prog 22) (retK Try.prog cfg 22 (rsOf Try.prog 22) h0) (args0 [a0, (.int .i64 a1)]) h0 := callStep0_run (by kernel_rfl) (by kernel_rfl) (by kernel_rfl)
theorem F22_h1 (rc : Rec) (md : Md) (X : Nat → T → Heap → Option (Value × Heap)) (a0 : Value) (a1 : Int) (h0 : Heap) : execG Try.prog cfg X rc md 23 (replS (bodyOf Try.prog 22) [([1, 1, 0, 1, 0], 0)]) (retK Try.prog cfg 22 (rsOf Try.prog 22) h0) (args0 [a0, (.int .i64 a1)]) h0 = F22H rc md (X 0) a0 a1 h0 := by kernel_rfl
theorem F22_h2 (rc : Rec) (md : Md) (a0 : Value) (a1 : Int) (h0 : Heap) : F22H rc md (fun t h => J22_0 rc md h0 (t 1) (t 4) (t 5) (t 8) (t 9) (t 10) h) a0 a1 h0 = F22 rc md a0 a1 h0 := by unfold F22H F22; kernel_rfl
theorem F22_eq0 (rc : Rec) (md : Md) (a0 : Value) (a1 : Int) (h0 : Heap) : callStep0 Try.prog cfg rc md 22 [a0, (.int .i64 a1)] h0 = F22 rc md a0 a1 h0 := by
  rw [F22_h0, exec_holes [([1, 1, 0, 1, 0], 0)] (by kernel_rfl), F22_h1, show (goX Try.prog cfg rc md 23 (bodyOf Try.prog 22) [([1, 1, 0, 1, 0], 0)] (retK Try.prog cfg 22 (rsOf Try.prog 22) h0)) 0 = _ from J22_0_cut rc md h0]
  exact F22_h2 rc _ a0 a1 h0
theorem F22_eq (rc : Rec) (md : Md) (a0 : Value) (a1 : Int) (h0 : Heap) : callStep Try.prog cfg rc md 22 [a0, (.int .i64 a1)] h0 = F22 rc md a0 a1 h0 := (callStep_ne (by kernel_rfl)).trans (F22_eq0 rc md a0 a1 h0)

/-- tombolo/slot.NewTake -/
noncomputable def F23 (rc : Rec) (md : Md) (a0_0 : Int) (a0_1 : Int) (a0_2 : Int) (h0 : Heap) : Option (Value × Heap) :=
  let h1 : Heap := h0 ++ [.own [(.int .i64 a0_0), (.int .i64 a0_1), (.int .i64 a0_2)]]
  ldN 3 (.pointer (some ⟨h0.length, 0, none⟩)) h1 fun v2 =>
  aBuild Try.prog 131 [(0, v2)] fun v3 =>
  let h4 : Heap := h1 ++ [.own v3.cells.toList]
  some ((.pointer (some ⟨h1.length, 0, none⟩)), h4)
theorem F23_eq0 (rc : Rec) (md : Md) (a0_0 : Int) (a0_1 : Int) (a0_2 : Int) (h0 : Heap) : callStep0 Try.prog cfg rc md 23 [(.agg #[(.int .i64 a0_0), (.int .i64 a0_1), (.int .i64 a0_2)])] h0 = F23 rc md a0_0 a0_1 a0_2 h0 := by kernel_rfl
theorem F23_eq (rc : Rec) (md : Md) (a0_0 : Int) (a0_1 : Int) (a0_2 : Int) (h0 : Heap) : callStep Try.prog cfg rc md 23 [(.agg #[(.int .i64 a0_0), (.int .i64 a0_1), (.int .i64 a0_2)])] h0 = F23 rc md a0_0 a0_1 a0_2 h0 := (callStep_ne (by kernel_rfl)).trans (F23_eq0 rc md a0_0 a0_1 a0_2 h0)

/-- (*tombolo/slot.Take).Step -/
noncomputable def F24 (rc : Rec) (md : Md) (a0 : Value) (a1 : Value) (h0 : Heap) : Option (Value × Heap) :=
  bif okNil Try.prog a0 then
  fA 3 a0 fun v1 =>
  ld1 v1 h0 fun v2 =>
  cIn .i64 v2 fun n3 =>
  bif (n3 == 0) then
    bif okNil Try.prog a0 then
    fA 0 a0 fun v4 =>
    ldN 3 v4 h0 fun v5 =>
    cl (rc md 73 [v5] h0) fun v6 h7 =>
    cIn .i64 v6 fun n8 =>
    cl (rc md 53 [a1, (.int .i64 n8)] h7) fun v9 h10 =>
    exT v9 0 fun v11 =>
    cIn .u64 v11 fun n12 =>
    exT v9 1 fun v13 =>
    cIn .i64 v13 fun n14 =>
    bif okNil Try.prog a0 then
    fA 4 a0 fun v15 =>
    st md 1 v15 (.int .u64 n12) h10 fun h16 =>
    bif okNil Try.prog a0 then
    fA 3 a0 fun v17 =>
    st md 1 v17 (.int .i64 1) h16 fun h18 =>
    bif okNil Try.prog a0 then
    fA 4 a0 fun v19 =>
    ld1 v19 h18 fun v20 =>
    cIn .u64 v20 fun n21 =>
    cl (rc md 72 [(.int .u64 n21)] h18) fun v22 h23 =>
    cIn .u64 v22 fun n24 =>
    bif (n24 == 0) then
      bif okNil Try.prog a0 then
      fA 3 a0 fun v25 =>
      st md 1 v25 (.int .i64 3) h23 fun h26 =>
      cl (rc md 67 [a0] h26) fun v27 h28 =>
      cBn v27 fun b29 =>
      some ((.bool b29), List.take h0.length h28)
      else none
    else
      cl (rc md 67 [a0] h23) fun v30 h31 =>
      cBn v30 fun b32 =>
      some ((.bool b32), List.take h0.length h31)
    else none
    else none
    else none
    else none
  else
    bif (n3 == 1) then
      bif okNil Try.prog a0 then
      fA 0 a0 fun v33 =>
      ldN 3 v33 h0 fun v34 =>
      bif okNil Try.prog a0 then
      fA 4 a0 fun v35 =>
      ld1 v35 h0 fun v36 =>
      cIn .u64 v36 fun n37 =>
      cl (rc md 72 [(.int .u64 n37)] h0) fun v38 h39 =>
      cIn .u64 v38 fun n40 =>
      cl (rc md 74 [v34, (.int .i64 (IntKind.wrap .i64 ((IntKind.wrap .i64 n40) - 1)))] h39) fun v41 h42 =>
      cIn .i64 v41 fun n43 =>
      cl (rc md 53 [a1, (.int .i64 n43)] h42) fun v44 h45 =>
      exT v44 0 fun v46 =>
      cIn .u64 v46 fun n47 =>
      exT v44 1 fun v48 =>
      cIn .i64 v48 fun n49 =>
      bif okNil Try.prog a0 then
      fA 5 a0 fun v50 =>
      st md 1 v50 (.int .u64 n47) h45 fun h51 =>
      bif okNil Try.prog a0 then
      fA 3 a0 fun v52 =>
      st md 1 v52 (.int .i64 2) h51 fun h53 =>
      cl (rc md 67 [a0] h53) fun v54 h55 =>
      cBn v54 fun b56 =>
      some ((.bool b56), List.take h0.length h55)
      else none
      else none
      else none
      else none
    else
      bif (n3 == 2) then
        bif okNil Try.prog a0 then
        fA 3 a0 fun v57 =>
        st md 1 v57 (.int .i64 0) h0 fun h58 =>
        bif okNil Try.prog a0 then
        fA 0 a0 fun v59 =>
        ldN 3 v59 h58 fun v60 =>
        cl (rc md 73 [v60] h58) fun v61 h62 =>
        cIn .i64 v61 fun n63 =>
        bif okNil Try.prog a0 then
        fA 4 a0 fun v64 =>
        ld1 v64 h62 fun v65 =>
        cIn .u64 v65 fun n66 =>
        bif okNil Try.prog a0 then
        fA 4 a0 fun v67 =>
        ld1 v67 h62 fun v68 =>
        cIn .u64 v68 fun n69 =>
        bif okNil Try.prog a0 then
        fA 5 a0 fun v70 =>
        ld1 v70 h62 fun v71 =>
        cIn .u64 v71 fun n72 =>
        cl (rc md 76 [(.int .u64 n69), (.int .u64 n72)] h62) fun v73 h74 =>
        cIn .u64 v73 fun n75 =>
        cl (rc md 75 [a1, (.int .i64 n63), (.int .u64 n66), (.int .u64 n75)] h74) fun v76 h77 =>
        exT v76 0 fun v78 =>
        cBn v78 fun b79 =>
        exT v76 1 fun v80 =>
        cIn .i64 v80 fun n81 =>
        bif b79 then
          bif okNil Try.prog a0 then
          fA 3 a0 fun v82 =>
          st md 1 v82 (.int .i64 3) h77 fun h83 =>
          cl (rc md 67 [a0] h83) fun v84 h85 =>
          cBn v84 fun b86 =>
          some ((.bool b86), List.take h0.length h85)
          else none
        else
          cl (rc md 67 [a0] h77) fun v87 h88 =>
          cBn v87 fun b89 =>
          some ((.bool b89), List.take h0.length h88)
        else none
        else none
        else none
        else none
        else none
      else
        cl (rc md 67 [a0] h0) fun v90 h91 =>
        cBn v90 fun b92 =>
        some ((.bool b92), List.take h0.length h91)
  else none
theorem F24_eq0 (rc : Rec) (md : Md) (a0 : Value) (a1 : Value) (h0 : Heap) : callStep0 Try.prog cfg rc md 24 [a0, a1] h0 = F24 rc ⟨md.ro, h0.length⟩ a0 a1 h0 := by kernel_rfl
theorem F24_eq (rc : Rec) (md : Md) (a0 : Value) (a1 : Value) (h0 : Heap) : callStep Try.prog cfg rc md 24 [a0, a1] h0 = F24 rc ⟨md.ro, h0.length⟩ a0 a1 h0 := (callStep_ne (by kernel_rfl)).trans (F24_eq0 rc md a0 a1 h0)

/-- (*tombolo/slot.Take).Slot -/
noncomputable def F25 (rc : Rec) (md : Md) (a0 : Value) (h0 : Heap) : Option (Value × Heap) :=
  cl (rc md 67 [a0] h0) fun v1 h2 =>
  cBn v1 fun b3 =>
  (bif wantV (.bool (!b3)) false then
  some (a0, h2)
  else some (undef, h2)).bind fun p4 =>
  (bif wantV (.bool (!b3)) false then
  bif okNil Try.prog p4.1 then
  some (p4.1, p4.2)
  else none
  else some (undef, p4.2)).bind fun p5 =>
  (bif wantV (.bool (!b3)) false then
  fA 4 p5.1 fun v6 =>
  some (v6, p5.2)
  else some (undef, p5.2)).bind fun p7 =>
  (bif wantV (.bool (!b3)) false then
  ld1 p7.1 p7.2 fun v8 =>
  cIn .u64 v8 fun n9 =>
  some ((.int .u64 n9), p7.2)
  else some (undef, p7.2)).bind fun p10 =>
  (bif wantV (.bool (!b3)) false then
  cl (rc md 72 [p10.1] p10.2) fun v11 h12 =>
  cIn .u64 v11 fun n13 =>
  some ((.int .u64 n13), h12)
  else some (undef, p10.2)).bind fun p14 =>
  (bif wantV (.bool (!b3)) false then
  aBin Try.prog .eql 64 p14.1 (.int .u64 0) fun v15 =>
  some (v15, p14.2)
  else some (undef, p14.2)).bind fun p16 =>
  cBn (bif !b3 then (.bool true) else p16.1) fun b17 =>
  bif b17 then
    some ((.tuple #[(.int .i64 0), (.bool false)]), h0)
  else
    bif okNil Try.prog a0 then
    fA 4 a0 fun v18 =>
    ld1 v18 p16.2 fun v19 =>
    cIn .u64 v19 fun n20 =>
    cl (rc md 72 [(.int .u64 n20)] p16.2) fun v21 h22 =>
    cIn .u64 v21 fun n23 =>
    some ((.tuple #[(.int .i64 (IntKind.wrap .i64 ((IntKind.wrap .i64 n23) - 1))), (.bool true)]), h0)
    else none
theorem F25_eq0 (rc : Rec) (md : Md) (a0 : Value) (h0 : Heap) : callStep0 Try.prog cfg rc md 25 [a0] h0 = F25 rc ⟨h0.length, h0.length⟩ a0 h0 := by kernel_rfl
theorem F25_eq (rc : Rec) (md : Md) (a0 : Value) (h0 : Heap) : callStep Try.prog cfg rc md 25 [a0] h0 = F25 rc ⟨h0.length, h0.length⟩ a0 h0 := (callStep_ne (by kernel_rfl)).trans (F25_eq0 rc md a0 h0)

/-- (*tombolo/tombololaw07.play).step -/
noncomputable def J27_2 (rc : Rec) (md : Md) (h0 : Heap) (s0 : Value) (s7 : Value) (h : Heap) : Option (Value × Heap) :=
  bif okNil Try.prog s0 then
  fA 3 s0 fun v1 =>
  ld1 v1 h fun v2 =>
  cl (rc md 29 [v2] h) fun v3 h4 =>
  let h5 : Heap := h4 ++ [.own [(.int .i64 0), (.int .i64 0), (.int .i64 0), (.int .i64 0), (.int .i64 0)]]
  st md 5 (.pointer (some ⟨h4.length, 0, none⟩)) v3 h5 fun h6 =>
  ld1 (.pointer (some ⟨h4.length, 0, none⟩)) h6 fun v7 =>
  cIn .i64 v7 fun n8 =>
  ld1 (.pointer (some ⟨h4.length, 1, none⟩)) h6 fun v9 =>
  cIn .i64 v9 fun n10 =>
  ld1 (.pointer (some ⟨h4.length, 2, none⟩)) h6 fun v11 =>
  cIn .i64 v11 fun n12 =>
  ld1 (.pointer (some ⟨h4.length, 3, none⟩)) h6 fun v13 =>
  cIn .i64 v13 fun n14 =>
  fA 0 s7 fun v15 =>
  ld1 v15 h6 fun v16 =>
  cIn .i64 v16 fun n17 =>
  fA 1 s7 fun v18 =>
  ld1 v18 h6 fun v19 =>
  cIn .i64 v19 fun n20 =>
  fA 2 s7 fun v21 =>
  ld1 v21 h6 fun v22 =>
  cIn .i64 v22 fun n23 =>
  fA 3 s7 fun v24 =>
  ld1 v24 h6 fun v25 =>
  cIn .i64 v25 fun n26 =>
  some ((.bool ((IntKind.wrap .i64 ((IntKind.wrap .i64 ((IntKind.wrap .i64 (n8 + n10)) + n12)) + n14)) == (IntKind.wrap .i64 ((IntKind.wrap .i64 ((IntKind.wrap .i64 ((IntKind.wrap .i64 (n17 + n20)) + n23)) + n26)) + 1)))), h6)
  else none
theorem J27_2_at (rc : Rec) (md : Md) (h0 : Heap) (t : T) (h : Heap) : cut Try.prog cfg rc md 151 (bodyOf Try.prog 27) [1, 1, 1, 1] (retK Try.prog cfg 27 (rsOf Try.prog 27) h0) t h = J27_2 rc md h0 (t 0) (t 7) h := by kernel_rfl
theorem J27_2_cut (rc : Rec) (md : Md) (h0 : Heap) : cut Try.prog cfg rc md 151 (bodyOf Try.prog 27) [1, 1, 1, 1] (retK Try.prog cfg 27 (rsOf Try.prog 27) h0) = fun t h => J27_2 rc md h0 (t 0) (t 7) h := funext fun t => funext fun h => J27_2_at rc md h0 t h
noncomputable def J27_1 (rc : Rec) (md : Md) (h0 : Heap) (s0 : Value) (s1 : Value) (s7 : Value) (h : Heap) : Option (Value × Heap) :=
  bif okNil Try.prog s1 then
  fA 0 s1 fun v1 =>
  st md 1 v1 (.pointer none) h fun h2 =>
  J27_2 rc md h0 s0 s7 h2
  else none
noncomputable def J27_1H (rc : Rec) (md : Md) (h0 : Heap) (X1 : T → Heap → Option (Value × Heap)) (t : T) (h : Heap) : Option (Value × Heap) :=
  bif okNil Try.prog (t 1) then
  fA 0 (t 1) fun v1 =>
  st md 1 v1 (.pointer none) h fun h2 =>
  X1 (upd (upd (upd t 101 (t 1)) 102 (t 1)) 103 v1) h2
  else none
theorem J27_1_h1 (rc : Rec) (md : Md) (h0 : Heap) (X : Nat → T → Heap → Option (Value × Heap)) (t : T) (h : Heap) : execG Try.prog cfg X rc md 151 (sub (replS (bodyOf Try.prog 27) [([1, 1, 1, 1], 1)]) [1, 1, 1, 0, 0, 1, 0, 1, 0, 1]) (kAtG Try.prog cfg X rc md 151 (replS (bodyOf Try.prog 27) [([1, 1, 1, 1], 1)]) [1, 1, 1, 0, 0, 1, 0, 1, 0, 1] (retK Try.prog cfg 27 (rsOf Try.prog 27) h0)) t h = J27_1H rc md h0 (X 1) t h := by kernel_rfl
theorem J27_1_h2 (rc : Rec) (md : Md) (h0 : Heap) (t : T) (h : Heap) : J27_1H rc md h0 (fun t h => J27_2 rc md h0 (t 0) (t 7) h) t h = J27_1 rc md h0 (t 0) (t 1) (t 7) h := by (unfold J27_1H J27_1; kernel_rfl)
theorem J27_1_at (rc : Rec) (md : Md) (h0 : Heap) (t : T) (h : Heap) : cut Try.prog cfg rc md 151 (bodyOf Try.prog 27) [1, 1, 1, 0, 0, 1, 0, 1, 0, 1] (retK Try.prog cfg 27 (rsOf Try.prog 27) h0) t h = J27_1 rc md h0 (t 0) (t 1) (t 7) h := by
  rw [cut_holes [([1, 1, 1, 1], 1)] [1, 1, 1, 0, 0, 1, 0, 1, 0, 1] (by kernel_rfl), J27_1_h1, show (goX Try.prog cfg rc md 151 (bodyOf Try.prog 27) [([1, 1, 1, 1], 1)] (retK Try.prog cfg 27 (rsOf Try.prog 27) h0)) 1 = _ from J27_2_cut rc md h0]
  exact J27_1_h2 rc md h0 t h
theorem J27_1_cut (rc : Rec) (md : Md) (h0 : Heap) : cut Try.prog cfg rc md 151 (bodyOf Try.prog 27) [1, 1, 1, 0, 0, 1, 0, 1, 0, 1] (retK Try.prog cfg 27 (rsOf Try.prog 27) h0) = fun t h => J27_1 rc md h0 (t 0) (t 1) (t 7) h := funext fun t => funext fun h => J27_1_at rc md h0 t h
noncomputable def J27_0 (rc : Rec) (md : Md) (h0 : Heap) (s0 : Value) (s1 : Value) (h : Heap) : Option (Value × Heap) :=
  bif okNil Try.prog s0 then
  fA 3 s0 fun v1 =>
  ld1 v1 h fun v2 =>
  cl (rc md 29 [v2] h) fun v3 h4 =>
  let h5 : Heap := h4 ++ [.own [(.int .i64 0), (.int .i64 0), (.int .i64 0), (.int .i64 0), (.int .i64 0)]]
  st md 5 (.pointer (some ⟨h4.length, 0, none⟩)) v3 h5 fun h6 =>
  bif okNil Try.prog s1 then
  fA 0 s1 fun v7 =>
  ld1 v7 h6 fun v8 =>
  aBin Try.prog .neq 37 v8 (.pointer none) fun v9 =>
  cBn v9 fun b10 =>
  bif b10 then
    bif okNil Try.prog s1 then
    fA 0 s1 fun v11 =>
    ld1 v11 h6 fun v12 =>
    bif okNil Try.prog s0 then
    fA 3 s0 fun v13 =>
    ld1 v13 h6 fun v14 =>
    cl (rc md 24 [v12, v14] h6) fun v15 h16 =>
    cBn v15 fun b17 =>
    bif b17 then
      bif okNil Try.prog s1 then
      fA 0 s1 fun v18 =>
      ld1 v18 h16 fun v19 =>
      cl (rc md 25 [v19] h16) fun v20 h21 =>
      exT v20 0 fun v22 =>
      cIn .i64 v22 fun n23 =>
      exT v20 1 fun v24 =>
      cBn v24 fun b25 =>
      bif b25 then
        bif okNil Try.prog s1 then
        fA 2 s1 fun v26 =>
        ld1 v26 h21 fun v27 =>
        let h28 : Heap := h21 ++ [.own [(.int .i64 n23)]]
        aBuiltin Try.prog md .append #[22, 22] [v27, (.slice (some ⟨h21.length, 0, none⟩) 1 1)] h28 fun v29 h30 =>
        bif okNil Try.prog s1 then
        fA 2 s1 fun v31 =>
        st md 1 v31 v29 h30 fun h32 =>
        J27_1 rc md h0 s0 s1 (.pointer (some ⟨h4.length, 0, none⟩)) h32
        else none
        else none
      else
        J27_1 rc md h0 s0 s1 (.pointer (some ⟨h4.length, 0, none⟩)) h21
      else none
    else
      J27_2 rc md h0 s0 (.pointer (some ⟨h4.length, 0, none⟩)) h16
    else none
    else none
  else
    bif okNil Try.prog s1 then
    fA 1 s1 fun v33 =>
    ld1 v33 h6 fun v34 =>
    aBin Try.prog .neq 33 v34 (.pointer none) fun v35 =>
    cBn v35 fun b36 =>
    bif b36 then
      bif okNil Try.prog s1 then
      fA 1 s1 fun v37 =>
      ld1 v37 h6 fun v38 =>
      bif okNil Try.prog s0 then
      fA 3 s0 fun v39 =>
      ld1 v39 h6 fun v40 =>
      cl (rc md 21 [v38, v40] h6) fun v41 h42 =>
      cBn v41 fun b43 =>
      bif b43 then
        bif okNil Try.prog s1 then
        fA 1 s1 fun v44 =>
        st md 1 v44 (.pointer none) h42 fun h45 =>
        J27_2 rc md h0 s0 (.pointer (some ⟨h4.length, 0, none⟩)) h45
        else none
      else
        J27_2 rc md h0 s0 (.pointer (some ⟨h4.length, 0, none⟩)) h42
      else none
      else none
    else
      some ((.bool false), h6)
    else none
  else none
  else none
noncomputable def J27_0H (rc : Rec) (md : Md) (h0 : Heap) (X0 : T → Heap → Option (Value × Heap)) (X1 : T → Heap → Option (Value × Heap)) (t : T) (h : Heap) : Option (Value × Heap) :=
  bif okNil Try.prog (t 0) then
  fA 3 (t 0) fun v1 =>
  ld1 v1 h fun v2 =>
  cl (rc md 29 [v2] h) fun v3 h4 =>
  let h5 : Heap := h4 ++ [.own [(.int .i64 0), (.int .i64 0), (.int .i64 0), (.int .i64 0), (.int .i64 0)]]
  st md 5 (.pointer (some ⟨h4.length, 0, none⟩)) v3 h5 fun h6 =>
  bif okNil Try.prog (t 1) then
  fA 0 (t 1) fun v7 =>
  ld1 v7 h6 fun v8 =>
  aBin Try.prog .neq 37 v8 (.pointer none) fun v9 =>
  cBn v9 fun b10 =>
  bif b10 then
    bif okNil Try.prog (t 1) then
    fA 0 (t 1) fun v11 =>
    ld1 v11 h6 fun v12 =>
    bif okNil Try.prog (t 0) then
    fA 3 (t 0) fun v13 =>
    ld1 v13 h6 fun v14 =>
    cl (rc md 24 [v12, v14] h6) fun v15 h16 =>
    cBn v15 fun b17 =>
    bif b17 then
      bif okNil Try.prog (t 1) then
      fA 0 (t 1) fun v18 =>
      ld1 v18 h16 fun v19 =>
      cl (rc md 25 [v19] h16) fun v20 h21 =>
      exT v20 0 fun v22 =>
      cIn .i64 v22 fun n23 =>
      exT v20 1 fun v24 =>
      cBn v24 fun b25 =>
      bif b25 then
        bif okNil Try.prog (t 1) then
        fA 2 (t 1) fun v26 =>
        ld1 v26 h21 fun v27 =>
        let h28 : Heap := h21 ++ [.own [(.int .i64 n23)]]
        aBuiltin Try.prog md .append #[22, 22] [v27, (.slice (some ⟨h21.length, 0, none⟩) 1 1)] h28 fun v29 h30 =>
        bif okNil Try.prog (t 1) then
        fA 2 (t 1) fun v31 =>
        st md 1 v31 v29 h30 fun h32 =>
        X0 (upd (upd (upd (upd (upd (upd (upd (upd (upd (upd (upd (upd (upd (upd (upd (upd (upd (upd (upd (upd (upd (upd (upd (upd (upd (upd (upd (upd (upd (upd (upd (upd (upd (upd (upd (upd (upd (upd (upd (upd (upd (upd t 62 (t 0)) 63 (t 0)) 64 v1) 65 v2) 66 v3) 7 (.pointer (some ⟨h4.length, 0, none⟩))) 68 (t 1)) 69 (t 1)) 70 v7) 71 v8) 72 v9) 67 v9) 73 (t 1)) 74 (t 1)) 75 v11) 76 v12) 77 (t 0)) 78 (t 0)) 79 v13) 80 v14) 81 (.bool b17)) 83 (t 1)) 84 (t 1)) 85 v18) 86 v19) 87 v20) 82 v20) 88 (.int .i64 n23)) 89 (.bool b25)) 8 (.int .i64 n23)) 9 (.bool b25)) 90 (.bool b25)) 91 (t 1)) 92 (t 1)) 93 (t 1)) 94 v26) 95 v27) 96 (.int .i64 n23)) 97 (.slice (some ⟨h21.length, 0, none⟩) 1 1)) 98 v29) 99 (t 1)) 100 v31) h32
        else none
        else none
      else
        X0 (upd (upd (upd (upd (upd (upd (upd (upd (upd (upd (upd (upd (upd (upd (upd (upd (upd (upd (upd (upd (upd (upd (upd (upd (upd (upd (upd (upd (upd (upd (upd (upd t 62 (t 0)) 63 (t 0)) 64 v1) 65 v2) 66 v3) 7 (.pointer (some ⟨h4.length, 0, none⟩))) 68 (t 1)) 69 (t 1)) 70 v7) 71 v8) 72 v9) 67 v9) 73 (t 1)) 74 (t 1)) 75 v11) 76 v12) 77 (t 0)) 78 (t 0)) 79 v13) 80 v14) 81 (.bool b17)) 83 (t 1)) 84 (t 1)) 85 v18) 86 v19) 87 v20) 82 v20) 88 (.int .i64 n23)) 89 (.bool b25)) 8 (.int .i64 n23)) 9 (.bool b25)) 90 (.bool b25)) h21
      else none
    else
      X1 (upd (upd (upd (upd (upd (upd (upd (upd (upd (upd (upd (upd (upd (upd (upd (upd (upd (upd (upd (upd (upd t 62 (t 0)) 63 (t 0)) 64 v1) 65 v2) 66 v3) 7 (.pointer (some ⟨h4.length, 0, none⟩))) 68 (t 1)) 69 (t 1)) 70 v7) 71 v8) 72 v9) 67 v9) 73 (t 1)) 74 (t 1)) 75 v11) 76 v12) 77 (t 0)) 78 (t 0)) 79 v13) 80 v14) 81 (.bool b17)) h16
    else none
    else none
  else
    bif okNil Try.prog (t 1) then
    fA 1 (t 1) fun v33 =>
    ld1 v33 h6 fun v34 =>
    aBin Try.prog .neq 33 v34 (.pointer none) fun v35 =>
    cBn v35 fun b36 =>
    bif b36 then
      bif okNil Try.prog (t 1) then
      fA 1 (t 1) fun v37 =>
      ld1 v37 h6 fun v38 =>
      bif okNil Try.prog (t 0) then
      fA 3 (t 0) fun v39 =>
      ld1 v39 h6 fun v40 =>
      cl (rc md 21 [v38, v40] h6) fun v41 h42 =>
      cBn v41 fun b43 =>
      bif b43 then
        bif okNil Try.prog (t 1) then
        fA 1 (t 1) fun v44 =>
        st md 1 v44 (.pointer none) h42 fun h45 =>
        X1 (upd (upd (upd (upd (upd (upd (upd (upd (upd (upd (upd (upd (upd (upd (upd (upd (upd (upd (upd (upd (upd (upd (upd (upd (upd (upd (upd (upd (upd (upd t 62 (t 0)) 63 (t 0)) 64 v1) 65 v2) 66 v3) 7 (.pointer (some ⟨h4.length, 0, none⟩))) 68 (t 1)) 69 (t 1)) 70 v7) 71 v8) 72 v9) 67 v9) 105 (t 1)) 106 (t 1)) 107 v33) 108 v34) 109 v35) 104 v35) 110 (t 1)) 111 (t 1)) 112 v37) 113 v38) 114 (t 0)) 115 (t 0)) 116 v39) 117 v40) 118 (.bool b43)) 119 (t 1)) 120 (t 1)) 121 v44) h45
        else none
      else
        X1 (upd (upd (upd (upd (upd (upd (upd (upd (upd (upd (upd (upd (upd (upd (upd (upd (upd (upd (upd (upd (upd (upd (upd (upd (upd (upd (upd t 62 (t 0)) 63 (t 0)) 64 v1) 65 v2) 66 v3) 7 (.pointer (some ⟨h4.length, 0, none⟩))) 68 (t 1)) 69 (t 1)) 70 v7) 71 v8) 72 v9) 67 v9) 105 (t 1)) 106 (t 1)) 107 v33) 108 v34) 109 v35) 104 v35) 110 (t 1)) 111 (t 1)) 112 v37) 113 v38) 114 (t 0)) 115 (t 0)) 116 v39) 117 v40) 118 (.bool b43)) h42
      else none
      else none
    else
      some ((.bool false), h6)
    else none
  else none
  else none
theorem J27_0_h1 (rc : Rec) (md : Md) (h0 : Heap) (X : Nat → T → Heap → Option (Value × Heap)) (t : T) (h : Heap) : execG Try.prog cfg X rc md 151 (sub (replS (bodyOf Try.prog 27) [([1, 1, 1, 0, 0, 1, 0, 1, 0, 1], 0), ([1, 1, 1, 1], 1)]) [1, 1]) (kAtG Try.prog cfg X rc md 151 (replS (bodyOf Try.prog 27) [([1, 1, 1, 0, 0, 1, 0, 1, 0, 1], 0), ([1, 1, 1, 1], 1)]) [1, 1] (retK Try.prog cfg 27 (rsOf Try.prog 27) h0)) t h = J27_0H rc md h0 (X 0) (X 1) t h := by kernel_rfl
theorem J27_0_h2 (rc : Rec) (md : Md) (h0 : Heap) (t : T) (h : Heap) : J27_0H rc md h0 (fun t h => J27_1 rc md h0 (t 0) (t 1) (t 7) h) (fun t h => J27_2 rc md h0 (t 0) (t 7) h) t h = J27_0 rc md h0 (t 0) (t 1) h := by (unfold J27_0H J27_0; kernel_rfl)
theorem J27_0_at (rc : Rec) (md : Md) (h0 : Heap) (t : T) (h : Heap) : cut Try.prog cfg rc md 151 (bodyOf Try.prog 27) [1, 1] (retK Try.prog cfg 27 (rsOf Try.prog 27) h0) t h = J27_0 rc md h0 (t 0) (t 1) h := by
  rw [cut_holes [([1, 1, 1, 0, 0, 1, 0, 1, 0, 1], 0), ([1, 1, 1, 1], 1)] [1, 1] (by kernel_rfl), J27_0_h1, show (goX Try.prog cfg rc md 151 (bodyOf Try.prog 27) [([1, 1, 1, 0, 0, 1, 0, 1, 0, 1], 0), ([1, 1, 1, 1], 1)] (retK Try.prog cfg 27 (rsOf Try.prog 27) h0)) 0 = _ from J27_1_cut rc md h0, show (goX Try.prog cfg rc md 151 (bodyOf Try.prog 27) [([1, 1, 1, 0, 0, 1, 0, 1, 0, 1], 0), ([1, 1, 1, 1], 1)] (retK Try.prog cfg 27 (rsOf Try.prog 27) h0)) 1 = _ from J27_2_cut rc md h0]
  exact J27_0_h2 rc md h0 t h
theorem J27_0_cut (rc : Rec) (md : Md) (h0 : Heap) : cut Try.prog cfg rc md 151 (bodyOf Try.prog 27) [1, 1] (retK Try.prog cfg 27 (rsOf Try.prog 27) h0) = fun t h => J27_0 rc md h0 (t 0) (t 1) h := funext fun t => funext fun h => J27_0_at rc md h0 t h
noncomputable def F27 (rc : Rec) (md : Md) (a0 : Value) (a1 : Value) (a2 : Bool) (h0 : Heap) : Option (Value × Heap) :=
  bif okNil Try.prog a1 then
  fA 0 a1 fun v1 =>
  ld1 v1 h0 fun v2 =>
  aBin Try.prog .eql 37 v2 (.pointer none) fun v3 =>
  (bif wantV v3 true then
  some (a1, h0)
  else some (undef, h0)).bind fun p4 =>
  (bif wantV v3 true then
  bif okNil Try.prog p4.1 then
  some (p4.1, p4.2)
  else none
  else some (undef, p4.2)).bind fun p5 =>
  (bif wantV v3 true then
  fA 1 p5.1 fun v6 =>
  some (v6, p5.2)
  else some (undef, p5.2)).bind fun p7 =>
  (bif wantV v3 true then
  ld1 p7.1 p7.2 fun v8 =>
  some (v8, p7.2)
  else some (undef, p7.2)).bind fun p9 =>
  (bif wantV v3 true then
  aBin Try.prog .eql 33 p9.1 (.pointer none) fun v10 =>
  some (v10, p9.2)
  else some (undef, p9.2)).bind fun p11 =>
  cBn v3 fun q12 =>
  cBn (bif q12 then p11.1 else (.bool false)) fun b13 =>
  bif b13 then
    (bif wantV (.bool a2) true then
    some (a1, p11.2)
    else some (undef, p11.2)).bind fun p14 =>
    (bif wantV (.bool a2) true then
    bif okNil Try.prog p14.1 then
    some (p14.1, p14.2)
    else none
    else some (undef, p14.2)).bind fun p15 =>
    (bif wantV (.bool a2) true then
    fA 2 p15.1 fun v16 =>
    some (v16, p15.2)
    else some (undef, p15.2)).bind fun p17 =>
    (bif wantV (.bool a2) true then
    ld1 p17.1 p17.2 fun v18 =>
    some (v18, p17.2)
    else some (undef, p17.2)).bind fun p19 =>
    (bif wantV (.bool a2) true then
    lenS p19.1 fun v20 =>
    cIn .i64 v20 fun n21 =>
    some ((.int .i64 n21), p19.2)
    else some (undef, p19.2)).bind fun p22 =>
    (bif wantV (.bool a2) true then
    aBin Try.prog .gtr 3 p22.1 (.int .i64 0) fun v23 =>
    some (v23, p22.2)
    else some (undef, p22.2)).bind fun p24 =>
    cBn (bif a2 then p24.1 else (.bool false)) fun b25 =>
    bif b25 then
      bif okNil Try.prog a0 then
      fA 0 a0 fun v26 =>
      ldN 3 v26 p24.2 fun v27 =>
      bif okNil Try.prog a1 then
      fA 2 a1 fun v28 =>
      ld1 v28 p24.2 fun v29 =>
      ixS 1 v29 0 fun v30 =>
      ld1 v30 p24.2 fun v31 =>
      cIn .i64 v31 fun n32 =>
      cl (rc md 20 [v27, (.int .i64 n32)] p24.2) fun v33 h34 =>
      bif okNil Try.prog a1 then
      fA 1 a1 fun v35 =>
      st md 1 v35 v33 h34 fun h36 =>
      bif okNil Try.prog a1 then
      fA 2 a1 fun v37 =>
      ld1 v37 h36 fun v38 =>
      aSlice Try.prog 22 v38 (some (.int .i64 1)) none none fun v39 =>
      bif okNil Try.prog a1 then
      fA 2 a1 fun v40 =>
      st md 1 v40 v39 h36 fun h41 =>
      J27_0 rc md h0 a0 a1 h41
      else none
      else none
      else none
      else none
      else none
    else
      bif okNil Try.prog a0 then
      fA 0 a0 fun v42 =>
      ldN 3 v42 p24.2 fun v43 =>
      cl (rc md 23 [v43] p24.2) fun v44 h45 =>
      bif okNil Try.prog a1 then
      fA 0 a1 fun v46 =>
      st md 1 v46 v44 h45 fun h47 =>
      J27_0 rc md h0 a0 a1 h47
      else none
      else none
  else
    J27_0 rc md h0 a0 a1 p11.2
  else none
noncomputable def F27H (rc : Rec) (md : Md) (X2 : T → Heap → Option (Value × Heap)) (a0 : Value) (a1 : Value) (a2 : Bool) (h0 : Heap) : Option (Value × Heap) :=
  bif okNil Try.prog a1 then
  fA 0 a1 fun v1 =>
  ld1 v1 h0 fun v2 =>
  aBin Try.prog .eql 37 v2 (.pointer none) fun v3 =>
  (bif wantV v3 true then
  some (a1, h0)
  else some (undef, h0)).bind fun p4 =>
  (bif wantV v3 true then
  bif okNil Try.prog p4.1 then
  some (p4.1, p4.2)
  else none
  else some (undef, p4.2)).bind fun p5 =>
  (bif wantV v3 true then
  fA 1 p5.1 fun v6 =>
  some (v6, p5.2)
  else some (undef, p5.2)).bind fun p7 =>
  (bif wantV v3 true then
  ld1 p7.1 p7.2 fun v8 =>
  some (v8, p7.2)
  else some (undef, p7.2)).bind fun p9 =>
  (bif wantV v3 true then
  aBin Try.prog .eql 33 p9.1 (.pointer none) fun v10 =>
  some (v10, p9.2)
  else some (undef, p9.2)).bind fun p11 =>
  cBn v3 fun q12 =>
  cBn (bif q12 then p11.1 else (.bool false)) fun b13 =>
  bif b13 then
    (bif wantV (.bool a2) true then
    some (a1, p11.2)
    else some (undef, p11.2)).bind fun p14 =>
    (bif wantV (.bool a2) true then
    bif okNil Try.prog p14.1 then
    some (p14.1, p14.2)
    else none
    else some (undef, p14.2)).bind fun p15 =>
    (bif wantV (.bool a2) true then
    fA 2 p15.1 fun v16 =>
    some (v16, p15.2)
    else some (undef, p15.2)).bind fun p17 =>
    (bif wantV (.bool a2) true then
    ld1 p17.1 p17.2 fun v18 =>
    some (v18, p17.2)
    else some (undef, p17.2)).bind fun p19 =>
    (bif wantV (.bool a2) true then
    lenS p19.1 fun v20 =>
    cIn .i64 v20 fun n21 =>
    some ((.int .i64 n21), p19.2)
    else some (undef, p19.2)).bind fun p22 =>
    (bif wantV (.bool a2) true then
    aBin Try.prog .gtr 3 p22.1 (.int .i64 0) fun v23 =>
    some (v23, p22.2)
    else some (undef, p22.2)).bind fun p24 =>
    cBn (bif a2 then p24.1 else (.bool false)) fun b25 =>
    bif b25 then
      bif okNil Try.prog a0 then
      fA 0 a0 fun v26 =>
      ldN 3 v26 p24.2 fun v27 =>
      bif okNil Try.prog a1 then
      fA 2 a1 fun v28 =>
      ld1 v28 p24.2 fun v29 =>
      ixS 1 v29 0 fun v30 =>
      ld1 v30 p24.2 fun v31 =>
      cIn .i64 v31 fun n32 =>
      cl (rc md 20 [v27, (.int .i64 n32)] p24.2) fun v33 h34 =>
      bif okNil Try.prog a1 then
      fA 1 a1 fun v35 =>
      st md 1 v35 v33 h34 fun h36 =>
      bif okNil Try.prog a1 then
      fA 2 a1 fun v37 =>
      ld1 v37 h36 fun v38 =>
      aSlice Try.prog 22 v38 (some (.int .i64 1)) none none fun v39 =>
      bif okNil Try.prog a1 then
      fA 2 a1 fun v40 =>
      st md 1 v40 v39 h36 fun h41 =>
      X2 (upd (upd (upd (upd (upd (upd (upd (upd (upd (upd (upd (upd (upd (upd (upd (upd (upd (upd (upd (upd (upd (upd (upd (upd (upd (upd (upd (upd (upd (upd (upd (upd (upd (upd (upd (upd (upd (upd (upd (upd (upd (upd (upd (upd (args0 [a0, a1, (.bool a2)]) 6 (.bool false)) 11 a1) 12 a1) 13 v1) 14 v2) 15 v3) 16 v3) 17 p4.1) 18 p5.1) 19 p7.1) 20 p9.1) 21 p11.1) 22 (.bool b13)) 23 (.bool a2)) 24 (.bool a2)) 25 p14.1) 26 p15.1) 27 p17.1) 28 p19.1) 29 p22.1) 30 p24.1) 31 (.bool b25)) 32 a1) 33 a0) 34 a0) 35 v26) 36 v27) 37 a1) 38 a1) 39 v28) 40 v29) 41 v30) 42 (.int .i64 n32)) 43 v33) 44 a1) 45 v35) 46 a1) 47 a1) 48 a1) 49 v37) 50 v38) 51 v39) 52 a1) 53 v40) h41
      else none
      else none
      else none
      else none
      else none
    else
      bif okNil Try.prog a0 then
      fA 0 a0 fun v42 =>
      ldN 3 v42 p24.2 fun v43 =>
      cl (rc md 23 [v43] p24.2) fun v44 h45 =>
      bif okNil Try.prog a1 then
      fA 0 a1 fun v46 =>
      st md 1 v46 v44 h45 fun h47 =>
      X2 (upd (upd (upd (upd (upd (upd (upd (upd (upd (upd (upd (upd (upd (upd (upd (upd (upd (upd (upd (upd (upd (upd (upd (upd (upd (upd (upd (upd (upd (upd (args0 [a0, a1, (.bool a2)]) 6 (.bool false)) 11 a1) 12 a1) 13 v1) 14 v2) 15 v3) 16 v3) 17 p4.1) 18 p5.1) 19 p7.1) 20 p9.1) 21 p11.1) 22 (.bool b13)) 23 (.bool a2)) 24 (.bool a2)) 25 p14.1) 26 p15.1) 27 p17.1) 28 p19.1) 29 p22.1) 30 p24.1) 31 (.bool b25)) 54 a1) 55 a0) 56 a0) 57 v42) 58 v43) 59 v44) 60 a1) 61 v46) h47
      else none
      else none
  else
    X2 (upd (upd (upd (upd (upd (upd (upd (upd (upd (upd (upd (upd (upd (args0 [a0, a1, (.bool a2)]) 6 (.bool false)) 11 a1) 12 a1) 13 v1) 14 v2) 15 v3) 16 v3) 17 p4.1) 18 p5.1) 19 p7.1) 20 p9.1) 21 p11.1) 22 (.bool b13)) p11.2
  else none
theorem F27_h0 (rc : Rec) (md : Md) (a0 : Value) (a1 : Value) (a2 : Bool) (h0 : Heap) : callStep0 Try.prog cfg rc md 27 [a0, a1, (.bool a2)] h0 = exec Try.prog cfg rc md 151 (bodyOf Try.prog 27) (retK Try.prog cfg 27 (rsOf Try.prog 27) h0) (args0 [a0, a1, (.bool a2)]) h0 := callStep0_run (by kernel_rfl) (by kernel_rfl) (by kernel_rfl)
theorem F27_h1 (rc : Rec) (md : Md) (X : Nat → T → Heap → Option (Value × Heap)) (a0 : Value) (a1 : Value) (a2 : Bool) (h0 : Heap) : execG Try.prog cfg X rc md 151 (replS (bodyOf Try.prog 27) [([1, 1, 1, 0, 0, 1, 0, 1, 0, 1], 0), ([1, 1, 1, 1], 1), ([1, 1], 2)]) (retK Try.prog cfg 27 (rsOf Try.prog 27) h0) (args0 [a0, a1, (.bool a2)]) h0 = F27H rc md (X 2) a0 a1 a2 h0 := by kernel_rfl
theorem F27_h2 (rc : Rec) (md : Md) (a0 : Value) (a1 : Value) (a2 : Bool) (h0 : Heap) : F27H rc md (fun t h => J27_0 rc md h0 (t 0) (t 1) h) a0 a1 a2 h0 = F27 rc md a0 a1 a2 h0 := by unfold F27H F27; kernel_rfl
theorem F27_eq0 (rc : Rec) (md : Md) (a0 : Value) (a1 : Value) (a2 : Bool) (h0 : Heap) : callStep0 Try.prog cfg rc md 27 [a0, a1, (.bool a2)] h0 = F27 rc md a0 a1 a2 h0 := by
  rw [F27_h0, exec_holes [([1, 1, 1, 0, 0, 1, 0, 1, 0, 1], 0), ([1, 1, 1, 1], 1), ([1, 1], 2)] (by kernel_rfl), F27_h1, show (goX Try.prog cfg rc md 151 (bodyOf Try.prog 27) [([1, 1, 1, 0, 0, 1, 0, 1, 0, 1], 0), ([1, 1, 1, 1], 1), ([1, 1], 2)] (retK Try.prog cfg 27 (rsOf Try.prog 27) h0)) 2 = _ from J27_0_cut rc md h0]
  exact F27_h2 rc _ a0 a1 a2 h0
theorem F27_eq (rc : Rec) (md : Md) (a0 : Value) (a1 : Value) (a2 : Bool) (h0 : Heap) : callStep Try.prog cfg rc md 27 [a0, a1, (.bool a2)] h0 = F27 rc md a0 a1 a2 h0 := (callStep_ne (by kernel_rfl)).trans (F27_eq0 rc md a0 a1 a2 h0)

/-- (*tombolo/tombololaw07.play).apart -/
noncomputable def Jk28_0 (rc : Rec) (md : Md) (h0 : Heap) (e : Exit) (s0 : Value) (s2 : Value) (s3 : Value) (s12 : Value) (s13 : Value) (s14 : Value) (h : Heap) : Option (Value × Heap) :=
  match e with
  | .normal =>
    some ((.bool true), List.take h0.length h)
  | .exit j =>
    bif Nat.beq j 0 then
      some ((.bool true), List.take h0.length h)
    else
      none
  | .ret =>
    fin1 h0 s2 h
  | .goto l => none
  | .panic ps => none
  | .outgrown => none
theorem Jk28_0_at (rc : Rec) (md : Md) (h0 : Heap) (e : Exit) (t : T) (h : Heap) : kAt Try.prog cfg rc md 47 (bodyOf Try.prog 28) [1, 1, 0, 1, 0] (retK Try.prog cfg 28 (rsOf Try.prog 28) h0) e t h = Jk28_0 rc md h0 e (t 0) (t 2) (t 3) (t 12) (t 13) (t 14) h := by cases e <;> kernel_rfl
noncomputable def Jk28_0b0 (rc : Rec) (md : Md) (e : Exit) (s0 : Value) (s2 : Value) (s3 : Value) (s12 : Value) (s13 : Value) (s14 : Value) (s21 : Value) (s22 : Value) (s23 : Value) (h : Heap) : Option (((Value × Value × Value × Value × Value × Value) × Heap) ⊕ (Exit × (Value × Value × Value × Value × Value × Value) × Heap)) :=
  match e with
  | .normal =>
    aBin Try.prog .add 3 s14 (.int .i64 1) fun v1 =>
    some (.inl ((s0, s2, s3, s12, s13, v1), h))
  | .exit j =>
    bif Nat.beq j 2 then
      aBin Try.prog .add 3 s14 (.int .i64 1) fun v2 =>
      some (.inl ((s0, s2, s3, s12, s13, v2), h))
    else
      bif Nat.beq j 1 then
        aBin Try.prog .add 3 s14 (.int .i64 1) fun v3 =>
        some (.inl ((s0, s2, s3, s12, s13, v3), h))
      else
        some (.inr ((.exit j), (s0, s2, s3, s12, s13, s14), h))
  | .ret =>
    some (.inr (.ret, (s0, s2, s3, s12, s13, s14), h))
  | .goto l => some (.inr ((.goto l), (s0, s2, s3, s12, s13, s14), h))
  | .panic ps => some (.inr ((.panic ps), (s0, s2, s3, s12, s13, s14), h))
  | .outgrown => some (.inr (.outgrown, (s0, s2, s3, s12, s13, s14), h))
theorem Jk28_0b0_at (rc : Rec) (md : Md) (e : Exit) (t : T) (h : Heap) : kAt Try.prog cfg rc md 47 (sub (bodyOf Try.prog 28) [1, 1, 0, 1, 0, 0]) [1, 1, 0, 0, 1, 1, 0] (rndK (fun t => (t 0, t 2, t 3, t 12, t 13, t 14))) e t h = Jk28_0b0 rc md e (t 0) (t 2) (t 3) (t 12) (t 13) (t 14) (t 21) (t 22) (t 23) h := by cases e <;> kernel_rfl
/-- a round -/
noncomputable def Jr28_0b0 (rc : Rec) (md : Md) (s0 : Value) (s2 : Value) (s3 : Value) (s12 : Value) (s13 : Value) (s14 : Value) (s21 : Value) (s22 : Value) (s23 : Value) (h : Heap) : Option (((Value × Value × Value × Value × Value × Value × Value × Value × Value) × Heap) ⊕ (Exit × (Value × Value × Value × Value × Value × Value × Value × Value × Value) × Heap)) :=
  aBin Try.prog .lss 3 s23 s22 fun v1 =>
  cBn v1 fun b2 =>
  bif b2 then
    ixSV 1 s21 s23 fun v3 =>
    ld1 v3 h fun v4 =>
    cIn .i64 v4 fun n5 =>
    (bif wantV (.bool (decide (n5 < 0))) false then
    some ((.int .i64 n5), h)
    else some (undef, h)).bind fun p6 =>
    (bif wantV (.bool (decide (n5 < 0))) false then
    some (s0, p6.2)
    else some (undef, p6.2)).bind fun p7 =>
    (bif wantV (.bool (decide (n5 < 0))) false then
    bif okNil Try.prog p7.1 then
    some (p7.1, p7.2)
    else none
    else some (undef, p7.2)).bind fun p8 =>
    (bif wantV (.bool (decide (n5 < 0))) false then
    fA 0 p8.1 fun v9 =>
    some (v9, p8.2)
    else some (undef, p8.2)).bind fun p10 =>
    (bif wantV (.bool (decide (n5 < 0))) false then
    fA 1 p10.1 fun v11 =>
    some (v11, p10.2)
    else some (undef, p10.2)).bind fun p12 =>
    (bif wantV (.bool (decide (n5 < 0))) false then
    ld1 p12.1 p12.2 fun v13 =>
    cIn .i64 v13 fun n14 =>
    some ((.int .i64 n14), p12.2)
    else some (undef, p12.2)).bind fun p15 =>
    (bif wantV (.bool (decide (n5 < 0))) false then
    aBin Try.prog .geq 3 p6.1 p15.1 fun v16 =>
    some (v16, p15.2)
    else some (undef, p15.2)).bind fun p17 =>
    cBn (bif (decide (n5 < 0)) then (.bool true) else p17.1) fun b18 =>
    (bif wantV (.bool b18) false then
    some (s3, p17.2)
    else some (undef, p17.2)).bind fun p19 =>
    (bif wantV (.bool b18) false then
    some ((.int .i64 n5), p19.2)
    else some (undef, p19.2)).bind fun p20 =>
    (bif wantV (.bool b18) false then
    aLookup Try.prog 56 p19.1 p20.1 false p20.2 fun v21 =>
    cBn v21 fun b22 =>
    some ((.bool b22), p20.2)
    else some (undef, p20.2)).bind fun p23 =>
    cBn (bif b18 then (.bool true) else p23.1) fun b24 =>
    bif b24 then
      some (.inr (.ret, (s0, (.bool false), s3, s12, s13, s14, s21, s22, s23), p23.2))
    else
      aMapPut Try.prog md 56 s3 (.int .i64 n5) (.bool true) p23.2 fun h25 =>
      aBin Try.prog .add 3 s23 (.int .i64 1) fun v26 =>
      some (.inl ((s0, s2, s3, s12, s13, s14, s21, s22, v26), h25))
  else
    some (.inr ((.exit 2), (s0, s2, s3, s12, s13, s14, s21, s22, s23), h))
theorem Jr28_0b0_at (rc : Rec) (md : Md) (t : T) (h : Heap) : exec Try.prog cfg rc md 47 (sub (bodyOf Try.prog 28) [1, 1, 0, 1, 0, 0, 1, 1, 0, 0, 1, 1, 0, 0]) (rndK (fun t => (t 0, t 2, t 3, t 12, t 13, t 14, t 21, t 22, t 23))) t h = Jr28_0b0 rc md (t 0) (t 2) (t 3) (t 12) (t 13) (t 14) (t 21) (t 22) (t 23) h := by kernel_rfl
noncomputable def J28_0b0 (rc : Rec) (md : Md) (s0 : Value) (s2 : Value) (s3 : Value) (s12 : Value) (s13 : Value) (s14 : Value) (s21 : Value) (s22 : Value) (s23 : Value) (h : Heap) : Option (((Value × Value × Value × Value × Value × Value) × Heap) ⊕ (Exit × (Value × Value × Value × Value × Value × Value) × Heap)) :=
  runL (fun x : (Value × Value × Value × Value × Value × Value × Value × Value × Value) × Heap => Jr28_0b0 rc md x.1.1 x.1.2.1 x.1.2.2.1 x.1.2.2.2.1 x.1.2.2.2.2.1 x.1.2.2.2.2.2.1 x.1.2.2.2.2.2.2.1 x.1.2.2.2.2.2.2.2.1 x.1.2.2.2.2.2.2.2.2 x.2) (fun e (s : Value × Value × Value × Value × Value × Value × Value × Value × Value) h => Jk28_0b0 rc md e s.1 s.2.1 s.2.2.1 s.2.2.2.1 s.2.2.2.2.1 s.2.2.2.2.2.1 s.2.2.2.2.2.2.1 s.2.2.2.2.2.2.2.1 s.2.2.2.2.2.2.2.2 h) (s0, s2, s3, s12, s13, s14, s21, s22, s23) h
theorem J28_0b0_step (rc : Rec) (md : Md) (s0 : Value) (s2 : Value) (s3 : Value) (s12 : Value) (s13 : Value) (s14 : Value) (s21 : Value) (s22 : Value) (s23 : Value) (h : Heap) : J28_0b0 rc md s0 s2 s3 s12 s13 s14 s21 s22 s23 h = (Jr28_0b0 rc md s0 s2 s3 s12 s13 s14 s21 s22 s23 h).bind fun x => match x with
    | .inl (s, h) => J28_0b0 rc md s.1 s.2.1 s.2.2.1 s.2.2.2.1 s.2.2.2.2.1 s.2.2.2.2.2.1 s.2.2.2.2.2.2.1 s.2.2.2.2.2.2.2.1 s.2.2.2.2.2.2.2.2 h
    | .inr (e, s, h) => Jk28_0b0 rc md e s.1 s.2.1 s.2.2.1 s.2.2.2.1 s.2.2.2.2.1 s.2.2.2.2.2.1 s.2.2.2.2.2.2.1 s.2.2.2.2.2.2.2.1 s.2.2.2.2.2.2.2.2 h := by
  unfold J28_0b0
  rw [runL_eq]
  refine congrArg (Option.bind _) (funext fun x => ?_)
  rcases x with ⟨s, h⟩ | ⟨e, s, h⟩ <;> rfl
theorem J28_0b0_cut (rc : Rec) (md : Md) : cut Try.prog cfg rc md 47 (sub (bodyOf Try.prog 28) [1, 1, 0, 1, 0, 0]) [1, 1, 0, 0, 1, 1, 0] (rndK (fun t => (t 0, t 2, t 3, t 12, t 13, t 14))) = fun t h => J28_0b0 rc md (t 0) (t 2) (t 3) (t 12) (t 13) (t 14) (t 21) (t 22) (t 23) h := by
  funext t h
  have e : sub (sub (bodyOf Try.prog 28) [1, 1, 0, 1, 0, 0]) [1, 1, 0, 0, 1, 1, 0] = .loop (sub (bodyOf Try.prog 28) [1, 1, 0, 1, 0, 0, 1, 1, 0, 0, 1, 1, 0, 0]) := by kernel_rfl
  unfold cut
  rw [e]
  exact loop_eq (by kernel_rfl) (fun t => (t 0, t 2, t 3, t 12, t 13, t 14, t 21, t 22, t 23)) (fun x : (Value × Value × Value × Value × Value × Value × Value × Value × Value) × Heap => Jr28_0b0 rc md x.1.1 x.1.2.1 x.1.2.2.1 x.1.2.2.2.1 x.1.2.2.2.2.1 x.1.2.2.2.2.2.1 x.1.2.2.2.2.2.2.1 x.1.2.2.2.2.2.2.2.1 x.1.2.2.2.2.2.2.2.2 x.2) (fun t h => Jr28_0b0_at rc md t h) (fun e (s : Value × Value × Value × Value × Value × Value × Value × Value × Value) h => Jk28_0b0 rc md e s.1 s.2.1 s.2.2.1 s.2.2.2.1 s.2.2.2.2.1 s.2.2.2.2.2.1 s.2.2.2.2.2.2.1 s.2.2.2.2.2.2.2.1 s.2.2.2.2.2.2.2.2 h) (fun e t h => Jk28_0b0_at rc md e t h) t h
/-- a round -/
noncomputable def Jr28_0 (rc : Rec) (md : Md) (s0 : Value) (s2 : Value) (s3 : Value) (s12 : Value) (s13 : Value) (s14 : Value) (h : Heap) : Option (((Value × Value × Value × Value × Value × Value) × Heap) ⊕ (Exit × (Value × Value × Value × Value × Value × Value) × Heap)) :=
  aBin Try.prog .lss 3 s14 s13 fun v1 =>
  cBn v1 fun b2 =>
  bif b2 then
    ixSV 1 s12 s14 fun v3 =>
    ld1 v3 h fun v4 =>
    bif okNil Try.prog v4 then
    fA 2 v4 fun v5 =>
    ld1 v5 h fun v6 =>
    lenS v6 fun v7 =>
    cIn .i64 v7 fun n8 =>
    J28_0b0 rc md s0 s2 s3 s12 s13 s14 v6 (.int .i64 n8) (.int .i64 0) h
    else none
  else
    some (.inr ((.exit 0), (s0, s2, s3, s12, s13, s14), h))
noncomputable def Jr28_0H (rc : Rec) (md : Md) (X0 : T → Heap → Option (((Value × Value × Value × Value × Value × Value) × Heap) ⊕ (Exit × (Value × Value × Value × Value × Value × Value) × Heap))) (t : T) (h : Heap) : Option (((Value × Value × Value × Value × Value × Value) × Heap) ⊕ (Exit × (Value × Value × Value × Value × Value × Value) × Heap)) :=
  aBin Try.prog .lss 3 (t 14) (t 13) fun v1 =>
  cBn v1 fun b2 =>
  bif b2 then
    ixSV 1 (t 12) (t 14) fun v3 =>
    ld1 v3 h fun v4 =>
    bif okNil Try.prog v4 then
    fA 2 v4 fun v5 =>
    ld1 v5 h fun v6 =>
    lenS v6 fun v7 =>
    cIn .i64 v7 fun n8 =>
    X0 (upd (upd (upd (upd (upd (upd (upd (upd (upd (upd t 15 v1) 16 v3) 17 v4) 5 v4) 18 v4) 19 v4) 20 v5) 21 v6) 22 (.int .i64 n8)) 23 (.int .i64 0)) h
    else none
  else
    some (.inr ((.exit 0), ((t 0), (t 2), (t 3), (t 12), (t 13), (t 14)), h))
theorem Jr28_0_h1 (rc : Rec) (md : Md) (X : Nat → T → Heap → Option (((Value × Value × Value × Value × Value × Value) × Heap) ⊕ (Exit × (Value × Value × Value × Value × Value × Value) × Heap))) (t : T) (h : Heap) : execG Try.prog cfg X rc md 47 (replS (sub (bodyOf Try.prog 28) [1, 1, 0, 1, 0, 0]) [([1, 1, 0, 0, 1, 1, 0], 0)]) (rndK (fun t => (t 0, t 2, t 3, t 12, t 13, t 14))) t h = Jr28_0H rc md (X 0) t h := by kernel_rfl
theorem Jr28_0_h2 (rc : Rec) (md : Md) (t : T) (h : Heap) : Jr28_0H rc md (fun t h => J28_0b0 rc md (t 0) (t 2) (t 3) (t 12) (t 13) (t 14) (t 21) (t 22) (t 23) h) t h = Jr28_0 rc md (t 0) (t 2) (t 3) (t 12) (t 13) (t 14) h := by unfold Jr28_0H Jr28_0; kernel_rfl
theorem Jr28_0_at (rc : Rec) (md : Md) (t : T) (h : Heap) : exec Try.prog cfg rc md 47 (sub (bodyOf Try.prog 28) [1, 1, 0, 1, 0, 0]) (rndK (fun t => (t 0, t 2, t 3, t 12, t 13, t 14))) t h = Jr28_0 rc md (t 0) (t 2) (t 3) (t 12) (t 13) (t 14) h := by
  rw [exec_holes [([1, 1, 0, 0, 1, 1, 0], 0)] (by kernel_rfl), Jr28_0_h1, show (goX Try.prog cfg rc md 47 (sub (bodyOf Try.prog 28) [1, 1, 0, 1, 0, 0]) [([1, 1, 0, 0, 1, 1, 0], 0)] (rndK (fun t => (t 0, t 2, t 3, t 12, t 13, t 14)))) 0 = _ from J28_0b0_cut rc md]
  exact Jr28_0_h2 rc md t h
noncomputable def J28_0 (rc : Rec) (md : Md) (h0 : Heap) (s0 : Value) (s2 : Value) (s3 : Value) (s12 : Value) (s13 : Value) (s14 : Value) (h : Heap) : Option (Value × Heap) :=
  runL (fun x : (Value × Value × Value × Value × Value × Value) × Heap => Jr28_0 rc md x.1.1 x.1.2.1 x.1.2.2.1 x.1.2.2.2.1 x.1.2.2.2.2.1 x.1.2.2.2.2.2 x.2) (fun e (s : Value × Value × Value × Value × Value × Value) h => Jk28_0 rc md h0 e s.1 s.2.1 s.2.2.1 s.2.2.2.1 s.2.2.2.2.1 s.2.2.2.2.2 h) (s0, s2, s3, s12, s13, s14) h
theorem J28_0_step (rc : Rec) (md : Md) (h0 : Heap) (s0 : Value) (s2 : Value) (s3 : Value) (s12 : Value) (s13 : Value) (s14 : Value) (h : Heap) : J28_0 rc md h0 s0 s2 s3 s12 s13 s14 h = (Jr28_0 rc md s0 s2 s3 s12 s13 s14 h).bind fun x => match x with
    | .inl (s, h) => J28_0 rc md h0 s.1 s.2.1 s.2.2.1 s.2.2.2.1 s.2.2.2.2.1 s.2.2.2.2.2 h
    | .inr (e, s, h) => Jk28_0 rc md h0 e s.1 s.2.1 s.2.2.1 s.2.2.2.1 s.2.2.2.2.1 s.2.2.2.2.2 h := by
  unfold J28_0
  rw [runL_eq]
  refine congrArg (Option.bind _) (funext fun x => ?_)
  rcases x with ⟨s, h⟩ | ⟨e, s, h⟩ <;> rfl
theorem J28_0_cut (rc : Rec) (md : Md) (h0 : Heap) : cut Try.prog cfg rc md 47 (bodyOf Try.prog 28) [1, 1, 0, 1, 0] (retK Try.prog cfg 28 (rsOf Try.prog 28) h0) = fun t h => J28_0 rc md h0 (t 0) (t 2) (t 3) (t 12) (t 13) (t 14) h := by
  funext t h
  have e : sub (bodyOf Try.prog 28) [1, 1, 0, 1, 0] = .loop (sub (bodyOf Try.prog 28) [1, 1, 0, 1, 0, 0]) := by kernel_rfl
  unfold cut
  rw [e]
  exact loop_eq (by kernel_rfl) (fun t => (t 0, t 2, t 3, t 12, t 13, t 14)) (fun x : (Value × Value × Value × Value × Value × Value) × Heap => Jr28_0 rc md x.1.1 x.1.2.1 x.1.2.2.1 x.1.2.2.2.1 x.1.2.2.2.2.1 x.1.2.2.2.2.2 x.2) (fun t h => Jr28_0_at rc md t h) (fun e (s : Value × Value × Value × Value × Value × Value) h => Jk28_0 rc md h0 e s.1 s.2.1 s.2.2.1 s.2.2.2.1 s.2.2.2.2.1 s.2.2.2.2.2 h) (fun e t h => Jk28_0_at rc md h0 e t h) t h
noncomputable def F28 (rc : Rec) (md : Md) (a0 : Value) (h0 : Heap) : Option (Value × Heap) :=
  aMakeMap Try.prog 56 h0 fun v1 h2 =>
  bif okNil Try.prog a0 then
  fA 4 a0 fun v3 =>
  ld1 v3 h2 fun v4 =>
  lenS v4 fun v5 =>
  cIn .i64 v5 fun n6 =>
  J28_0 rc md h0 a0 (.bool false) v1 v4 (.int .i64 n6) (.int .i64 0) h2
  else none
noncomputable def F28H (rc : Rec) (md : Md) (X0 : T → Heap → Option (Value × Heap)) (a0 : Value) (h0 : Heap) : Option (Value × Heap) :=
  aMakeMap Try.prog 56 h0 fun v1 h2 =>
  bif okNil Try.prog a0 then
  fA 4 a0 fun v3 =>
  ld1 v3 h2 fun v4 =>
  lenS v4 fun v5 =>
  cIn .i64 v5 fun n6 =>
  X0 (upd (upd (upd (upd (upd (upd (upd (upd (upd (args0 [a0]) 2 (.bool false)) 8 v1) 3 v1) 9 a0) 10 a0) 11 v3) 12 v4) 13 (.int .i64 n6)) 14 (.int .i64 0)) h2
  else none
theorem F28_h0 (rc : Rec) (md : Md) (a0 : Value) (h0 : Heap) : callStep0 Try.prog cfg rc md 28 [a0] h0 = exec Try.prog cfg rc ⟨md.ro, h0.length⟩ 47 (bodyOf Try.prog 28) (retK Try.prog cfg 28 (rsOf Try.prog 28) h0) (args0 [a0]) h0 := callStep0_run (by kernel_rfl) (by kernel_rfl) (by kernel_rfl)
theorem F28_h1 (rc : Rec) (md : Md) (X : Nat → T → Heap → Option (Value × Heap)) (a0 : Value) (h0 : Heap) : execG Try.prog cfg X rc md 47 (replS (bodyOf Try.prog 28) [([1, 1, 0, 1, 0], 0)]) (retK Try.prog cfg 28 (rsOf Try.prog 28) h0) (args0 [a0]) h0 = F28H rc md (X 0) a0 h0 := by kernel_rfl
theorem F28_h2 (rc : Rec) (md : Md) (a0 : Value) (h0 : Heap) : F28H rc md (fun t h => J28_0 rc md h0 (t 0) (t 2) (t 3) (t 12) (t 13) (t 14) h) a0 h0 = F28 rc md a0 h0 := by unfold F28H F28; kernel_rfl
theorem F28_eq0 (rc : Rec) (md : Md) (a0 : Value) (h0 : Heap) : callStep0 Try.prog cfg rc md 28 [a0] h0 = F28 rc ⟨md.ro, h0.length⟩ a0 h0 := by
  rw [F28_h0, exec_holes [([1, 1, 0, 1, 0], 0)] (by kernel_rfl), F28_h1, show (goX Try.prog cfg rc ⟨md.ro, h0.length⟩ 47 (bodyOf Try.prog 28) [([1, 1, 0, 1, 0], 0)] (retK Try.prog cfg 28 (rsOf Try.prog 28) h0)) 0 = _ from J28_0_cut rc ⟨md.ro, h0.length⟩ h0]
  exact F28_h2 rc _ a0 h0
theorem F28_eq (rc : Rec) (md : Md) (a0 : Value) (h0 : Heap) : callStep Try.prog cfg rc md 28 [a0] h0 = F28 rc ⟨md.ro, h0.length⟩ a0 h0 := (callStep_ne (by kernel_rfl)).trans (F28_eq0 rc md a0 h0)

/-- (*tombolo/slot.Take).Done -/
noncomputable def F67 (rc : Rec) (md : Md) (a0 : Value) (h0 : Heap) : Option (Value × Heap) :=
  bif okNil Try.prog a0 then
  fA 3 a0 fun v1 =>
  ld1 v1 h0 fun v2 =>
  cIn .i64 v2 fun n3 =>
  some ((.bool (n3 == 3)), h0)
  else none
theorem F67_eq0 (rc : Rec) (md : Md) (a0 : Value) (h0 : Heap) : callStep0 Try.prog cfg rc md 67 [a0] h0 = F67 rc ⟨h0.length, h0.length⟩ a0 h0 := by kernel_rfl
theorem F67_eq (rc : Rec) (md : Md) (a0 : Value) (h0 : Heap) : callStep Try.prog cfg rc md 67 [a0] h0 = F67 rc ⟨h0.length, h0.length⟩ a0 h0 := (callStep_ne (by kernel_rfl)).trans (F67_eq0 rc md a0 h0)

/-- (*tombolo/slot.Give).Done -/
noncomputable def F68 (rc : Rec) (md : Md) (a0 : Value) (h0 : Heap) : Option (Value × Heap) :=
  bif okNil Try.prog a0 then
  fA 4 a0 fun v1 =>
  ld1 v1 h0 fun v2 =>
  cIn .i64 v2 fun n3 =>
  some ((.bool (n3 == 3)), h0)
  else none
theorem F68_eq0 (rc : Rec) (md : Md) (a0 : Value) (h0 : Heap) : callStep0 Try.prog cfg rc md 68 [a0] h0 = F68 rc ⟨h0.length, h0.length⟩ a0 h0 := by kernel_rfl
theorem F68_eq (rc : Rec) (md : Md) (a0 : Value) (h0 : Heap) : callStep Try.prog cfg rc md 68 [a0] h0 = F68 rc ⟨h0.length, h0.length⟩ a0 h0 := (callStep_ne (by kernel_rfl)).trans (F68_eq0 rc md a0 h0)

/-- tombolo/slot.Init -/
noncomputable def J71_1 (rc : Rec) (md : Md) (h0 : Heap) (s0 : Value) (s3 : Value) (h : Heap) : Option (Value × Heap) :=
  fA 1 s3 fun v1 =>
  ld1 v1 h fun v2 =>
  cIn .i64 v2 fun n3 =>
  bif (n3 == 0) then
    ldN 3 s3 h fun v4 =>
    cl (rc md 73 [v4] h) fun v5 h6 =>
    cIn .i64 v5 fun n7 =>
    bif okNil Try.prog (.func (.method "Store") #[s0] #[]) then
    clI Try.prog rc md s0 "Store" [(.int .i64 n7), (.int .u64 0)] h6 fun v8 h9 =>
    some ((.tuple #[]), List.take h0.length h9)
    else none
  else
    ldN 3 s3 h fun v10 =>
    fA 1 s3 fun v11 =>
    ld1 v11 h fun v12 =>
    cIn .i64 v12 fun n13 =>
    cl (rc md 74 [v10, (.int .i64 (IntKind.wrap .i64 (n13 - 1)))] h) fun v14 h15 =>
    cIn .i64 v14 fun n16 =>
    bif okNil Try.prog (.func (.method "Store") #[s0] #[]) then
    clI Try.prog rc md s0 "Store" [(.int .i64 n16), (.int .u64 0)] h15 fun v17 h18 =>
    ldN 3 s3 h18 fun v19 =>
    cl (rc md 73 [v19] h18) fun v20 h21 =>
    cIn .i64 v20 fun n22 =>
    bif okNil Try.prog (.func (.method "Store") #[s0] #[]) then
    clI Try.prog rc md s0 "Store" [(.int .i64 n22), (.int .u64 1)] h21 fun v23 h24 =>
    some ((.tuple #[]), List.take h0.length h24)
    else none
    else none
theorem J71_1_at (rc : Rec) (md : Md) (h0 : Heap) (t : T) (h : Heap) : cut Try.prog cfg rc md 49 (bodyOf Try.prog 71) [1, 1] (retK Try.prog cfg 71 (rsOf Try.prog 71) h0) t h = J71_1 rc md h0 (t 0) (t 3) h := by kernel_rfl
theorem J71_1_cut (rc : Rec) (md : Md) (h0 : Heap) : cut Try.prog cfg rc md 49 (bodyOf Try.prog 71) [1, 1] (retK Try.prog cfg 71 (rsOf Try.prog 71) h0) = fun t h => J71_1 rc md h0 (t 0) (t 3) h := funext fun t => funext fun h => J71_1_at rc md h0 t h
noncomputable def Jk71_0 (rc : Rec) (md : Md) (h0 : Heap) (e : Exit) (s0 : Value) (s3 : Value) (s6 : Value) (s7 : Value) (h : Heap) : Option (Value × Heap) :=
  match e with
  | .normal =>
    J71_1 rc md h0 s0 s3 h
  | .exit j =>
    bif Nat.beq j 0 then
      J71_1 rc md h0 s0 s3 h
    else
      none
  | .ret =>
    some ((.tuple #[]), List.take h0.length h)
  | .goto l => none
  | .panic ps => none
  | .outgrown => none
noncomputable def Jk71_0H (rc : Rec) (md : Md) (h0 : Heap) (X1 : T → Heap → Option (Value × Heap)) (e : Exit) (t : T) (h : Heap) : Option (Value × Heap) :=
  match e with
  | .normal =>
    X1 t h
  | .exit j =>
    bif Nat.beq j 0 then
      X1 t h
    else
      none
  | .ret =>
    some ((.tuple #[]), List.take h0.length h)
  | .goto l => none
  | .panic ps => none
  | .outgrown => none
theorem Jk71_0_h1 (rc : Rec) (md : Md) (h0 : Heap) (X : Nat → T → Heap → Option (Value × Heap)) (e : Exit) (t : T) (h : Heap) : kAtG Try.prog cfg X rc md 49 (replS (bodyOf Try.prog 71) [([1, 1], 1)]) [1, 0, 1, 0] (retK Try.prog cfg 71 (rsOf Try.prog 71) h0) e t h = Jk71_0H rc md h0 (X 1) e t h := by cases e <;> kernel_rfl
theorem Jk71_0_h2 (rc : Rec) (md : Md) (h0 : Heap) (e : Exit) (t : T) (h : Heap) : Jk71_0H rc md h0 (fun t h => J71_1 rc md h0 (t 0) (t 3) h) e t h = Jk71_0 rc md h0 e (t 0) (t 3) (t 6) (t 7) h := by cases e <;> (unfold Jk71_0H Jk71_0; kernel_rfl)
theorem Jk71_0_at (rc : Rec) (md : Md) (h0 : Heap) (e : Exit) (t : T) (h : Heap) : kAt Try.prog cfg rc md 49 (bodyOf Try.prog 71) [1, 0, 1, 0] (retK Try.prog cfg 71 (rsOf Try.prog 71) h0) e t h = Jk71_0 rc md h0 e (t 0) (t 3) (t 6) (t 7) h := by
  rw [kAt_holes [([1, 1], 1)] [1, 0, 1, 0] (by kernel_rfl), Jk71_0_h1, show (goX Try.prog cfg rc md 49 (bodyOf Try.prog 71) [([1, 1], 1)] (retK Try.prog cfg 71 (rsOf Try.prog 71) h0)) 1 = _ from J71_1_cut rc md h0]
  exact Jk71_0_h2 rc md h0 e t h
/-- a round -/
noncomputable def Jr71_0 (rc : Rec) (md : Md) (s0 : Value) (s3 : Value) (s6 : Value) (s7 : Value) (h : Heap) : Option (((Value × Value × Value × Value) × Heap) ⊕ (Exit × (Value × Value × Value × Value) × Heap)) :=
  aBin Try.prog .lss 3 s7 s6 fun v1 =>
  cBn v1 fun b2 =>
  bif b2 then
    ldN 3 s3 h fun v3 =>
    cl (rc md 74 [v3, s7] h) fun v4 h5 =>
    cIn .i64 v4 fun n6 =>
    aBin Try.prog .add 3 s7 (.int .i64 2) fun v7 =>
    aConv Try.prog 3 64 v7 fun v8 =>
    bif okNil Try.prog (.func (.method "Store") #[s0] #[]) then
    clI Try.prog rc md s0 "Store" [(.int .i64 n6), v8] h5 fun v9 h10 =>
    aBin Try.prog .add 3 s7 (.int .i64 1) fun v11 =>
    some (.inl ((s0, s3, s6, v11), h10))
    else none
  else
    some (.inr ((.exit 0), (s0, s3, s6, s7), h))
theorem Jr71_0_at (rc : Rec) (md : Md) (t : T) (h : Heap) : exec Try.prog cfg rc md 49 (sub (bodyOf Try.prog 71) [1, 0, 1, 0, 0]) (rndK (fun t => (t 0, t 3, t 6, t 7))) t h = Jr71_0 rc md (t 0) (t 3) (t 6) (t 7) h := by kernel_rfl
noncomputable def J71_0 (rc : Rec) (md : Md) (h0 : Heap) (s0 : Value) (s3 : Value) (s6 : Value) (s7 : Value) (h : Heap) : Option (Value × Heap) :=
  runL (fun x : (Value × Value × Value × Value) × Heap => Jr71_0 rc md x.1.1 x.1.2.1 x.1.2.2.1 x.1.2.2.2 x.2) (fun e (s : Value × Value × Value × Value) h => Jk71_0 rc md h0 e s.1 s.2.1 s.2.2.1 s.2.2.2 h) (s0, s3, s6, s7) h
theorem J71_0_step (rc : Rec) (md : Md) (h0 : Heap) (s0 : Value) (s3 : Value) (s6 : Value) (s7 : Value) (h : Heap) : J71_0 rc md h0 s0 s3 s6 s7 h = (Jr71_0 rc md s0 s3 s6 s7 h).bind fun x => match x with
    | .inl (s, h) => J71_0 rc md h0 s.1 s.2.1 s.2.2.1 s.2.2.2 h
    | .inr (e, s, h) => Jk71_0 rc md h0 e s.1 s.2.1 s.2.2.1 s.2.2.2 h := by
  unfold J71_0
  rw [runL_eq]
  refine congrArg (Option.bind _) (funext fun x => ?_)
  rcases x with ⟨s, h⟩ | ⟨e, s, h⟩ <;> rfl
theorem J71_0_cut (rc : Rec) (md : Md) (h0 : Heap) : cut Try.prog cfg rc md 49 (bodyOf Try.prog 71) [1, 0, 1, 0] (retK Try.prog cfg 71 (rsOf Try.prog 71) h0) = fun t h => J71_0 rc md h0 (t 0) (t 3) (t 6) (t 7) h := by
  funext t h
  have e : sub (bodyOf Try.prog 71) [1, 0, 1, 0] = .loop (sub (bodyOf Try.prog 71) [1, 0, 1, 0, 0]) := by kernel_rfl
  unfold cut
  rw [e]
  exact loop_eq (by kernel_rfl) (fun t => (t 0, t 3, t 6, t 7)) (fun x : (Value × Value × Value × Value) × Heap => Jr71_0 rc md x.1.1 x.1.2.1 x.1.2.2.1 x.1.2.2.2 x.2) (fun t h => Jr71_0_at rc md t h) (fun e (s : Value × Value × Value × Value) h => Jk71_0 rc md h0 e s.1 s.2.1 s.2.2.1 s.2.2.2 h) (fun e t h => Jk71_0_at rc md h0 e t h) t h
noncomputable def F71 (rc : Rec) (md : Md) (a0 : Value) (a1_0 : Int) (a1_1 : Int) (a1_2 : Int) (h0 : Heap) : Option (Value × Heap) :=
  let h1 : Heap := h0 ++ [.own [(.int .i64 a1_0), (.int .i64 a1_1), (.int .i64 a1_2)]]
  ld1 (.pointer (some ⟨h0.length, 1, none⟩)) h1 fun v2 =>
  cIn .i64 v2 fun n3 =>
  J71_0 rc md h0 a0 (.pointer (some ⟨h0.length, 0, none⟩)) (.int .i64 n3) (.int .i64 0) h1
noncomputable def F71H (rc : Rec) (md : Md) (X0 : T → Heap → Option (Value × Heap)) (a0 : Value) (a1_0 : Int) (a1_1 : Int) (a1_2 : Int) (h0 : Heap) : Option (Value × Heap) :=
  let h1 : Heap := h0 ++ [.own [(.int .i64 a1_0), (.int .i64 a1_1), (.int .i64 a1_2)]]
  ld1 (.pointer (some ⟨h0.length, 1, none⟩)) h1 fun v2 =>
  cIn .i64 v2 fun n3 =>
  X0 (upd (upd (upd (upd (args0 [a0, (.agg #[(.int .i64 a1_0), (.int .i64 a1_1), (.int .i64 a1_2)])]) 3 (.pointer (some ⟨h0.length, 0, none⟩))) 5 (.pointer (some ⟨h0.length, 1, none⟩))) 6 (.int .i64 n3)) 7 (.int .i64 0)) h1
theorem F71_h0 (rc : Rec) (md : Md) (a0 : Value) (a1_0 : Int) (a1_1 : Int) (a1_2 : Int) (h0 : Heap) : callStep0 Try.prog cfg rc md 71 [a0, (.agg #[(.int .i64 a1_0), (.int .i64 a1_1), (.int .i64 a1_2)])] h0 = exec Try.prog cfg rc ⟨md.ro, h0.length⟩ 49 (bodyOf Try.prog 71) (retK Try.prog cfg 71 (rsOf Try.prog 71) h0) (args0 [a0, (.agg #[(.int .i64 a1_0), (.int .i64 a1_1), (.int .i64 a1_2)])]) h0 := callStep0_run (by kernel_rfl) (by kernel_rfl) (by kernel_rfl)
theorem F71_h1 (rc : Rec) (md : Md) (X : Nat → T → Heap → Option (Value × Heap)) (a0 : Value) (a1_0 : Int) (a1_1 : Int) (a1_2 : Int) (h0 : Heap) : execG Try.prog cfg X rc md 49 (replS (bodyOf Try.prog 71) [([1, 0, 1, 0], 0), ([1, 1], 1)]) (retK Try.prog cfg 71 (rsOf Try.prog 71) h0) (args0 [a0, (.agg #[(.int .i64 a1_0), (.int .i64 a1_1), (.int .i64 a1_2)])]) h0 = F71H rc md (X 0) a0 a1_0 a1_1 a1_2 h0 := by kernel_rfl
theorem F71_h2 (rc : Rec) (md : Md) (a0 : Value) (a1_0 : Int) (a1_1 : Int) (a1_2 : Int) (h0 : Heap) : F71H rc md (fun t h => J71_0 rc md h0 (t 0) (t 3) (t 6) (t 7) h) a0 a1_0 a1_1 a1_2 h0 = F71 rc md a0 a1_0 a1_1 a1_2 h0 := by unfold F71H F71; kernel_rfl
theorem F71_eq0 (rc : Rec) (md : Md) (a0 : Value) (a1_0 : Int) (a1_1 : Int) (a1_2 : Int) (h0 : Heap) : callStep0 Try.prog cfg rc md 71 [a0, (.agg #[(.int .i64 a1_0), (.int .i64 a1_1), (.int .i64 a1_2)])] h0 = F71 rc ⟨md.ro, h0.length⟩ a0 a1_0 a1_1 a1_2 h0 := by
  rw [F71_h0, exec_holes [([1, 0, 1, 0], 0), ([1, 1], 1)] (by kernel_rfl), F71_h1, show (goX Try.prog cfg rc ⟨md.ro, h0.length⟩ 49 (bodyOf Try.prog 71) [([1, 0, 1, 0], 0), ([1, 1], 1)] (retK Try.prog cfg 71 (rsOf Try.prog 71) h0)) 0 = _ from J71_0_cut rc ⟨md.ro, h0.length⟩ h0]
  exact F71_h2 rc _ a0 a1_0 a1_1 a1_2 h0
theorem F71_eq (rc : Rec) (md : Md) (a0 : Value) (a1_0 : Int) (a1_1 : Int) (a1_2 : Int) (h0 : Heap) : callStep Try.prog cfg rc md 71 [a0, (.agg #[(.int .i64 a1_0), (.int .i64 a1_1), (.int .i64 a1_2)])] h0 = F71 rc ⟨md.ro, h0.length⟩ a0 a1_0 a1_1 a1_2 h0 := (callStep_ne (by kernel_rfl)).trans (F71_eq0 rc md a0 a1_0 a1_1 a1_2 h0)

/-- tombolo/slot.first -/
noncomputable def F72 (rc : Rec) (md : Md) (a0 : Int) (h0 : Heap) : Option (Value × Heap) :=
  some ((.int .u64 (bAnd .u64 a0 65535)), h0)
theorem F72_eq0 (rc : Rec) (md : Md) (a0 : Int) (h0 : Heap) : callStep0 Try.prog cfg rc md 72 [(.int .u64 a0)] h0 = F72 rc ⟨h0.length, h0.length⟩ a0 h0 := by kernel_rfl
theorem F72_eq (rc : Rec) (md : Md) (a0 : Int) (h0 : Heap) : callStep Try.prog cfg rc md 72 [(.int .u64 a0)] h0 = alone h0 (F72 rc ⟨0, 0⟩ a0 []) := by
  have e : callStep Try.prog cfg rc md 72 [(.int .u64 a0)] h0 = alone h0 (callStep0 Try.prog cfg rc ⟨0, 0⟩ 72 [(.int .u64 a0)] []) := by kernel_rfl
  rw [e, F72_eq0]; rfl

/-- tombolo/slot.with -/
noncomputable def F76 (rc : Rec) (md : Md) (a0 : Int) (a1 : Int) (h0 : Heap) : Option (Value × Heap) :=
  some ((.int .u64 (bOr .u64 (IntKind.wrap .u64 ((bAndNot .u64 a0 65535) + 65536)) (bAnd .u64 a1 65535))), h0)
theorem F76_eq0 (rc : Rec) (md : Md) (a0 : Int) (a1 : Int) (h0 : Heap) : callStep0 Try.prog cfg rc md 76 [(.int .u64 a0), (.int .u64 a1)] h0 = F76 rc ⟨h0.length, h0.length⟩ a0 a1 h0 := by kernel_rfl
theorem F76_eq (rc : Rec) (md : Md) (a0 : Int) (a1 : Int) (h0 : Heap) : callStep Try.prog cfg rc md 76 [(.int .u64 a0), (.int .u64 a1)] h0 = alone h0 (F76 rc ⟨0, 0⟩ a0 a1 []) := by
  have e : callStep Try.prog cfg rc md 76 [(.int .u64 a0), (.int .u64 a1)] h0 = alone h0 (callStep0 Try.prog cfg rc ⟨0, 0⟩ 76 [(.int .u64 a0), (.int .u64 a1)] []) := by kernel_rfl
  rw [e, F76_eq0]; rfl

end Go.Det.E
