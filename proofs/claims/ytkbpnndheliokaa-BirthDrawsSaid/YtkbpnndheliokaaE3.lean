/- Printed functions. -/
import Derived.Test.YtkbpnndheliokaaE1
import Derived.Test.YtkbpnndheliokaaDetT
import Derived.Test.YtkbpnndheliokaaDetX
import Derived.Test.YtkbpnndheliokaaProg
set_option autoImplicit false
set_option linter.unusedVariables false
set_option linter.unusedSimpArgs false
namespace Go.Det.E
open Go.Proofs Go.Det

/-- tombolo/slot.List -/
noncomputable def Jk31_0 (rc : Rec) (md : Md) (h0 : Heap) (e : Exit) (s0 : Value) (s3 : Value) (s4 : Value) (s5 : Value) (s6 : Value) (h : Heap) : Option (Value × Heap) :=
  match e with
  | .normal =>
    some (s5, h)
  | .exit j =>
    bif Nat.beq j 0 then
      some (s5, h)
    else
      none
  | .ret =>
    some (s4, h)
  | .goto l => none
  | .panic ps => none
  | .outgrown => none
theorem Jk31_0_at (rc : Rec) (md : Md) (h0 : Heap) (e : Exit) (t : T) (h : Heap) : kAt Try.prog cfg rc md 48 (bodyOf Try.prog 31) [1, 1, 1, 0, 0] (retK Try.prog cfg 31 (rsOf Try.prog 31) h0) e t h = Jk31_0 rc md h0 e (t 0) (t 3) (t 4) (t 5) (t 6) h := by cases e <;> kernel_rfl
/-- a round -/
noncomputable def Jr31_0 (rc : Rec) (md : Md) (s0 : Value) (s3 : Value) (s4 : Value) (s5 : Value) (s6 : Value) (h : Heap) : Option (((Value × Value × Value × Value × Value) × Heap) ⊕ (Exit × (Value × Value × Value × Value × Value) × Heap)) :=
  aBin Try.prog .gtr 59 s6 (.int .u64 0) fun v1 =>
  (bif wantV v1 true then
  some (s6, h)
  else some (undef, h)).bind fun p2 =>
  (bif wantV v1 true then
  fA 1 s3 fun v3 =>
  some (v3, p2.2)
  else some (undef, p2.2)).bind fun p4 =>
  (bif wantV v1 true then
  ld1 p4.1 p4.2 fun v5 =>
  cIn .i64 v5 fun n6 =>
  some ((.int .i64 n6), p4.2)
  else some (undef, p4.2)).bind fun p7 =>
  (bif wantV v1 true then
  aConv Try.prog 3 59 p7.1 fun v8 =>
  some (v8, p7.2)
  else some (undef, p7.2)).bind fun p9 =>
  (bif wantV v1 true then
  aBin Try.prog .leq 59 p2.1 p9.1 fun v10 =>
  some (v10, p9.2)
  else some (undef, p9.2)).bind fun p11 =>
  cBn v1 fun q12 =>
  cBn (bif q12 then p11.1 else (.bool false)) fun b13 =>
  (bif wantV (.bool b13) true then
  some (s5, p11.2)
  else some (undef, p11.2)).bind fun p14 =>
  (bif wantV (.bool b13) true then
  lenS p14.1 fun v15 =>
  cIn .i64 v15 fun n16 =>
  some ((.int .i64 n16), p14.2)
  else some (undef, p14.2)).bind fun p17 =>
  (bif wantV (.bool b13) true then
  fA 1 s3 fun v18 =>
  some (v18, p17.2)
  else some (undef, p17.2)).bind fun p19 =>
  (bif wantV (.bool b13) true then
  ld1 p19.1 p19.2 fun v20 =>
  cIn .i64 v20 fun n21 =>
  some ((.int .i64 n21), p19.2)
  else some (undef, p19.2)).bind fun p22 =>
  (bif wantV (.bool b13) true then
  aBin Try.prog .lss 3 p17.1 p22.1 fun v23 =>
  some (v23, p22.2)
  else some (undef, p22.2)).bind fun p24 =>
  cBn (bif b13 then p24.1 else (.bool false)) fun b25 =>
  bif b25 then
    aConv Try.prog 59 3 s6 fun v26 =>
    aBin Try.prog .sub 3 v26 (.int .i64 1) fun v27 =>
    aBuildSlice Try.prog 39 1 [(0, v27)] p24.2 fun v28 h29 =>
    aBuiltin Try.prog md .append #[39, 39] [s5, v28] h29 fun v30 h31 =>
    ldN 3 s3 h31 fun v32 =>
    aConv Try.prog 59 3 s6 fun v33 =>
    aBin Try.prog .sub 3 v33 (.int .i64 1) fun v34 =>
    cl (rc md 57 [v32, v34] h31) fun v35 h36 =>
    cIn .i64 v35 fun n37 =>
    bif okNil Try.prog (.func (.method "Load") #[s0] #[]) then
    clI Try.prog rc md s0 "Load" [(.int .i64 n37)] h36 fun v38 h39 =>
    cIn .u64 v38 fun n40 =>
    some (.inl ((s0, s3, s4, v30, (.int .u64 n40)), h39))
    else none
  else
    some (.inr ((.exit 0), (s0, s3, s4, s5, s6), p24.2))
theorem Jr31_0_at (rc : Rec) (md : Md) (t : T) (h : Heap) : exec Try.prog cfg rc md 48 (sub (bodyOf Try.prog 31) [1, 1, 1, 0, 0, 0]) (rndK (fun t => (t 0, t 3, t 4, t 5, t 6))) t h = Jr31_0 rc md (t 0) (t 3) (t 4) (t 5) (t 6) h := by kernel_rfl
noncomputable def J31_0 (rc : Rec) (md : Md) (h0 : Heap) (s0 : Value) (s3 : Value) (s4 : Value) (s5 : Value) (s6 : Value) (h : Heap) : Option (Value × Heap) :=
  runL (fun x : (Value × Value × Value × Value × Value) × Heap => Jr31_0 rc md x.1.1 x.1.2.1 x.1.2.2.1 x.1.2.2.2.1 x.1.2.2.2.2 x.2) (fun e (s : Value × Value × Value × Value × Value) h => Jk31_0 rc md h0 e s.1 s.2.1 s.2.2.1 s.2.2.2.1 s.2.2.2.2 h) (s0, s3, s4, s5, s6) h
theorem J31_0_step (rc : Rec) (md : Md) (h0 : Heap) (s0 : Value) (s3 : Value) (s4 : Value) (s5 : Value) (s6 : Value) (h : Heap) : J31_0 rc md h0 s0 s3 s4 s5 s6 h = (Jr31_0 rc md s0 s3 s4 s5 s6 h).bind fun x => match x with
    | .inl (s, h) => J31_0 rc md h0 s.1 s.2.1 s.2.2.1 s.2.2.2.1 s.2.2.2.2 h
    | .inr (e, s, h) => Jk31_0 rc md h0 e s.1 s.2.1 s.2.2.1 s.2.2.2.1 s.2.2.2.2 h := by
  unfold J31_0
  rw [runL_eq]
  refine congrArg (Option.bind _) (funext fun x => ?_)
  rcases x with ⟨s, h⟩ | ⟨e, s, h⟩ <;> rfl
theorem J31_0_cut (rc : Rec) (md : Md) (h0 : Heap) : cut Try.prog cfg rc md 48 (bodyOf Try.prog 31) [1, 1, 1, 0, 0] (retK Try.prog cfg 31 (rsOf Try.prog 31) h0) = fun t h => J31_0 rc md h0 (t 0) (t 3) (t 4) (t 5) (t 6) h := by
  funext t h
  have e : sub (bodyOf Try.prog 31) [1, 1, 1, 0, 0] = .loop (sub (bodyOf Try.prog 31) [1, 1, 1, 0, 0, 0]) := by kernel_rfl
  unfold cut
  rw [e]
  exact loop_eq (by kernel_rfl) (fun t => (t 0, t 3, t 4, t 5, t 6)) (fun x : (Value × Value × Value × Value × Value) × Heap => Jr31_0 rc md x.1.1 x.1.2.1 x.1.2.2.1 x.1.2.2.2.1 x.1.2.2.2.2 x.2) (fun t h => Jr31_0_at rc md t h) (fun e (s : Value × Value × Value × Value × Value) h => Jk31_0 rc md h0 e s.1 s.2.1 s.2.2.1 s.2.2.2.1 s.2.2.2.2 h) (fun e t h => Jk31_0_at rc md h0 e t h) t h
noncomputable def F31 (rc : Rec) (md : Md) (a0 : Value) (a1_0 : Int) (a1_1 : Int) (a1_2 : Int) (h0 : Heap) : Option (Value × Heap) :=
  let h1 : Heap := h0 ++ [.own [(.int .i64 a1_0), (.int .i64 a1_1), (.int .i64 a1_2)]]
  ldN 3 (.pointer (some ⟨h0.length, 0, none⟩)) h1 fun v2 =>
  cl (rc md 56 [v2] h1) fun v3 h4 =>
  cIn .i64 v3 fun n5 =>
  bif okNil Try.prog (.func (.method "Load") #[a0] #[]) then
  clI Try.prog rc md a0 "Load" [(.int .i64 n5)] h4 fun v6 h7 =>
  cIn .u64 v6 fun n8 =>
  cl (rc md 55 [(.int .u64 n8)] h7) fun v9 h10 =>
  cIn .u64 v9 fun n11 =>
  J31_0 rc md h0 a0 (.pointer (some ⟨h0.length, 0, none⟩)) (.slice none 0 0) (.slice none 0 0) (.int .u64 n11) h10
  else none
noncomputable def F31H (rc : Rec) (md : Md) (X0 : T → Heap → Option (Value × Heap)) (a0 : Value) (a1_0 : Int) (a1_1 : Int) (a1_2 : Int) (h0 : Heap) : Option (Value × Heap) :=
  let h1 : Heap := h0 ++ [.own [(.int .i64 a1_0), (.int .i64 a1_1), (.int .i64 a1_2)]]
  ldN 3 (.pointer (some ⟨h0.length, 0, none⟩)) h1 fun v2 =>
  cl (rc md 56 [v2] h1) fun v3 h4 =>
  cIn .i64 v3 fun n5 =>
  bif okNil Try.prog (.func (.method "Load") #[a0] #[]) then
  clI Try.prog rc md a0 "Load" [(.int .i64 n5)] h4 fun v6 h7 =>
  cIn .u64 v6 fun n8 =>
  cl (rc md 55 [(.int .u64 n8)] h7) fun v9 h10 =>
  cIn .u64 v9 fun n11 =>
  X0 (upd (upd (upd (upd (upd (upd (upd (upd (upd (upd (upd (upd (args0 [a0, (.agg #[(.int .i64 a1_0), (.int .i64 a1_1), (.int .i64 a1_2)])]) 3 (.pointer (some ⟨h0.length, 0, none⟩))) 4 (.slice none 0 0)) 5 (.slice none 0 0)) 7 a0) 8 v2) 9 (.int .i64 n5)) 10 (.func (.method "Load") #[a0] #[])) 11 (.func (.method "Load") #[a0] #[])) 12 a0) 13 (.int .u64 n8)) 14 (.int .u64 n11)) 6 (.int .u64 n11)) h10
  else none
theorem F31_h0 (rc : Rec) (md : Md) (a0 : Value) (a1_0 : Int) (a1_1 : Int) (a1_2 : Int) (h0 : Heap) : callStep0 Try.prog cfg rc md 31 [a0, (.agg #[(.int .i64 a1_0), (.int .i64 a1_1), (.int .i64 a1_2)])] h0 = exec Try.prog cfg rc md 48 (bodyOf Try.prog 31) (retK Try.prog cfg 31 (rsOf Try.prog 31) h0) (args0 [a0, (.agg #[(.int .i64 a1_0), (.int .i64 a1_1), (.int .i64 a1_2)])]) h0 := callStep0_run (by kernel_rfl) (by kernel_rfl) (by kernel_rfl)
theorem F31_h1 (rc : Rec) (md : Md) (X : Nat → T → Heap → Option (Value × Heap)) (a0 : Value) (a1_0 : Int) (a1_1 : Int) (a1_2 : Int) (h0 : Heap) : execG Try.prog cfg X rc md 48 (replS (bodyOf Try.prog 31) [([1, 1, 1, 0, 0], 0)]) (retK Try.prog cfg 31 (rsOf Try.prog 31) h0) (args0 [a0, (.agg #[(.int .i64 a1_0), (.int .i64 a1_1), (.int .i64 a1_2)])]) h0 = F31H rc md (X 0) a0 a1_0 a1_1 a1_2 h0 := by kernel_rfl
theorem F31_h2 (rc : Rec) (md : Md) (a0 : Value) (a1_0 : Int) (a1_1 : Int) (a1_2 : Int) (h0 : Heap) : F31H rc md (fun t h => J31_0 rc md h0 (t 0) (t 3) (t 4) (t 5) (t 6) h) a0 a1_0 a1_1 a1_2 h0 = F31 rc md a0 a1_0 a1_1 a1_2 h0 := by unfold F31H F31; kernel_rfl
theorem F31_eq0 (rc : Rec) (md : Md) (a0 : Value) (a1_0 : Int) (a1_1 : Int) (a1_2 : Int) (h0 : Heap) : callStep0 Try.prog cfg rc md 31 [a0, (.agg #[(.int .i64 a1_0), (.int .i64 a1_1), (.int .i64 a1_2)])] h0 = F31 rc md a0 a1_0 a1_1 a1_2 h0 := by
  rw [F31_h0, exec_holes [([1, 1, 1, 0, 0], 0)] (by kernel_rfl), F31_h1, show (goX Try.prog cfg rc md 48 (bodyOf Try.prog 31) [([1, 1, 1, 0, 0], 0)] (retK Try.prog cfg 31 (rsOf Try.prog 31) h0)) 0 = _ from J31_0_cut rc md h0]
  exact F31_h2 rc _ a0 a1_0 a1_1 a1_2 h0
theorem F31_eq (rc : Rec) (md : Md) (a0 : Value) (a1_0 : Int) (a1_1 : Int) (a1_2 : Int) (h0 : Heap) : callStep Try.prog cfg rc md 31 [a0, (.agg #[(.int .i64 a1_0), (.int .i64 a1_1), (.int .i64 a1_2)])] h0 = F31 rc md a0 a1_0 a1_1 a1_2 h0 := (callStep_ne (by kernel_rfl)).trans (F31_eq0 rc md a0 a1_0 a1_1 a1_2 h0)

/-- tombolo/slot.Init -/
noncomputable def J46_1 (rc : Rec) (md : Md) (h0 : Heap) (s0 : Value) (s3 : Value) (h : Heap) : Option (Value × Heap) :=
  fA 1 s3 fun v1 =>
  ld1 v1 h fun v2 =>
  cIn .i64 v2 fun n3 =>
  bif (n3 == 0) then
    ldN 3 s3 h fun v4 =>
    cl (rc md 56 [v4] h) fun v5 h6 =>
    cIn .i64 v5 fun n7 =>
    bif okNil Try.prog (.func (.method "Store") #[s0] #[]) then
    clI Try.prog rc md s0 "Store" [(.int .i64 n7), (.int .u64 0)] h6 fun v8 h9 =>
    some ((.tuple #[]), List.take h0.length h9)
    else none
  else
    ldN 3 s3 h fun v10 =>
    fA 1 s3 fun v11 =>
    ld1 v11 h fun v12 =>
    cIn .i64 v12 fun n13 =>
    cl (rc md 57 [v10, (.int .i64 (IntKind.wrap .i64 (n13 - 1)))] h) fun v14 h15 =>
    cIn .i64 v14 fun n16 =>
    bif okNil Try.prog (.func (.method "Store") #[s0] #[]) then
    clI Try.prog rc md s0 "Store" [(.int .i64 n16), (.int .u64 0)] h15 fun v17 h18 =>
    ldN 3 s3 h18 fun v19 =>
    cl (rc md 56 [v19] h18) fun v20 h21 =>
    cIn .i64 v20 fun n22 =>
    bif okNil Try.prog (.func (.method "Store") #[s0] #[]) then
    clI Try.prog rc md s0 "Store" [(.int .i64 n22), (.int .u64 1)] h21 fun v23 h24 =>
    some ((.tuple #[]), List.take h0.length h24)
    else none
    else none
theorem J46_1_at (rc : Rec) (md : Md) (h0 : Heap) (t : T) (h : Heap) : cut Try.prog cfg rc md 49 (bodyOf Try.prog 46) [1, 1] (retK Try.prog cfg 46 (rsOf Try.prog 46) h0) t h = J46_1 rc md h0 (t 0) (t 3) h := by kernel_rfl
theorem J46_1_cut (rc : Rec) (md : Md) (h0 : Heap) : cut Try.prog cfg rc md 49 (bodyOf Try.prog 46) [1, 1] (retK Try.prog cfg 46 (rsOf Try.prog 46) h0) = fun t h => J46_1 rc md h0 (t 0) (t 3) h := funext fun t => funext fun h => J46_1_at rc md h0 t h
noncomputable def Jk46_0 (rc : Rec) (md : Md) (h0 : Heap) (e : Exit) (s0 : Value) (s3 : Value) (s6 : Value) (s7 : Value) (h : Heap) : Option (Value × Heap) :=
  match e with
  | .normal =>
    J46_1 rc md h0 s0 s3 h
  | .exit j =>
    bif Nat.beq j 0 then
      J46_1 rc md h0 s0 s3 h
    else
      none
  | .ret =>
    some ((.tuple #[]), List.take h0.length h)
  | .goto l => none
  | .panic ps => none
  | .outgrown => none
noncomputable def Jk46_0H (rc : Rec) (md : Md) (h0 : Heap) (X1 : T → Heap → Option (Value × Heap)) (e : Exit) (t : T) (h : Heap) : Option (Value × Heap) :=
  match e with
  | .normal =>
    X1 t h
  | .exit j =>
    bif Nat.beq j 0 then
      X1 t h
    else
      none
  | .ret =>
    some ((.tuple #[]), List.take h0.length h)
  | .goto l => none
  | .panic ps => none
  | .outgrown => none
theorem Jk46_0_h1 (rc : Rec) (md : Md) (h0 : Heap) (X : Nat → T → Heap → Option (Value × Heap)) (e : Exit) (t : T) (h : Heap) : kAtG Try.prog cfg X rc md 49 (replS (bodyOf Try.prog 46) [([1, 1], 1)]) [1, 0, 1, 0] (retK Try.prog cfg 46 (rsOf Try.prog 46) h0) e t h = Jk46_0H rc md h0 (X 1) e t h := by cases e <;> kernel_rfl
theorem Jk46_0_h2 (rc : Rec) (md : Md) (h0 : Heap) (e : Exit) (t : T) (h : Heap) : Jk46_0H rc md h0 (fun t h => J46_1 rc md h0 (t 0) (t 3) h) e t h = Jk46_0 rc md h0 e (t 0) (t 3) (t 6) (t 7) h := by cases e <;> (unfold Jk46_0H Jk46_0; kernel_rfl)
theorem Jk46_0_at (rc : Rec) (md : Md) (h0 : Heap) (e : Exit) (t : T) (h : Heap) : kAt Try.prog cfg rc md 49 (bodyOf Try.prog 46) [1, 0, 1, 0] (retK Try.prog cfg 46 (rsOf Try.prog 46) h0) e t h = Jk46_0 rc md h0 e (t 0) (t 3) (t 6) (t 7) h := by
  rw [kAt_holes [([1, 1], 1)] [1, 0, 1, 0] (by kernel_rfl), Jk46_0_h1, show (goX Try.prog cfg rc md 49 (bodyOf Try.prog 46) [([1, 1], 1)] (retK Try.prog cfg 46 (rsOf Try.prog 46) h0)) 1 = _ from J46_1_cut rc md h0]
  exact Jk46_0_h2 rc md h0 e t h
/-- a round -/
noncomputable def Jr46_0 (rc : Rec) (md : Md) (s0 : Value) (s3 : Value) (s6 : Value) (s7 : Value) (h : Heap) : Option (((Value × Value × Value × Value) × Heap) ⊕ (Exit × (Value × Value × Value × Value) × Heap)) :=
  aBin Try.prog .lss 3 s7 s6 fun v1 =>
  cBn v1 fun b2 =>
  bif b2 then
    ldN 3 s3 h fun v3 =>
    cl (rc md 57 [v3, s7] h) fun v4 h5 =>
    cIn .i64 v4 fun n6 =>
    aBin Try.prog .add 3 s7 (.int .i64 2) fun v7 =>
    aConv Try.prog 3 59 v7 fun v8 =>
    bif okNil Try.prog (.func (.method "Store") #[s0] #[]) then
    clI Try.prog rc md s0 "Store" [(.int .i64 n6), v8] h5 fun v9 h10 =>
    aBin Try.prog .add 3 s7 (.int .i64 1) fun v11 =>
    some (.inl ((s0, s3, s6, v11), h10))
    else none
  else
    some (.inr ((.exit 0), (s0, s3, s6, s7), h))
theorem Jr46_0_at (rc : Rec) (md : Md) (t : T) (h : Heap) : exec Try.prog cfg rc md 49 (sub (bodyOf Try.prog 46) [1, 0, 1, 0, 0]) (rndK (fun t => (t 0, t 3, t 6, t 7))) t h = Jr46_0 rc md (t 0) (t 3) (t 6) (t 7) h := by kernel_rfl
noncomputable def J46_0 (rc : Rec) (md : Md) (h0 : Heap) (s0 : Value) (s3 : Value) (s6 : Value) (s7 : Value) (h : Heap) : Option (Value × Heap) :=
  runL (fun x : (Value × Value × Value × Value) × Heap => Jr46_0 rc md x.1.1 x.1.2.1 x.1.2.2.1 x.1.2.2.2 x.2) (fun e (s : Value × Value × Value × Value) h => Jk46_0 rc md h0 e s.1 s.2.1 s.2.2.1 s.2.2.2 h) (s0, s3, s6, s7) h
theorem J46_0_step (rc : Rec) (md : Md) (h0 : Heap) (s0 : Value) (s3 : Value) (s6 : Value) (s7 : Value) (h : Heap) : J46_0 rc md h0 s0 s3 s6 s7 h = (Jr46_0 rc md s0 s3 s6 s7 h).bind fun x => match x with
    | .inl (s, h) => J46_0 rc md h0 s.1 s.2.1 s.2.2.1 s.2.2.2 h
    | .inr (e, s, h) => Jk46_0 rc md h0 e s.1 s.2.1 s.2.2.1 s.2.2.2 h := by
  unfold J46_0
  rw [runL_eq]
  refine congrArg (Option.bind _) (funext fun x => ?_)
  rcases x with ⟨s, h⟩ | ⟨e, s, h⟩ <;> rfl
theorem J46_0_cut (rc : Rec) (md : Md) (h0 : Heap) : cut Try.prog cfg rc md 49 (bodyOf Try.prog 46) [1, 0, 1, 0] (retK Try.prog cfg 46 (rsOf Try.prog 46) h0) = fun t h => J46_0 rc md h0 (t 0) (t 3) (t 6) (t 7) h := by
  funext t h
  have e : sub (bodyOf Try.prog 46) [1, 0, 1, 0] = .loop (sub (bodyOf Try.prog 46) [1, 0, 1, 0, 0]) := by kernel_rfl
  unfold cut
  rw [e]
  exact loop_eq (by kernel_rfl) (fun t => (t 0, t 3, t 6, t 7)) (fun x : (Value × Value × Value × Value) × Heap => Jr46_0 rc md x.1.1 x.1.2.1 x.1.2.2.1 x.1.2.2.2 x.2) (fun t h => Jr46_0_at rc md t h) (fun e (s : Value × Value × Value × Value) h => Jk46_0 rc md h0 e s.1 s.2.1 s.2.2.1 s.2.2.2 h) (fun e t h => Jk46_0_at rc md h0 e t h) t h
noncomputable def F46 (rc : Rec) (md : Md) (a0 : Value) (a1_0 : Int) (a1_1 : Int) (a1_2 : Int) (h0 : Heap) : Option (Value × Heap) :=
  let h1 : Heap := h0 ++ [.own [(.int .i64 a1_0), (.int .i64 a1_1), (.int .i64 a1_2)]]
  ld1 (.pointer (some ⟨h0.length, 1, none⟩)) h1 fun v2 =>
  cIn .i64 v2 fun n3 =>
  J46_0 rc md h0 a0 (.pointer (some ⟨h0.length, 0, none⟩)) (.int .i64 n3) (.int .i64 0) h1
noncomputable def F46H (rc : Rec) (md : Md) (X0 : T → Heap → Option (Value × Heap)) (a0 : Value) (a1_0 : Int) (a1_1 : Int) (a1_2 : Int) (h0 : Heap) : Option (Value × Heap) :=
  let h1 : Heap := h0 ++ [.own [(.int .i64 a1_0), (.int .i64 a1_1), (.int .i64 a1_2)]]
  ld1 (.pointer (some ⟨h0.length, 1, none⟩)) h1 fun v2 =>
  cIn .i64 v2 fun n3 =>
  X0 (upd (upd (upd (upd (args0 [a0, (.agg #[(.int .i64 a1_0), (.int .i64 a1_1), (.int .i64 a1_2)])]) 3 (.pointer (some ⟨h0.length, 0, none⟩))) 5 (.pointer (some ⟨h0.length, 1, none⟩))) 6 (.int .i64 n3)) 7 (.int .i64 0)) h1
theorem F46_h0 (rc : Rec) (md : Md) (a0 : Value) (a1_0 : Int) (a1_1 : Int) (a1_2 : Int) (h0 : Heap) : callStep0 Try.prog cfg rc md 46 [a0, (.agg #[(.int .i64 a1_0), (.int .i64 a1_1), (.int .i64 a1_2)])] h0 = exec Try.prog cfg rc ⟨md.ro, h0.length⟩ 49 (bodyOf Try.prog 46) (retK Try.prog cfg 46 (rsOf Try.prog 46) h0) (args0 [a0, (.agg #[(.int .i64 a1_0), (.int .i64 a1_1), (.int .i64 a1_2)])]) h0 := callStep0_run (by kernel_rfl) (by kernel_rfl) (by kernel_rfl)
theorem F46_h1 (rc : Rec) (md : Md) (X : Nat → T → Heap → Option (Value × Heap)) (a0 : Value) (a1_0 : Int) (a1_1 : Int) (a1_2 : Int) (h0 : Heap) : execG Try.prog cfg X rc md 49 (replS (bodyOf Try.prog 46) [([1, 0, 1, 0], 0), ([1, 1], 1)]) (retK Try.prog cfg 46 (rsOf Try.prog 46) h0) (args0 [a0, (.agg #[(.int .i64 a1_0), (.int .i64 a1_1), (.int .i64 a1_2)])]) h0 = F46H rc md (X 0) a0 a1_0 a1_1 a1_2 h0 := by kernel_rfl
theorem F46_h2 (rc : Rec) (md : Md) (a0 : Value) (a1_0 : Int) (a1_1 : Int) (a1_2 : Int) (h0 : Heap) : F46H rc md (fun t h => J46_0 rc md h0 (t 0) (t 3) (t 6) (t 7) h) a0 a1_0 a1_1 a1_2 h0 = F46 rc md a0 a1_0 a1_1 a1_2 h0 := by unfold F46H F46; kernel_rfl
theorem F46_eq0 (rc : Rec) (md : Md) (a0 : Value) (a1_0 : Int) (a1_1 : Int) (a1_2 : Int) (h0 : Heap) : callStep0 Try.prog cfg rc md 46 [a0, (.agg #[(.int .i64 a1_0), (.int .i64 a1_1), (.int .i64 a1_2)])] h0 = F46 rc ⟨md.ro, h0.length⟩ a0 a1_0 a1_1 a1_2 h0 := by
  rw [F46_h0, exec_holes [([1, 0, 1, 0], 0), ([1, 1], 1)] (by kernel_rfl), F46_h1, show (goX Try.prog cfg rc ⟨md.ro, h0.length⟩ 49 (bodyOf Try.prog 46) [([1, 0, 1, 0], 0), ([1, 1], 1)] (retK Try.prog cfg 46 (rsOf Try.prog 46) h0)) 0 = _ from J46_0_cut rc ⟨md.ro, h0.length⟩ h0]
  exact F46_h2 rc _ a0 a1_0 a1_1 a1_2 h0
theorem F46_eq (rc : Rec) (md : Md) (a0 : Value) (a1_0 : Int) (a1_1 : Int) (a1_2 : Int) (h0 : Heap) : callStep Try.prog cfg rc md 46 [a0, (.agg #[(.int .i64 a1_0), (.int .i64 a1_1), (.int .i64 a1_2)])] h0 = F46 rc ⟨md.ro, h0.length⟩ a0 a1_0 a1_1 a1_2 h0 := (callStep_ne (by kernel_rfl)).trans (F46_eq0 rc md a0 a1_0 a1_1 a1_2 h0)

/-- tombolo/slot.first -/
noncomputable def F55 (rc : Rec) (md : Md) (a0 : Int) (h0 : Heap) : Option (Value × Heap) :=
  some ((.int .u64 (bAnd .u64 a0 65535)), h0)
theorem F55_eq0 (rc : Rec) (md : Md) (a0 : Int) (h0 : Heap) : callStep0 Try.prog cfg rc md 55 [(.int .u64 a0)] h0 = F55 rc ⟨h0.length, h0.length⟩ a0 h0 := by kernel_rfl
theorem F55_eq (rc : Rec) (md : Md) (a0 : Int) (h0 : Heap) : callStep Try.prog cfg rc md 55 [(.int .u64 a0)] h0 = alone h0 (F55 rc ⟨0, 0⟩ a0 []) := by
  have e : callStep Try.prog cfg rc md 55 [(.int .u64 a0)] h0 = alone h0 (callStep0 Try.prog cfg rc ⟨0, 0⟩ 55 [(.int .u64 a0)] []) := by kernel_rfl
  rw [e, F55_eq0]; rfl

end Go.Det.E
