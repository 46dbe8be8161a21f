/- Printed functions. -/
import Derived.Test.YtfckdafeeoibhaaE1
import Derived.Test.YtfckdafeeoibhaaDetT
import Derived.Test.YtfckdafeeoibhaaDetX
import Derived.Test.YtfckdafeeoibhaaProg
set_option autoImplicit false
set_option linter.unusedVariables false
set_option linter.unusedSimpArgs false
namespace Go.Det.E
open Go.Proofs Go.Det

/-- tombolo/tombololaw06.MemReplays -/
noncomputable def Jk11_2 (rc : Rec) (md : Md) (h0 : Heap) (e : Exit) (s4 : Value) (s5 : Value) (s6 : Value) (s70 : Value) (s71 : Value) (h : Heap) : Option (Value × Heap) :=
  match e with
  | .normal =>
    cl (rc md 56 [] h) fun v1 h2 =>
    cBn v1 fun b3 =>
    some ((.bool b3), List.take h0.length h2)
  | .exit j =>
    bif Nat.beq j 2 then
      cl (rc md 56 [] h) fun v4 h5 =>
      cBn v4 fun b6 =>
      some ((.bool b6), List.take h0.length h5)
    else
      none
  | .ret =>
    fin1 h0 s4 h
  | .goto l => none
  | .panic ps => none
  | .outgrown => none
theorem Jk11_2_at (rc : Rec) (md : Md) (h0 : Heap) (e : Exit) (t : T) (h : Heap) : kAt Try.prog cfg rc md 87 (bodyOf Try.prog 11) [1, 1, 1, 1, 1, 1, 1, 1, 1, 0, 1, 0] (retK Try.prog cfg 11 (rsOf Try.prog 11) h0) e t h = Jk11_2 rc md h0 e (t 4) (t 5) (t 6) (t 70) (t 71) h := by cases e <;> kernel_rfl
/-- a round -/
noncomputable def Jr11_2 (rc : Rec) (md : Md) (s4 : Value) (s5 : Value) (s6 : Value) (s70 : Value) (s71 : Value) (h : Heap) : Option (((Value × Value × Value × Value × Value) × Heap) ⊕ (Exit × (Value × Value × Value × Value × Value) × Heap)) :=
  aBin Try.prog .lss 3 s71 s70 fun v1 =>
  cBn v1 fun b2 =>
  bif b2 then
    cl (rc md 53 [s5, s71] h) fun v3 h4 =>
    exT v3 0 fun v5 =>
    cIn .u64 v5 fun n6 =>
    exT v3 1 fun v7 =>
    cIn .i64 v7 fun n8 =>
    cl (rc md 60 [s6, s71] h4) fun v9 h10 =>
    cIn .u64 v9 fun n11 =>
    bif (n11 != n6) then
      some (.inr (.ret, ((.bool false), s5, s6, s70, s71), h10))
    else
      aBin Try.prog .add 3 s71 (.int .i64 1) fun v12 =>
      some (.inl ((s4, s5, s6, s70, v12), h10))
  else
    some (.inr ((.exit 2), (s4, s5, s6, s70, s71), h))
theorem Jr11_2_at (rc : Rec) (md : Md) (t : T) (h : Heap) : exec Try.prog cfg rc md 87 (sub (bodyOf Try.prog 11) [1, 1, 1, 1, 1, 1, 1, 1, 1, 0, 1, 0, 0]) (rndK (fun t => (t 4, t 5, t 6, t 70, t 71))) t h = Jr11_2 rc md (t 4) (t 5) (t 6) (t 70) (t 71) h := by kernel_rfl
noncomputable def J11_2 (rc : Rec) (md : Md) (h0 : Heap) (s4 : Value) (s5 : Value) (s6 : Value) (s70 : Value) (s71 : Value) (h : Heap) : Option (Value × Heap) :=
  runL (fun x : (Value × Value × Value × Value × Value) × Heap => Jr11_2 rc md x.1.1 x.1.2.1 x.1.2.2.1 x.1.2.2.2.1 x.1.2.2.2.2 x.2) (fun e (s : Value × Value × Value × Value × Value) h => Jk11_2 rc md h0 e s.1 s.2.1 s.2.2.1 s.2.2.2.1 s.2.2.2.2 h) (s4, s5, s6, s70, s71) h
theorem J11_2_step (rc : Rec) (md : Md) (h0 : Heap) (s4 : Value) (s5 : Value) (s6 : Value) (s70 : Value) (s71 : Value) (h : Heap) : J11_2 rc md h0 s4 s5 s6 s70 s71 h = (Jr11_2 rc md s4 s5 s6 s70 s71 h).bind fun x => match x with
    | .inl (s, h) => J11_2 rc md h0 s.1 s.2.1 s.2.2.1 s.2.2.2.1 s.2.2.2.2 h
    | .inr (e, s, h) => Jk11_2 rc md h0 e s.1 s.2.1 s.2.2.1 s.2.2.2.1 s.2.2.2.2 h := by
  unfold J11_2
  rw [runL_eq]
  refine congrArg (Option.bind _) (funext fun x => ?_)
  rcases x with ⟨s, h⟩ | ⟨e, s, h⟩ <;> rfl
theorem J11_2_cut (rc : Rec) (md : Md) (h0 : Heap) : cut Try.prog cfg rc md 87 (bodyOf Try.prog 11) [1, 1, 1, 1, 1, 1, 1, 1, 1, 0, 1, 0] (retK Try.prog cfg 11 (rsOf Try.prog 11) h0) = fun t h => J11_2 rc md h0 (t 4) (t 5) (t 6) (t 70) (t 71) h := by
  funext t h
  have e : sub (bodyOf Try.prog 11) [1, 1, 1, 1, 1, 1, 1, 1, 1, 0, 1, 0] = .loop (sub (bodyOf Try.prog 11) [1, 1, 1, 1, 1, 1, 1, 1, 1, 0, 1, 0, 0]) := by kernel_rfl
  unfold cut
  rw [e]
  exact loop_eq (by kernel_rfl) (fun t => (t 4, t 5, t 6, t 70, t 71)) (fun x : (Value × Value × Value × Value × Value) × Heap => Jr11_2 rc md x.1.1 x.1.2.1 x.1.2.2.1 x.1.2.2.2.1 x.1.2.2.2.2 x.2) (fun t h => Jr11_2_at rc md t h) (fun e (s : Value × Value × Value × Value × Value) h => Jk11_2 rc md h0 e s.1 s.2.1 s.2.2.1 s.2.2.2.1 s.2.2.2.2 h) (fun e t h => Jk11_2_at rc md h0 e t h) t h
noncomputable def J11_1 (rc : Rec) (md : Md) (h0 : Heap) (s0 : Value) (s4 : Value) (s5 : Value) (s6 : Value) (h : Heap) : Option (Value × Heap) :=
  cl (rc md 61 [s6] h) fun v1 h2 =>
  cl (rc md 19 [s5] h2) fun v3 h4 =>
  cl (rc md 62 [(.iface 31 v3), v1] h4) fun v5 h6 =>
  exT v5 0 fun v7 =>
  cIn .i64 v7 fun n8 =>
  exT v5 1 fun v9 =>
  cBn v9 fun b10 =>
  (bif wantV (.bool (!b10)) false then
  some ((.int .i64 n8), h6)
  else some (undef, h6)).bind fun p11 =>
  (bif wantV (.bool (!b10)) false then
  some (v1, p11.2)
  else some (undef, p11.2)).bind fun p12 =>
  (bif wantV (.bool (!b10)) false then
  lenS p12.1 fun v13 =>
  cIn .i64 v13 fun n14 =>
  some ((.int .i64 n14), p12.2)
  else some (undef, p12.2)).bind fun p15 =>
  (bif wantV (.bool (!b10)) false then
  aBin Try.prog .neq 3 p11.1 p15.1 fun v16 =>
  some (v16, p15.2)
  else some (undef, p15.2)).bind fun p17 =>
  cBn (bif !b10 then (.bool true) else p17.1) fun b18 =>
  bif b18 then
    some ((.bool false), List.take h0.length p17.2)
  else
    lenS s0 fun v19 =>
    cIn .i64 v19 fun n20 =>
    J11_2 rc md h0 s4 s5 s6 (.int .i64 n20) (.int .i64 0) p17.2
noncomputable def J11_1H (rc : Rec) (md : Md) (h0 : Heap) (X1 : T → Heap → Option (Value × Heap)) (t : T) (h : Heap) : Option (Value × Heap) :=
  cl (rc md 61 [(t 6)] h) fun v1 h2 =>
  cl (rc md 19 [(t 5)] h2) fun v3 h4 =>
  cl (rc md 62 [(.iface 31 v3), v1] h4) fun v5 h6 =>
  exT v5 0 fun v7 =>
  cIn .i64 v7 fun n8 =>
  exT v5 1 fun v9 =>
  cBn v9 fun b10 =>
  (bif wantV (.bool (!b10)) false then
  some ((.int .i64 n8), h6)
  else some (undef, h6)).bind fun p11 =>
  (bif wantV (.bool (!b10)) false then
  some (v1, p11.2)
  else some (undef, p11.2)).bind fun p12 =>
  (bif wantV (.bool (!b10)) false then
  lenS p12.1 fun v13 =>
  cIn .i64 v13 fun n14 =>
  some ((.int .i64 n14), p12.2)
  else some (undef, p12.2)).bind fun p15 =>
  (bif wantV (.bool (!b10)) false then
  aBin Try.prog .neq 3 p11.1 p15.1 fun v16 =>
  some (v16, p15.2)
  else some (undef, p15.2)).bind fun p17 =>
  cBn (bif !b10 then (.bool true) else p17.1) fun b18 =>
  bif b18 then
    some ((.bool false), List.take h0.length p17.2)
  else
    lenS (t 0) fun v19 =>
    cIn .i64 v19 fun n20 =>
    X1 (upd (upd (upd (upd (upd (upd (upd (upd (upd (upd (upd (upd (upd (upd (upd (upd (upd (upd (upd (upd (upd (upd (upd (upd t 51 (t 6)) 52 v1) 9 v1) 54 (t 5)) 55 v3) 56 (.iface 31 v3)) 57 v1) 58 v5) 53 v5) 59 (.int .i64 n8)) 60 (.bool b10)) 10 (.int .i64 n8)) 11 (.bool b10)) 61 (.bool b10)) 62 (.bool (!b10))) 63 (.bool (!b10))) 64 p11.1) 65 p12.1) 66 p15.1) 67 p17.1) 68 (.bool b18)) 69 (t 0)) 70 (.int .i64 n20)) 71 (.int .i64 0)) p17.2
theorem J11_1_h1 (rc : Rec) (md : Md) (h0 : Heap) (X : Nat → T → Heap → Option (Value × Heap)) (t : T) (h : Heap) : execG Try.prog cfg X rc md 87 (sub (replS (bodyOf Try.prog 11) [([1, 1, 1, 1, 1, 1, 0, 1, 0], 0), ([1, 1, 1, 1, 1, 1, 1, 1, 1, 0, 1, 0], 1)]) [1, 1, 1, 1, 1, 1, 1]) (kAtG Try.prog cfg X rc md 87 (replS (bodyOf Try.prog 11) [([1, 1, 1, 1, 1, 1, 0, 1, 0], 0), ([1, 1, 1, 1, 1, 1, 1, 1, 1, 0, 1, 0], 1)]) [1, 1, 1, 1, 1, 1, 1] (retK Try.prog cfg 11 (rsOf Try.prog 11) h0)) t h = J11_1H rc md h0 (X 1) t h := by kernel_rfl
theorem J11_1_h2 (rc : Rec) (md : Md) (h0 : Heap) (t : T) (h : Heap) : J11_1H rc md h0 (fun t h => J11_2 rc md h0 (t 4) (t 5) (t 6) (t 70) (t 71) h) t h = J11_1 rc md h0 (t 0) (t 4) (t 5) (t 6) h := by (unfold J11_1H J11_1; kernel_rfl)
theorem J11_1_at (rc : Rec) (md : Md) (h0 : Heap) (t : T) (h : Heap) : cut Try.prog cfg rc md 87 (bodyOf Try.prog 11) [1, 1, 1, 1, 1, 1, 1] (retK Try.prog cfg 11 (rsOf Try.prog 11) h0) t h = J11_1 rc md h0 (t 0) (t 4) (t 5) (t 6) h := by
  rw [cut_holes [([1, 1, 1, 1, 1, 1, 0, 1, 0], 0), ([1, 1, 1, 1, 1, 1, 1, 1, 1, 0, 1, 0], 1)] [1, 1, 1, 1, 1, 1, 1] (by kernel_rfl), J11_1_h1, show (goX Try.prog cfg rc md 87 (bodyOf Try.prog 11) [([1, 1, 1, 1, 1, 1, 0, 1, 0], 0), ([1, 1, 1, 1, 1, 1, 1, 1, 1, 0, 1, 0], 1)] (retK Try.prog cfg 11 (rsOf Try.prog 11) h0)) 1 = _ from J11_2_cut rc md h0]
  exact J11_1_h2 rc md h0 t h
theorem J11_1_cut (rc : Rec) (md : Md) (h0 : Heap) : cut Try.prog cfg rc md 87 (bodyOf Try.prog 11) [1, 1, 1, 1, 1, 1, 1] (retK Try.prog cfg 11 (rsOf Try.prog 11) h0) = fun t h => J11_1 rc md h0 (t 0) (t 4) (t 5) (t 6) h := funext fun t => funext fun h => J11_1_at rc md h0 t h
noncomputable def Jk11_0 (rc : Rec) (md : Md) (h0 : Heap) (e : Exit) (s0 : Value) (s4 : Value) (s5 : Value) (s6 : Value) (s32 : Value) (s33 : Value) (s34 : Value) (h : Heap) : Option (Value × Heap) :=
  match e with
  | .normal =>
    J11_1 rc md h0 s0 s4 s5 s6 h
  | .exit j =>
    bif Nat.beq j 0 then
      J11_1 rc md h0 s0 s4 s5 s6 h
    else
      none
  | .ret =>
    fin1 h0 s4 h
  | .goto l => none
  | .panic ps => none
  | .outgrown => none
noncomputable def Jk11_0H (rc : Rec) (md : Md) (h0 : Heap) (X2 : T → Heap → Option (Value × Heap)) (e : Exit) (t : T) (h : Heap) : Option (Value × Heap) :=
  match e with
  | .normal =>
    X2 t h
  | .exit j =>
    bif Nat.beq j 0 then
      X2 t h
    else
      none
  | .ret =>
    fin1 h0 (t 4) h
  | .goto l => none
  | .panic ps => none
  | .outgrown => none
theorem Jk11_0_h1 (rc : Rec) (md : Md) (h0 : Heap) (X : Nat → T → Heap → Option (Value × Heap)) (e : Exit) (t : T) (h : Heap) : kAtG Try.prog cfg X rc md 87 (replS (bodyOf Try.prog 11) [([1, 1, 1, 1, 1, 1, 1, 1, 1, 0, 1, 0], 1), ([1, 1, 1, 1, 1, 1, 1], 2)]) [1, 1, 1, 1, 1, 1, 0, 1, 0] (retK Try.prog cfg 11 (rsOf Try.prog 11) h0) e t h = Jk11_0H rc md h0 (X 2) e t h := by cases e <;> kernel_rfl
theorem Jk11_0_h2 (rc : Rec) (md : Md) (h0 : Heap) (e : Exit) (t : T) (h : Heap) : Jk11_0H rc md h0 (fun t h => J11_1 rc md h0 (t 0) (t 4) (t 5) (t 6) h) e t h = Jk11_0 rc md h0 e (t 0) (t 4) (t 5) (t 6) (t 32) (t 33) (t 34) h := by cases e <;> (unfold Jk11_0H Jk11_0; kernel_rfl)
theorem Jk11_0_at (rc : Rec) (md : Md) (h0 : Heap) (e : Exit) (t : T) (h : Heap) : kAt Try.prog cfg rc md 87 (bodyOf Try.prog 11) [1, 1, 1, 1, 1, 1, 0, 1, 0] (retK Try.prog cfg 11 (rsOf Try.prog 11) h0) e t h = Jk11_0 rc md h0 e (t 0) (t 4) (t 5) (t 6) (t 32) (t 33) (t 34) h := by
  rw [kAt_holes [([1, 1, 1, 1, 1, 1, 1, 1, 1, 0, 1, 0], 1), ([1, 1, 1, 1, 1, 1, 1], 2)] [1, 1, 1, 1, 1, 1, 0, 1, 0] (by kernel_rfl), Jk11_0_h1, show (goX Try.prog cfg rc md 87 (bodyOf Try.prog 11) [([1, 1, 1, 1, 1, 1, 1, 1, 1, 0, 1, 0], 1), ([1, 1, 1, 1, 1, 1, 1], 2)] (retK Try.prog cfg 11 (rsOf Try.prog 11) h0)) 2 = _ from J11_1_cut rc md h0]
  exact Jk11_0_h2 rc md h0 e t h
/-- a round -/
noncomputable def Jr11_0 (rc : Rec) (md : Md) (s0 : Value) (s4 : Value) (s5 : Value) (s6 : Value) (s32 : Value) (s33 : Value) (s34 : Value) (h : Heap) : Option (((Value × Value × Value × Value × Value × Value × Value) × Heap) ⊕ (Exit × (Value × Value × Value × Value × Value × Value × Value) × Heap)) :=
  aBin Try.prog .lss 3 s34 s33 fun v1 =>
  cBn v1 fun b2 =>
  bif b2 then
    ixSV 3 s32 s34 fun v3 =>
    ldN 3 v3 h fun v4 =>
    let h5 : Heap := h ++ [.own [(.bool false), (.int .i64 0), (.int .u64 0)]]
    st md 3 (.pointer (some ⟨h.length, 0, none⟩)) v4 h5 fun h6 =>
    ld1 (.pointer (some ⟨h.length, 0, none⟩)) h6 fun v7 =>
    cBn v7 fun b8 =>
    bif b8 then
      ld1 (.pointer (some ⟨h.length, 1, none⟩)) h6 fun v9 =>
      cIn .i64 v9 fun n10 =>
      ld1 (.pointer (some ⟨h.length, 2, none⟩)) h6 fun v11 =>
      cIn .u64 v11 fun n12 =>
      cl (rc md 59 [s6, (.int .i64 n10), (.int .u64 n12)] h6) fun v13 h14 =>
      aBin Try.prog .add 3 s34 (.int .i64 1) fun v15 =>
      some (.inl ((s0, s4, s5, s6, s32, s33, v15), h14))
    else
      ld1 (.pointer (some ⟨h.length, 1, none⟩)) h6 fun v16 =>
      cIn .i64 v16 fun n17 =>
      cl (rc md 60 [s6, (.int .i64 n17)] h6) fun v18 h19 =>
      cIn .u64 v18 fun n20 =>
      aBin Try.prog .add 3 s34 (.int .i64 1) fun v21 =>
      some (.inl ((s0, s4, s5, s6, s32, s33, v21), h19))
  else
    some (.inr ((.exit 0), (s0, s4, s5, s6, s32, s33, s34), h))
theorem Jr11_0_at (rc : Rec) (md : Md) (t : T) (h : Heap) : exec Try.prog cfg rc md 87 (sub (bodyOf Try.prog 11) [1, 1, 1, 1, 1, 1, 0, 1, 0, 0]) (rndK (fun t => (t 0, t 4, t 5, t 6, t 32, t 33, t 34))) t h = Jr11_0 rc md (t 0) (t 4) (t 5) (t 6) (t 32) (t 33) (t 34) h := by kernel_rfl
noncomputable def J11_0 (rc : Rec) (md : Md) (h0 : Heap) (s0 : Value) (s4 : Value) (s5 : Value) (s6 : Value) (s32 : Value) (s33 : Value) (s34 : Value) (h : Heap) : Option (Value × Heap) :=
  runL (fun x : (Value × Value × Value × Value × Value × Value × Value) × Heap => Jr11_0 rc md x.1.1 x.1.2.1 x.1.2.2.1 x.1.2.2.2.1 x.1.2.2.2.2.1 x.1.2.2.2.2.2.1 x.1.2.2.2.2.2.2 x.2) (fun e (s : Value × Value × Value × Value × Value × Value × Value) h => Jk11_0 rc md h0 e s.1 s.2.1 s.2.2.1 s.2.2.2.1 s.2.2.2.2.1 s.2.2.2.2.2.1 s.2.2.2.2.2.2 h) (s0, s4, s5, s6, s32, s33, s34) h
theorem J11_0_step (rc : Rec) (md : Md) (h0 : Heap) (s0 : Value) (s4 : Value) (s5 : Value) (s6 : Value) (s32 : Value) (s33 : Value) (s34 : Value) (h : Heap) : J11_0 rc md h0 s0 s4 s5 s6 s32 s33 s34 h = (Jr11_0 rc md s0 s4 s5 s6 s32 s33 s34 h).bind fun x => match x with
    | .inl (s, h) => J11_0 rc md h0 s.1 s.2.1 s.2.2.1 s.2.2.2.1 s.2.2.2.2.1 s.2.2.2.2.2.1 s.2.2.2.2.2.2 h
    | .inr (e, s, h) => Jk11_0 rc md h0 e s.1 s.2.1 s.2.2.1 s.2.2.2.1 s.2.2.2.2.1 s.2.2.2.2.2.1 s.2.2.2.2.2.2 h := by
  unfold J11_0
  rw [runL_eq]
  refine congrArg (Option.bind _) (funext fun x => ?_)
  rcases x with ⟨s, h⟩ | ⟨e, s, h⟩ <;> rfl
theorem J11_0_cut (rc : Rec) (md : Md) (h0 : Heap) : cut Try.prog cfg rc md 87 (bodyOf Try.prog 11) [1, 1, 1, 1, 1, 1, 0, 1, 0] (retK Try.prog cfg 11 (rsOf Try.prog 11) h0) = fun t h => J11_0 rc md h0 (t 0) (t 4) (t 5) (t 6) (t 32) (t 33) (t 34) h := by
  funext t h
  have e : sub (bodyOf Try.prog 11) [1, 1, 1, 1, 1, 1, 0, 1, 0] = .loop (sub (bodyOf Try.prog 11) [1, 1, 1, 1, 1, 1, 0, 1, 0, 0]) := by kernel_rfl
  unfold cut
  rw [e]
  exact loop_eq (by kernel_rfl) (fun t => (t 0, t 4, t 5, t 6, t 32, t 33, t 34)) (fun x : (Value × Value × Value × Value × Value × Value × Value) × Heap => Jr11_0 rc md x.1.1 x.1.2.1 x.1.2.2.1 x.1.2.2.2.1 x.1.2.2.2.2.1 x.1.2.2.2.2.2.1 x.1.2.2.2.2.2.2 x.2) (fun t h => Jr11_0_at rc md t h) (fun e (s : Value × Value × Value × Value × Value × Value × Value) h => Jk11_0 rc md h0 e s.1 s.2.1 s.2.2.1 s.2.2.2.1 s.2.2.2.2.1 s.2.2.2.2.2.1 s.2.2.2.2.2.2 h) (fun e t h => Jk11_0_at rc md h0 e t h) t h
noncomputable def F11 (rc : Rec) (md : Md) (a0 : Value) (a1 : Value) (h0 : Heap) : Option (Value × Heap) :=
  lenS a0 fun v1 =>
  cIn .i64 v1 fun n2 =>
  (bif wantV (.bool (decide (n2 > 60))) false then
  some (a1, h0)
  else some (undef, h0)).bind fun p3 =>
  (bif wantV (.bool (decide (n2 > 60))) false then
  lenS p3.1 fun v4 =>
  cIn .i64 v4 fun n5 =>
  some ((.int .i64 n5), p3.2)
  else some (undef, p3.2)).bind fun p6 =>
  (bif wantV (.bool (decide (n2 > 60))) false then
  aBin Try.prog .gtr 3 p6.1 (.int .i64 80) fun v7 =>
  some (v7, p6.2)
  else some (undef, p6.2)).bind fun p8 =>
  cBn (bif (decide (n2 > 60)) then (.bool true) else p8.1) fun b9 =>
  bif b9 then
    cl (rc md 56 [] p8.2) fun v10 h11 =>
    cBn v10 fun b12 =>
    some ((.bool b12), List.take h0.length h11)
  else
    cl (rc md 57 [a0] p8.2) fun v13 h14 =>
    aBin Try.prog .eql 26 v13 (.pointer none) fun v15 =>
    cBn v15 fun b16 =>
    bif b16 then
      some ((.bool false), List.take h0.length h14)
    else
      cl (rc md 58 [v13] h14) fun v17 h18 =>
      aBin Try.prog .eql 106 v17 (.pointer none) fun v19 =>
      cBn v19 fun b20 =>
      bif b20 then
        some ((.bool false), List.take h0.length h18)
      else
        lenS a1 fun v21 =>
        cIn .i64 v21 fun n22 =>
        J11_0 rc md h0 a0 (.bool false) v13 v17 a1 (.int .i64 n22) (.int .i64 0) h18
noncomputable def F11H (rc : Rec) (md : Md) (X0 : T → Heap → Option (Value × Heap)) (a0 : Value) (a1 : Value) (h0 : Heap) : Option (Value × Heap) :=
  lenS a0 fun v1 =>
  cIn .i64 v1 fun n2 =>
  (bif wantV (.bool (decide (n2 > 60))) false then
  some (a1, h0)
  else some (undef, h0)).bind fun p3 =>
  (bif wantV (.bool (decide (n2 > 60))) false then
  lenS p3.1 fun v4 =>
  cIn .i64 v4 fun n5 =>
  some ((.int .i64 n5), p3.2)
  else some (undef, p3.2)).bind fun p6 =>
  (bif wantV (.bool (decide (n2 > 60))) false then
  aBin Try.prog .gtr 3 p6.1 (.int .i64 80) fun v7 =>
  some (v7, p6.2)
  else some (undef, p6.2)).bind fun p8 =>
  cBn (bif (decide (n2 > 60)) then (.bool true) else p8.1) fun b9 =>
  bif b9 then
    cl (rc md 56 [] p8.2) fun v10 h11 =>
    cBn v10 fun b12 =>
    some ((.bool b12), List.take h0.length h11)
  else
    cl (rc md 57 [a0] p8.2) fun v13 h14 =>
    aBin Try.prog .eql 26 v13 (.pointer none) fun v15 =>
    cBn v15 fun b16 =>
    bif b16 then
      some ((.bool false), List.take h0.length h14)
    else
      cl (rc md 58 [v13] h14) fun v17 h18 =>
      aBin Try.prog .eql 106 v17 (.pointer none) fun v19 =>
      cBn v19 fun b20 =>
      bif b20 then
        some ((.bool false), List.take h0.length h18)
      else
        lenS a1 fun v21 =>
        cIn .i64 v21 fun n22 =>
        X0 (upd (upd (upd (upd (upd (upd (upd (upd (upd (upd (upd (upd (upd (upd (upd (upd (upd (upd (upd (upd (upd (upd (args0 [a0, a1]) 4 (.bool false)) 15 a0) 16 (.int .i64 n2)) 17 (.bool (decide (n2 > 60)))) 18 (.bool (decide (n2 > 60)))) 19 p3.1) 20 p6.1) 21 p8.1) 22 (.bool b9)) 24 a0) 25 v13) 5 v13) 26 v13) 27 v15) 28 v13) 29 v17) 6 v17) 30 v17) 31 v19) 32 a1) 33 (.int .i64 n22)) 34 (.int .i64 0)) h18
theorem F11_h0 (rc : Rec) (md : Md) (a0 : Value) (a1 : Value) (h0 : Heap) : callStep0 Try.prog cfg rc md 11 [a0, a1] h0 = exec Try.prog cfg rc ⟨md.ro, h0.length⟩ 87 (bodyOf Try.prog 11) (retK Try.prog cfg 11 (rsOf Try.prog 11) h0) (args0 [a0, a1]) h0 := callStep0_run (by kernel_rfl) (by kernel_rfl) (by kernel_rfl)
theorem F11_h1 (rc : Rec) (md : Md) (X : Nat → T → Heap → Option (Value × Heap)) (a0 : Value) (a1 : Value) (h0 : Heap) : execG Try.prog cfg X rc md 87 (replS (bodyOf Try.prog 11) [([1, 1, 1, 1, 1, 1, 0, 1, 0], 0), ([1, 1, 1, 1, 1, 1, 1, 1, 1, 0, 1, 0], 1), ([1, 1, 1, 1, 1, 1, 1], 2)]) (retK Try.prog cfg 11 (rsOf Try.prog 11) h0) (args0 [a0, a1]) h0 = F11H rc md (X 0) a0 a1 h0 := by kernel_rfl
theorem F11_h2 (rc : Rec) (md : Md) (a0 : Value) (a1 : Value) (h0 : Heap) : F11H rc md (fun t h => J11_0 rc md h0 (t 0) (t 4) (t 5) (t 6) (t 32) (t 33) (t 34) h) a0 a1 h0 = F11 rc md a0 a1 h0 := by unfold F11H F11; kernel_rfl
theorem F11_eq0 (rc : Rec) (md : Md) (a0 : Value) (a1 : Value) (h0 : Heap) : callStep0 Try.prog cfg rc md 11 [a0, a1] h0 = F11 rc ⟨md.ro, h0.length⟩ a0 a1 h0 := by
  rw [F11_h0, exec_holes [([1, 1, 1, 1, 1, 1, 0, 1, 0], 0), ([1, 1, 1, 1, 1, 1, 1, 1, 1, 0, 1, 0], 1), ([1, 1, 1, 1, 1, 1, 1], 2)] (by kernel_rfl), F11_h1, show (goX Try.prog cfg rc ⟨md.ro, h0.length⟩ 87 (bodyOf Try.prog 11) [([1, 1, 1, 1, 1, 1, 0, 1, 0], 0), ([1, 1, 1, 1, 1, 1, 1, 1, 1, 0, 1, 0], 1), ([1, 1, 1, 1, 1, 1, 1], 2)] (retK Try.prog cfg 11 (rsOf Try.prog 11) h0)) 0 = _ from J11_0_cut rc ⟨md.ro, h0.length⟩ h0]
  exact F11_h2 rc _ a0 a1 h0
theorem F11_eq (rc : Rec) (md : Md) (a0 : Value) (a1 : Value) (h0 : Heap) : callStep Try.prog cfg rc md 11 [a0, a1] h0 = F11 rc ⟨md.ro, h0.length⟩ a0 a1 h0 := (callStep_ne (by kernel_rfl)).trans (F11_eq0 rc md a0 a1 h0)

/-- tombolo/tombololaw06.MemStops -/
noncomputable def Jk12_2 (rc : Rec) (md : Md) (h0 : Heap) (e : Exit) (s4 : Value) (s5 : Value) (s6 : Value) (s98 : Value) (s99 : Value) (h : Heap) : Option (Value × Heap) :=
  match e with
  | .normal =>
    cl (rc md 56 [] h) fun v1 h2 =>
    cBn v1 fun b3 =>
    some ((.bool b3), List.take h0.length h2)
  | .exit j =>
    bif Nat.beq j 2 then
      cl (rc md 56 [] h) fun v4 h5 =>
      cBn v4 fun b6 =>
      some ((.bool b6), List.take h0.length h5)
    else
      none
  | .ret =>
    fin1 h0 s4 h
  | .goto l => none
  | .panic ps => none
  | .outgrown => none
theorem Jk12_2_at (rc : Rec) (md : Md) (h0 : Heap) (e : Exit) (t : T) (h : Heap) : kAt Try.prog cfg rc md 113 (bodyOf Try.prog 12) [1, 1, 1, 1, 1, 1, 1, 1, 1, 0, 1, 0] (retK Try.prog cfg 12 (rsOf Try.prog 12) h0) e t h = Jk12_2 rc md h0 e (t 4) (t 5) (t 6) (t 98) (t 99) h := by cases e <;> kernel_rfl
/-- a round -/
noncomputable def Jr12_2 (rc : Rec) (md : Md) (s4 : Value) (s5 : Value) (s6 : Value) (s98 : Value) (s99 : Value) (h : Heap) : Option (((Value × Value × Value × Value × Value) × Heap) ⊕ (Exit × (Value × Value × Value × Value × Value) × Heap)) :=
  aBin Try.prog .lss 3 s99 s98 fun v1 =>
  cBn v1 fun b2 =>
  bif b2 then
    cl (rc md 19 [s5] h) fun v3 h4 =>
    cl (rc md 63 [v3, s99] h4) fun v5 h6 =>
    cIn .u64 v5 fun n7 =>
    ixSV 1 s6 s99 fun v8 =>
    ld1 v8 h6 fun v9 =>
    cIn .u64 v9 fun n10 =>
    cLE true (fun hq => ld1 v8 hq some) (.int .u64 n10) h4 h6 <|
    bif (n7 != n10) then
      some (.inr (.ret, ((.bool false), s5, s6, s98, s99), h6))
    else
      aBin Try.prog .add 3 s99 (.int .i64 1) fun v11 =>
      some (.inl ((s4, s5, s6, s98, v11), h6))
  else
    some (.inr ((.exit 2), (s4, s5, s6, s98, s99), h))
theorem Jr12_2_at (rc : Rec) (md : Md) (t : T) (h : Heap) : exec Try.prog cfg rc md 113 (sub (bodyOf Try.prog 12) [1, 1, 1, 1, 1, 1, 1, 1, 1, 0, 1, 0, 0]) (rndK (fun t => (t 4, t 5, t 6, t 98, t 99))) t h = Jr12_2 rc md (t 4) (t 5) (t 6) (t 98) (t 99) h := by kernel_rfl
noncomputable def J12_2 (rc : Rec) (md : Md) (h0 : Heap) (s4 : Value) (s5 : Value) (s6 : Value) (s98 : Value) (s99 : Value) (h : Heap) : Option (Value × Heap) :=
  runL (fun x : (Value × Value × Value × Value × Value) × Heap => Jr12_2 rc md x.1.1 x.1.2.1 x.1.2.2.1 x.1.2.2.2.1 x.1.2.2.2.2 x.2) (fun e (s : Value × Value × Value × Value × Value) h => Jk12_2 rc md h0 e s.1 s.2.1 s.2.2.1 s.2.2.2.1 s.2.2.2.2 h) (s4, s5, s6, s98, s99) h
theorem J12_2_step (rc : Rec) (md : Md) (h0 : Heap) (s4 : Value) (s5 : Value) (s6 : Value) (s98 : Value) (s99 : Value) (h : Heap) : J12_2 rc md h0 s4 s5 s6 s98 s99 h = (Jr12_2 rc md s4 s5 s6 s98 s99 h).bind fun x => match x with
    | .inl (s, h) => J12_2 rc md h0 s.1 s.2.1 s.2.2.1 s.2.2.2.1 s.2.2.2.2 h
    | .inr (e, s, h) => Jk12_2 rc md h0 e s.1 s.2.1 s.2.2.1 s.2.2.2.1 s.2.2.2.2 h := by
  unfold J12_2
  rw [runL_eq]
  refine congrArg (Option.bind _) (funext fun x => ?_)
  rcases x with ⟨s, h⟩ | ⟨e, s, h⟩ <;> rfl
theorem J12_2_cut (rc : Rec) (md : Md) (h0 : Heap) : cut Try.prog cfg rc md 113 (bodyOf Try.prog 12) [1, 1, 1, 1, 1, 1, 1, 1, 1, 0, 1, 0] (retK Try.prog cfg 12 (rsOf Try.prog 12) h0) = fun t h => J12_2 rc md h0 (t 4) (t 5) (t 6) (t 98) (t 99) h := by
  funext t h
  have e : sub (bodyOf Try.prog 12) [1, 1, 1, 1, 1, 1, 1, 1, 1, 0, 1, 0] = .loop (sub (bodyOf Try.prog 12) [1, 1, 1, 1, 1, 1, 1, 1, 1, 0, 1, 0, 0]) := by kernel_rfl
  unfold cut
  rw [e]
  exact loop_eq (by kernel_rfl) (fun t => (t 4, t 5, t 6, t 98, t 99)) (fun x : (Value × Value × Value × Value × Value) × Heap => Jr12_2 rc md x.1.1 x.1.2.1 x.1.2.2.1 x.1.2.2.2.1 x.1.2.2.2.2 x.2) (fun t h => Jr12_2_at rc md t h) (fun e (s : Value × Value × Value × Value × Value) h => Jk12_2 rc md h0 e s.1 s.2.1 s.2.2.1 s.2.2.2.1 s.2.2.2.2 h) (fun e t h => Jk12_2_at rc md h0 e t h) t h
noncomputable def J12_1 (rc : Rec) (md : Md) (h0 : Heap) (s1 : Value) (s4 : Value) (s5 : Value) (s6 : Value) (s7 : Value) (h : Heap) : Option (Value × Heap) :=
  cl (rc md 19 [s5] h) fun v1 h2 =>
  cl (rc md 62 [(.iface 31 v1), s1] h2) fun v3 h4 =>
  exT v3 0 fun v5 =>
  cIn .i64 v5 fun n6 =>
  exT v3 1 fun v7 =>
  cBn v7 fun b8 =>
  aBin Try.prog .neq 3 (.int .i64 n6) s7 fun v9 =>
  (bif wantV v9 false then
  some ((.bool b8), h4)
  else some (undef, h4)).bind fun p10 =>
  (bif wantV v9 false then
  some (s7, p10.2)
  else some (undef, p10.2)).bind fun p11 =>
  (bif wantV v9 false then
  some (s1, p11.2)
  else some (undef, p11.2)).bind fun p12 =>
  (bif wantV v9 false then
  lenS p12.1 fun v13 =>
  cIn .i64 v13 fun n14 =>
  some ((.int .i64 n14), p12.2)
  else some (undef, p12.2)).bind fun p15 =>
  (bif wantV v9 false then
  aBin Try.prog .eql 3 p11.1 p15.1 fun v16 =>
  some (v16, p15.2)
  else some (undef, p15.2)).bind fun p17 =>
  (bif wantV v9 false then
  aBin Try.prog .neq 4 p10.1 p17.1 fun v18 =>
  some (v18, p17.2)
  else some (undef, p17.2)).bind fun p19 =>
  cBn v9 fun q20 =>
  cBn (bif q20 then (.bool true) else p19.1) fun b21 =>
  bif b21 then
    some ((.bool false), List.take h0.length p19.2)
  else
    lenS s6 fun v22 =>
    cIn .i64 v22 fun n23 =>
    J12_2 rc md h0 s4 s5 s6 (.int .i64 n23) (.int .i64 0) p19.2
noncomputable def J12_1H (rc : Rec) (md : Md) (h0 : Heap) (X1 : T → Heap → Option (Value × Heap)) (t : T) (h : Heap) : Option (Value × Heap) :=
  cl (rc md 19 [(t 5)] h) fun v1 h2 =>
  cl (rc md 62 [(.iface 31 v1), (t 1)] h2) fun v3 h4 =>
  exT v3 0 fun v5 =>
  cIn .i64 v5 fun n6 =>
  exT v3 1 fun v7 =>
  cBn v7 fun b8 =>
  aBin Try.prog .neq 3 (.int .i64 n6) (t 7) fun v9 =>
  (bif wantV v9 false then
  some ((.bool b8), h4)
  else some (undef, h4)).bind fun p10 =>
  (bif wantV v9 false then
  some ((t 7), p10.2)
  else some (undef, p10.2)).bind fun p11 =>
  (bif wantV v9 false then
  some ((t 1), p11.2)
  else some (undef, p11.2)).bind fun p12 =>
  (bif wantV v9 false then
  lenS p12.1 fun v13 =>
  cIn .i64 v13 fun n14 =>
  some ((.int .i64 n14), p12.2)
  else some (undef, p12.2)).bind fun p15 =>
  (bif wantV v9 false then
  aBin Try.prog .eql 3 p11.1 p15.1 fun v16 =>
  some (v16, p15.2)
  else some (undef, p15.2)).bind fun p17 =>
  (bif wantV v9 false then
  aBin Try.prog .neq 4 p10.1 p17.1 fun v18 =>
  some (v18, p17.2)
  else some (undef, p17.2)).bind fun p19 =>
  cBn v9 fun q20 =>
  cBn (bif q20 then (.bool true) else p19.1) fun b21 =>
  bif b21 then
    some ((.bool false), List.take h0.length p19.2)
  else
    lenS (t 6) fun v22 =>
    cIn .i64 v22 fun n23 =>
    X1 (upd (upd (upd (upd (upd (upd (upd (upd (upd (upd (upd (upd (upd (upd (upd (upd (upd (upd (upd (upd (upd (upd (upd (upd t 79 (t 5)) 80 v1) 81 (.iface 31 v1)) 82 (t 1)) 83 v3) 78 v3) 84 (.int .i64 n6)) 85 (.bool b8)) 12 (.int .i64 n6)) 13 (.bool b8)) 86 (.int .i64 n6)) 87 (t 7)) 88 v9) 89 v9) 90 p10.1) 91 p11.1) 92 p12.1) 93 p15.1) 94 p17.1) 95 p19.1) 96 (.bool b21)) 97 (t 6)) 98 (.int .i64 n23)) 99 (.int .i64 0)) p19.2
theorem J12_1_h1 (rc : Rec) (md : Md) (h0 : Heap) (X : Nat → T → Heap → Option (Value × Heap)) (t : T) (h : Heap) : execG Try.prog cfg X rc md 113 (sub (replS (bodyOf Try.prog 12) [([1, 1, 1, 1, 1, 1, 0, 1, 0], 0), ([1, 1, 1, 1, 1, 1, 1, 1, 1, 0, 1, 0], 1)]) [1, 1, 1, 1, 1, 1, 1]) (kAtG Try.prog cfg X rc md 113 (replS (bodyOf Try.prog 12) [([1, 1, 1, 1, 1, 1, 0, 1, 0], 0), ([1, 1, 1, 1, 1, 1, 1, 1, 1, 0, 1, 0], 1)]) [1, 1, 1, 1, 1, 1, 1] (retK Try.prog cfg 12 (rsOf Try.prog 12) h0)) t h = J12_1H rc md h0 (X 1) t h := by kernel_rfl
theorem J12_1_h2 (rc : Rec) (md : Md) (h0 : Heap) (t : T) (h : Heap) : J12_1H rc md h0 (fun t h => J12_2 rc md h0 (t 4) (t 5) (t 6) (t 98) (t 99) h) t h = J12_1 rc md h0 (t 1) (t 4) (t 5) (t 6) (t 7) h := by (unfold J12_1H J12_1; kernel_rfl)
theorem J12_1_at (rc : Rec) (md : Md) (h0 : Heap) (t : T) (h : Heap) : cut Try.prog cfg rc md 113 (bodyOf Try.prog 12) [1, 1, 1, 1, 1, 1, 1] (retK Try.prog cfg 12 (rsOf Try.prog 12) h0) t h = J12_1 rc md h0 (t 1) (t 4) (t 5) (t 6) (t 7) h := by
  rw [cut_holes [([1, 1, 1, 1, 1, 1, 0, 1, 0], 0), ([1, 1, 1, 1, 1, 1, 1, 1, 1, 0, 1, 0], 1)] [1, 1, 1, 1, 1, 1, 1] (by kernel_rfl), J12_1_h1, show (goX Try.prog cfg rc md 113 (bodyOf Try.prog 12) [([1, 1, 1, 1, 1, 1, 0, 1, 0], 0), ([1, 1, 1, 1, 1, 1, 1, 1, 1, 0, 1, 0], 1)] (retK Try.prog cfg 12 (rsOf Try.prog 12) h0)) 1 = _ from J12_2_cut rc md h0]
  exact J12_1_h2 rc md h0 t h
theorem J12_1_cut (rc : Rec) (md : Md) (h0 : Heap) : cut Try.prog cfg rc md 113 (bodyOf Try.prog 12) [1, 1, 1, 1, 1, 1, 1] (retK Try.prog cfg 12 (rsOf Try.prog 12) h0) = fun t h => J12_1 rc md h0 (t 1) (t 4) (t 5) (t 6) (t 7) h := funext fun t => funext fun h => J12_1_at rc md h0 t h
noncomputable def Jk12_0 (rc : Rec) (md : Md) (h0 : Heap) (e : Exit) (s1 : Value) (s4 : Value) (s5 : Value) (s6 : Value) (s7 : Value) (s33 : Value) (s34 : Value) (s35 : Value) (h : Heap) : Option (Value × Heap) :=
  match e with
  | .normal =>
    J12_1 rc md h0 s1 s4 s5 s6 s7 h
  | .exit j =>
    bif Nat.beq j 0 then
      J12_1 rc md h0 s1 s4 s5 s6 s7 h
    else
      none
  | .ret =>
    fin1 h0 s4 h
  | .goto l => none
  | .panic ps => none
  | .outgrown => none
noncomputable def Jk12_0H (rc : Rec) (md : Md) (h0 : Heap) (X2 : T → Heap → Option (Value × Heap)) (e : Exit) (t : T) (h : Heap) : Option (Value × Heap) :=
  match e with
  | .normal =>
    X2 t h
  | .exit j =>
    bif Nat.beq j 0 then
      X2 t h
    else
      none
  | .ret =>
    fin1 h0 (t 4) h
  | .goto l => none
  | .panic ps => none
  | .outgrown => none
theorem Jk12_0_h1 (rc : Rec) (md : Md) (h0 : Heap) (X : Nat → T → Heap → Option (Value × Heap)) (e : Exit) (t : T) (h : Heap) : kAtG Try.prog cfg X rc md 113 (replS (bodyOf Try.prog 12) [([1, 1, 1, 1, 1, 1, 1, 1, 1, 0, 1, 0], 1), ([1, 1, 1, 1, 1, 1, 1], 2)]) [1, 1, 1, 1, 1, 1, 0, 1, 0] (retK Try.prog cfg 12 (rsOf Try.prog 12) h0) e t h = Jk12_0H rc md h0 (X 2) e t h := by cases e <;> kernel_rfl
theorem Jk12_0_h2 (rc : Rec) (md : Md) (h0 : Heap) (e : Exit) (t : T) (h : Heap) : Jk12_0H rc md h0 (fun t h => J12_1 rc md h0 (t 1) (t 4) (t 5) (t 6) (t 7) h) e t h = Jk12_0 rc md h0 e (t 1) (t 4) (t 5) (t 6) (t 7) (t 33) (t 34) (t 35) h := by cases e <;> (unfold Jk12_0H Jk12_0; kernel_rfl)
theorem Jk12_0_at (rc : Rec) (md : Md) (h0 : Heap) (e : Exit) (t : T) (h : Heap) : kAt Try.prog cfg rc md 113 (bodyOf Try.prog 12) [1, 1, 1, 1, 1, 1, 0, 1, 0] (retK Try.prog cfg 12 (rsOf Try.prog 12) h0) e t h = Jk12_0 rc md h0 e (t 1) (t 4) (t 5) (t 6) (t 7) (t 33) (t 34) (t 35) h := by
  rw [kAt_holes [([1, 1, 1, 1, 1, 1, 1, 1, 1, 0, 1, 0], 1), ([1, 1, 1, 1, 1, 1, 1], 2)] [1, 1, 1, 1, 1, 1, 0, 1, 0] (by kernel_rfl), Jk12_0_h1, show (goX Try.prog cfg rc md 113 (bodyOf Try.prog 12) [([1, 1, 1, 1, 1, 1, 1, 1, 1, 0, 1, 0], 1), ([1, 1, 1, 1, 1, 1, 1], 2)] (retK Try.prog cfg 12 (rsOf Try.prog 12) h0)) 2 = _ from J12_1_cut rc md h0]
  exact Jk12_0_h2 rc md h0 e t h
noncomputable def J12_0b0 (rc : Rec) (md : Md) (s1 : Value) (s4 : Value) (s5 : Value) (s6 : Value) (s7 : Value) (s8 : Value) (s9 : Value) (s10 : Value) (s11 : Value) (s33 : Value) (s34 : Value) (s35 : Value) (h : Heap) : Option (((Value × Value × Value × Value × Value × Value × Value × Value) × Heap) ⊕ (Exit × (Value × Value × Value × Value × Value × Value × Value × Value) × Heap)) :=
  fA 0 s9 fun v1 =>
  ld1 v1 h fun v2 =>
  cBn v2 fun b3 =>
  (bif wantV (.bool (!b3)) true then
  some (s11, h)
  else some (undef, h)).bind fun p4 =>
  (bif wantV (.bool (!b3)) true then
  fA 2 s9 fun v5 =>
  some (v5, p4.2)
  else some (undef, p4.2)).bind fun p6 =>
  (bif wantV (.bool (!b3)) true then
  ld1 p6.1 p6.2 fun v7 =>
  cIn .u64 v7 fun n8 =>
  some ((.int .u64 n8), p6.2)
  else some (undef, p6.2)).bind fun p9 =>
  (bif wantV (.bool (!b3)) true then
  aBin Try.prog .neq 64 p4.1 p9.1 fun v10 =>
  some (v10, p9.2)
  else some (undef, p9.2)).bind fun p11 =>
  cBn (bif !b3 then p11.1 else (.bool false)) fun b12 =>
  bif b12 then
    some (.inr ((.exit 0), (s1, s4, s5, s6, s8, s33, s34, s35), p11.2))
  else
    fA 0 s9 fun v13 =>
    ld1 v13 p11.2 fun v14 =>
    cBn v14 fun b15 =>
    (bif wantV (.bool b15) true then
    some (s10, p11.2)
    else some (undef, p11.2)).bind fun p16 =>
    cBn (bif b15 then p16.1 else (.bool false)) fun b17 =>
    bif b17 then
      fA 1 s9 fun v18 =>
      ld1 v18 p16.2 fun v19 =>
      cIn .i64 v19 fun n20 =>
      fA 2 s9 fun v21 =>
      ld1 v21 p16.2 fun v22 =>
      cIn .u64 v22 fun n23 =>
      ixS 1 s6 n20 fun v24 =>
      st md 1 v24 (.int .u64 n23) p16.2 fun h25 =>
      aBin Try.prog .add 3 s35 (.int .i64 1) fun v26 =>
      some (.inl ((s1, s4, s5, s6, s7, s33, s34, v26), h25))
    else
      aBin Try.prog .add 3 s35 (.int .i64 1) fun v27 =>
      some (.inl ((s1, s4, s5, s6, s7, s33, s34, v27), p16.2))
theorem J12_0b0_at (rc : Rec) (md : Md) (t : T) (h : Heap) : cut Try.prog cfg rc md 113 (sub (bodyOf Try.prog 12) [1, 1, 1, 1, 1, 1, 0, 1, 0, 0]) [1, 1, 0, 0, 1, 1, 1, 1] (rndK (fun t => (t 1, t 4, t 5, t 6, t 7, t 33, t 34, t 35))) t h = J12_0b0 rc md (t 1) (t 4) (t 5) (t 6) (t 7) (t 8) (t 9) (t 10) (t 11) (t 33) (t 34) (t 35) h := by kernel_rfl
theorem J12_0b0_cut (rc : Rec) (md : Md) : cut Try.prog cfg rc md 113 (sub (bodyOf Try.prog 12) [1, 1, 1, 1, 1, 1, 0, 1, 0, 0]) [1, 1, 0, 0, 1, 1, 1, 1] (rndK (fun t => (t 1, t 4, t 5, t 6, t 7, t 33, t 34, t 35))) = fun t h => J12_0b0 rc md (t 1) (t 4) (t 5) (t 6) (t 7) (t 8) (t 9) (t 10) (t 11) (t 33) (t 34) (t 35) h := funext fun t => funext fun h => J12_0b0_at rc md t h
/-- a round -/
noncomputable def Jr12_0 (rc : Rec) (md : Md) (s1 : Value) (s4 : Value) (s5 : Value) (s6 : Value) (s7 : Value) (s33 : Value) (s34 : Value) (s35 : Value) (h : Heap) : Option (((Value × Value × Value × Value × Value × Value × Value × Value) × Heap) ⊕ (Exit × (Value × Value × Value × Value × Value × Value × Value × Value) × Heap)) :=
  aBin Try.prog .lss 3 s35 s34 fun v1 =>
  cBn v1 fun b2 =>
  bif b2 then
    ixSV 3 s33 s35 fun v3 =>
    ldN 3 v3 h fun v4 =>
    let h5 : Heap := h ++ [.own [(.bool false), (.int .i64 0), (.int .u64 0)]]
    st md 3 (.pointer (some ⟨h.length, 0, none⟩)) v4 h5 fun h6 =>
    ld1 (.pointer (some ⟨h.length, 1, none⟩)) h6 fun v7 =>
    cIn .i64 v7 fun n8 =>
    (bif wantV (.bool (decide (n8 ≥ 0))) true then
    some ((.pointer (some ⟨h.length, 1, none⟩)), h6)
    else some (undef, h6)).bind fun p9 =>
    (bif wantV (.bool (decide (n8 ≥ 0))) true then
    ld1 p9.1 p9.2 fun v10 =>
    cIn .i64 v10 fun n11 =>
    some ((.int .i64 n11), p9.2)
    else some (undef, p9.2)).bind fun p12 =>
    (bif wantV (.bool (decide (n8 ≥ 0))) true then
    some (s6, p12.2)
    else some (undef, p12.2)).bind fun p13 =>
    (bif wantV (.bool (decide (n8 ≥ 0))) true then
    lenS p13.1 fun v14 =>
    cIn .i64 v14 fun n15 =>
    some ((.int .i64 n15), p13.2)
    else some (undef, p13.2)).bind fun p16 =>
    (bif wantV (.bool (decide (n8 ≥ 0))) true then
    aBin Try.prog .lss 3 p12.1 p16.1 fun v17 =>
    some (v17, p16.2)
    else some (undef, p16.2)).bind fun p18 =>
    cBn (bif (decide (n8 ≥ 0)) then p18.1 else (.bool false)) fun b19 =>
    bif b19 then
      ld1 (.pointer (some ⟨h.length, 1, none⟩)) p18.2 fun v20 =>
      cIn .i64 v20 fun n21 =>
      ixS 1 s6 n21 fun v22 =>
      ld1 v22 p18.2 fun v23 =>
      cIn .u64 v23 fun n24 =>
      J12_0b0 rc md s1 s4 s5 s6 s7 s35 (.pointer (some ⟨h.length, 0, none⟩)) (.bool b19) (.int .u64 n24) s33 s34 s35 p18.2
    else
      J12_0b0 rc md s1 s4 s5 s6 s7 s35 (.pointer (some ⟨h.length, 0, none⟩)) (.bool b19) (.int .u64 0) s33 s34 s35 p18.2
  else
    some (.inr ((.exit 0), (s1, s4, s5, s6, s7, s33, s34, s35), h))
noncomputable def Jr12_0H (rc : Rec) (md : Md) (X0 : T → Heap → Option (((Value × Value × Value × Value × Value × Value × Value × Value) × Heap) ⊕ (Exit × (Value × Value × Value × Value × Value × Value × Value × Value) × Heap))) (t : T) (h : Heap) : Option (((Value × Value × Value × Value × Value × Value × Value × Value) × Heap) ⊕ (Exit × (Value × Value × Value × Value × Value × Value × Value × Value) × Heap)) :=
  aBin Try.prog .lss 3 (t 35) (t 34) fun v1 =>
  cBn v1 fun b2 =>
  bif b2 then
    ixSV 3 (t 33) (t 35) fun v3 =>
    ldN 3 v3 h fun v4 =>
    let h5 : Heap := h ++ [.own [(.bool false), (.int .i64 0), (.int .u64 0)]]
    st md 3 (.pointer (some ⟨h.length, 0, none⟩)) v4 h5 fun h6 =>
    ld1 (.pointer (some ⟨h.length, 1, none⟩)) h6 fun v7 =>
    cIn .i64 v7 fun n8 =>
    (bif wantV (.bool (decide (n8 ≥ 0))) true then
    some ((.pointer (some ⟨h.length, 1, none⟩)), h6)
    else some (undef, h6)).bind fun p9 =>
    (bif wantV (.bool (decide (n8 ≥ 0))) true then
    ld1 p9.1 p9.2 fun v10 =>
    cIn .i64 v10 fun n11 =>
    some ((.int .i64 n11), p9.2)
    else some (undef, p9.2)).bind fun p12 =>
    (bif wantV (.bool (decide (n8 ≥ 0))) true then
    some ((t 6), p12.2)
    else some (undef, p12.2)).bind fun p13 =>
    (bif wantV (.bool (decide (n8 ≥ 0))) true then
    lenS p13.1 fun v14 =>
    cIn .i64 v14 fun n15 =>
    some ((.int .i64 n15), p13.2)
    else some (undef, p13.2)).bind fun p16 =>
    (bif wantV (.bool (decide (n8 ≥ 0))) true then
    aBin Try.prog .lss 3 p12.1 p16.1 fun v17 =>
    some (v17, p16.2)
    else some (undef, p16.2)).bind fun p18 =>
    cBn (bif (decide (n8 ≥ 0)) then p18.1 else (.bool false)) fun b19 =>
    bif b19 then
      ld1 (.pointer (some ⟨h.length, 1, none⟩)) p18.2 fun v20 =>
      cIn .i64 v20 fun n21 =>
      ixS 1 (t 6) n21 fun v22 =>
      ld1 v22 p18.2 fun v23 =>
      cIn .u64 v23 fun n24 =>
      X0 (upd (upd (upd (upd (upd (upd (upd (upd (upd (upd (upd (upd (upd (upd (upd (upd (upd (upd (upd (upd (upd (upd (upd (upd (upd t 36 v1) 37 (t 35)) 38 v3) 39 v4) 9 (.pointer (some ⟨h.length, 0, none⟩))) 8 (t 35)) 40 (.pointer (some ⟨h.length, 1, none⟩))) 41 (.int .i64 n8)) 42 (.bool (decide (n8 ≥ 0)))) 43 (.bool (decide (n8 ≥ 0)))) 44 p9.1) 45 p12.1) 46 p13.1) 47 p16.1) 48 p18.1) 49 (.bool b19)) 10 (.bool b19)) 11 (.int .u64 0)) 50 (.bool b19)) 51 (t 6)) 52 (.pointer (some ⟨h.length, 1, none⟩))) 53 (.int .i64 n21)) 54 v22) 55 (.int .u64 n24)) 11 (.int .u64 n24)) p18.2
    else
      X0 (upd (upd (upd (upd (upd (upd (upd (upd (upd (upd (upd (upd (upd (upd (upd (upd (upd (upd (upd t 36 v1) 37 (t 35)) 38 v3) 39 v4) 9 (.pointer (some ⟨h.length, 0, none⟩))) 8 (t 35)) 40 (.pointer (some ⟨h.length, 1, none⟩))) 41 (.int .i64 n8)) 42 (.bool (decide (n8 ≥ 0)))) 43 (.bool (decide (n8 ≥ 0)))) 44 p9.1) 45 p12.1) 46 p13.1) 47 p16.1) 48 p18.1) 49 (.bool b19)) 10 (.bool b19)) 11 (.int .u64 0)) 50 (.bool b19)) p18.2
  else
    some (.inr ((.exit 0), ((t 1), (t 4), (t 5), (t 6), (t 7), (t 33), (t 34), (t 35)), h))
theorem Jr12_0_h1 (rc : Rec) (md : Md) (X : Nat → T → Heap → Option (((Value × Value × Value × Value × Value × Value × Value × Value) × Heap) ⊕ (Exit × (Value × Value × Value × Value × Value × Value × Value × Value) × Heap))) (t : T) (h : Heap) : execG Try.prog cfg X rc md 113 (replS (sub (bodyOf Try.prog 12) [1, 1, 1, 1, 1, 1, 0, 1, 0, 0]) [([1, 1, 0, 0, 1, 1, 1, 1], 0)]) (rndK (fun t => (t 1, t 4, t 5, t 6, t 7, t 33, t 34, t 35))) t h = Jr12_0H rc md (X 0) t h := by kernel_rfl
theorem Jr12_0_h2 (rc : Rec) (md : Md) (t : T) (h : Heap) : Jr12_0H rc md (fun t h => J12_0b0 rc md (t 1) (t 4) (t 5) (t 6) (t 7) (t 8) (t 9) (t 10) (t 11) (t 33) (t 34) (t 35) h) t h = Jr12_0 rc md (t 1) (t 4) (t 5) (t 6) (t 7) (t 33) (t 34) (t 35) h := by unfold Jr12_0H Jr12_0; kernel_rfl
theorem Jr12_0_at (rc : Rec) (md : Md) (t : T) (h : Heap) : exec Try.prog cfg rc md 113 (sub (bodyOf Try.prog 12) [1, 1, 1, 1, 1, 1, 0, 1, 0, 0]) (rndK (fun t => (t 1, t 4, t 5, t 6, t 7, t 33, t 34, t 35))) t h = Jr12_0 rc md (t 1) (t 4) (t 5) (t 6) (t 7) (t 33) (t 34) (t 35) h := by
  rw [exec_holes [([1, 1, 0, 0, 1, 1, 1, 1], 0)] (by kernel_rfl), Jr12_0_h1, show (goX Try.prog cfg rc md 113 (sub (bodyOf Try.prog 12) [1, 1, 1, 1, 1, 1, 0, 1, 0, 0]) [([1, 1, 0, 0, 1, 1, 1, 1], 0)] (rndK (fun t => (t 1, t 4, t 5, t 6, t 7, t 33, t 34, t 35)))) 0 = _ from J12_0b0_cut rc md]
  exact Jr12_0_h2 rc md t h
noncomputable def J12_0 (rc : Rec) (md : Md) (h0 : Heap) (s1 : Value) (s4 : Value) (s5 : Value) (s6 : Value) (s7 : Value) (s33 : Value) (s34 : Value) (s35 : Value) (h : Heap) : Option (Value × Heap) :=
  runL (fun x : (Value × Value × Value × Value × Value × Value × Value × Value) × Heap => Jr12_0 rc md x.1.1 x.1.2.1 x.1.2.2.1 x.1.2.2.2.1 x.1.2.2.2.2.1 x.1.2.2.2.2.2.1 x.1.2.2.2.2.2.2.1 x.1.2.2.2.2.2.2.2 x.2) (fun e (s : Value × Value × Value × Value × Value × Value × Value × Value) h => Jk12_0 rc md h0 e s.1 s.2.1 s.2.2.1 s.2.2.2.1 s.2.2.2.2.1 s.2.2.2.2.2.1 s.2.2.2.2.2.2.1 s.2.2.2.2.2.2.2 h) (s1, s4, s5, s6, s7, s33, s34, s35) h
theorem J12_0_step (rc : Rec) (md : Md) (h0 : Heap) (s1 : Value) (s4 : Value) (s5 : Value) (s6 : Value) (s7 : Value) (s33 : Value) (s34 : Value) (s35 : Value) (h : Heap) : J12_0 rc md h0 s1 s4 s5 s6 s7 s33 s34 s35 h = (Jr12_0 rc md s1 s4 s5 s6 s7 s33 s34 s35 h).bind fun x => match x with
    | .inl (s, h) => J12_0 rc md h0 s.1 s.2.1 s.2.2.1 s.2.2.2.1 s.2.2.2.2.1 s.2.2.2.2.2.1 s.2.2.2.2.2.2.1 s.2.2.2.2.2.2.2 h
    | .inr (e, s, h) => Jk12_0 rc md h0 e s.1 s.2.1 s.2.2.1 s.2.2.2.1 s.2.2.2.2.1 s.2.2.2.2.2.1 s.2.2.2.2.2.2.1 s.2.2.2.2.2.2.2 h := by
  unfold J12_0
  rw [runL_eq]
  refine congrArg (Option.bind _) (funext fun x => ?_)
  rcases x with ⟨s, h⟩ | ⟨e, s, h⟩ <;> rfl
theorem J12_0_cut (rc : Rec) (md : Md) (h0 : Heap) : cut Try.prog cfg rc md 113 (bodyOf Try.prog 12) [1, 1, 1, 1, 1, 1, 0, 1, 0] (retK Try.prog cfg 12 (rsOf Try.prog 12) h0) = fun t h => J12_0 rc md h0 (t 1) (t 4) (t 5) (t 6) (t 7) (t 33) (t 34) (t 35) h := by
  funext t h
  have e : sub (bodyOf Try.prog 12) [1, 1, 1, 1, 1, 1, 0, 1, 0] = .loop (sub (bodyOf Try.prog 12) [1, 1, 1, 1, 1, 1, 0, 1, 0, 0]) := by kernel_rfl
  unfold cut
  rw [e]
  exact loop_eq (by kernel_rfl) (fun t => (t 1, t 4, t 5, t 6, t 7, t 33, t 34, t 35)) (fun x : (Value × Value × Value × Value × Value × Value × Value × Value) × Heap => Jr12_0 rc md x.1.1 x.1.2.1 x.1.2.2.1 x.1.2.2.2.1 x.1.2.2.2.2.1 x.1.2.2.2.2.2.1 x.1.2.2.2.2.2.2.1 x.1.2.2.2.2.2.2.2 x.2) (fun t h => Jr12_0_at rc md t h) (fun e (s : Value × Value × Value × Value × Value × Value × Value × Value) h => Jk12_0 rc md h0 e s.1 s.2.1 s.2.2.1 s.2.2.2.1 s.2.2.2.2.1 s.2.2.2.2.2.1 s.2.2.2.2.2.2.1 s.2.2.2.2.2.2.2 h) (fun e t h => Jk12_0_at rc md h0 e t h) t h
noncomputable def F12 (rc : Rec) (md : Md) (a0 : Value) (a1 : Value) (h0 : Heap) : Option (Value × Heap) :=
  lenS a0 fun v1 =>
  cIn .i64 v1 fun n2 =>
  (bif wantV (.bool (decide (n2 > 60))) false then
  some (a1, h0)
  else some (undef, h0)).bind fun p3 =>
  (bif wantV (.bool (decide (n2 > 60))) false then
  lenS p3.1 fun v4 =>
  cIn .i64 v4 fun n5 =>
  some ((.int .i64 n5), p3.2)
  else some (undef, p3.2)).bind fun p6 =>
  (bif wantV (.bool (decide (n2 > 60))) false then
  aBin Try.prog .gtr 3 p6.1 (.int .i64 80) fun v7 =>
  some (v7, p6.2)
  else some (undef, p6.2)).bind fun p8 =>
  cBn (bif (decide (n2 > 60)) then (.bool true) else p8.1) fun b9 =>
  bif b9 then
    cl (rc md 56 [] p8.2) fun v10 h11 =>
    cBn v10 fun b12 =>
    some ((.bool b12), List.take h0.length h11)
  else
    cl (rc md 57 [a0] p8.2) fun v13 h14 =>
    aBin Try.prog .eql 26 v13 (.pointer none) fun v15 =>
    cBn v15 fun b16 =>
    bif b16 then
      some ((.bool false), List.take h0.length h14)
    else
      let h17 : Heap := h14 ++ [.own []]
      aBuiltin Try.prog md .append #[103, 103] [(.slice (some ⟨h14.length, 0, none⟩) 0 1), a0] h17 fun v18 h19 =>
      lenS a1 fun v20 =>
      cIn .i64 v20 fun n21 =>
      lenS a1 fun v22 =>
      cIn .i64 v22 fun n23 =>
      J12_0 rc md h0 a1 (.bool false) v13 v18 (.int .i64 n21) a1 (.int .i64 n23) (.int .i64 0) h19
noncomputable def F12H (rc : Rec) (md : Md) (X0 : T → Heap → Option (Value × Heap)) (a0 : Value) (a1 : Value) (h0 : Heap) : Option (Value × Heap) :=
  lenS a0 fun v1 =>
  cIn .i64 v1 fun n2 =>
  (bif wantV (.bool (decide (n2 > 60))) false then
  some (a1, h0)
  else some (undef, h0)).bind fun p3 =>
  (bif wantV (.bool (decide (n2 > 60))) false then
  lenS p3.1 fun v4 =>
  cIn .i64 v4 fun n5 =>
  some ((.int .i64 n5), p3.2)
  else some (undef, p3.2)).bind fun p6 =>
  (bif wantV (.bool (decide (n2 > 60))) false then
  aBin Try.prog .gtr 3 p6.1 (.int .i64 80) fun v7 =>
  some (v7, p6.2)
  else some (undef, p6.2)).bind fun p8 =>
  cBn (bif (decide (n2 > 60)) then (.bool true) else p8.1) fun b9 =>
  bif b9 then
    cl (rc md 56 [] p8.2) fun v10 h11 =>
    cBn v10 fun b12 =>
    some ((.bool b12), List.take h0.length h11)
  else
    cl (rc md 57 [a0] p8.2) fun v13 h14 =>
    aBin Try.prog .eql 26 v13 (.pointer none) fun v15 =>
    cBn v15 fun b16 =>
    bif b16 then
      some ((.bool false), List.take h0.length h14)
    else
      let h17 : Heap := h14 ++ [.own []]
      aBuiltin Try.prog md .append #[103, 103] [(.slice (some ⟨h14.length, 0, none⟩) 0 1), a0] h17 fun v18 h19 =>
      lenS a1 fun v20 =>
      cIn .i64 v20 fun n21 =>
      lenS a1 fun v22 =>
      cIn .i64 v22 fun n23 =>
      X0 (upd (upd (upd (upd (upd (upd (upd (upd (upd (upd (upd (upd (upd (upd (upd (upd (upd (upd (upd (upd (upd (upd (upd (upd (args0 [a0, a1]) 4 (.bool false)) 15 a0) 16 (.int .i64 n2)) 17 (.bool (decide (n2 > 60)))) 18 (.bool (decide (n2 > 60)))) 19 p3.1) 20 p6.1) 21 p8.1) 22 (.bool b9)) 24 a0) 25 v13) 5 v13) 26 v13) 27 v15) 28 (.slice (some ⟨h14.length, 0, none⟩) 0 1)) 29 a0) 30 v18) 6 v18) 31 a1) 32 (.int .i64 n21)) 7 (.int .i64 n21)) 33 a1) 34 (.int .i64 n23)) 35 (.int .i64 0)) h19
theorem F12_h0 (rc : Rec) (md : Md) (a0 : Value) (a1 : Value) (h0 : Heap) : callStep0 Try.prog cfg rc md 12 [a0, a1] h0 = exec Try.prog cfg rc ⟨md.ro, h0.length⟩ 113 (bodyOf Try.prog 12) (retK Try.prog cfg 12 (rsOf Try.prog 12) h0) (args0 [a0, a1]) h0 := callStep0_run (by kernel_rfl) (by kernel_rfl) (by kernel_rfl)
theorem F12_h1 (rc : Rec) (md : Md) (X : Nat → T → Heap → Option (Value × Heap)) (a0 : Value) (a1 : Value) (h0 : Heap) : execG Try.prog cfg X rc md 113 (replS (bodyOf Try.prog 12) [([1, 1, 1, 1, 1, 1, 0, 1, 0], 0), ([1, 1, 1, 1, 1, 1, 1, 1, 1, 0, 1, 0], 1), ([1, 1, 1, 1, 1, 1, 1], 2)]) (retK Try.prog cfg 12 (rsOf Try.prog 12) h0) (args0 [a0, a1]) h0 = F12H rc md (X 0) a0 a1 h0 := by kernel_rfl
theorem F12_h2 (rc : Rec) (md : Md) (a0 : Value) (a1 : Value) (h0 : Heap) : F12H rc md (fun t h => J12_0 rc md h0 (t 1) (t 4) (t 5) (t 6) (t 7) (t 33) (t 34) (t 35) h) a0 a1 h0 = F12 rc md a0 a1 h0 := by unfold F12H F12; kernel_rfl
theorem F12_eq0 (rc : Rec) (md : Md) (a0 : Value) (a1 : Value) (h0 : Heap) : callStep0 Try.prog cfg rc md 12 [a0, a1] h0 = F12 rc ⟨md.ro, h0.length⟩ a0 a1 h0 := by
  rw [F12_h0, exec_holes [([1, 1, 1, 1, 1, 1, 0, 1, 0], 0), ([1, 1, 1, 1, 1, 1, 1, 1, 1, 0, 1, 0], 1), ([1, 1, 1, 1, 1, 1, 1], 2)] (by kernel_rfl), F12_h1, show (goX Try.prog cfg rc ⟨md.ro, h0.length⟩ 113 (bodyOf Try.prog 12) [([1, 1, 1, 1, 1, 1, 0, 1, 0], 0), ([1, 1, 1, 1, 1, 1, 1, 1, 1, 0, 1, 0], 1), ([1, 1, 1, 1, 1, 1, 1], 2)] (retK Try.prog cfg 12 (rsOf Try.prog 12) h0)) 0 = _ from J12_0_cut rc ⟨md.ro, h0.length⟩ h0]
  exact F12_h2 rc _ a0 a1 h0
theorem F12_eq (rc : Rec) (md : Md) (a0 : Value) (a1 : Value) (h0 : Heap) : callStep Try.prog cfg rc md 12 [a0, a1] h0 = F12 rc ⟨md.ro, h0.length⟩ a0 a1 h0 := (callStep_ne (by kernel_rfl)).trans (F12_eq0 rc md a0 a1 h0)

/-- tombolo/tombololaw06.MemApart -/
noncomputable def Jk13_4 (rc : Rec) (md : Md) (h0 : Heap) (e : Exit) (s6 : Value) (s13 : Value) (s14 : Value) (s154 : Value) (s155 : Value) (h : Heap) : Option (Value × Heap) :=
  match e with
  | .normal =>
    cl (rc md 56 [] h) fun v1 h2 =>
    cBn v1 fun b3 =>
    some ((.bool b3), List.take h0.length h2)
  | .exit j =>
    bif Nat.beq j 4 then
      cl (rc md 56 [] h) fun v4 h5 =>
      cBn v4 fun b6 =>
      some ((.bool b6), List.take h0.length h5)
    else
      none
  | .ret =>
    fin1 h0 s6 h
  | .goto l => none
  | .panic ps => none
  | .outgrown => none
theorem Jk13_4_at (rc : Rec) (md : Md) (h0 : Heap) (e : Exit) (t : T) (h : Heap) : kAt Try.prog cfg rc md 169 (bodyOf Try.prog 13) [1, 1, 1, 1, 1, 1, 1, 1, 1, 1, 0, 1, 0] (retK Try.prog cfg 13 (rsOf Try.prog 13) h0) e t h = Jk13_4 rc md h0 e (t 6) (t 13) (t 14) (t 154) (t 155) h := by cases e <;> kernel_rfl
/-- a round -/
noncomputable def Jr13_4 (rc : Rec) (md : Md) (s6 : Value) (s13 : Value) (s14 : Value) (s154 : Value) (s155 : Value) (h : Heap) : Option (((Value × Value × Value × Value × Value) × Heap) ⊕ (Exit × (Value × Value × Value × Value × Value) × Heap)) :=
  aBin Try.prog .lss 3 s155 s154 fun v1 =>
  cBn v1 fun b2 =>
  bif b2 then
    ixSV 3 s13 s155 fun v3 =>
    ldN 3 v3 h fun v4 =>
    ixSV 3 s14 s155 fun v5 =>
    ldN 3 v5 h fun v6 =>
    aBin Try.prog .neq 116 v4 v6 fun v7 =>
    cBn v7 fun b8 =>
    bif b8 then
      some (.inr (.ret, ((.bool false), s13, s14, s154, s155), h))
    else
      aBin Try.prog .add 3 s155 (.int .i64 1) fun v9 =>
      some (.inl ((s6, s13, s14, s154, v9), h))
  else
    some (.inr ((.exit 4), (s6, s13, s14, s154, s155), h))
theorem Jr13_4_at (rc : Rec) (md : Md) (t : T) (h : Heap) : exec Try.prog cfg rc md 169 (sub (bodyOf Try.prog 13) [1, 1, 1, 1, 1, 1, 1, 1, 1, 1, 0, 1, 0, 0]) (rndK (fun t => (t 6, t 13, t 14, t 154, t 155))) t h = Jr13_4 rc md (t 6) (t 13) (t 14) (t 154) (t 155) h := by kernel_rfl
noncomputable def J13_4 (rc : Rec) (md : Md) (h0 : Heap) (s6 : Value) (s13 : Value) (s14 : Value) (s154 : Value) (s155 : Value) (h : Heap) : Option (Value × Heap) :=
  runL (fun x : (Value × Value × Value × Value × Value) × Heap => Jr13_4 rc md x.1.1 x.1.2.1 x.1.2.2.1 x.1.2.2.2.1 x.1.2.2.2.2 x.2) (fun e (s : Value × Value × Value × Value × Value) h => Jk13_4 rc md h0 e s.1 s.2.1 s.2.2.1 s.2.2.2.1 s.2.2.2.2 h) (s6, s13, s14, s154, s155) h
theorem J13_4_step (rc : Rec) (md : Md) (h0 : Heap) (s6 : Value) (s13 : Value) (s14 : Value) (s154 : Value) (s155 : Value) (h : Heap) : J13_4 rc md h0 s6 s13 s14 s154 s155 h = (Jr13_4 rc md s6 s13 s14 s154 s155 h).bind fun x => match x with
    | .inl (s, h) => J13_4 rc md h0 s.1 s.2.1 s.2.2.1 s.2.2.2.1 s.2.2.2.2 h
    | .inr (e, s, h) => Jk13_4 rc md h0 e s.1 s.2.1 s.2.2.1 s.2.2.2.1 s.2.2.2.2 h := by
  unfold J13_4
  rw [runL_eq]
  refine congrArg (Option.bind _) (funext fun x => ?_)
  rcases x with ⟨s, h⟩ | ⟨e, s, h⟩ <;> rfl
theorem J13_4_cut (rc : Rec) (md : Md) (h0 : Heap) : cut Try.prog cfg rc md 169 (bodyOf Try.prog 13) [1, 1, 1, 1, 1, 1, 1, 1, 1, 1, 0, 1, 0] (retK Try.prog cfg 13 (rsOf Try.prog 13) h0) = fun t h => J13_4 rc md h0 (t 6) (t 13) (t 14) (t 154) (t 155) h := by
  funext t h
  have e : sub (bodyOf Try.prog 13) [1, 1, 1, 1, 1, 1, 1, 1, 1, 1, 0, 1, 0] = .loop (sub (bodyOf Try.prog 13) [1, 1, 1, 1, 1, 1, 1, 1, 1, 1, 0, 1, 0, 0]) := by kernel_rfl
  unfold cut
  rw [e]
  exact loop_eq (by kernel_rfl) (fun t => (t 6, t 13, t 14, t 154, t 155)) (fun x : (Value × Value × Value × Value × Value) × Heap => Jr13_4 rc md x.1.1 x.1.2.1 x.1.2.2.1 x.1.2.2.2.1 x.1.2.2.2.2 x.2) (fun t h => Jr13_4_at rc md t h) (fun e (s : Value × Value × Value × Value × Value) h => Jk13_4 rc md h0 e s.1 s.2.1 s.2.2.1 s.2.2.2.1 s.2.2.2.2 h) (fun e t h => Jk13_4_at rc md h0 e t h) t h
noncomputable def J13_3 (rc : Rec) (md : Md) (h0 : Heap) (s6 : Value) (s8 : Value) (s10 : Value) (h : Heap) : Option (Value × Heap) :=
  cl (rc md 61 [s8] h) fun v1 h2 =>
  cl (rc md 61 [s10] h2) fun v3 h4 =>
  lenS v1 fun v5 =>
  cIn .i64 v5 fun n6 =>
  lenS v3 fun v7 =>
  cIn .i64 v7 fun n8 =>
  bif (n6 != n8) then
    some ((.bool false), List.take h0.length h4)
  else
    lenS v1 fun v9 =>
    cIn .i64 v9 fun n10 =>
    J13_4 rc md h0 s6 v1 v3 (.int .i64 n10) (.int .i64 0) h4
noncomputable def J13_3H (rc : Rec) (md : Md) (h0 : Heap) (X2 : T → Heap → Option (Value × Heap)) (t : T) (h : Heap) : Option (Value × Heap) :=
  cl (rc md 61 [(t 8)] h) fun v1 h2 =>
  cl (rc md 61 [(t 10)] h2) fun v3 h4 =>
  lenS v1 fun v5 =>
  cIn .i64 v5 fun n6 =>
  lenS v3 fun v7 =>
  cIn .i64 v7 fun n8 =>
  bif (n6 != n8) then
    some ((.bool false), List.take h0.length h4)
  else
    lenS v1 fun v9 =>
    cIn .i64 v9 fun n10 =>
    X2 (upd (upd (upd (upd (upd (upd (upd (upd (upd (upd (upd (upd (upd (upd t 144 (t 8)) 145 v1) 146 (t 10)) 147 v3) 13 v1) 14 v3) 148 v1) 149 (.int .i64 n6)) 150 v3) 151 (.int .i64 n8)) 152 (.bool (n6 != n8))) 153 v1) 154 (.int .i64 n10)) 155 (.int .i64 0)) h4
theorem J13_3_h1 (rc : Rec) (md : Md) (h0 : Heap) (X : Nat → T → Heap → Option (Value × Heap)) (t : T) (h : Heap) : execG Try.prog cfg X rc md 169 (sub (replS (bodyOf Try.prog 13) [([1, 1, 1, 1, 1, 1, 0, 1, 0], 0), ([1, 1, 1, 1, 1, 1, 1, 0, 1, 0], 1), ([1, 1, 1, 1, 1, 1, 1, 1, 1, 1, 0, 1, 0], 2)]) [1, 1, 1, 1, 1, 1, 1, 1]) (kAtG Try.prog cfg X rc md 169 (replS (bodyOf Try.prog 13) [([1, 1, 1, 1, 1, 1, 0, 1, 0], 0), ([1, 1, 1, 1, 1, 1, 1, 0, 1, 0], 1), ([1, 1, 1, 1, 1, 1, 1, 1, 1, 1, 0, 1, 0], 2)]) [1, 1, 1, 1, 1, 1, 1, 1] (retK Try.prog cfg 13 (rsOf Try.prog 13) h0)) t h = J13_3H rc md h0 (X 2) t h := by kernel_rfl
theorem J13_3_h2 (rc : Rec) (md : Md) (h0 : Heap) (t : T) (h : Heap) : J13_3H rc md h0 (fun t h => J13_4 rc md h0 (t 6) (t 13) (t 14) (t 154) (t 155) h) t h = J13_3 rc md h0 (t 6) (t 8) (t 10) h := by (unfold J13_3H J13_3; kernel_rfl)
theorem J13_3_at (rc : Rec) (md : Md) (h0 : Heap) (t : T) (h : Heap) : cut Try.prog cfg rc md 169 (bodyOf Try.prog 13) [1, 1, 1, 1, 1, 1, 1, 1] (retK Try.prog cfg 13 (rsOf Try.prog 13) h0) t h = J13_3 rc md h0 (t 6) (t 8) (t 10) h := by
  rw [cut_holes [([1, 1, 1, 1, 1, 1, 0, 1, 0], 0), ([1, 1, 1, 1, 1, 1, 1, 0, 1, 0], 1), ([1, 1, 1, 1, 1, 1, 1, 1, 1, 1, 0, 1, 0], 2)] [1, 1, 1, 1, 1, 1, 1, 1] (by kernel_rfl), J13_3_h1, show (goX Try.prog cfg rc md 169 (bodyOf Try.prog 13) [([1, 1, 1, 1, 1, 1, 0, 1, 0], 0), ([1, 1, 1, 1, 1, 1, 1, 0, 1, 0], 1), ([1, 1, 1, 1, 1, 1, 1, 1, 1, 1, 0, 1, 0], 2)] (retK Try.prog cfg 13 (rsOf Try.prog 13) h0)) 2 = _ from J13_4_cut rc md h0]
  exact J13_3_h2 rc md h0 t h
theorem J13_3_cut (rc : Rec) (md : Md) (h0 : Heap) : cut Try.prog cfg rc md 169 (bodyOf Try.prog 13) [1, 1, 1, 1, 1, 1, 1, 1] (retK Try.prog cfg 13 (rsOf Try.prog 13) h0) = fun t h => J13_3 rc md h0 (t 6) (t 8) (t 10) h := funext fun t => funext fun h => J13_3_at rc md h0 t h
noncomputable def Jk13_2 (rc : Rec) (md : Md) (h0 : Heap) (e : Exit) (s1 : Value) (s2 : Value) (s6 : Value) (s8 : Value) (s9 : Value) (s10 : Value) (s63 : Value) (s64 : Value) (h : Heap) : Option (Value × Heap) :=
  match e with
  | .normal =>
    J13_3 rc md h0 s6 s8 s10 h
  | .exit j =>
    bif Nat.beq j 2 then
      J13_3 rc md h0 s6 s8 s10 h
    else
      none
  | .ret =>
    fin1 h0 s6 h
  | .goto l => none
  | .panic ps => none
  | .outgrown => none
noncomputable def Jk13_2H (rc : Rec) (md : Md) (h0 : Heap) (X3 : T → Heap → Option (Value × Heap)) (e : Exit) (t : T) (h : Heap) : Option (Value × Heap) :=
  match e with
  | .normal =>
    X3 t h
  | .exit j =>
    bif Nat.beq j 2 then
      X3 t h
    else
      none
  | .ret =>
    fin1 h0 (t 6) h
  | .goto l => none
  | .panic ps => none
  | .outgrown => none
theorem Jk13_2_h1 (rc : Rec) (md : Md) (h0 : Heap) (X : Nat → T → Heap → Option (Value × Heap)) (e : Exit) (t : T) (h : Heap) : kAtG Try.prog cfg X rc md 169 (replS (bodyOf Try.prog 13) [([1, 1, 1, 1, 1, 1, 0, 1, 0], 0), ([1, 1, 1, 1, 1, 1, 1, 1, 1, 1, 0, 1, 0], 2), ([1, 1, 1, 1, 1, 1, 1, 1], 3)]) [1, 1, 1, 1, 1, 1, 1, 0, 1, 0] (retK Try.prog cfg 13 (rsOf Try.prog 13) h0) e t h = Jk13_2H rc md h0 (X 3) e t h := by cases e <;> kernel_rfl
theorem Jk13_2_h2 (rc : Rec) (md : Md) (h0 : Heap) (e : Exit) (t : T) (h : Heap) : Jk13_2H rc md h0 (fun t h => J13_3 rc md h0 (t 6) (t 8) (t 10) h) e t h = Jk13_2 rc md h0 e (t 1) (t 2) (t 6) (t 8) (t 9) (t 10) (t 63) (t 64) h := by cases e <;> (unfold Jk13_2H Jk13_2; kernel_rfl)
theorem Jk13_2_at (rc : Rec) (md : Md) (h0 : Heap) (e : Exit) (t : T) (h : Heap) : kAt Try.prog cfg rc md 169 (bodyOf Try.prog 13) [1, 1, 1, 1, 1, 1, 1, 0, 1, 0] (retK Try.prog cfg 13 (rsOf Try.prog 13) h0) e t h = Jk13_2 rc md h0 e (t 1) (t 2) (t 6) (t 8) (t 9) (t 10) (t 63) (t 64) h := by
  rw [kAt_holes [([1, 1, 1, 1, 1, 1, 0, 1, 0], 0), ([1, 1, 1, 1, 1, 1, 1, 1, 1, 1, 0, 1, 0], 2), ([1, 1, 1, 1, 1, 1, 1, 1], 3)] [1, 1, 1, 1, 1, 1, 1, 0, 1, 0] (by kernel_rfl), Jk13_2_h1, show (goX Try.prog cfg rc md 169 (bodyOf Try.prog 13) [([1, 1, 1, 1, 1, 1, 0, 1, 0], 0), ([1, 1, 1, 1, 1, 1, 1, 1, 1, 1, 0, 1, 0], 2), ([1, 1, 1, 1, 1, 1, 1, 1], 3)] (retK Try.prog cfg 13 (rsOf Try.prog 13) h0)) 3 = _ from J13_3_cut rc md h0]
  exact Jk13_2_h2 rc md h0 e t h
noncomputable def J13_2b0 (rc : Rec) (md : Md) (s1 : Value) (s2 : Value) (s6 : Value) (s8 : Value) (s9 : Value) (s10 : Value) (s12 : Value) (s63 : Value) (s64 : Value) (h : Heap) : Option (((Value × Value × Value × Value × Value × Value × Value × Value) × Heap) ⊕ (Exit × (Value × Value × Value × Value × Value × Value × Value × Value) × Heap)) :=
  lenS s1 fun v1 =>
  cIn .i64 v1 fun n2 =>
  aBin Try.prog .geq 3 s12 (.int .i64 n2) fun v3 =>
  cBn v3 fun b4 =>
  bif b4 then
    aBin Try.prog .add 3 s64 (.int .i64 1) fun v5 =>
    some (.inl ((s1, s2, s6, s8, s9, s10, s63, v5), h))
  else
    ixSV 3 s1 s12 fun v6 =>
    fA 0 v6 fun v7 =>
    ld1 v7 h fun v8 =>
    cBn v8 fun b9 =>
    bif b9 then
      ixSV 3 s1 s12 fun v10 =>
      fA 1 v10 fun v11 =>
      ld1 v11 h fun v12 =>
      cIn .i64 v12 fun n13 =>
      ixSV 3 s1 s12 fun v14 =>
      fA 2 v14 fun v15 =>
      ld1 v15 h fun v16 =>
      cIn .u64 v16 fun n17 =>
      cl (rc md 59 [s8, (.int .i64 n13), (.int .u64 n17)] h) fun v18 h19 =>
      ixSV 3 s1 s12 fun v20 =>
      fA 1 v20 fun v21 =>
      ld1 v21 h19 fun v22 =>
      cIn .i64 v22 fun n23 =>
      ixSV 3 s1 s12 fun v24 =>
      fA 2 v24 fun v25 =>
      ld1 v25 h19 fun v26 =>
      cIn .u64 v26 fun n27 =>
      cl (rc md 59 [s10, (.int .i64 n23), (.int .u64 n27)] h19) fun v28 h29 =>
      aBin Try.prog .add 3 s64 (.int .i64 1) fun v30 =>
      some (.inl ((s1, s2, s6, s8, s9, s10, s63, v30), h29))
    else
      ixSV 3 s1 s12 fun v31 =>
      fA 1 v31 fun v32 =>
      ld1 v32 h fun v33 =>
      cIn .i64 v33 fun n34 =>
      cl (rc md 60 [s8, (.int .i64 n34)] h) fun v35 h36 =>
      cIn .u64 v35 fun n37 =>
      ixSV 3 s1 s12 fun v38 =>
      fA 1 v38 fun v39 =>
      ld1 v39 h36 fun v40 =>
      cIn .i64 v40 fun n41 =>
      cLE true (fun hq => ld1 v39 hq some) (.int .i64 n41) h h36 <|
      cl (rc md 60 [s10, (.int .i64 n41)] h36) fun v42 h43 =>
      cIn .u64 v42 fun n44 =>
      bif (n37 != n44) then
        some (.inr (.ret, (s1, s2, (.bool false), s8, s9, s10, s63, s64), h43))
      else
        aBin Try.prog .add 3 s64 (.int .i64 1) fun v45 =>
        some (.inl ((s1, s2, s6, s8, s9, s10, s63, v45), h43))
theorem J13_2b0_at (rc : Rec) (md : Md) (t : T) (h : Heap) : cut Try.prog cfg rc md 169 (sub (bodyOf Try.prog 13) [1, 1, 1, 1, 1, 1, 1, 0, 1, 0, 0]) [1, 1, 0, 0, 1, 1] (rndK (fun t => (t 1, t 2, t 6, t 8, t 9, t 10, t 63, t 64))) t h = J13_2b0 rc md (t 1) (t 2) (t 6) (t 8) (t 9) (t 10) (t 12) (t 63) (t 64) h := by kernel_rfl
theorem J13_2b0_cut (rc : Rec) (md : Md) : cut Try.prog cfg rc md 169 (sub (bodyOf Try.prog 13) [1, 1, 1, 1, 1, 1, 1, 0, 1, 0, 0]) [1, 1, 0, 0, 1, 1] (rndK (fun t => (t 1, t 2, t 6, t 8, t 9, t 10, t 63, t 64))) = fun t h => J13_2b0 rc md (t 1) (t 2) (t 6) (t 8) (t 9) (t 10) (t 12) (t 63) (t 64) h := funext fun t => funext fun h => J13_2b0_at rc md t h
/-- a round -/
noncomputable def Jr13_2 (rc : Rec) (md : Md) (s1 : Value) (s2 : Value) (s6 : Value) (s8 : Value) (s9 : Value) (s10 : Value) (s63 : Value) (s64 : Value) (h : Heap) : Option (((Value × Value × Value × Value × Value × Value × Value × Value) × Heap) ⊕ (Exit × (Value × Value × Value × Value × Value × Value × Value × Value) × Heap)) :=
  aBin Try.prog .lss 3 s64 s63 fun v1 =>
  cBn v1 fun b2 =>
  bif b2 then
    lenS s2 fun v3 =>
    cIn .i64 v3 fun n4 =>
    aBin Try.prog .lss 3 s64 (.int .i64 n4) fun v5 =>
    cBn v5 fun b6 =>
    bif b6 then
      ixSV 3 s2 s64 fun v7 =>
      fA 0 v7 fun v8 =>
      ld1 v8 h fun v9 =>
      cBn v9 fun b10 =>
      bif b10 then
        ixSV 3 s2 s64 fun v11 =>
        fA 1 v11 fun v12 =>
        ld1 v12 h fun v13 =>
        cIn .i64 v13 fun n14 =>
        ixSV 3 s2 s64 fun v15 =>
        fA 2 v15 fun v16 =>
        ld1 v16 h fun v17 =>
        cIn .u64 v17 fun n18 =>
        cl (rc md 59 [s9, (.int .i64 n14), (.int .u64 n18)] h) fun v19 h20 =>
        J13_2b0 rc md s1 s2 s6 s8 s9 s10 s64 s63 s64 h20
      else
        ixSV 3 s2 s64 fun v21 =>
        fA 1 v21 fun v22 =>
        ld1 v22 h fun v23 =>
        cIn .i64 v23 fun n24 =>
        cl (rc md 60 [s9, (.int .i64 n24)] h) fun v25 h26 =>
        cIn .u64 v25 fun n27 =>
        J13_2b0 rc md s1 s2 s6 s8 s9 s10 s64 s63 s64 h26
    else
      J13_2b0 rc md s1 s2 s6 s8 s9 s10 s64 s63 s64 h
  else
    some (.inr ((.exit 2), (s1, s2, s6, s8, s9, s10, s63, s64), h))
noncomputable def Jr13_2H (rc : Rec) (md : Md) (X0 : T → Heap → Option (((Value × Value × Value × Value × Value × Value × Value × Value) × Heap) ⊕ (Exit × (Value × Value × Value × Value × Value × Value × Value × Value) × Heap))) (t : T) (h : Heap) : Option (((Value × Value × Value × Value × Value × Value × Value × Value) × Heap) ⊕ (Exit × (Value × Value × Value × Value × Value × Value × Value × Value) × Heap)) :=
  aBin Try.prog .lss 3 (t 64) (t 63) fun v1 =>
  cBn v1 fun b2 =>
  bif b2 then
    lenS (t 2) fun v3 =>
    cIn .i64 v3 fun n4 =>
    aBin Try.prog .lss 3 (t 64) (.int .i64 n4) fun v5 =>
    cBn v5 fun b6 =>
    bif b6 then
      ixSV 3 (t 2) (t 64) fun v7 =>
      fA 0 v7 fun v8 =>
      ld1 v8 h fun v9 =>
      cBn v9 fun b10 =>
      bif b10 then
        ixSV 3 (t 2) (t 64) fun v11 =>
        fA 1 v11 fun v12 =>
        ld1 v12 h fun v13 =>
        cIn .i64 v13 fun n14 =>
        ixSV 3 (t 2) (t 64) fun v15 =>
        fA 2 v15 fun v16 =>
        ld1 v16 h fun v17 =>
        cIn .u64 v17 fun n18 =>
        cl (rc md 59 [(t 9), (.int .i64 n14), (.int .u64 n18)] h) fun v19 h20 =>
        X0 (upd (upd (upd (upd (upd (upd (upd (upd (upd (upd (upd (upd (upd (upd (upd (upd (upd (upd (upd (upd (upd (upd (upd (upd t 65 v1) 66 (t 64)) 12 (t 64)) 67 (t 64)) 68 (t 2)) 69 (.int .i64 n4)) 70 v5) 71 (t 2)) 72 (t 64)) 73 v7) 74 v8) 75 (.bool b10)) 76 (t 9)) 77 (t 2)) 78 (t 64)) 79 v11) 80 v12) 81 (.int .i64 n14)) 82 (t 2)) 83 (t 64)) 84 v15) 85 v16) 86 (.int .u64 n18)) 87 v19) h20
      else
        ixSV 3 (t 2) (t 64) fun v21 =>
        fA 1 v21 fun v22 =>
        ld1 v22 h fun v23 =>
        cIn .i64 v23 fun n24 =>
        cl (rc md 60 [(t 9), (.int .i64 n24)] h) fun v25 h26 =>
        cIn .u64 v25 fun n27 =>
        X0 (upd (upd (upd (upd (upd (upd (upd (upd (upd (upd (upd (upd (upd (upd (upd (upd (upd (upd (upd t 65 v1) 66 (t 64)) 12 (t 64)) 67 (t 64)) 68 (t 2)) 69 (.int .i64 n4)) 70 v5) 71 (t 2)) 72 (t 64)) 73 v7) 74 v8) 75 (.bool b10)) 88 (t 9)) 89 (t 2)) 90 (t 64)) 91 v21) 92 v22) 93 (.int .i64 n24)) 94 (.int .u64 n27)) h26
    else
      X0 (upd (upd (upd (upd (upd (upd (upd t 65 v1) 66 (t 64)) 12 (t 64)) 67 (t 64)) 68 (t 2)) 69 (.int .i64 n4)) 70 v5) h
  else
    some (.inr ((.exit 2), ((t 1), (t 2), (t 6), (t 8), (t 9), (t 10), (t 63), (t 64)), h))
theorem Jr13_2_h1 (rc : Rec) (md : Md) (X : Nat → T → Heap → Option (((Value × Value × Value × Value × Value × Value × Value × Value) × Heap) ⊕ (Exit × (Value × Value × Value × Value × Value × Value × Value × Value) × Heap))) (t : T) (h : Heap) : execG Try.prog cfg X rc md 169 (replS (sub (bodyOf Try.prog 13) [1, 1, 1, 1, 1, 1, 1, 0, 1, 0, 0]) [([1, 1, 0, 0, 1, 1], 0)]) (rndK (fun t => (t 1, t 2, t 6, t 8, t 9, t 10, t 63, t 64))) t h = Jr13_2H rc md (X 0) t h := by kernel_rfl
theorem Jr13_2_h2 (rc : Rec) (md : Md) (t : T) (h : Heap) : Jr13_2H rc md (fun t h => J13_2b0 rc md (t 1) (t 2) (t 6) (t 8) (t 9) (t 10) (t 12) (t 63) (t 64) h) t h = Jr13_2 rc md (t 1) (t 2) (t 6) (t 8) (t 9) (t 10) (t 63) (t 64) h := by unfold Jr13_2H Jr13_2; kernel_rfl
theorem Jr13_2_at (rc : Rec) (md : Md) (t : T) (h : Heap) : exec Try.prog cfg rc md 169 (sub (bodyOf Try.prog 13) [1, 1, 1, 1, 1, 1, 1, 0, 1, 0, 0]) (rndK (fun t => (t 1, t 2, t 6, t 8, t 9, t 10, t 63, t 64))) t h = Jr13_2 rc md (t 1) (t 2) (t 6) (t 8) (t 9) (t 10) (t 63) (t 64) h := by
  rw [exec_holes [([1, 1, 0, 0, 1, 1], 0)] (by kernel_rfl), Jr13_2_h1, show (goX Try.prog cfg rc md 169 (sub (bodyOf Try.prog 13) [1, 1, 1, 1, 1, 1, 1, 0, 1, 0, 0]) [([1, 1, 0, 0, 1, 1], 0)] (rndK (fun t => (t 1, t 2, t 6, t 8, t 9, t 10, t 63, t 64)))) 0 = _ from J13_2b0_cut rc md]
  exact Jr13_2_h2 rc md t h
noncomputable def J13_2 (rc : Rec) (md : Md) (h0 : Heap) (s1 : Value) (s2 : Value) (s6 : Value) (s8 : Value) (s9 : Value) (s10 : Value) (s63 : Value) (s64 : Value) (h : Heap) : Option (Value × Heap) :=
  runL (fun x : (Value × Value × Value × Value × Value × Value × Value × Value) × Heap => Jr13_2 rc md x.1.1 x.1.2.1 x.1.2.2.1 x.1.2.2.2.1 x.1.2.2.2.2.1 x.1.2.2.2.2.2.1 x.1.2.2.2.2.2.2.1 x.1.2.2.2.2.2.2.2 x.2) (fun e (s : Value × Value × Value × Value × Value × Value × Value × Value) h => Jk13_2 rc md h0 e s.1 s.2.1 s.2.2.1 s.2.2.2.1 s.2.2.2.2.1 s.2.2.2.2.2.1 s.2.2.2.2.2.2.1 s.2.2.2.2.2.2.2 h) (s1, s2, s6, s8, s9, s10, s63, s64) h
theorem J13_2_step (rc : Rec) (md : Md) (h0 : Heap) (s1 : Value) (s2 : Value) (s6 : Value) (s8 : Value) (s9 : Value) (s10 : Value) (s63 : Value) (s64 : Value) (h : Heap) : J13_2 rc md h0 s1 s2 s6 s8 s9 s10 s63 s64 h = (Jr13_2 rc md s1 s2 s6 s8 s9 s10 s63 s64 h).bind fun x => match x with
    | .inl (s, h) => J13_2 rc md h0 s.1 s.2.1 s.2.2.1 s.2.2.2.1 s.2.2.2.2.1 s.2.2.2.2.2.1 s.2.2.2.2.2.2.1 s.2.2.2.2.2.2.2 h
    | .inr (e, s, h) => Jk13_2 rc md h0 e s.1 s.2.1 s.2.2.1 s.2.2.2.1 s.2.2.2.2.1 s.2.2.2.2.2.1 s.2.2.2.2.2.2.1 s.2.2.2.2.2.2.2 h := by
  unfold J13_2
  rw [runL_eq]
  refine congrArg (Option.bind _) (funext fun x => ?_)
  rcases x with ⟨s, h⟩ | ⟨e, s, h⟩ <;> rfl
theorem J13_2_cut (rc : Rec) (md : Md) (h0 : Heap) : cut Try.prog cfg rc md 169 (bodyOf Try.prog 13) [1, 1, 1, 1, 1, 1, 1, 0, 1, 0] (retK Try.prog cfg 13 (rsOf Try.prog 13) h0) = fun t h => J13_2 rc md h0 (t 1) (t 2) (t 6) (t 8) (t 9) (t 10) (t 63) (t 64) h := by
  funext t h
  have e : sub (bodyOf Try.prog 13) [1, 1, 1, 1, 1, 1, 1, 0, 1, 0] = .loop (sub (bodyOf Try.prog 13) [1, 1, 1, 1, 1, 1, 1, 0, 1, 0, 0]) := by kernel_rfl
  unfold cut
  rw [e]
  exact loop_eq (by kernel_rfl) (fun t => (t 1, t 2, t 6, t 8, t 9, t 10, t 63, t 64)) (fun x : (Value × Value × Value × Value × Value × Value × Value × Value) × Heap => Jr13_2 rc md x.1.1 x.1.2.1 x.1.2.2.1 x.1.2.2.2.1 x.1.2.2.2.2.1 x.1.2.2.2.2.2.1 x.1.2.2.2.2.2.2.1 x.1.2.2.2.2.2.2.2 x.2) (fun t h => Jr13_2_at rc md t h) (fun e (s : Value × Value × Value × Value × Value × Value × Value × Value) h => Jk13_2 rc md h0 e s.1 s.2.1 s.2.2.1 s.2.2.2.1 s.2.2.2.2.1 s.2.2.2.2.2.1 s.2.2.2.2.2.2.1 s.2.2.2.2.2.2.2 h) (fun e t h => Jk13_2_at rc md h0 e t h) t h
noncomputable def J13_1 (rc : Rec) (md : Md) (h0 : Heap) (s1 : Value) (s2 : Value) (s6 : Value) (s8 : Value) (s9 : Value) (s10 : Value) (h : Heap) : Option (Value × Heap) :=
  lenS s1 fun v1 =>
  cIn .i64 v1 fun n2 =>
  lenS s2 fun v3 =>
  cIn .i64 v3 fun n4 =>
  J13_2 rc md h0 s1 s2 s6 s8 s9 s10 (.int .i64 (if n4 > n2 then n4 else n2)) (.int .i64 0) h
noncomputable def J13_1H (rc : Rec) (md : Md) (h0 : Heap) (X1 : T → Heap → Option (Value × Heap)) (t : T) (h : Heap) : Option (Value × Heap) :=
  lenS (t 1) fun v1 =>
  cIn .i64 v1 fun n2 =>
  lenS (t 2) fun v3 =>
  cIn .i64 v3 fun n4 =>
  X1 (upd (upd (upd (upd (upd (upd t 59 (t 1)) 60 (.int .i64 n2)) 61 (t 2)) 62 (.int .i64 n4)) 63 (.int .i64 (if n4 > n2 then n4 else n2))) 64 (.int .i64 0)) h
theorem J13_1_h1 (rc : Rec) (md : Md) (h0 : Heap) (X : Nat → T → Heap → Option (Value × Heap)) (t : T) (h : Heap) : execG Try.prog cfg X rc md 169 (sub (replS (bodyOf Try.prog 13) [([1, 1, 1, 1, 1, 1, 0, 1, 0], 0), ([1, 1, 1, 1, 1, 1, 1, 0, 1, 0], 1), ([1, 1, 1, 1, 1, 1, 1, 1, 1, 1, 0, 1, 0], 2), ([1, 1, 1, 1, 1, 1, 1, 1], 3)]) [1, 1, 1, 1, 1, 1, 1]) (kAtG Try.prog cfg X rc md 169 (replS (bodyOf Try.prog 13) [([1, 1, 1, 1, 1, 1, 0, 1, 0], 0), ([1, 1, 1, 1, 1, 1, 1, 0, 1, 0], 1), ([1, 1, 1, 1, 1, 1, 1, 1, 1, 1, 0, 1, 0], 2), ([1, 1, 1, 1, 1, 1, 1, 1], 3)]) [1, 1, 1, 1, 1, 1, 1] (retK Try.prog cfg 13 (rsOf Try.prog 13) h0)) t h = J13_1H rc md h0 (X 1) t h := by kernel_rfl
theorem J13_1_h2 (rc : Rec) (md : Md) (h0 : Heap) (t : T) (h : Heap) : J13_1H rc md h0 (fun t h => J13_2 rc md h0 (t 1) (t 2) (t 6) (t 8) (t 9) (t 10) (t 63) (t 64) h) t h = J13_1 rc md h0 (t 1) (t 2) (t 6) (t 8) (t 9) (t 10) h := by (unfold J13_1H J13_1; kernel_rfl)
theorem J13_1_at (rc : Rec) (md : Md) (h0 : Heap) (t : T) (h : Heap) : cut Try.prog cfg rc md 169 (bodyOf Try.prog 13) [1, 1, 1, 1, 1, 1, 1] (retK Try.prog cfg 13 (rsOf Try.prog 13) h0) t h = J13_1 rc md h0 (t 1) (t 2) (t 6) (t 8) (t 9) (t 10) h := by
  rw [cut_holes [([1, 1, 1, 1, 1, 1, 0, 1, 0], 0), ([1, 1, 1, 1, 1, 1, 1, 0, 1, 0], 1), ([1, 1, 1, 1, 1, 1, 1, 1, 1, 1, 0, 1, 0], 2), ([1, 1, 1, 1, 1, 1, 1, 1], 3)] [1, 1, 1, 1, 1, 1, 1] (by kernel_rfl), J13_1_h1, show (goX Try.prog cfg rc md 169 (bodyOf Try.prog 13) [([1, 1, 1, 1, 1, 1, 0, 1, 0], 0), ([1, 1, 1, 1, 1, 1, 1, 0, 1, 0], 1), ([1, 1, 1, 1, 1, 1, 1, 1, 1, 1, 0, 1, 0], 2), ([1, 1, 1, 1, 1, 1, 1, 1], 3)] (retK Try.prog cfg 13 (rsOf Try.prog 13) h0)) 1 = _ from J13_2_cut rc md h0]
  exact J13_1_h2 rc md h0 t h
theorem J13_1_cut (rc : Rec) (md : Md) (h0 : Heap) : cut Try.prog cfg rc md 169 (bodyOf Try.prog 13) [1, 1, 1, 1, 1, 1, 1] (retK Try.prog cfg 13 (rsOf Try.prog 13) h0) = fun t h => J13_1 rc md h0 (t 1) (t 2) (t 6) (t 8) (t 9) (t 10) h := funext fun t => funext fun h => J13_1_at rc md h0 t h
noncomputable def Jk13_0 (rc : Rec) (md : Md) (h0 : Heap) (e : Exit) (s1 : Value) (s2 : Value) (s6 : Value) (s7 : Value) (s8 : Value) (s9 : Value) (s10 : Value) (s51 : Value) (s52 : Value) (h : Heap) : Option (Value × Heap) :=
  match e with
  | .normal =>
    J13_1 rc md h0 s1 s2 s6 s8 s9 s10 h
  | .exit j =>
    bif Nat.beq j 0 then
      J13_1 rc md h0 s1 s2 s6 s8 s9 s10 h
    else
      none
  | .ret =>
    fin1 h0 s6 h
  | .goto l => none
  | .panic ps => none
  | .outgrown => none
noncomputable def Jk13_0H (rc : Rec) (md : Md) (h0 : Heap) (X4 : T → Heap → Option (Value × Heap)) (e : Exit) (t : T) (h : Heap) : Option (Value × Heap) :=
  match e with
  | .normal =>
    X4 t h
  | .exit j =>
    bif Nat.beq j 0 then
      X4 t h
    else
      none
  | .ret =>
    fin1 h0 (t 6) h
  | .goto l => none
  | .panic ps => none
  | .outgrown => none
theorem Jk13_0_h1 (rc : Rec) (md : Md) (h0 : Heap) (X : Nat → T → Heap → Option (Value × Heap)) (e : Exit) (t : T) (h : Heap) : kAtG Try.prog cfg X rc md 169 (replS (bodyOf Try.prog 13) [([1, 1, 1, 1, 1, 1, 1, 0, 1, 0], 1), ([1, 1, 1, 1, 1, 1, 1, 1, 1, 1, 0, 1, 0], 2), ([1, 1, 1, 1, 1, 1, 1, 1], 3), ([1, 1, 1, 1, 1, 1, 1], 4)]) [1, 1, 1, 1, 1, 1, 0, 1, 0] (retK Try.prog cfg 13 (rsOf Try.prog 13) h0) e t h = Jk13_0H rc md h0 (X 4) e t h := by cases e <;> kernel_rfl
theorem Jk13_0_h2 (rc : Rec) (md : Md) (h0 : Heap) (e : Exit) (t : T) (h : Heap) : Jk13_0H rc md h0 (fun t h => J13_1 rc md h0 (t 1) (t 2) (t 6) (t 8) (t 9) (t 10) h) e t h = Jk13_0 rc md h0 e (t 1) (t 2) (t 6) (t 7) (t 8) (t 9) (t 10) (t 51) (t 52) h := by cases e <;> (unfold Jk13_0H Jk13_0; kernel_rfl)
theorem Jk13_0_at (rc : Rec) (md : Md) (h0 : Heap) (e : Exit) (t : T) (h : Heap) : kAt Try.prog cfg rc md 169 (bodyOf Try.prog 13) [1, 1, 1, 1, 1, 1, 0, 1, 0] (retK Try.prog cfg 13 (rsOf Try.prog 13) h0) e t h = Jk13_0 rc md h0 e (t 1) (t 2) (t 6) (t 7) (t 8) (t 9) (t 10) (t 51) (t 52) h := by
  rw [kAt_holes [([1, 1, 1, 1, 1, 1, 1, 0, 1, 0], 1), ([1, 1, 1, 1, 1, 1, 1, 1, 1, 1, 0, 1, 0], 2), ([1, 1, 1, 1, 1, 1, 1, 1], 3), ([1, 1, 1, 1, 1, 1, 1], 4)] [1, 1, 1, 1, 1, 1, 0, 1, 0] (by kernel_rfl), Jk13_0_h1, show (goX Try.prog cfg rc md 169 (bodyOf Try.prog 13) [([1, 1, 1, 1, 1, 1, 1, 0, 1, 0], 1), ([1, 1, 1, 1, 1, 1, 1, 1, 1, 1, 0, 1, 0], 2), ([1, 1, 1, 1, 1, 1, 1, 1], 3), ([1, 1, 1, 1, 1, 1, 1], 4)] (retK Try.prog cfg 13 (rsOf Try.prog 13) h0)) 4 = _ from J13_1_cut rc md h0]
  exact Jk13_0_h2 rc md h0 e t h
/-- a round -/
noncomputable def Jr13_0 (rc : Rec) (md : Md) (s1 : Value) (s2 : Value) (s6 : Value) (s7 : Value) (s8 : Value) (s9 : Value) (s10 : Value) (s51 : Value) (s52 : Value) (h : Heap) : Option (((Value × Value × Value × Value × Value × Value × Value × Value × Value) × Heap) ⊕ (Exit × (Value × Value × Value × Value × Value × Value × Value × Value × Value) × Heap)) :=
  aBin Try.prog .lss 3 s52 s51 fun v1 =>
  cBn v1 fun b2 =>
  bif b2 then
    cl (rc md 33 [s7, s52, (.int .u64 99)] h) fun v3 h4 =>
    cIn .i64 v3 fun n5 =>
    aBin Try.prog .add 3 s52 (.int .i64 1) fun v6 =>
    some (.inl ((s1, s2, s6, s7, s8, s9, s10, s51, v6), h4))
  else
    some (.inr ((.exit 0), (s1, s2, s6, s7, s8, s9, s10, s51, s52), h))
theorem Jr13_0_at (rc : Rec) (md : Md) (t : T) (h : Heap) : exec Try.prog cfg rc md 169 (sub (bodyOf Try.prog 13) [1, 1, 1, 1, 1, 1, 0, 1, 0, 0]) (rndK (fun t => (t 1, t 2, t 6, t 7, t 8, t 9, t 10, t 51, t 52))) t h = Jr13_0 rc md (t 1) (t 2) (t 6) (t 7) (t 8) (t 9) (t 10) (t 51) (t 52) h := by kernel_rfl
noncomputable def J13_0 (rc : Rec) (md : Md) (h0 : Heap) (s1 : Value) (s2 : Value) (s6 : Value) (s7 : Value) (s8 : Value) (s9 : Value) (s10 : Value) (s51 : Value) (s52 : Value) (h : Heap) : Option (Value × Heap) :=
  runL (fun x : (Value × Value × Value × Value × Value × Value × Value × Value × Value) × Heap => Jr13_0 rc md x.1.1 x.1.2.1 x.1.2.2.1 x.1.2.2.2.1 x.1.2.2.2.2.1 x.1.2.2.2.2.2.1 x.1.2.2.2.2.2.2.1 x.1.2.2.2.2.2.2.2.1 x.1.2.2.2.2.2.2.2.2 x.2) (fun e (s : Value × Value × Value × Value × Value × Value × Value × Value × Value) h => Jk13_0 rc md h0 e s.1 s.2.1 s.2.2.1 s.2.2.2.1 s.2.2.2.2.1 s.2.2.2.2.2.1 s.2.2.2.2.2.2.1 s.2.2.2.2.2.2.2.1 s.2.2.2.2.2.2.2.2 h) (s1, s2, s6, s7, s8, s9, s10, s51, s52) h
theorem J13_0_step (rc : Rec) (md : Md) (h0 : Heap) (s1 : Value) (s2 : Value) (s6 : Value) (s7 : Value) (s8 : Value) (s9 : Value) (s10 : Value) (s51 : Value) (s52 : Value) (h : Heap) : J13_0 rc md h0 s1 s2 s6 s7 s8 s9 s10 s51 s52 h = (Jr13_0 rc md s1 s2 s6 s7 s8 s9 s10 s51 s52 h).bind fun x => match x with
    | .inl (s, h) => J13_0 rc md h0 s.1 s.2.1 s.2.2.1 s.2.2.2.1 s.2.2.2.2.1 s.2.2.2.2.2.1 s.2.2.2.2.2.2.1 s.2.2.2.2.2.2.2.1 s.2.2.2.2.2.2.2.2 h
    | .inr (e, s, h) => Jk13_0 rc md h0 e s.1 s.2.1 s.2.2.1 s.2.2.2.1 s.2.2.2.2.1 s.2.2.2.2.2.1 s.2.2.2.2.2.2.1 s.2.2.2.2.2.2.2.1 s.2.2.2.2.2.2.2.2 h := by
  unfold J13_0
  rw [runL_eq]
  refine congrArg (Option.bind _) (funext fun x => ?_)
  rcases x with ⟨s, h⟩ | ⟨e, s, h⟩ <;> rfl
theorem J13_0_cut (rc : Rec) (md : Md) (h0 : Heap) : cut Try.prog cfg rc md 169 (bodyOf Try.prog 13) [1, 1, 1, 1, 1, 1, 0, 1, 0] (retK Try.prog cfg 13 (rsOf Try.prog 13) h0) = fun t h => J13_0 rc md h0 (t 1) (t 2) (t 6) (t 7) (t 8) (t 9) (t 10) (t 51) (t 52) h := by
  funext t h
  have e : sub (bodyOf Try.prog 13) [1, 1, 1, 1, 1, 1, 0, 1, 0] = .loop (sub (bodyOf Try.prog 13) [1, 1, 1, 1, 1, 1, 0, 1, 0, 0]) := by kernel_rfl
  unfold cut
  rw [e]
  exact loop_eq (by kernel_rfl) (fun t => (t 1, t 2, t 6, t 7, t 8, t 9, t 10, t 51, t 52)) (fun x : (Value × Value × Value × Value × Value × Value × Value × Value × Value) × Heap => Jr13_0 rc md x.1.1 x.1.2.1 x.1.2.2.1 x.1.2.2.2.1 x.1.2.2.2.2.1 x.1.2.2.2.2.2.1 x.1.2.2.2.2.2.2.1 x.1.2.2.2.2.2.2.2.1 x.1.2.2.2.2.2.2.2.2 x.2) (fun t h => Jr13_0_at rc md t h) (fun e (s : Value × Value × Value × Value × Value × Value × Value × Value × Value) h => Jk13_0 rc md h0 e s.1 s.2.1 s.2.2.1 s.2.2.2.1 s.2.2.2.2.1 s.2.2.2.2.2.1 s.2.2.2.2.2.2.1 s.2.2.2.2.2.2.2.1 s.2.2.2.2.2.2.2.2 h) (fun e t h => Jk13_0_at rc md h0 e t h) t h
noncomputable def F13 (rc : Rec) (md : Md) (a0 : Value) (a1 : Value) (a2 : Value) (h0 : Heap) : Option (Value × Heap) :=
  lenS a0 fun v1 =>
  cIn .i64 v1 fun n2 =>
  (bif wantV (.bool (decide (n2 > 60))) false then
  some (a1, h0)
  else some (undef, h0)).bind fun p3 =>
  (bif wantV (.bool (decide (n2 > 60))) false then
  lenS p3.1 fun v4 =>
  cIn .i64 v4 fun n5 =>
  some ((.int .i64 n5), p3.2)
  else some (undef, p3.2)).bind fun p6 =>
  (bif wantV (.bool (decide (n2 > 60))) false then
  aBin Try.prog .gtr 3 p6.1 (.int .i64 60) fun v7 =>
  some (v7, p6.2)
  else some (undef, p6.2)).bind fun p8 =>
  cBn (bif (decide (n2 > 60)) then (.bool true) else p8.1) fun b9 =>
  (bif wantV (.bool b9) false then
  some (a2, p8.2)
  else some (undef, p8.2)).bind fun p10 =>
  (bif wantV (.bool b9) false then
  lenS p10.1 fun v11 =>
  cIn .i64 v11 fun n12 =>
  some ((.int .i64 n12), p10.2)
  else some (undef, p10.2)).bind fun p13 =>
  (bif wantV (.bool b9) false then
  aBin Try.prog .gtr 3 p13.1 (.int .i64 60) fun v14 =>
  some (v14, p13.2)
  else some (undef, p13.2)).bind fun p15 =>
  cBn (bif b9 then (.bool true) else p15.1) fun b16 =>
  bif b16 then
    cl (rc md 56 [] p15.2) fun v17 h18 =>
    cBn v17 fun b19 =>
    some ((.bool b19), List.take h0.length h18)
  else
    cl (rc md 57 [a0] p15.2) fun v20 h21 =>
    aBin Try.prog .eql 26 v20 (.pointer none) fun v22 =>
    cBn v22 fun b23 =>
    bif b23 then
      some ((.bool false), List.take h0.length h21)
    else
      cl (rc md 58 [v20] h21) fun v24 h25 =>
      cl (rc md 58 [v20] h25) fun v26 h27 =>
      cl (rc md 58 [v20] h27) fun v28 h29 =>
      aBin Try.prog .eql 106 v24 (.pointer none) fun v30 =>
      (bif wantV v30 false then
      some (v26, h29)
      else some (undef, h29)).bind fun p31 =>
      (bif wantV v30 false then
      aBin Try.prog .eql 106 p31.1 (.pointer none) fun v32 =>
      some (v32, p31.2)
      else some (undef, p31.2)).bind fun p33 =>
      cBn v30 fun q34 =>
      cBn (bif q34 then (.bool true) else p33.1) fun b35 =>
      (bif wantV (.bool b35) false then
      some (v28, p33.2)
      else some (undef, p33.2)).bind fun p36 =>
      (bif wantV (.bool b35) false then
      aBin Try.prog .eql 106 p36.1 (.pointer none) fun v37 =>
      some (v37, p36.2)
      else some (undef, p36.2)).bind fun p38 =>
      cBn (bif b35 then (.bool true) else p38.1) fun b39 =>
      bif b39 then
        some ((.bool false), List.take h0.length p38.2)
      else
        lenS a0 fun v40 =>
        cIn .i64 v40 fun n41 =>
        J13_0 rc md h0 a1 a2 (.bool false) v20 v24 v26 v28 (.int .i64 n41) (.int .i64 0) p38.2
noncomputable def F13H (rc : Rec) (md : Md) (X0 : T → Heap → Option (Value × Heap)) (a0 : Value) (a1 : Value) (a2 : Value) (h0 : Heap) : Option (Value × Heap) :=
  lenS a0 fun v1 =>
  cIn .i64 v1 fun n2 =>
  (bif wantV (.bool (decide (n2 > 60))) false then
  some (a1, h0)
  else some (undef, h0)).bind fun p3 =>
  (bif wantV (.bool (decide (n2 > 60))) false then
  lenS p3.1 fun v4 =>
  cIn .i64 v4 fun n5 =>
  some ((.int .i64 n5), p3.2)
  else some (undef, p3.2)).bind fun p6 =>
  (bif wantV (.bool (decide (n2 > 60))) false then
  aBin Try.prog .gtr 3 p6.1 (.int .i64 60) fun v7 =>
  some (v7, p6.2)
  else some (undef, p6.2)).bind fun p8 =>
  cBn (bif (decide (n2 > 60)) then (.bool true) else p8.1) fun b9 =>
  (bif wantV (.bool b9) false then
  some (a2, p8.2)
  else some (undef, p8.2)).bind fun p10 =>
  (bif wantV (.bool b9) false then
  lenS p10.1 fun v11 =>
  cIn .i64 v11 fun n12 =>
  some ((.int .i64 n12), p10.2)
  else some (undef, p10.2)).bind fun p13 =>
  (bif wantV (.bool b9) false then
  aBin Try.prog .gtr 3 p13.1 (.int .i64 60) fun v14 =>
  some (v14, p13.2)
  else some (undef, p13.2)).bind fun p15 =>
  cBn (bif b9 then (.bool true) else p15.1) fun b16 =>
  bif b16 then
    cl (rc md 56 [] p15.2) fun v17 h18 =>
    cBn v17 fun b19 =>
    some ((.bool b19), List.take h0.length h18)
  else
    cl (rc md 57 [a0] p15.2) fun v20 h21 =>
    aBin Try.prog .eql 26 v20 (.pointer none) fun v22 =>
    cBn v22 fun b23 =>
    bif b23 then
      some ((.bool false), List.take h0.length h21)
    else
      cl (rc md 58 [v20] h21) fun v24 h25 =>
      cl (rc md 58 [v20] h25) fun v26 h27 =>
      cl (rc md 58 [v20] h27) fun v28 h29 =>
      aBin Try.prog .eql 106 v24 (.pointer none) fun v30 =>
      (bif wantV v30 false then
      some (v26, h29)
      else some (undef, h29)).bind fun p31 =>
      (bif wantV v30 false then
      aBin Try.prog .eql 106 p31.1 (.pointer none) fun v32 =>
      some (v32, p31.2)
      else some (undef, p31.2)).bind fun p33 =>
      cBn v30 fun q34 =>
      cBn (bif q34 then (.bool true) else p33.1) fun b35 =>
      (bif wantV (.bool b35) false then
      some (v28, p33.2)
      else some (undef, p33.2)).bind fun p36 =>
      (bif wantV (.bool b35) false then
      aBin Try.prog .eql 106 p36.1 (.pointer none) fun v37 =>
      some (v37, p36.2)
      else some (undef, p36.2)).bind fun p38 =>
      cBn (bif b35 then (.bool true) else p38.1) fun b39 =>
      bif b39 then
        some ((.bool false), List.take h0.length p38.2)
      else
        lenS a0 fun v40 =>
        cIn .i64 v40 fun n41 =>
        X0 (upd (upd (upd (upd (upd (upd (upd (upd (upd (upd (upd (upd (upd (upd (upd (upd (upd (upd (upd (upd (upd (upd (upd (upd (upd (upd (upd (upd (upd (upd (upd (upd (upd (upd (upd (upd (upd (upd (upd (upd (upd (args0 [a0, a1, a2]) 6 (.bool false)) 16 a0) 17 (.int .i64 n2)) 18 (.bool (decide (n2 > 60)))) 19 (.bool (decide (n2 > 60)))) 20 p3.1) 21 p6.1) 22 p8.1) 23 (.bool b9)) 24 (.bool b9)) 25 p10.1) 26 p13.1) 27 p15.1) 28 (.bool b16)) 30 a0) 31 v20) 7 v20) 32 v20) 33 v22) 34 v20) 35 v24) 36 v20) 37 v26) 38 v20) 39 v28) 8 v24) 9 v26) 10 v28) 40 v24) 41 v30) 42 v30) 43 p31.1) 44 p33.1) 45 (.bool b35)) 46 (.bool b35)) 47 p36.1) 48 p38.1) 49 (.bool b39)) 50 a0) 51 (.int .i64 n41)) 52 (.int .i64 0)) p38.2
theorem F13_h0 (rc : Rec) (md : Md) (a0 : Value) (a1 : Value) (a2 : Value) (h0 : Heap) : callStep0 Try.prog cfg rc md 13 [a0, a1, a2] h0 = exec Try.prog cfg rc ⟨md.ro, h0.length⟩ 169 (bodyOf Try.prog 13) (retK Try.prog cfg 13 (rsOf Try.prog 13) h0) (args0 [a0, a1, a2]) h0 := callStep0_run (by kernel_rfl) (by kernel_rfl) (by kernel_rfl)
theorem F13_h1 (rc : Rec) (md : Md) (X : Nat → T → Heap → Option (Value × Heap)) (a0 : Value) (a1 : Value) (a2 : Value) (h0 : Heap) : execG Try.prog cfg X rc md 169 (replS (bodyOf Try.prog 13) [([1, 1, 1, 1, 1, 1, 0, 1, 0], 0), ([1, 1, 1, 1, 1, 1, 1, 0, 1, 0], 1), ([1, 1, 1, 1, 1, 1, 1, 1, 1, 1, 0, 1, 0], 2), ([1, 1, 1, 1, 1, 1, 1, 1], 3), ([1, 1, 1, 1, 1, 1, 1], 4)]) (retK Try.prog cfg 13 (rsOf Try.prog 13) h0) (args0 [a0, a1, a2]) h0 = F13H rc md (X 0) a0 a1 a2 h0 := by kernel_rfl
theorem F13_h2 (rc : Rec) (md : Md) (a0 : Value) (a1 : Value) (a2 : Value) (h0 : Heap) : F13H rc md (fun t h => J13_0 rc md h0 (t 1) (t 2) (t 6) (t 7) (t 8) (t 9) (t 10) (t 51) (t 52) h) a0 a1 a2 h0 = F13 rc md a0 a1 a2 h0 := by unfold F13H F13; kernel_rfl
theorem F13_eq0 (rc : Rec) (md : Md) (a0 : Value) (a1 : Value) (a2 : Value) (h0 : Heap) : callStep0 Try.prog cfg rc md 13 [a0, a1, a2] h0 = F13 rc ⟨md.ro, h0.length⟩ a0 a1 a2 h0 := by
  rw [F13_h0, exec_holes [([1, 1, 1, 1, 1, 1, 0, 1, 0], 0), ([1, 1, 1, 1, 1, 1, 1, 0, 1, 0], 1), ([1, 1, 1, 1, 1, 1, 1, 1, 1, 1, 0, 1, 0], 2), ([1, 1, 1, 1, 1, 1, 1, 1], 3), ([1, 1, 1, 1, 1, 1, 1], 4)] (by kernel_rfl), F13_h1, show (goX Try.prog cfg rc ⟨md.ro, h0.length⟩ 169 (bodyOf Try.prog 13) [([1, 1, 1, 1, 1, 1, 0, 1, 0], 0), ([1, 1, 1, 1, 1, 1, 1, 0, 1, 0], 1), ([1, 1, 1, 1, 1, 1, 1, 1, 1, 1, 0, 1, 0], 2), ([1, 1, 1, 1, 1, 1, 1, 1], 3), ([1, 1, 1, 1, 1, 1, 1], 4)] (retK Try.prog cfg 13 (rsOf Try.prog 13) h0)) 0 = _ from J13_0_cut rc ⟨md.ro, h0.length⟩ h0]
  exact F13_h2 rc _ a0 a1 a2 h0
theorem F13_eq (rc : Rec) (md : Md) (a0 : Value) (a1 : Value) (a2 : Value) (h0 : Heap) : callStep Try.prog cfg rc md 13 [a0, a1, a2] h0 = F13 rc ⟨md.ro, h0.length⟩ a0 a1 a2 h0 := (callStep_ne (by kernel_rfl)).trans (F13_eq0 rc md a0 a1 a2 h0)

/-- tombolo/tombololaw06.begun -/
noncomputable def Jk57_0 (rc : Rec) (md : Md) (h0 : Heap) (e : Exit) (s2 : Value) (s3 : Value) (s19 : Value) (s20 : Value) (s21 : Value) (h : Heap) : Option (Value × Heap) :=
  match e with
  | .normal =>
    some (s3, h)
  | .exit j =>
    bif Nat.beq j 0 then
      some (s3, h)
    else
      none
  | .ret =>
    some (s2, h)
  | .goto l => none
  | .panic ps => none
  | .outgrown => none
theorem Jk57_0_at (rc : Rec) (md : Md) (h0 : Heap) (e : Exit) (t : T) (h : Heap) : kAt Try.prog cfg rc md 33 (bodyOf Try.prog 57) [1, 1, 1, 0, 1, 0] (retK Try.prog cfg 57 (rsOf Try.prog 57) h0) e t h = Jk57_0 rc md h0 e (t 2) (t 3) (t 19) (t 20) (t 21) h := by cases e <;> kernel_rfl
/-- a round -/
noncomputable def Jr57_0 (rc : Rec) (md : Md) (s2 : Value) (s3 : Value) (s19 : Value) (s20 : Value) (s21 : Value) (h : Heap) : Option (((Value × Value × Value × Value × Value) × Heap) ⊕ (Exit × (Value × Value × Value × Value × Value) × Heap)) :=
  aBin Try.prog .lss 3 s21 s20 fun v1 =>
  cBn v1 fun b2 =>
  bif b2 then
    ixSV 1 s19 s21 fun v3 =>
    ld1 v3 h fun v4 =>
    cIn .u64 v4 fun n5 =>
    cl (rc md 33 [s3, s21, (.int .u64 n5)] h) fun v6 h7 =>
    cIn .i64 v6 fun n8 =>
    bif (n8 != 0) then
      some (.inr (.ret, ((.pointer none), s3, s19, s20, s21), h7))
    else
      aBin Try.prog .add 3 s21 (.int .i64 1) fun v9 =>
      some (.inl ((s2, s3, s19, s20, v9), h7))
  else
    some (.inr ((.exit 0), (s2, s3, s19, s20, s21), h))
theorem Jr57_0_at (rc : Rec) (md : Md) (t : T) (h : Heap) : exec Try.prog cfg rc md 33 (sub (bodyOf Try.prog 57) [1, 1, 1, 0, 1, 0, 0]) (rndK (fun t => (t 2, t 3, t 19, t 20, t 21))) t h = Jr57_0 rc md (t 2) (t 3) (t 19) (t 20) (t 21) h := by kernel_rfl
noncomputable def J57_0 (rc : Rec) (md : Md) (h0 : Heap) (s2 : Value) (s3 : Value) (s19 : Value) (s20 : Value) (s21 : Value) (h : Heap) : Option (Value × Heap) :=
  runL (fun x : (Value × Value × Value × Value × Value) × Heap => Jr57_0 rc md x.1.1 x.1.2.1 x.1.2.2.1 x.1.2.2.2.1 x.1.2.2.2.2 x.2) (fun e (s : Value × Value × Value × Value × Value) h => Jk57_0 rc md h0 e s.1 s.2.1 s.2.2.1 s.2.2.2.1 s.2.2.2.2 h) (s2, s3, s19, s20, s21) h
theorem J57_0_step (rc : Rec) (md : Md) (h0 : Heap) (s2 : Value) (s3 : Value) (s19 : Value) (s20 : Value) (s21 : Value) (h : Heap) : J57_0 rc md h0 s2 s3 s19 s20 s21 h = (Jr57_0 rc md s2 s3 s19 s20 s21 h).bind fun x => match x with
    | .inl (s, h) => J57_0 rc md h0 s.1 s.2.1 s.2.2.1 s.2.2.2.1 s.2.2.2.2 h
    | .inr (e, s, h) => Jk57_0 rc md h0 e s.1 s.2.1 s.2.2.1 s.2.2.2.1 s.2.2.2.2 h := by
  unfold J57_0
  rw [runL_eq]
  refine congrArg (Option.bind _) (funext fun x => ?_)
  rcases x with ⟨s, h⟩ | ⟨e, s, h⟩ <;> rfl
theorem J57_0_cut (rc : Rec) (md : Md) (h0 : Heap) : cut Try.prog cfg rc md 33 (bodyOf Try.prog 57) [1, 1, 1, 0, 1, 0] (retK Try.prog cfg 57 (rsOf Try.prog 57) h0) = fun t h => J57_0 rc md h0 (t 2) (t 3) (t 19) (t 20) (t 21) h := by
  funext t h
  have e : sub (bodyOf Try.prog 57) [1, 1, 1, 0, 1, 0] = .loop (sub (bodyOf Try.prog 57) [1, 1, 1, 0, 1, 0, 0]) := by kernel_rfl
  unfold cut
  rw [e]
  exact loop_eq (by kernel_rfl) (fun t => (t 2, t 3, t 19, t 20, t 21)) (fun x : (Value × Value × Value × Value × Value) × Heap => Jr57_0 rc md x.1.1 x.1.2.1 x.1.2.2.1 x.1.2.2.2.1 x.1.2.2.2.2 x.2) (fun t h => Jr57_0_at rc md t h) (fun e (s : Value × Value × Value × Value × Value) h => Jk57_0 rc md h0 e s.1 s.2.1 s.2.2.1 s.2.2.2.1 s.2.2.2.2 h) (fun e t h => Jk57_0_at rc md h0 e t h) t h
noncomputable def F57 (rc : Rec) (md : Md) (a0 : Value) (h0 : Heap) : Option (Value × Heap) :=
  lenS a0 fun v1 =>
  cIn .i64 v1 fun n2 =>
  cl (rc md 69 [(.int .i64 n2)] h0) fun v3 h4 =>
  exT v3 0 fun v5 =>
  exT v3 1 fun v6 =>
  cIn .i64 v6 fun n7 =>
  (bif wantV (.bool (n7 != 0)) false then
  some (v5, h4)
  else some (undef, h4)).bind fun p8 =>
  (bif wantV (.bool (n7 != 0)) false then
  aBin Try.prog .eql 26 p8.1 (.pointer none) fun v9 =>
  some (v9, p8.2)
  else some (undef, p8.2)).bind fun p10 =>
  cBn (bif (n7 != 0) then (.bool true) else p10.1) fun b11 =>
  bif b11 then
    some ((.pointer none), p10.2)
  else
    lenS a0 fun v12 =>
    cIn .i64 v12 fun n13 =>
    J57_0 rc md h0 (.pointer none) v5 a0 (.int .i64 n13) (.int .i64 0) p10.2
noncomputable def F57H (rc : Rec) (md : Md) (X0 : T → Heap → Option (Value × Heap)) (a0 : Value) (h0 : Heap) : Option (Value × Heap) :=
  lenS a0 fun v1 =>
  cIn .i64 v1 fun n2 =>
  cl (rc md 69 [(.int .i64 n2)] h0) fun v3 h4 =>
  exT v3 0 fun v5 =>
  exT v3 1 fun v6 =>
  cIn .i64 v6 fun n7 =>
  (bif wantV (.bool (n7 != 0)) false then
  some (v5, h4)
  else some (undef, h4)).bind fun p8 =>
  (bif wantV (.bool (n7 != 0)) false then
  aBin Try.prog .eql 26 p8.1 (.pointer none) fun v9 =>
  some (v9, p8.2)
  else some (undef, p8.2)).bind fun p10 =>
  cBn (bif (n7 != 0) then (.bool true) else p10.1) fun b11 =>
  bif b11 then
    some ((.pointer none), p10.2)
  else
    lenS a0 fun v12 =>
    cIn .i64 v12 fun n13 =>
    X0 (upd (upd (upd (upd (upd (upd (upd (upd (upd (upd (upd (upd (upd (upd (upd (upd (upd (upd (args0 [a0]) 2 (.pointer none)) 8 a0) 9 (.int .i64 n2)) 10 v3) 7 v3) 11 v5) 12 (.int .i64 n7)) 3 v5) 4 (.int .i64 n7)) 13 (.int .i64 n7)) 14 (.bool (n7 != 0))) 15 (.bool (n7 != 0))) 16 p8.1) 17 p10.1) 18 (.bool b11)) 19 a0) 20 (.int .i64 n13)) 21 (.int .i64 0)) p10.2
theorem F57_h0 (rc : Rec) (md : Md) (a0 : Value) (h0 : Heap) : callStep0 Try.prog cfg rc md 57 [a0] h0 = exec Try.prog cfg rc md 33 (bodyOf Try.prog 57) (retK Try.prog cfg 57 (rsOf Try.prog 57) h0) (args0 [a0]) h0 := callStep0_run (by kernel_rfl) (by kernel_rfl) (by kernel_rfl)
theorem F57_h1 (rc : Rec) (md : Md) (X : Nat → T → Heap → Option (Value × Heap)) (a0 : Value) (h0 : Heap) : execG Try.prog cfg X rc md 33 (replS (bodyOf Try.prog 57) [([1, 1, 1, 0, 1, 0], 0)]) (retK Try.prog cfg 57 (rsOf Try.prog 57) h0) (args0 [a0]) h0 = F57H rc md (X 0) a0 h0 := by kernel_rfl
theorem F57_h2 (rc : Rec) (md : Md) (a0 : Value) (h0 : Heap) : F57H rc md (fun t h => J57_0 rc md h0 (t 2) (t 3) (t 19) (t 20) (t 21) h) a0 h0 = F57 rc md a0 h0 := by unfold F57H F57; kernel_rfl
theorem F57_eq0 (rc : Rec) (md : Md) (a0 : Value) (h0 : Heap) : callStep0 Try.prog cfg rc md 57 [a0] h0 = F57 rc md a0 h0 := by
  rw [F57_h0, exec_holes [([1, 1, 1, 0, 1, 0], 0)] (by kernel_rfl), F57_h1, show (goX Try.prog cfg rc md 33 (bodyOf Try.prog 57) [([1, 1, 1, 0, 1, 0], 0)] (retK Try.prog cfg 57 (rsOf Try.prog 57) h0)) 0 = _ from J57_0_cut rc md h0]
  exact F57_h2 rc _ a0 h0
theorem F57_eq (rc : Rec) (md : Md) (a0 : Value) (h0 : Heap) : callStep Try.prog cfg rc md 57 [a0] h0 = F57 rc md a0 h0 := (callStep_ne (by kernel_rfl)).trans (F57_eq0 rc md a0 h0)

/-- tombolo/mem.Over -/
noncomputable def F58 (rc : Rec) (md : Md) (a0 : Value) (h0 : Heap) : Option (Value × Heap) :=
  cl (rc md 64 [a0] h0) fun v1 h2 =>
  aBuild Try.prog 150 [(0, v1)] fun v3 =>
  let h4 : Heap := h2 ++ [.own v3.cells.toList]
  some ((.pointer (some ⟨h2.length, 0, none⟩)), h4)
theorem F58_eq0 (rc : Rec) (md : Md) (a0 : Value) (h0 : Heap) : callStep0 Try.prog cfg rc md 58 [a0] h0 = F58 rc md a0 h0 := by kernel_rfl
theorem F58_eq (rc : Rec) (md : Md) (a0 : Value) (h0 : Heap) : callStep Try.prog cfg rc md 58 [a0] h0 = F58 rc md a0 h0 := (callStep_ne (by kernel_rfl)).trans (F58_eq0 rc md a0 h0)

/-- (*tombolo/mem.Trace).Store -/
noncomputable def F59 (rc : Rec) (md : Md) (a0 : Value) (a1 : Int) (a2 : Int) (h0 : Heap) : Option (Value × Heap) :=
  bif okNil Try.prog a0 then
  fA 0 a0 fun v1 =>
  ld1 v1 h0 fun v2 =>
  cl (rc md 33 [v2, (.int .i64 a1), (.int .u64 a2)] h0) fun v3 h4 =>
  cIn .i64 v3 fun n5 =>
  bif (n5 == 0) then
    bif okNil Try.prog a0 then
    fA 1 a0 fun v6 =>
    ld1 v6 h4 fun v7 =>
    let h8 : Heap := h4 ++ [.own [(.bool true), (.int .i64 a1), (.int .u64 a2)]]
    aBuiltin Try.prog md .append #[111, 111] [v7, (.slice (some ⟨h4.length, 0, none⟩) 1 3)] h8 fun v9 h10 =>
    bif okNil Try.prog a0 then
    fA 1 a0 fun v11 =>
    st md 1 v11 v9 h10 fun h12 =>
    some ((.tuple #[]), h12)
    else none
    else none
  else
    some ((.tuple #[]), h4)
  else none
theorem F59_eq0 (rc : Rec) (md : Md) (a0 : Value) (a1 : Int) (a2 : Int) (h0 : Heap) : callStep0 Try.prog cfg rc md 59 [a0, (.int .i64 a1), (.int .u64 a2)] h0 = F59 rc md a0 a1 a2 h0 := by kernel_rfl
theorem F59_eq (rc : Rec) (md : Md) (a0 : Value) (a1 : Int) (a2 : Int) (h0 : Heap) : callStep Try.prog cfg rc md 59 [a0, (.int .i64 a1), (.int .u64 a2)] h0 = F59 rc md a0 a1 a2 h0 := (callStep_ne (by kernel_rfl)).trans (F59_eq0 rc md a0 a1 a2 h0)

/-- (*tombolo/mem.Trace).Load -/
noncomputable def F60 (rc : Rec) (md : Md) (a0 : Value) (a1 : Int) (h0 : Heap) : Option (Value × Heap) :=
  bif okNil Try.prog a0 then
  fA 0 a0 fun v1 =>
  ld1 v1 h0 fun v2 =>
  cl (rc md 53 [v2, (.int .i64 a1)] h0) fun v3 h4 =>
  exT v3 0 fun v5 =>
  cIn .u64 v5 fun n6 =>
  exT v3 1 fun v7 =>
  cIn .i64 v7 fun n8 =>
  bif (n8 == 0) then
    bif okNil Try.prog a0 then
    fA 1 a0 fun v9 =>
    ld1 v9 h4 fun v10 =>
    let h11 : Heap := h4 ++ [.own [(.bool false), (.int .i64 a1), (.int .u64 n6)]]
    aBuiltin Try.prog md .append #[111, 111] [v10, (.slice (some ⟨h4.length, 0, none⟩) 1 3)] h11 fun v12 h13 =>
    bif okNil Try.prog a0 then
    fA 1 a0 fun v14 =>
    st md 1 v14 v12 h13 fun h15 =>
    some ((.int .u64 n6), h15)
    else none
    else none
  else
    some ((.int .u64 n6), h4)
  else none
theorem F60_eq0 (rc : Rec) (md : Md) (a0 : Value) (a1 : Int) (h0 : Heap) : callStep0 Try.prog cfg rc md 60 [a0, (.int .i64 a1)] h0 = F60 rc md a0 a1 h0 := by kernel_rfl
theorem F60_eq (rc : Rec) (md : Md) (a0 : Value) (a1 : Int) (h0 : Heap) : callStep Try.prog cfg rc md 60 [a0, (.int .i64 a1)] h0 = F60 rc md a0 a1 h0 := (callStep_ne (by kernel_rfl)).trans (F60_eq0 rc md a0 a1 h0)

/-- (*tombolo/mem.Trace).Row -/
noncomputable def F61 (rc : Rec) (md : Md) (a0 : Value) (h0 : Heap) : Option (Value × Heap) :=
  bif okNil Try.prog a0 then
  fA 1 a0 fun v1 =>
  ld1 v1 h0 fun v2 =>
  cl (rc md 88 [v2] h0) fun v3 h4 =>
  some (v3, h4)
  else none
theorem F61_eq0 (rc : Rec) (md : Md) (a0 : Value) (h0 : Heap) : callStep0 Try.prog cfg rc md 61 [a0] h0 = F61 rc md a0 h0 := by kernel_rfl
theorem F61_eq (rc : Rec) (md : Md) (a0 : Value) (h0 : Heap) : callStep Try.prog cfg rc md 61 [a0] h0 = F61 rc md a0 h0 := (callStep_ne (by kernel_rfl)).trans (F61_eq0 rc md a0 h0)

/-- tombolo/mem.Replay -/
noncomputable def J62_1 (rc : Rec) (md : Md) (h0 : Heap) (s1 : Value) (h : Heap) : Option (Value × Heap) :=
  lenS s1 fun v1 =>
  cIn .i64 v1 fun n2 =>
  some ((.tuple #[(.int .i64 n2), (.bool true)]), List.take h0.length h)
theorem J62_1_at (rc : Rec) (md : Md) (h0 : Heap) (t : T) (h : Heap) : cut Try.prog cfg rc md 36 (bodyOf Try.prog 62) [1, 1] (retK Try.prog cfg 62 (rsOf Try.prog 62) h0) t h = J62_1 rc md h0 (t 1) h := by kernel_rfl
theorem J62_1_cut (rc : Rec) (md : Md) (h0 : Heap) : cut Try.prog cfg rc md 36 (bodyOf Try.prog 62) [1, 1] (retK Try.prog cfg 62 (rsOf Try.prog 62) h0) = fun t h => J62_1 rc md h0 (t 1) h := funext fun t => funext fun h => J62_1_at rc md h0 t h
noncomputable def Jk62_0 (rc : Rec) (md : Md) (h0 : Heap) (e : Exit) (s0 : Value) (s1 : Value) (s4 : Value) (s5 : Value) (s8 : Value) (s9 : Value) (s10 : Value) (h : Heap) : Option (Value × Heap) :=
  match e with
  | .normal =>
    J62_1 rc md h0 s1 h
  | .exit j =>
    bif Nat.beq j 0 then
      J62_1 rc md h0 s1 h
    else
      none
  | .ret =>
    fin1 h0 (.tuple #[s4, s5]) h
  | .goto l => none
  | .panic ps => none
  | .outgrown => none
noncomputable def Jk62_0H (rc : Rec) (md : Md) (h0 : Heap) (X1 : T → Heap → Option (Value × Heap)) (e : Exit) (t : T) (h : Heap) : Option (Value × Heap) :=
  match e with
  | .normal =>
    X1 t h
  | .exit j =>
    bif Nat.beq j 0 then
      X1 t h
    else
      none
  | .ret =>
    fin1 h0 (.tuple #[(t 4), (t 5)]) h
  | .goto l => none
  | .panic ps => none
  | .outgrown => none
theorem Jk62_0_h1 (rc : Rec) (md : Md) (h0 : Heap) (X : Nat → T → Heap → Option (Value × Heap)) (e : Exit) (t : T) (h : Heap) : kAtG Try.prog cfg X rc md 36 (replS (bodyOf Try.prog 62) [([1, 1], 1)]) [1, 0, 1, 0] (retK Try.prog cfg 62 (rsOf Try.prog 62) h0) e t h = Jk62_0H rc md h0 (X 1) e t h := by cases e <;> kernel_rfl
theorem Jk62_0_h2 (rc : Rec) (md : Md) (h0 : Heap) (e : Exit) (t : T) (h : Heap) : Jk62_0H rc md h0 (fun t h => J62_1 rc md h0 (t 1) h) e t h = Jk62_0 rc md h0 e (t 0) (t 1) (t 4) (t 5) (t 8) (t 9) (t 10) h := by cases e <;> (unfold Jk62_0H Jk62_0; kernel_rfl)
theorem Jk62_0_at (rc : Rec) (md : Md) (h0 : Heap) (e : Exit) (t : T) (h : Heap) : kAt Try.prog cfg rc md 36 (bodyOf Try.prog 62) [1, 0, 1, 0] (retK Try.prog cfg 62 (rsOf Try.prog 62) h0) e t h = Jk62_0 rc md h0 e (t 0) (t 1) (t 4) (t 5) (t 8) (t 9) (t 10) h := by
  rw [kAt_holes [([1, 1], 1)] [1, 0, 1, 0] (by kernel_rfl), Jk62_0_h1, show (goX Try.prog cfg rc md 36 (bodyOf Try.prog 62) [([1, 1], 1)] (retK Try.prog cfg 62 (rsOf Try.prog 62) h0)) 1 = _ from J62_1_cut rc md h0]
  exact Jk62_0_h2 rc md h0 e t h
/-- a round -/
noncomputable def Jr62_0 (rc : Rec) (md : Md) (s0 : Value) (s1 : Value) (s4 : Value) (s5 : Value) (s8 : Value) (s9 : Value) (s10 : Value) (h : Heap) : Option (((Value × Value × Value × Value × Value × Value × Value) × Heap) ⊕ (Exit × (Value × Value × Value × Value × Value × Value × Value) × Heap)) :=
  aBin Try.prog .lss 3 s10 s9 fun v1 =>
  cBn v1 fun b2 =>
  bif b2 then
    ixSV 3 s8 s10 fun v3 =>
    ldN 3 v3 h fun v4 =>
    let h5 : Heap := h ++ [.own [(.bool false), (.int .i64 0), (.int .u64 0)]]
    st md 3 (.pointer (some ⟨h.length, 0, none⟩)) v4 h5 fun h6 =>
    ld1 (.pointer (some ⟨h.length, 0, none⟩)) h6 fun v7 =>
    cBn v7 fun b8 =>
    bif b8 then
      ld1 (.pointer (some ⟨h.length, 1, none⟩)) h6 fun v9 =>
      cIn .i64 v9 fun n10 =>
      ld1 (.pointer (some ⟨h.length, 2, none⟩)) h6 fun v11 =>
      cIn .u64 v11 fun n12 =>
      clI Try.prog rc md s0 "Store" [(.int .i64 n10), (.int .u64 n12)] h6 fun v13 h14 =>
      aBin Try.prog .add 3 s10 (.int .i64 1) fun v15 =>
      some (.inl ((s0, s1, s4, s5, s8, s9, v15), h14))
    else
      ld1 (.pointer (some ⟨h.length, 1, none⟩)) h6 fun v16 =>
      cIn .i64 v16 fun n17 =>
      clI Try.prog rc md s0 "Load" [(.int .i64 n17)] h6 fun v18 h19 =>
      cIn .u64 v18 fun n20 =>
      ld1 (.pointer (some ⟨h.length, 2, none⟩)) h19 fun v21 =>
      cIn .u64 v21 fun n22 =>
      cLE true (fun hq => ld1 (.pointer (some ⟨h.length, 2, none⟩)) hq some) (.int .u64 n22) h6 h19 <|
      bif (n20 != n22) then
        some (.inr (.ret, (s0, s1, s10, (.bool false), s8, s9, s10), h19))
      else
        aBin Try.prog .add 3 s10 (.int .i64 1) fun v23 =>
        some (.inl ((s0, s1, s4, s5, s8, s9, v23), h19))
  else
    some (.inr ((.exit 0), (s0, s1, s4, s5, s8, s9, s10), h))
theorem Jr62_0_at (rc : Rec) (md : Md) (t : T) (h : Heap) : exec Try.prog cfg rc md 36 (sub (bodyOf Try.prog 62) [1, 0, 1, 0, 0]) (rndK (fun t => (t 0, t 1, t 4, t 5, t 8, t 9, t 10))) t h = Jr62_0 rc md (t 0) (t 1) (t 4) (t 5) (t 8) (t 9) (t 10) h := by kernel_rfl
noncomputable def J62_0 (rc : Rec) (md : Md) (h0 : Heap) (s0 : Value) (s1 : Value) (s4 : Value) (s5 : Value) (s8 : Value) (s9 : Value) (s10 : Value) (h : Heap) : Option (Value × Heap) :=
  runL (fun x : (Value × Value × Value × Value × Value × Value × Value) × Heap => Jr62_0 rc md x.1.1 x.1.2.1 x.1.2.2.1 x.1.2.2.2.1 x.1.2.2.2.2.1 x.1.2.2.2.2.2.1 x.1.2.2.2.2.2.2 x.2) (fun e (s : Value × Value × Value × Value × Value × Value × Value) h => Jk62_0 rc md h0 e s.1 s.2.1 s.2.2.1 s.2.2.2.1 s.2.2.2.2.1 s.2.2.2.2.2.1 s.2.2.2.2.2.2 h) (s0, s1, s4, s5, s8, s9, s10) h
theorem J62_0_step (rc : Rec) (md : Md) (h0 : Heap) (s0 : Value) (s1 : Value) (s4 : Value) (s5 : Value) (s8 : Value) (s9 : Value) (s10 : Value) (h : Heap) : J62_0 rc md h0 s0 s1 s4 s5 s8 s9 s10 h = (Jr62_0 rc md s0 s1 s4 s5 s8 s9 s10 h).bind fun x => match x with
    | .inl (s, h) => J62_0 rc md h0 s.1 s.2.1 s.2.2.1 s.2.2.2.1 s.2.2.2.2.1 s.2.2.2.2.2.1 s.2.2.2.2.2.2 h
    | .inr (e, s, h) => Jk62_0 rc md h0 e s.1 s.2.1 s.2.2.1 s.2.2.2.1 s.2.2.2.2.1 s.2.2.2.2.2.1 s.2.2.2.2.2.2 h := by
  unfold J62_0
  rw [runL_eq]
  refine congrArg (Option.bind _) (funext fun x => ?_)
  rcases x with ⟨s, h⟩ | ⟨e, s, h⟩ <;> rfl
theorem J62_0_cut (rc : Rec) (md : Md) (h0 : Heap) : cut Try.prog cfg rc md 36 (bodyOf Try.prog 62) [1, 0, 1, 0] (retK Try.prog cfg 62 (rsOf Try.prog 62) h0) = fun t h => J62_0 rc md h0 (t 0) (t 1) (t 4) (t 5) (t 8) (t 9) (t 10) h := by
  funext t h
  have e : sub (bodyOf Try.prog 62) [1, 0, 1, 0] = .loop (sub (bodyOf Try.prog 62) [1, 0, 1, 0, 0]) := by kernel_rfl
  unfold cut
  rw [e]
  exact loop_eq (by kernel_rfl) (fun t => (t 0, t 1, t 4, t 5, t 8, t 9, t 10)) (fun x : (Value × Value × Value × Value × Value × Value × Value) × Heap => Jr62_0 rc md x.1.1 x.1.2.1 x.1.2.2.1 x.1.2.2.2.1 x.1.2.2.2.2.1 x.1.2.2.2.2.2.1 x.1.2.2.2.2.2.2 x.2) (fun t h => Jr62_0_at rc md t h) (fun e (s : Value × Value × Value × Value × Value × Value × Value) h => Jk62_0 rc md h0 e s.1 s.2.1 s.2.2.1 s.2.2.2.1 s.2.2.2.2.1 s.2.2.2.2.2.1 s.2.2.2.2.2.2 h) (fun e t h => Jk62_0_at rc md h0 e t h) t h
noncomputable def F62 (rc : Rec) (md : Md) (a0 : Value) (a1 : Value) (h0 : Heap) : Option (Value × Heap) :=
  lenS a1 fun v1 =>
  cIn .i64 v1 fun n2 =>
  J62_0 rc md h0 a0 a1 (.int .i64 0) (.bool false) a1 (.int .i64 n2) (.int .i64 0) h0
noncomputable def F62H (rc : Rec) (md : Md) (X0 : T → Heap → Option (Value × Heap)) (a0 : Value) (a1 : Value) (h0 : Heap) : Option (Value × Heap) :=
  lenS a1 fun v1 =>
  cIn .i64 v1 fun n2 =>
  X0 (upd (upd (upd (upd (upd (args0 [a0, a1]) 4 (.int .i64 0)) 5 (.bool false)) 8 a1) 9 (.int .i64 n2)) 10 (.int .i64 0)) h0
theorem F62_h0 (rc : Rec) (md : Md) (a0 : Value) (a1 : Value) (h0 : Heap) : callStep0 Try.prog cfg rc md 62 [a0, a1] h0 = exec Try.prog cfg rc ⟨md.ro, h0.length⟩ 36 (bodyOf Try.prog 62) (retK Try.prog cfg 62 (rsOf Try.prog 62) h0) (args0 [a0, a1]) h0 := callStep0_run (by kernel_rfl) (by kernel_rfl) (by kernel_rfl)
theorem F62_h1 (rc : Rec) (md : Md) (X : Nat → T → Heap → Option (Value × Heap)) (a0 : Value) (a1 : Value) (h0 : Heap) : execG Try.prog cfg X rc md 36 (replS (bodyOf Try.prog 62) [([1, 0, 1, 0], 0), ([1, 1], 1)]) (retK Try.prog cfg 62 (rsOf Try.prog 62) h0) (args0 [a0, a1]) h0 = F62H rc md (X 0) a0 a1 h0 := by kernel_rfl
theorem F62_h2 (rc : Rec) (md : Md) (a0 : Value) (a1 : Value) (h0 : Heap) : F62H rc md (fun t h => J62_0 rc md h0 (t 0) (t 1) (t 4) (t 5) (t 8) (t 9) (t 10) h) a0 a1 h0 = F62 rc md a0 a1 h0 := by unfold F62H F62; kernel_rfl
theorem F62_eq0 (rc : Rec) (md : Md) (a0 : Value) (a1 : Value) (h0 : Heap) : callStep0 Try.prog cfg rc md 62 [a0, a1] h0 = F62 rc ⟨md.ro, h0.length⟩ a0 a1 h0 := by
  rw [F62_h0, exec_holes [([1, 0, 1, 0], 0), ([1, 1], 1)] (by kernel_rfl), F62_h1, show (goX Try.prog cfg rc ⟨md.ro, h0.length⟩ 36 (bodyOf Try.prog 62) [([1, 0, 1, 0], 0), ([1, 1], 1)] (retK Try.prog cfg 62 (rsOf Try.prog 62) h0)) 0 = _ from J62_0_cut rc ⟨md.ro, h0.length⟩ h0]
  exact F62_h2 rc _ a0 a1 h0
theorem F62_eq (rc : Rec) (md : Md) (a0 : Value) (a1 : Value) (h0 : Heap) : callStep Try.prog cfg rc md 62 [a0, a1] h0 = F62 rc ⟨md.ro, h0.length⟩ a0 a1 h0 := (callStep_ne (by kernel_rfl)).trans (F62_eq0 rc md a0 a1 h0)

/-- (*tombolo/mem.Trace).Changed -/
noncomputable def J66_1 (rc : Rec) (md : Md) (h0 : Heap) (s3 : Value) (h : Heap) : Option (Value × Heap) :=
  cl (rc md 91 [s3] h) fun v1 h2 =>
  cl (rc md 92 [s3] h2) fun v3 h4 =>
  some (v3, h4)
theorem J66_1_at (rc : Rec) (md : Md) (h0 : Heap) (t : T) (h : Heap) : cut Try.prog cfg rc md 27 (bodyOf Try.prog 66) [1, 1, 1] (retK Try.prog cfg 66 (rsOf Try.prog 66) h0) t h = J66_1 rc md h0 (t 3) h := by kernel_rfl
theorem J66_1_cut (rc : Rec) (md : Md) (h0 : Heap) : cut Try.prog cfg rc md 27 (bodyOf Try.prog 66) [1, 1, 1] (retK Try.prog cfg 66 (rsOf Try.prog 66) h0) = fun t h => J66_1 rc md h0 (t 3) h := funext fun t => funext fun h => J66_1_at rc md h0 t h
noncomputable def Jk66_0 (rc : Rec) (md : Md) (h0 : Heap) (e : Exit) (s2 : Value) (s3 : Value) (s9 : Value) (s10 : Value) (s11 : Value) (h : Heap) : Option (Value × Heap) :=
  match e with
  | .normal =>
    J66_1 rc md h0 s3 h
  | .exit j =>
    bif Nat.beq j 0 then
      J66_1 rc md h0 s3 h
    else
      none
  | .ret =>
    some (s2, h)
  | .goto l => none
  | .panic ps => none
  | .outgrown => none
noncomputable def Jk66_0H (rc : Rec) (md : Md) (h0 : Heap) (X1 : T → Heap → Option (Value × Heap)) (e : Exit) (t : T) (h : Heap) : Option (Value × Heap) :=
  match e with
  | .normal =>
    X1 t h
  | .exit j =>
    bif Nat.beq j 0 then
      X1 t h
    else
      none
  | .ret =>
    some ((t 2), h)
  | .goto l => none
  | .panic ps => none
  | .outgrown => none
theorem Jk66_0_h1 (rc : Rec) (md : Md) (h0 : Heap) (X : Nat → T → Heap → Option (Value × Heap)) (e : Exit) (t : T) (h : Heap) : kAtG Try.prog cfg X rc md 27 (replS (bodyOf Try.prog 66) [([1, 1, 1], 1)]) [1, 1, 0, 1, 0] (retK Try.prog cfg 66 (rsOf Try.prog 66) h0) e t h = Jk66_0H rc md h0 (X 1) e t h := by cases e <;> kernel_rfl
theorem Jk66_0_h2 (rc : Rec) (md : Md) (h0 : Heap) (e : Exit) (t : T) (h : Heap) : Jk66_0H rc md h0 (fun t h => J66_1 rc md h0 (t 3) h) e t h = Jk66_0 rc md h0 e (t 2) (t 3) (t 9) (t 10) (t 11) h := by cases e <;> (unfold Jk66_0H Jk66_0; kernel_rfl)
theorem Jk66_0_at (rc : Rec) (md : Md) (h0 : Heap) (e : Exit) (t : T) (h : Heap) : kAt Try.prog cfg rc md 27 (bodyOf Try.prog 66) [1, 1, 0, 1, 0] (retK Try.prog cfg 66 (rsOf Try.prog 66) h0) e t h = Jk66_0 rc md h0 e (t 2) (t 3) (t 9) (t 10) (t 11) h := by
  rw [kAt_holes [([1, 1, 1], 1)] [1, 1, 0, 1, 0] (by kernel_rfl), Jk66_0_h1, show (goX Try.prog cfg rc md 27 (bodyOf Try.prog 66) [([1, 1, 1], 1)] (retK Try.prog cfg 66 (rsOf Try.prog 66) h0)) 1 = _ from J66_1_cut rc md h0]
  exact Jk66_0_h2 rc md h0 e t h
/-- a round -/
noncomputable def Jr66_0 (rc : Rec) (md : Md) (s2 : Value) (s3 : Value) (s9 : Value) (s10 : Value) (s11 : Value) (h : Heap) : Option (((Value × Value × Value × Value × Value) × Heap) ⊕ (Exit × (Value × Value × Value × Value × Value) × Heap)) :=
  aBin Try.prog .lss 3 s11 s10 fun v1 =>
  cBn v1 fun b2 =>
  bif b2 then
    ixSV 3 s9 s11 fun v3 =>
    ldN 3 v3 h fun v4 =>
    let h5 : Heap := h ++ [.own [(.bool false), (.int .i64 0), (.int .u64 0)]]
    st md 3 (.pointer (some ⟨h.length, 0, none⟩)) v4 h5 fun h6 =>
    ld1 (.pointer (some ⟨h.length, 0, none⟩)) h6 fun v7 =>
    cBn v7 fun b8 =>
    bif b8 then
      ld1 (.pointer (some ⟨h.length, 1, none⟩)) h6 fun v9 =>
      cIn .i64 v9 fun n10 =>
      let h11 : Heap := h6 ++ [.own [(.int .i64 n10)]]
      aBuiltin Try.prog md .append #[22, 22] [s3, (.slice (some ⟨h6.length, 0, none⟩) 1 1)] h11 fun v12 h13 =>
      aBin Try.prog .add 3 s11 (.int .i64 1) fun v14 =>
      some (.inl ((s2, v12, s9, s10, v14), h13))
    else
      aBin Try.prog .add 3 s11 (.int .i64 1) fun v15 =>
      some (.inl ((s2, s3, s9, s10, v15), h6))
  else
    some (.inr ((.exit 0), (s2, s3, s9, s10, s11), h))
theorem Jr66_0_at (rc : Rec) (md : Md) (t : T) (h : Heap) : exec Try.prog cfg rc md 27 (sub (bodyOf Try.prog 66) [1, 1, 0, 1, 0, 0]) (rndK (fun t => (t 2, t 3, t 9, t 10, t 11))) t h = Jr66_0 rc md (t 2) (t 3) (t 9) (t 10) (t 11) h := by kernel_rfl
noncomputable def J66_0 (rc : Rec) (md : Md) (h0 : Heap) (s2 : Value) (s3 : Value) (s9 : Value) (s10 : Value) (s11 : Value) (h : Heap) : Option (Value × Heap) :=
  runL (fun x : (Value × Value × Value × Value × Value) × Heap => Jr66_0 rc md x.1.1 x.1.2.1 x.1.2.2.1 x.1.2.2.2.1 x.1.2.2.2.2 x.2) (fun e (s : Value × Value × Value × Value × Value) h => Jk66_0 rc md h0 e s.1 s.2.1 s.2.2.1 s.2.2.2.1 s.2.2.2.2 h) (s2, s3, s9, s10, s11) h
theorem J66_0_step (rc : Rec) (md : Md) (h0 : Heap) (s2 : Value) (s3 : Value) (s9 : Value) (s10 : Value) (s11 : Value) (h : Heap) : J66_0 rc md h0 s2 s3 s9 s10 s11 h = (Jr66_0 rc md s2 s3 s9 s10 s11 h).bind fun x => match x with
    | .inl (s, h) => J66_0 rc md h0 s.1 s.2.1 s.2.2.1 s.2.2.2.1 s.2.2.2.2 h
    | .inr (e, s, h) => Jk66_0 rc md h0 e s.1 s.2.1 s.2.2.1 s.2.2.2.1 s.2.2.2.2 h := by
  unfold J66_0
  rw [runL_eq]
  refine congrArg (Option.bind _) (funext fun x => ?_)
  rcases x with ⟨s, h⟩ | ⟨e, s, h⟩ <;> rfl
theorem J66_0_cut (rc : Rec) (md : Md) (h0 : Heap) : cut Try.prog cfg rc md 27 (bodyOf Try.prog 66) [1, 1, 0, 1, 0] (retK Try.prog cfg 66 (rsOf Try.prog 66) h0) = fun t h => J66_0 rc md h0 (t 2) (t 3) (t 9) (t 10) (t 11) h := by
  funext t h
  have e : sub (bodyOf Try.prog 66) [1, 1, 0, 1, 0] = .loop (sub (bodyOf Try.prog 66) [1, 1, 0, 1, 0, 0]) := by kernel_rfl
  unfold cut
  rw [e]
  exact loop_eq (by kernel_rfl) (fun t => (t 2, t 3, t 9, t 10, t 11)) (fun x : (Value × Value × Value × Value × Value) × Heap => Jr66_0 rc md x.1.1 x.1.2.1 x.1.2.2.1 x.1.2.2.2.1 x.1.2.2.2.2 x.2) (fun t h => Jr66_0_at rc md t h) (fun e (s : Value × Value × Value × Value × Value) h => Jk66_0 rc md h0 e s.1 s.2.1 s.2.2.1 s.2.2.2.1 s.2.2.2.2 h) (fun e t h => Jk66_0_at rc md h0 e t h) t h
noncomputable def F66 (rc : Rec) (md : Md) (a0 : Value) (h0 : Heap) : Option (Value × Heap) :=
  bif okNil Try.prog a0 then
  fA 1 a0 fun v1 =>
  ld1 v1 h0 fun v2 =>
  lenS v2 fun v3 =>
  cIn .i64 v3 fun n4 =>
  J66_0 rc md h0 (.slice none 0 0) (.slice none 0 0) v2 (.int .i64 n4) (.int .i64 0) h0
  else none
noncomputable def F66H (rc : Rec) (md : Md) (X0 : T → Heap → Option (Value × Heap)) (a0 : Value) (h0 : Heap) : Option (Value × Heap) :=
  bif okNil Try.prog a0 then
  fA 1 a0 fun v1 =>
  ld1 v1 h0 fun v2 =>
  lenS v2 fun v3 =>
  cIn .i64 v3 fun n4 =>
  X0 (upd (upd (upd (upd (upd (upd (upd (upd (args0 [a0]) 2 (.slice none 0 0)) 3 (.slice none 0 0)) 6 a0) 7 a0) 8 v1) 9 v2) 10 (.int .i64 n4)) 11 (.int .i64 0)) h0
  else none
theorem F66_h0 (rc : Rec) (md : Md) (a0 : Value) (h0 : Heap) : callStep0 Try.prog cfg rc md 66 [a0] h0 = exec Try.prog cfg rc md 27 (bodyOf Try.prog 66) (retK Try.prog cfg 66 (rsOf Try.prog 66) h0) (args0 [a0]) h0 := callStep0_run (by kernel_rfl) (by kernel_rfl) (by kernel_rfl)
theorem F66_h1 (rc : Rec) (md : Md) (X : Nat → T → Heap → Option (Value × Heap)) (a0 : Value) (h0 : Heap) : execG Try.prog cfg X rc md 27 (replS (bodyOf Try.prog 66) [([1, 1, 0, 1, 0], 0), ([1, 1, 1], 1)]) (retK Try.prog cfg 66 (rsOf Try.prog 66) h0) (args0 [a0]) h0 = F66H rc md (X 0) a0 h0 := by kernel_rfl
theorem F66_h2 (rc : Rec) (md : Md) (a0 : Value) (h0 : Heap) : F66H rc md (fun t h => J66_0 rc md h0 (t 2) (t 3) (t 9) (t 10) (t 11) h) a0 h0 = F66 rc md a0 h0 := by unfold F66H F66; kernel_rfl
theorem F66_eq0 (rc : Rec) (md : Md) (a0 : Value) (h0 : Heap) : callStep0 Try.prog cfg rc md 66 [a0] h0 = F66 rc md a0 h0 := by
  rw [F66_h0, exec_holes [([1, 1, 0, 1, 0], 0), ([1, 1, 1], 1)] (by kernel_rfl), F66_h1, show (goX Try.prog cfg rc md 27 (bodyOf Try.prog 66) [([1, 1, 0, 1, 0], 0), ([1, 1, 1], 1)] (retK Try.prog cfg 66 (rsOf Try.prog 66) h0)) 0 = _ from J66_0_cut rc md h0]
  exact F66_h2 rc _ a0 h0
theorem F66_eq (rc : Rec) (md : Md) (a0 : Value) (h0 : Heap) : callStep Try.prog cfg rc md 66 [a0] h0 = F66 rc md a0 h0 := (callStep_ne (by kernel_rfl)).trans (F66_eq0 rc md a0 h0)

/-- slices.Clone[[]tombolo/mem.Access,tombolo/mem.Access] -/
noncomputable def F88 (rc : Rec) (md : Md) (a0 : Value) (h0 : Heap) : Option (Value × Heap) :=
  aBin Try.prog .eql 111 a0 (.slice none 0 0) fun v1 =>
  cBn v1 fun b2 =>
  bif b2 then
    some ((.slice none 0 0), h0)
  else
    let h3 : Heap := h0 ++ [.own []]
    aBuiltin Try.prog md .append #[111, 111] [(.slice (some ⟨h0.length, 0, none⟩) 0 3), a0] h3 fun v4 h5 =>
    some (v4, h5)
theorem F88_eq0 (rc : Rec) (md : Md) (a0 : Value) (h0 : Heap) : callStep0 Try.prog cfg rc md 88 [a0] h0 = F88 rc md a0 h0 := by kernel_rfl
theorem F88_eq (rc : Rec) (md : Md) (a0 : Value) (h0 : Heap) : callStep Try.prog cfg rc md 88 [a0] h0 = F88 rc md a0 h0 := (callStep_ne (by kernel_rfl)).trans (F88_eq0 rc md a0 h0)

/-- slices.Clone[[]uint64,uint64] -/
noncomputable def F89 (rc : Rec) (md : Md) (a0 : Value) (h0 : Heap) : Option (Value × Heap) :=
  aBin Try.prog .eql 103 a0 (.slice none 0 0) fun v1 =>
  cBn v1 fun b2 =>
  bif b2 then
    some ((.slice none 0 0), h0)
  else
    let h3 : Heap := h0 ++ [.own []]
    aBuiltin Try.prog md .append #[103, 103] [(.slice (some ⟨h0.length, 0, none⟩) 0 1), a0] h3 fun v4 h5 =>
    some (v4, h5)
theorem F89_eq0 (rc : Rec) (md : Md) (a0 : Value) (h0 : Heap) : callStep0 Try.prog cfg rc md 89 [a0] h0 = F89 rc md a0 h0 := by kernel_rfl
theorem F89_eq (rc : Rec) (md : Md) (a0 : Value) (h0 : Heap) : callStep Try.prog cfg rc md 89 [a0] h0 = F89 rc md a0 h0 := (callStep_ne (by kernel_rfl)).trans (F89_eq0 rc md a0 h0)

/-- slices.Equal[[]uint64,uint64] -/
noncomputable def Jk90_0 (rc : Rec) (md : Md) (h0 : Heap) (e : Exit) (s0 : Value) (s1 : Value) (s4 : Value) (s12 : Value) (s13 : Value) (h : Heap) : Option (Value × Heap) :=
  match e with
  | .normal =>
    some ((.bool true), h0)
  | .exit j =>
    bif Nat.beq j 0 then
      some ((.bool true), h0)
    else
      none
  | .ret =>
    fin2 h0 s4
  | .goto l => none
  | .panic ps => none
  | .outgrown => none
theorem Jk90_0_at (rc : Rec) (md : Md) (h0 : Heap) (e : Exit) (t : T) (h : Heap) : kAt Try.prog cfg rc md 26 (bodyOf Try.prog 90) [1, 1, 0, 1, 0] (retK Try.prog cfg 90 (rsOf Try.prog 90) h0) e t h = Jk90_0 rc md h0 e (t 0) (t 1) (t 4) (t 12) (t 13) h := by cases e <;> kernel_rfl
/-- a round -/
noncomputable def Jr90_0 (rc : Rec) (md : Md) (s0 : Value) (s1 : Value) (s4 : Value) (s12 : Value) (s13 : Value) (h : Heap) : Option (((Value × Value × Value × Value × Value) × Heap) ⊕ (Exit × (Value × Value × Value × Value × Value) × Heap)) :=
  aBin Try.prog .lss 3 s13 s12 fun v1 =>
  cBn v1 fun b2 =>
  bif b2 then
    ixSV 1 s0 s13 fun v3 =>
    ld1 v3 h fun v4 =>
    cIn .u64 v4 fun n5 =>
    ixSV 1 s1 s13 fun v6 =>
    ld1 v6 h fun v7 =>
    cIn .u64 v7 fun n8 =>
    bif (n5 != n8) then
      some (.inr (.ret, (s0, s1, (.bool false), s12, s13), h))
    else
      aBin Try.prog .add 3 s13 (.int .i64 1) fun v9 =>
      some (.inl ((s0, s1, s4, s12, v9), h))
  else
    some (.inr ((.exit 0), (s0, s1, s4, s12, s13), h))
theorem Jr90_0_at (rc : Rec) (md : Md) (t : T) (h : Heap) : exec Try.prog cfg rc md 26 (sub (bodyOf Try.prog 90) [1, 1, 0, 1, 0, 0]) (rndK (fun t => (t 0, t 1, t 4, t 12, t 13))) t h = Jr90_0 rc md (t 0) (t 1) (t 4) (t 12) (t 13) h := by kernel_rfl
noncomputable def J90_0 (rc : Rec) (md : Md) (h0 : Heap) (s0 : Value) (s1 : Value) (s4 : Value) (s12 : Value) (s13 : Value) (h : Heap) : Option (Value × Heap) :=
  runL (fun x : (Value × Value × Value × Value × Value) × Heap => Jr90_0 rc md x.1.1 x.1.2.1 x.1.2.2.1 x.1.2.2.2.1 x.1.2.2.2.2 x.2) (fun e (s : Value × Value × Value × Value × Value) h => Jk90_0 rc md h0 e s.1 s.2.1 s.2.2.1 s.2.2.2.1 s.2.2.2.2 h) (s0, s1, s4, s12, s13) h
theorem J90_0_step (rc : Rec) (md : Md) (h0 : Heap) (s0 : Value) (s1 : Value) (s4 : Value) (s12 : Value) (s13 : Value) (h : Heap) : J90_0 rc md h0 s0 s1 s4 s12 s13 h = (Jr90_0 rc md s0 s1 s4 s12 s13 h).bind fun x => match x with
    | .inl (s, h) => J90_0 rc md h0 s.1 s.2.1 s.2.2.1 s.2.2.2.1 s.2.2.2.2 h
    | .inr (e, s, h) => Jk90_0 rc md h0 e s.1 s.2.1 s.2.2.1 s.2.2.2.1 s.2.2.2.2 h := by
  unfold J90_0
  rw [runL_eq]
  refine congrArg (Option.bind _) (funext fun x => ?_)
  rcases x with ⟨s, h⟩ | ⟨e, s, h⟩ <;> rfl
theorem J90_0_cut (rc : Rec) (md : Md) (h0 : Heap) : cut Try.prog cfg rc md 26 (bodyOf Try.prog 90) [1, 1, 0, 1, 0] (retK Try.prog cfg 90 (rsOf Try.prog 90) h0) = fun t h => J90_0 rc md h0 (t 0) (t 1) (t 4) (t 12) (t 13) h := by
  funext t h
  have e : sub (bodyOf Try.prog 90) [1, 1, 0, 1, 0] = .loop (sub (bodyOf Try.prog 90) [1, 1, 0, 1, 0, 0]) := by kernel_rfl
  unfold cut
  rw [e]
  exact loop_eq (by kernel_rfl) (fun t => (t 0, t 1, t 4, t 12, t 13)) (fun x : (Value × Value × Value × Value × Value) × Heap => Jr90_0 rc md x.1.1 x.1.2.1 x.1.2.2.1 x.1.2.2.2.1 x.1.2.2.2.2 x.2) (fun t h => Jr90_0_at rc md t h) (fun e (s : Value × Value × Value × Value × Value) h => Jk90_0 rc md h0 e s.1 s.2.1 s.2.2.1 s.2.2.2.1 s.2.2.2.2 h) (fun e t h => Jk90_0_at rc md h0 e t h) t h
noncomputable def F90 (rc : Rec) (md : Md) (a0 : Value) (a1 : Value) (h0 : Heap) : Option (Value × Heap) :=
  lenS a0 fun v1 =>
  cIn .i64 v1 fun n2 =>
  lenS a1 fun v3 =>
  cIn .i64 v3 fun n4 =>
  bif (n2 != n4) then
    some ((.bool false), h0)
  else
    lenS a0 fun v5 =>
    cIn .i64 v5 fun n6 =>
    J90_0 rc md h0 a0 a1 (.bool false) (.int .i64 n6) (.int .i64 0) h0
noncomputable def F90H (rc : Rec) (md : Md) (X0 : T → Heap → Option (Value × Heap)) (a0 : Value) (a1 : Value) (h0 : Heap) : Option (Value × Heap) :=
  lenS a0 fun v1 =>
  cIn .i64 v1 fun n2 =>
  lenS a1 fun v3 =>
  cIn .i64 v3 fun n4 =>
  bif (n2 != n4) then
    some ((.bool false), h0)
  else
    lenS a0 fun v5 =>
    cIn .i64 v5 fun n6 =>
    X0 (upd (upd (upd (upd (upd (upd (upd (upd (upd (args0 [a0, a1]) 4 (.bool false)) 6 a0) 7 (.int .i64 n2)) 8 a1) 9 (.int .i64 n4)) 10 (.bool (n2 != n4))) 11 a0) 12 (.int .i64 n6)) 13 (.int .i64 0)) h0
theorem F90_h0 (rc : Rec) (md : Md) (a0 : Value) (a1 : Value) (h0 : Heap) : callStep0 Try.prog cfg rc md 90 [a0, a1] h0 = exec Try.prog cfg rc ⟨h0.length, h0.length⟩ 26 (bodyOf Try.prog 90) (retK Try.prog cfg 90 (rsOf Try.prog 90) h0) (args0 [a0, a1]) h0 := callStep0_run (by kernel_rfl) (by kernel_rfl) (by kernel_rfl)
theorem F90_h1 (rc : Rec) (md : Md) (X : Nat → T → Heap → Option (Value × Heap)) (a0 : Value) (a1 : Value) (h0 : Heap) : execG Try.prog cfg X rc md 26 (replS (bodyOf Try.prog 90) [([1, 1, 0, 1, 0], 0)]) (retK Try.prog cfg 90 (rsOf Try.prog 90) h0) (args0 [a0, a1]) h0 = F90H rc md (X 0) a0 a1 h0 := by kernel_rfl
theorem F90_h2 (rc : Rec) (md : Md) (a0 : Value) (a1 : Value) (h0 : Heap) : F90H rc md (fun t h => J90_0 rc md h0 (t 0) (t 1) (t 4) (t 12) (t 13) h) a0 a1 h0 = F90 rc md a0 a1 h0 := by unfold F90H F90; kernel_rfl
theorem F90_eq0 (rc : Rec) (md : Md) (a0 : Value) (a1 : Value) (h0 : Heap) : callStep0 Try.prog cfg rc md 90 [a0, a1] h0 = F90 rc ⟨h0.length, h0.length⟩ a0 a1 h0 := by
  rw [F90_h0, exec_holes [([1, 1, 0, 1, 0], 0)] (by kernel_rfl), F90_h1, show (goX Try.prog cfg rc ⟨h0.length, h0.length⟩ 26 (bodyOf Try.prog 90) [([1, 1, 0, 1, 0], 0)] (retK Try.prog cfg 90 (rsOf Try.prog 90) h0)) 0 = _ from J90_0_cut rc ⟨h0.length, h0.length⟩ h0]
  exact F90_h2 rc _ a0 a1 h0
theorem F90_eq (rc : Rec) (md : Md) (a0 : Value) (a1 : Value) (h0 : Heap) : callStep Try.prog cfg rc md 90 [a0, a1] h0 = F90 rc ⟨h0.length, h0.length⟩ a0 a1 h0 := (callStep_ne (by kernel_rfl)).trans (F90_eq0 rc md a0 a1 h0)

end Go.Det.E
