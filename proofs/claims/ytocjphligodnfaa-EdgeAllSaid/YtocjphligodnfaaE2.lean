/- Printed functions. -/
import Derived.Test.YtocjphligodnfaaE1
import Derived.Test.YtocjphligodnfaaDetT
import Derived.Test.YtocjphligodnfaaDetX
import Derived.Test.YtocjphligodnfaaProg
set_option autoImplicit false
set_option linter.unusedVariables false
set_option linter.unusedSimpArgs false
namespace Go.Det.E
open Go.Proofs Go.Det

/-- tombolo/tombololaw11.EdgePlays -/
noncomputable def Jk8_0 (rc : Rec) (md : Md) (h0 : Heap) (e : Exit) (s4 : Value) (s7 : Value) (s30 : Value) (s31 : Value) (s32 : Value) (h : Heap) : Option (Value × Heap) :=
  match e with
  | .normal =>
    cl (rc md 41 [] h) fun v1 h2 =>
    cBn v1 fun b3 =>
    some ((.bool b3), List.take h0.length h2)
  | .exit j =>
    bif Nat.beq j 0 then
      cl (rc md 41 [] h) fun v4 h5 =>
      cBn v4 fun b6 =>
      some ((.bool b6), List.take h0.length h5)
    else
      none
  | .ret =>
    fin1 h0 s4 h
  | .goto l => none
  | .panic ps => none
  | .outgrown => none
theorem Jk8_0_at (rc : Rec) (md : Md) (h0 : Heap) (e : Exit) (t : T) (h : Heap) : kAt Try.prog cfg rc md 44 (bodyOf Try.prog 8) [1, 1, 1, 1, 1, 0, 1, 0] (retK Try.prog cfg 8 (rsOf Try.prog 8) h0) e t h = Jk8_0 rc md h0 e (t 4) (t 7) (t 30) (t 31) (t 32) h := by cases e <;> kernel_rfl
/-- a round -/
noncomputable def Jr8_0 (rc : Rec) (md : Md) (s4 : Value) (s7 : Value) (s30 : Value) (s31 : Value) (s32 : Value) (h : Heap) : Option (((Value × Value × Value × Value × Value) × Heap) ⊕ (Exit × (Value × Value × Value × Value × Value) × Heap)) :=
  aBin Try.prog .lss 3 s32 s31 fun v1 =>
  cBn v1 fun b2 =>
  bif b2 then
    ixSV 6 s30 s32 fun v3 =>
    ldN 6 v3 h fun v4 =>
    let h5 : Heap := h ++ [.own [(.int .i64 0), (.int .i64 0), (.int .i64 0), (.int .i64 0), (.int .i64 0), (.bool false)]]
    st md 6 (.pointer (some ⟨h.length, 0, none⟩)) v4 h5 fun h6 =>
    ldN 6 (.pointer (some ⟨h.length, 0, none⟩)) h6 fun v7 =>
    cl (rc md 43 [s7, v7] h6) fun v8 h9 =>
    cl (rc md 44 [s7] h9) fun v10 h11 =>
    cBn v10 fun b12 =>
    bif !b12 then
      some (.inr (.ret, ((.bool false), s7, s30, s31, s32), h11))
    else
      aBin Try.prog .add 3 s32 (.int .i64 1) fun v13 =>
      some (.inl ((s4, s7, s30, s31, v13), h11))
  else
    some (.inr ((.exit 0), (s4, s7, s30, s31, s32), h))
theorem Jr8_0_at (rc : Rec) (md : Md) (t : T) (h : Heap) : exec Try.prog cfg rc md 44 (sub (bodyOf Try.prog 8) [1, 1, 1, 1, 1, 0, 1, 0, 0]) (rndK (fun t => (t 4, t 7, t 30, t 31, t 32))) t h = Jr8_0 rc md (t 4) (t 7) (t 30) (t 31) (t 32) h := by kernel_rfl
noncomputable def J8_0 (rc : Rec) (md : Md) (h0 : Heap) (s4 : Value) (s7 : Value) (s30 : Value) (s31 : Value) (s32 : Value) (h : Heap) : Option (Value × Heap) :=
  runL (fun x : (Value × Value × Value × Value × Value) × Heap => Jr8_0 rc md x.1.1 x.1.2.1 x.1.2.2.1 x.1.2.2.2.1 x.1.2.2.2.2 x.2) (fun e (s : Value × Value × Value × Value × Value) h => Jk8_0 rc md h0 e s.1 s.2.1 s.2.2.1 s.2.2.2.1 s.2.2.2.2 h) (s4, s7, s30, s31, s32) h
theorem J8_0_step (rc : Rec) (md : Md) (h0 : Heap) (s4 : Value) (s7 : Value) (s30 : Value) (s31 : Value) (s32 : Value) (h : Heap) : J8_0 rc md h0 s4 s7 s30 s31 s32 h = (Jr8_0 rc md s4 s7 s30 s31 s32 h).bind fun x => match x with
    | .inl (s, h) => J8_0 rc md h0 s.1 s.2.1 s.2.2.1 s.2.2.2.1 s.2.2.2.2 h
    | .inr (e, s, h) => Jk8_0 rc md h0 e s.1 s.2.1 s.2.2.1 s.2.2.2.1 s.2.2.2.2 h := by
  unfold J8_0
  rw [runL_eq]
  refine congrArg (Option.bind _) (funext fun x => ?_)
  rcases x with ⟨s, h⟩ | ⟨e, s, h⟩ <;> rfl
theorem J8_0_cut (rc : Rec) (md : Md) (h0 : Heap) : cut Try.prog cfg rc md 44 (bodyOf Try.prog 8) [1, 1, 1, 1, 1, 0, 1, 0] (retK Try.prog cfg 8 (rsOf Try.prog 8) h0) = fun t h => J8_0 rc md h0 (t 4) (t 7) (t 30) (t 31) (t 32) h := by
  funext t h
  have e : sub (bodyOf Try.prog 8) [1, 1, 1, 1, 1, 0, 1, 0] = .loop (sub (bodyOf Try.prog 8) [1, 1, 1, 1, 1, 0, 1, 0, 0]) := by kernel_rfl
  unfold cut
  rw [e]
  exact loop_eq (by kernel_rfl) (fun t => (t 4, t 7, t 30, t 31, t 32)) (fun x : (Value × Value × Value × Value × Value) × Heap => Jr8_0 rc md x.1.1 x.1.2.1 x.1.2.2.1 x.1.2.2.2.1 x.1.2.2.2.2 x.2) (fun t h => Jr8_0_at rc md t h) (fun e (s : Value × Value × Value × Value × Value) h => Jk8_0 rc md h0 e s.1 s.2.1 s.2.2.1 s.2.2.2.1 s.2.2.2.2 h) (fun e t h => Jk8_0_at rc md h0 e t h) t h
noncomputable def F8 (rc : Rec) (md : Md) (a0_0 : Int) (a0_1 : Int) (a0_2 : Int) (a1 : Value) (h0 : Heap) : Option (Value × Heap) :=
  let h1 : Heap := h0 ++ [.own [(.int .i64 a0_0), (.int .i64 a0_1), (.int .i64 a0_2)]]
  ldN 3 (.pointer (some ⟨h0.length, 0, none⟩)) h1 fun v2 =>
  cl (rc md 40 [v2] h1) fun v3 h4 =>
  cBn v3 fun b5 =>
  (bif wantV (.bool (!b5)) false then
  some (a1, h4)
  else some (undef, h4)).bind fun p6 =>
  (bif wantV (.bool (!b5)) false then
  lenS p6.1 fun v7 =>
  cIn .i64 v7 fun n8 =>
  some ((.int .i64 n8), p6.2)
  else some (undef, p6.2)).bind fun p9 =>
  (bif wantV (.bool (!b5)) false then
  aBin Try.prog .gtr 3 p9.1 (.int .i64 60) fun v10 =>
  some (v10, p9.2)
  else some (undef, p9.2)).bind fun p11 =>
  cBn (bif !b5 then (.bool true) else p11.1) fun b12 =>
  bif b12 then
    cl (rc md 41 [] p11.2) fun v13 h14 =>
    cBn v13 fun b15 =>
    some ((.bool b15), List.take h0.length h14)
  else
    ldN 3 (.pointer (some ⟨h0.length, 0, none⟩)) p11.2 fun v16 =>
    cl (rc md 42 [v16] p11.2) fun v17 h18 =>
    exT v17 0 fun v19 =>
    exT v17 1 fun v20 =>
    cBn v20 fun b21 =>
    let h22 : Heap := h18 ++ [.own [(.int .i64 0), (.int .i64 0), (.int .i64 0), .nilIface]]
    st md 4 (.pointer (some ⟨h18.length, 0, none⟩)) v19 h22 fun h23 =>
    bif !b21 then
      some ((.bool false), List.take h0.length h23)
    else
      ldN 3 (.pointer (some ⟨h0.length, 0, none⟩)) h23 fun v24 =>
      ldN 4 (.pointer (some ⟨h18.length, 0, none⟩)) h23 fun v25 =>
      aBuild Try.prog 59 [(0, v24), (1, v25)] fun v26 =>
      let h27 : Heap := h23 ++ [.own v26.cells.toList]
      lenS a1 fun v28 =>
      cIn .i64 v28 fun n29 =>
      J8_0 rc md h0 (.bool false) (.pointer (some ⟨h23.length, 0, none⟩)) a1 (.int .i64 n29) (.int .i64 0) h27
noncomputable def F8H (rc : Rec) (md : Md) (X0 : T → Heap → Option (Value × Heap)) (a0_0 : Int) (a0_1 : Int) (a0_2 : Int) (a1 : Value) (h0 : Heap) : Option (Value × Heap) :=
  let h1 : Heap := h0 ++ [.own [(.int .i64 a0_0), (.int .i64 a0_1), (.int .i64 a0_2)]]
  ldN 3 (.pointer (some ⟨h0.length, 0, none⟩)) h1 fun v2 =>
  cl (rc md 40 [v2] h1) fun v3 h4 =>
  cBn v3 fun b5 =>
  (bif wantV (.bool (!b5)) false then
  some (a1, h4)
  else some (undef, h4)).bind fun p6 =>
  (bif wantV (.bool (!b5)) false then
  lenS p6.1 fun v7 =>
  cIn .i64 v7 fun n8 =>
  some ((.int .i64 n8), p6.2)
  else some (undef, p6.2)).bind fun p9 =>
  (bif wantV (.bool (!b5)) false then
  aBin Try.prog .gtr 3 p9.1 (.int .i64 60) fun v10 =>
  some (v10, p9.2)
  else some (undef, p9.2)).bind fun p11 =>
  cBn (bif !b5 then (.bool true) else p11.1) fun b12 =>
  bif b12 then
    cl (rc md 41 [] p11.2) fun v13 h14 =>
    cBn v13 fun b15 =>
    some ((.bool b15), List.take h0.length h14)
  else
    ldN 3 (.pointer (some ⟨h0.length, 0, none⟩)) p11.2 fun v16 =>
    cl (rc md 42 [v16] p11.2) fun v17 h18 =>
    exT v17 0 fun v19 =>
    exT v17 1 fun v20 =>
    cBn v20 fun b21 =>
    let h22 : Heap := h18 ++ [.own [(.int .i64 0), (.int .i64 0), (.int .i64 0), .nilIface]]
    st md 4 (.pointer (some ⟨h18.length, 0, none⟩)) v19 h22 fun h23 =>
    bif !b21 then
      some ((.bool false), List.take h0.length h23)
    else
      ldN 3 (.pointer (some ⟨h0.length, 0, none⟩)) h23 fun v24 =>
      ldN 4 (.pointer (some ⟨h18.length, 0, none⟩)) h23 fun v25 =>
      aBuild Try.prog 59 [(0, v24), (1, v25)] fun v26 =>
      let h27 : Heap := h23 ++ [.own v26.cells.toList]
      lenS a1 fun v28 =>
      cIn .i64 v28 fun n29 =>
      X0 (upd (upd (upd (upd (upd (upd (upd (upd (upd (upd (upd (upd (upd (upd (upd (upd (upd (upd (upd (upd (upd (upd (upd (upd (upd (upd (upd (args0 [(.agg #[(.int .i64 a0_0), (.int .i64 a0_1), (.int .i64 a0_2)]), a1]) 2 (.pointer (some ⟨h0.length, 0, none⟩))) 4 (.bool false)) 10 v2) 11 (.bool b5)) 12 (.bool (!b5))) 13 (.bool (!b5))) 14 p6.1) 15 p9.1) 16 p11.1) 17 (.bool b12)) 20 v16) 21 v17) 19 v17) 22 v19) 23 (.bool b21)) 5 (.pointer (some ⟨h18.length, 0, none⟩))) 6 (.bool b21)) 24 (.bool b21)) 25 (.bool (!b21))) 26 v24) 27 v25) 28 v26) 29 (.pointer (some ⟨h23.length, 0, none⟩))) 7 (.pointer (some ⟨h23.length, 0, none⟩))) 30 a1) 31 (.int .i64 n29)) 32 (.int .i64 0)) h27
theorem F8_h0 (rc : Rec) (md : Md) (a0_0 : Int) (a0_1 : Int) (a0_2 : Int) (a1 : Value) (h0 : Heap) : callStep0 Try.prog cfg rc md 8 [(.agg #[(.int .i64 a0_0), (.int .i64 a0_1), (.int .i64 a0_2)]), a1] h0 = exec Try.prog cfg rc ⟨md.ro, h0.length⟩ 44 (bodyOf Try.prog 8) (retK Try.prog cfg 8 (rsOf Try.prog 8) h0) (args0 [(.agg #[(.int .i64 a0_0), (.int .i64 a0_1), (.int .i64 a0_2)]), a1]) h0 := callStep0_run (by kernel_rfl) (by kernel_rfl) (by kernel_rfl)
theorem F8_h1 (rc : Rec) (md : Md) (X : Nat → T → Heap → Option (Value × Heap)) (a0_0 : Int) (a0_1 : Int) (a0_2 : Int) (a1 : Value) (h0 : Heap) : execG Try.prog cfg X rc md 44 (replS (bodyOf Try.prog 8) [([1, 1, 1, 1, 1, 0, 1, 0], 0)]) (retK Try.prog cfg 8 (rsOf Try.prog 8) h0) (args0 [(.agg #[(.int .i64 a0_0), (.int .i64 a0_1), (.int .i64 a0_2)]), a1]) h0 = F8H rc md (X 0) a0_0 a0_1 a0_2 a1 h0 := by kernel_rfl
theorem F8_h2 (rc : Rec) (md : Md) (a0_0 : Int) (a0_1 : Int) (a0_2 : Int) (a1 : Value) (h0 : Heap) : F8H rc md (fun t h => J8_0 rc md h0 (t 4) (t 7) (t 30) (t 31) (t 32) h) a0_0 a0_1 a0_2 a1 h0 = F8 rc md a0_0 a0_1 a0_2 a1 h0 := by unfold F8H F8; kernel_rfl
theorem F8_eq0 (rc : Rec) (md : Md) (a0_0 : Int) (a0_1 : Int) (a0_2 : Int) (a1 : Value) (h0 : Heap) : callStep0 Try.prog cfg rc md 8 [(.agg #[(.int .i64 a0_0), (.int .i64 a0_1), (.int .i64 a0_2)]), a1] h0 = F8 rc ⟨md.ro, h0.length⟩ a0_0 a0_1 a0_2 a1 h0 := by
  rw [F8_h0, exec_holes [([1, 1, 1, 1, 1, 0, 1, 0], 0)] (by kernel_rfl), F8_h1, show (goX Try.prog cfg rc ⟨md.ro, h0.length⟩ 44 (bodyOf Try.prog 8) [([1, 1, 1, 1, 1, 0, 1, 0], 0)] (retK Try.prog cfg 8 (rsOf Try.prog 8) h0)) 0 = _ from J8_0_cut rc ⟨md.ro, h0.length⟩ h0]
  exact F8_h2 rc _ a0_0 a0_1 a0_2 a1 h0
theorem F8_eq (rc : Rec) (md : Md) (a0_0 : Int) (a0_1 : Int) (a0_2 : Int) (a1 : Value) (h0 : Heap) : callStep Try.prog cfg rc md 8 [(.agg #[(.int .i64 a0_0), (.int .i64 a0_1), (.int .i64 a0_2)]), a1] h0 = F8 rc ⟨md.ro, h0.length⟩ a0_0 a0_1 a0_2 a1 h0 := (callStep_ne (by kernel_rfl)).trans (F8_eq0 rc md a0_0 a0_1 a0_2 a1 h0)

/-- tombolo/tombololaw11.EdgeAll -/
noncomputable def J9_3 (rc : Rec) (md : Md) (h0 : Heap) (s10 : Value) (s11 : Value) (h : Heap) : Option (Value × Heap) :=
  lenS s10 fun v1 =>
  cIn .i64 v1 fun n2 =>
  aBin Try.prog .eql 3 s11 (.int .i64 n2) fun v3 =>
  (bif wantV v3 true then
  cl (rc md 41 [] h) fun v4 h5 =>
  cBn v4 fun b6 =>
  some ((.bool b6), h5)
  else some (undef, h)).bind fun p7 =>
  cBn v3 fun q8 =>
  cBn (bif q8 then p7.1 else (.bool false)) fun b9 =>
  some ((.bool b9), List.take h0.length p7.2)
theorem J9_3_at (rc : Rec) (md : Md) (h0 : Heap) (t : T) (h : Heap) : cut Try.prog cfg rc md 98 (bodyOf Try.prog 9) [1, 1, 1, 1, 1, 1, 1, 1, 1] (retK Try.prog cfg 9 (rsOf Try.prog 9) h0) t h = J9_3 rc md h0 (t 10) (t 11) h := by kernel_rfl
theorem J9_3_cut (rc : Rec) (md : Md) (h0 : Heap) : cut Try.prog cfg rc md 98 (bodyOf Try.prog 9) [1, 1, 1, 1, 1, 1, 1, 1, 1] (retK Try.prog cfg 9 (rsOf Try.prog 9) h0) = fun t h => J9_3 rc md h0 (t 10) (t 11) h := funext fun t => funext fun h => J9_3_at rc md h0 t h
noncomputable def Jk9_2 (rc : Rec) (md : Md) (h0 : Heap) (e : Exit) (s2 : Value) (s4 : Value) (s7 : Value) (s10 : Value) (s11 : Value) (s51 : Value) (s52 : Value) (h : Heap) : Option (Value × Heap) :=
  match e with
  | .normal =>
    J9_3 rc md h0 s10 s11 h
  | .exit j =>
    bif Nat.beq j 2 then
      J9_3 rc md h0 s10 s11 h
    else
      none
  | .ret =>
    fin1 h0 s4 h
  | .goto l => none
  | .panic ps => none
  | .outgrown => none
noncomputable def Jk9_2H (rc : Rec) (md : Md) (h0 : Heap) (X2 : T → Heap → Option (Value × Heap)) (e : Exit) (t : T) (h : Heap) : Option (Value × Heap) :=
  match e with
  | .normal =>
    X2 t h
  | .exit j =>
    bif Nat.beq j 2 then
      X2 t h
    else
      none
  | .ret =>
    fin1 h0 (t 4) h
  | .goto l => none
  | .panic ps => none
  | .outgrown => none
theorem Jk9_2_h1 (rc : Rec) (md : Md) (h0 : Heap) (X : Nat → T → Heap → Option (Value × Heap)) (e : Exit) (t : T) (h : Heap) : kAtG Try.prog cfg X rc md 98 (replS (bodyOf Try.prog 9) [([1, 1, 1, 1, 1, 0, 1, 0], 0), ([1, 1, 1, 1, 1, 1, 1, 1, 1], 2)]) [1, 1, 1, 1, 1, 1, 1, 1, 0, 1, 0] (retK Try.prog cfg 9 (rsOf Try.prog 9) h0) e t h = Jk9_2H rc md h0 (X 2) e t h := by cases e <;> kernel_rfl
theorem Jk9_2_h2 (rc : Rec) (md : Md) (h0 : Heap) (e : Exit) (t : T) (h : Heap) : Jk9_2H rc md h0 (fun t h => J9_3 rc md h0 (t 10) (t 11) h) e t h = Jk9_2 rc md h0 e (t 2) (t 4) (t 7) (t 10) (t 11) (t 51) (t 52) h := by cases e <;> (unfold Jk9_2H Jk9_2; kernel_rfl)
theorem Jk9_2_at (rc : Rec) (md : Md) (h0 : Heap) (e : Exit) (t : T) (h : Heap) : kAt Try.prog cfg rc md 98 (bodyOf Try.prog 9) [1, 1, 1, 1, 1, 1, 1, 1, 0, 1, 0] (retK Try.prog cfg 9 (rsOf Try.prog 9) h0) e t h = Jk9_2 rc md h0 e (t 2) (t 4) (t 7) (t 10) (t 11) (t 51) (t 52) h := by
  rw [kAt_holes [([1, 1, 1, 1, 1, 0, 1, 0], 0), ([1, 1, 1, 1, 1, 1, 1, 1, 1], 2)] [1, 1, 1, 1, 1, 1, 1, 1, 0, 1, 0] (by kernel_rfl), Jk9_2_h1, show (goX Try.prog cfg rc md 98 (bodyOf Try.prog 9) [([1, 1, 1, 1, 1, 0, 1, 0], 0), ([1, 1, 1, 1, 1, 1, 1, 1, 1], 2)] (retK Try.prog cfg 9 (rsOf Try.prog 9) h0)) 2 = _ from J9_3_cut rc md h0]
  exact Jk9_2_h2 rc md h0 e t h
noncomputable def Jk9_2b0 (rc : Rec) (md : Md) (e : Exit) (s2 : Value) (s4 : Value) (s7 : Value) (s10 : Value) (s11 : Value) (s12 : Value) (s13 : Value) (s51 : Value) (s52 : Value) (h : Heap) : Option (((Value × Value × Value × Value × Value × Value × Value) × Heap) ⊕ (Exit × (Value × Value × Value × Value × Value × Value × Value) × Heap)) :=
  match e with
  | .normal =>
    aBin Try.prog .add 3 s52 (.int .i64 1) fun v1 =>
    some (.inl ((s2, s4, s7, s10, s11, s51, v1), h))
  | .exit j =>
    bif Nat.beq j 4 then
      aBin Try.prog .add 3 s52 (.int .i64 1) fun v2 =>
      some (.inl ((s2, s4, s7, s10, s11, s51, v2), h))
    else
      bif Nat.beq j 3 then
        aBin Try.prog .add 3 s52 (.int .i64 1) fun v3 =>
        some (.inl ((s2, s4, s7, s10, s11, s51, v3), h))
      else
        some (.inr ((.exit j), (s2, s4, s7, s10, s11, s51, s52), h))
  | .ret =>
    some (.inr (.ret, (s2, s4, s7, s10, s11, s51, s52), h))
  | .goto l => some (.inr ((.goto l), (s2, s4, s7, s10, s11, s51, s52), h))
  | .panic ps => some (.inr ((.panic ps), (s2, s4, s7, s10, s11, s51, s52), h))
  | .outgrown => some (.inr (.outgrown, (s2, s4, s7, s10, s11, s51, s52), h))
theorem Jk9_2b0_at (rc : Rec) (md : Md) (e : Exit) (t : T) (h : Heap) : kAt Try.prog cfg rc md 98 (sub (bodyOf Try.prog 9) [1, 1, 1, 1, 1, 1, 1, 1, 0, 1, 0, 0]) [1, 1, 0, 0, 1, 1, 0] (rndK (fun t => (t 2, t 4, t 7, t 10, t 11, t 51, t 52))) e t h = Jk9_2b0 rc md e (t 2) (t 4) (t 7) (t 10) (t 11) (t 12) (t 13) (t 51) (t 52) h := by cases e <;> kernel_rfl
/-- a round -/
noncomputable def Jr9_2b0 (rc : Rec) (md : Md) (s2 : Value) (s4 : Value) (s7 : Value) (s10 : Value) (s11 : Value) (s12 : Value) (s13 : Value) (s51 : Value) (s52 : Value) (h : Heap) : Option (((Value × Value × Value × Value × Value × Value × Value × Value × Value) × Heap) ⊕ (Exit × (Value × Value × Value × Value × Value × Value × Value × Value × Value) × Heap)) :=
  fA 0 s2 fun v1 =>
  ld1 v1 h fun v2 =>
  cIn .i64 v2 fun n3 =>
  aBin Try.prog .lss 3 s13 (.int .i64 n3) fun v4 =>
  cBn v4 fun b5 =>
  bif b5 then
    cl (rc md 46 [s7, s12, s13] h) fun v6 h7 =>
    cIn .i64 v6 fun n8 =>
    bif (decide (n8 < 0)) then
      aBin Try.prog .add 3 s13 (.int .i64 1) fun v9 =>
      some (.inl ((s2, s4, s7, s10, s11, s12, v9, s51, s52), h7))
    else
      lenS s10 fun v10 =>
      cIn .i64 v10 fun n11 =>
      aBin Try.prog .geq 3 s11 (.int .i64 n11) fun v12 =>
      (bif wantV v12 false then
      some (s10, h7)
      else some (undef, h7)).bind fun p13 =>
      (bif wantV v12 false then
      some (s11, p13.2)
      else some (undef, p13.2)).bind fun p14 =>
      (bif wantV v12 false then
      ixSV 1 p13.1 p14.1 fun v15 =>
      some (v15, p14.2)
      else some (undef, p14.2)).bind fun p16 =>
      (bif wantV v12 false then
      ld1 p16.1 p16.2 fun v17 =>
      cIn .i64 v17 fun n18 =>
      some ((.int .i64 n18), p16.2)
      else some (undef, p16.2)).bind fun p19 =>
      (bif wantV v12 false then
      some (s7, p19.2)
      else some (undef, p19.2)).bind fun p20 =>
      (bif wantV v12 false then
      bif okPtr p20.1 then
      some (p20.1, p20.2)
      else none
      else some (undef, p20.2)).bind fun p21 =>
      (bif wantV v12 false then
      fA 7 p21.1 fun v22 =>
      some (v22, p21.2)
      else some (undef, p21.2)).bind fun p23 =>
      (bif wantV v12 false then
      ld1 p23.1 p23.2 fun v24 =>
      some (v24, p23.2)
      else some (undef, p23.2)).bind fun p25 =>
      (bif wantV v12 false then
      some ((.int .i64 n8), p25.2)
      else some (undef, p25.2)).bind fun p26 =>
      (bif wantV v12 false then
      ixSV 5 p25.1 p26.1 fun v27 =>
      some (v27, p26.2)
      else some (undef, p26.2)).bind fun p28 =>
      (bif wantV v12 false then
      fA 0 p28.1 fun v29 =>
      some (v29, p28.2)
      else some (undef, p28.2)).bind fun p30 =>
      (bif wantV v12 false then
      ld1 p30.1 p30.2 fun v31 =>
      cIn .i64 v31 fun n32 =>
      some ((.int .i64 n32), p30.2)
      else some (undef, p30.2)).bind fun p33 =>
      (bif wantV v12 false then
      aBin Try.prog .neq 3 p19.1 p33.1 fun v34 =>
      some (v34, p33.2)
      else some (undef, p33.2)).bind fun p35 =>
      cBn v12 fun q36 =>
      cBn (bif q36 then (.bool true) else p35.1) fun b37 =>
      bif b37 then
        some (.inr (.ret, (s2, (.bool false), s7, s10, s11, s12, s13, s51, s52), p35.2))
      else
        aBin Try.prog .add 3 s11 (.int .i64 1) fun v38 =>
        aBin Try.prog .add 3 s13 (.int .i64 1) fun v39 =>
        some (.inl ((s2, s4, s7, s10, v38, s12, v39, s51, s52), p35.2))
  else
    some (.inr ((.exit 4), (s2, s4, s7, s10, s11, s12, s13, s51, s52), h))
theorem Jr9_2b0_at (rc : Rec) (md : Md) (t : T) (h : Heap) : exec Try.prog cfg rc md 98 (sub (bodyOf Try.prog 9) [1, 1, 1, 1, 1, 1, 1, 1, 0, 1, 0, 0, 1, 1, 0, 0, 1, 1, 0, 0]) (rndK (fun t => (t 2, t 4, t 7, t 10, t 11, t 12, t 13, t 51, t 52))) t h = Jr9_2b0 rc md (t 2) (t 4) (t 7) (t 10) (t 11) (t 12) (t 13) (t 51) (t 52) h := by kernel_rfl
noncomputable def J9_2b0 (rc : Rec) (md : Md) (s2 : Value) (s4 : Value) (s7 : Value) (s10 : Value) (s11 : Value) (s12 : Value) (s13 : Value) (s51 : Value) (s52 : Value) (h : Heap) : Option (((Value × Value × Value × Value × Value × Value × Value) × Heap) ⊕ (Exit × (Value × Value × Value × Value × Value × Value × Value) × Heap)) :=
  runL (fun x : (Value × Value × Value × Value × Value × Value × Value × Value × Value) × Heap => Jr9_2b0 rc md x.1.1 x.1.2.1 x.1.2.2.1 x.1.2.2.2.1 x.1.2.2.2.2.1 x.1.2.2.2.2.2.1 x.1.2.2.2.2.2.2.1 x.1.2.2.2.2.2.2.2.1 x.1.2.2.2.2.2.2.2.2 x.2) (fun e (s : Value × Value × Value × Value × Value × Value × Value × Value × Value) h => Jk9_2b0 rc md e s.1 s.2.1 s.2.2.1 s.2.2.2.1 s.2.2.2.2.1 s.2.2.2.2.2.1 s.2.2.2.2.2.2.1 s.2.2.2.2.2.2.2.1 s.2.2.2.2.2.2.2.2 h) (s2, s4, s7, s10, s11, s12, s13, s51, s52) h
theorem J9_2b0_step (rc : Rec) (md : Md) (s2 : Value) (s4 : Value) (s7 : Value) (s10 : Value) (s11 : Value) (s12 : Value) (s13 : Value) (s51 : Value) (s52 : Value) (h : Heap) : J9_2b0 rc md s2 s4 s7 s10 s11 s12 s13 s51 s52 h = (Jr9_2b0 rc md s2 s4 s7 s10 s11 s12 s13 s51 s52 h).bind fun x => match x with
    | .inl (s, h) => J9_2b0 rc md s.1 s.2.1 s.2.2.1 s.2.2.2.1 s.2.2.2.2.1 s.2.2.2.2.2.1 s.2.2.2.2.2.2.1 s.2.2.2.2.2.2.2.1 s.2.2.2.2.2.2.2.2 h
    | .inr (e, s, h) => Jk9_2b0 rc md e s.1 s.2.1 s.2.2.1 s.2.2.2.1 s.2.2.2.2.1 s.2.2.2.2.2.1 s.2.2.2.2.2.2.1 s.2.2.2.2.2.2.2.1 s.2.2.2.2.2.2.2.2 h := by
  unfold J9_2b0
  rw [runL_eq]
  refine congrArg (Option.bind _) (funext fun x => ?_)
  rcases x with ⟨s, h⟩ | ⟨e, s, h⟩ <;> rfl
theorem J9_2b0_cut (rc : Rec) (md : Md) : cut Try.prog cfg rc md 98 (sub (bodyOf Try.prog 9) [1, 1, 1, 1, 1, 1, 1, 1, 0, 1, 0, 0]) [1, 1, 0, 0, 1, 1, 0] (rndK (fun t => (t 2, t 4, t 7, t 10, t 11, t 51, t 52))) = fun t h => J9_2b0 rc md (t 2) (t 4) (t 7) (t 10) (t 11) (t 12) (t 13) (t 51) (t 52) h := by
  funext t h
  have e : sub (sub (bodyOf Try.prog 9) [1, 1, 1, 1, 1, 1, 1, 1, 0, 1, 0, 0]) [1, 1, 0, 0, 1, 1, 0] = .loop (sub (bodyOf Try.prog 9) [1, 1, 1, 1, 1, 1, 1, 1, 0, 1, 0, 0, 1, 1, 0, 0, 1, 1, 0, 0]) := by kernel_rfl
  unfold cut
  rw [e]
  exact loop_eq (by kernel_rfl) (fun t => (t 2, t 4, t 7, t 10, t 11, t 12, t 13, t 51, t 52)) (fun x : (Value × Value × Value × Value × Value × Value × Value × Value × Value) × Heap => Jr9_2b0 rc md x.1.1 x.1.2.1 x.1.2.2.1 x.1.2.2.2.1 x.1.2.2.2.2.1 x.1.2.2.2.2.2.1 x.1.2.2.2.2.2.2.1 x.1.2.2.2.2.2.2.2.1 x.1.2.2.2.2.2.2.2.2 x.2) (fun t h => Jr9_2b0_at rc md t h) (fun e (s : Value × Value × Value × Value × Value × Value × Value × Value × Value) h => Jk9_2b0 rc md e s.1 s.2.1 s.2.2.1 s.2.2.2.1 s.2.2.2.2.1 s.2.2.2.2.2.1 s.2.2.2.2.2.2.1 s.2.2.2.2.2.2.2.1 s.2.2.2.2.2.2.2.2 h) (fun e t h => Jk9_2b0_at rc md e t h) t h
/-- a round -/
noncomputable def Jr9_2 (rc : Rec) (md : Md) (s2 : Value) (s4 : Value) (s7 : Value) (s10 : Value) (s11 : Value) (s51 : Value) (s52 : Value) (h : Heap) : Option (((Value × Value × Value × Value × Value × Value × Value) × Heap) ⊕ (Exit × (Value × Value × Value × Value × Value × Value × Value) × Heap)) :=
  aBin Try.prog .lss 3 s52 s51 fun v1 =>
  cBn v1 fun b2 =>
  bif b2 then
    aBin Try.prog .add 3 s52 (.int .i64 1) fun v3 =>
    J9_2b0 rc md s2 s4 s7 s10 s11 s52 v3 s51 s52 h
  else
    some (.inr ((.exit 2), (s2, s4, s7, s10, s11, s51, s52), h))
noncomputable def Jr9_2H (rc : Rec) (md : Md) (X0 : T → Heap → Option (((Value × Value × Value × Value × Value × Value × Value) × Heap) ⊕ (Exit × (Value × Value × Value × Value × Value × Value × Value) × Heap))) (t : T) (h : Heap) : Option (((Value × Value × Value × Value × Value × Value × Value) × Heap) ⊕ (Exit × (Value × Value × Value × Value × Value × Value × Value) × Heap)) :=
  aBin Try.prog .lss 3 (t 52) (t 51) fun v1 =>
  cBn v1 fun b2 =>
  bif b2 then
    aBin Try.prog .add 3 (t 52) (.int .i64 1) fun v3 =>
    X0 (upd (upd (upd (upd (upd (upd t 53 v1) 54 (t 52)) 12 (t 52)) 55 (t 52)) 56 v3) 13 v3) h
  else
    some (.inr ((.exit 2), ((t 2), (t 4), (t 7), (t 10), (t 11), (t 51), (t 52)), h))
theorem Jr9_2_h1 (rc : Rec) (md : Md) (X : Nat → T → Heap → Option (((Value × Value × Value × Value × Value × Value × Value) × Heap) ⊕ (Exit × (Value × Value × Value × Value × Value × Value × Value) × Heap))) (t : T) (h : Heap) : execG Try.prog cfg X rc md 98 (replS (sub (bodyOf Try.prog 9) [1, 1, 1, 1, 1, 1, 1, 1, 0, 1, 0, 0]) [([1, 1, 0, 0, 1, 1, 0], 0)]) (rndK (fun t => (t 2, t 4, t 7, t 10, t 11, t 51, t 52))) t h = Jr9_2H rc md (X 0) t h := by kernel_rfl
theorem Jr9_2_h2 (rc : Rec) (md : Md) (t : T) (h : Heap) : Jr9_2H rc md (fun t h => J9_2b0 rc md (t 2) (t 4) (t 7) (t 10) (t 11) (t 12) (t 13) (t 51) (t 52) h) t h = Jr9_2 rc md (t 2) (t 4) (t 7) (t 10) (t 11) (t 51) (t 52) h := by unfold Jr9_2H Jr9_2; kernel_rfl
theorem Jr9_2_at (rc : Rec) (md : Md) (t : T) (h : Heap) : exec Try.prog cfg rc md 98 (sub (bodyOf Try.prog 9) [1, 1, 1, 1, 1, 1, 1, 1, 0, 1, 0, 0]) (rndK (fun t => (t 2, t 4, t 7, t 10, t 11, t 51, t 52))) t h = Jr9_2 rc md (t 2) (t 4) (t 7) (t 10) (t 11) (t 51) (t 52) h := by
  rw [exec_holes [([1, 1, 0, 0, 1, 1, 0], 0)] (by kernel_rfl), Jr9_2_h1, show (goX Try.prog cfg rc md 98 (sub (bodyOf Try.prog 9) [1, 1, 1, 1, 1, 1, 1, 1, 0, 1, 0, 0]) [([1, 1, 0, 0, 1, 1, 0], 0)] (rndK (fun t => (t 2, t 4, t 7, t 10, t 11, t 51, t 52)))) 0 = _ from J9_2b0_cut rc md]
  exact Jr9_2_h2 rc md t h
noncomputable def J9_2 (rc : Rec) (md : Md) (h0 : Heap) (s2 : Value) (s4 : Value) (s7 : Value) (s10 : Value) (s11 : Value) (s51 : Value) (s52 : Value) (h : Heap) : Option (Value × Heap) :=
  runL (fun x : (Value × Value × Value × Value × Value × Value × Value) × Heap => Jr9_2 rc md x.1.1 x.1.2.1 x.1.2.2.1 x.1.2.2.2.1 x.1.2.2.2.2.1 x.1.2.2.2.2.2.1 x.1.2.2.2.2.2.2 x.2) (fun e (s : Value × Value × Value × Value × Value × Value × Value) h => Jk9_2 rc md h0 e s.1 s.2.1 s.2.2.1 s.2.2.2.1 s.2.2.2.2.1 s.2.2.2.2.2.1 s.2.2.2.2.2.2 h) (s2, s4, s7, s10, s11, s51, s52) h
theorem J9_2_step (rc : Rec) (md : Md) (h0 : Heap) (s2 : Value) (s4 : Value) (s7 : Value) (s10 : Value) (s11 : Value) (s51 : Value) (s52 : Value) (h : Heap) : J9_2 rc md h0 s2 s4 s7 s10 s11 s51 s52 h = (Jr9_2 rc md s2 s4 s7 s10 s11 s51 s52 h).bind fun x => match x with
    | .inl (s, h) => J9_2 rc md h0 s.1 s.2.1 s.2.2.1 s.2.2.2.1 s.2.2.2.2.1 s.2.2.2.2.2.1 s.2.2.2.2.2.2 h
    | .inr (e, s, h) => Jk9_2 rc md h0 e s.1 s.2.1 s.2.2.1 s.2.2.2.1 s.2.2.2.2.1 s.2.2.2.2.2.1 s.2.2.2.2.2.2 h := by
  unfold J9_2
  rw [runL_eq]
  refine congrArg (Option.bind _) (funext fun x => ?_)
  rcases x with ⟨s, h⟩ | ⟨e, s, h⟩ <;> rfl
theorem J9_2_cut (rc : Rec) (md : Md) (h0 : Heap) : cut Try.prog cfg rc md 98 (bodyOf Try.prog 9) [1, 1, 1, 1, 1, 1, 1, 1, 0, 1, 0] (retK Try.prog cfg 9 (rsOf Try.prog 9) h0) = fun t h => J9_2 rc md h0 (t 2) (t 4) (t 7) (t 10) (t 11) (t 51) (t 52) h := by
  funext t h
  have e : sub (bodyOf Try.prog 9) [1, 1, 1, 1, 1, 1, 1, 1, 0, 1, 0] = .loop (sub (bodyOf Try.prog 9) [1, 1, 1, 1, 1, 1, 1, 1, 0, 1, 0, 0]) := by kernel_rfl
  unfold cut
  rw [e]
  exact loop_eq (by kernel_rfl) (fun t => (t 2, t 4, t 7, t 10, t 11, t 51, t 52)) (fun x : (Value × Value × Value × Value × Value × Value × Value) × Heap => Jr9_2 rc md x.1.1 x.1.2.1 x.1.2.2.1 x.1.2.2.2.1 x.1.2.2.2.2.1 x.1.2.2.2.2.2.1 x.1.2.2.2.2.2.2 x.2) (fun t h => Jr9_2_at rc md t h) (fun e (s : Value × Value × Value × Value × Value × Value × Value) h => Jk9_2 rc md h0 e s.1 s.2.1 s.2.2.1 s.2.2.2.1 s.2.2.2.2.1 s.2.2.2.2.2.1 s.2.2.2.2.2.2 h) (fun e t h => Jk9_2_at rc md h0 e t h) t h
noncomputable def J9_1 (rc : Rec) (md : Md) (h0 : Heap) (s2 : Value) (s4 : Value) (s7 : Value) (h : Heap) : Option (Value × Heap) :=
  bif okPtr s7 then
  fA 3 s7 fun v1 =>
  ldN 4 v1 h fun v2 =>
  cl (rc md 45 [v2] h) fun v3 h4 =>
  fA 0 s2 fun v5 =>
  ld1 v5 h4 fun v6 =>
  cIn .i64 v6 fun n7 =>
  J9_2 rc md h0 s2 s4 s7 v3 (.int .i64 0) (.int .i64 n7) (.int .i64 0) h4
  else none
noncomputable def J9_1H (rc : Rec) (md : Md) (h0 : Heap) (X1 : T → Heap → Option (Value × Heap)) (t : T) (h : Heap) : Option (Value × Heap) :=
  bif okPtr (t 7) then
  fA 3 (t 7) fun v1 =>
  ldN 4 v1 h fun v2 =>
  cl (rc md 45 [v2] h) fun v3 h4 =>
  fA 0 (t 2) fun v5 =>
  ld1 v5 h4 fun v6 =>
  cIn .i64 v6 fun n7 =>
  X1 (upd (upd (upd (upd (upd (upd (upd (upd (upd (upd t 45 (t 7)) 46 (t 7)) 47 v1) 48 v2) 49 v3) 10 v3) 11 (.int .i64 0)) 50 v5) 51 (.int .i64 n7)) 52 (.int .i64 0)) h4
  else none
theorem J9_1_h1 (rc : Rec) (md : Md) (h0 : Heap) (X : Nat → T → Heap → Option (Value × Heap)) (t : T) (h : Heap) : execG Try.prog cfg X rc md 98 (sub (replS (bodyOf Try.prog 9) [([1, 1, 1, 1, 1, 0, 1, 0], 0), ([1, 1, 1, 1, 1, 1, 1, 1, 0, 1, 0], 1), ([1, 1, 1, 1, 1, 1, 1, 1, 1], 2)]) [1, 1, 1, 1, 1, 1]) (kAtG Try.prog cfg X rc md 98 (replS (bodyOf Try.prog 9) [([1, 1, 1, 1, 1, 0, 1, 0], 0), ([1, 1, 1, 1, 1, 1, 1, 1, 0, 1, 0], 1), ([1, 1, 1, 1, 1, 1, 1, 1, 1], 2)]) [1, 1, 1, 1, 1, 1] (retK Try.prog cfg 9 (rsOf Try.prog 9) h0)) t h = J9_1H rc md h0 (X 1) t h := by kernel_rfl
theorem J9_1_h2 (rc : Rec) (md : Md) (h0 : Heap) (t : T) (h : Heap) : J9_1H rc md h0 (fun t h => J9_2 rc md h0 (t 2) (t 4) (t 7) (t 10) (t 11) (t 51) (t 52) h) t h = J9_1 rc md h0 (t 2) (t 4) (t 7) h := by (unfold J9_1H J9_1; kernel_rfl)
theorem J9_1_at (rc : Rec) (md : Md) (h0 : Heap) (t : T) (h : Heap) : cut Try.prog cfg rc md 98 (bodyOf Try.prog 9) [1, 1, 1, 1, 1, 1] (retK Try.prog cfg 9 (rsOf Try.prog 9) h0) t h = J9_1 rc md h0 (t 2) (t 4) (t 7) h := by
  rw [cut_holes [([1, 1, 1, 1, 1, 0, 1, 0], 0), ([1, 1, 1, 1, 1, 1, 1, 1, 0, 1, 0], 1), ([1, 1, 1, 1, 1, 1, 1, 1, 1], 2)] [1, 1, 1, 1, 1, 1] (by kernel_rfl), J9_1_h1, show (goX Try.prog cfg rc md 98 (bodyOf Try.prog 9) [([1, 1, 1, 1, 1, 0, 1, 0], 0), ([1, 1, 1, 1, 1, 1, 1, 1, 0, 1, 0], 1), ([1, 1, 1, 1, 1, 1, 1, 1, 1], 2)] (retK Try.prog cfg 9 (rsOf Try.prog 9) h0)) 1 = _ from J9_2_cut rc md h0]
  exact J9_1_h2 rc md h0 t h
theorem J9_1_cut (rc : Rec) (md : Md) (h0 : Heap) : cut Try.prog cfg rc md 98 (bodyOf Try.prog 9) [1, 1, 1, 1, 1, 1] (retK Try.prog cfg 9 (rsOf Try.prog 9) h0) = fun t h => J9_1 rc md h0 (t 2) (t 4) (t 7) h := funext fun t => funext fun h => J9_1_at rc md h0 t h
noncomputable def Jk9_0 (rc : Rec) (md : Md) (h0 : Heap) (e : Exit) (s2 : Value) (s4 : Value) (s7 : Value) (s35 : Value) (s36 : Value) (s37 : Value) (h : Heap) : Option (Value × Heap) :=
  match e with
  | .normal =>
    J9_1 rc md h0 s2 s4 s7 h
  | .exit j =>
    bif Nat.beq j 0 then
      J9_1 rc md h0 s2 s4 s7 h
    else
      none
  | .ret =>
    fin1 h0 s4 h
  | .goto l => none
  | .panic ps => none
  | .outgrown => none
noncomputable def Jk9_0H (rc : Rec) (md : Md) (h0 : Heap) (X3 : T → Heap → Option (Value × Heap)) (e : Exit) (t : T) (h : Heap) : Option (Value × Heap) :=
  match e with
  | .normal =>
    X3 t h
  | .exit j =>
    bif Nat.beq j 0 then
      X3 t h
    else
      none
  | .ret =>
    fin1 h0 (t 4) h
  | .goto l => none
  | .panic ps => none
  | .outgrown => none
theorem Jk9_0_h1 (rc : Rec) (md : Md) (h0 : Heap) (X : Nat → T → Heap → Option (Value × Heap)) (e : Exit) (t : T) (h : Heap) : kAtG Try.prog cfg X rc md 98 (replS (bodyOf Try.prog 9) [([1, 1, 1, 1, 1, 1, 1, 1, 0, 1, 0], 1), ([1, 1, 1, 1, 1, 1, 1, 1, 1], 2), ([1, 1, 1, 1, 1, 1], 3)]) [1, 1, 1, 1, 1, 0, 1, 0] (retK Try.prog cfg 9 (rsOf Try.prog 9) h0) e t h = Jk9_0H rc md h0 (X 3) e t h := by cases e <;> kernel_rfl
theorem Jk9_0_h2 (rc : Rec) (md : Md) (h0 : Heap) (e : Exit) (t : T) (h : Heap) : Jk9_0H rc md h0 (fun t h => J9_1 rc md h0 (t 2) (t 4) (t 7) h) e t h = Jk9_0 rc md h0 e (t 2) (t 4) (t 7) (t 35) (t 36) (t 37) h := by cases e <;> (unfold Jk9_0H Jk9_0; kernel_rfl)
theorem Jk9_0_at (rc : Rec) (md : Md) (h0 : Heap) (e : Exit) (t : T) (h : Heap) : kAt Try.prog cfg rc md 98 (bodyOf Try.prog 9) [1, 1, 1, 1, 1, 0, 1, 0] (retK Try.prog cfg 9 (rsOf Try.prog 9) h0) e t h = Jk9_0 rc md h0 e (t 2) (t 4) (t 7) (t 35) (t 36) (t 37) h := by
  rw [kAt_holes [([1, 1, 1, 1, 1, 1, 1, 1, 0, 1, 0], 1), ([1, 1, 1, 1, 1, 1, 1, 1, 1], 2), ([1, 1, 1, 1, 1, 1], 3)] [1, 1, 1, 1, 1, 0, 1, 0] (by kernel_rfl), Jk9_0_h1, show (goX Try.prog cfg rc md 98 (bodyOf Try.prog 9) [([1, 1, 1, 1, 1, 1, 1, 1, 0, 1, 0], 1), ([1, 1, 1, 1, 1, 1, 1, 1, 1], 2), ([1, 1, 1, 1, 1, 1], 3)] (retK Try.prog cfg 9 (rsOf Try.prog 9) h0)) 3 = _ from J9_1_cut rc md h0]
  exact Jk9_0_h2 rc md h0 e t h
/-- a round -/
noncomputable def Jr9_0 (rc : Rec) (md : Md) (s2 : Value) (s4 : Value) (s7 : Value) (s35 : Value) (s36 : Value) (s37 : Value) (h : Heap) : Option (((Value × Value × Value × Value × Value × Value) × Heap) ⊕ (Exit × (Value × Value × Value × Value × Value × Value) × Heap)) :=
  aBin Try.prog .lss 3 s37 s36 fun v1 =>
  cBn v1 fun b2 =>
  bif b2 then
    ixSV 6 s35 s37 fun v3 =>
    ldN 6 v3 h fun v4 =>
    let h5 : Heap := h ++ [.own [(.int .i64 0), (.int .i64 0), (.int .i64 0), (.int .i64 0), (.int .i64 0), (.bool false)]]
    st md 6 (.pointer (some ⟨h.length, 0, none⟩)) v4 h5 fun h6 =>
    ldN 6 (.pointer (some ⟨h.length, 0, none⟩)) h6 fun v7 =>
    cl (rc md 43 [s7, v7] h6) fun v8 h9 =>
    aBin Try.prog .add 3 s37 (.int .i64 1) fun v10 =>
    some (.inl ((s2, s4, s7, s35, s36, v10), h9))
  else
    some (.inr ((.exit 0), (s2, s4, s7, s35, s36, s37), h))
theorem Jr9_0_at (rc : Rec) (md : Md) (t : T) (h : Heap) : exec Try.prog cfg rc md 98 (sub (bodyOf Try.prog 9) [1, 1, 1, 1, 1, 0, 1, 0, 0]) (rndK (fun t => (t 2, t 4, t 7, t 35, t 36, t 37))) t h = Jr9_0 rc md (t 2) (t 4) (t 7) (t 35) (t 36) (t 37) h := by kernel_rfl
noncomputable def J9_0 (rc : Rec) (md : Md) (h0 : Heap) (s2 : Value) (s4 : Value) (s7 : Value) (s35 : Value) (s36 : Value) (s37 : Value) (h : Heap) : Option (Value × Heap) :=
  runL (fun x : (Value × Value × Value × Value × Value × Value) × Heap => Jr9_0 rc md x.1.1 x.1.2.1 x.1.2.2.1 x.1.2.2.2.1 x.1.2.2.2.2.1 x.1.2.2.2.2.2 x.2) (fun e (s : Value × Value × Value × Value × Value × Value) h => Jk9_0 rc md h0 e s.1 s.2.1 s.2.2.1 s.2.2.2.1 s.2.2.2.2.1 s.2.2.2.2.2 h) (s2, s4, s7, s35, s36, s37) h
theorem J9_0_step (rc : Rec) (md : Md) (h0 : Heap) (s2 : Value) (s4 : Value) (s7 : Value) (s35 : Value) (s36 : Value) (s37 : Value) (h : Heap) : J9_0 rc md h0 s2 s4 s7 s35 s36 s37 h = (Jr9_0 rc md s2 s4 s7 s35 s36 s37 h).bind fun x => match x with
    | .inl (s, h) => J9_0 rc md h0 s.1 s.2.1 s.2.2.1 s.2.2.2.1 s.2.2.2.2.1 s.2.2.2.2.2 h
    | .inr (e, s, h) => Jk9_0 rc md h0 e s.1 s.2.1 s.2.2.1 s.2.2.2.1 s.2.2.2.2.1 s.2.2.2.2.2 h := by
  unfold J9_0
  rw [runL_eq]
  refine congrArg (Option.bind _) (funext fun x => ?_)
  rcases x with ⟨s, h⟩ | ⟨e, s, h⟩ <;> rfl
theorem J9_0_cut (rc : Rec) (md : Md) (h0 : Heap) : cut Try.prog cfg rc md 98 (bodyOf Try.prog 9) [1, 1, 1, 1, 1, 0, 1, 0] (retK Try.prog cfg 9 (rsOf Try.prog 9) h0) = fun t h => J9_0 rc md h0 (t 2) (t 4) (t 7) (t 35) (t 36) (t 37) h := by
  funext t h
  have e : sub (bodyOf Try.prog 9) [1, 1, 1, 1, 1, 0, 1, 0] = .loop (sub (bodyOf Try.prog 9) [1, 1, 1, 1, 1, 0, 1, 0, 0]) := by kernel_rfl
  unfold cut
  rw [e]
  exact loop_eq (by kernel_rfl) (fun t => (t 2, t 4, t 7, t 35, t 36, t 37)) (fun x : (Value × Value × Value × Value × Value × Value) × Heap => Jr9_0 rc md x.1.1 x.1.2.1 x.1.2.2.1 x.1.2.2.2.1 x.1.2.2.2.2.1 x.1.2.2.2.2.2 x.2) (fun t h => Jr9_0_at rc md t h) (fun e (s : Value × Value × Value × Value × Value × Value) h => Jk9_0 rc md h0 e s.1 s.2.1 s.2.2.1 s.2.2.2.1 s.2.2.2.2.1 s.2.2.2.2.2 h) (fun e t h => Jk9_0_at rc md h0 e t h) t h
noncomputable def F9 (rc : Rec) (md : Md) (a0_0 : Int) (a0_1 : Int) (a0_2 : Int) (a1 : Value) (h0 : Heap) : Option (Value × Heap) :=
  let h1 : Heap := h0 ++ [.own [(.int .i64 a0_0), (.int .i64 a0_1), (.int .i64 a0_2)]]
  ldN 3 (.pointer (some ⟨h0.length, 0, none⟩)) h1 fun v2 =>
  cl (rc md 40 [v2] h1) fun v3 h4 =>
  cBn v3 fun b5 =>
  (bif wantV (.bool (!b5)) false then
  some (a1, h4)
  else some (undef, h4)).bind fun p6 =>
  (bif wantV (.bool (!b5)) false then
  lenS p6.1 fun v7 =>
  cIn .i64 v7 fun n8 =>
  some ((.int .i64 n8), p6.2)
  else some (undef, p6.2)).bind fun p9 =>
  (bif wantV (.bool (!b5)) false then
  aBin Try.prog .gtr 3 p9.1 (.int .i64 60) fun v10 =>
  some (v10, p9.2)
  else some (undef, p9.2)).bind fun p11 =>
  cBn (bif !b5 then (.bool true) else p11.1) fun b12 =>
  bif b12 then
    cl (rc md 41 [] p11.2) fun v13 h14 =>
    cBn v13 fun b15 =>
    some ((.bool b15), List.take h0.length h14)
  else
    ldN 3 (.pointer (some ⟨h0.length, 0, none⟩)) p11.2 fun v16 =>
    cl (rc md 42 [v16] p11.2) fun v17 h18 =>
    exT v17 0 fun v19 =>
    exT v17 1 fun v20 =>
    cBn v20 fun b21 =>
    let h22 : Heap := h18 ++ [.own [(.int .i64 0), (.int .i64 0), (.int .i64 0), .nilIface]]
    st md 4 (.pointer (some ⟨h18.length, 0, none⟩)) v19 h22 fun h23 =>
    bif !b21 then
      some ((.bool false), List.take h0.length h23)
    else
      ldN 3 (.pointer (some ⟨h0.length, 0, none⟩)) h23 fun v24 =>
      ldN 4 (.pointer (some ⟨h18.length, 0, none⟩)) h23 fun v25 =>
      aBuild Try.prog 59 [(0, v24), (1, v25)] fun v26 =>
      let h27 : Heap := h23 ++ [.own v26.cells.toList]
      lenS a1 fun v28 =>
      cIn .i64 v28 fun n29 =>
      J9_0 rc md h0 (.pointer (some ⟨h0.length, 0, none⟩)) (.bool false) (.pointer (some ⟨h23.length, 0, none⟩)) a1 (.int .i64 n29) (.int .i64 0) h27
noncomputable def F9H (rc : Rec) (md : Md) (X0 : T → Heap → Option (Value × Heap)) (a0_0 : Int) (a0_1 : Int) (a0_2 : Int) (a1 : Value) (h0 : Heap) : Option (Value × Heap) :=
  let h1 : Heap := h0 ++ [.own [(.int .i64 a0_0), (.int .i64 a0_1), (.int .i64 a0_2)]]
  ldN 3 (.pointer (some ⟨h0.length, 0, none⟩)) h1 fun v2 =>
  cl (rc md 40 [v2] h1) fun v3 h4 =>
  cBn v3 fun b5 =>
  (bif wantV (.bool (!b5)) false then
  some (a1, h4)
  else some (undef, h4)).bind fun p6 =>
  (bif wantV (.bool (!b5)) false then
  lenS p6.1 fun v7 =>
  cIn .i64 v7 fun n8 =>
  some ((.int .i64 n8), p6.2)
  else some (undef, p6.2)).bind fun p9 =>
  (bif wantV (.bool (!b5)) false then
  aBin Try.prog .gtr 3 p9.1 (.int .i64 60) fun v10 =>
  some (v10, p9.2)
  else some (undef, p9.2)).bind fun p11 =>
  cBn (bif !b5 then (.bool true) else p11.1) fun b12 =>
  bif b12 then
    cl (rc md 41 [] p11.2) fun v13 h14 =>
    cBn v13 fun b15 =>
    some ((.bool b15), List.take h0.length h14)
  else
    ldN 3 (.pointer (some ⟨h0.length, 0, none⟩)) p11.2 fun v16 =>
    cl (rc md 42 [v16] p11.2) fun v17 h18 =>
    exT v17 0 fun v19 =>
    exT v17 1 fun v20 =>
    cBn v20 fun b21 =>
    let h22 : Heap := h18 ++ [.own [(.int .i64 0), (.int .i64 0), (.int .i64 0), .nilIface]]
    st md 4 (.pointer (some ⟨h18.length, 0, none⟩)) v19 h22 fun h23 =>
    bif !b21 then
      some ((.bool false), List.take h0.length h23)
    else
      ldN 3 (.pointer (some ⟨h0.length, 0, none⟩)) h23 fun v24 =>
      ldN 4 (.pointer (some ⟨h18.length, 0, none⟩)) h23 fun v25 =>
      aBuild Try.prog 59 [(0, v24), (1, v25)] fun v26 =>
      let h27 : Heap := h23 ++ [.own v26.cells.toList]
      lenS a1 fun v28 =>
      cIn .i64 v28 fun n29 =>
      X0 (upd (upd (upd (upd (upd (upd (upd (upd (upd (upd (upd (upd (upd (upd (upd (upd (upd (upd (upd (upd (upd (upd (upd (upd (upd (upd (upd (args0 [(.agg #[(.int .i64 a0_0), (.int .i64 a0_1), (.int .i64 a0_2)]), a1]) 2 (.pointer (some ⟨h0.length, 0, none⟩))) 4 (.bool false)) 15 v2) 16 (.bool b5)) 17 (.bool (!b5))) 18 (.bool (!b5))) 19 p6.1) 20 p9.1) 21 p11.1) 22 (.bool b12)) 25 v16) 26 v17) 24 v17) 27 v19) 28 (.bool b21)) 5 (.pointer (some ⟨h18.length, 0, none⟩))) 6 (.bool b21)) 29 (.bool b21)) 30 (.bool (!b21))) 31 v24) 32 v25) 33 v26) 34 (.pointer (some ⟨h23.length, 0, none⟩))) 7 (.pointer (some ⟨h23.length, 0, none⟩))) 35 a1) 36 (.int .i64 n29)) 37 (.int .i64 0)) h27
theorem F9_h0 (rc : Rec) (md : Md) (a0_0 : Int) (a0_1 : Int) (a0_2 : Int) (a1 : Value) (h0 : Heap) : callStep0 Try.prog cfg rc md 9 [(.agg #[(.int .i64 a0_0), (.int .i64 a0_1), (.int .i64 a0_2)]), a1] h0 = exec Try.prog cfg rc ⟨md.ro, h0.length⟩ 98 (bodyOf Try.prog 9) (retK Try.prog cfg 9 (rsOf Try.prog 9) h0) (args0 [(.agg #[(.int .i64 a0_0), (.int .i64 a0_1), (.int .i64 a0_2)]), a1]) h0 := callStep0_run (by kernel_rfl) (by kernel_rfl) (by kernel_rfl)
theorem F9_h1 (rc : Rec) (md : Md) (X : Nat → T → Heap → Option (Value × Heap)) (a0_0 : Int) (a0_1 : Int) (a0_2 : Int) (a1 : Value) (h0 : Heap) : execG Try.prog cfg X rc md 98 (replS (bodyOf Try.prog 9) [([1, 1, 1, 1, 1, 0, 1, 0], 0), ([1, 1, 1, 1, 1, 1, 1, 1, 0, 1, 0], 1), ([1, 1, 1, 1, 1, 1, 1, 1, 1], 2), ([1, 1, 1, 1, 1, 1], 3)]) (retK Try.prog cfg 9 (rsOf Try.prog 9) h0) (args0 [(.agg #[(.int .i64 a0_0), (.int .i64 a0_1), (.int .i64 a0_2)]), a1]) h0 = F9H rc md (X 0) a0_0 a0_1 a0_2 a1 h0 := by kernel_rfl
theorem F9_h2 (rc : Rec) (md : Md) (a0_0 : Int) (a0_1 : Int) (a0_2 : Int) (a1 : Value) (h0 : Heap) : F9H rc md (fun t h => J9_0 rc md h0 (t 2) (t 4) (t 7) (t 35) (t 36) (t 37) h) a0_0 a0_1 a0_2 a1 h0 = F9 rc md a0_0 a0_1 a0_2 a1 h0 := by unfold F9H F9; kernel_rfl
theorem F9_eq0 (rc : Rec) (md : Md) (a0_0 : Int) (a0_1 : Int) (a0_2 : Int) (a1 : Value) (h0 : Heap) : callStep0 Try.prog cfg rc md 9 [(.agg #[(.int .i64 a0_0), (.int .i64 a0_1), (.int .i64 a0_2)]), a1] h0 = F9 rc ⟨md.ro, h0.length⟩ a0_0 a0_1 a0_2 a1 h0 := by
  rw [F9_h0, exec_holes [([1, 1, 1, 1, 1, 0, 1, 0], 0), ([1, 1, 1, 1, 1, 1, 1, 1, 0, 1, 0], 1), ([1, 1, 1, 1, 1, 1, 1, 1, 1], 2), ([1, 1, 1, 1, 1, 1], 3)] (by kernel_rfl), F9_h1, show (goX Try.prog cfg rc ⟨md.ro, h0.length⟩ 98 (bodyOf Try.prog 9) [([1, 1, 1, 1, 1, 0, 1, 0], 0), ([1, 1, 1, 1, 1, 1, 1, 1, 0, 1, 0], 1), ([1, 1, 1, 1, 1, 1, 1, 1, 1], 2), ([1, 1, 1, 1, 1, 1], 3)] (retK Try.prog cfg 9 (rsOf Try.prog 9) h0)) 0 = _ from J9_0_cut rc ⟨md.ro, h0.length⟩ h0]
  exact F9_h2 rc _ a0_0 a0_1 a0_2 a1 h0
theorem F9_eq (rc : Rec) (md : Md) (a0_0 : Int) (a0_1 : Int) (a0_2 : Int) (a1 : Value) (h0 : Heap) : callStep Try.prog cfg rc md 9 [(.agg #[(.int .i64 a0_0), (.int .i64 a0_1), (.int .i64 a0_2)]), a1] h0 = F9 rc ⟨md.ro, h0.length⟩ a0_0 a0_1 a0_2 a1 h0 := (callStep_ne (by kernel_rfl)).trans (F9_eq0 rc md a0_0 a0_1 a0_2 a1 h0)

/-- tombolo/tombololaw11.EdgeApart -/
noncomputable def Jk10_2 (rc : Rec) (md : Md) (h0 : Heap) (e : Exit) (s5 : Value) (s6 : Value) (s7 : Value) (s57 : Value) (s58 : Value) (s59 : Value) (h : Heap) : Option (Value × Heap) :=
  match e with
  | .normal =>
    cl (rc md 41 [] h) fun v1 h2 =>
    cBn v1 fun b3 =>
    some ((.bool b3), List.take h0.length h2)
  | .exit j =>
    bif Nat.beq j 2 then
      cl (rc md 41 [] h) fun v4 h5 =>
      cBn v4 fun b6 =>
      some ((.bool b6), List.take h0.length h5)
    else
      none
  | .ret =>
    fin1 h0 s6 h
  | .goto l => none
  | .panic ps => none
  | .outgrown => none
theorem Jk10_2_at (rc : Rec) (md : Md) (h0 : Heap) (e : Exit) (t : T) (h : Heap) : kAt Try.prog cfg rc md 128 (bodyOf Try.prog 10) [1, 1, 1, 1, 1, 1, 1, 1, 0, 1, 0] (retK Try.prog cfg 10 (rsOf Try.prog 10) h0) e t h = Jk10_2 rc md h0 e (t 5) (t 6) (t 7) (t 57) (t 58) (t 59) h := by cases e <;> kernel_rfl
/-- a round -/
noncomputable def Jr10_2 (rc : Rec) (md : Md) (s5 : Value) (s6 : Value) (s7 : Value) (s57 : Value) (s58 : Value) (s59 : Value) (h : Heap) : Option (((Value × Value × Value × Value × Value × Value) × Heap) ⊕ (Exit × (Value × Value × Value × Value × Value × Value) × Heap)) :=
  aBin Try.prog .lss 3 s59 s58 fun v1 =>
  cBn v1 fun b2 =>
  bif b2 then
    ixSV 5 s57 s59 fun v3 =>
    ldN 5 v3 h fun v4 =>
    let h5 : Heap := h ++ [.own [(.int .i64 0), (.int .i64 0), (.int .i64 0), (.int .i64 0), (.bool false)]]
    st md 5 (.pointer (some ⟨h.length, 0, none⟩)) v4 h5 fun h6 =>
    ld1 (.pointer (some ⟨h.length, 0, none⟩)) h6 fun v7 =>
    cIn .i64 v7 fun n8 =>
    fA 1 s5 fun v9 =>
    ld1 v9 h6 fun v10 =>
    cIn .i64 v10 fun n11 =>
    (bif wantV (.bool (n8 == n11)) false then
    some ((.pointer (some ⟨h.length, 1, none⟩)), h6)
    else some (undef, h6)).bind fun p12 =>
    (bif wantV (.bool (n8 == n11)) false then
    fA 0 p12.1 fun v13 =>
    some (v13, p12.2)
    else some (undef, p12.2)).bind fun p14 =>
    (bif wantV (.bool (n8 == n11)) false then
    ld1 p14.1 p14.2 fun v15 =>
    cIn .i64 v15 fun n16 =>
    some ((.int .i64 n16), p14.2)
    else some (undef, p14.2)).bind fun p17 =>
    (bif wantV (.bool (n8 == n11)) false then
    fA 2 s5 fun v18 =>
    some (v18, p17.2)
    else some (undef, p17.2)).bind fun p19 =>
    (bif wantV (.bool (n8 == n11)) false then
    ld1 p19.1 p19.2 fun v20 =>
    cIn .i64 v20 fun n21 =>
    some ((.int .i64 n21), p19.2)
    else some (undef, p19.2)).bind fun p22 =>
    (bif wantV (.bool (n8 == n11)) false then
    fA 3 s5 fun v23 =>
    some (v23, p22.2)
    else some (undef, p22.2)).bind fun p24 =>
    (bif wantV (.bool (n8 == n11)) false then
    ld1 p24.1 p24.2 fun v25 =>
    cIn .i64 v25 fun n26 =>
    some ((.int .i64 n26), p24.2)
    else some (undef, p24.2)).bind fun p27 =>
    (bif wantV (.bool (n8 == n11)) false then
    aBuiltin Try.prog md .min #[3, 3] [p22.1, p27.1] p27.2 fun v28 h29 =>
    cIn .i64 v28 fun n30 =>
    some ((.int .i64 n30), h29)
    else some (undef, p27.2)).bind fun p31 =>
    (bif wantV (.bool (n8 == n11)) false then
    aBin Try.prog .eql 3 p17.1 p31.1 fun v32 =>
    some (v32, p31.2)
    else some (undef, p31.2)).bind fun p33 =>
    (bif wantV (.bool (n8 == n11)) false then
    some (p33.1, p33.2)
    else some (undef, p33.2)).bind fun p34 =>
    (bif wantV p34.1 true then
    some ((.pointer (some ⟨h.length, 1, none⟩)), p34.2)
    else some (undef, p34.2)).bind fun p35 =>
    (bif wantV p34.1 true then
    fA 1 p35.1 fun v36 =>
    some (v36, p35.2)
    else some (undef, p35.2)).bind fun p37 =>
    (bif wantV p34.1 true then
    ld1 p37.1 p37.2 fun v38 =>
    cIn .i64 v38 fun n39 =>
    some ((.int .i64 n39), p37.2)
    else some (undef, p37.2)).bind fun p40 =>
    (bif wantV p34.1 true then
    fA 2 s5 fun v41 =>
    some (v41, p40.2)
    else some (undef, p40.2)).bind fun p42 =>
    (bif wantV p34.1 true then
    ld1 p42.1 p42.2 fun v43 =>
    cIn .i64 v43 fun n44 =>
    some ((.int .i64 n44), p42.2)
    else some (undef, p42.2)).bind fun p45 =>
    (bif wantV p34.1 true then
    fA 3 s5 fun v46 =>
    some (v46, p45.2)
    else some (undef, p45.2)).bind fun p47 =>
    (bif wantV p34.1 true then
    ld1 p47.1 p47.2 fun v48 =>
    cIn .i64 v48 fun n49 =>
    some ((.int .i64 n49), p47.2)
    else some (undef, p47.2)).bind fun p50 =>
    (bif wantV p34.1 true then
    aBuiltin Try.prog md .max #[3, 3] [p45.1, p50.1] p50.2 fun v51 h52 =>
    cIn .i64 v51 fun n53 =>
    some ((.int .i64 n53), h52)
    else some (undef, p50.2)).bind fun p54 =>
    (bif wantV p34.1 true then
    aBin Try.prog .eql 3 p40.1 p54.1 fun v55 =>
    some (v55, p54.2)
    else some (undef, p54.2)).bind fun p56 =>
    (bif wantV (.bool (n8 == n11)) false then
    cBn p34.1 fun q57 =>
    cBn (bif q57 then p56.1 else (.bool false)) fun b58 =>
    some ((.bool b58), p56.2)
    else some (undef, p56.2)).bind fun p59 =>
    cBn (bif (n8 == n11) then (.bool true) else p59.1) fun b60 =>
    bif b60 then
      aBin Try.prog .add 3 s59 (.int .i64 1) fun v61 =>
      some (.inl ((s5, s6, s7, s57, s58, v61), p59.2))
    else
      ldN 4 s7 p59.2 fun v62 =>
      ld1 (.pointer (some ⟨h.length, 1, none⟩)) p59.2 fun v63 =>
      cIn .i64 v63 fun n64 =>
      ld1 (.pointer (some ⟨h.length, 2, none⟩)) p59.2 fun v65 =>
      cIn .i64 v65 fun n66 =>
      cl (rc md 47 [v62, (.int .i64 n64), (.int .i64 n66)] p59.2) fun v67 h68 =>
      exT v67 0 fun v69 =>
      cIn .i64 v69 fun n70 =>
      exT v67 1 fun v71 =>
      cBn v71 fun b72 =>
      exT v67 2 fun v73 =>
      cBn v73 fun b74 =>
      (bif wantV (.bool (!b74)) false then
      some ((.int .i64 n70), h68)
      else some (undef, h68)).bind fun p75 =>
      (bif wantV (.bool (!b74)) false then
      some ((.pointer (some ⟨h.length, 0, none⟩)), p75.2)
      else some (undef, p75.2)).bind fun p76 =>
      (bif wantV (.bool (!b74)) false then
      ld1 p76.1 p76.2 fun v77 =>
      cIn .i64 v77 fun n78 =>
      some ((.int .i64 n78), p76.2)
      else some (undef, p76.2)).bind fun p79 =>
      (bif wantV (.bool (!b74)) false then
      aBin Try.prog .neq 3 p75.1 p79.1 fun v80 =>
      some (v80, p79.2)
      else some (undef, p79.2)).bind fun p81 =>
      cBn (bif !b74 then (.bool true) else p81.1) fun b82 =>
      (bif wantV (.bool b82) false then
      some ((.bool b72), p81.2)
      else some (undef, p81.2)).bind fun p83 =>
      (bif wantV (.bool b82) false then
      some ((.pointer (some ⟨h.length, 1, none⟩)), p83.2)
      else some (undef, p83.2)).bind fun p84 =>
      (bif wantV (.bool b82) false then
      fA 3 p84.1 fun v85 =>
      some (v85, p84.2)
      else some (undef, p84.2)).bind fun p86 =>
      (bif wantV (.bool b82) false then
      ld1 p86.1 p86.2 fun v87 =>
      cBn v87 fun b88 =>
      some ((.bool b88), p86.2)
      else some (undef, p86.2)).bind fun p89 =>
      (bif wantV (.bool b82) false then
      aBin Try.prog .neq 4 p83.1 p89.1 fun v90 =>
      some (v90, p89.2)
      else some (undef, p89.2)).bind fun p91 =>
      cBn (bif b82 then (.bool true) else p91.1) fun b92 =>
      (bif wantV (.bool b92) false then
      ldN 4 s7 p91.2 fun v93 =>
      some (v93, p91.2)
      else some (undef, p91.2)).bind fun p94 =>
      (bif wantV (.bool b92) false then
      some ((.pointer (some ⟨h.length, 0, none⟩)), p94.2)
      else some (undef, p94.2)).bind fun p95 =>
      (bif wantV (.bool b92) false then
      ld1 p95.1 p95.2 fun v96 =>
      cIn .i64 v96 fun n97 =>
      some ((.int .i64 n97), p95.2)
      else some (undef, p95.2)).bind fun p98 =>
      (bif wantV (.bool b92) false then
      cl (rc md 48 [p94.1, p98.1] p98.2) fun v99 h100 =>
      some (v99, h100)
      else some (undef, p98.2)).bind fun p101 =>
      (bif wantV (.bool b92) false then
      some ((.pointer (some ⟨h.length, 1, none⟩)), p101.2)
      else some (undef, p101.2)).bind fun p102 =>
      (bif wantV (.bool b92) false then
      ldN 4 p102.1 p102.2 fun v103 =>
      some (v103, p102.2)
      else some (undef, p102.2)).bind fun p104 =>
      cLE (wantV (.bool b92) false) (fun hq => ldN 4 p102.1 hq some) p104.1 p98.2 p101.2 <|
      (bif wantV (.bool b92) false then
      aBin Try.prog .neq 66 p101.1 p104.1 fun v105 =>
      some (v105, p104.2)
      else some (undef, p104.2)).bind fun p106 =>
      cBn (bif b92 then (.bool true) else p106.1) fun b107 =>
      bif b107 then
        some (.inr (.ret, (s5, (.bool false), s7, s57, s58, s59), p106.2))
      else
        aBin Try.prog .add 3 s59 (.int .i64 1) fun v108 =>
        some (.inl ((s5, s6, s7, s57, s58, v108), p106.2))
  else
    some (.inr ((.exit 2), (s5, s6, s7, s57, s58, s59), h))
theorem Jr10_2_at (rc : Rec) (md : Md) (t : T) (h : Heap) : exec Try.prog cfg rc md 128 (sub (bodyOf Try.prog 10) [1, 1, 1, 1, 1, 1, 1, 1, 0, 1, 0, 0]) (rndK (fun t => (t 5, t 6, t 7, t 57, t 58, t 59))) t h = Jr10_2 rc md (t 5) (t 6) (t 7) (t 57) (t 58) (t 59) h := by kernel_rfl
noncomputable def J10_2 (rc : Rec) (md : Md) (h0 : Heap) (s5 : Value) (s6 : Value) (s7 : Value) (s57 : Value) (s58 : Value) (s59 : Value) (h : Heap) : Option (Value × Heap) :=
  runL (fun x : (Value × Value × Value × Value × Value × Value) × Heap => Jr10_2 rc md x.1.1 x.1.2.1 x.1.2.2.1 x.1.2.2.2.1 x.1.2.2.2.2.1 x.1.2.2.2.2.2 x.2) (fun e (s : Value × Value × Value × Value × Value × Value) h => Jk10_2 rc md h0 e s.1 s.2.1 s.2.2.1 s.2.2.2.1 s.2.2.2.2.1 s.2.2.2.2.2 h) (s5, s6, s7, s57, s58, s59) h
theorem J10_2_step (rc : Rec) (md : Md) (h0 : Heap) (s5 : Value) (s6 : Value) (s7 : Value) (s57 : Value) (s58 : Value) (s59 : Value) (h : Heap) : J10_2 rc md h0 s5 s6 s7 s57 s58 s59 h = (Jr10_2 rc md s5 s6 s7 s57 s58 s59 h).bind fun x => match x with
    | .inl (s, h) => J10_2 rc md h0 s.1 s.2.1 s.2.2.1 s.2.2.2.1 s.2.2.2.2.1 s.2.2.2.2.2 h
    | .inr (e, s, h) => Jk10_2 rc md h0 e s.1 s.2.1 s.2.2.1 s.2.2.2.1 s.2.2.2.2.1 s.2.2.2.2.2 h := by
  unfold J10_2
  rw [runL_eq]
  refine congrArg (Option.bind _) (funext fun x => ?_)
  rcases x with ⟨s, h⟩ | ⟨e, s, h⟩ <;> rfl
theorem J10_2_cut (rc : Rec) (md : Md) (h0 : Heap) : cut Try.prog cfg rc md 128 (bodyOf Try.prog 10) [1, 1, 1, 1, 1, 1, 1, 1, 0, 1, 0] (retK Try.prog cfg 10 (rsOf Try.prog 10) h0) = fun t h => J10_2 rc md h0 (t 5) (t 6) (t 7) (t 57) (t 58) (t 59) h := by
  funext t h
  have e : sub (bodyOf Try.prog 10) [1, 1, 1, 1, 1, 1, 1, 1, 0, 1, 0] = .loop (sub (bodyOf Try.prog 10) [1, 1, 1, 1, 1, 1, 1, 1, 0, 1, 0, 0]) := by kernel_rfl
  unfold cut
  rw [e]
  exact loop_eq (by kernel_rfl) (fun t => (t 5, t 6, t 7, t 57, t 58, t 59)) (fun x : (Value × Value × Value × Value × Value × Value) × Heap => Jr10_2 rc md x.1.1 x.1.2.1 x.1.2.2.1 x.1.2.2.2.1 x.1.2.2.2.2.1 x.1.2.2.2.2.2 x.2) (fun t h => Jr10_2_at rc md t h) (fun e (s : Value × Value × Value × Value × Value × Value) h => Jk10_2 rc md h0 e s.1 s.2.1 s.2.2.1 s.2.2.2.1 s.2.2.2.2.1 s.2.2.2.2.2 h) (fun e t h => Jk10_2_at rc md h0 e t h) t h
noncomputable def J10_1 (rc : Rec) (md : Md) (h0 : Heap) (s5 : Value) (s6 : Value) (s7 : Value) (s9 : Value) (h : Heap) : Option (Value × Heap) :=
  let h1 : Heap := h ++ [.own []]
  bif okPtr s9 then
  fA 7 s9 fun v2 =>
  ld1 v2 h1 fun v3 =>
  aBuiltin Try.prog md .append #[57, 57] [(.slice (some ⟨h.length, 0, none⟩) 0 5), v3] h1 fun v4 h5 =>
  ldN 6 s5 h5 fun v6 =>
  cl (rc md 43 [s9, v6] h5) fun v7 h8 =>
  lenS v4 fun v9 =>
  cIn .i64 v9 fun n10 =>
  J10_2 rc md h0 s5 s6 s7 v4 (.int .i64 n10) (.int .i64 0) h8
  else none
noncomputable def J10_1H (rc : Rec) (md : Md) (h0 : Heap) (X1 : T → Heap → Option (Value × Heap)) (t : T) (h : Heap) : Option (Value × Heap) :=
  let h1 : Heap := h ++ [.own []]
  bif okPtr (t 9) then
  fA 7 (t 9) fun v2 =>
  ld1 v2 h1 fun v3 =>
  aBuiltin Try.prog md .append #[57, 57] [(.slice (some ⟨h.length, 0, none⟩) 0 5), v3] h1 fun v4 h5 =>
  ldN 6 (t 5) h5 fun v6 =>
  cl (rc md 43 [(t 9), v6] h5) fun v7 h8 =>
  lenS v4 fun v9 =>
  cIn .i64 v9 fun n10 =>
  X1 (upd (upd (upd (upd (upd (upd (upd (upd (upd (upd (upd (upd (upd t 48 (.slice (some ⟨h.length, 0, none⟩) 0 5)) 49 (t 9)) 50 (t 9)) 51 v2) 52 v3) 53 v4) 12 v4) 54 (t 9)) 55 v6) 56 v7) 57 v4) 58 (.int .i64 n10)) 59 (.int .i64 0)) h8
  else none
theorem J10_1_h1 (rc : Rec) (md : Md) (h0 : Heap) (X : Nat → T → Heap → Option (Value × Heap)) (t : T) (h : Heap) : execG Try.prog cfg X rc md 128 (sub (replS (bodyOf Try.prog 10) [([1, 1, 1, 1, 1, 0, 1, 0], 0), ([1, 1, 1, 1, 1, 1, 1, 1, 0, 1, 0], 1)]) [1, 1, 1, 1, 1, 1]) (kAtG Try.prog cfg X rc md 128 (replS (bodyOf Try.prog 10) [([1, 1, 1, 1, 1, 0, 1, 0], 0), ([1, 1, 1, 1, 1, 1, 1, 1, 0, 1, 0], 1)]) [1, 1, 1, 1, 1, 1] (retK Try.prog cfg 10 (rsOf Try.prog 10) h0)) t h = J10_1H rc md h0 (X 1) t h := by kernel_rfl
theorem J10_1_h2 (rc : Rec) (md : Md) (h0 : Heap) (t : T) (h : Heap) : J10_1H rc md h0 (fun t h => J10_2 rc md h0 (t 5) (t 6) (t 7) (t 57) (t 58) (t 59) h) t h = J10_1 rc md h0 (t 5) (t 6) (t 7) (t 9) h := by (unfold J10_1H J10_1; kernel_rfl)
theorem J10_1_at (rc : Rec) (md : Md) (h0 : Heap) (t : T) (h : Heap) : cut Try.prog cfg rc md 128 (bodyOf Try.prog 10) [1, 1, 1, 1, 1, 1] (retK Try.prog cfg 10 (rsOf Try.prog 10) h0) t h = J10_1 rc md h0 (t 5) (t 6) (t 7) (t 9) h := by
  rw [cut_holes [([1, 1, 1, 1, 1, 0, 1, 0], 0), ([1, 1, 1, 1, 1, 1, 1, 1, 0, 1, 0], 1)] [1, 1, 1, 1, 1, 1] (by kernel_rfl), J10_1_h1, show (goX Try.prog cfg rc md 128 (bodyOf Try.prog 10) [([1, 1, 1, 1, 1, 0, 1, 0], 0), ([1, 1, 1, 1, 1, 1, 1, 1, 0, 1, 0], 1)] (retK Try.prog cfg 10 (rsOf Try.prog 10) h0)) 1 = _ from J10_2_cut rc md h0]
  exact J10_1_h2 rc md h0 t h
theorem J10_1_cut (rc : Rec) (md : Md) (h0 : Heap) : cut Try.prog cfg rc md 128 (bodyOf Try.prog 10) [1, 1, 1, 1, 1, 1] (retK Try.prog cfg 10 (rsOf Try.prog 10) h0) = fun t h => J10_1 rc md h0 (t 5) (t 6) (t 7) (t 9) h := funext fun t => funext fun h => J10_1_at rc md h0 t h
noncomputable def Jk10_0 (rc : Rec) (md : Md) (h0 : Heap) (e : Exit) (s5 : Value) (s6 : Value) (s7 : Value) (s9 : Value) (s38 : Value) (s39 : Value) (s40 : Value) (h : Heap) : Option (Value × Heap) :=
  match e with
  | .normal =>
    J10_1 rc md h0 s5 s6 s7 s9 h
  | .exit j =>
    bif Nat.beq j 0 then
      J10_1 rc md h0 s5 s6 s7 s9 h
    else
      none
  | .ret =>
    fin1 h0 s6 h
  | .goto l => none
  | .panic ps => none
  | .outgrown => none
noncomputable def Jk10_0H (rc : Rec) (md : Md) (h0 : Heap) (X2 : T → Heap → Option (Value × Heap)) (e : Exit) (t : T) (h : Heap) : Option (Value × Heap) :=
  match e with
  | .normal =>
    X2 t h
  | .exit j =>
    bif Nat.beq j 0 then
      X2 t h
    else
      none
  | .ret =>
    fin1 h0 (t 6) h
  | .goto l => none
  | .panic ps => none
  | .outgrown => none
theorem Jk10_0_h1 (rc : Rec) (md : Md) (h0 : Heap) (X : Nat → T → Heap → Option (Value × Heap)) (e : Exit) (t : T) (h : Heap) : kAtG Try.prog cfg X rc md 128 (replS (bodyOf Try.prog 10) [([1, 1, 1, 1, 1, 1, 1, 1, 0, 1, 0], 1), ([1, 1, 1, 1, 1, 1], 2)]) [1, 1, 1, 1, 1, 0, 1, 0] (retK Try.prog cfg 10 (rsOf Try.prog 10) h0) e t h = Jk10_0H rc md h0 (X 2) e t h := by cases e <;> kernel_rfl
theorem Jk10_0_h2 (rc : Rec) (md : Md) (h0 : Heap) (e : Exit) (t : T) (h : Heap) : Jk10_0H rc md h0 (fun t h => J10_1 rc md h0 (t 5) (t 6) (t 7) (t 9) h) e t h = Jk10_0 rc md h0 e (t 5) (t 6) (t 7) (t 9) (t 38) (t 39) (t 40) h := by cases e <;> (unfold Jk10_0H Jk10_0; kernel_rfl)
theorem Jk10_0_at (rc : Rec) (md : Md) (h0 : Heap) (e : Exit) (t : T) (h : Heap) : kAt Try.prog cfg rc md 128 (bodyOf Try.prog 10) [1, 1, 1, 1, 1, 0, 1, 0] (retK Try.prog cfg 10 (rsOf Try.prog 10) h0) e t h = Jk10_0 rc md h0 e (t 5) (t 6) (t 7) (t 9) (t 38) (t 39) (t 40) h := by
  rw [kAt_holes [([1, 1, 1, 1, 1, 1, 1, 1, 0, 1, 0], 1), ([1, 1, 1, 1, 1, 1], 2)] [1, 1, 1, 1, 1, 0, 1, 0] (by kernel_rfl), Jk10_0_h1, show (goX Try.prog cfg rc md 128 (bodyOf Try.prog 10) [([1, 1, 1, 1, 1, 1, 1, 1, 0, 1, 0], 1), ([1, 1, 1, 1, 1, 1], 2)] (retK Try.prog cfg 10 (rsOf Try.prog 10) h0)) 2 = _ from J10_1_cut rc md h0]
  exact Jk10_0_h2 rc md h0 e t h
/-- a round -/
noncomputable def Jr10_0 (rc : Rec) (md : Md) (s5 : Value) (s6 : Value) (s7 : Value) (s9 : Value) (s38 : Value) (s39 : Value) (s40 : Value) (h : Heap) : Option (((Value × Value × Value × Value × Value × Value × Value) × Heap) ⊕ (Exit × (Value × Value × Value × Value × Value × Value × Value) × Heap)) :=
  aBin Try.prog .lss 3 s40 s39 fun v1 =>
  cBn v1 fun b2 =>
  bif b2 then
    ixSV 6 s38 s40 fun v3 =>
    ldN 6 v3 h fun v4 =>
    let h5 : Heap := h ++ [.own [(.int .i64 0), (.int .i64 0), (.int .i64 0), (.int .i64 0), (.int .i64 0), (.bool false)]]
    st md 6 (.pointer (some ⟨h.length, 0, none⟩)) v4 h5 fun h6 =>
    ldN 6 (.pointer (some ⟨h.length, 0, none⟩)) h6 fun v7 =>
    cl (rc md 43 [s9, v7] h6) fun v8 h9 =>
    aBin Try.prog .add 3 s40 (.int .i64 1) fun v10 =>
    some (.inl ((s5, s6, s7, s9, s38, s39, v10), h9))
  else
    some (.inr ((.exit 0), (s5, s6, s7, s9, s38, s39, s40), h))
theorem Jr10_0_at (rc : Rec) (md : Md) (t : T) (h : Heap) : exec Try.prog cfg rc md 128 (sub (bodyOf Try.prog 10) [1, 1, 1, 1, 1, 0, 1, 0, 0]) (rndK (fun t => (t 5, t 6, t 7, t 9, t 38, t 39, t 40))) t h = Jr10_0 rc md (t 5) (t 6) (t 7) (t 9) (t 38) (t 39) (t 40) h := by kernel_rfl
noncomputable def J10_0 (rc : Rec) (md : Md) (h0 : Heap) (s5 : Value) (s6 : Value) (s7 : Value) (s9 : Value) (s38 : Value) (s39 : Value) (s40 : Value) (h : Heap) : Option (Value × Heap) :=
  runL (fun x : (Value × Value × Value × Value × Value × Value × Value) × Heap => Jr10_0 rc md x.1.1 x.1.2.1 x.1.2.2.1 x.1.2.2.2.1 x.1.2.2.2.2.1 x.1.2.2.2.2.2.1 x.1.2.2.2.2.2.2 x.2) (fun e (s : Value × Value × Value × Value × Value × Value × Value) h => Jk10_0 rc md h0 e s.1 s.2.1 s.2.2.1 s.2.2.2.1 s.2.2.2.2.1 s.2.2.2.2.2.1 s.2.2.2.2.2.2 h) (s5, s6, s7, s9, s38, s39, s40) h
theorem J10_0_step (rc : Rec) (md : Md) (h0 : Heap) (s5 : Value) (s6 : Value) (s7 : Value) (s9 : Value) (s38 : Value) (s39 : Value) (s40 : Value) (h : Heap) : J10_0 rc md h0 s5 s6 s7 s9 s38 s39 s40 h = (Jr10_0 rc md s5 s6 s7 s9 s38 s39 s40 h).bind fun x => match x with
    | .inl (s, h) => J10_0 rc md h0 s.1 s.2.1 s.2.2.1 s.2.2.2.1 s.2.2.2.2.1 s.2.2.2.2.2.1 s.2.2.2.2.2.2 h
    | .inr (e, s, h) => Jk10_0 rc md h0 e s.1 s.2.1 s.2.2.1 s.2.2.2.1 s.2.2.2.2.1 s.2.2.2.2.2.1 s.2.2.2.2.2.2 h := by
  unfold J10_0
  rw [runL_eq]
  refine congrArg (Option.bind _) (funext fun x => ?_)
  rcases x with ⟨s, h⟩ | ⟨e, s, h⟩ <;> rfl
theorem J10_0_cut (rc : Rec) (md : Md) (h0 : Heap) : cut Try.prog cfg rc md 128 (bodyOf Try.prog 10) [1, 1, 1, 1, 1, 0, 1, 0] (retK Try.prog cfg 10 (rsOf Try.prog 10) h0) = fun t h => J10_0 rc md h0 (t 5) (t 6) (t 7) (t 9) (t 38) (t 39) (t 40) h := by
  funext t h
  have e : sub (bodyOf Try.prog 10) [1, 1, 1, 1, 1, 0, 1, 0] = .loop (sub (bodyOf Try.prog 10) [1, 1, 1, 1, 1, 0, 1, 0, 0]) := by kernel_rfl
  unfold cut
  rw [e]
  exact loop_eq (by kernel_rfl) (fun t => (t 5, t 6, t 7, t 9, t 38, t 39, t 40)) (fun x : (Value × Value × Value × Value × Value × Value × Value) × Heap => Jr10_0 rc md x.1.1 x.1.2.1 x.1.2.2.1 x.1.2.2.2.1 x.1.2.2.2.2.1 x.1.2.2.2.2.2.1 x.1.2.2.2.2.2.2 x.2) (fun t h => Jr10_0_at rc md t h) (fun e (s : Value × Value × Value × Value × Value × Value × Value) h => Jk10_0 rc md h0 e s.1 s.2.1 s.2.2.1 s.2.2.2.1 s.2.2.2.2.1 s.2.2.2.2.2.1 s.2.2.2.2.2.2 h) (fun e t h => Jk10_0_at rc md h0 e t h) t h
noncomputable def F10 (rc : Rec) (md : Md) (a0_0 : Int) (a0_1 : Int) (a0_2 : Int) (a1 : Value) (a2_0 : Int) (a2_1 : Int) (a2_2 : Int) (a2_3 : Int) (a2_4 : Int) (a2_5 : Bool) (h0 : Heap) : Option (Value × Heap) :=
  let h1 : Heap := h0 ++ [.own [(.int .i64 a0_0), (.int .i64 a0_1), (.int .i64 a0_2)]]
  let h2 : Heap := h1 ++ [.own [(.int .i64 a2_0), (.int .i64 a2_1), (.int .i64 a2_2), (.int .i64 a2_3), (.int .i64 a2_4), (.bool a2_5)]]
  ldN 3 (.pointer (some ⟨h0.length, 0, none⟩)) h2 fun v3 =>
  cl (rc md 40 [v3] h2) fun v4 h5 =>
  cBn v4 fun b6 =>
  (bif wantV (.bool (!b6)) false then
  some (a1, h5)
  else some (undef, h5)).bind fun p7 =>
  (bif wantV (.bool (!b6)) false then
  lenS p7.1 fun v8 =>
  cIn .i64 v8 fun n9 =>
  some ((.int .i64 n9), p7.2)
  else some (undef, p7.2)).bind fun p10 =>
  (bif wantV (.bool (!b6)) false then
  aBin Try.prog .gtr 3 p10.1 (.int .i64 60) fun v11 =>
  some (v11, p10.2)
  else some (undef, p10.2)).bind fun p12 =>
  cBn (bif !b6 then (.bool true) else p12.1) fun b13 =>
  bif b13 then
    cl (rc md 41 [] p12.2) fun v14 h15 =>
    cBn v14 fun b16 =>
    some ((.bool b16), List.take h0.length h15)
  else
    ldN 3 (.pointer (some ⟨h0.length, 0, none⟩)) p12.2 fun v17 =>
    cl (rc md 42 [v17] p12.2) fun v18 h19 =>
    exT v18 0 fun v20 =>
    exT v18 1 fun v21 =>
    cBn v21 fun b22 =>
    let h23 : Heap := h19 ++ [.own [(.int .i64 0), (.int .i64 0), (.int .i64 0), .nilIface]]
    st md 4 (.pointer (some ⟨h19.length, 0, none⟩)) v20 h23 fun h24 =>
    bif !b22 then
      some ((.bool false), List.take h0.length h24)
    else
      ldN 3 (.pointer (some ⟨h0.length, 0, none⟩)) h24 fun v25 =>
      ldN 4 (.pointer (some ⟨h19.length, 0, none⟩)) h24 fun v26 =>
      aBuild Try.prog 59 [(0, v25), (1, v26)] fun v27 =>
      let h28 : Heap := h24 ++ [.own v27.cells.toList]
      lenS a1 fun v29 =>
      cIn .i64 v29 fun n30 =>
      J10_0 rc md h0 (.pointer (some ⟨h1.length, 0, none⟩)) (.bool false) (.pointer (some ⟨h19.length, 0, none⟩)) (.pointer (some ⟨h24.length, 0, none⟩)) a1 (.int .i64 n30) (.int .i64 0) h28
noncomputable def F10H (rc : Rec) (md : Md) (X0 : T → Heap → Option (Value × Heap)) (a0_0 : Int) (a0_1 : Int) (a0_2 : Int) (a1 : Value) (a2_0 : Int) (a2_1 : Int) (a2_2 : Int) (a2_3 : Int) (a2_4 : Int) (a2_5 : Bool) (h0 : Heap) : Option (Value × Heap) :=
  let h1 : Heap := h0 ++ [.own [(.int .i64 a0_0), (.int .i64 a0_1), (.int .i64 a0_2)]]
  let h2 : Heap := h1 ++ [.own [(.int .i64 a2_0), (.int .i64 a2_1), (.int .i64 a2_2), (.int .i64 a2_3), (.int .i64 a2_4), (.bool a2_5)]]
  ldN 3 (.pointer (some ⟨h0.length, 0, none⟩)) h2 fun v3 =>
  cl (rc md 40 [v3] h2) fun v4 h5 =>
  cBn v4 fun b6 =>
  (bif wantV (.bool (!b6)) false then
  some (a1, h5)
  else some (undef, h5)).bind fun p7 =>
  (bif wantV (.bool (!b6)) false then
  lenS p7.1 fun v8 =>
  cIn .i64 v8 fun n9 =>
  some ((.int .i64 n9), p7.2)
  else some (undef, p7.2)).bind fun p10 =>
  (bif wantV (.bool (!b6)) false then
  aBin Try.prog .gtr 3 p10.1 (.int .i64 60) fun v11 =>
  some (v11, p10.2)
  else some (undef, p10.2)).bind fun p12 =>
  cBn (bif !b6 then (.bool true) else p12.1) fun b13 =>
  bif b13 then
    cl (rc md 41 [] p12.2) fun v14 h15 =>
    cBn v14 fun b16 =>
    some ((.bool b16), List.take h0.length h15)
  else
    ldN 3 (.pointer (some ⟨h0.length, 0, none⟩)) p12.2 fun v17 =>
    cl (rc md 42 [v17] p12.2) fun v18 h19 =>
    exT v18 0 fun v20 =>
    exT v18 1 fun v21 =>
    cBn v21 fun b22 =>
    let h23 : Heap := h19 ++ [.own [(.int .i64 0), (.int .i64 0), (.int .i64 0), .nilIface]]
    st md 4 (.pointer (some ⟨h19.length, 0, none⟩)) v20 h23 fun h24 =>
    bif !b22 then
      some ((.bool false), List.take h0.length h24)
    else
      ldN 3 (.pointer (some ⟨h0.length, 0, none⟩)) h24 fun v25 =>
      ldN 4 (.pointer (some ⟨h19.length, 0, none⟩)) h24 fun v26 =>
      aBuild Try.prog 59 [(0, v25), (1, v26)] fun v27 =>
      let h28 : Heap := h24 ++ [.own v27.cells.toList]
      lenS a1 fun v29 =>
      cIn .i64 v29 fun n30 =>
      X0 (upd (upd (upd (upd (upd (upd (upd (upd (upd (upd (upd (upd (upd (upd (upd (upd (upd (upd (upd (upd (upd (upd (upd (upd (upd (upd (upd (upd (args0 [(.agg #[(.int .i64 a0_0), (.int .i64 a0_1), (.int .i64 a0_2)]), a1, (.agg #[(.int .i64 a2_0), (.int .i64 a2_1), (.int .i64 a2_2), (.int .i64 a2_3), (.int .i64 a2_4), (.bool a2_5)])]) 3 (.pointer (some ⟨h0.length, 0, none⟩))) 5 (.pointer (some ⟨h1.length, 0, none⟩))) 6 (.bool false)) 18 v3) 19 (.bool b6)) 20 (.bool (!b6))) 21 (.bool (!b6))) 22 p7.1) 23 p10.1) 24 p12.1) 25 (.bool b13)) 28 v17) 29 v18) 27 v18) 30 v20) 31 (.bool b22)) 7 (.pointer (some ⟨h19.length, 0, none⟩))) 8 (.bool b22)) 32 (.bool b22)) 33 (.bool (!b22))) 34 v25) 35 v26) 36 v27) 37 (.pointer (some ⟨h24.length, 0, none⟩))) 9 (.pointer (some ⟨h24.length, 0, none⟩))) 38 a1) 39 (.int .i64 n30)) 40 (.int .i64 0)) h28
theorem F10_h0 (rc : Rec) (md : Md) (a0_0 : Int) (a0_1 : Int) (a0_2 : Int) (a1 : Value) (a2_0 : Int) (a2_1 : Int) (a2_2 : Int) (a2_3 : Int) (a2_4 : Int) (a2_5 : Bool) (h0 : Heap) : callStep0 Try.prog cfg rc md 10 [(.agg #[(.int .i64 a0_0), (.int .i64 a0_1), (.int .i64 a0_2)]), a1, (.agg #[(.int .i64 a2_0), (.int .i64 a2_1), (.int .i64 a2_2), (.int .i64 a2_3), (.int .i64 a2_4), (.bool a2_5)])] h0 = exec Try.prog cfg rc ⟨md.ro, h0.length⟩ 128 (bodyOf Try.prog 10) (retK Try.prog cfg 10 (rsOf Try.prog 10) h0) (args0 [(.agg #[(.int .i64 a0_0), (.int .i64 a0_1), (.int .i64 a0_2)]), a1, (.agg #[(.int .i64 a2_0), (.int .i64 a2_1), (.int .i64 a2_2), (.int .i64 a2_3), (.int .i64 a2_4), (.bool a2_5)])]) h0 := callStep0_run (by kernel_rfl) (by kernel_rfl) (by kernel_rfl)
theorem F10_h1 (rc : Rec) (md : Md) (X : Nat → T → Heap → Option (Value × Heap)) (a0_0 : Int) (a0_1 : Int) (a0_2 : Int) (a1 : Value) (a2_0 : Int) (a2_1 : Int) (a2_2 : Int) (a2_3 : Int) (a2_4 : Int) (a2_5 : Bool) (h0 : Heap) : execG Try.prog cfg X rc md 128 (replS (bodyOf Try.prog 10) [([1, 1, 1, 1, 1, 0, 1, 0], 0), ([1, 1, 1, 1, 1, 1, 1, 1, 0, 1, 0], 1), ([1, 1, 1, 1, 1, 1], 2)]) (retK Try.prog cfg 10 (rsOf Try.prog 10) h0) (args0 [(.agg #[(.int .i64 a0_0), (.int .i64 a0_1), (.int .i64 a0_2)]), a1, (.agg #[(.int .i64 a2_0), (.int .i64 a2_1), (.int .i64 a2_2), (.int .i64 a2_3), (.int .i64 a2_4), (.bool a2_5)])]) h0 = F10H rc md (X 0) a0_0 a0_1 a0_2 a1 a2_0 a2_1 a2_2 a2_3 a2_4 a2_5 h0 := by kernel_rfl
theorem F10_h2 (rc : Rec) (md : Md) (a0_0 : Int) (a0_1 : Int) (a0_2 : Int) (a1 : Value) (a2_0 : Int) (a2_1 : Int) (a2_2 : Int) (a2_3 : Int) (a2_4 : Int) (a2_5 : Bool) (h0 : Heap) : F10H rc md (fun t h => J10_0 rc md h0 (t 5) (t 6) (t 7) (t 9) (t 38) (t 39) (t 40) h) a0_0 a0_1 a0_2 a1 a2_0 a2_1 a2_2 a2_3 a2_4 a2_5 h0 = F10 rc md a0_0 a0_1 a0_2 a1 a2_0 a2_1 a2_2 a2_3 a2_4 a2_5 h0 := by unfold F10H F10; kernel_rfl
theorem F10_eq0 (rc : Rec) (md : Md) (a0_0 : Int) (a0_1 : Int) (a0_2 : Int) (a1 : Value) (a2_0 : Int) (a2_1 : Int) (a2_2 : Int) (a2_3 : Int) (a2_4 : Int) (a2_5 : Bool) (h0 : Heap) : callStep0 Try.prog cfg rc md 10 [(.agg #[(.int .i64 a0_0), (.int .i64 a0_1), (.int .i64 a0_2)]), a1, (.agg #[(.int .i64 a2_0), (.int .i64 a2_1), (.int .i64 a2_2), (.int .i64 a2_3), (.int .i64 a2_4), (.bool a2_5)])] h0 = F10 rc ⟨md.ro, h0.length⟩ a0_0 a0_1 a0_2 a1 a2_0 a2_1 a2_2 a2_3 a2_4 a2_5 h0 := by
  rw [F10_h0, exec_holes [([1, 1, 1, 1, 1, 0, 1, 0], 0), ([1, 1, 1, 1, 1, 1, 1, 1, 0, 1, 0], 1), ([1, 1, 1, 1, 1, 1], 2)] (by kernel_rfl), F10_h1, show (goX Try.prog cfg rc ⟨md.ro, h0.length⟩ 128 (bodyOf Try.prog 10) [([1, 1, 1, 1, 1, 0, 1, 0], 0), ([1, 1, 1, 1, 1, 1, 1, 1, 0, 1, 0], 1), ([1, 1, 1, 1, 1, 1], 2)] (retK Try.prog cfg 10 (rsOf Try.prog 10) h0)) 0 = _ from J10_0_cut rc ⟨md.ro, h0.length⟩ h0]
  exact F10_h2 rc _ a0_0 a0_1 a0_2 a1 a2_0 a2_1 a2_2 a2_3 a2_4 a2_5 h0
theorem F10_eq (rc : Rec) (md : Md) (a0_0 : Int) (a0_1 : Int) (a0_2 : Int) (a1 : Value) (a2_0 : Int) (a2_1 : Int) (a2_2 : Int) (a2_3 : Int) (a2_4 : Int) (a2_5 : Bool) (h0 : Heap) : callStep Try.prog cfg rc md 10 [(.agg #[(.int .i64 a0_0), (.int .i64 a0_1), (.int .i64 a0_2)]), a1, (.agg #[(.int .i64 a2_0), (.int .i64 a2_1), (.int .i64 a2_2), (.int .i64 a2_3), (.int .i64 a2_4), (.bool a2_5)])] h0 = F10 rc ⟨md.ro, h0.length⟩ a0_0 a0_1 a0_2 a1 a2_0 a2_1 a2_2 a2_3 a2_4 a2_5 h0 := (callStep_ne (by kernel_rfl)).trans (F10_eq0 rc md a0_0 a0_1 a0_2 a1 a2_0 a2_1 a2_2 a2_3 a2_4 a2_5 h0)

/-- tombolo/tombololaw11.EdgeTurns -/
noncomputable def J11_3 (rc : Rec) (md : Md) (h0 : Heap) (s9 : Value) (h : Heap) : Option (Value × Heap) :=
  cl (rc md 44 [s9] h) fun v1 h2 =>
  cBn v1 fun b3 =>
  (bif wantV (.bool b3) true then
  cl (rc md 41 [] h2) fun v4 h5 =>
  cBn v4 fun b6 =>
  some ((.bool b6), h5)
  else some (undef, h2)).bind fun p7 =>
  cBn (bif b3 then p7.1 else (.bool false)) fun b8 =>
  some ((.bool b8), List.take h0.length p7.2)
theorem J11_3_at (rc : Rec) (md : Md) (h0 : Heap) (t : T) (h : Heap) : cut Try.prog cfg rc md 129 (bodyOf Try.prog 11) [1, 1, 1, 1, 1, 1, 1] (retK Try.prog cfg 11 (rsOf Try.prog 11) h0) t h = J11_3 rc md h0 (t 9) h := by kernel_rfl
theorem J11_3_cut (rc : Rec) (md : Md) (h0 : Heap) : cut Try.prog cfg rc md 129 (bodyOf Try.prog 11) [1, 1, 1, 1, 1, 1, 1] (retK Try.prog cfg 11 (rsOf Try.prog 11) h0) = fun t h => J11_3 rc md h0 (t 9) h := funext fun t => funext fun h => J11_3_at rc md h0 t h
noncomputable def Jk11_2 (rc : Rec) (md : Md) (h0 : Heap) (e : Exit) (s2 : Value) (s6 : Value) (s7 : Value) (s9 : Value) (s58 : Value) (s59 : Value) (s60 : Value) (h : Heap) : Option (Value × Heap) :=
  match e with
  | .normal =>
    J11_3 rc md h0 s9 h
  | .exit j =>
    bif Nat.beq j 2 then
      J11_3 rc md h0 s9 h
    else
      none
  | .ret =>
    fin1 h0 s6 h
  | .goto l => none
  | .panic ps => none
  | .outgrown => none
noncomputable def Jk11_2H (rc : Rec) (md : Md) (h0 : Heap) (X2 : T → Heap → Option (Value × Heap)) (e : Exit) (t : T) (h : Heap) : Option (Value × Heap) :=
  match e with
  | .normal =>
    X2 t h
  | .exit j =>
    bif Nat.beq j 2 then
      X2 t h
    else
      none
  | .ret =>
    fin1 h0 (t 6) h
  | .goto l => none
  | .panic ps => none
  | .outgrown => none
theorem Jk11_2_h1 (rc : Rec) (md : Md) (h0 : Heap) (X : Nat → T → Heap → Option (Value × Heap)) (e : Exit) (t : T) (h : Heap) : kAtG Try.prog cfg X rc md 129 (replS (bodyOf Try.prog 11) [([1, 1, 1, 1, 1, 0, 1, 0], 0), ([1, 1, 1, 1, 1, 1, 1], 2)]) [1, 1, 1, 1, 1, 1, 0, 1, 0] (retK Try.prog cfg 11 (rsOf Try.prog 11) h0) e t h = Jk11_2H rc md h0 (X 2) e t h := by cases e <;> kernel_rfl
theorem Jk11_2_h2 (rc : Rec) (md : Md) (h0 : Heap) (e : Exit) (t : T) (h : Heap) : Jk11_2H rc md h0 (fun t h => J11_3 rc md h0 (t 9) h) e t h = Jk11_2 rc md h0 e (t 2) (t 6) (t 7) (t 9) (t 58) (t 59) (t 60) h := by cases e <;> (unfold Jk11_2H Jk11_2; kernel_rfl)
theorem Jk11_2_at (rc : Rec) (md : Md) (h0 : Heap) (e : Exit) (t : T) (h : Heap) : kAt Try.prog cfg rc md 129 (bodyOf Try.prog 11) [1, 1, 1, 1, 1, 1, 0, 1, 0] (retK Try.prog cfg 11 (rsOf Try.prog 11) h0) e t h = Jk11_2 rc md h0 e (t 2) (t 6) (t 7) (t 9) (t 58) (t 59) (t 60) h := by
  rw [kAt_holes [([1, 1, 1, 1, 1, 0, 1, 0], 0), ([1, 1, 1, 1, 1, 1, 1], 2)] [1, 1, 1, 1, 1, 1, 0, 1, 0] (by kernel_rfl), Jk11_2_h1, show (goX Try.prog cfg rc md 129 (bodyOf Try.prog 11) [([1, 1, 1, 1, 1, 0, 1, 0], 0), ([1, 1, 1, 1, 1, 1, 1], 2)] (retK Try.prog cfg 11 (rsOf Try.prog 11) h0)) 2 = _ from J11_3_cut rc md h0]
  exact Jk11_2_h2 rc md h0 e t h
/-- a round -/
noncomputable def Jr11_2 (rc : Rec) (md : Md) (s2 : Value) (s6 : Value) (s7 : Value) (s9 : Value) (s58 : Value) (s59 : Value) (s60 : Value) (h : Heap) : Option (((Value × Value × Value × Value × Value × Value × Value) × Heap) ⊕ (Exit × (Value × Value × Value × Value × Value × Value × Value) × Heap)) :=
  aBin Try.prog .lss 3 s60 s59 fun v1 =>
  cBn v1 fun b2 =>
  bif b2 then
    ixSV 5 s58 s60 fun v3 =>
    ldN 5 v3 h fun v4 =>
    let h5 : Heap := h ++ [.own [(.int .i64 0), (.int .i64 0), (.int .i64 0), (.int .i64 0), (.bool false)]]
    st md 5 (.pointer (some ⟨h.length, 0, none⟩)) v4 h5 fun h6 =>
    ldN 4 s7 h6 fun v7 =>
    ld1 (.pointer (some ⟨h.length, 0, none⟩)) h6 fun v8 =>
    cIn .i64 v8 fun n9 =>
    ld1 (.pointer (some ⟨h.length, 4, none⟩)) h6 fun v10 =>
    cBn v10 fun b11 =>
    cl (rc md 49 [v7, (.int .i64 n9), (.bool (!b11))] h6) fun v12 h13 =>
    ldN 4 s7 h13 fun v14 =>
    ld1 (.pointer (some ⟨h.length, 0, none⟩)) h13 fun v15 =>
    cIn .i64 v15 fun n16 =>
    cl (rc md 50 [v14, (.int .i64 n16), s2] h13) fun v17 h18 =>
    ldN 4 s7 h18 fun v19 =>
    ld1 (.pointer (some ⟨h.length, 0, none⟩)) h18 fun v20 =>
    cIn .i64 v20 fun n21 =>
    cl (rc md 48 [v19, (.int .i64 n21)] h18) fun v22 h23 =>
    let h24 : Heap := h23 ++ [.own [(.int .i64 0), (.int .i64 0), (.int .i64 0), (.bool false)]]
    st md 4 (.pointer (some ⟨h23.length, 0, none⟩)) v22 h24 fun h25 =>
    ld1 (.pointer (some ⟨h23.length, 3, none⟩)) h25 fun v26 =>
    cBn v26 fun b27 =>
    ld1 (.pointer (some ⟨h.length, 4, none⟩)) h25 fun v28 =>
    cBn v28 fun b29 =>
    aBin Try.prog .eql 4 (.bool b27) (.bool b29) fun v30 =>
    (bif wantV v30 false then
    some ((.pointer (some ⟨h23.length, 2, none⟩)), h25)
    else some (undef, h25)).bind fun p31 =>
    (bif wantV v30 false then
    ld1 p31.1 p31.2 fun v32 =>
    cIn .i64 v32 fun n33 =>
    some ((.int .i64 n33), p31.2)
    else some (undef, p31.2)).bind fun p34 =>
    (bif wantV v30 false then
    some (s2, p34.2)
    else some (undef, p34.2)).bind fun p35 =>
    (bif wantV v30 false then
    aBin Try.prog .neq 3 p34.1 p35.1 fun v36 =>
    some (v36, p35.2)
    else some (undef, p35.2)).bind fun p37 =>
    cBn v30 fun q38 =>
    cBn (bif q38 then (.bool true) else p37.1) fun b39 =>
    (bif wantV (.bool b39) false then
    some ((.pointer (some ⟨h23.length, 0, none⟩)), p37.2)
    else some (undef, p37.2)).bind fun p40 =>
    (bif wantV (.bool b39) false then
    ld1 p40.1 p40.2 fun v41 =>
    cIn .i64 v41 fun n42 =>
    some ((.int .i64 n42), p40.2)
    else some (undef, p40.2)).bind fun p43 =>
    (bif wantV (.bool b39) false then
    some ((.pointer (some ⟨h.length, 1, none⟩)), p43.2)
    else some (undef, p43.2)).bind fun p44 =>
    (bif wantV (.bool b39) false then
    fA 0 p44.1 fun v45 =>
    some (v45, p44.2)
    else some (undef, p44.2)).bind fun p46 =>
    (bif wantV (.bool b39) false then
    ld1 p46.1 p46.2 fun v47 =>
    cIn .i64 v47 fun n48 =>
    some ((.int .i64 n48), p46.2)
    else some (undef, p46.2)).bind fun p49 =>
    (bif wantV (.bool b39) false then
    aBin Try.prog .neq 3 p43.1 p49.1 fun v50 =>
    some (v50, p49.2)
    else some (undef, p49.2)).bind fun p51 =>
    cBn (bif b39 then (.bool true) else p51.1) fun b52 =>
    (bif wantV (.bool b52) false then
    some ((.pointer (some ⟨h23.length, 1, none⟩)), p51.2)
    else some (undef, p51.2)).bind fun p53 =>
    (bif wantV (.bool b52) false then
    ld1 p53.1 p53.2 fun v54 =>
    cIn .i64 v54 fun n55 =>
    some ((.int .i64 n55), p53.2)
    else some (undef, p53.2)).bind fun p56 =>
    (bif wantV (.bool b52) false then
    some ((.pointer (some ⟨h.length, 1, none⟩)), p56.2)
    else some (undef, p56.2)).bind fun p57 =>
    (bif wantV (.bool b52) false then
    fA 1 p57.1 fun v58 =>
    some (v58, p57.2)
    else some (undef, p57.2)).bind fun p59 =>
    (bif wantV (.bool b52) false then
    ld1 p59.1 p59.2 fun v60 =>
    cIn .i64 v60 fun n61 =>
    some ((.int .i64 n61), p59.2)
    else some (undef, p59.2)).bind fun p62 =>
    (bif wantV (.bool b52) false then
    aBin Try.prog .neq 3 p56.1 p62.1 fun v63 =>
    some (v63, p62.2)
    else some (undef, p62.2)).bind fun p64 =>
    cBn (bif b52 then (.bool true) else p64.1) fun b65 =>
    bif b65 then
      some (.inr (.ret, (s2, (.bool false), s7, s9, s58, s59, s60), p64.2))
    else
      ldN 4 s7 p64.2 fun v66 =>
      ld1 (.pointer (some ⟨h.length, 0, none⟩)) p64.2 fun v67 =>
      cIn .i64 v67 fun n68 =>
      ld1 (.pointer (some ⟨h.length, 3, none⟩)) p64.2 fun v69 =>
      cIn .i64 v69 fun n70 =>
      cl (rc md 50 [v66, (.int .i64 n68), (.int .i64 n70)] p64.2) fun v71 h72 =>
      ldN 4 s7 h72 fun v73 =>
      ld1 (.pointer (some ⟨h.length, 0, none⟩)) h72 fun v74 =>
      cIn .i64 v74 fun n75 =>
      ld1 (.pointer (some ⟨h.length, 4, none⟩)) h72 fun v76 =>
      cBn v76 fun b77 =>
      cl (rc md 49 [v73, (.int .i64 n75), (.bool b77)] h72) fun v78 h79 =>
      aBin Try.prog .add 3 s60 (.int .i64 1) fun v80 =>
      some (.inl ((s2, s6, s7, s9, s58, s59, v80), h79))
  else
    some (.inr ((.exit 2), (s2, s6, s7, s9, s58, s59, s60), h))
theorem Jr11_2_at (rc : Rec) (md : Md) (t : T) (h : Heap) : exec Try.prog cfg rc md 129 (sub (bodyOf Try.prog 11) [1, 1, 1, 1, 1, 1, 0, 1, 0, 0]) (rndK (fun t => (t 2, t 6, t 7, t 9, t 58, t 59, t 60))) t h = Jr11_2 rc md (t 2) (t 6) (t 7) (t 9) (t 58) (t 59) (t 60) h := by kernel_rfl
noncomputable def J11_2 (rc : Rec) (md : Md) (h0 : Heap) (s2 : Value) (s6 : Value) (s7 : Value) (s9 : Value) (s58 : Value) (s59 : Value) (s60 : Value) (h : Heap) : Option (Value × Heap) :=
  runL (fun x : (Value × Value × Value × Value × Value × Value × Value) × Heap => Jr11_2 rc md x.1.1 x.1.2.1 x.1.2.2.1 x.1.2.2.2.1 x.1.2.2.2.2.1 x.1.2.2.2.2.2.1 x.1.2.2.2.2.2.2 x.2) (fun e (s : Value × Value × Value × Value × Value × Value × Value) h => Jk11_2 rc md h0 e s.1 s.2.1 s.2.2.1 s.2.2.2.1 s.2.2.2.2.1 s.2.2.2.2.2.1 s.2.2.2.2.2.2 h) (s2, s6, s7, s9, s58, s59, s60) h
theorem J11_2_step (rc : Rec) (md : Md) (h0 : Heap) (s2 : Value) (s6 : Value) (s7 : Value) (s9 : Value) (s58 : Value) (s59 : Value) (s60 : Value) (h : Heap) : J11_2 rc md h0 s2 s6 s7 s9 s58 s59 s60 h = (Jr11_2 rc md s2 s6 s7 s9 s58 s59 s60 h).bind fun x => match x with
    | .inl (s, h) => J11_2 rc md h0 s.1 s.2.1 s.2.2.1 s.2.2.2.1 s.2.2.2.2.1 s.2.2.2.2.2.1 s.2.2.2.2.2.2 h
    | .inr (e, s, h) => Jk11_2 rc md h0 e s.1 s.2.1 s.2.2.1 s.2.2.2.1 s.2.2.2.2.1 s.2.2.2.2.2.1 s.2.2.2.2.2.2 h := by
  unfold J11_2
  rw [runL_eq]
  refine congrArg (Option.bind _) (funext fun x => ?_)
  rcases x with ⟨s, h⟩ | ⟨e, s, h⟩ <;> rfl
theorem J11_2_cut (rc : Rec) (md : Md) (h0 : Heap) : cut Try.prog cfg rc md 129 (bodyOf Try.prog 11) [1, 1, 1, 1, 1, 1, 0, 1, 0] (retK Try.prog cfg 11 (rsOf Try.prog 11) h0) = fun t h => J11_2 rc md h0 (t 2) (t 6) (t 7) (t 9) (t 58) (t 59) (t 60) h := by
  funext t h
  have e : sub (bodyOf Try.prog 11) [1, 1, 1, 1, 1, 1, 0, 1, 0] = .loop (sub (bodyOf Try.prog 11) [1, 1, 1, 1, 1, 1, 0, 1, 0, 0]) := by kernel_rfl
  unfold cut
  rw [e]
  exact loop_eq (by kernel_rfl) (fun t => (t 2, t 6, t 7, t 9, t 58, t 59, t 60)) (fun x : (Value × Value × Value × Value × Value × Value × Value) × Heap => Jr11_2 rc md x.1.1 x.1.2.1 x.1.2.2.1 x.1.2.2.2.1 x.1.2.2.2.2.1 x.1.2.2.2.2.2.1 x.1.2.2.2.2.2.2 x.2) (fun t h => Jr11_2_at rc md t h) (fun e (s : Value × Value × Value × Value × Value × Value × Value) h => Jk11_2 rc md h0 e s.1 s.2.1 s.2.2.1 s.2.2.2.1 s.2.2.2.2.1 s.2.2.2.2.2.1 s.2.2.2.2.2.2 h) (fun e t h => Jk11_2_at rc md h0 e t h) t h
noncomputable def J11_1 (rc : Rec) (md : Md) (h0 : Heap) (s2 : Value) (s6 : Value) (s7 : Value) (s9 : Value) (h : Heap) : Option (Value × Heap) :=
  bif okPtr s9 then
  fA 7 s9 fun v1 =>
  ld1 v1 h fun v2 =>
  lenS v2 fun v3 =>
  cIn .i64 v3 fun n4 =>
  J11_2 rc md h0 s2 s6 s7 s9 v2 (.int .i64 n4) (.int .i64 0) h
  else none
noncomputable def J11_1H (rc : Rec) (md : Md) (h0 : Heap) (X1 : T → Heap → Option (Value × Heap)) (t : T) (h : Heap) : Option (Value × Heap) :=
  bif okPtr (t 9) then
  fA 7 (t 9) fun v1 =>
  ld1 v1 h fun v2 =>
  lenS v2 fun v3 =>
  cIn .i64 v3 fun n4 =>
  X1 (upd (upd (upd (upd (upd (upd t 55 (t 9)) 56 (t 9)) 57 v1) 58 v2) 59 (.int .i64 n4)) 60 (.int .i64 0)) h
  else none
theorem J11_1_h1 (rc : Rec) (md : Md) (h0 : Heap) (X : Nat → T → Heap → Option (Value × Heap)) (t : T) (h : Heap) : execG Try.prog cfg X rc md 129 (sub (replS (bodyOf Try.prog 11) [([1, 1, 1, 1, 1, 0, 1, 0], 0), ([1, 1, 1, 1, 1, 1, 0, 1, 0], 1), ([1, 1, 1, 1, 1, 1, 1], 2)]) [1, 1, 1, 1, 1, 1]) (kAtG Try.prog cfg X rc md 129 (replS (bodyOf Try.prog 11) [([1, 1, 1, 1, 1, 0, 1, 0], 0), ([1, 1, 1, 1, 1, 1, 0, 1, 0], 1), ([1, 1, 1, 1, 1, 1, 1], 2)]) [1, 1, 1, 1, 1, 1] (retK Try.prog cfg 11 (rsOf Try.prog 11) h0)) t h = J11_1H rc md h0 (X 1) t h := by kernel_rfl
theorem J11_1_h2 (rc : Rec) (md : Md) (h0 : Heap) (t : T) (h : Heap) : J11_1H rc md h0 (fun t h => J11_2 rc md h0 (t 2) (t 6) (t 7) (t 9) (t 58) (t 59) (t 60) h) t h = J11_1 rc md h0 (t 2) (t 6) (t 7) (t 9) h := by (unfold J11_1H J11_1; kernel_rfl)
theorem J11_1_at (rc : Rec) (md : Md) (h0 : Heap) (t : T) (h : Heap) : cut Try.prog cfg rc md 129 (bodyOf Try.prog 11) [1, 1, 1, 1, 1, 1] (retK Try.prog cfg 11 (rsOf Try.prog 11) h0) t h = J11_1 rc md h0 (t 2) (t 6) (t 7) (t 9) h := by
  rw [cut_holes [([1, 1, 1, 1, 1, 0, 1, 0], 0), ([1, 1, 1, 1, 1, 1, 0, 1, 0], 1), ([1, 1, 1, 1, 1, 1, 1], 2)] [1, 1, 1, 1, 1, 1] (by kernel_rfl), J11_1_h1, show (goX Try.prog cfg rc md 129 (bodyOf Try.prog 11) [([1, 1, 1, 1, 1, 0, 1, 0], 0), ([1, 1, 1, 1, 1, 1, 0, 1, 0], 1), ([1, 1, 1, 1, 1, 1, 1], 2)] (retK Try.prog cfg 11 (rsOf Try.prog 11) h0)) 1 = _ from J11_2_cut rc md h0]
  exact J11_1_h2 rc md h0 t h
theorem J11_1_cut (rc : Rec) (md : Md) (h0 : Heap) : cut Try.prog cfg rc md 129 (bodyOf Try.prog 11) [1, 1, 1, 1, 1, 1] (retK Try.prog cfg 11 (rsOf Try.prog 11) h0) = fun t h => J11_1 rc md h0 (t 2) (t 6) (t 7) (t 9) h := funext fun t => funext fun h => J11_1_at rc md h0 t h
noncomputable def Jk11_0 (rc : Rec) (md : Md) (h0 : Heap) (e : Exit) (s2 : Value) (s6 : Value) (s7 : Value) (s9 : Value) (s45 : Value) (s46 : Value) (s47 : Value) (h : Heap) : Option (Value × Heap) :=
  match e with
  | .normal =>
    J11_1 rc md h0 s2 s6 s7 s9 h
  | .exit j =>
    bif Nat.beq j 0 then
      J11_1 rc md h0 s2 s6 s7 s9 h
    else
      none
  | .ret =>
    fin1 h0 s6 h
  | .goto l => none
  | .panic ps => none
  | .outgrown => none
noncomputable def Jk11_0H (rc : Rec) (md : Md) (h0 : Heap) (X3 : T → Heap → Option (Value × Heap)) (e : Exit) (t : T) (h : Heap) : Option (Value × Heap) :=
  match e with
  | .normal =>
    X3 t h
  | .exit j =>
    bif Nat.beq j 0 then
      X3 t h
    else
      none
  | .ret =>
    fin1 h0 (t 6) h
  | .goto l => none
  | .panic ps => none
  | .outgrown => none
theorem Jk11_0_h1 (rc : Rec) (md : Md) (h0 : Heap) (X : Nat → T → Heap → Option (Value × Heap)) (e : Exit) (t : T) (h : Heap) : kAtG Try.prog cfg X rc md 129 (replS (bodyOf Try.prog 11) [([1, 1, 1, 1, 1, 1, 0, 1, 0], 1), ([1, 1, 1, 1, 1, 1, 1], 2), ([1, 1, 1, 1, 1, 1], 3)]) [1, 1, 1, 1, 1, 0, 1, 0] (retK Try.prog cfg 11 (rsOf Try.prog 11) h0) e t h = Jk11_0H rc md h0 (X 3) e t h := by cases e <;> kernel_rfl
theorem Jk11_0_h2 (rc : Rec) (md : Md) (h0 : Heap) (e : Exit) (t : T) (h : Heap) : Jk11_0H rc md h0 (fun t h => J11_1 rc md h0 (t 2) (t 6) (t 7) (t 9) h) e t h = Jk11_0 rc md h0 e (t 2) (t 6) (t 7) (t 9) (t 45) (t 46) (t 47) h := by cases e <;> (unfold Jk11_0H Jk11_0; kernel_rfl)
theorem Jk11_0_at (rc : Rec) (md : Md) (h0 : Heap) (e : Exit) (t : T) (h : Heap) : kAt Try.prog cfg rc md 129 (bodyOf Try.prog 11) [1, 1, 1, 1, 1, 0, 1, 0] (retK Try.prog cfg 11 (rsOf Try.prog 11) h0) e t h = Jk11_0 rc md h0 e (t 2) (t 6) (t 7) (t 9) (t 45) (t 46) (t 47) h := by
  rw [kAt_holes [([1, 1, 1, 1, 1, 1, 0, 1, 0], 1), ([1, 1, 1, 1, 1, 1, 1], 2), ([1, 1, 1, 1, 1, 1], 3)] [1, 1, 1, 1, 1, 0, 1, 0] (by kernel_rfl), Jk11_0_h1, show (goX Try.prog cfg rc md 129 (bodyOf Try.prog 11) [([1, 1, 1, 1, 1, 1, 0, 1, 0], 1), ([1, 1, 1, 1, 1, 1, 1], 2), ([1, 1, 1, 1, 1, 1], 3)] (retK Try.prog cfg 11 (rsOf Try.prog 11) h0)) 3 = _ from J11_1_cut rc md h0]
  exact Jk11_0_h2 rc md h0 e t h
/-- a round -/
noncomputable def Jr11_0 (rc : Rec) (md : Md) (s2 : Value) (s6 : Value) (s7 : Value) (s9 : Value) (s45 : Value) (s46 : Value) (s47 : Value) (h : Heap) : Option (((Value × Value × Value × Value × Value × Value × Value) × Heap) ⊕ (Exit × (Value × Value × Value × Value × Value × Value × Value) × Heap)) :=
  aBin Try.prog .lss 3 s47 s46 fun v1 =>
  cBn v1 fun b2 =>
  bif b2 then
    ixSV 6 s45 s47 fun v3 =>
    ldN 6 v3 h fun v4 =>
    let h5 : Heap := h ++ [.own [(.int .i64 0), (.int .i64 0), (.int .i64 0), (.int .i64 0), (.int .i64 0), (.bool false)]]
    st md 6 (.pointer (some ⟨h.length, 0, none⟩)) v4 h5 fun h6 =>
    ldN 6 (.pointer (some ⟨h.length, 0, none⟩)) h6 fun v7 =>
    cl (rc md 43 [s9, v7] h6) fun v8 h9 =>
    aBin Try.prog .add 3 s47 (.int .i64 1) fun v10 =>
    some (.inl ((s2, s6, s7, s9, s45, s46, v10), h9))
  else
    some (.inr ((.exit 0), (s2, s6, s7, s9, s45, s46, s47), h))
theorem Jr11_0_at (rc : Rec) (md : Md) (t : T) (h : Heap) : exec Try.prog cfg rc md 129 (sub (bodyOf Try.prog 11) [1, 1, 1, 1, 1, 0, 1, 0, 0]) (rndK (fun t => (t 2, t 6, t 7, t 9, t 45, t 46, t 47))) t h = Jr11_0 rc md (t 2) (t 6) (t 7) (t 9) (t 45) (t 46) (t 47) h := by kernel_rfl
noncomputable def J11_0 (rc : Rec) (md : Md) (h0 : Heap) (s2 : Value) (s6 : Value) (s7 : Value) (s9 : Value) (s45 : Value) (s46 : Value) (s47 : Value) (h : Heap) : Option (Value × Heap) :=
  runL (fun x : (Value × Value × Value × Value × Value × Value × Value) × Heap => Jr11_0 rc md x.1.1 x.1.2.1 x.1.2.2.1 x.1.2.2.2.1 x.1.2.2.2.2.1 x.1.2.2.2.2.2.1 x.1.2.2.2.2.2.2 x.2) (fun e (s : Value × Value × Value × Value × Value × Value × Value) h => Jk11_0 rc md h0 e s.1 s.2.1 s.2.2.1 s.2.2.2.1 s.2.2.2.2.1 s.2.2.2.2.2.1 s.2.2.2.2.2.2 h) (s2, s6, s7, s9, s45, s46, s47) h
theorem J11_0_step (rc : Rec) (md : Md) (h0 : Heap) (s2 : Value) (s6 : Value) (s7 : Value) (s9 : Value) (s45 : Value) (s46 : Value) (s47 : Value) (h : Heap) : J11_0 rc md h0 s2 s6 s7 s9 s45 s46 s47 h = (Jr11_0 rc md s2 s6 s7 s9 s45 s46 s47 h).bind fun x => match x with
    | .inl (s, h) => J11_0 rc md h0 s.1 s.2.1 s.2.2.1 s.2.2.2.1 s.2.2.2.2.1 s.2.2.2.2.2.1 s.2.2.2.2.2.2 h
    | .inr (e, s, h) => Jk11_0 rc md h0 e s.1 s.2.1 s.2.2.1 s.2.2.2.1 s.2.2.2.2.1 s.2.2.2.2.2.1 s.2.2.2.2.2.2 h := by
  unfold J11_0
  rw [runL_eq]
  refine congrArg (Option.bind _) (funext fun x => ?_)
  rcases x with ⟨s, h⟩ | ⟨e, s, h⟩ <;> rfl
theorem J11_0_cut (rc : Rec) (md : Md) (h0 : Heap) : cut Try.prog cfg rc md 129 (bodyOf Try.prog 11) [1, 1, 1, 1, 1, 0, 1, 0] (retK Try.prog cfg 11 (rsOf Try.prog 11) h0) = fun t h => J11_0 rc md h0 (t 2) (t 6) (t 7) (t 9) (t 45) (t 46) (t 47) h := by
  funext t h
  have e : sub (bodyOf Try.prog 11) [1, 1, 1, 1, 1, 0, 1, 0] = .loop (sub (bodyOf Try.prog 11) [1, 1, 1, 1, 1, 0, 1, 0, 0]) := by kernel_rfl
  unfold cut
  rw [e]
  exact loop_eq (by kernel_rfl) (fun t => (t 2, t 6, t 7, t 9, t 45, t 46, t 47)) (fun x : (Value × Value × Value × Value × Value × Value × Value) × Heap => Jr11_0 rc md x.1.1 x.1.2.1 x.1.2.2.1 x.1.2.2.2.1 x.1.2.2.2.2.1 x.1.2.2.2.2.2.1 x.1.2.2.2.2.2.2 x.2) (fun t h => Jr11_0_at rc md t h) (fun e (s : Value × Value × Value × Value × Value × Value × Value) h => Jk11_0 rc md h0 e s.1 s.2.1 s.2.2.1 s.2.2.2.1 s.2.2.2.2.1 s.2.2.2.2.2.1 s.2.2.2.2.2.2 h) (fun e t h => Jk11_0_at rc md h0 e t h) t h
noncomputable def F11 (rc : Rec) (md : Md) (a0_0 : Int) (a0_1 : Int) (a0_2 : Int) (a1 : Value) (a2 : Int) (h0 : Heap) : Option (Value × Heap) :=
  let h1 : Heap := h0 ++ [.own [(.int .i64 a0_0), (.int .i64 a0_1), (.int .i64 a0_2)]]
  ldN 3 (.pointer (some ⟨h0.length, 0, none⟩)) h1 fun v2 =>
  cl (rc md 40 [v2] h1) fun v3 h4 =>
  cBn v3 fun b5 =>
  (bif wantV (.bool (!b5)) false then
  some (a1, h4)
  else some (undef, h4)).bind fun p6 =>
  (bif wantV (.bool (!b5)) false then
  lenS p6.1 fun v7 =>
  cIn .i64 v7 fun n8 =>
  some ((.int .i64 n8), p6.2)
  else some (undef, p6.2)).bind fun p9 =>
  (bif wantV (.bool (!b5)) false then
  aBin Try.prog .gtr 3 p9.1 (.int .i64 60) fun v10 =>
  some (v10, p9.2)
  else some (undef, p9.2)).bind fun p11 =>
  cBn (bif !b5 then (.bool true) else p11.1) fun b12 =>
  (bif wantV (.bool b12) false then
  some ((.int .i64 a2), p11.2)
  else some (undef, p11.2)).bind fun p13 =>
  (bif wantV (.bool b12) false then
  aBin Try.prog .lss 3 p13.1 (.int .i64 0) fun v14 =>
  some (v14, p13.2)
  else some (undef, p13.2)).bind fun p15 =>
  cBn (bif b12 then (.bool true) else p15.1) fun b16 =>
  (bif wantV (.bool b16) false then
  some ((.int .i64 a2), p15.2)
  else some (undef, p15.2)).bind fun p17 =>
  (bif wantV (.bool b16) false then
  ldN 3 (.pointer (some ⟨h0.length, 0, none⟩)) p17.2 fun v18 =>
  some (v18, p17.2)
  else some (undef, p17.2)).bind fun p19 =>
  (bif wantV (.bool b16) false then
  cl (rc md 17 [p19.1] p19.2) fun v20 h21 =>
  cIn .i64 v20 fun n22 =>
  some ((.int .i64 n22), h21)
  else some (undef, p19.2)).bind fun p23 =>
  (bif wantV (.bool b16) false then
  aBin Try.prog .geq 3 p17.1 p23.1 fun v24 =>
  some (v24, p23.2)
  else some (undef, p23.2)).bind fun p25 =>
  cBn (bif b16 then (.bool true) else p25.1) fun b26 =>
  bif b26 then
    cl (rc md 41 [] p25.2) fun v27 h28 =>
    cBn v27 fun b29 =>
    some ((.bool b29), List.take h0.length h28)
  else
    ldN 3 (.pointer (some ⟨h0.length, 0, none⟩)) p25.2 fun v30 =>
    cl (rc md 42 [v30] p25.2) fun v31 h32 =>
    exT v31 0 fun v33 =>
    exT v31 1 fun v34 =>
    cBn v34 fun b35 =>
    let h36 : Heap := h32 ++ [.own [(.int .i64 0), (.int .i64 0), (.int .i64 0), .nilIface]]
    st md 4 (.pointer (some ⟨h32.length, 0, none⟩)) v33 h36 fun h37 =>
    bif !b35 then
      some ((.bool false), List.take h0.length h37)
    else
      ldN 3 (.pointer (some ⟨h0.length, 0, none⟩)) h37 fun v38 =>
      ldN 4 (.pointer (some ⟨h32.length, 0, none⟩)) h37 fun v39 =>
      aBuild Try.prog 59 [(0, v38), (1, v39)] fun v40 =>
      let h41 : Heap := h37 ++ [.own v40.cells.toList]
      lenS a1 fun v42 =>
      cIn .i64 v42 fun n43 =>
      J11_0 rc md h0 (.int .i64 a2) (.bool false) (.pointer (some ⟨h32.length, 0, none⟩)) (.pointer (some ⟨h37.length, 0, none⟩)) a1 (.int .i64 n43) (.int .i64 0) h41
noncomputable def F11H (rc : Rec) (md : Md) (X0 : T → Heap → Option (Value × Heap)) (a0_0 : Int) (a0_1 : Int) (a0_2 : Int) (a1 : Value) (a2 : Int) (h0 : Heap) : Option (Value × Heap) :=
  let h1 : Heap := h0 ++ [.own [(.int .i64 a0_0), (.int .i64 a0_1), (.int .i64 a0_2)]]
  ldN 3 (.pointer (some ⟨h0.length, 0, none⟩)) h1 fun v2 =>
  cl (rc md 40 [v2] h1) fun v3 h4 =>
  cBn v3 fun b5 =>
  (bif wantV (.bool (!b5)) false then
  some (a1, h4)
  else some (undef, h4)).bind fun p6 =>
  (bif wantV (.bool (!b5)) false then
  lenS p6.1 fun v7 =>
  cIn .i64 v7 fun n8 =>
  some ((.int .i64 n8), p6.2)
  else some (undef, p6.2)).bind fun p9 =>
  (bif wantV (.bool (!b5)) false then
  aBin Try.prog .gtr 3 p9.1 (.int .i64 60) fun v10 =>
  some (v10, p9.2)
  else some (undef, p9.2)).bind fun p11 =>
  cBn (bif !b5 then (.bool true) else p11.1) fun b12 =>
  (bif wantV (.bool b12) false then
  some ((.int .i64 a2), p11.2)
  else some (undef, p11.2)).bind fun p13 =>
  (bif wantV (.bool b12) false then
  aBin Try.prog .lss 3 p13.1 (.int .i64 0) fun v14 =>
  some (v14, p13.2)
  else some (undef, p13.2)).bind fun p15 =>
  cBn (bif b12 then (.bool true) else p15.1) fun b16 =>
  (bif wantV (.bool b16) false then
  some ((.int .i64 a2), p15.2)
  else some (undef, p15.2)).bind fun p17 =>
  (bif wantV (.bool b16) false then
  ldN 3 (.pointer (some ⟨h0.length, 0, none⟩)) p17.2 fun v18 =>
  some (v18, p17.2)
  else some (undef, p17.2)).bind fun p19 =>
  (bif wantV (.bool b16) false then
  cl (rc md 17 [p19.1] p19.2) fun v20 h21 =>
  cIn .i64 v20 fun n22 =>
  some ((.int .i64 n22), h21)
  else some (undef, p19.2)).bind fun p23 =>
  (bif wantV (.bool b16) false then
  aBin Try.prog .geq 3 p17.1 p23.1 fun v24 =>
  some (v24, p23.2)
  else some (undef, p23.2)).bind fun p25 =>
  cBn (bif b16 then (.bool true) else p25.1) fun b26 =>
  bif b26 then
    cl (rc md 41 [] p25.2) fun v27 h28 =>
    cBn v27 fun b29 =>
    some ((.bool b29), List.take h0.length h28)
  else
    ldN 3 (.pointer (some ⟨h0.length, 0, none⟩)) p25.2 fun v30 =>
    cl (rc md 42 [v30] p25.2) fun v31 h32 =>
    exT v31 0 fun v33 =>
    exT v31 1 fun v34 =>
    cBn v34 fun b35 =>
    let h36 : Heap := h32 ++ [.own [(.int .i64 0), (.int .i64 0), (.int .i64 0), .nilIface]]
    st md 4 (.pointer (some ⟨h32.length, 0, none⟩)) v33 h36 fun h37 =>
    bif !b35 then
      some ((.bool false), List.take h0.length h37)
    else
      ldN 3 (.pointer (some ⟨h0.length, 0, none⟩)) h37 fun v38 =>
      ldN 4 (.pointer (some ⟨h32.length, 0, none⟩)) h37 fun v39 =>
      aBuild Try.prog 59 [(0, v38), (1, v39)] fun v40 =>
      let h41 : Heap := h37 ++ [.own v40.cells.toList]
      lenS a1 fun v42 =>
      cIn .i64 v42 fun n43 =>
      X0 (upd (upd (upd (upd (upd (upd (upd (upd (upd (upd (upd (upd (upd (upd (upd (upd (upd (upd (upd (upd (upd (upd (upd (upd (upd (upd (upd (upd (upd (upd (upd (upd (upd (upd (upd (upd (upd (args0 [(.agg #[(.int .i64 a0_0), (.int .i64 a0_1), (.int .i64 a0_2)]), a1, (.int .i64 a2)]) 3 (.pointer (some ⟨h0.length, 0, none⟩))) 6 (.bool false)) 15 v2) 16 (.bool b5)) 17 (.bool (!b5))) 18 (.bool (!b5))) 19 p6.1) 20 p9.1) 21 p11.1) 22 (.bool b12)) 23 (.bool b12)) 24 p13.1) 25 p15.1) 26 (.bool b16)) 27 (.bool b16)) 28 p17.1) 29 p19.1) 30 p23.1) 31 p25.1) 32 (.bool b26)) 35 v30) 36 v31) 34 v31) 37 v33) 38 (.bool b35)) 7 (.pointer (some ⟨h32.length, 0, none⟩))) 8 (.bool b35)) 39 (.bool b35)) 40 (.bool (!b35))) 41 v38) 42 v39) 43 v40) 44 (.pointer (some ⟨h37.length, 0, none⟩))) 9 (.pointer (some ⟨h37.length, 0, none⟩))) 45 a1) 46 (.int .i64 n43)) 47 (.int .i64 0)) h41
theorem F11_h0 (rc : Rec) (md : Md) (a0_0 : Int) (a0_1 : Int) (a0_2 : Int) (a1 : Value) (a2 : Int) (h0 : Heap) : callStep0 Try.prog cfg rc md 11 [(.agg #[(.int .i64 a0_0), (.int .i64 a0_1), (.int .i64 a0_2)]), a1, (.int .i64 a2)] h0 = exec Try.prog cfg rc ⟨md.ro, h0.length⟩ 129 (bodyOf Try.prog 11) (retK Try.prog cfg 11 (rsOf Try.prog 11) h0) (args0 [(.agg #[(.int .i64 a0_0), (.int .i64 a0_1), (.int .i64 a0_2)]), a1, (.int .i64 a2)]) h0 := callStep0_run (by kernel_rfl) (by kernel_rfl) (by kernel_rfl)
theorem F11_h1 (rc : Rec) (md : Md) (X : Nat → T → Heap → Option (Value × Heap)) (a0_0 : Int) (a0_1 : Int) (a0_2 : Int) (a1 : Value) (a2 : Int) (h0 : Heap) : execG Try.prog cfg X rc md 129 (replS (bodyOf Try.prog 11) [([1, 1, 1, 1, 1, 0, 1, 0], 0), ([1, 1, 1, 1, 1, 1, 0, 1, 0], 1), ([1, 1, 1, 1, 1, 1, 1], 2), ([1, 1, 1, 1, 1, 1], 3)]) (retK Try.prog cfg 11 (rsOf Try.prog 11) h0) (args0 [(.agg #[(.int .i64 a0_0), (.int .i64 a0_1), (.int .i64 a0_2)]), a1, (.int .i64 a2)]) h0 = F11H rc md (X 0) a0_0 a0_1 a0_2 a1 a2 h0 := by kernel_rfl
theorem F11_h2 (rc : Rec) (md : Md) (a0_0 : Int) (a0_1 : Int) (a0_2 : Int) (a1 : Value) (a2 : Int) (h0 : Heap) : F11H rc md (fun t h => J11_0 rc md h0 (t 2) (t 6) (t 7) (t 9) (t 45) (t 46) (t 47) h) a0_0 a0_1 a0_2 a1 a2 h0 = F11 rc md a0_0 a0_1 a0_2 a1 a2 h0 := by unfold F11H F11; kernel_rfl
theorem F11_eq0 (rc : Rec) (md : Md) (a0_0 : Int) (a0_1 : Int) (a0_2 : Int) (a1 : Value) (a2 : Int) (h0 : Heap) : callStep0 Try.prog cfg rc md 11 [(.agg #[(.int .i64 a0_0), (.int .i64 a0_1), (.int .i64 a0_2)]), a1, (.int .i64 a2)] h0 = F11 rc ⟨md.ro, h0.length⟩ a0_0 a0_1 a0_2 a1 a2 h0 := by
  rw [F11_h0, exec_holes [([1, 1, 1, 1, 1, 0, 1, 0], 0), ([1, 1, 1, 1, 1, 1, 0, 1, 0], 1), ([1, 1, 1, 1, 1, 1, 1], 2), ([1, 1, 1, 1, 1, 1], 3)] (by kernel_rfl), F11_h1, show (goX Try.prog cfg rc ⟨md.ro, h0.length⟩ 129 (bodyOf Try.prog 11) [([1, 1, 1, 1, 1, 0, 1, 0], 0), ([1, 1, 1, 1, 1, 1, 0, 1, 0], 1), ([1, 1, 1, 1, 1, 1, 1], 2), ([1, 1, 1, 1, 1, 1], 3)] (retK Try.prog cfg 11 (rsOf Try.prog 11) h0)) 0 = _ from J11_0_cut rc ⟨md.ro, h0.length⟩ h0]
  exact F11_h2 rc _ a0_0 a0_1 a0_2 a1 a2 h0
theorem F11_eq (rc : Rec) (md : Md) (a0_0 : Int) (a0_1 : Int) (a0_2 : Int) (a1 : Value) (a2 : Int) (h0 : Heap) : callStep Try.prog cfg rc md 11 [(.agg #[(.int .i64 a0_0), (.int .i64 a0_1), (.int .i64 a0_2)]), a1, (.int .i64 a2)] h0 = F11 rc ⟨md.ro, h0.length⟩ a0_0 a0_1 a0_2 a1 a2 h0 := (callStep_ne (by kernel_rfl)).trans (F11_eq0 rc md a0_0 a0_1 a0_2 a1 a2 h0)

/-- tombolo/tombololaw11.right -/
noncomputable def F40 (rc : Rec) (md : Md) (a0_0 : Int) (a0_1 : Int) (a0_2 : Int) (h0 : Heap) : Option (Value × Heap) :=
  let h1 : Heap := h0 ++ [.own [(.int .i64 a0_0), (.int .i64 a0_1), (.int .i64 a0_2)]]
  ld1 (.pointer (some ⟨h0.length, 0, none⟩)) h1 fun v2 =>
  cIn .i64 v2 fun n3 =>
  ld1 (.pointer (some ⟨h0.length, 1, none⟩)) h1 fun v4 =>
  cIn .i64 v4 fun n5 =>
  ld1 (.pointer (some ⟨h0.length, 2, none⟩)) h1 fun v6 =>
  cIn .i64 v6 fun n7 =>
  cl (rc md 13 [(.agg #[(.int .i64 n3), (.int .i64 n5), (.int .i64 n7)])] h1) fun v8 h9 =>
  cBn v8 fun b10 =>
  (bif wantV (.bool b10) true then
  some ((.pointer (some ⟨h0.length, 0, none⟩)), h9)
  else some (undef, h9)).bind fun p11 =>
  (bif wantV (.bool b10) true then
  ld1 p11.1 p11.2 fun v12 =>
  cIn .i64 v12 fun n13 =>
  some ((.int .i64 n13), p11.2)
  else some (undef, p11.2)).bind fun p14 =>
  (bif wantV (.bool b10) true then
  aBin Try.prog .leq 3 p14.1 (.int .i64 8) fun v15 =>
  some (v15, p14.2)
  else some (undef, p14.2)).bind fun p16 =>
  cBn (bif b10 then p16.1 else (.bool false)) fun b17 =>
  some ((.bool b17), h0)
theorem F40_eq0 (rc : Rec) (md : Md) (a0_0 : Int) (a0_1 : Int) (a0_2 : Int) (h0 : Heap) : callStep0 Try.prog cfg rc md 40 [(.agg #[(.int .i64 a0_0), (.int .i64 a0_1), (.int .i64 a0_2)])] h0 = F40 rc ⟨h0.length, h0.length⟩ a0_0 a0_1 a0_2 h0 := by kernel_rfl
theorem F40_eq (rc : Rec) (md : Md) (a0_0 : Int) (a0_1 : Int) (a0_2 : Int) (h0 : Heap) : callStep Try.prog cfg rc md 40 [(.agg #[(.int .i64 a0_0), (.int .i64 a0_1), (.int .i64 a0_2)])] h0 = alone h0 (F40 rc ⟨0, 0⟩ a0_0 a0_1 a0_2 []) := by
  have e : callStep Try.prog cfg rc md 40 [(.agg #[(.int .i64 a0_0), (.int .i64 a0_1), (.int .i64 a0_2)])] h0 = alone h0 (callStep0 Try.prog cfg rc ⟨0, 0⟩ 40 [(.agg #[(.int .i64 a0_0), (.int .i64 a0_1), (.int .i64 a0_2)])] []) := by kernel_rfl
  rw [e, F40_eq0]; rfl

/-- tombolo/tombololaw11.begun -/
noncomputable def F42 (rc : Rec) (md : Md) (a0_0 : Int) (a0_1 : Int) (a0_2 : Int) (h0 : Heap) : Option (Value × Heap) :=
  let h1 : Heap := h0 ++ [.own [(.int .i64 a0_0), (.int .i64 a0_1), (.int .i64 a0_2)]]
  let h2 : Heap := h1 ++ [.own [(.int .i64 0), (.int .i64 0), (.int .i64 0), .nilIface]]
  ldN 3 (.pointer (some ⟨h0.length, 0, none⟩)) h2 fun v3 =>
  cl (rc md 23 [v3] h2) fun v4 h5 =>
  cIn .i64 v4 fun n6 =>
  cl (rc md 60 [(.int .i64 n6)] h5) fun v7 h8 =>
  exT v7 0 fun v9 =>
  exT v7 1 fun v10 =>
  cIn .i64 v10 fun n11 =>
  (bif wantV (.bool (n11 != 0)) false then
  some (v9, h8)
  else some (undef, h8)).bind fun p12 =>
  (bif wantV (.bool (n11 != 0)) false then
  aBin Try.prog .eql 80 p12.1 (.pointer none) fun v13 =>
  some (v13, p12.2)
  else some (undef, p12.2)).bind fun p14 =>
  cBn (bif (n11 != 0) then (.bool true) else p14.1) fun b15 =>
  bif b15 then
    st md 4 (.pointer (some ⟨h1.length, 0, none⟩)) (.agg #[(.int .i64 0), (.int .i64 0), (.int .i64 0), .nilIface]) p14.2 fun h16 =>
    ldN 4 (.pointer (some ⟨h1.length, 0, none⟩)) h16 fun v17 =>
    some ((.tuple #[v17, (.bool false)]), h16)
  else
    ldN 3 (.pointer (some ⟨h0.length, 0, none⟩)) p14.2 fun v18 =>
    cl (rc md 61 [v9] p14.2) fun v19 h20 =>
    aBuild Try.prog 53 [(0, v18), (1, (.iface 85 v19))] fun v21 =>
    st md 4 (.pointer (some ⟨h1.length, 0, none⟩)) v21 h20 fun h22 =>
    ldN 4 (.pointer (some ⟨h1.length, 0, none⟩)) h22 fun v23 =>
    some ((.tuple #[v23, (.bool true)]), h22)
theorem F42_eq0 (rc : Rec) (md : Md) (a0_0 : Int) (a0_1 : Int) (a0_2 : Int) (h0 : Heap) : callStep0 Try.prog cfg rc md 42 [(.agg #[(.int .i64 a0_0), (.int .i64 a0_1), (.int .i64 a0_2)])] h0 = F42 rc md a0_0 a0_1 a0_2 h0 := by kernel_rfl
theorem F42_eq (rc : Rec) (md : Md) (a0_0 : Int) (a0_1 : Int) (a0_2 : Int) (h0 : Heap) : callStep Try.prog cfg rc md 42 [(.agg #[(.int .i64 a0_0), (.int .i64 a0_1), (.int .i64 a0_2)])] h0 = F42 rc md a0_0 a0_1 a0_2 h0 := (callStep_ne (by kernel_rfl)).trans (F42_eq0 rc md a0_0 a0_1 a0_2 h0)

/-- (*tombolo/tombololaw11.play).step -/
noncomputable def F43 (rc : Rec) (md : Md) (a0 : Value) (a1_0 : Int) (a1_1 : Int) (a1_2 : Int) (a1_3 : Int) (a1_4 : Int) (a1_5 : Bool) (h0 : Heap) : Option (Value × Heap) :=
  let h1 : Heap := h0 ++ [.own [(.int .i64 a1_0), (.int .i64 a1_1), (.int .i64 a1_2), (.int .i64 a1_3), (.int .i64 a1_4), (.bool a1_5)]]
  bif okPtr a0 then
  fA 0 a0 fun v2 =>
  ldN 3 v2 h1 fun v3 =>
  let h4 : Heap := h1 ++ [.own [(.int .i64 0), (.int .i64 0), (.int .i64 0)]]
  st md 3 (.pointer (some ⟨h1.length, 0, none⟩)) v3 h4 fun h5 =>
  ld1 (.pointer (some ⟨h0.length, 2, none⟩)) h5 fun v6 =>
  cIn .i64 v6 fun n7 =>
  ld1 (.pointer (some ⟨h0.length, 3, none⟩)) h5 fun v8 =>
  cIn .i64 v8 fun n9 =>
  (bif wantV (.bool (n7 == n9)) false then
  some ((.pointer (some ⟨h0.length, 2, none⟩)), h5)
  else some (undef, h5)).bind fun p10 =>
  (bif wantV (.bool (n7 == n9)) false then
  ld1 p10.1 p10.2 fun v11 =>
  cIn .i64 v11 fun n12 =>
  some ((.int .i64 n12), p10.2)
  else some (undef, p10.2)).bind fun p13 =>
  (bif wantV (.bool (n7 == n9)) false then
  aBin Try.prog .lss 3 p13.1 (.int .i64 0) fun v14 =>
  some (v14, p13.2)
  else some (undef, p13.2)).bind fun p15 =>
  cBn (bif (n7 == n9) then (.bool true) else p15.1) fun b16 =>
  (bif wantV (.bool b16) false then
  some ((.pointer (some ⟨h0.length, 2, none⟩)), p15.2)
  else some (undef, p15.2)).bind fun p17 =>
  (bif wantV (.bool b16) false then
  ld1 p17.1 p17.2 fun v18 =>
  cIn .i64 v18 fun n19 =>
  some ((.int .i64 n19), p17.2)
  else some (undef, p17.2)).bind fun p20 =>
  (bif wantV (.bool b16) false then
  some ((.pointer (some ⟨h1.length, 0, none⟩)), p20.2)
  else some (undef, p20.2)).bind fun p21 =>
  (bif wantV (.bool b16) false then
  ld1 p21.1 p21.2 fun v22 =>
  cIn .i64 v22 fun n23 =>
  some ((.int .i64 n23), p21.2)
  else some (undef, p21.2)).bind fun p24 =>
  (bif wantV (.bool b16) false then
  aBin Try.prog .geq 3 p20.1 p24.1 fun v25 =>
  some (v25, p24.2)
  else some (undef, p24.2)).bind fun p26 =>
  cBn (bif b16 then (.bool true) else p26.1) fun b27 =>
  (bif wantV (.bool b27) false then
  some ((.pointer (some ⟨h0.length, 3, none⟩)), p26.2)
  else some (undef, p26.2)).bind fun p28 =>
  (bif wantV (.bool b27) false then
  ld1 p28.1 p28.2 fun v29 =>
  cIn .i64 v29 fun n30 =>
  some ((.int .i64 n30), p28.2)
  else some (undef, p28.2)).bind fun p31 =>
  (bif wantV (.bool b27) false then
  aBin Try.prog .lss 3 p31.1 (.int .i64 0) fun v32 =>
  some (v32, p31.2)
  else some (undef, p31.2)).bind fun p33 =>
  cBn (bif b27 then (.bool true) else p33.1) fun b34 =>
  (bif wantV (.bool b34) false then
  some ((.pointer (some ⟨h0.length, 3, none⟩)), p33.2)
  else some (undef, p33.2)).bind fun p35 =>
  (bif wantV (.bool b34) false then
  ld1 p35.1 p35.2 fun v36 =>
  cIn .i64 v36 fun n37 =>
  some ((.int .i64 n37), p35.2)
  else some (undef, p35.2)).bind fun p38 =>
  (bif wantV (.bool b34) false then
  some ((.pointer (some ⟨h1.length, 0, none⟩)), p38.2)
  else some (undef, p38.2)).bind fun p39 =>
  (bif wantV (.bool b34) false then
  ld1 p39.1 p39.2 fun v40 =>
  cIn .i64 v40 fun n41 =>
  some ((.int .i64 n41), p39.2)
  else some (undef, p39.2)).bind fun p42 =>
  (bif wantV (.bool b34) false then
  aBin Try.prog .geq 3 p38.1 p42.1 fun v43 =>
  some (v43, p42.2)
  else some (undef, p42.2)).bind fun p44 =>
  cBn (bif b34 then (.bool true) else p44.1) fun b45 =>
  (bif wantV (.bool b45) false then
  some ((.pointer (some ⟨h0.length, 1, none⟩)), p44.2)
  else some (undef, p44.2)).bind fun p46 =>
  (bif wantV (.bool b45) false then
  ld1 p46.1 p46.2 fun v47 =>
  cIn .i64 v47 fun n48 =>
  some ((.int .i64 n48), p46.2)
  else some (undef, p46.2)).bind fun p49 =>
  (bif wantV (.bool b45) false then
  aBin Try.prog .lss 3 p49.1 (.int .i64 0) fun v50 =>
  some (v50, p49.2)
  else some (undef, p49.2)).bind fun p51 =>
  cBn (bif b45 then (.bool true) else p51.1) fun b52 =>
  (bif wantV (.bool b52) false then
  some ((.pointer (some ⟨h0.length, 1, none⟩)), p51.2)
  else some (undef, p51.2)).bind fun p53 =>
  (bif wantV (.bool b52) false then
  ld1 p53.1 p53.2 fun v54 =>
  cIn .i64 v54 fun n55 =>
  some ((.int .i64 n55), p53.2)
  else some (undef, p53.2)).bind fun p56 =>
  (bif wantV (.bool b52) false then
  some ((.pointer (some ⟨h1.length, 1, none⟩)), p56.2)
  else some (undef, p56.2)).bind fun p57 =>
  (bif wantV (.bool b52) false then
  ld1 p57.1 p57.2 fun v58 =>
  cIn .i64 v58 fun n59 =>
  some ((.int .i64 n59), p57.2)
  else some (undef, p57.2)).bind fun p60 =>
  (bif wantV (.bool b52) false then
  aBin Try.prog .geq 3 p56.1 p60.1 fun v61 =>
  some (v61, p60.2)
  else some (undef, p60.2)).bind fun p62 =>
  cBn (bif b52 then (.bool true) else p62.1) fun b63 =>
  (bif wantV (.bool b63) false then
  some ((.pointer (some ⟨h0.length, 4, none⟩)), p62.2)
  else some (undef, p62.2)).bind fun p64 =>
  (bif wantV (.bool b63) false then
  ld1 p64.1 p64.2 fun v65 =>
  cIn .i64 v65 fun n66 =>
  some ((.int .i64 n66), p64.2)
  else some (undef, p64.2)).bind fun p67 =>
  (bif wantV (.bool b63) false then
  aBin Try.prog .lss 3 p67.1 (.int .i64 0) fun v68 =>
  some (v68, p67.2)
  else some (undef, p67.2)).bind fun p69 =>
  cBn (bif b63 then (.bool true) else p69.1) fun b70 =>
  (bif wantV (.bool b70) false then
  some ((.pointer (some ⟨h0.length, 4, none⟩)), p69.2)
  else some (undef, p69.2)).bind fun p71 =>
  (bif wantV (.bool b70) false then
  ld1 p71.1 p71.2 fun v72 =>
  cIn .i64 v72 fun n73 =>
  some ((.int .i64 n73), p71.2)
  else some (undef, p71.2)).bind fun p74 =>
  (bif wantV (.bool b70) false then
  ldN 3 (.pointer (some ⟨h1.length, 0, none⟩)) p74.2 fun v75 =>
  some (v75, p74.2)
  else some (undef, p74.2)).bind fun p76 =>
  (bif wantV (.bool b70) false then
  cl (rc md 17 [p76.1] p76.2) fun v77 h78 =>
  cIn .i64 v77 fun n79 =>
  some ((.int .i64 n79), h78)
  else some (undef, p76.2)).bind fun p80 =>
  (bif wantV (.bool b70) false then
  aBin Try.prog .geq 3 p74.1 p80.1 fun v81 =>
  some (v81, p80.2)
  else some (undef, p80.2)).bind fun p82 =>
  cBn (bif b70 then (.bool true) else p82.1) fun b83 =>
  bif b83 then
    some ((.tuple #[]), p82.2)
  else
    ld1 (.pointer (some ⟨h0.length, 1, none⟩)) p82.2 fun v84 =>
    cIn .i64 v84 fun n85 =>
    cl (rc md 62 [a0, (.int .i64 n85)] p82.2) fun v86 h87 =>
    cIn .i64 v86 fun n88 =>
    ld1 (.pointer (some ⟨h0.length, 2, none⟩)) h87 fun v89 =>
    cIn .i64 v89 fun n90 =>
    ld1 (.pointer (some ⟨h0.length, 3, none⟩)) h87 fun v91 =>
    cIn .i64 v91 fun n92 =>
    cl (rc md 46 [a0, (.int .i64 n90), (.int .i64 n92)] h87) fun v93 h94 =>
    cIn .i64 v93 fun n95 =>
    ld1 (.pointer (some ⟨h0.length, 0, none⟩)) h94 fun v96 =>
    cIn .i64 v96 fun n97 =>
    bif (n97 == 1) then
      (bif wantV (.bool (decide (n88 ≥ 0))) false then
      some ((.int .i64 n95), h94)
      else some (undef, h94)).bind fun p98 =>
      (bif wantV (.bool (decide (n88 ≥ 0))) false then
      aBin Try.prog .geq 3 p98.1 (.int .i64 0) fun v99 =>
      some (v99, p98.2)
      else some (undef, p98.2)).bind fun p100 =>
      cBn (bif (decide (n88 ≥ 0)) then (.bool true) else p100.1) fun b101 =>
      bif b101 then
        some ((.tuple #[]), p100.2)
      else
        bif okPtr a0 then
        fA 3 a0 fun v102 =>
        ldN 4 v102 p100.2 fun v103 =>
        ld1 (.pointer (some ⟨h0.length, 1, none⟩)) p100.2 fun v104 =>
        cIn .i64 v104 fun n105 =>
        ld1 (.pointer (some ⟨h0.length, 2, none⟩)) p100.2 fun v106 =>
        cIn .i64 v106 fun n107 =>
        ld1 (.pointer (some ⟨h0.length, 3, none⟩)) p100.2 fun v108 =>
        cIn .i64 v108 fun n109 =>
        ld1 (.pointer (some ⟨h0.length, 4, none⟩)) p100.2 fun v110 =>
        cIn .i64 v110 fun n111 =>
        ld1 (.pointer (some ⟨h0.length, 5, none⟩)) p100.2 fun v112 =>
        cBn v112 fun b113 =>
        cl (rc md 58 [v103, (.int .i64 n105), (.int .i64 n107), (.int .i64 n109), (.int .i64 n111), (.bool b113)] p100.2) fun v114 h115 =>
        bif okPtr a0 then
        fA 7 a0 fun v116 =>
        ld1 v116 h115 fun v117 =>
        ld1 (.pointer (some ⟨h0.length, 1, none⟩)) h115 fun v118 =>
        cIn .i64 v118 fun n119 =>
        ld1 (.pointer (some ⟨h0.length, 2, none⟩)) h115 fun v120 =>
        cIn .i64 v120 fun n121 =>
        ld1 (.pointer (some ⟨h0.length, 3, none⟩)) h115 fun v122 =>
        cIn .i64 v122 fun n123 =>
        ld1 (.pointer (some ⟨h0.length, 2, none⟩)) h115 fun v124 =>
        cIn .i64 v124 fun n125 =>
        ld1 (.pointer (some ⟨h0.length, 3, none⟩)) h115 fun v126 =>
        cIn .i64 v126 fun n127 =>
        ld1 (.pointer (some ⟨h0.length, 4, none⟩)) h115 fun v128 =>
        cIn .i64 v128 fun n129 =>
        ld1 (.pointer (some ⟨h0.length, 5, none⟩)) h115 fun v130 =>
        cBn v130 fun b131 =>
        let h132 : Heap := h115 ++ [.own [(.int .i64 n119), (.int .i64 (if n123 < n121 then n123 else n121)), (.int .i64 (if n127 > n125 then n127 else n125)), (.int .i64 n129), (.bool b131)]]
        cLE true (fun hq => ld1 v116 hq some) v117 h115 h132 <|
        aBuiltin Try.prog md .append #[57, 57] [v117, (.slice (some ⟨h115.length, 0, none⟩) 1 5)] h132 fun v133 h134 =>
        bif okPtr a0 then
        fA 7 a0 fun v135 =>
        st md 1 v135 v133 h134 fun h136 =>
        some ((.tuple #[]), h136)
        else none
        else none
        else none
    else
      bif (n97 == 2) then
        bif okPtr a0 then
        fA 3 a0 fun v137 =>
        ldN 4 v137 h94 fun v138 =>
        ld1 (.pointer (some ⟨h0.length, 2, none⟩)) h94 fun v139 =>
        cIn .i64 v139 fun n140 =>
        ld1 (.pointer (some ⟨h0.length, 3, none⟩)) h94 fun v141 =>
        cIn .i64 v141 fun n142 =>
        cl (rc md 59 [v138, (.int .i64 n140), (.int .i64 n142)] h94) fun v143 h144 =>
        bif (decide (n95 ≥ 0)) then
          let h145 : Heap := h144 ++ [.own []]
          bif okPtr a0 then
          fA 7 a0 fun v146 =>
          ld1 v146 h145 fun v147 =>
          cLE true (fun hq => ld1 v146 hq some) v147 h144 h145 <|
          aSlice Try.prog 57 v147 none (some (.int .i64 n95)) none fun v148 =>
          aBuiltin Try.prog md .append #[57, 57] [(.slice (some ⟨h144.length, 0, none⟩) 0 5), v148] h145 fun v149 h150 =>
          bif okPtr a0 then
          fA 7 a0 fun v151 =>
          ld1 v151 h150 fun v152 =>
          cLE true (fun hq => ld1 v151 hq some) v152 h145 h150 <|
          cLE true (fun hq => ld1 v151 hq some) v152 h144 h145 <|
          aSlice Try.prog 57 v152 (some (.int .i64 (IntKind.wrap .i64 (n95 + 1)))) none none fun v153 =>
          aBuiltin Try.prog md .append #[57, 57] [v149, v153] h150 fun v154 h155 =>
          bif okPtr a0 then
          fA 7 a0 fun v156 =>
          st md 1 v156 v154 h155 fun h157 =>
          some ((.tuple #[]), h157)
          else none
          else none
          else none
        else
          some ((.tuple #[]), h144)
        else none
      else
        bif (n97 == 3) then
          bif (decide (n88 ≥ 0)) then
            bif okPtr a0 then
            fA 3 a0 fun v158 =>
            ldN 4 v158 h94 fun v159 =>
            ld1 (.pointer (some ⟨h0.length, 1, none⟩)) h94 fun v160 =>
            cIn .i64 v160 fun n161 =>
            ld1 (.pointer (some ⟨h0.length, 5, none⟩)) h94 fun v162 =>
            cBn v162 fun b163 =>
            cl (rc md 49 [v159, (.int .i64 n161), (.bool b163)] h94) fun v164 h165 =>
            bif okPtr a0 then
            fA 7 a0 fun v166 =>
            ld1 v166 h165 fun v167 =>
            ld1 (.pointer (some ⟨h0.length, 5, none⟩)) h165 fun v168 =>
            cBn v168 fun b169 =>
            ixS 5 v167 n88 fun v170 =>
            fA 1 v170 fun v171 =>
            fA 3 v171 fun v172 =>
            st md 1 v172 (.bool b169) h165 fun h173 =>
            some ((.tuple #[]), h173)
            else none
            else none
          else
            some ((.tuple #[]), h94)
        else
          bif (n97 == 4) then
            bif (decide (n88 ≥ 0)) then
              bif okPtr a0 then
              fA 3 a0 fun v174 =>
              ldN 4 v174 h94 fun v175 =>
              ld1 (.pointer (some ⟨h0.length, 1, none⟩)) h94 fun v176 =>
              cIn .i64 v176 fun n177 =>
              ld1 (.pointer (some ⟨h0.length, 4, none⟩)) h94 fun v178 =>
              cIn .i64 v178 fun n179 =>
              cl (rc md 50 [v175, (.int .i64 n177), (.int .i64 n179)] h94) fun v180 h181 =>
              bif okPtr a0 then
              fA 7 a0 fun v182 =>
              ld1 v182 h181 fun v183 =>
              ld1 (.pointer (some ⟨h0.length, 4, none⟩)) h181 fun v184 =>
              cIn .i64 v184 fun n185 =>
              ixS 5 v183 n88 fun v186 =>
              fA 1 v186 fun v187 =>
              fA 2 v187 fun v188 =>
              st md 1 v188 (.int .i64 n185) h181 fun h189 =>
              some ((.tuple #[]), h189)
              else none
              else none
            else
              some ((.tuple #[]), h94)
          else
            some ((.tuple #[]), h94)
  else none
theorem F43_eq0 (rc : Rec) (md : Md) (a0 : Value) (a1_0 : Int) (a1_1 : Int) (a1_2 : Int) (a1_3 : Int) (a1_4 : Int) (a1_5 : Bool) (h0 : Heap) : callStep0 Try.prog cfg rc md 43 [a0, (.agg #[(.int .i64 a1_0), (.int .i64 a1_1), (.int .i64 a1_2), (.int .i64 a1_3), (.int .i64 a1_4), (.bool a1_5)])] h0 = F43 rc md a0 a1_0 a1_1 a1_2 a1_3 a1_4 a1_5 h0 := by kernel_rfl
theorem F43_eq (rc : Rec) (md : Md) (a0 : Value) (a1_0 : Int) (a1_1 : Int) (a1_2 : Int) (a1_3 : Int) (a1_4 : Int) (a1_5 : Bool) (h0 : Heap) : callStep Try.prog cfg rc md 43 [a0, (.agg #[(.int .i64 a1_0), (.int .i64 a1_1), (.int .i64 a1_2), (.int .i64 a1_3), (.int .i64 a1_4), (.bool a1_5)])] h0 = F43 rc md a0 a1_0 a1_1 a1_2 a1_3 a1_4 a1_5 h0 := (callStep_ne (by kernel_rfl)).trans (F43_eq0 rc md a0 a1_0 a1_1 a1_2 a1_3 a1_4 a1_5 h0)

/-- (*tombolo/tombololaw11.play).is -/
noncomputable def Jk44_2 (rc : Rec) (md : Md) (h0 : Heap) (e : Exit) (s0 : Value) (s2 : Value) (s93 : Value) (s94 : Value) (s95 : Value) (h : Heap) : Option (Value × Heap) :=
  match e with
  | .normal =>
    some ((.bool true), List.take h0.length h)
  | .exit j =>
    bif Nat.beq j 4 then
      some ((.bool true), List.take h0.length h)
    else
      none
  | .ret =>
    fin1 h0 s2 h
  | .goto l => none
  | .panic ps => none
  | .outgrown => none
theorem Jk44_2_at (rc : Rec) (md : Md) (h0 : Heap) (e : Exit) (t : T) (h : Heap) : kAt Try.prog cfg rc md 110 (bodyOf Try.prog 44) [1, 1, 0, 1, 0] (retK Try.prog cfg 44 (rsOf Try.prog 44) h0) e t h = Jk44_2 rc md h0 e (t 0) (t 2) (t 93) (t 94) (t 95) h := by cases e <;> kernel_rfl
/-- a round -/
noncomputable def Jr44_2 (rc : Rec) (md : Md) (s0 : Value) (s2 : Value) (s93 : Value) (s94 : Value) (s95 : Value) (h : Heap) : Option (((Value × Value × Value × Value × Value) × Heap) ⊕ (Exit × (Value × Value × Value × Value × Value) × Heap)) :=
  aBin Try.prog .lss 3 s95 s94 fun v1 =>
  cBn v1 fun b2 =>
  bif b2 then
    ixSV 5 s93 s95 fun v3 =>
    ldN 5 v3 h fun v4 =>
    let h5 : Heap := h ++ [.own [(.int .i64 0), (.int .i64 0), (.int .i64 0), (.int .i64 0), (.bool false)]]
    st md 5 (.pointer (some ⟨h.length, 0, none⟩)) v4 h5 fun h6 =>
    bif okPtr s0 then
    fA 3 s0 fun v7 =>
    ldN 4 v7 h6 fun v8 =>
    ld1 (.pointer (some ⟨h.length, 0, none⟩)) h6 fun v9 =>
    cIn .i64 v9 fun n10 =>
    cl (rc md 48 [v8, (.int .i64 n10)] h6) fun v11 h12 =>
    ldN 4 (.pointer (some ⟨h.length, 1, none⟩)) h12 fun v13 =>
    cLE true (fun hq => ldN 4 (.pointer (some ⟨h.length, 1, none⟩)) hq some) v13 h6 h12 <|
    aBin Try.prog .neq 66 v11 v13 fun v14 =>
    cBn v14 fun b15 =>
    bif b15 then
      some (.inr (.ret, (s0, (.bool false), s93, s94, s95), h12))
    else
      aBin Try.prog .add 3 s95 (.int .i64 1) fun v16 =>
      some (.inl ((s0, s2, s93, s94, v16), h12))
    else none
  else
    some (.inr ((.exit 4), (s0, s2, s93, s94, s95), h))
theorem Jr44_2_at (rc : Rec) (md : Md) (t : T) (h : Heap) : exec Try.prog cfg rc md 110 (sub (bodyOf Try.prog 44) [1, 1, 0, 1, 0, 0]) (rndK (fun t => (t 0, t 2, t 93, t 94, t 95))) t h = Jr44_2 rc md (t 0) (t 2) (t 93) (t 94) (t 95) h := by kernel_rfl
noncomputable def J44_2 (rc : Rec) (md : Md) (h0 : Heap) (s0 : Value) (s2 : Value) (s93 : Value) (s94 : Value) (s95 : Value) (h : Heap) : Option (Value × Heap) :=
  runL (fun x : (Value × Value × Value × Value × Value) × Heap => Jr44_2 rc md x.1.1 x.1.2.1 x.1.2.2.1 x.1.2.2.2.1 x.1.2.2.2.2 x.2) (fun e (s : Value × Value × Value × Value × Value) h => Jk44_2 rc md h0 e s.1 s.2.1 s.2.2.1 s.2.2.2.1 s.2.2.2.2 h) (s0, s2, s93, s94, s95) h
theorem J44_2_step (rc : Rec) (md : Md) (h0 : Heap) (s0 : Value) (s2 : Value) (s93 : Value) (s94 : Value) (s95 : Value) (h : Heap) : J44_2 rc md h0 s0 s2 s93 s94 s95 h = (Jr44_2 rc md s0 s2 s93 s94 s95 h).bind fun x => match x with
    | .inl (s, h) => J44_2 rc md h0 s.1 s.2.1 s.2.2.1 s.2.2.2.1 s.2.2.2.2 h
    | .inr (e, s, h) => Jk44_2 rc md h0 e s.1 s.2.1 s.2.2.1 s.2.2.2.1 s.2.2.2.2 h := by
  unfold J44_2
  rw [runL_eq]
  refine congrArg (Option.bind _) (funext fun x => ?_)
  rcases x with ⟨s, h⟩ | ⟨e, s, h⟩ <;> rfl
theorem J44_2_cut (rc : Rec) (md : Md) (h0 : Heap) : cut Try.prog cfg rc md 110 (bodyOf Try.prog 44) [1, 1, 0, 1, 0] (retK Try.prog cfg 44 (rsOf Try.prog 44) h0) = fun t h => J44_2 rc md h0 (t 0) (t 2) (t 93) (t 94) (t 95) h := by
  funext t h
  have e : sub (bodyOf Try.prog 44) [1, 1, 0, 1, 0] = .loop (sub (bodyOf Try.prog 44) [1, 1, 0, 1, 0, 0]) := by kernel_rfl
  unfold cut
  rw [e]
  exact loop_eq (by kernel_rfl) (fun t => (t 0, t 2, t 93, t 94, t 95)) (fun x : (Value × Value × Value × Value × Value) × Heap => Jr44_2 rc md x.1.1 x.1.2.1 x.1.2.2.1 x.1.2.2.2.1 x.1.2.2.2.2 x.2) (fun t h => Jr44_2_at rc md t h) (fun e (s : Value × Value × Value × Value × Value) h => Jk44_2 rc md h0 e s.1 s.2.1 s.2.2.1 s.2.2.2.1 s.2.2.2.2 h) (fun e t h => Jk44_2_at rc md h0 e t h) t h
noncomputable def J44_1 (rc : Rec) (md : Md) (h0 : Heap) (s0 : Value) (s2 : Value) (h : Heap) : Option (Value × Heap) :=
  bif okPtr s0 then
  fA 7 s0 fun v1 =>
  ld1 v1 h fun v2 =>
  lenS v2 fun v3 =>
  cIn .i64 v3 fun n4 =>
  J44_2 rc md h0 s0 s2 v2 (.int .i64 n4) (.int .i64 0) h
  else none
noncomputable def J44_1H (rc : Rec) (md : Md) (h0 : Heap) (X1 : T → Heap → Option (Value × Heap)) (t : T) (h : Heap) : Option (Value × Heap) :=
  bif okPtr (t 0) then
  fA 7 (t 0) fun v1 =>
  ld1 v1 h fun v2 =>
  lenS v2 fun v3 =>
  cIn .i64 v3 fun n4 =>
  X1 (upd (upd (upd (upd (upd (upd t 90 (t 0)) 91 (t 0)) 92 v1) 93 v2) 94 (.int .i64 n4)) 95 (.int .i64 0)) h
  else none
theorem J44_1_h1 (rc : Rec) (md : Md) (h0 : Heap) (X : Nat → T → Heap → Option (Value × Heap)) (t : T) (h : Heap) : execG Try.prog cfg X rc md 110 (sub (replS (bodyOf Try.prog 44) [([1, 0, 1, 0], 0), ([1, 1, 0, 1, 0], 1)]) [1, 1]) (kAtG Try.prog cfg X rc md 110 (replS (bodyOf Try.prog 44) [([1, 0, 1, 0], 0), ([1, 1, 0, 1, 0], 1)]) [1, 1] (retK Try.prog cfg 44 (rsOf Try.prog 44) h0)) t h = J44_1H rc md h0 (X 1) t h := by kernel_rfl
theorem J44_1_h2 (rc : Rec) (md : Md) (h0 : Heap) (t : T) (h : Heap) : J44_1H rc md h0 (fun t h => J44_2 rc md h0 (t 0) (t 2) (t 93) (t 94) (t 95) h) t h = J44_1 rc md h0 (t 0) (t 2) h := by (unfold J44_1H J44_1; kernel_rfl)
theorem J44_1_at (rc : Rec) (md : Md) (h0 : Heap) (t : T) (h : Heap) : cut Try.prog cfg rc md 110 (bodyOf Try.prog 44) [1, 1] (retK Try.prog cfg 44 (rsOf Try.prog 44) h0) t h = J44_1 rc md h0 (t 0) (t 2) h := by
  rw [cut_holes [([1, 0, 1, 0], 0), ([1, 1, 0, 1, 0], 1)] [1, 1] (by kernel_rfl), J44_1_h1, show (goX Try.prog cfg rc md 110 (bodyOf Try.prog 44) [([1, 0, 1, 0], 0), ([1, 1, 0, 1, 0], 1)] (retK Try.prog cfg 44 (rsOf Try.prog 44) h0)) 1 = _ from J44_2_cut rc md h0]
  exact J44_1_h2 rc md h0 t h
theorem J44_1_cut (rc : Rec) (md : Md) (h0 : Heap) : cut Try.prog cfg rc md 110 (bodyOf Try.prog 44) [1, 1] (retK Try.prog cfg 44 (rsOf Try.prog 44) h0) = fun t h => J44_1 rc md h0 (t 0) (t 2) h := funext fun t => funext fun h => J44_1_at rc md h0 t h
noncomputable def Jk44_0 (rc : Rec) (md : Md) (h0 : Heap) (e : Exit) (s0 : Value) (s2 : Value) (s15 : Value) (s16 : Value) (h : Heap) : Option (Value × Heap) :=
  match e with
  | .normal =>
    J44_1 rc md h0 s0 s2 h
  | .exit j =>
    bif Nat.beq j 0 then
      J44_1 rc md h0 s0 s2 h
    else
      none
  | .ret =>
    fin1 h0 s2 h
  | .goto l => none
  | .panic ps => none
  | .outgrown => none
noncomputable def Jk44_0H (rc : Rec) (md : Md) (h0 : Heap) (X2 : T → Heap → Option (Value × Heap)) (e : Exit) (t : T) (h : Heap) : Option (Value × Heap) :=
  match e with
  | .normal =>
    X2 t h
  | .exit j =>
    bif Nat.beq j 0 then
      X2 t h
    else
      none
  | .ret =>
    fin1 h0 (t 2) h
  | .goto l => none
  | .panic ps => none
  | .outgrown => none
theorem Jk44_0_h1 (rc : Rec) (md : Md) (h0 : Heap) (X : Nat → T → Heap → Option (Value × Heap)) (e : Exit) (t : T) (h : Heap) : kAtG Try.prog cfg X rc md 110 (replS (bodyOf Try.prog 44) [([1, 1, 0, 1, 0], 1), ([1, 1], 2)]) [1, 0, 1, 0] (retK Try.prog cfg 44 (rsOf Try.prog 44) h0) e t h = Jk44_0H rc md h0 (X 2) e t h := by cases e <;> kernel_rfl
theorem Jk44_0_h2 (rc : Rec) (md : Md) (h0 : Heap) (e : Exit) (t : T) (h : Heap) : Jk44_0H rc md h0 (fun t h => J44_1 rc md h0 (t 0) (t 2) h) e t h = Jk44_0 rc md h0 e (t 0) (t 2) (t 15) (t 16) h := by cases e <;> (unfold Jk44_0H Jk44_0; kernel_rfl)
theorem Jk44_0_at (rc : Rec) (md : Md) (h0 : Heap) (e : Exit) (t : T) (h : Heap) : kAt Try.prog cfg rc md 110 (bodyOf Try.prog 44) [1, 0, 1, 0] (retK Try.prog cfg 44 (rsOf Try.prog 44) h0) e t h = Jk44_0 rc md h0 e (t 0) (t 2) (t 15) (t 16) h := by
  rw [kAt_holes [([1, 1, 0, 1, 0], 1), ([1, 1], 2)] [1, 0, 1, 0] (by kernel_rfl), Jk44_0_h1, show (goX Try.prog cfg rc md 110 (bodyOf Try.prog 44) [([1, 1, 0, 1, 0], 1), ([1, 1], 2)] (retK Try.prog cfg 44 (rsOf Try.prog 44) h0)) 2 = _ from J44_1_cut rc md h0]
  exact Jk44_0_h2 rc md h0 e t h
noncomputable def Jk44_0b0 (rc : Rec) (md : Md) (e : Exit) (s0 : Value) (s2 : Value) (s3 : Value) (s15 : Value) (s16 : Value) (s23 : Value) (s24 : Value) (h : Heap) : Option (((Value × Value × Value × Value) × Heap) ⊕ (Exit × (Value × Value × Value × Value) × Heap)) :=
  match e with
  | .normal =>
    aBin Try.prog .add 3 s16 (.int .i64 1) fun v1 =>
    some (.inl ((s0, s2, s15, v1), h))
  | .exit j =>
    bif Nat.beq j 2 then
      aBin Try.prog .add 3 s16 (.int .i64 1) fun v2 =>
      some (.inl ((s0, s2, s15, v2), h))
    else
      bif Nat.beq j 1 then
        aBin Try.prog .add 3 s16 (.int .i64 1) fun v3 =>
        some (.inl ((s0, s2, s15, v3), h))
      else
        some (.inr ((.exit j), (s0, s2, s15, s16), h))
  | .ret =>
    some (.inr (.ret, (s0, s2, s15, s16), h))
  | .goto l => some (.inr ((.goto l), (s0, s2, s15, s16), h))
  | .panic ps => some (.inr ((.panic ps), (s0, s2, s15, s16), h))
  | .outgrown => some (.inr (.outgrown, (s0, s2, s15, s16), h))
theorem Jk44_0b0_at (rc : Rec) (md : Md) (e : Exit) (t : T) (h : Heap) : kAt Try.prog cfg rc md 110 (sub (bodyOf Try.prog 44) [1, 0, 1, 0, 0]) [1, 1, 0, 0, 1, 1, 0] (rndK (fun t => (t 0, t 2, t 15, t 16))) e t h = Jk44_0b0 rc md e (t 0) (t 2) (t 3) (t 15) (t 16) (t 23) (t 24) h := by cases e <;> kernel_rfl
/-- a round -/
noncomputable def Jr44_0b0 (rc : Rec) (md : Md) (s0 : Value) (s2 : Value) (s3 : Value) (s15 : Value) (s16 : Value) (s23 : Value) (s24 : Value) (h : Heap) : Option (((Value × Value × Value × Value × Value × Value × Value) × Heap) ⊕ (Exit × (Value × Value × Value × Value × Value × Value × Value) × Heap)) :=
  aBin Try.prog .lss 3 s24 s23 fun v1 =>
  cBn v1 fun b2 =>
  bif b2 then
    aBin Try.prog .eql 3 s3 s24 fun v3 =>
    cBn v3 fun b4 =>
    bif b4 then
      aBin Try.prog .add 3 s24 (.int .i64 1) fun v5 =>
      some (.inl ((s0, s2, s3, s15, s16, s23, v5), h))
    else
      bif okPtr s0 then
      fA 3 s0 fun v6 =>
      ldN 4 v6 h fun v7 =>
      cl (rc md 47 [v7, s3, s24] h) fun v8 h9 =>
      exT v8 0 fun v10 =>
      cIn .i64 v10 fun n11 =>
      exT v8 1 fun v12 =>
      cBn v12 fun b13 =>
      exT v8 2 fun v14 =>
      cBn v14 fun b15 =>
      cl (rc md 46 [s0, s3, s24] h9) fun v16 h17 =>
      cIn .i64 v16 fun n18 =>
      aBin Try.prog .neq 4 (.bool b15) (.bool (decide (n18 ≥ 0))) fun v19 =>
      (bif wantV v19 false then
      some ((.bool b15), h17)
      else some (undef, h17)).bind fun p20 =>
      (bif wantV v19 false then
      aUn .not p20.1 fun v21 =>
      some (v21, p20.2)
      else some (undef, p20.2)).bind fun p22 =>
      (bif wantV v19 false then
      some (p22.1, p22.2)
      else some (undef, p22.2)).bind fun p23 =>
      (bif wantV p23.1 true then
      some ((.int .i64 n11), p23.2)
      else some (undef, p23.2)).bind fun p24 =>
      (bif wantV p23.1 true then
      aBin Try.prog .neq 3 p24.1 (.int .i64 0) fun v25 =>
      some (v25, p24.2)
      else some (undef, p24.2)).bind fun p26 =>
      (bif wantV p23.1 true then
      some (p26.1, p26.2)
      else some (undef, p26.2)).bind fun p27 =>
      (bif wantV p27.1 false then
      some ((.bool b13), p27.2)
      else some (undef, p27.2)).bind fun p28 =>
      (bif wantV p23.1 true then
      cBn p27.1 fun q29 =>
      cBn (bif q29 then (.bool true) else p28.1) fun b30 =>
      some ((.bool b30), p28.2)
      else some (undef, p28.2)).bind fun p31 =>
      (bif wantV v19 false then
      cBn p23.1 fun q32 =>
      cBn (bif q32 then p31.1 else (.bool false)) fun b33 =>
      some ((.bool b33), p31.2)
      else some (undef, p31.2)).bind fun p34 =>
      cBn v19 fun q35 =>
      cBn (bif q35 then (.bool true) else p34.1) fun b36 =>
      (bif wantV (.bool b36) false then
      some ((.bool b15), p34.2)
      else some (undef, p34.2)).bind fun p37 =>
      (bif wantV (.bool b36) false then
      some (p37.1, p37.2)
      else some (undef, p37.2)).bind fun p38 =>
      (bif wantV p38.1 true then
      some ((.int .i64 n11), p38.2)
      else some (undef, p38.2)).bind fun p39 =>
      (bif wantV p38.1 true then
      some (s0, p39.2)
      else some (undef, p39.2)).bind fun p40 =>
      (bif wantV p38.1 true then
      bif okPtr p40.1 then
      some (p40.1, p40.2)
      else none
      else some (undef, p40.2)).bind fun p41 =>
      (bif wantV p38.1 true then
      fA 7 p41.1 fun v42 =>
      some (v42, p41.2)
      else some (undef, p41.2)).bind fun p43 =>
      (bif wantV p38.1 true then
      ld1 p43.1 p43.2 fun v44 =>
      some (v44, p43.2)
      else some (undef, p43.2)).bind fun p45 =>
      (bif wantV p38.1 true then
      some ((.int .i64 n18), p45.2)
      else some (undef, p45.2)).bind fun p46 =>
      (bif wantV p38.1 true then
      ixSV 5 p45.1 p46.1 fun v47 =>
      some (v47, p46.2)
      else some (undef, p46.2)).bind fun p48 =>
      (bif wantV p38.1 true then
      fA 0 p48.1 fun v49 =>
      some (v49, p48.2)
      else some (undef, p48.2)).bind fun p50 =>
      (bif wantV p38.1 true then
      ld1 p50.1 p50.2 fun v51 =>
      cIn .i64 v51 fun n52 =>
      some ((.int .i64 n52), p50.2)
      else some (undef, p50.2)).bind fun p53 =>
      (bif wantV p38.1 true then
      aBin Try.prog .neq 3 p39.1 p53.1 fun v54 =>
      some (v54, p53.2)
      else some (undef, p53.2)).bind fun p55 =>
      (bif wantV p38.1 true then
      some (p55.1, p55.2)
      else some (undef, p55.2)).bind fun p56 =>
      (bif wantV p56.1 false then
      some ((.bool b13), p56.2)
      else some (undef, p56.2)).bind fun p57 =>
      (bif wantV p56.1 false then
      some (s0, p57.2)
      else some (undef, p57.2)).bind fun p58 =>
      (bif wantV p56.1 false then
      bif okPtr p58.1 then
      some (p58.1, p58.2)
      else none
      else some (undef, p58.2)).bind fun p59 =>
      (bif wantV p56.1 false then
      fA 7 p59.1 fun v60 =>
      some (v60, p59.2)
      else some (undef, p59.2)).bind fun p61 =>
      (bif wantV p56.1 false then
      ld1 p61.1 p61.2 fun v62 =>
      some (v62, p61.2)
      else some (undef, p61.2)).bind fun p63 =>
      (bif wantV p56.1 false then
      some ((.int .i64 n18), p63.2)
      else some (undef, p63.2)).bind fun p64 =>
      (bif wantV p56.1 false then
      ixSV 5 p63.1 p64.1 fun v65 =>
      some (v65, p64.2)
      else some (undef, p64.2)).bind fun p66 =>
      (bif wantV p56.1 false then
      fA 1 p66.1 fun v67 =>
      some (v67, p66.2)
      else some (undef, p66.2)).bind fun p68 =>
      (bif wantV p56.1 false then
      fA 3 p68.1 fun v69 =>
      some (v69, p68.2)
      else some (undef, p68.2)).bind fun p70 =>
      (bif wantV p56.1 false then
      ld1 p70.1 p70.2 fun v71 =>
      cBn v71 fun b72 =>
      some ((.bool b72), p70.2)
      else some (undef, p70.2)).bind fun p73 =>
      (bif wantV p56.1 false then
      aBin Try.prog .neq 4 p57.1 p73.1 fun v74 =>
      some (v74, p73.2)
      else some (undef, p73.2)).bind fun p75 =>
      (bif wantV p38.1 true then
      cBn p56.1 fun q76 =>
      cBn (bif q76 then (.bool true) else p75.1) fun b77 =>
      some ((.bool b77), p75.2)
      else some (undef, p75.2)).bind fun p78 =>
      (bif wantV (.bool b36) false then
      cBn p38.1 fun q79 =>
      cBn (bif q79 then p78.1 else (.bool false)) fun b80 =>
      some ((.bool b80), p78.2)
      else some (undef, p78.2)).bind fun p81 =>
      cBn (bif b36 then (.bool true) else p81.1) fun b82 =>
      bif b82 then
        some (.inr (.ret, (s0, (.bool false), s3, s15, s16, s23, s24), p81.2))
      else
        aBin Try.prog .add 3 s24 (.int .i64 1) fun v83 =>
        some (.inl ((s0, s2, s3, s15, s16, s23, v83), p81.2))
      else none
  else
    some (.inr ((.exit 2), (s0, s2, s3, s15, s16, s23, s24), h))
theorem Jr44_0b0_at (rc : Rec) (md : Md) (t : T) (h : Heap) : exec Try.prog cfg rc md 110 (sub (bodyOf Try.prog 44) [1, 0, 1, 0, 0, 1, 1, 0, 0, 1, 1, 0, 0]) (rndK (fun t => (t 0, t 2, t 3, t 15, t 16, t 23, t 24))) t h = Jr44_0b0 rc md (t 0) (t 2) (t 3) (t 15) (t 16) (t 23) (t 24) h := by kernel_rfl
noncomputable def J44_0b0 (rc : Rec) (md : Md) (s0 : Value) (s2 : Value) (s3 : Value) (s15 : Value) (s16 : Value) (s23 : Value) (s24 : Value) (h : Heap) : Option (((Value × Value × Value × Value) × Heap) ⊕ (Exit × (Value × Value × Value × Value) × Heap)) :=
  runL (fun x : (Value × Value × Value × Value × Value × Value × Value) × Heap => Jr44_0b0 rc md x.1.1 x.1.2.1 x.1.2.2.1 x.1.2.2.2.1 x.1.2.2.2.2.1 x.1.2.2.2.2.2.1 x.1.2.2.2.2.2.2 x.2) (fun e (s : Value × Value × Value × Value × Value × Value × Value) h => Jk44_0b0 rc md e s.1 s.2.1 s.2.2.1 s.2.2.2.1 s.2.2.2.2.1 s.2.2.2.2.2.1 s.2.2.2.2.2.2 h) (s0, s2, s3, s15, s16, s23, s24) h
theorem J44_0b0_step (rc : Rec) (md : Md) (s0 : Value) (s2 : Value) (s3 : Value) (s15 : Value) (s16 : Value) (s23 : Value) (s24 : Value) (h : Heap) : J44_0b0 rc md s0 s2 s3 s15 s16 s23 s24 h = (Jr44_0b0 rc md s0 s2 s3 s15 s16 s23 s24 h).bind fun x => match x with
    | .inl (s, h) => J44_0b0 rc md s.1 s.2.1 s.2.2.1 s.2.2.2.1 s.2.2.2.2.1 s.2.2.2.2.2.1 s.2.2.2.2.2.2 h
    | .inr (e, s, h) => Jk44_0b0 rc md e s.1 s.2.1 s.2.2.1 s.2.2.2.1 s.2.2.2.2.1 s.2.2.2.2.2.1 s.2.2.2.2.2.2 h := by
  unfold J44_0b0
  rw [runL_eq]
  refine congrArg (Option.bind _) (funext fun x => ?_)
  rcases x with ⟨s, h⟩ | ⟨e, s, h⟩ <;> rfl
theorem J44_0b0_cut (rc : Rec) (md : Md) : cut Try.prog cfg rc md 110 (sub (bodyOf Try.prog 44) [1, 0, 1, 0, 0]) [1, 1, 0, 0, 1, 1, 0] (rndK (fun t => (t 0, t 2, t 15, t 16))) = fun t h => J44_0b0 rc md (t 0) (t 2) (t 3) (t 15) (t 16) (t 23) (t 24) h := by
  funext t h
  have e : sub (sub (bodyOf Try.prog 44) [1, 0, 1, 0, 0]) [1, 1, 0, 0, 1, 1, 0] = .loop (sub (bodyOf Try.prog 44) [1, 0, 1, 0, 0, 1, 1, 0, 0, 1, 1, 0, 0]) := by kernel_rfl
  unfold cut
  rw [e]
  exact loop_eq (by kernel_rfl) (fun t => (t 0, t 2, t 3, t 15, t 16, t 23, t 24)) (fun x : (Value × Value × Value × Value × Value × Value × Value) × Heap => Jr44_0b0 rc md x.1.1 x.1.2.1 x.1.2.2.1 x.1.2.2.2.1 x.1.2.2.2.2.1 x.1.2.2.2.2.2.1 x.1.2.2.2.2.2.2 x.2) (fun t h => Jr44_0b0_at rc md t h) (fun e (s : Value × Value × Value × Value × Value × Value × Value) h => Jk44_0b0 rc md e s.1 s.2.1 s.2.2.1 s.2.2.2.1 s.2.2.2.2.1 s.2.2.2.2.2.1 s.2.2.2.2.2.2 h) (fun e t h => Jk44_0b0_at rc md e t h) t h
/-- a round -/
noncomputable def Jr44_0 (rc : Rec) (md : Md) (s0 : Value) (s2 : Value) (s15 : Value) (s16 : Value) (h : Heap) : Option (((Value × Value × Value × Value) × Heap) ⊕ (Exit × (Value × Value × Value × Value) × Heap)) :=
  aBin Try.prog .lss 3 s16 s15 fun v1 =>
  cBn v1 fun b2 =>
  bif b2 then
    bif okPtr s0 then
    fA 0 s0 fun v3 =>
    fA 0 v3 fun v4 =>
    ld1 v4 h fun v5 =>
    cIn .i64 v5 fun n6 =>
    J44_0b0 rc md s0 s2 s16 s15 s16 (.int .i64 n6) (.int .i64 0) h
    else none
  else
    some (.inr ((.exit 0), (s0, s2, s15, s16), h))
noncomputable def Jr44_0H (rc : Rec) (md : Md) (X0 : T → Heap → Option (((Value × Value × Value × Value) × Heap) ⊕ (Exit × (Value × Value × Value × Value) × Heap))) (t : T) (h : Heap) : Option (((Value × Value × Value × Value) × Heap) ⊕ (Exit × (Value × Value × Value × Value) × Heap)) :=
  aBin Try.prog .lss 3 (t 16) (t 15) fun v1 =>
  cBn v1 fun b2 =>
  bif b2 then
    bif okPtr (t 0) then
    fA 0 (t 0) fun v3 =>
    fA 0 v3 fun v4 =>
    ld1 v4 h fun v5 =>
    cIn .i64 v5 fun n6 =>
    X0 (upd (upd (upd (upd (upd (upd (upd (upd (upd t 17 v1) 18 (t 16)) 3 (t 16)) 19 (t 0)) 20 (t 0)) 21 v3) 22 v4) 23 (.int .i64 n6)) 24 (.int .i64 0)) h
    else none
  else
    some (.inr ((.exit 0), ((t 0), (t 2), (t 15), (t 16)), h))
theorem Jr44_0_h1 (rc : Rec) (md : Md) (X : Nat → T → Heap → Option (((Value × Value × Value × Value) × Heap) ⊕ (Exit × (Value × Value × Value × Value) × Heap))) (t : T) (h : Heap) : execG Try.prog cfg X rc md 110 (replS (sub (bodyOf Try.prog 44) [1, 0, 1, 0, 0]) [([1, 1, 0, 0, 1, 1, 0], 0)]) (rndK (fun t => (t 0, t 2, t 15, t 16))) t h = Jr44_0H rc md (X 0) t h := by kernel_rfl
theorem Jr44_0_h2 (rc : Rec) (md : Md) (t : T) (h : Heap) : Jr44_0H rc md (fun t h => J44_0b0 rc md (t 0) (t 2) (t 3) (t 15) (t 16) (t 23) (t 24) h) t h = Jr44_0 rc md (t 0) (t 2) (t 15) (t 16) h := by unfold Jr44_0H Jr44_0; kernel_rfl
theorem Jr44_0_at (rc : Rec) (md : Md) (t : T) (h : Heap) : exec Try.prog cfg rc md 110 (sub (bodyOf Try.prog 44) [1, 0, 1, 0, 0]) (rndK (fun t => (t 0, t 2, t 15, t 16))) t h = Jr44_0 rc md (t 0) (t 2) (t 15) (t 16) h := by
  rw [exec_holes [([1, 1, 0, 0, 1, 1, 0], 0)] (by kernel_rfl), Jr44_0_h1, show (goX Try.prog cfg rc md 110 (sub (bodyOf Try.prog 44) [1, 0, 1, 0, 0]) [([1, 1, 0, 0, 1, 1, 0], 0)] (rndK (fun t => (t 0, t 2, t 15, t 16)))) 0 = _ from J44_0b0_cut rc md]
  exact Jr44_0_h2 rc md t h
noncomputable def J44_0 (rc : Rec) (md : Md) (h0 : Heap) (s0 : Value) (s2 : Value) (s15 : Value) (s16 : Value) (h : Heap) : Option (Value × Heap) :=
  runL (fun x : (Value × Value × Value × Value) × Heap => Jr44_0 rc md x.1.1 x.1.2.1 x.1.2.2.1 x.1.2.2.2 x.2) (fun e (s : Value × Value × Value × Value) h => Jk44_0 rc md h0 e s.1 s.2.1 s.2.2.1 s.2.2.2 h) (s0, s2, s15, s16) h
theorem J44_0_step (rc : Rec) (md : Md) (h0 : Heap) (s0 : Value) (s2 : Value) (s15 : Value) (s16 : Value) (h : Heap) : J44_0 rc md h0 s0 s2 s15 s16 h = (Jr44_0 rc md s0 s2 s15 s16 h).bind fun x => match x with
    | .inl (s, h) => J44_0 rc md h0 s.1 s.2.1 s.2.2.1 s.2.2.2 h
    | .inr (e, s, h) => Jk44_0 rc md h0 e s.1 s.2.1 s.2.2.1 s.2.2.2 h := by
  unfold J44_0
  rw [runL_eq]
  refine congrArg (Option.bind _) (funext fun x => ?_)
  rcases x with ⟨s, h⟩ | ⟨e, s, h⟩ <;> rfl
theorem J44_0_cut (rc : Rec) (md : Md) (h0 : Heap) : cut Try.prog cfg rc md 110 (bodyOf Try.prog 44) [1, 0, 1, 0] (retK Try.prog cfg 44 (rsOf Try.prog 44) h0) = fun t h => J44_0 rc md h0 (t 0) (t 2) (t 15) (t 16) h := by
  funext t h
  have e : sub (bodyOf Try.prog 44) [1, 0, 1, 0] = .loop (sub (bodyOf Try.prog 44) [1, 0, 1, 0, 0]) := by kernel_rfl
  unfold cut
  rw [e]
  exact loop_eq (by kernel_rfl) (fun t => (t 0, t 2, t 15, t 16)) (fun x : (Value × Value × Value × Value) × Heap => Jr44_0 rc md x.1.1 x.1.2.1 x.1.2.2.1 x.1.2.2.2 x.2) (fun t h => Jr44_0_at rc md t h) (fun e (s : Value × Value × Value × Value) h => Jk44_0 rc md h0 e s.1 s.2.1 s.2.2.1 s.2.2.2 h) (fun e t h => Jk44_0_at rc md h0 e t h) t h
noncomputable def F44 (rc : Rec) (md : Md) (a0 : Value) (h0 : Heap) : Option (Value × Heap) :=
  bif okPtr a0 then
  fA 0 a0 fun v1 =>
  fA 0 v1 fun v2 =>
  ld1 v2 h0 fun v3 =>
  cIn .i64 v3 fun n4 =>
  J44_0 rc md h0 a0 (.bool false) (.int .i64 n4) (.int .i64 0) h0
  else none
noncomputable def F44H (rc : Rec) (md : Md) (X0 : T → Heap → Option (Value × Heap)) (a0 : Value) (h0 : Heap) : Option (Value × Heap) :=
  bif okPtr a0 then
  fA 0 a0 fun v1 =>
  fA 0 v1 fun v2 =>
  ld1 v2 h0 fun v3 =>
  cIn .i64 v3 fun n4 =>
  X0 (upd (upd (upd (upd (upd (upd (upd (args0 [a0]) 2 (.bool false)) 11 a0) 12 a0) 13 v1) 14 v2) 15 (.int .i64 n4)) 16 (.int .i64 0)) h0
  else none
theorem F44_h0 (rc : Rec) (md : Md) (a0 : Value) (h0 : Heap) : callStep0 Try.prog cfg rc md 44 [a0] h0 = exec Try.prog cfg rc ⟨md.ro, h0.length⟩ 110 (bodyOf Try.prog 44) (retK Try.prog cfg 44 (rsOf Try.prog 44) h0) (args0 [a0]) h0 := callStep0_run (by kernel_rfl) (by kernel_rfl) (by kernel_rfl)
theorem F44_h1 (rc : Rec) (md : Md) (X : Nat → T → Heap → Option (Value × Heap)) (a0 : Value) (h0 : Heap) : execG Try.prog cfg X rc md 110 (replS (bodyOf Try.prog 44) [([1, 0, 1, 0], 0), ([1, 1, 0, 1, 0], 1), ([1, 1], 2)]) (retK Try.prog cfg 44 (rsOf Try.prog 44) h0) (args0 [a0]) h0 = F44H rc md (X 0) a0 h0 := by kernel_rfl
theorem F44_h2 (rc : Rec) (md : Md) (a0 : Value) (h0 : Heap) : F44H rc md (fun t h => J44_0 rc md h0 (t 0) (t 2) (t 15) (t 16) h) a0 h0 = F44 rc md a0 h0 := by unfold F44H F44; kernel_rfl
theorem F44_eq0 (rc : Rec) (md : Md) (a0 : Value) (h0 : Heap) : callStep0 Try.prog cfg rc md 44 [a0] h0 = F44 rc ⟨md.ro, h0.length⟩ a0 h0 := by
  rw [F44_h0, exec_holes [([1, 0, 1, 0], 0), ([1, 1, 0, 1, 0], 1), ([1, 1], 2)] (by kernel_rfl), F44_h1, show (goX Try.prog cfg rc ⟨md.ro, h0.length⟩ 110 (bodyOf Try.prog 44) [([1, 0, 1, 0], 0), ([1, 1, 0, 1, 0], 1), ([1, 1], 2)] (retK Try.prog cfg 44 (rsOf Try.prog 44) h0)) 0 = _ from J44_0_cut rc ⟨md.ro, h0.length⟩ h0]
  exact F44_h2 rc _ a0 h0
theorem F44_eq (rc : Rec) (md : Md) (a0 : Value) (h0 : Heap) : callStep Try.prog cfg rc md 44 [a0] h0 = F44 rc ⟨md.ro, h0.length⟩ a0 h0 := (callStep_ne (by kernel_rfl)).trans (F44_eq0 rc md a0 h0)

/-- (tombolo/edge.Edges).All -/
noncomputable def Jk45_0 (rc : Rec) (md : Md) (h0 : Heap) (e : Exit) (s1 : Value) (s2 : Value) (s3 : Value) (s11 : Value) (s12 : Value) (h : Heap) : Option (Value × Heap) :=
  match e with
  | .normal =>
    some (s3, h)
  | .exit j =>
    bif Nat.beq j 0 then
      some (s3, h)
    else
      none
  | .ret =>
    some (s2, h)
  | .goto l => none
  | .panic ps => none
  | .outgrown => none
theorem Jk45_0_at (rc : Rec) (md : Md) (h0 : Heap) (e : Exit) (t : T) (h : Heap) : kAt Try.prog cfg rc md 39 (bodyOf Try.prog 45) [1, 1, 0, 1, 0] (retK Try.prog cfg 45 (rsOf Try.prog 45) h0) e t h = Jk45_0 rc md h0 e (t 1) (t 2) (t 3) (t 11) (t 12) h := by cases e <;> kernel_rfl
noncomputable def Jk45_0b0 (rc : Rec) (md : Md) (e : Exit) (s1 : Value) (s2 : Value) (s3 : Value) (s4 : Value) (s5 : Value) (s11 : Value) (s12 : Value) (h : Heap) : Option (((Value × Value × Value × Value × Value) × Heap) ⊕ (Exit × (Value × Value × Value × Value × Value) × Heap)) :=
  match e with
  | .normal =>
    aBin Try.prog .add 3 s12 (.int .i64 1) fun v1 =>
    some (.inl ((s1, s2, s3, s11, v1), h))
  | .exit j =>
    bif Nat.beq j 2 then
      aBin Try.prog .add 3 s12 (.int .i64 1) fun v2 =>
      some (.inl ((s1, s2, s3, s11, v2), h))
    else
      bif Nat.beq j 1 then
        aBin Try.prog .add 3 s12 (.int .i64 1) fun v3 =>
        some (.inl ((s1, s2, s3, s11, v3), h))
      else
        some (.inr ((.exit j), (s1, s2, s3, s11, s12), h))
  | .ret =>
    some (.inr (.ret, (s1, s2, s3, s11, s12), h))
  | .goto l => some (.inr ((.goto l), (s1, s2, s3, s11, s12), h))
  | .panic ps => some (.inr ((.panic ps), (s1, s2, s3, s11, s12), h))
  | .outgrown => some (.inr (.outgrown, (s1, s2, s3, s11, s12), h))
theorem Jk45_0b0_at (rc : Rec) (md : Md) (e : Exit) (t : T) (h : Heap) : kAt Try.prog cfg rc md 39 (sub (bodyOf Try.prog 45) [1, 1, 0, 1, 0, 0]) [1, 1, 0, 0, 1, 1, 0] (rndK (fun t => (t 1, t 2, t 3, t 11, t 12))) e t h = Jk45_0b0 rc md e (t 1) (t 2) (t 3) (t 4) (t 5) (t 11) (t 12) h := by cases e <;> kernel_rfl
/-- a round -/
noncomputable def Jr45_0b0 (rc : Rec) (md : Md) (s1 : Value) (s2 : Value) (s3 : Value) (s4 : Value) (s5 : Value) (s11 : Value) (s12 : Value) (h : Heap) : Option (((Value × Value × Value × Value × Value × Value × Value) × Heap) ⊕ (Exit × (Value × Value × Value × Value × Value × Value × Value) × Heap)) :=
  fA 0 s1 fun v1 =>
  fA 0 v1 fun v2 =>
  ld1 v2 h fun v3 =>
  cIn .i64 v3 fun n4 =>
  aBin Try.prog .lss 3 s5 (.int .i64 n4) fun v5 =>
  cBn v5 fun b6 =>
  bif b6 then
    ldN 4 s1 h fun v7 =>
    cl (rc md 47 [v7, s4, s5] h) fun v8 h9 =>
    exT v8 0 fun v10 =>
    cIn .i64 v10 fun n11 =>
    exT v8 1 fun v12 =>
    cBn v12 fun b13 =>
    exT v8 2 fun v14 =>
    cBn v14 fun b15 =>
    bif b15 then
      let h16 : Heap := h9 ++ [.own [(.int .i64 n11)]]
      aBuiltin Try.prog md .append #[47, 47] [s3, (.slice (some ⟨h9.length, 0, none⟩) 1 1)] h16 fun v17 h18 =>
      aBin Try.prog .add 3 s5 (.int .i64 1) fun v19 =>
      some (.inl ((s1, s2, v17, s4, v19, s11, s12), h18))
    else
      aBin Try.prog .add 3 s5 (.int .i64 1) fun v20 =>
      some (.inl ((s1, s2, s3, s4, v20, s11, s12), h9))
  else
    some (.inr ((.exit 2), (s1, s2, s3, s4, s5, s11, s12), h))
theorem Jr45_0b0_at (rc : Rec) (md : Md) (t : T) (h : Heap) : exec Try.prog cfg rc md 39 (sub (bodyOf Try.prog 45) [1, 1, 0, 1, 0, 0, 1, 1, 0, 0, 1, 1, 0, 0]) (rndK (fun t => (t 1, t 2, t 3, t 4, t 5, t 11, t 12))) t h = Jr45_0b0 rc md (t 1) (t 2) (t 3) (t 4) (t 5) (t 11) (t 12) h := by kernel_rfl
noncomputable def J45_0b0 (rc : Rec) (md : Md) (s1 : Value) (s2 : Value) (s3 : Value) (s4 : Value) (s5 : Value) (s11 : Value) (s12 : Value) (h : Heap) : Option (((Value × Value × Value × Value × Value) × Heap) ⊕ (Exit × (Value × Value × Value × Value × Value) × Heap)) :=
  runL (fun x : (Value × Value × Value × Value × Value × Value × Value) × Heap => Jr45_0b0 rc md x.1.1 x.1.2.1 x.1.2.2.1 x.1.2.2.2.1 x.1.2.2.2.2.1 x.1.2.2.2.2.2.1 x.1.2.2.2.2.2.2 x.2) (fun e (s : Value × Value × Value × Value × Value × Value × Value) h => Jk45_0b0 rc md e s.1 s.2.1 s.2.2.1 s.2.2.2.1 s.2.2.2.2.1 s.2.2.2.2.2.1 s.2.2.2.2.2.2 h) (s1, s2, s3, s4, s5, s11, s12) h
theorem J45_0b0_step (rc : Rec) (md : Md) (s1 : Value) (s2 : Value) (s3 : Value) (s4 : Value) (s5 : Value) (s11 : Value) (s12 : Value) (h : Heap) : J45_0b0 rc md s1 s2 s3 s4 s5 s11 s12 h = (Jr45_0b0 rc md s1 s2 s3 s4 s5 s11 s12 h).bind fun x => match x with
    | .inl (s, h) => J45_0b0 rc md s.1 s.2.1 s.2.2.1 s.2.2.2.1 s.2.2.2.2.1 s.2.2.2.2.2.1 s.2.2.2.2.2.2 h
    | .inr (e, s, h) => Jk45_0b0 rc md e s.1 s.2.1 s.2.2.1 s.2.2.2.1 s.2.2.2.2.1 s.2.2.2.2.2.1 s.2.2.2.2.2.2 h := by
  unfold J45_0b0
  rw [runL_eq]
  refine congrArg (Option.bind _) (funext fun x => ?_)
  rcases x with ⟨s, h⟩ | ⟨e, s, h⟩ <;> rfl
theorem J45_0b0_cut (rc : Rec) (md : Md) : cut Try.prog cfg rc md 39 (sub (bodyOf Try.prog 45) [1, 1, 0, 1, 0, 0]) [1, 1, 0, 0, 1, 1, 0] (rndK (fun t => (t 1, t 2, t 3, t 11, t 12))) = fun t h => J45_0b0 rc md (t 1) (t 2) (t 3) (t 4) (t 5) (t 11) (t 12) h := by
  funext t h
  have e : sub (sub (bodyOf Try.prog 45) [1, 1, 0, 1, 0, 0]) [1, 1, 0, 0, 1, 1, 0] = .loop (sub (bodyOf Try.prog 45) [1, 1, 0, 1, 0, 0, 1, 1, 0, 0, 1, 1, 0, 0]) := by kernel_rfl
  unfold cut
  rw [e]
  exact loop_eq (by kernel_rfl) (fun t => (t 1, t 2, t 3, t 4, t 5, t 11, t 12)) (fun x : (Value × Value × Value × Value × Value × Value × Value) × Heap => Jr45_0b0 rc md x.1.1 x.1.2.1 x.1.2.2.1 x.1.2.2.2.1 x.1.2.2.2.2.1 x.1.2.2.2.2.2.1 x.1.2.2.2.2.2.2 x.2) (fun t h => Jr45_0b0_at rc md t h) (fun e (s : Value × Value × Value × Value × Value × Value × Value) h => Jk45_0b0 rc md e s.1 s.2.1 s.2.2.1 s.2.2.2.1 s.2.2.2.2.1 s.2.2.2.2.2.1 s.2.2.2.2.2.2 h) (fun e t h => Jk45_0b0_at rc md e t h) t h
/-- a round -/
noncomputable def Jr45_0 (rc : Rec) (md : Md) (s1 : Value) (s2 : Value) (s3 : Value) (s11 : Value) (s12 : Value) (h : Heap) : Option (((Value × Value × Value × Value × Value) × Heap) ⊕ (Exit × (Value × Value × Value × Value × Value) × Heap)) :=
  aBin Try.prog .lss 3 s12 s11 fun v1 =>
  cBn v1 fun b2 =>
  bif b2 then
    aBin Try.prog .add 3 s12 (.int .i64 1) fun v3 =>
    J45_0b0 rc md s1 s2 s3 s12 v3 s11 s12 h
  else
    some (.inr ((.exit 0), (s1, s2, s3, s11, s12), h))
noncomputable def Jr45_0H (rc : Rec) (md : Md) (X0 : T → Heap → Option (((Value × Value × Value × Value × Value) × Heap) ⊕ (Exit × (Value × Value × Value × Value × Value) × Heap))) (t : T) (h : Heap) : Option (((Value × Value × Value × Value × Value) × Heap) ⊕ (Exit × (Value × Value × Value × Value × Value) × Heap)) :=
  aBin Try.prog .lss 3 (t 12) (t 11) fun v1 =>
  cBn v1 fun b2 =>
  bif b2 then
    aBin Try.prog .add 3 (t 12) (.int .i64 1) fun v3 =>
    X0 (upd (upd (upd (upd (upd (upd t 13 v1) 14 (t 12)) 4 (t 12)) 15 (t 12)) 16 v3) 5 v3) h
  else
    some (.inr ((.exit 0), ((t 1), (t 2), (t 3), (t 11), (t 12)), h))
theorem Jr45_0_h1 (rc : Rec) (md : Md) (X : Nat → T → Heap → Option (((Value × Value × Value × Value × Value) × Heap) ⊕ (Exit × (Value × Value × Value × Value × Value) × Heap))) (t : T) (h : Heap) : execG Try.prog cfg X rc md 39 (replS (sub (bodyOf Try.prog 45) [1, 1, 0, 1, 0, 0]) [([1, 1, 0, 0, 1, 1, 0], 0)]) (rndK (fun t => (t 1, t 2, t 3, t 11, t 12))) t h = Jr45_0H rc md (X 0) t h := by kernel_rfl
theorem Jr45_0_h2 (rc : Rec) (md : Md) (t : T) (h : Heap) : Jr45_0H rc md (fun t h => J45_0b0 rc md (t 1) (t 2) (t 3) (t 4) (t 5) (t 11) (t 12) h) t h = Jr45_0 rc md (t 1) (t 2) (t 3) (t 11) (t 12) h := by unfold Jr45_0H Jr45_0; kernel_rfl
theorem Jr45_0_at (rc : Rec) (md : Md) (t : T) (h : Heap) : exec Try.prog cfg rc md 39 (sub (bodyOf Try.prog 45) [1, 1, 0, 1, 0, 0]) (rndK (fun t => (t 1, t 2, t 3, t 11, t 12))) t h = Jr45_0 rc md (t 1) (t 2) (t 3) (t 11) (t 12) h := by
  rw [exec_holes [([1, 1, 0, 0, 1, 1, 0], 0)] (by kernel_rfl), Jr45_0_h1, show (goX Try.prog cfg rc md 39 (sub (bodyOf Try.prog 45) [1, 1, 0, 1, 0, 0]) [([1, 1, 0, 0, 1, 1, 0], 0)] (rndK (fun t => (t 1, t 2, t 3, t 11, t 12)))) 0 = _ from J45_0b0_cut rc md]
  exact Jr45_0_h2 rc md t h
noncomputable def J45_0 (rc : Rec) (md : Md) (h0 : Heap) (s1 : Value) (s2 : Value) (s3 : Value) (s11 : Value) (s12 : Value) (h : Heap) : Option (Value × Heap) :=
  runL (fun x : (Value × Value × Value × Value × Value) × Heap => Jr45_0 rc md x.1.1 x.1.2.1 x.1.2.2.1 x.1.2.2.2.1 x.1.2.2.2.2 x.2) (fun e (s : Value × Value × Value × Value × Value) h => Jk45_0 rc md h0 e s.1 s.2.1 s.2.2.1 s.2.2.2.1 s.2.2.2.2 h) (s1, s2, s3, s11, s12) h
theorem J45_0_step (rc : Rec) (md : Md) (h0 : Heap) (s1 : Value) (s2 : Value) (s3 : Value) (s11 : Value) (s12 : Value) (h : Heap) : J45_0 rc md h0 s1 s2 s3 s11 s12 h = (Jr45_0 rc md s1 s2 s3 s11 s12 h).bind fun x => match x with
    | .inl (s, h) => J45_0 rc md h0 s.1 s.2.1 s.2.2.1 s.2.2.2.1 s.2.2.2.2 h
    | .inr (e, s, h) => Jk45_0 rc md h0 e s.1 s.2.1 s.2.2.1 s.2.2.2.1 s.2.2.2.2 h := by
  unfold J45_0
  rw [runL_eq]
  refine congrArg (Option.bind _) (funext fun x => ?_)
  rcases x with ⟨s, h⟩ | ⟨e, s, h⟩ <;> rfl
theorem J45_0_cut (rc : Rec) (md : Md) (h0 : Heap) : cut Try.prog cfg rc md 39 (bodyOf Try.prog 45) [1, 1, 0, 1, 0] (retK Try.prog cfg 45 (rsOf Try.prog 45) h0) = fun t h => J45_0 rc md h0 (t 1) (t 2) (t 3) (t 11) (t 12) h := by
  funext t h
  have e : sub (bodyOf Try.prog 45) [1, 1, 0, 1, 0] = .loop (sub (bodyOf Try.prog 45) [1, 1, 0, 1, 0, 0]) := by kernel_rfl
  unfold cut
  rw [e]
  exact loop_eq (by kernel_rfl) (fun t => (t 1, t 2, t 3, t 11, t 12)) (fun x : (Value × Value × Value × Value × Value) × Heap => Jr45_0 rc md x.1.1 x.1.2.1 x.1.2.2.1 x.1.2.2.2.1 x.1.2.2.2.2 x.2) (fun t h => Jr45_0_at rc md t h) (fun e (s : Value × Value × Value × Value × Value) h => Jk45_0 rc md h0 e s.1 s.2.1 s.2.2.1 s.2.2.2.1 s.2.2.2.2 h) (fun e t h => Jk45_0_at rc md h0 e t h) t h
noncomputable def F45 (rc : Rec) (md : Md) (a0_0 : Int) (a0_1 : Int) (a0_2 : Int) (a0_3 : Value) (h0 : Heap) : Option (Value × Heap) :=
  let h1 : Heap := h0 ++ [.own [(.int .i64 a0_0), (.int .i64 a0_1), (.int .i64 a0_2), a0_3]]
  ld1 (.pointer (some ⟨h0.length, 0, none⟩)) h1 fun v2 =>
  cIn .i64 v2 fun n3 =>
  J45_0 rc md h0 (.pointer (some ⟨h0.length, 0, none⟩)) (.slice none 0 0) (.slice none 0 0) (.int .i64 n3) (.int .i64 0) h1
noncomputable def F45H (rc : Rec) (md : Md) (X0 : T → Heap → Option (Value × Heap)) (a0_0 : Int) (a0_1 : Int) (a0_2 : Int) (a0_3 : Value) (h0 : Heap) : Option (Value × Heap) :=
  let h1 : Heap := h0 ++ [.own [(.int .i64 a0_0), (.int .i64 a0_1), (.int .i64 a0_2), a0_3]]
  ld1 (.pointer (some ⟨h0.length, 0, none⟩)) h1 fun v2 =>
  cIn .i64 v2 fun n3 =>
  X0 (upd (upd (upd (upd (upd (upd (upd (args0 [(.agg #[(.int .i64 a0_0), (.int .i64 a0_1), (.int .i64 a0_2), a0_3])]) 1 (.pointer (some ⟨h0.length, 0, none⟩))) 2 (.slice none 0 0)) 3 (.slice none 0 0)) 9 (.pointer (some ⟨h0.length, 0, none⟩))) 10 (.pointer (some ⟨h0.length, 0, none⟩))) 11 (.int .i64 n3)) 12 (.int .i64 0)) h1
theorem F45_h0 (rc : Rec) (md : Md) (a0_0 : Int) (a0_1 : Int) (a0_2 : Int) (a0_3 : Value) (h0 : Heap) : callStep0 Try.prog cfg rc md 45 [(.agg #[(.int .i64 a0_0), (.int .i64 a0_1), (.int .i64 a0_2), a0_3])] h0 = exec Try.prog cfg rc md 39 (bodyOf Try.prog 45) (retK Try.prog cfg 45 (rsOf Try.prog 45) h0) (args0 [(.agg #[(.int .i64 a0_0), (.int .i64 a0_1), (.int .i64 a0_2), a0_3])]) h0 := callStep0_run (by kernel_rfl) (by kernel_rfl) (by kernel_rfl)
theorem F45_h1 (rc : Rec) (md : Md) (X : Nat → T → Heap → Option (Value × Heap)) (a0_0 : Int) (a0_1 : Int) (a0_2 : Int) (a0_3 : Value) (h0 : Heap) : execG Try.prog cfg X rc md 39 (replS (bodyOf Try.prog 45) [([1, 1, 0, 1, 0], 0)]) (retK Try.prog cfg 45 (rsOf Try.prog 45) h0) (args0 [(.agg #[(.int .i64 a0_0), (.int .i64 a0_1), (.int .i64 a0_2), a0_3])]) h0 = F45H rc md (X 0) a0_0 a0_1 a0_2 a0_3 h0 := by kernel_rfl
theorem F45_h2 (rc : Rec) (md : Md) (a0_0 : Int) (a0_1 : Int) (a0_2 : Int) (a0_3 : Value) (h0 : Heap) : F45H rc md (fun t h => J45_0 rc md h0 (t 1) (t 2) (t 3) (t 11) (t 12) h) a0_0 a0_1 a0_2 a0_3 h0 = F45 rc md a0_0 a0_1 a0_2 a0_3 h0 := by unfold F45H F45; kernel_rfl
theorem F45_eq0 (rc : Rec) (md : Md) (a0_0 : Int) (a0_1 : Int) (a0_2 : Int) (a0_3 : Value) (h0 : Heap) : callStep0 Try.prog cfg rc md 45 [(.agg #[(.int .i64 a0_0), (.int .i64 a0_1), (.int .i64 a0_2), a0_3])] h0 = F45 rc md a0_0 a0_1 a0_2 a0_3 h0 := by
  rw [F45_h0, exec_holes [([1, 1, 0, 1, 0], 0)] (by kernel_rfl), F45_h1, show (goX Try.prog cfg rc md 39 (bodyOf Try.prog 45) [([1, 1, 0, 1, 0], 0)] (retK Try.prog cfg 45 (rsOf Try.prog 45) h0)) 0 = _ from J45_0_cut rc md h0]
  exact F45_h2 rc _ a0_0 a0_1 a0_2 a0_3 h0
theorem F45_eq (rc : Rec) (md : Md) (a0_0 : Int) (a0_1 : Int) (a0_2 : Int) (a0_3 : Value) (h0 : Heap) : callStep Try.prog cfg rc md 45 [(.agg #[(.int .i64 a0_0), (.int .i64 a0_1), (.int .i64 a0_2), a0_3])] h0 = F45 rc md a0_0 a0_1 a0_2 a0_3 h0 := (callStep_ne (by kernel_rfl)).trans (F45_eq0 rc md a0_0 a0_1 a0_2 a0_3 h0)

/-- (*tombolo/tombololaw11.play).between -/
noncomputable def Jk46_0 (rc : Rec) (md : Md) (h0 : Heap) (e : Exit) (s1 : Value) (s2 : Value) (s6 : Value) (s12 : Value) (s13 : Value) (s14 : Value) (h : Heap) : Option (Value × Heap) :=
  match e with
  | .normal =>
    some ((.int .i64 (-1)), h0)
  | .exit j =>
    bif Nat.beq j 0 then
      some ((.int .i64 (-1)), h0)
    else
      none
  | .ret =>
    fin2 h0 s6
  | .goto l => none
  | .panic ps => none
  | .outgrown => none
theorem Jk46_0_at (rc : Rec) (md : Md) (h0 : Heap) (e : Exit) (t : T) (h : Heap) : kAt Try.prog cfg rc md 37 (bodyOf Try.prog 46) [1, 0, 1, 0] (retK Try.prog cfg 46 (rsOf Try.prog 46) h0) e t h = Jk46_0 rc md h0 e (t 1) (t 2) (t 6) (t 12) (t 13) (t 14) h := by cases e <;> kernel_rfl
/-- a round -/
noncomputable def Jr46_0 (rc : Rec) (md : Md) (s1 : Value) (s2 : Value) (s6 : Value) (s12 : Value) (s13 : Value) (s14 : Value) (h : Heap) : Option (((Value × Value × Value × Value × Value × Value) × Heap) ⊕ (Exit × (Value × Value × Value × Value × Value × Value) × Heap)) :=
  aBin Try.prog .lss 3 s14 s13 fun v1 =>
  cBn v1 fun b2 =>
  bif b2 then
    ixSV 5 s12 s14 fun v3 =>
    ldN 5 v3 h fun v4 =>
    let h5 : Heap := h ++ [.own [(.int .i64 0), (.int .i64 0), (.int .i64 0), (.int .i64 0), (.bool false)]]
    st md 5 (.pointer (some ⟨h.length, 0, none⟩)) v4 h5 fun h6 =>
    ld1 (.pointer (some ⟨h.length, 1, none⟩)) h6 fun v7 =>
    cIn .i64 v7 fun n8 =>
    aBuiltin Try.prog md .min #[3, 3] [s1, s2] h6 fun v9 h10 =>
    cIn .i64 v9 fun n11 =>
    (bif wantV (.bool (n8 == n11)) true then
    some ((.pointer (some ⟨h.length, 1, none⟩)), h10)
    else some (undef, h10)).bind fun p12 =>
    (bif wantV (.bool (n8 == n11)) true then
    fA 1 p12.1 fun v13 =>
    some (v13, p12.2)
    else some (undef, p12.2)).bind fun p14 =>
    (bif wantV (.bool (n8 == n11)) true then
    ld1 p14.1 p14.2 fun v15 =>
    cIn .i64 v15 fun n16 =>
    some ((.int .i64 n16), p14.2)
    else some (undef, p14.2)).bind fun p17 =>
    (bif wantV (.bool (n8 == n11)) true then
    some (s1, p17.2)
    else some (undef, p17.2)).bind fun p18 =>
    (bif wantV (.bool (n8 == n11)) true then
    some (s2, p18.2)
    else some (undef, p18.2)).bind fun p19 =>
    (bif wantV (.bool (n8 == n11)) true then
    aBuiltin Try.prog md .max #[3, 3] [p18.1, p19.1] p19.2 fun v20 h21 =>
    cIn .i64 v20 fun n22 =>
    some ((.int .i64 n22), h21)
    else some (undef, p19.2)).bind fun p23 =>
    (bif wantV (.bool (n8 == n11)) true then
    aBin Try.prog .eql 3 p17.1 p23.1 fun v24 =>
    some (v24, p23.2)
    else some (undef, p23.2)).bind fun p25 =>
    cBn (bif (n8 == n11) then p25.1 else (.bool false)) fun b26 =>
    bif b26 then
      some (.inr (.ret, (s1, s2, s14, s12, s13, s14), p25.2))
    else
      aBin Try.prog .add 3 s14 (.int .i64 1) fun v27 =>
      some (.inl ((s1, s2, s6, s12, s13, v27), p25.2))
  else
    some (.inr ((.exit 0), (s1, s2, s6, s12, s13, s14), h))
theorem Jr46_0_at (rc : Rec) (md : Md) (t : T) (h : Heap) : exec Try.prog cfg rc md 37 (sub (bodyOf Try.prog 46) [1, 0, 1, 0, 0]) (rndK (fun t => (t 1, t 2, t 6, t 12, t 13, t 14))) t h = Jr46_0 rc md (t 1) (t 2) (t 6) (t 12) (t 13) (t 14) h := by kernel_rfl
noncomputable def J46_0 (rc : Rec) (md : Md) (h0 : Heap) (s1 : Value) (s2 : Value) (s6 : Value) (s12 : Value) (s13 : Value) (s14 : Value) (h : Heap) : Option (Value × Heap) :=
  runL (fun x : (Value × Value × Value × Value × Value × Value) × Heap => Jr46_0 rc md x.1.1 x.1.2.1 x.1.2.2.1 x.1.2.2.2.1 x.1.2.2.2.2.1 x.1.2.2.2.2.2 x.2) (fun e (s : Value × Value × Value × Value × Value × Value) h => Jk46_0 rc md h0 e s.1 s.2.1 s.2.2.1 s.2.2.2.1 s.2.2.2.2.1 s.2.2.2.2.2 h) (s1, s2, s6, s12, s13, s14) h
theorem J46_0_step (rc : Rec) (md : Md) (h0 : Heap) (s1 : Value) (s2 : Value) (s6 : Value) (s12 : Value) (s13 : Value) (s14 : Value) (h : Heap) : J46_0 rc md h0 s1 s2 s6 s12 s13 s14 h = (Jr46_0 rc md s1 s2 s6 s12 s13 s14 h).bind fun x => match x with
    | .inl (s, h) => J46_0 rc md h0 s.1 s.2.1 s.2.2.1 s.2.2.2.1 s.2.2.2.2.1 s.2.2.2.2.2 h
    | .inr (e, s, h) => Jk46_0 rc md h0 e s.1 s.2.1 s.2.2.1 s.2.2.2.1 s.2.2.2.2.1 s.2.2.2.2.2 h := by
  unfold J46_0
  rw [runL_eq]
  refine congrArg (Option.bind _) (funext fun x => ?_)
  rcases x with ⟨s, h⟩ | ⟨e, s, h⟩ <;> rfl
theorem J46_0_cut (rc : Rec) (md : Md) (h0 : Heap) : cut Try.prog cfg rc md 37 (bodyOf Try.prog 46) [1, 0, 1, 0] (retK Try.prog cfg 46 (rsOf Try.prog 46) h0) = fun t h => J46_0 rc md h0 (t 1) (t 2) (t 6) (t 12) (t 13) (t 14) h := by
  funext t h
  have e : sub (bodyOf Try.prog 46) [1, 0, 1, 0] = .loop (sub (bodyOf Try.prog 46) [1, 0, 1, 0, 0]) := by kernel_rfl
  unfold cut
  rw [e]
  exact loop_eq (by kernel_rfl) (fun t => (t 1, t 2, t 6, t 12, t 13, t 14)) (fun x : (Value × Value × Value × Value × Value × Value) × Heap => Jr46_0 rc md x.1.1 x.1.2.1 x.1.2.2.1 x.1.2.2.2.1 x.1.2.2.2.2.1 x.1.2.2.2.2.2 x.2) (fun t h => Jr46_0_at rc md t h) (fun e (s : Value × Value × Value × Value × Value × Value) h => Jk46_0 rc md h0 e s.1 s.2.1 s.2.2.1 s.2.2.2.1 s.2.2.2.2.1 s.2.2.2.2.2 h) (fun e t h => Jk46_0_at rc md h0 e t h) t h
noncomputable def F46 (rc : Rec) (md : Md) (a0 : Value) (a1 : Int) (a2 : Int) (h0 : Heap) : Option (Value × Heap) :=
  bif okPtr a0 then
  fA 7 a0 fun v1 =>
  ld1 v1 h0 fun v2 =>
  lenS v2 fun v3 =>
  cIn .i64 v3 fun n4 =>
  J46_0 rc md h0 (.int .i64 a1) (.int .i64 a2) (.int .i64 0) v2 (.int .i64 n4) (.int .i64 0) h0
  else none
noncomputable def F46H (rc : Rec) (md : Md) (X0 : T → Heap → Option (Value × Heap)) (a0 : Value) (a1 : Int) (a2 : Int) (h0 : Heap) : Option (Value × Heap) :=
  bif okPtr a0 then
  fA 7 a0 fun v1 =>
  ld1 v1 h0 fun v2 =>
  lenS v2 fun v3 =>
  cIn .i64 v3 fun n4 =>
  X0 (upd (upd (upd (upd (upd (upd (upd (args0 [a0, (.int .i64 a1), (.int .i64 a2)]) 6 (.int .i64 0)) 9 a0) 10 a0) 11 v1) 12 v2) 13 (.int .i64 n4)) 14 (.int .i64 0)) h0
  else none
theorem F46_h0 (rc : Rec) (md : Md) (a0 : Value) (a1 : Int) (a2 : Int) (h0 : Heap) : callStep0 Try.prog cfg rc md 46 [a0, (.int .i64 a1), (.int .i64 a2)] h0 = exec Try.prog cfg rc ⟨h0.length, h0.length⟩ 37 (bodyOf Try.prog 46) (retK Try.prog cfg 46 (rsOf Try.prog 46) h0) (args0 [a0, (.int .i64 a1), (.int .i64 a2)]) h0 := callStep0_run (by kernel_rfl) (by kernel_rfl) (by kernel_rfl)
theorem F46_h1 (rc : Rec) (md : Md) (X : Nat → T → Heap → Option (Value × Heap)) (a0 : Value) (a1 : Int) (a2 : Int) (h0 : Heap) : execG Try.prog cfg X rc md 37 (replS (bodyOf Try.prog 46) [([1, 0, 1, 0], 0)]) (retK Try.prog cfg 46 (rsOf Try.prog 46) h0) (args0 [a0, (.int .i64 a1), (.int .i64 a2)]) h0 = F46H rc md (X 0) a0 a1 a2 h0 := by kernel_rfl
theorem F46_h2 (rc : Rec) (md : Md) (a0 : Value) (a1 : Int) (a2 : Int) (h0 : Heap) : F46H rc md (fun t h => J46_0 rc md h0 (t 1) (t 2) (t 6) (t 12) (t 13) (t 14) h) a0 a1 a2 h0 = F46 rc md a0 a1 a2 h0 := by unfold F46H F46; kernel_rfl
theorem F46_eq0 (rc : Rec) (md : Md) (a0 : Value) (a1 : Int) (a2 : Int) (h0 : Heap) : callStep0 Try.prog cfg rc md 46 [a0, (.int .i64 a1), (.int .i64 a2)] h0 = F46 rc ⟨h0.length, h0.length⟩ a0 a1 a2 h0 := by
  rw [F46_h0, exec_holes [([1, 0, 1, 0], 0)] (by kernel_rfl), F46_h1, show (goX Try.prog cfg rc ⟨h0.length, h0.length⟩ 37 (bodyOf Try.prog 46) [([1, 0, 1, 0], 0)] (retK Try.prog cfg 46 (rsOf Try.prog 46) h0)) 0 = _ from J46_0_cut rc ⟨h0.length, h0.length⟩ h0]
  exact F46_h2 rc _ a0 a1 a2 h0
theorem F46_eq (rc : Rec) (md : Md) (a0 : Value) (a1 : Int) (a2 : Int) (h0 : Heap) : callStep Try.prog cfg rc md 46 [a0, (.int .i64 a1), (.int .i64 a2)] h0 = F46 rc ⟨h0.length, h0.length⟩ a0 a1 a2 h0 := (callStep_ne (by kernel_rfl)).trans (F46_eq0 rc md a0 a1 a2 h0)

/-- (tombolo/edge.Edges).Find -/
noncomputable def F47 (rc : Rec) (md : Md) (a0_0 : Int) (a0_1 : Int) (a0_2 : Int) (a0_3 : Value) (a1 : Int) (a2 : Int) (h0 : Heap) : Option (Value × Heap) :=
  let h1 : Heap := h0 ++ [.own [(.int .i64 a0_0), (.int .i64 a0_1), (.int .i64 a0_2), a0_3]]
  ld1 (.pointer (some ⟨h0.length, 3, none⟩)) h1 fun v2 =>
  ldN 3 (.pointer (some ⟨h0.length, 0, none⟩)) h1 fun v3 =>
  cl (rc md 33 [v3, (.int .i64 a1), (.int .i64 a2)] h1) fun v4 h5 =>
  cIn .i64 v4 fun n6 =>
  bif okPtr v2 then
  clI Try.prog rc md v2 "Load" [(.int .i64 n6)] h5 fun v7 h8 =>
  cIn .u64 v7 fun n9 =>
  bif (n9 == 0) then
    some ((.tuple #[(.int .i64 0), (.bool false), (.bool false)]), List.take h0.length h8)
  else
    some ((.tuple #[(.int .i64 (IntKind.wrap .i64 ((IntKind.wrap .i64 (Int.fdiv n9 (2 ^ 1))) - 1))), (.bool ((bAnd .u64 n9 1) == 1)), (.bool true)]), List.take h0.length h8)
  else none
theorem F47_eq0 (rc : Rec) (md : Md) (a0_0 : Int) (a0_1 : Int) (a0_2 : Int) (a0_3 : Value) (a1 : Int) (a2 : Int) (h0 : Heap) : callStep0 Try.prog cfg rc md 47 [(.agg #[(.int .i64 a0_0), (.int .i64 a0_1), (.int .i64 a0_2), a0_3]), (.int .i64 a1), (.int .i64 a2)] h0 = F47 rc ⟨md.ro, h0.length⟩ a0_0 a0_1 a0_2 a0_3 a1 a2 h0 := by kernel_rfl
theorem F47_eq (rc : Rec) (md : Md) (a0_0 : Int) (a0_1 : Int) (a0_2 : Int) (a0_3 : Value) (a1 : Int) (a2 : Int) (h0 : Heap) : callStep Try.prog cfg rc md 47 [(.agg #[(.int .i64 a0_0), (.int .i64 a0_1), (.int .i64 a0_2), a0_3]), (.int .i64 a1), (.int .i64 a2)] h0 = F47 rc ⟨md.ro, h0.length⟩ a0_0 a0_1 a0_2 a0_3 a1 a2 h0 := (callStep_ne (by kernel_rfl)).trans (F47_eq0 rc md a0_0 a0_1 a0_2 a0_3 a1 a2 h0)

/-- (tombolo/edge.Edges).Get -/
noncomputable def F48 (rc : Rec) (md : Md) (a0_0 : Int) (a0_1 : Int) (a0_2 : Int) (a0_3 : Value) (a1 : Int) (h0 : Heap) : Option (Value × Heap) :=
  let h1 : Heap := h0 ++ [.own [(.int .i64 a0_0), (.int .i64 a0_1), (.int .i64 a0_2), a0_3]]
  let h2 : Heap := h1 ++ [.own [(.int .i64 0), (.int .i64 0), (.int .i64 0), (.bool false)]]
  ldN 4 (.pointer (some ⟨h0.length, 0, none⟩)) h2 fun v3 =>
  cl (rc md 63 [v3, (.int .i64 a1)] h2) fun v4 h5 =>
  exT v4 0 fun v6 =>
  cIn .i64 v6 fun n7 =>
  exT v4 1 fun v8 =>
  cIn .i64 v8 fun n9 =>
  ldN 4 (.pointer (some ⟨h0.length, 0, none⟩)) h5 fun v10 =>
  cl (rc md 47 [v10, (.int .i64 n7), (.int .i64 n9)] h5) fun v11 h12 =>
  exT v11 0 fun v13 =>
  cIn .i64 v13 fun n14 =>
  exT v11 1 fun v15 =>
  cBn v15 fun b16 =>
  exT v11 2 fun v17 =>
  cBn v17 fun b18 =>
  ld1 (.pointer (some ⟨h0.length, 3, none⟩)) h12 fun v19 =>
  ldN 3 (.pointer (some ⟨h0.length, 0, none⟩)) h12 fun v20 =>
  cl (rc md 29 [v20, (.int .i64 a1)] h12) fun v21 h22 =>
  cIn .i64 v21 fun n23 =>
  bif okPtr v19 then
  clI Try.prog rc md v19 "Load" [(.int .i64 n23)] h22 fun v24 h25 =>
  cIn .u64 v24 fun n26 =>
  st md 4 (.pointer (some ⟨h1.length, 0, none⟩)) (.agg #[(.int .i64 n7), (.int .i64 n9), (.int .i64 (IntKind.wrap .i64 n26)), (.bool b16)]) h25 fun h27 =>
  ldN 4 (.pointer (some ⟨h1.length, 0, none⟩)) h27 fun v28 =>
  fin1 h0 v28 h27
  else none
theorem F48_eq0 (rc : Rec) (md : Md) (a0_0 : Int) (a0_1 : Int) (a0_2 : Int) (a0_3 : Value) (a1 : Int) (h0 : Heap) : callStep0 Try.prog cfg rc md 48 [(.agg #[(.int .i64 a0_0), (.int .i64 a0_1), (.int .i64 a0_2), a0_3]), (.int .i64 a1)] h0 = F48 rc ⟨md.ro, h0.length⟩ a0_0 a0_1 a0_2 a0_3 a1 h0 := by kernel_rfl
theorem F48_eq (rc : Rec) (md : Md) (a0_0 : Int) (a0_1 : Int) (a0_2 : Int) (a0_3 : Value) (a1 : Int) (h0 : Heap) : callStep Try.prog cfg rc md 48 [(.agg #[(.int .i64 a0_0), (.int .i64 a0_1), (.int .i64 a0_2), a0_3]), (.int .i64 a1)] h0 = F48 rc ⟨md.ro, h0.length⟩ a0_0 a0_1 a0_2 a0_3 a1 h0 := (callStep_ne (by kernel_rfl)).trans (F48_eq0 rc md a0_0 a0_1 a0_2 a0_3 a1 h0)

/-- (tombolo/edge.Edges).Turn -/
noncomputable def F49 (rc : Rec) (md : Md) (a0_0 : Int) (a0_1 : Int) (a0_2 : Int) (a0_3 : Value) (a1 : Int) (a2 : Bool) (h0 : Heap) : Option (Value × Heap) :=
  let h1 : Heap := h0 ++ [.own [(.int .i64 a0_0), (.int .i64 a0_1), (.int .i64 a0_2), a0_3]]
  ldN 4 (.pointer (some ⟨h0.length, 0, none⟩)) h1 fun v2 =>
  cl (rc md 63 [v2, (.int .i64 a1)] h1) fun v3 h4 =>
  exT v3 0 fun v5 =>
  cIn .i64 v5 fun n6 =>
  exT v3 1 fun v7 =>
  cIn .i64 v7 fun n8 =>
  ld1 (.pointer (some ⟨h0.length, 3, none⟩)) h4 fun v9 =>
  ldN 3 (.pointer (some ⟨h0.length, 0, none⟩)) h4 fun v10 =>
  cl (rc md 33 [v10, (.int .i64 n6), (.int .i64 n8)] h4) fun v11 h12 =>
  cIn .i64 v11 fun n13 =>
  cl (rc md 64 [(.bool a2)] h12) fun v14 h15 =>
  cIn .u64 v14 fun n16 =>
  bif okPtr v9 then
  clI Try.prog rc md v9 "Store" [(.int .i64 n13), (.int .u64 (bOr .u64 (IntKind.wrap .u64 ((IntKind.wrap .u64 (IntKind.wrap .i64 (a1 + 1))) * 2 ^ 1)) n16))] h15 fun v17 h18 =>
  some ((.tuple #[]), List.take h0.length h18)
  else none
theorem F49_eq0 (rc : Rec) (md : Md) (a0_0 : Int) (a0_1 : Int) (a0_2 : Int) (a0_3 : Value) (a1 : Int) (a2 : Bool) (h0 : Heap) : callStep0 Try.prog cfg rc md 49 [(.agg #[(.int .i64 a0_0), (.int .i64 a0_1), (.int .i64 a0_2), a0_3]), (.int .i64 a1), (.bool a2)] h0 = F49 rc ⟨md.ro, h0.length⟩ a0_0 a0_1 a0_2 a0_3 a1 a2 h0 := by kernel_rfl
theorem F49_eq (rc : Rec) (md : Md) (a0_0 : Int) (a0_1 : Int) (a0_2 : Int) (a0_3 : Value) (a1 : Int) (a2 : Bool) (h0 : Heap) : callStep Try.prog cfg rc md 49 [(.agg #[(.int .i64 a0_0), (.int .i64 a0_1), (.int .i64 a0_2), a0_3]), (.int .i64 a1), (.bool a2)] h0 = F49 rc ⟨md.ro, h0.length⟩ a0_0 a0_1 a0_2 a0_3 a1 a2 h0 := (callStep_ne (by kernel_rfl)).trans (F49_eq0 rc md a0_0 a0_1 a0_2 a0_3 a1 a2 h0)

/-- (tombolo/edge.Edges).Lift -/
noncomputable def F50 (rc : Rec) (md : Md) (a0_0 : Int) (a0_1 : Int) (a0_2 : Int) (a0_3 : Value) (a1 : Int) (a2 : Int) (h0 : Heap) : Option (Value × Heap) :=
  let h1 : Heap := h0 ++ [.own [(.int .i64 a0_0), (.int .i64 a0_1), (.int .i64 a0_2), a0_3]]
  ld1 (.pointer (some ⟨h0.length, 3, none⟩)) h1 fun v2 =>
  ldN 3 (.pointer (some ⟨h0.length, 0, none⟩)) h1 fun v3 =>
  cl (rc md 29 [v3, (.int .i64 a1)] h1) fun v4 h5 =>
  cIn .i64 v4 fun n6 =>
  bif okPtr v2 then
  clI Try.prog rc md v2 "Store" [(.int .i64 n6), (.int .u64 (IntKind.wrap .u64 a2))] h5 fun v7 h8 =>
  some ((.tuple #[]), List.take h0.length h8)
  else none
theorem F50_eq0 (rc : Rec) (md : Md) (a0_0 : Int) (a0_1 : Int) (a0_2 : Int) (a0_3 : Value) (a1 : Int) (a2 : Int) (h0 : Heap) : callStep0 Try.prog cfg rc md 50 [(.agg #[(.int .i64 a0_0), (.int .i64 a0_1), (.int .i64 a0_2), a0_3]), (.int .i64 a1), (.int .i64 a2)] h0 = F50 rc ⟨md.ro, h0.length⟩ a0_0 a0_1 a0_2 a0_3 a1 a2 h0 := by kernel_rfl
theorem F50_eq (rc : Rec) (md : Md) (a0_0 : Int) (a0_1 : Int) (a0_2 : Int) (a0_3 : Value) (a1 : Int) (a2 : Int) (h0 : Heap) : callStep Try.prog cfg rc md 50 [(.agg #[(.int .i64 a0_0), (.int .i64 a0_1), (.int .i64 a0_2), a0_3]), (.int .i64 a1), (.int .i64 a2)] h0 = F50 rc ⟨md.ro, h0.length⟩ a0_0 a0_1 a0_2 a0_3 a1 a2 h0 := (callStep_ne (by kernel_rfl)).trans (F50_eq0 rc md a0_0 a0_1 a0_2 a0_3 a1 a2 h0)

/-- (tombolo/edge.Edges).Put -/
noncomputable def F58 (rc : Rec) (md : Md) (a0_0 : Int) (a0_1 : Int) (a0_2 : Int) (a0_3 : Value) (a1 : Int) (a2 : Int) (a3 : Int) (a4 : Int) (a5 : Bool) (h0 : Heap) : Option (Value × Heap) :=
  let h1 : Heap := h0 ++ [.own [(.int .i64 a0_0), (.int .i64 a0_1), (.int .i64 a0_2), a0_3]]
  ld1 (.pointer (some ⟨h0.length, 3, none⟩)) h1 fun v2 =>
  ldN 3 (.pointer (some ⟨h0.length, 0, none⟩)) h1 fun v3 =>
  cl (rc md 28 [v3, (.int .i64 a1)] h1) fun v4 h5 =>
  cIn .i64 v4 fun n6 =>
  bif okPtr v2 then
  clI Try.prog rc md v2 "Store" [(.int .i64 n6), (.int .u64 (IntKind.wrap .u64 (bOr .i64 (IntKind.wrap .i64 ((if a3 < a2 then a3 else a2) * 2 ^ 8)) (if a3 > a2 then a3 else a2))))] h5 fun v7 h8 =>
  ld1 (.pointer (some ⟨h0.length, 3, none⟩)) h8 fun v9 =>
  ldN 3 (.pointer (some ⟨h0.length, 0, none⟩)) h8 fun v10 =>
  cl (rc md 29 [v10, (.int .i64 a1)] h8) fun v11 h12 =>
  cIn .i64 v11 fun n13 =>
  bif okPtr v9 then
  clI Try.prog rc md v9 "Store" [(.int .i64 n13), (.int .u64 (IntKind.wrap .u64 a4))] h12 fun v14 h15 =>
  ld1 (.pointer (some ⟨h0.length, 3, none⟩)) h15 fun v16 =>
  ldN 3 (.pointer (some ⟨h0.length, 0, none⟩)) h15 fun v17 =>
  cl (rc md 33 [v17, (.int .i64 a2), (.int .i64 a3)] h15) fun v18 h19 =>
  cIn .i64 v18 fun n20 =>
  cl (rc md 64 [(.bool a5)] h19) fun v21 h22 =>
  cIn .u64 v21 fun n23 =>
  bif okPtr v16 then
  clI Try.prog rc md v16 "Store" [(.int .i64 n20), (.int .u64 (bOr .u64 (IntKind.wrap .u64 ((IntKind.wrap .u64 (IntKind.wrap .i64 (a1 + 1))) * 2 ^ 1)) n23))] h22 fun v24 h25 =>
  some ((.tuple #[]), List.take h0.length h25)
  else none
  else none
  else none
theorem F58_eq0 (rc : Rec) (md : Md) (a0_0 : Int) (a0_1 : Int) (a0_2 : Int) (a0_3 : Value) (a1 : Int) (a2 : Int) (a3 : Int) (a4 : Int) (a5 : Bool) (h0 : Heap) : callStep0 Try.prog cfg rc md 58 [(.agg #[(.int .i64 a0_0), (.int .i64 a0_1), (.int .i64 a0_2), a0_3]), (.int .i64 a1), (.int .i64 a2), (.int .i64 a3), (.int .i64 a4), (.bool a5)] h0 = F58 rc ⟨md.ro, h0.length⟩ a0_0 a0_1 a0_2 a0_3 a1 a2 a3 a4 a5 h0 := by kernel_rfl
theorem F58_eq (rc : Rec) (md : Md) (a0_0 : Int) (a0_1 : Int) (a0_2 : Int) (a0_3 : Value) (a1 : Int) (a2 : Int) (a3 : Int) (a4 : Int) (a5 : Bool) (h0 : Heap) : callStep Try.prog cfg rc md 58 [(.agg #[(.int .i64 a0_0), (.int .i64 a0_1), (.int .i64 a0_2), a0_3]), (.int .i64 a1), (.int .i64 a2), (.int .i64 a3), (.int .i64 a4), (.bool a5)] h0 = F58 rc ⟨md.ro, h0.length⟩ a0_0 a0_1 a0_2 a0_3 a1 a2 a3 a4 a5 h0 := (callStep_ne (by kernel_rfl)).trans (F58_eq0 rc md a0_0 a0_1 a0_2 a0_3 a1 a2 a3 a4 a5 h0)

/-- (tombolo/edge.Edges).Remove -/
noncomputable def F59 (rc : Rec) (md : Md) (a0_0 : Int) (a0_1 : Int) (a0_2 : Int) (a0_3 : Value) (a1 : Int) (a2 : Int) (h0 : Heap) : Option (Value × Heap) :=
  let h1 : Heap := h0 ++ [.own [(.int .i64 a0_0), (.int .i64 a0_1), (.int .i64 a0_2), a0_3]]
  ld1 (.pointer (some ⟨h0.length, 3, none⟩)) h1 fun v2 =>
  ldN 3 (.pointer (some ⟨h0.length, 0, none⟩)) h1 fun v3 =>
  cl (rc md 33 [v3, (.int .i64 a1), (.int .i64 a2)] h1) fun v4 h5 =>
  cIn .i64 v4 fun n6 =>
  bif okPtr v2 then
  clI Try.prog rc md v2 "Store" [(.int .i64 n6), (.int .u64 0)] h5 fun v7 h8 =>
  some ((.tuple #[]), List.take h0.length h8)
  else none
theorem F59_eq0 (rc : Rec) (md : Md) (a0_0 : Int) (a0_1 : Int) (a0_2 : Int) (a0_3 : Value) (a1 : Int) (a2 : Int) (h0 : Heap) : callStep0 Try.prog cfg rc md 59 [(.agg #[(.int .i64 a0_0), (.int .i64 a0_1), (.int .i64 a0_2), a0_3]), (.int .i64 a1), (.int .i64 a2)] h0 = F59 rc ⟨md.ro, h0.length⟩ a0_0 a0_1 a0_2 a0_3 a1 a2 h0 := by kernel_rfl
theorem F59_eq (rc : Rec) (md : Md) (a0_0 : Int) (a0_1 : Int) (a0_2 : Int) (a0_3 : Value) (a1 : Int) (a2 : Int) (h0 : Heap) : callStep Try.prog cfg rc md 59 [(.agg #[(.int .i64 a0_0), (.int .i64 a0_1), (.int .i64 a0_2), a0_3]), (.int .i64 a1), (.int .i64 a2)] h0 = F59 rc ⟨md.ro, h0.length⟩ a0_0 a0_1 a0_2 a0_3 a1 a2 h0 := (callStep_ne (by kernel_rfl)).trans (F59_eq0 rc md a0_0 a0_1 a0_2 a0_3 a1 a2 h0)

/-- tombolo/cell.New -/
noncomputable def F60 (rc : Rec) (md : Md) (a0 : Int) (h0 : Heap) : Option (Value × Heap) :=
  (bif wantV (.bool (decide (a0 < 0))) false then
  some ((.int .i64 a0), h0)
  else some (undef, h0)).bind fun p1 =>
  (bif wantV (.bool (decide (a0 < 0))) false then
  aBin Try.prog .gtr 3 p1.1 (.int .i64 16384) fun v2 =>
  some (v2, p1.2)
  else some (undef, p1.2)).bind fun p3 =>
  cBn (bif (decide (a0 < 0)) then (.bool true) else p3.1) fun b4 =>
  bif b4 then
    some ((.tuple #[(.pointer none), (.int .i64 11)]), p3.2)
  else
    aMakeSlice Try.prog 96 (.int .i64 a0) (.int .i64 a0) p3.2 fun v5 h6 =>
    aBuild Try.prog 100 [(0, v5)] fun v7 =>
    let h8 : Heap := h6 ++ [.own v7.cells.toList]
    some ((.tuple #[(.pointer (some ⟨h6.length, 0, none⟩)), (.int .i64 0)]), h8)
theorem F60_eq0 (rc : Rec) (md : Md) (a0 : Int) (h0 : Heap) : callStep0 Try.prog cfg rc md 60 [(.int .i64 a0)] h0 = F60 rc md a0 h0 := by kernel_rfl
theorem F60_eq (rc : Rec) (md : Md) (a0 : Int) (h0 : Heap) : callStep Try.prog cfg rc md 60 [(.int .i64 a0)] h0 = F60 rc md a0 h0 := (callStep_ne (by kernel_rfl)).trans (F60_eq0 rc md a0 h0)

/-- tombolo/mem.Of -/
noncomputable def F61 (rc : Rec) (md : Md) (a0 : Value) (h0 : Heap) : Option (Value × Heap) :=
  let h1 : Heap := h0 ++ [.own [(.pointer none)]]
  aBuild Try.prog 85 [(0, a0)] fun v2 =>
  st md 1 (.pointer (some ⟨h0.length, 0, none⟩)) v2 h1 fun h3 =>
  ldN 1 (.pointer (some ⟨h0.length, 0, none⟩)) h3 fun v4 =>
  fin2 h0 v4
theorem F61_eq0 (rc : Rec) (md : Md) (a0 : Value) (h0 : Heap) : callStep0 Try.prog cfg rc md 61 [a0] h0 = F61 rc ⟨h0.length, h0.length⟩ a0 h0 := by kernel_rfl
theorem F61_eq (rc : Rec) (md : Md) (a0 : Value) (h0 : Heap) : callStep Try.prog cfg rc md 61 [a0] h0 = F61 rc ⟨h0.length, h0.length⟩ a0 h0 := (callStep_ne (by kernel_rfl)).trans (F61_eq0 rc md a0 h0)

/-- (*tombolo/tombololaw11.play).slot -/
noncomputable def Jk62_0 (rc : Rec) (md : Md) (h0 : Heap) (e : Exit) (s1 : Value) (s4 : Value) (s10 : Value) (s11 : Value) (s12 : Value) (h : Heap) : Option (Value × Heap) :=
  match e with
  | .normal =>
    some ((.int .i64 (-1)), h0)
  | .exit j =>
    bif Nat.beq j 0 then
      some ((.int .i64 (-1)), h0)
    else
      none
  | .ret =>
    fin2 h0 s4
  | .goto l => none
  | .panic ps => none
  | .outgrown => none
theorem Jk62_0_at (rc : Rec) (md : Md) (h0 : Heap) (e : Exit) (t : T) (h : Heap) : kAt Try.prog cfg rc md 23 (bodyOf Try.prog 62) [1, 0, 1, 0] (retK Try.prog cfg 62 (rsOf Try.prog 62) h0) e t h = Jk62_0 rc md h0 e (t 1) (t 4) (t 10) (t 11) (t 12) h := by cases e <;> kernel_rfl
/-- a round -/
noncomputable def Jr62_0 (rc : Rec) (md : Md) (s1 : Value) (s4 : Value) (s10 : Value) (s11 : Value) (s12 : Value) (h : Heap) : Option (((Value × Value × Value × Value × Value) × Heap) ⊕ (Exit × (Value × Value × Value × Value × Value) × Heap)) :=
  aBin Try.prog .lss 3 s12 s11 fun v1 =>
  cBn v1 fun b2 =>
  bif b2 then
    ixSV 5 s10 s12 fun v3 =>
    ldN 5 v3 h fun v4 =>
    let h5 : Heap := h ++ [.own [(.int .i64 0), (.int .i64 0), (.int .i64 0), (.int .i64 0), (.bool false)]]
    st md 5 (.pointer (some ⟨h.length, 0, none⟩)) v4 h5 fun h6 =>
    ld1 (.pointer (some ⟨h.length, 0, none⟩)) h6 fun v7 =>
    cIn .i64 v7 fun n8 =>
    aBin Try.prog .eql 3 (.int .i64 n8) s1 fun v9 =>
    cBn v9 fun b10 =>
    bif b10 then
      some (.inr (.ret, (s1, s12, s10, s11, s12), h6))
    else
      aBin Try.prog .add 3 s12 (.int .i64 1) fun v11 =>
      some (.inl ((s1, s4, s10, s11, v11), h6))
  else
    some (.inr ((.exit 0), (s1, s4, s10, s11, s12), h))
theorem Jr62_0_at (rc : Rec) (md : Md) (t : T) (h : Heap) : exec Try.prog cfg rc md 23 (sub (bodyOf Try.prog 62) [1, 0, 1, 0, 0]) (rndK (fun t => (t 1, t 4, t 10, t 11, t 12))) t h = Jr62_0 rc md (t 1) (t 4) (t 10) (t 11) (t 12) h := by kernel_rfl
noncomputable def J62_0 (rc : Rec) (md : Md) (h0 : Heap) (s1 : Value) (s4 : Value) (s10 : Value) (s11 : Value) (s12 : Value) (h : Heap) : Option (Value × Heap) :=
  runL (fun x : (Value × Value × Value × Value × Value) × Heap => Jr62_0 rc md x.1.1 x.1.2.1 x.1.2.2.1 x.1.2.2.2.1 x.1.2.2.2.2 x.2) (fun e (s : Value × Value × Value × Value × Value) h => Jk62_0 rc md h0 e s.1 s.2.1 s.2.2.1 s.2.2.2.1 s.2.2.2.2 h) (s1, s4, s10, s11, s12) h
theorem J62_0_step (rc : Rec) (md : Md) (h0 : Heap) (s1 : Value) (s4 : Value) (s10 : Value) (s11 : Value) (s12 : Value) (h : Heap) : J62_0 rc md h0 s1 s4 s10 s11 s12 h = (Jr62_0 rc md s1 s4 s10 s11 s12 h).bind fun x => match x with
    | .inl (s, h) => J62_0 rc md h0 s.1 s.2.1 s.2.2.1 s.2.2.2.1 s.2.2.2.2 h
    | .inr (e, s, h) => Jk62_0 rc md h0 e s.1 s.2.1 s.2.2.1 s.2.2.2.1 s.2.2.2.2 h := by
  unfold J62_0
  rw [runL_eq]
  refine congrArg (Option.bind _) (funext fun x => ?_)
  rcases x with ⟨s, h⟩ | ⟨e, s, h⟩ <;> rfl
theorem J62_0_cut (rc : Rec) (md : Md) (h0 : Heap) : cut Try.prog cfg rc md 23 (bodyOf Try.prog 62) [1, 0, 1, 0] (retK Try.prog cfg 62 (rsOf Try.prog 62) h0) = fun t h => J62_0 rc md h0 (t 1) (t 4) (t 10) (t 11) (t 12) h := by
  funext t h
  have e : sub (bodyOf Try.prog 62) [1, 0, 1, 0] = .loop (sub (bodyOf Try.prog 62) [1, 0, 1, 0, 0]) := by kernel_rfl
  unfold cut
  rw [e]
  exact loop_eq (by kernel_rfl) (fun t => (t 1, t 4, t 10, t 11, t 12)) (fun x : (Value × Value × Value × Value × Value) × Heap => Jr62_0 rc md x.1.1 x.1.2.1 x.1.2.2.1 x.1.2.2.2.1 x.1.2.2.2.2 x.2) (fun t h => Jr62_0_at rc md t h) (fun e (s : Value × Value × Value × Value × Value) h => Jk62_0 rc md h0 e s.1 s.2.1 s.2.2.1 s.2.2.2.1 s.2.2.2.2 h) (fun e t h => Jk62_0_at rc md h0 e t h) t h
noncomputable def F62 (rc : Rec) (md : Md) (a0 : Value) (a1 : Int) (h0 : Heap) : Option (Value × Heap) :=
  bif okPtr a0 then
  fA 7 a0 fun v1 =>
  ld1 v1 h0 fun v2 =>
  lenS v2 fun v3 =>
  cIn .i64 v3 fun n4 =>
  J62_0 rc md h0 (.int .i64 a1) (.int .i64 0) v2 (.int .i64 n4) (.int .i64 0) h0
  else none
noncomputable def F62H (rc : Rec) (md : Md) (X0 : T → Heap → Option (Value × Heap)) (a0 : Value) (a1 : Int) (h0 : Heap) : Option (Value × Heap) :=
  bif okPtr a0 then
  fA 7 a0 fun v1 =>
  ld1 v1 h0 fun v2 =>
  lenS v2 fun v3 =>
  cIn .i64 v3 fun n4 =>
  X0 (upd (upd (upd (upd (upd (upd (upd (args0 [a0, (.int .i64 a1)]) 4 (.int .i64 0)) 7 a0) 8 a0) 9 v1) 10 v2) 11 (.int .i64 n4)) 12 (.int .i64 0)) h0
  else none
theorem F62_h0 (rc : Rec) (md : Md) (a0 : Value) (a1 : Int) (h0 : Heap) : callStep0 Try.prog cfg rc md 62 [a0, (.int .i64 a1)] h0 = exec Try.prog cfg rc ⟨h0.length, h0.length⟩ 23 (bodyOf Try.prog 62) (retK Try.prog cfg 62 (rsOf Try.prog 62) h0) (args0 [a0, (.int .i64 a1)]) h0 := callStep0_run (by kernel_rfl) (by kernel_rfl) (by kernel_rfl)
theorem F62_h1 (rc : Rec) (md : Md) (X : Nat → T → Heap → Option (Value × Heap)) (a0 : Value) (a1 : Int) (h0 : Heap) : execG Try.prog cfg X rc md 23 (replS (bodyOf Try.prog 62) [([1, 0, 1, 0], 0)]) (retK Try.prog cfg 62 (rsOf Try.prog 62) h0) (args0 [a0, (.int .i64 a1)]) h0 = F62H rc md (X 0) a0 a1 h0 := by kernel_rfl
theorem F62_h2 (rc : Rec) (md : Md) (a0 : Value) (a1 : Int) (h0 : Heap) : F62H rc md (fun t h => J62_0 rc md h0 (t 1) (t 4) (t 10) (t 11) (t 12) h) a0 a1 h0 = F62 rc md a0 a1 h0 := by unfold F62H F62; kernel_rfl
theorem F62_eq0 (rc : Rec) (md : Md) (a0 : Value) (a1 : Int) (h0 : Heap) : callStep0 Try.prog cfg rc md 62 [a0, (.int .i64 a1)] h0 = F62 rc ⟨h0.length, h0.length⟩ a0 a1 h0 := by
  rw [F62_h0, exec_holes [([1, 0, 1, 0], 0)] (by kernel_rfl), F62_h1, show (goX Try.prog cfg rc ⟨h0.length, h0.length⟩ 23 (bodyOf Try.prog 62) [([1, 0, 1, 0], 0)] (retK Try.prog cfg 62 (rsOf Try.prog 62) h0)) 0 = _ from J62_0_cut rc ⟨h0.length, h0.length⟩ h0]
  exact F62_h2 rc _ a0 a1 h0
theorem F62_eq (rc : Rec) (md : Md) (a0 : Value) (a1 : Int) (h0 : Heap) : callStep Try.prog cfg rc md 62 [a0, (.int .i64 a1)] h0 = F62 rc ⟨h0.length, h0.length⟩ a0 a1 h0 := (callStep_ne (by kernel_rfl)).trans (F62_eq0 rc md a0 a1 h0)

/-- (tombolo/edge.Edges).ends -/
noncomputable def F63 (rc : Rec) (md : Md) (a0_0 : Int) (a0_1 : Int) (a0_2 : Int) (a0_3 : Value) (a1 : Int) (h0 : Heap) : Option (Value × Heap) :=
  let h1 : Heap := h0 ++ [.own [(.int .i64 a0_0), (.int .i64 a0_1), (.int .i64 a0_2), a0_3]]
  ld1 (.pointer (some ⟨h0.length, 3, none⟩)) h1 fun v2 =>
  ldN 3 (.pointer (some ⟨h0.length, 0, none⟩)) h1 fun v3 =>
  cl (rc md 28 [v3, (.int .i64 a1)] h1) fun v4 h5 =>
  cIn .i64 v4 fun n6 =>
  bif okPtr v2 then
  clI Try.prog rc md v2 "Load" [(.int .i64 n6)] h5 fun v7 h8 =>
  cIn .u64 v7 fun n9 =>
  some ((.tuple #[(.int .i64 (Int.fdiv (IntKind.wrap .i64 n9) (2 ^ 8))), (.int .i64 (bAnd .i64 (IntKind.wrap .i64 n9) 255))]), List.take h0.length h8)
  else none
theorem F63_eq0 (rc : Rec) (md : Md) (a0_0 : Int) (a0_1 : Int) (a0_2 : Int) (a0_3 : Value) (a1 : Int) (h0 : Heap) : callStep0 Try.prog cfg rc md 63 [(.agg #[(.int .i64 a0_0), (.int .i64 a0_1), (.int .i64 a0_2), a0_3]), (.int .i64 a1)] h0 = F63 rc ⟨md.ro, h0.length⟩ a0_0 a0_1 a0_2 a0_3 a1 h0 := by kernel_rfl
theorem F63_eq (rc : Rec) (md : Md) (a0_0 : Int) (a0_1 : Int) (a0_2 : Int) (a0_3 : Value) (a1 : Int) (h0 : Heap) : callStep Try.prog cfg rc md 63 [(.agg #[(.int .i64 a0_0), (.int .i64 a0_1), (.int .i64 a0_2), a0_3]), (.int .i64 a1)] h0 = F63 rc ⟨md.ro, h0.length⟩ a0_0 a0_1 a0_2 a0_3 a1 h0 := (callStep_ne (by kernel_rfl)).trans (F63_eq0 rc md a0_0 a0_1 a0_2 a0_3 a1 h0)

/-- tombolo/edge.bit -/
noncomputable def F64 (rc : Rec) (md : Md) (a0 : Bool) (h0 : Heap) : Option (Value × Heap) :=
  bif a0 then
    some ((.int .u64 1), h0)
  else
    some ((.int .u64 0), h0)
theorem F64_eq0 (rc : Rec) (md : Md) (a0 : Bool) (h0 : Heap) : callStep0 Try.prog cfg rc md 64 [(.bool a0)] h0 = F64 rc ⟨h0.length, h0.length⟩ a0 h0 := by kernel_rfl
theorem F64_eq (rc : Rec) (md : Md) (a0 : Bool) (h0 : Heap) : callStep Try.prog cfg rc md 64 [(.bool a0)] h0 = alone h0 (F64 rc ⟨0, 0⟩ a0 []) := by
  have e : callStep Try.prog cfg rc md 64 [(.bool a0)] h0 = alone h0 (callStep0 Try.prog cfg rc ⟨0, 0⟩ 64 [(.bool a0)] []) := by kernel_rfl
  rw [e, F64_eq0]; rfl

/-- (*tombolo/cell.Arena).Load -/
noncomputable def F83 (rc : Rec) (md : Md) (a0 : Value) (a1 : Int) (h0 : Heap) : Option (Value × Heap) :=
  bif okPtr a0 then
  fA 1 a0 fun v1 =>
  fA 0 v1 fun v2 =>
  cl (rc md 85 [a0, (.int .i64 a1), v2] h0) fun v3 h4 =>
  aBin Try.prog .eql 117 v3 (.pointer none) fun v5 =>
  cBn v5 fun b6 =>
  bif b6 then
    some ((.tuple #[(.int .u64 0), (.int .i64 20)]), List.take h0.length h4)
  else
    bif okPtr v3 then
    ld1 v3 h4 fun v7 =>
    cIn .u64 v7 fun n8 =>
    some ((.tuple #[(.int .u64 n8), (.int .i64 0)]), List.take h0.length h4)
    else none
  else none
theorem F83_eq0 (rc : Rec) (md : Md) (a0 : Value) (a1 : Int) (h0 : Heap) : callStep0 Try.prog cfg rc md 83 [a0, (.int .i64 a1)] h0 = F83 rc ⟨md.ro, h0.length⟩ a0 a1 h0 := by kernel_rfl
theorem F83_eq (rc : Rec) (md : Md) (a0 : Value) (a1 : Int) (h0 : Heap) : callStep Try.prog cfg rc md 83 [a0, (.int .i64 a1)] h0 = F83 rc ⟨md.ro, h0.length⟩ a0 a1 h0 := (callStep_ne (by kernel_rfl)).trans (F83_eq0 rc md a0 a1 h0)

/-- (*tombolo/cell.Arena).Store -/
noncomputable def F84 (rc : Rec) (md : Md) (a0 : Value) (a1 : Int) (a2 : Int) (h0 : Heap) : Option (Value × Heap) :=
  bif okPtr a0 then
  fA 1 a0 fun v1 =>
  fA 1 v1 fun v2 =>
  cl (rc md 85 [a0, (.int .i64 a1), v2] h0) fun v3 h4 =>
  aBin Try.prog .eql 117 v3 (.pointer none) fun v5 =>
  cBn v5 fun b6 =>
  bif b6 then
    some ((.int .i64 20), List.take h0.length h4)
  else
    bif okPtr v3 then
    st md 1 v3 (.int .u64 a2) h4 fun h7 =>
    some ((.int .i64 0), List.take h0.length h7)
    else none
  else none
theorem F84_eq0 (rc : Rec) (md : Md) (a0 : Value) (a1 : Int) (a2 : Int) (h0 : Heap) : callStep0 Try.prog cfg rc md 84 [a0, (.int .i64 a1), (.int .u64 a2)] h0 = F84 rc ⟨md.ro, h0.length⟩ a0 a1 a2 h0 := by kernel_rfl
theorem F84_eq (rc : Rec) (md : Md) (a0 : Value) (a1 : Int) (a2 : Int) (h0 : Heap) : callStep Try.prog cfg rc md 84 [a0, (.int .i64 a1), (.int .u64 a2)] h0 = F84 rc ⟨md.ro, h0.length⟩ a0 a1 a2 h0 := (callStep_ne (by kernel_rfl)).trans (F84_eq0 rc md a0 a1 a2 h0)

/-- (*tombolo/cell.Arena).at -/
noncomputable def F85 (rc : Rec) (md : Md) (a0 : Value) (a1 : Int) (a2 : Value) (h0 : Heap) : Option (Value × Heap) :=
  (bif wantV (.bool (decide (a1 < 0))) false then
  some ((.int .i64 a1), h0)
  else some (undef, h0)).bind fun p1 =>
  (bif wantV (.bool (decide (a1 < 0))) false then
  some (a0, p1.2)
  else some (undef, p1.2)).bind fun p2 =>
  (bif wantV (.bool (decide (a1 < 0))) false then
  bif okPtr p2.1 then
  some (p2.1, p2.2)
  else none
  else some (undef, p2.2)).bind fun p3 =>
  (bif wantV (.bool (decide (a1 < 0))) false then
  fA 0 p3.1 fun v4 =>
  some (v4, p3.2)
  else some (undef, p3.2)).bind fun p5 =>
  (bif wantV (.bool (decide (a1 < 0))) false then
  ld1 p5.1 p5.2 fun v6 =>
  some (v6, p5.2)
  else some (undef, p5.2)).bind fun p7 =>
  (bif wantV (.bool (decide (a1 < 0))) false then
  lenS p7.1 fun v8 =>
  cIn .i64 v8 fun n9 =>
  some ((.int .i64 n9), p7.2)
  else some (undef, p7.2)).bind fun p10 =>
  (bif wantV (.bool (decide (a1 < 0))) false then
  aBin Try.prog .geq 3 p1.1 p10.1 fun v11 =>
  some (v11, p10.2)
  else some (undef, p10.2)).bind fun p12 =>
  cBn (bif (decide (a1 < 0)) then (.bool true) else p12.1) fun b13 =>
  bif b13 then
    some ((.pointer none), List.take h0.length p12.2)
  else
    bif okPtr a2 then
    ld1 a2 p12.2 fun v14 =>
    cIn .i64 v14 fun n15 =>
    bif okPtr a2 then
    st md 1 a2 (.int .i64 (IntKind.wrap .i64 (n15 + 1))) p12.2 fun h16 =>
    bif okPtr a0 then
    fA 0 a0 fun v17 =>
    ld1 v17 h16 fun v18 =>
    ixS 1 v18 a1 fun v19 =>
    fin1 h0 v19 h16
    else none
    else none
    else none
theorem F85_eq0 (rc : Rec) (md : Md) (a0 : Value) (a1 : Int) (a2 : Value) (h0 : Heap) : callStep0 Try.prog cfg rc md 85 [a0, (.int .i64 a1), a2] h0 = F85 rc ⟨md.ro, h0.length⟩ a0 a1 a2 h0 := by kernel_rfl
theorem F85_eq (rc : Rec) (md : Md) (a0 : Value) (a1 : Int) (a2 : Value) (h0 : Heap) : callStep Try.prog cfg rc md 85 [a0, (.int .i64 a1), a2] h0 = F85 rc ⟨md.ro, h0.length⟩ a0 a1 a2 h0 := (callStep_ne (by kernel_rfl)).trans (F85_eq0 rc md a0 a1 a2 h0)

/-- (tombolo/mem.Plain).Load -/
noncomputable def F86 (rc : Rec) (md : Md) (a0_0 : Value) (a1 : Int) (h0 : Heap) : Option (Value × Heap) :=
  let h1 : Heap := h0 ++ [.own [a0_0]]
  ld1 (.pointer (some ⟨h0.length, 0, none⟩)) h1 fun v2 =>
  cl (rc md 83 [v2, (.int .i64 a1)] h1) fun v3 h4 =>
  exT v3 0 fun v5 =>
  cIn .u64 v5 fun n6 =>
  exT v3 1 fun v7 =>
  cIn .i64 v7 fun n8 =>
  some ((.int .u64 n6), List.take h0.length h4)
theorem F86_eq0 (rc : Rec) (md : Md) (a0_0 : Value) (a1 : Int) (h0 : Heap) : callStep0 Try.prog cfg rc md 86 [(.agg #[a0_0]), (.int .i64 a1)] h0 = F86 rc ⟨md.ro, h0.length⟩ a0_0 a1 h0 := by kernel_rfl
theorem F86_eq (rc : Rec) (md : Md) (a0_0 : Value) (a1 : Int) (h0 : Heap) : callStep Try.prog cfg rc md 86 [(.agg #[a0_0]), (.int .i64 a1)] h0 = F86 rc ⟨md.ro, h0.length⟩ a0_0 a1 h0 := (callStep_ne (by kernel_rfl)).trans (F86_eq0 rc md a0_0 a1 h0)

/-- (tombolo/mem.Plain).Store -/
noncomputable def F87 (rc : Rec) (md : Md) (a0_0 : Value) (a1 : Int) (a2 : Int) (h0 : Heap) : Option (Value × Heap) :=
  let h1 : Heap := h0 ++ [.own [a0_0]]
  ld1 (.pointer (some ⟨h0.length, 0, none⟩)) h1 fun v2 =>
  cl (rc md 84 [v2, (.int .i64 a1), (.int .u64 a2)] h1) fun v3 h4 =>
  cIn .i64 v3 fun n5 =>
  some ((.tuple #[]), List.take h0.length h4)
theorem F87_eq0 (rc : Rec) (md : Md) (a0_0 : Value) (a1 : Int) (a2 : Int) (h0 : Heap) : callStep0 Try.prog cfg rc md 87 [(.agg #[a0_0]), (.int .i64 a1), (.int .u64 a2)] h0 = F87 rc ⟨md.ro, h0.length⟩ a0_0 a1 a2 h0 := by kernel_rfl
theorem F87_eq (rc : Rec) (md : Md) (a0_0 : Value) (a1 : Int) (a2 : Int) (h0 : Heap) : callStep Try.prog cfg rc md 87 [(.agg #[a0_0]), (.int .i64 a1), (.int .u64 a2)] h0 = F87 rc ⟨md.ro, h0.length⟩ a0_0 a1 a2 h0 := (callStep_ne (by kernel_rfl)).trans (F87_eq0 rc md a0_0 a1 a2 h0)

end Go.Det.E
