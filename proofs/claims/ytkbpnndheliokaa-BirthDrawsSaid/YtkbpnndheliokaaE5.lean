/- Printed functions. -/
import Derived.Test.YtkbpnndheliokaaE3
import Derived.Test.YtkbpnndheliokaaDetT
import Derived.Test.YtkbpnndheliokaaDetX
import Derived.Test.YtkbpnndheliokaaProg
set_option autoImplicit false
set_option linter.unusedVariables false
set_option linter.unusedSimpArgs false
namespace Go.Det.E
open Go.Proofs Go.Det

/-- tombolo/tombololaw15.BirthCells -/
noncomputable def Jk7_0 (rc : Rec) (md : Md) (h0 : Heap) (e : Exit) (s4 : Value) (s5 : Value) (s62 : Value) (s63 : Value) (s64 : Value) (h : Heap) : Option (Value × Heap) :=
  match e with
  | .normal =>
    cl (rc md 24 [] h) fun v1 h2 =>
    cBn v1 fun b3 =>
    some ((.bool b3), List.take h0.length h2)
  | .exit j =>
    bif Nat.beq j 1 then
      cl (rc md 24 [] h) fun v4 h5 =>
      cBn v4 fun b6 =>
      some ((.bool b6), List.take h0.length h5)
    else
      none
  | .ret =>
    fin1 h0 s4 h
  | .goto l => none
  | .panic ps => none
  | .outgrown => none
theorem Jk7_0_at (rc : Rec) (md : Md) (h0 : Heap) (e : Exit) (t : T) (h : Heap) : kAt Try.prog cfg rc md 80 (bodyOf Try.prog 7) [1, 1, 1, 1, 1, 0, 1, 0] (retK Try.prog cfg 7 (rsOf Try.prog 7) h0) e t h = Jk7_0 rc md h0 e (t 4) (t 5) (t 62) (t 63) (t 64) h := by cases e <;> kernel_rfl
/-- a round -/
noncomputable def Jr7_0 (rc : Rec) (md : Md) (s4 : Value) (s5 : Value) (s62 : Value) (s63 : Value) (s64 : Value) (h : Heap) : Option (((Value × Value × Value × Value × Value) × Heap) ⊕ (Exit × (Value × Value × Value × Value × Value) × Heap)) :=
  aBin Try.prog .lss 3 s64 s63 fun v1 =>
  cBn v1 fun b2 =>
  bif b2 then
    ixSV 1 s62 s64 fun v3 =>
    ld1 v3 h fun v4 =>
    cIn .u64 v4 fun n5 =>
    cl (rc md 27 [s5, s64] h) fun v6 h7 =>
    exT v6 0 fun v8 =>
    cIn .u64 v8 fun n9 =>
    exT v6 1 fun v10 =>
    cIn .i64 v10 fun n11 =>
    bif (n9 != n5) then
      some (.inr (.ret, ((.bool false), s5, s62, s63, s64), h7))
    else
      aBin Try.prog .add 3 s64 (.int .i64 1) fun v12 =>
      some (.inl ((s4, s5, s62, s63, v12), h7))
  else
    some (.inr ((.exit 1), (s4, s5, s62, s63, s64), h))
theorem Jr7_0_at (rc : Rec) (md : Md) (t : T) (h : Heap) : exec Try.prog cfg rc md 80 (sub (bodyOf Try.prog 7) [1, 1, 1, 1, 1, 0, 1, 0, 0]) (rndK (fun t => (t 4, t 5, t 62, t 63, t 64))) t h = Jr7_0 rc md (t 4) (t 5) (t 62) (t 63) (t 64) h := by kernel_rfl
noncomputable def J7_0 (rc : Rec) (md : Md) (h0 : Heap) (s4 : Value) (s5 : Value) (s62 : Value) (s63 : Value) (s64 : Value) (h : Heap) : Option (Value × Heap) :=
  runL (fun x : (Value × Value × Value × Value × Value) × Heap => Jr7_0 rc md x.1.1 x.1.2.1 x.1.2.2.1 x.1.2.2.2.1 x.1.2.2.2.2 x.2) (fun e (s : Value × Value × Value × Value × Value) h => Jk7_0 rc md h0 e s.1 s.2.1 s.2.2.1 s.2.2.2.1 s.2.2.2.2 h) (s4, s5, s62, s63, s64) h
theorem J7_0_step (rc : Rec) (md : Md) (h0 : Heap) (s4 : Value) (s5 : Value) (s62 : Value) (s63 : Value) (s64 : Value) (h : Heap) : J7_0 rc md h0 s4 s5 s62 s63 s64 h = (Jr7_0 rc md s4 s5 s62 s63 s64 h).bind fun x => match x with
    | .inl (s, h) => J7_0 rc md h0 s.1 s.2.1 s.2.2.1 s.2.2.2.1 s.2.2.2.2 h
    | .inr (e, s, h) => Jk7_0 rc md h0 e s.1 s.2.1 s.2.2.1 s.2.2.2.1 s.2.2.2.2 h := by
  unfold J7_0
  rw [runL_eq]
  refine congrArg (Option.bind _) (funext fun x => ?_)
  rcases x with ⟨s, h⟩ | ⟨e, s, h⟩ <;> rfl
theorem J7_0_cut (rc : Rec) (md : Md) (h0 : Heap) : cut Try.prog cfg rc md 80 (bodyOf Try.prog 7) [1, 1, 1, 1, 1, 0, 1, 0] (retK Try.prog cfg 7 (rsOf Try.prog 7) h0) = fun t h => J7_0 rc md h0 (t 4) (t 5) (t 62) (t 63) (t 64) h := by
  funext t h
  have e : sub (bodyOf Try.prog 7) [1, 1, 1, 1, 1, 0, 1, 0] = .loop (sub (bodyOf Try.prog 7) [1, 1, 1, 1, 1, 0, 1, 0, 0]) := by kernel_rfl
  unfold cut
  rw [e]
  exact loop_eq (by kernel_rfl) (fun t => (t 4, t 5, t 62, t 63, t 64)) (fun x : (Value × Value × Value × Value × Value) × Heap => Jr7_0 rc md x.1.1 x.1.2.1 x.1.2.2.1 x.1.2.2.2.1 x.1.2.2.2.2 x.2) (fun t h => Jr7_0_at rc md t h) (fun e (s : Value × Value × Value × Value × Value) h => Jk7_0 rc md h0 e s.1 s.2.1 s.2.2.1 s.2.2.2.1 s.2.2.2.2 h) (fun e t h => Jk7_0_at rc md h0 e t h) t h
noncomputable def F7 (rc : Rec) (md : Md) (a0_0 : Int) (a0_1 : Int) (a0_2 : Int) (a1 : Value) (h0 : Heap) : Option (Value × Heap) :=
  let h1 : Heap := h0 ++ [.own [(.int .i64 a0_0), (.int .i64 a0_1), (.int .i64 a0_2)]]
  ldN 3 (.pointer (some ⟨h0.length, 0, none⟩)) h1 fun v2 =>
  cl (rc md 21 [v2, a1] h1) fun v3 h4 =>
  exT v3 0 fun v5 =>
  exT v3 1 fun v6 =>
  cIn .i64 v6 fun n7 =>
  ldN 3 (.pointer (some ⟨h0.length, 0, none⟩)) h4 fun v8 =>
  cl (rc md 23 [v8] h4) fun v9 h10 =>
  cl (rc md 22 [v9] h10) fun v11 h12 =>
  cBn v11 fun b13 =>
  bif !b13 then
    (bif wantV (.bool (n7 == 11)) true then
    some (v5, h12)
    else some (undef, h12)).bind fun p14 =>
    (bif wantV (.bool (n7 == 11)) true then
    aBin Try.prog .eql 51 p14.1 (.pointer none) fun v15 =>
    some (v15, p14.2)
    else some (undef, p14.2)).bind fun p16 =>
    cBn (bif (n7 == 11) then p16.1 else (.bool false)) fun b17 =>
    (bif wantV (.bool b17) true then
    cl (rc md 24 [] p16.2) fun v18 h19 =>
    cBn v18 fun b20 =>
    some ((.bool b20), h19)
    else some (undef, p16.2)).bind fun p21 =>
    cBn (bif b17 then p21.1 else (.bool false)) fun b22 =>
    some ((.bool b22), List.take h0.length p21.2)
  else
    lenS a1 fun v23 =>
    cIn .i64 v23 fun n24 =>
    bif (decide (n24 > 256)) then
      (bif wantV (.bool (n7 == 12)) true then
      some (v5, h12)
      else some (undef, h12)).bind fun p25 =>
      (bif wantV (.bool (n7 == 12)) true then
      aBin Try.prog .eql 51 p25.1 (.pointer none) fun v26 =>
      some (v26, p25.2)
      else some (undef, p25.2)).bind fun p27 =>
      cBn (bif (n7 == 12) then p27.1 else (.bool false)) fun b28 =>
      (bif wantV (.bool b28) true then
      cl (rc md 24 [] p27.2) fun v29 h30 =>
      cBn v29 fun b31 =>
      some ((.bool b31), h30)
      else some (undef, p27.2)).bind fun p32 =>
      cBn (bif b28 then p32.1 else (.bool false)) fun b33 =>
      some ((.bool b33), List.take h0.length p32.2)
    else
      ldN 3 (.pointer (some ⟨h0.length, 0, none⟩)) h12 fun v34 =>
      cl (rc md 23 [v34] h12) fun v35 h36 =>
      cl (rc md 25 [v35, a1] h36) fun v37 h38 =>
      (bif wantV (.bool (n7 != 0)) false then
      some (v5, h38)
      else some (undef, h38)).bind fun p39 =>
      (bif wantV (.bool (n7 != 0)) false then
      aBin Try.prog .eql 51 p39.1 (.pointer none) fun v40 =>
      some (v40, p39.2)
      else some (undef, p39.2)).bind fun p41 =>
      cBn (bif (n7 != 0) then (.bool true) else p41.1) fun b42 =>
      (bif wantV (.bool b42) false then
      some (v5, p41.2)
      else some (undef, p41.2)).bind fun p43 =>
      (bif wantV (.bool b42) false then
      cl (rc md 26 [p43.1] p43.2) fun v44 h45 =>
      cIn .i64 v44 fun n46 =>
      some ((.int .i64 n46), h45)
      else some (undef, p43.2)).bind fun p47 =>
      (bif wantV (.bool b42) false then
      some (v37, p47.2)
      else some (undef, p47.2)).bind fun p48 =>
      (bif wantV (.bool b42) false then
      lenS p48.1 fun v49 =>
      cIn .i64 v49 fun n50 =>
      some ((.int .i64 n50), p48.2)
      else some (undef, p48.2)).bind fun p51 =>
      (bif wantV (.bool b42) false then
      aBin Try.prog .neq 3 p47.1 p51.1 fun v52 =>
      some (v52, p51.2)
      else some (undef, p51.2)).bind fun p53 =>
      cBn (bif b42 then (.bool true) else p53.1) fun b54 =>
      bif b54 then
        some ((.bool false), List.take h0.length p53.2)
      else
        lenS v37 fun v55 =>
        cIn .i64 v55 fun n56 =>
        J7_0 rc md h0 (.bool false) v5 v37 (.int .i64 n56) (.int .i64 0) p53.2
noncomputable def F7H (rc : Rec) (md : Md) (X0 : T → Heap → Option (Value × Heap)) (a0_0 : Int) (a0_1 : Int) (a0_2 : Int) (a1 : Value) (h0 : Heap) : Option (Value × Heap) :=
  let h1 : Heap := h0 ++ [.own [(.int .i64 a0_0), (.int .i64 a0_1), (.int .i64 a0_2)]]
  ldN 3 (.pointer (some ⟨h0.length, 0, none⟩)) h1 fun v2 =>
  cl (rc md 21 [v2, a1] h1) fun v3 h4 =>
  exT v3 0 fun v5 =>
  exT v3 1 fun v6 =>
  cIn .i64 v6 fun n7 =>
  ldN 3 (.pointer (some ⟨h0.length, 0, none⟩)) h4 fun v8 =>
  cl (rc md 23 [v8] h4) fun v9 h10 =>
  cl (rc md 22 [v9] h10) fun v11 h12 =>
  cBn v11 fun b13 =>
  bif !b13 then
    (bif wantV (.bool (n7 == 11)) true then
    some (v5, h12)
    else some (undef, h12)).bind fun p14 =>
    (bif wantV (.bool (n7 == 11)) true then
    aBin Try.prog .eql 51 p14.1 (.pointer none) fun v15 =>
    some (v15, p14.2)
    else some (undef, p14.2)).bind fun p16 =>
    cBn (bif (n7 == 11) then p16.1 else (.bool false)) fun b17 =>
    (bif wantV (.bool b17) true then
    cl (rc md 24 [] p16.2) fun v18 h19 =>
    cBn v18 fun b20 =>
    some ((.bool b20), h19)
    else some (undef, p16.2)).bind fun p21 =>
    cBn (bif b17 then p21.1 else (.bool false)) fun b22 =>
    some ((.bool b22), List.take h0.length p21.2)
  else
    lenS a1 fun v23 =>
    cIn .i64 v23 fun n24 =>
    bif (decide (n24 > 256)) then
      (bif wantV (.bool (n7 == 12)) true then
      some (v5, h12)
      else some (undef, h12)).bind fun p25 =>
      (bif wantV (.bool (n7 == 12)) true then
      aBin Try.prog .eql 51 p25.1 (.pointer none) fun v26 =>
      some (v26, p25.2)
      else some (undef, p25.2)).bind fun p27 =>
      cBn (bif (n7 == 12) then p27.1 else (.bool false)) fun b28 =>
      (bif wantV (.bool b28) true then
      cl (rc md 24 [] p27.2) fun v29 h30 =>
      cBn v29 fun b31 =>
      some ((.bool b31), h30)
      else some (undef, p27.2)).bind fun p32 =>
      cBn (bif b28 then p32.1 else (.bool false)) fun b33 =>
      some ((.bool b33), List.take h0.length p32.2)
    else
      ldN 3 (.pointer (some ⟨h0.length, 0, none⟩)) h12 fun v34 =>
      cl (rc md 23 [v34] h12) fun v35 h36 =>
      cl (rc md 25 [v35, a1] h36) fun v37 h38 =>
      (bif wantV (.bool (n7 != 0)) false then
      some (v5, h38)
      else some (undef, h38)).bind fun p39 =>
      (bif wantV (.bool (n7 != 0)) false then
      aBin Try.prog .eql 51 p39.1 (.pointer none) fun v40 =>
      some (v40, p39.2)
      else some (undef, p39.2)).bind fun p41 =>
      cBn (bif (n7 != 0) then (.bool true) else p41.1) fun b42 =>
      (bif wantV (.bool b42) false then
      some (v5, p41.2)
      else some (undef, p41.2)).bind fun p43 =>
      (bif wantV (.bool b42) false then
      cl (rc md 26 [p43.1] p43.2) fun v44 h45 =>
      cIn .i64 v44 fun n46 =>
      some ((.int .i64 n46), h45)
      else some (undef, p43.2)).bind fun p47 =>
      (bif wantV (.bool b42) false then
      some (v37, p47.2)
      else some (undef, p47.2)).bind fun p48 =>
      (bif wantV (.bool b42) false then
      lenS p48.1 fun v49 =>
      cIn .i64 v49 fun n50 =>
      some ((.int .i64 n50), p48.2)
      else some (undef, p48.2)).bind fun p51 =>
      (bif wantV (.bool b42) false then
      aBin Try.prog .neq 3 p47.1 p51.1 fun v52 =>
      some (v52, p51.2)
      else some (undef, p51.2)).bind fun p53 =>
      cBn (bif b42 then (.bool true) else p53.1) fun b54 =>
      bif b54 then
        some ((.bool false), List.take h0.length p53.2)
      else
        lenS v37 fun v55 =>
        cIn .i64 v55 fun n56 =>
        X0 (upd (upd (upd (upd (upd (upd (upd (upd (upd (upd (upd (upd (upd (upd (upd (upd (upd (upd (upd (upd (upd (upd (upd (upd (upd (upd (upd (upd (upd (upd (upd (upd (upd (upd (upd (upd (upd (upd (upd (upd (args0 [(.agg #[(.int .i64 a0_0), (.int .i64 a0_1), (.int .i64 a0_2)]), a1]) 2 (.pointer (some ⟨h0.length, 0, none⟩))) 4 (.bool false)) 13 v2) 14 a1) 15 v3) 12 v3) 16 v5) 17 (.int .i64 n7)) 5 v5) 6 (.int .i64 n7)) 19 v8) 20 v9) 21 (.bool b13)) 22 (.bool (!b13))) 18 (.bool (!b13))) 33 a1) 34 (.int .i64 n24)) 35 (.bool (decide (n24 > 256)))) 32 (.bool (decide (n24 > 256)))) 45 v34) 46 v35) 47 a1) 48 v37) 7 v37) 49 (.int .i64 n7)) 50 (.bool (n7 != 0))) 51 (.bool (n7 != 0))) 52 p39.1) 53 p41.1) 54 (.bool b42)) 55 (.bool b42)) 56 p43.1) 57 p47.1) 58 p48.1) 59 p51.1) 60 p53.1) 61 (.bool b54)) 62 v37) 63 (.int .i64 n56)) 64 (.int .i64 0)) p53.2
theorem F7_h0 (rc : Rec) (md : Md) (a0_0 : Int) (a0_1 : Int) (a0_2 : Int) (a1 : Value) (h0 : Heap) : callStep0 Try.prog cfg rc md 7 [(.agg #[(.int .i64 a0_0), (.int .i64 a0_1), (.int .i64 a0_2)]), a1] h0 = exec Try.prog cfg rc ⟨md.ro, h0.length⟩ 80 (bodyOf Try.prog 7) (retK Try.prog cfg 7 (rsOf Try.prog 7) h0) (args0 [(.agg #[(.int .i64 a0_0), (.int .i64 a0_1), (.int .i64 a0_2)]), a1]) h0 := callStep0_run (by kernel_rfl) (by kernel_rfl) (by kernel_rfl)
theorem F7_h1 (rc : Rec) (md : Md) (X : Nat → T → Heap → Option (Value × Heap)) (a0_0 : Int) (a0_1 : Int) (a0_2 : Int) (a1 : Value) (h0 : Heap) : execG Try.prog cfg X rc md 80 (replS (bodyOf Try.prog 7) [([1, 1, 1, 1, 1, 0, 1, 0], 0)]) (retK Try.prog cfg 7 (rsOf Try.prog 7) h0) (args0 [(.agg #[(.int .i64 a0_0), (.int .i64 a0_1), (.int .i64 a0_2)]), a1]) h0 = F7H rc md (X 0) a0_0 a0_1 a0_2 a1 h0 := by kernel_rfl
theorem F7_h2 (rc : Rec) (md : Md) (a0_0 : Int) (a0_1 : Int) (a0_2 : Int) (a1 : Value) (h0 : Heap) : F7H rc md (fun t h => J7_0 rc md h0 (t 4) (t 5) (t 62) (t 63) (t 64) h) a0_0 a0_1 a0_2 a1 h0 = F7 rc md a0_0 a0_1 a0_2 a1 h0 := by unfold F7H F7; kernel_rfl
theorem F7_eq0 (rc : Rec) (md : Md) (a0_0 : Int) (a0_1 : Int) (a0_2 : Int) (a1 : Value) (h0 : Heap) : callStep0 Try.prog cfg rc md 7 [(.agg #[(.int .i64 a0_0), (.int .i64 a0_1), (.int .i64 a0_2)]), a1] h0 = F7 rc ⟨md.ro, h0.length⟩ a0_0 a0_1 a0_2 a1 h0 := by
  rw [F7_h0, exec_holes [([1, 1, 1, 1, 1, 0, 1, 0], 0)] (by kernel_rfl), F7_h1, show (goX Try.prog cfg rc ⟨md.ro, h0.length⟩ 80 (bodyOf Try.prog 7) [([1, 1, 1, 1, 1, 0, 1, 0], 0)] (retK Try.prog cfg 7 (rsOf Try.prog 7) h0)) 0 = _ from J7_0_cut rc ⟨md.ro, h0.length⟩ h0]
  exact F7_h2 rc _ a0_0 a0_1 a0_2 a1 h0
theorem F7_eq (rc : Rec) (md : Md) (a0_0 : Int) (a0_1 : Int) (a0_2 : Int) (a1 : Value) (h0 : Heap) : callStep Try.prog cfg rc md 7 [(.agg #[(.int .i64 a0_0), (.int .i64 a0_1), (.int .i64 a0_2)]), a1] h0 = F7 rc ⟨md.ro, h0.length⟩ a0_0 a0_1 a0_2 a1 h0 := (callStep_ne (by kernel_rfl)).trans (F7_eq0 rc md a0_0 a0_1 a0_2 a1 h0)

/-- tombolo/tombololaw15.BirthDraws -/
noncomputable def J9_1 (rc : Rec) (md : Md) (h0 : Heap) (s5 : Value) (s7 : Value) (h : Heap) : Option (Value × Heap) :=
  cl (rc md 34 [s5, s7] h) fun v1 h2 =>
  cBn v1 fun b3 =>
  (bif wantV (.bool b3) true then
  cl (rc md 24 [] h2) fun v4 h5 =>
  cBn v4 fun b6 =>
  some ((.bool b6), h5)
  else some (undef, h2)).bind fun p7 =>
  cBn (bif b3 then p7.1 else (.bool false)) fun b8 =>
  some ((.bool b8), List.take h0.length p7.2)
theorem J9_1_at (rc : Rec) (md : Md) (h0 : Heap) (t : T) (h : Heap) : cut Try.prog cfg rc md 93 (bodyOf Try.prog 9) [1, 1, 1, 1, 1, 1, 1] (retK Try.prog cfg 9 (rsOf Try.prog 9) h0) t h = J9_1 rc md h0 (t 5) (t 7) h := by kernel_rfl
theorem J9_1_cut (rc : Rec) (md : Md) (h0 : Heap) : cut Try.prog cfg rc md 93 (bodyOf Try.prog 9) [1, 1, 1, 1, 1, 1, 1] (retK Try.prog cfg 9 (rsOf Try.prog 9) h0) = fun t h => J9_1 rc md h0 (t 5) (t 7) h := funext fun t => funext fun h => J9_1_at rc md h0 t h
noncomputable def Jk9_0 (rc : Rec) (md : Md) (h0 : Heap) (e : Exit) (s2 : Value) (s4 : Value) (s5 : Value) (s7 : Value) (s11 : Value) (h : Heap) : Option (Value × Heap) :=
  match e with
  | .normal =>
    J9_1 rc md h0 s5 s7 h
  | .exit j =>
    bif Nat.beq j 0 then
      J9_1 rc md h0 s5 s7 h
    else
      none
  | .ret =>
    fin1 h0 s4 h
  | .goto l => none
  | .panic ps => none
  | .outgrown => none
noncomputable def Jk9_0H (rc : Rec) (md : Md) (h0 : Heap) (X1 : T → Heap → Option (Value × Heap)) (e : Exit) (t : T) (h : Heap) : Option (Value × Heap) :=
  match e with
  | .normal =>
    X1 t h
  | .exit j =>
    bif Nat.beq j 0 then
      X1 t h
    else
      none
  | .ret =>
    fin1 h0 (t 4) h
  | .goto l => none
  | .panic ps => none
  | .outgrown => none
theorem Jk9_0_h1 (rc : Rec) (md : Md) (h0 : Heap) (X : Nat → T → Heap → Option (Value × Heap)) (e : Exit) (t : T) (h : Heap) : kAtG Try.prog cfg X rc md 93 (replS (bodyOf Try.prog 9) [([1, 1, 1, 1, 1, 1, 1], 1)]) [1, 1, 1, 1, 1, 1, 0, 1, 0] (retK Try.prog cfg 9 (rsOf Try.prog 9) h0) e t h = Jk9_0H rc md h0 (X 1) e t h := by cases e <;> kernel_rfl
theorem Jk9_0_h2 (rc : Rec) (md : Md) (h0 : Heap) (e : Exit) (t : T) (h : Heap) : Jk9_0H rc md h0 (fun t h => J9_1 rc md h0 (t 5) (t 7) h) e t h = Jk9_0 rc md h0 e (t 2) (t 4) (t 5) (t 7) (t 11) h := by cases e <;> (unfold Jk9_0H Jk9_0; kernel_rfl)
theorem Jk9_0_at (rc : Rec) (md : Md) (h0 : Heap) (e : Exit) (t : T) (h : Heap) : kAt Try.prog cfg rc md 93 (bodyOf Try.prog 9) [1, 1, 1, 1, 1, 1, 0, 1, 0] (retK Try.prog cfg 9 (rsOf Try.prog 9) h0) e t h = Jk9_0 rc md h0 e (t 2) (t 4) (t 5) (t 7) (t 11) h := by
  rw [kAt_holes [([1, 1, 1, 1, 1, 1, 1], 1)] [1, 1, 1, 1, 1, 1, 0, 1, 0] (by kernel_rfl), Jk9_0_h1, show (goX Try.prog cfg rc md 93 (bodyOf Try.prog 9) [([1, 1, 1, 1, 1, 1, 1], 1)] (retK Try.prog cfg 9 (rsOf Try.prog 9) h0)) 1 = _ from J9_1_cut rc md h0]
  exact Jk9_0_h2 rc md h0 e t h
/-- a round -/
noncomputable def Jr9_0 (rc : Rec) (md : Md) (s2 : Value) (s4 : Value) (s5 : Value) (s7 : Value) (s11 : Value) (h : Heap) : Option (((Value × Value × Value × Value × Value) × Heap) ⊕ (Exit × (Value × Value × Value × Value × Value) × Heap)) :=
  ldN 3 s2 h fun v1 =>
  cl (rc md 35 [v1] h) fun v2 h3 =>
  cIn .i64 v2 fun n4 =>
  aBin Try.prog .leq 3 s11 (.int .i64 n4) fun v5 =>
  cBn v5 fun b6 =>
  bif b6 then
    ldN 3 s2 h3 fun v7 =>
    cl (rc md 37 [v7, s11, (.int .i64 5)] h3) fun v8 h9 =>
    cIn .i64 v8 fun n10 =>
    cl (rc md 36 [s5, (.int .i64 n10), (.int .u64 0)] h9) fun v11 h12 =>
    cIn .i64 v11 fun n13 =>
    aBin Try.prog .add 3 s11 (.int .i64 1) fun v14 =>
    some (.inl ((s2, s4, s5, s7, v14), h12))
  else
    some (.inr ((.exit 0), (s2, s4, s5, s7, s11), h3))
theorem Jr9_0_at (rc : Rec) (md : Md) (t : T) (h : Heap) : exec Try.prog cfg rc md 93 (sub (bodyOf Try.prog 9) [1, 1, 1, 1, 1, 1, 0, 1, 0, 0]) (rndK (fun t => (t 2, t 4, t 5, t 7, t 11))) t h = Jr9_0 rc md (t 2) (t 4) (t 5) (t 7) (t 11) h := by kernel_rfl
noncomputable def J9_0 (rc : Rec) (md : Md) (h0 : Heap) (s2 : Value) (s4 : Value) (s5 : Value) (s7 : Value) (s11 : Value) (h : Heap) : Option (Value × Heap) :=
  runL (fun x : (Value × Value × Value × Value × Value) × Heap => Jr9_0 rc md x.1.1 x.1.2.1 x.1.2.2.1 x.1.2.2.2.1 x.1.2.2.2.2 x.2) (fun e (s : Value × Value × Value × Value × Value) h => Jk9_0 rc md h0 e s.1 s.2.1 s.2.2.1 s.2.2.2.1 s.2.2.2.2 h) (s2, s4, s5, s7, s11) h
theorem J9_0_step (rc : Rec) (md : Md) (h0 : Heap) (s2 : Value) (s4 : Value) (s5 : Value) (s7 : Value) (s11 : Value) (h : Heap) : J9_0 rc md h0 s2 s4 s5 s7 s11 h = (Jr9_0 rc md s2 s4 s5 s7 s11 h).bind fun x => match x with
    | .inl (s, h) => J9_0 rc md h0 s.1 s.2.1 s.2.2.1 s.2.2.2.1 s.2.2.2.2 h
    | .inr (e, s, h) => Jk9_0 rc md h0 e s.1 s.2.1 s.2.2.1 s.2.2.2.1 s.2.2.2.2 h := by
  unfold J9_0
  rw [runL_eq]
  refine congrArg (Option.bind _) (funext fun x => ?_)
  rcases x with ⟨s, h⟩ | ⟨e, s, h⟩ <;> rfl
theorem J9_0_cut (rc : Rec) (md : Md) (h0 : Heap) : cut Try.prog cfg rc md 93 (bodyOf Try.prog 9) [1, 1, 1, 1, 1, 1, 0, 1, 0] (retK Try.prog cfg 9 (rsOf Try.prog 9) h0) = fun t h => J9_0 rc md h0 (t 2) (t 4) (t 5) (t 7) (t 11) h := by
  funext t h
  have e : sub (bodyOf Try.prog 9) [1, 1, 1, 1, 1, 1, 0, 1, 0] = .loop (sub (bodyOf Try.prog 9) [1, 1, 1, 1, 1, 1, 0, 1, 0, 0]) := by kernel_rfl
  unfold cut
  rw [e]
  exact loop_eq (by kernel_rfl) (fun t => (t 2, t 4, t 5, t 7, t 11)) (fun x : (Value × Value × Value × Value × Value) × Heap => Jr9_0 rc md x.1.1 x.1.2.1 x.1.2.2.1 x.1.2.2.2.1 x.1.2.2.2.2 x.2) (fun t h => Jr9_0_at rc md t h) (fun e (s : Value × Value × Value × Value × Value) h => Jk9_0 rc md h0 e s.1 s.2.1 s.2.2.1 s.2.2.2.1 s.2.2.2.2 h) (fun e t h => Jk9_0_at rc md h0 e t h) t h
noncomputable def F9 (rc : Rec) (md : Md) (a0_0 : Int) (a0_1 : Int) (a0_2 : Int) (a1 : Value) (h0 : Heap) : Option (Value × Heap) :=
  let h1 : Heap := h0 ++ [.own [(.int .i64 a0_0), (.int .i64 a0_1), (.int .i64 a0_2)]]
  ldN 3 (.pointer (some ⟨h0.length, 0, none⟩)) h1 fun v2 =>
  cl (rc md 23 [v2] h1) fun v3 h4 =>
  cl (rc md 22 [v3] h4) fun v5 h6 =>
  cBn v5 fun b7 =>
  (bif wantV (.bool (!b7)) false then
  some (a1, h6)
  else some (undef, h6)).bind fun p8 =>
  (bif wantV (.bool (!b7)) false then
  lenS p8.1 fun v9 =>
  cIn .i64 v9 fun n10 =>
  some ((.int .i64 n10), p8.2)
  else some (undef, p8.2)).bind fun p11 =>
  (bif wantV (.bool (!b7)) false then
  aBin Try.prog .lss 3 p11.1 (.int .i64 1) fun v12 =>
  some (v12, p11.2)
  else some (undef, p11.2)).bind fun p13 =>
  cBn (bif !b7 then (.bool true) else p13.1) fun b14 =>
  (bif wantV (.bool b14) false then
  some (a1, p13.2)
  else some (undef, p13.2)).bind fun p15 =>
  (bif wantV (.bool b14) false then
  lenS p15.1 fun v16 =>
  cIn .i64 v16 fun n17 =>
  some ((.int .i64 n17), p15.2)
  else some (undef, p15.2)).bind fun p18 =>
  (bif wantV (.bool b14) false then
  aBin Try.prog .gtr 3 p18.1 (.int .i64 128) fun v19 =>
  some (v19, p18.2)
  else some (undef, p18.2)).bind fun p20 =>
  cBn (bif b14 then (.bool true) else p20.1) fun b21 =>
  bif b21 then
    cl (rc md 24 [] p20.2) fun v22 h23 =>
    cBn v22 fun b24 =>
    some ((.bool b24), List.take h0.length h23)
  else
    ldN 3 (.pointer (some ⟨h0.length, 0, none⟩)) p20.2 fun v25 =>
    cl (rc md 21 [v25, a1] p20.2) fun v26 h27 =>
    exT v26 0 fun v28 =>
    exT v26 1 fun v29 =>
    cIn .i64 v29 fun n30 =>
    ldN 3 (.pointer (some ⟨h0.length, 0, none⟩)) h27 fun v31 =>
    cl (rc md 21 [v31, (.slice none 0 0)] h27) fun v32 h33 =>
    exT v32 0 fun v34 =>
    exT v32 1 fun v35 =>
    cIn .i64 v35 fun n36 =>
    ldN 3 (.pointer (some ⟨h0.length, 0, none⟩)) h33 fun v37 =>
    let h38 : Heap := h33 ++ [.own []]
    cLE true (fun hq => ldN 3 (.pointer (some ⟨h0.length, 0, none⟩)) hq some) v37 h33 h38 <|
    aBuiltin Try.prog md .append #[50, 50] [(.slice (some ⟨h33.length, 0, none⟩) 0 1), a1] h38 fun v39 h40 =>
    cLE true (fun hq => ldN 3 (.pointer (some ⟨h0.length, 0, none⟩)) hq some) v37 h38 h40 <|
    aBuiltin Try.prog md .append #[50, 50] [v39, a1] h40 fun v41 h42 =>
    cLE true (fun hq => ldN 3 (.pointer (some ⟨h0.length, 0, none⟩)) hq some) v37 h40 h42 <|
    cl (rc md 21 [v37, v41] h42) fun v43 h44 =>
    exT v43 0 fun v45 =>
    exT v43 1 fun v46 =>
    cIn .i64 v46 fun n47 =>
    (bif wantV (.bool (n30 != 0)) false then
    some ((.int .i64 n36), h44)
    else some (undef, h44)).bind fun p48 =>
    (bif wantV (.bool (n30 != 0)) false then
    aBin Try.prog .neq 25 p48.1 (.int .i64 0) fun v49 =>
    some (v49, p48.2)
    else some (undef, p48.2)).bind fun p50 =>
    cBn (bif (n30 != 0) then (.bool true) else p50.1) fun b51 =>
    (bif wantV (.bool b51) false then
    some ((.int .i64 n47), p50.2)
    else some (undef, p50.2)).bind fun p52 =>
    (bif wantV (.bool b51) false then
    aBin Try.prog .neq 25 p52.1 (.int .i64 0) fun v53 =>
    some (v53, p52.2)
    else some (undef, p52.2)).bind fun p54 =>
    cBn (bif b51 then (.bool true) else p54.1) fun b55 =>
    (bif wantV (.bool b55) false then
    some (v28, p54.2)
    else some (undef, p54.2)).bind fun p56 =>
    (bif wantV (.bool b55) false then
    aBin Try.prog .eql 51 p56.1 (.pointer none) fun v57 =>
    some (v57, p56.2)
    else some (undef, p56.2)).bind fun p58 =>
    cBn (bif b55 then (.bool true) else p58.1) fun b59 =>
    (bif wantV (.bool b59) false then
    some (v34, p58.2)
    else some (undef, p58.2)).bind fun p60 =>
    (bif wantV (.bool b59) false then
    aBin Try.prog .eql 51 p60.1 (.pointer none) fun v61 =>
    some (v61, p60.2)
    else some (undef, p60.2)).bind fun p62 =>
    cBn (bif b59 then (.bool true) else p62.1) fun b63 =>
    (bif wantV (.bool b63) false then
    some (v45, p62.2)
    else some (undef, p62.2)).bind fun p64 =>
    (bif wantV (.bool b63) false then
    aBin Try.prog .eql 51 p64.1 (.pointer none) fun v65 =>
    some (v65, p64.2)
    else some (undef, p64.2)).bind fun p66 =>
    cBn (bif b63 then (.bool true) else p66.1) fun b67 =>
    (bif wantV (.bool b67) false then
    some (v28, p66.2)
    else some (undef, p66.2)).bind fun p68 =>
    (bif wantV (.bool b67) false then
    some (v45, p68.2)
    else some (undef, p68.2)).bind fun p69 =>
    (bif wantV (.bool b67) false then
    cl (rc md 34 [p68.1, p69.1] p69.2) fun v70 h71 =>
    cBn v70 fun b72 =>
    some ((.bool b72), h71)
    else some (undef, p69.2)).bind fun p73 =>
    (bif wantV (.bool b67) false then
    aUn .not p73.1 fun v74 =>
    some (v74, p73.2)
    else some (undef, p73.2)).bind fun p75 =>
    cBn (bif b67 then (.bool true) else p75.1) fun b76 =>
    bif b76 then
      some ((.bool false), List.take h0.length p75.2)
    else
      J9_0 rc md h0 (.pointer (some ⟨h0.length, 0, none⟩)) (.bool false) v28 v34 (.int .i64 1) p75.2
noncomputable def F9H (rc : Rec) (md : Md) (X0 : T → Heap → Option (Value × Heap)) (a0_0 : Int) (a0_1 : Int) (a0_2 : Int) (a1 : Value) (h0 : Heap) : Option (Value × Heap) :=
  let h1 : Heap := h0 ++ [.own [(.int .i64 a0_0), (.int .i64 a0_1), (.int .i64 a0_2)]]
  ldN 3 (.pointer (some ⟨h0.length, 0, none⟩)) h1 fun v2 =>
  cl (rc md 23 [v2] h1) fun v3 h4 =>
  cl (rc md 22 [v3] h4) fun v5 h6 =>
  cBn v5 fun b7 =>
  (bif wantV (.bool (!b7)) false then
  some (a1, h6)
  else some (undef, h6)).bind fun p8 =>
  (bif wantV (.bool (!b7)) false then
  lenS p8.1 fun v9 =>
  cIn .i64 v9 fun n10 =>
  some ((.int .i64 n10), p8.2)
  else some (undef, p8.2)).bind fun p11 =>
  (bif wantV (.bool (!b7)) false then
  aBin Try.prog .lss 3 p11.1 (.int .i64 1) fun v12 =>
  some (v12, p11.2)
  else some (undef, p11.2)).bind fun p13 =>
  cBn (bif !b7 then (.bool true) else p13.1) fun b14 =>
  (bif wantV (.bool b14) false then
  some (a1, p13.2)
  else some (undef, p13.2)).bind fun p15 =>
  (bif wantV (.bool b14) false then
  lenS p15.1 fun v16 =>
  cIn .i64 v16 fun n17 =>
  some ((.int .i64 n17), p15.2)
  else some (undef, p15.2)).bind fun p18 =>
  (bif wantV (.bool b14) false then
  aBin Try.prog .gtr 3 p18.1 (.int .i64 128) fun v19 =>
  some (v19, p18.2)
  else some (undef, p18.2)).bind fun p20 =>
  cBn (bif b14 then (.bool true) else p20.1) fun b21 =>
  bif b21 then
    cl (rc md 24 [] p20.2) fun v22 h23 =>
    cBn v22 fun b24 =>
    some ((.bool b24), List.take h0.length h23)
  else
    ldN 3 (.pointer (some ⟨h0.length, 0, none⟩)) p20.2 fun v25 =>
    cl (rc md 21 [v25, a1] p20.2) fun v26 h27 =>
    exT v26 0 fun v28 =>
    exT v26 1 fun v29 =>
    cIn .i64 v29 fun n30 =>
    ldN 3 (.pointer (some ⟨h0.length, 0, none⟩)) h27 fun v31 =>
    cl (rc md 21 [v31, (.slice none 0 0)] h27) fun v32 h33 =>
    exT v32 0 fun v34 =>
    exT v32 1 fun v35 =>
    cIn .i64 v35 fun n36 =>
    ldN 3 (.pointer (some ⟨h0.length, 0, none⟩)) h33 fun v37 =>
    let h38 : Heap := h33 ++ [.own []]
    cLE true (fun hq => ldN 3 (.pointer (some ⟨h0.length, 0, none⟩)) hq some) v37 h33 h38 <|
    aBuiltin Try.prog md .append #[50, 50] [(.slice (some ⟨h33.length, 0, none⟩) 0 1), a1] h38 fun v39 h40 =>
    cLE true (fun hq => ldN 3 (.pointer (some ⟨h0.length, 0, none⟩)) hq some) v37 h38 h40 <|
    aBuiltin Try.prog md .append #[50, 50] [v39, a1] h40 fun v41 h42 =>
    cLE true (fun hq => ldN 3 (.pointer (some ⟨h0.length, 0, none⟩)) hq some) v37 h40 h42 <|
    cl (rc md 21 [v37, v41] h42) fun v43 h44 =>
    exT v43 0 fun v45 =>
    exT v43 1 fun v46 =>
    cIn .i64 v46 fun n47 =>
    (bif wantV (.bool (n30 != 0)) false then
    some ((.int .i64 n36), h44)
    else some (undef, h44)).bind fun p48 =>
    (bif wantV (.bool (n30 != 0)) false then
    aBin Try.prog .neq 25 p48.1 (.int .i64 0) fun v49 =>
    some (v49, p48.2)
    else some (undef, p48.2)).bind fun p50 =>
    cBn (bif (n30 != 0) then (.bool true) else p50.1) fun b51 =>
    (bif wantV (.bool b51) false then
    some ((.int .i64 n47), p50.2)
    else some (undef, p50.2)).bind fun p52 =>
    (bif wantV (.bool b51) false then
    aBin Try.prog .neq 25 p52.1 (.int .i64 0) fun v53 =>
    some (v53, p52.2)
    else some (undef, p52.2)).bind fun p54 =>
    cBn (bif b51 then (.bool true) else p54.1) fun b55 =>
    (bif wantV (.bool b55) false then
    some (v28, p54.2)
    else some (undef, p54.2)).bind fun p56 =>
    (bif wantV (.bool b55) false then
    aBin Try.prog .eql 51 p56.1 (.pointer none) fun v57 =>
    some (v57, p56.2)
    else some (undef, p56.2)).bind fun p58 =>
    cBn (bif b55 then (.bool true) else p58.1) fun b59 =>
    (bif wantV (.bool b59) false then
    some (v34, p58.2)
    else some (undef, p58.2)).bind fun p60 =>
    (bif wantV (.bool b59) false then
    aBin Try.prog .eql 51 p60.1 (.pointer none) fun v61 =>
    some (v61, p60.2)
    else some (undef, p60.2)).bind fun p62 =>
    cBn (bif b59 then (.bool true) else p62.1) fun b63 =>
    (bif wantV (.bool b63) false then
    some (v45, p62.2)
    else some (undef, p62.2)).bind fun p64 =>
    (bif wantV (.bool b63) false then
    aBin Try.prog .eql 51 p64.1 (.pointer none) fun v65 =>
    some (v65, p64.2)
    else some (undef, p64.2)).bind fun p66 =>
    cBn (bif b63 then (.bool true) else p66.1) fun b67 =>
    (bif wantV (.bool b67) false then
    some (v28, p66.2)
    else some (undef, p66.2)).bind fun p68 =>
    (bif wantV (.bool b67) false then
    some (v45, p68.2)
    else some (undef, p68.2)).bind fun p69 =>
    (bif wantV (.bool b67) false then
    cl (rc md 34 [p68.1, p69.1] p69.2) fun v70 h71 =>
    cBn v70 fun b72 =>
    some ((.bool b72), h71)
    else some (undef, p69.2)).bind fun p73 =>
    (bif wantV (.bool b67) false then
    aUn .not p73.1 fun v74 =>
    some (v74, p73.2)
    else some (undef, p73.2)).bind fun p75 =>
    cBn (bif b67 then (.bool true) else p75.1) fun b76 =>
    bif b76 then
      some ((.bool false), List.take h0.length p75.2)
    else
      X0 (upd (upd (upd (upd (upd (upd (upd (upd (upd (upd (upd (upd (upd (upd (upd (upd (upd (upd (upd (upd (upd (upd (upd (upd (upd (upd (upd (upd (upd (upd (upd (upd (upd (upd (upd (upd (upd (upd (upd (upd (upd (upd (upd (upd (upd (upd (upd (upd (upd (upd (upd (upd (upd (upd (upd (upd (upd (upd (upd (upd (upd (upd (upd (upd (upd (upd (upd (upd (upd (upd (upd (upd (args0 [(.agg #[(.int .i64 a0_0), (.int .i64 a0_1), (.int .i64 a0_2)]), a1]) 2 (.pointer (some ⟨h0.length, 0, none⟩))) 4 (.bool false)) 12 v2) 13 v3) 14 (.bool b7)) 15 (.bool (!b7))) 16 (.bool (!b7))) 17 p8.1) 18 p11.1) 19 p13.1) 20 (.bool b14)) 21 (.bool b14)) 22 p15.1) 23 p18.1) 24 p20.1) 25 (.bool b21)) 28 v25) 29 a1) 30 v26) 27 v26) 31 v28) 32 (.int .i64 n30)) 5 v28) 6 (.int .i64 n30)) 34 v31) 35 v32) 33 v32) 36 v34) 37 (.int .i64 n36)) 7 v34) 8 (.int .i64 n36)) 39 v37) 40 (.slice (some ⟨h33.length, 0, none⟩) 0 1)) 41 a1) 42 v39) 43 a1) 44 v41) 45 v43) 38 v43) 46 v45) 47 (.int .i64 n47)) 9 v45) 10 (.int .i64 n47)) 48 (.int .i64 n30)) 49 (.bool (n30 != 0))) 50 (.bool (n30 != 0))) 51 p48.1) 52 p50.1) 53 (.bool b51)) 54 (.bool b51)) 55 p52.1) 56 p54.1) 57 (.bool b55)) 58 (.bool b55)) 59 p56.1) 60 p58.1) 61 (.bool b59)) 62 (.bool b59)) 63 p60.1) 64 p62.1) 65 (.bool b63)) 66 (.bool b63)) 67 p64.1) 68 p66.1) 69 (.bool b67)) 70 (.bool b67)) 71 p68.1) 72 p69.1) 73 p73.1) 74 p75.1) 75 (.bool b76)) 11 (.int .i64 1)) p75.2
theorem F9_h0 (rc : Rec) (md : Md) (a0_0 : Int) (a0_1 : Int) (a0_2 : Int) (a1 : Value) (h0 : Heap) : callStep0 Try.prog cfg rc md 9 [(.agg #[(.int .i64 a0_0), (.int .i64 a0_1), (.int .i64 a0_2)]), a1] h0 = exec Try.prog cfg rc ⟨md.ro, h0.length⟩ 93 (bodyOf Try.prog 9) (retK Try.prog cfg 9 (rsOf Try.prog 9) h0) (args0 [(.agg #[(.int .i64 a0_0), (.int .i64 a0_1), (.int .i64 a0_2)]), a1]) h0 := callStep0_run (by kernel_rfl) (by kernel_rfl) (by kernel_rfl)
theorem F9_h1 (rc : Rec) (md : Md) (X : Nat → T → Heap → Option (Value × Heap)) (a0_0 : Int) (a0_1 : Int) (a0_2 : Int) (a1 : Value) (h0 : Heap) : execG Try.prog cfg X rc md 93 (replS (bodyOf Try.prog 9) [([1, 1, 1, 1, 1, 1, 0, 1, 0], 0), ([1, 1, 1, 1, 1, 1, 1], 1)]) (retK Try.prog cfg 9 (rsOf Try.prog 9) h0) (args0 [(.agg #[(.int .i64 a0_0), (.int .i64 a0_1), (.int .i64 a0_2)]), a1]) h0 = F9H rc md (X 0) a0_0 a0_1 a0_2 a1 h0 := by kernel_rfl
theorem F9_h2 (rc : Rec) (md : Md) (a0_0 : Int) (a0_1 : Int) (a0_2 : Int) (a1 : Value) (h0 : Heap) : F9H rc md (fun t h => J9_0 rc md h0 (t 2) (t 4) (t 5) (t 7) (t 11) h) a0_0 a0_1 a0_2 a1 h0 = F9 rc md a0_0 a0_1 a0_2 a1 h0 := by unfold F9H F9; kernel_rfl
theorem F9_eq0 (rc : Rec) (md : Md) (a0_0 : Int) (a0_1 : Int) (a0_2 : Int) (a1 : Value) (h0 : Heap) : callStep0 Try.prog cfg rc md 9 [(.agg #[(.int .i64 a0_0), (.int .i64 a0_1), (.int .i64 a0_2)]), a1] h0 = F9 rc ⟨md.ro, h0.length⟩ a0_0 a0_1 a0_2 a1 h0 := by
  rw [F9_h0, exec_holes [([1, 1, 1, 1, 1, 1, 0, 1, 0], 0), ([1, 1, 1, 1, 1, 1, 1], 1)] (by kernel_rfl), F9_h1, show (goX Try.prog cfg rc ⟨md.ro, h0.length⟩ 93 (bodyOf Try.prog 9) [([1, 1, 1, 1, 1, 1, 0, 1, 0], 0), ([1, 1, 1, 1, 1, 1, 1], 1)] (retK Try.prog cfg 9 (rsOf Try.prog 9) h0)) 0 = _ from J9_0_cut rc ⟨md.ro, h0.length⟩ h0]
  exact F9_h2 rc _ a0_0 a0_1 a0_2 a1 h0
theorem F9_eq (rc : Rec) (md : Md) (a0_0 : Int) (a0_1 : Int) (a0_2 : Int) (a1 : Value) (h0 : Heap) : callStep Try.prog cfg rc md 9 [(.agg #[(.int .i64 a0_0), (.int .i64 a0_1), (.int .i64 a0_2)]), a1] h0 = F9 rc ⟨md.ro, h0.length⟩ a0_0 a0_1 a0_2 a1 h0 := (callStep_ne (by kernel_rfl)).trans (F9_eq0 rc md a0_0 a0_1 a0_2 a1 h0)

/-- tombolo/birth.New -/
noncomputable def Jk21_0 (rc : Rec) (md : Md) (h0 : Heap) (e : Exit) (s1 : Value) (s2 : Value) (s4 : Value) (s5 : Value) (s6 : Value) (s8 : Value) (s9 : Value) (h : Heap) : Option (Value × Heap) :=
  match e with
  | .normal =>
    some ((.tuple #[s6, (.int .i64 0)]), h)
  | .exit j =>
    bif Nat.beq j 1 then
      some ((.tuple #[s6, (.int .i64 0)]), h)
    else
      none
  | .ret =>
    some ((.tuple #[s4, s5]), h)
  | .goto l => none
  | .panic ps => none
  | .outgrown => none
theorem Jk21_0_at (rc : Rec) (md : Md) (h0 : Heap) (e : Exit) (t : T) (h : Heap) : kAt Try.prog cfg rc md 60 (bodyOf Try.prog 21) [1, 1, 1, 1, 1, 1, 0, 1, 0] (retK Try.prog cfg 21 (rsOf Try.prog 21) h0) e t h = Jk21_0 rc md h0 e (t 1) (t 2) (t 4) (t 5) (t 6) (t 8) (t 9) h := by cases e <;> kernel_rfl
noncomputable def J21_0b0 (rc : Rec) (md : Md) (s1 : Value) (s2 : Value) (s4 : Value) (s5 : Value) (s6 : Value) (s8 : Value) (s9 : Value) (s10 : Value) (h : Heap) : Option (((Value × Value × Value × Value × Value × Value × Value) × Heap) ⊕ (Exit × (Value × Value × Value × Value × Value × Value × Value) × Heap)) :=
  ldN 6 s8 h fun v1 =>
  cl (rc md 47 [v1, s9, s10] h) fun v2 h3 =>
  aBin Try.prog .add 3 s9 (.int .i64 1) fun v4 =>
  some (.inl ((s1, s2, s4, s5, s6, s8, v4), h3))
theorem J21_0b0_at (rc : Rec) (md : Md) (t : T) (h : Heap) : cut Try.prog cfg rc md 60 (sub (bodyOf Try.prog 21) [1, 1, 1, 1, 1, 1, 0, 1, 0, 0]) [1, 0, 0, 1, 1] (rndK (fun t => (t 1, t 2, t 4, t 5, t 6, t 8, t 9))) t h = J21_0b0 rc md (t 1) (t 2) (t 4) (t 5) (t 6) (t 8) (t 9) (t 10) h := by kernel_rfl
theorem J21_0b0_cut (rc : Rec) (md : Md) : cut Try.prog cfg rc md 60 (sub (bodyOf Try.prog 21) [1, 1, 1, 1, 1, 1, 0, 1, 0, 0]) [1, 0, 0, 1, 1] (rndK (fun t => (t 1, t 2, t 4, t 5, t 6, t 8, t 9))) = fun t h => J21_0b0 rc md (t 1) (t 2) (t 4) (t 5) (t 6) (t 8) (t 9) (t 10) h := funext fun t => funext fun h => J21_0b0_at rc md t h
/-- a round -/
noncomputable def Jr21_0 (rc : Rec) (md : Md) (s1 : Value) (s2 : Value) (s4 : Value) (s5 : Value) (s6 : Value) (s8 : Value) (s9 : Value) (h : Heap) : Option (((Value × Value × Value × Value × Value × Value × Value) × Heap) ⊕ (Exit × (Value × Value × Value × Value × Value × Value × Value) × Heap)) :=
  ldN 3 s2 h fun v1 =>
  cl (rc md 35 [v1] h) fun v2 h3 =>
  cIn .i64 v2 fun n4 =>
  aBin Try.prog .leq 3 s9 (.int .i64 n4) fun v5 =>
  cBn v5 fun b6 =>
  bif b6 then
    lenS s1 fun v7 =>
    cIn .i64 v7 fun n8 =>
    bif (decide (n8 > 0)) then
      lenS s1 fun v9 =>
      cIn .i64 v9 fun n10 =>
      aBin Try.prog .rem 3 s9 (.int .i64 n10) fun v11 =>
      ixSV 1 s1 v11 fun v12 =>
      ld1 v12 h3 fun v13 =>
      cIn .u64 v13 fun n14 =>
      J21_0b0 rc md s1 s2 s4 s5 s6 s8 s9 (.int .u64 n14) h3
    else
      J21_0b0 rc md s1 s2 s4 s5 s6 s8 s9 (.int .u64 0) h3
  else
    some (.inr ((.exit 1), (s1, s2, s4, s5, s6, s8, s9), h3))
noncomputable def Jr21_0H (rc : Rec) (md : Md) (X0 : T → Heap → Option (((Value × Value × Value × Value × Value × Value × Value) × Heap) ⊕ (Exit × (Value × Value × Value × Value × Value × Value × Value) × Heap))) (t : T) (h : Heap) : Option (((Value × Value × Value × Value × Value × Value × Value) × Heap) ⊕ (Exit × (Value × Value × Value × Value × Value × Value × Value) × Heap)) :=
  ldN 3 (t 2) h fun v1 =>
  cl (rc md 35 [v1] h) fun v2 h3 =>
  cIn .i64 v2 fun n4 =>
  aBin Try.prog .leq 3 (t 9) (.int .i64 n4) fun v5 =>
  cBn v5 fun b6 =>
  bif b6 then
    lenS (t 1) fun v7 =>
    cIn .i64 v7 fun n8 =>
    bif (decide (n8 > 0)) then
      lenS (t 1) fun v9 =>
      cIn .i64 v9 fun n10 =>
      aBin Try.prog .rem 3 (t 9) (.int .i64 n10) fun v11 =>
      ixSV 1 (t 1) v11 fun v12 =>
      ld1 v12 h3 fun v13 =>
      cIn .u64 v13 fun n14 =>
      X0 (upd (upd (upd (upd (upd (upd (upd (upd (upd (upd (upd (upd (upd (upd (upd (upd t 39 (t 9)) 40 v1) 41 (.int .i64 n4)) 42 v5) 10 (.int .u64 0)) 45 (t 1)) 46 (.int .i64 n8)) 47 (.bool (decide (n8 > 0)))) 48 (t 1)) 49 (t 9)) 50 (t 1)) 51 (.int .i64 n10)) 52 v11) 53 v12) 54 (.int .u64 n14)) 10 (.int .u64 n14)) h3
    else
      X0 (upd (upd (upd (upd (upd (upd (upd (upd t 39 (t 9)) 40 v1) 41 (.int .i64 n4)) 42 v5) 10 (.int .u64 0)) 45 (t 1)) 46 (.int .i64 n8)) 47 (.bool (decide (n8 > 0)))) h3
  else
    some (.inr ((.exit 1), ((t 1), (t 2), (t 4), (t 5), (t 6), (t 8), (t 9)), h3))
theorem Jr21_0_h1 (rc : Rec) (md : Md) (X : Nat → T → Heap → Option (((Value × Value × Value × Value × Value × Value × Value) × Heap) ⊕ (Exit × (Value × Value × Value × Value × Value × Value × Value) × Heap))) (t : T) (h : Heap) : execG Try.prog cfg X rc md 60 (replS (sub (bodyOf Try.prog 21) [1, 1, 1, 1, 1, 1, 0, 1, 0, 0]) [([1, 0, 0, 1, 1], 0)]) (rndK (fun t => (t 1, t 2, t 4, t 5, t 6, t 8, t 9))) t h = Jr21_0H rc md (X 0) t h := by kernel_rfl
theorem Jr21_0_h2 (rc : Rec) (md : Md) (t : T) (h : Heap) : Jr21_0H rc md (fun t h => J21_0b0 rc md (t 1) (t 2) (t 4) (t 5) (t 6) (t 8) (t 9) (t 10) h) t h = Jr21_0 rc md (t 1) (t 2) (t 4) (t 5) (t 6) (t 8) (t 9) h := by unfold Jr21_0H Jr21_0; kernel_rfl
theorem Jr21_0_at (rc : Rec) (md : Md) (t : T) (h : Heap) : exec Try.prog cfg rc md 60 (sub (bodyOf Try.prog 21) [1, 1, 1, 1, 1, 1, 0, 1, 0, 0]) (rndK (fun t => (t 1, t 2, t 4, t 5, t 6, t 8, t 9))) t h = Jr21_0 rc md (t 1) (t 2) (t 4) (t 5) (t 6) (t 8) (t 9) h := by
  rw [exec_holes [([1, 0, 0, 1, 1], 0)] (by kernel_rfl), Jr21_0_h1, show (goX Try.prog cfg rc md 60 (sub (bodyOf Try.prog 21) [1, 1, 1, 1, 1, 1, 0, 1, 0, 0]) [([1, 0, 0, 1, 1], 0)] (rndK (fun t => (t 1, t 2, t 4, t 5, t 6, t 8, t 9)))) 0 = _ from J21_0b0_cut rc md]
  exact Jr21_0_h2 rc md t h
noncomputable def J21_0 (rc : Rec) (md : Md) (h0 : Heap) (s1 : Value) (s2 : Value) (s4 : Value) (s5 : Value) (s6 : Value) (s8 : Value) (s9 : Value) (h : Heap) : Option (Value × Heap) :=
  runL (fun x : (Value × Value × Value × Value × Value × Value × Value) × Heap => Jr21_0 rc md x.1.1 x.1.2.1 x.1.2.2.1 x.1.2.2.2.1 x.1.2.2.2.2.1 x.1.2.2.2.2.2.1 x.1.2.2.2.2.2.2 x.2) (fun e (s : Value × Value × Value × Value × Value × Value × Value) h => Jk21_0 rc md h0 e s.1 s.2.1 s.2.2.1 s.2.2.2.1 s.2.2.2.2.1 s.2.2.2.2.2.1 s.2.2.2.2.2.2 h) (s1, s2, s4, s5, s6, s8, s9) h
theorem J21_0_step (rc : Rec) (md : Md) (h0 : Heap) (s1 : Value) (s2 : Value) (s4 : Value) (s5 : Value) (s6 : Value) (s8 : Value) (s9 : Value) (h : Heap) : J21_0 rc md h0 s1 s2 s4 s5 s6 s8 s9 h = (Jr21_0 rc md s1 s2 s4 s5 s6 s8 s9 h).bind fun x => match x with
    | .inl (s, h) => J21_0 rc md h0 s.1 s.2.1 s.2.2.1 s.2.2.2.1 s.2.2.2.2.1 s.2.2.2.2.2.1 s.2.2.2.2.2.2 h
    | .inr (e, s, h) => Jk21_0 rc md h0 e s.1 s.2.1 s.2.2.1 s.2.2.2.1 s.2.2.2.2.1 s.2.2.2.2.2.1 s.2.2.2.2.2.2 h := by
  unfold J21_0
  rw [runL_eq]
  refine congrArg (Option.bind _) (funext fun x => ?_)
  rcases x with ⟨s, h⟩ | ⟨e, s, h⟩ <;> rfl
theorem J21_0_cut (rc : Rec) (md : Md) (h0 : Heap) : cut Try.prog cfg rc md 60 (bodyOf Try.prog 21) [1, 1, 1, 1, 1, 1, 0, 1, 0] (retK Try.prog cfg 21 (rsOf Try.prog 21) h0) = fun t h => J21_0 rc md h0 (t 1) (t 2) (t 4) (t 5) (t 6) (t 8) (t 9) h := by
  funext t h
  have e : sub (bodyOf Try.prog 21) [1, 1, 1, 1, 1, 1, 0, 1, 0] = .loop (sub (bodyOf Try.prog 21) [1, 1, 1, 1, 1, 1, 0, 1, 0, 0]) := by kernel_rfl
  unfold cut
  rw [e]
  exact loop_eq (by kernel_rfl) (fun t => (t 1, t 2, t 4, t 5, t 6, t 8, t 9)) (fun x : (Value × Value × Value × Value × Value × Value × Value) × Heap => Jr21_0 rc md x.1.1 x.1.2.1 x.1.2.2.1 x.1.2.2.2.1 x.1.2.2.2.2.1 x.1.2.2.2.2.2.1 x.1.2.2.2.2.2.2 x.2) (fun t h => Jr21_0_at rc md t h) (fun e (s : Value × Value × Value × Value × Value × Value × Value) h => Jk21_0 rc md h0 e s.1 s.2.1 s.2.2.1 s.2.2.2.1 s.2.2.2.2.1 s.2.2.2.2.2.1 s.2.2.2.2.2.2 h) (fun e t h => Jk21_0_at rc md h0 e t h) t h
noncomputable def F21 (rc : Rec) (md : Md) (a0_0 : Int) (a0_1 : Int) (a0_2 : Int) (a1 : Value) (h0 : Heap) : Option (Value × Heap) :=
  let h1 : Heap := h0 ++ [.own [(.int .i64 a0_0), (.int .i64 a0_1), (.int .i64 a0_2)]]
  ldN 3 (.pointer (some ⟨h0.length, 0, none⟩)) h1 fun v2 =>
  cl (rc md 44 [v2] h1) fun v3 h4 =>
  cBn v3 fun b5 =>
  bif !b5 then
    some ((.tuple #[(.pointer none), (.int .i64 11)]), h4)
  else
    lenS a1 fun v6 =>
    cIn .i64 v6 fun n7 =>
    bif (decide (n7 > 256)) then
      some ((.tuple #[(.pointer none), (.int .i64 12)]), h4)
    else
      ldN 3 (.pointer (some ⟨h0.length, 0, none⟩)) h4 fun v8 =>
      cl (rc md 28 [v8] h4) fun v9 h10 =>
      cIn .i64 v9 fun n11 =>
      cl (rc md 45 [(.int .i64 n11)] h10) fun v12 h13 =>
      exT v12 0 fun v14 =>
      exT v12 1 fun v15 =>
      cIn .i64 v15 fun n16 =>
      bif (n16 != 0) then
        some ((.tuple #[(.pointer none), (.int .i64 n16)]), h13)
      else
        cl (rc md 32 [v14] h13) fun v17 h18 =>
        ldN 3 (.pointer (some ⟨h0.length, 0, none⟩)) h18 fun v19 =>
        cl (rc md 46 [(.iface 73 v17), v19] h18) fun v20 h21 =>
        ldN 3 (.pointer (some ⟨h0.length, 0, none⟩)) h21 fun v22 =>
        cl (rc md 32 [v14] h21) fun v23 h24 =>
        aBuild Try.prog 95 [(0, v22), (1, (.iface 73 v23)), (2, (.agg #[(.int .i64 1), (.int .i64 0)]))] fun v25 =>
        let h26 : Heap := h24 ++ [.own [(.int .i64 0), (.int .i64 0), (.int .i64 0), .nilIface, (.int .i64 0), (.int .i64 0)]]
        cLE true (fun hq => cl (rc md 32 [v14] hq) fun vq _ => some vq) v23 h24 h26 <|
        cLE true (fun hq => ldN 3 (.pointer (some ⟨h0.length, 0, none⟩)) hq some) v22 h24 h26 <|
        st md 6 (.pointer (some ⟨h24.length, 0, none⟩)) v25 h26 fun h27 =>
        J21_0 rc md h0 a1 (.pointer (some ⟨h0.length, 0, none⟩)) (.pointer none) (.int .i64 0) v14 (.pointer (some ⟨h24.length, 0, none⟩)) (.int .i64 1) h27
noncomputable def F21H (rc : Rec) (md : Md) (X0 : T → Heap → Option (Value × Heap)) (a0_0 : Int) (a0_1 : Int) (a0_2 : Int) (a1 : Value) (h0 : Heap) : Option (Value × Heap) :=
  let h1 : Heap := h0 ++ [.own [(.int .i64 a0_0), (.int .i64 a0_1), (.int .i64 a0_2)]]
  ldN 3 (.pointer (some ⟨h0.length, 0, none⟩)) h1 fun v2 =>
  cl (rc md 44 [v2] h1) fun v3 h4 =>
  cBn v3 fun b5 =>
  bif !b5 then
    some ((.tuple #[(.pointer none), (.int .i64 11)]), h4)
  else
    lenS a1 fun v6 =>
    cIn .i64 v6 fun n7 =>
    bif (decide (n7 > 256)) then
      some ((.tuple #[(.pointer none), (.int .i64 12)]), h4)
    else
      ldN 3 (.pointer (some ⟨h0.length, 0, none⟩)) h4 fun v8 =>
      cl (rc md 28 [v8] h4) fun v9 h10 =>
      cIn .i64 v9 fun n11 =>
      cl (rc md 45 [(.int .i64 n11)] h10) fun v12 h13 =>
      exT v12 0 fun v14 =>
      exT v12 1 fun v15 =>
      cIn .i64 v15 fun n16 =>
      bif (n16 != 0) then
        some ((.tuple #[(.pointer none), (.int .i64 n16)]), h13)
      else
        cl (rc md 32 [v14] h13) fun v17 h18 =>
        ldN 3 (.pointer (some ⟨h0.length, 0, none⟩)) h18 fun v19 =>
        cl (rc md 46 [(.iface 73 v17), v19] h18) fun v20 h21 =>
        ldN 3 (.pointer (some ⟨h0.length, 0, none⟩)) h21 fun v22 =>
        cl (rc md 32 [v14] h21) fun v23 h24 =>
        aBuild Try.prog 95 [(0, v22), (1, (.iface 73 v23)), (2, (.agg #[(.int .i64 1), (.int .i64 0)]))] fun v25 =>
        let h26 : Heap := h24 ++ [.own [(.int .i64 0), (.int .i64 0), (.int .i64 0), .nilIface, (.int .i64 0), (.int .i64 0)]]
        cLE true (fun hq => cl (rc md 32 [v14] hq) fun vq _ => some vq) v23 h24 h26 <|
        cLE true (fun hq => ldN 3 (.pointer (some ⟨h0.length, 0, none⟩)) hq some) v22 h24 h26 <|
        st md 6 (.pointer (some ⟨h24.length, 0, none⟩)) v25 h26 fun h27 =>
        X0 (upd (upd (upd (upd (upd (upd (upd (upd (upd (upd (upd (upd (upd (upd (upd (upd (upd (upd (upd (upd (upd (upd (upd (upd (upd (upd (upd (upd (upd (upd (upd (upd (upd (upd (args0 [(.agg #[(.int .i64 a0_0), (.int .i64 a0_1), (.int .i64 a0_2)]), a1]) 2 (.pointer (some ⟨h0.length, 0, none⟩))) 4 (.pointer none)) 5 (.int .i64 0)) 12 v2) 13 (.bool b5)) 14 (.bool (!b5))) 11 (.bool (!b5))) 16 a1) 17 (.int .i64 n7)) 18 (.bool (decide (n7 > 256)))) 15 (.bool (decide (n7 > 256)))) 20 v8) 21 (.int .i64 n11)) 22 v12) 19 v12) 23 v14) 24 (.int .i64 n16)) 6 v14) 7 (.int .i64 n16)) 25 (.int .i64 n16)) 26 (.bool (n16 != 0))) 28 v14) 29 v17) 30 (.iface 73 v17)) 31 v19) 32 v20) 33 v22) 34 v14) 35 v23) 36 (.iface 73 v23)) 37 (.agg #[(.int .i64 1), (.int .i64 0)])) 38 v25) 8 (.pointer (some ⟨h24.length, 0, none⟩))) 9 (.int .i64 1)) h27
theorem F21_h0 (rc : Rec) (md : Md) (a0_0 : Int) (a0_1 : Int) (a0_2 : Int) (a1 : Value) (h0 : Heap) : callStep0 Try.prog cfg rc md 21 [(.agg #[(.int .i64 a0_0), (.int .i64 a0_1), (.int .i64 a0_2)]), a1] h0 = exec Try.prog cfg rc md 60 (bodyOf Try.prog 21) (retK Try.prog cfg 21 (rsOf Try.prog 21) h0) (args0 [(.agg #[(.int .i64 a0_0), (.int .i64 a0_1), (.int .i64 a0_2)]), a1]) h0 := callStep0_run (by kernel_rfl) (by kernel_rfl) (by kernel_rfl)
theorem F21_h1 (rc : Rec) (md : Md) (X : Nat → T → Heap → Option (Value × Heap)) (a0_0 : Int) (a0_1 : Int) (a0_2 : Int) (a1 : Value) (h0 : Heap) : execG Try.prog cfg X rc md 60 (replS (bodyOf Try.prog 21) [([1, 1, 1, 1, 1, 1, 0, 1, 0], 0)]) (retK Try.prog cfg 21 (rsOf Try.prog 21) h0) (args0 [(.agg #[(.int .i64 a0_0), (.int .i64 a0_1), (.int .i64 a0_2)]), a1]) h0 = F21H rc md (X 0) a0_0 a0_1 a0_2 a1 h0 := by kernel_rfl
theorem F21_h2 (rc : Rec) (md : Md) (a0_0 : Int) (a0_1 : Int) (a0_2 : Int) (a1 : Value) (h0 : Heap) : F21H rc md (fun t h => J21_0 rc md h0 (t 1) (t 2) (t 4) (t 5) (t 6) (t 8) (t 9) h) a0_0 a0_1 a0_2 a1 h0 = F21 rc md a0_0 a0_1 a0_2 a1 h0 := by unfold F21H F21; kernel_rfl
theorem F21_eq0 (rc : Rec) (md : Md) (a0_0 : Int) (a0_1 : Int) (a0_2 : Int) (a1 : Value) (h0 : Heap) : callStep0 Try.prog cfg rc md 21 [(.agg #[(.int .i64 a0_0), (.int .i64 a0_1), (.int .i64 a0_2)]), a1] h0 = F21 rc md a0_0 a0_1 a0_2 a1 h0 := by
  rw [F21_h0, exec_holes [([1, 1, 1, 1, 1, 1, 0, 1, 0], 0)] (by kernel_rfl), F21_h1, show (goX Try.prog cfg rc md 60 (bodyOf Try.prog 21) [([1, 1, 1, 1, 1, 1, 0, 1, 0], 0)] (retK Try.prog cfg 21 (rsOf Try.prog 21) h0)) 0 = _ from J21_0_cut rc md h0]
  exact F21_h2 rc _ a0_0 a0_1 a0_2 a1 h0
theorem F21_eq (rc : Rec) (md : Md) (a0_0 : Int) (a0_1 : Int) (a0_2 : Int) (a1 : Value) (h0 : Heap) : callStep Try.prog cfg rc md 21 [(.agg #[(.int .i64 a0_0), (.int .i64 a0_1), (.int .i64 a0_2)]), a1] h0 = F21 rc md a0_0 a0_1 a0_2 a1 h0 := (callStep_ne (by kernel_rfl)).trans (F21_eq0 rc md a0_0 a0_1 a0_2 a1 h0)

/-- tombolo/tombololaw15.ref -/
noncomputable def F23 (rc : Rec) (md : Md) (a0_0 : Int) (a0_1 : Int) (a0_2 : Int) (h0 : Heap) : Option (Value × Heap) :=
  let h1 : Heap := h0 ++ [.own [(.int .i64 a0_0), (.int .i64 a0_1), (.int .i64 a0_2)]]
  let h2 : Heap := h1 ++ [.own [(.int .i64 0), (.int .i64 0), (.int .i64 0)]]
  ld1 (.pointer (some ⟨h0.length, 0, none⟩)) h2 fun v3 =>
  cIn .i64 v3 fun n4 =>
  ld1 (.pointer (some ⟨h0.length, 1, none⟩)) h2 fun v5 =>
  cIn .i64 v5 fun n6 =>
  ld1 (.pointer (some ⟨h0.length, 2, none⟩)) h2 fun v7 =>
  cIn .i64 v7 fun n8 =>
  st md 3 (.pointer (some ⟨h1.length, 0, none⟩)) (.agg #[(.int .i64 n4), (.int .i64 n6), (.int .i64 n8)]) h2 fun h9 =>
  ldN 3 (.pointer (some ⟨h1.length, 0, none⟩)) h9 fun v10 =>
  fin2 h0 v10
theorem F23_eq0 (rc : Rec) (md : Md) (a0_0 : Int) (a0_1 : Int) (a0_2 : Int) (h0 : Heap) : callStep0 Try.prog cfg rc md 23 [(.agg #[(.int .i64 a0_0), (.int .i64 a0_1), (.int .i64 a0_2)])] h0 = F23 rc ⟨h0.length, h0.length⟩ a0_0 a0_1 a0_2 h0 := by kernel_rfl
theorem F23_eq (rc : Rec) (md : Md) (a0_0 : Int) (a0_1 : Int) (a0_2 : Int) (h0 : Heap) : callStep Try.prog cfg rc md 23 [(.agg #[(.int .i64 a0_0), (.int .i64 a0_1), (.int .i64 a0_2)])] h0 = alone h0 (F23 rc ⟨0, 0⟩ a0_0 a0_1 a0_2 []) := by
  have e : callStep Try.prog cfg rc md 23 [(.agg #[(.int .i64 a0_0), (.int .i64 a0_1), (.int .i64 a0_2)])] h0 = alone h0 (callStep0 Try.prog cfg rc ⟨0, 0⟩ 23 [(.agg #[(.int .i64 a0_0), (.int .i64 a0_1), (.int .i64 a0_2)])] []) := by kernel_rfl
  rw [e, F23_eq0]; rfl

/-- tombolo/tomboloref15.Cells -/
noncomputable def Jk25_0 (rc : Rec) (md : Md) (h0 : Heap) (e : Exit) (s1 : Value) (s2 : Value) (s4 : Value) (s5 : Value) (s6 : Value) (s7 : Value) (s8 : Value) (h : Heap) : Option (Value × Heap) :=
  match e with
  | .normal =>
    some (s7, h)
  | .exit j =>
    bif Nat.beq j 0 then
      some (s7, h)
    else
      none
  | .ret =>
    some (s4, h)
  | .goto l => none
  | .panic ps => none
  | .outgrown => none
theorem Jk25_0_at (rc : Rec) (md : Md) (h0 : Heap) (e : Exit) (t : T) (h : Heap) : kAt Try.prog cfg rc md 31 (bodyOf Try.prog 25) [1, 1, 1, 1, 0, 1, 0] (retK Try.prog cfg 25 (rsOf Try.prog 25) h0) e t h = Jk25_0 rc md h0 e (t 1) (t 2) (t 4) (t 5) (t 6) (t 7) (t 8) h := by cases e <;> kernel_rfl
/-- a round -/
noncomputable def Jr25_0 (rc : Rec) (md : Md) (s1 : Value) (s2 : Value) (s4 : Value) (s5 : Value) (s6 : Value) (s7 : Value) (s8 : Value) (h : Heap) : Option (((Value × Value × Value × Value × Value × Value × Value) × Heap) ⊕ (Exit × (Value × Value × Value × Value × Value × Value × Value) × Heap)) :=
  lenS s5 fun v1 =>
  cIn .i64 v1 fun n2 =>
  aBin Try.prog .lss 3 s8 (.int .i64 n2) fun v3 =>
  cBn v3 fun b4 =>
  bif b4 then
    ldN 3 s2 h fun v5 =>
    ixSV 4 s5 s8 fun v6 =>
    ldN 4 v6 h fun v7 =>
    cl (rc md 50 [v5, s1, v7, s6] h) fun v8 h9 =>
    cIn .u64 v8 fun n10 =>
    let h11 : Heap := h9 ++ [.own [(.int .u64 n10)]]
    aBuiltin Try.prog md .append #[50, 50] [s7, (.slice (some ⟨h9.length, 0, none⟩) 1 1)] h11 fun v12 h13 =>
    aBin Try.prog .add 3 s8 (.int .i64 1) fun v14 =>
    some (.inl ((s1, s2, s4, s5, s6, v12, v14), h13))
  else
    some (.inr ((.exit 0), (s1, s2, s4, s5, s6, s7, s8), h))
theorem Jr25_0_at (rc : Rec) (md : Md) (t : T) (h : Heap) : exec Try.prog cfg rc md 31 (sub (bodyOf Try.prog 25) [1, 1, 1, 1, 0, 1, 0, 0]) (rndK (fun t => (t 1, t 2, t 4, t 5, t 6, t 7, t 8))) t h = Jr25_0 rc md (t 1) (t 2) (t 4) (t 5) (t 6) (t 7) (t 8) h := by kernel_rfl
noncomputable def J25_0 (rc : Rec) (md : Md) (h0 : Heap) (s1 : Value) (s2 : Value) (s4 : Value) (s5 : Value) (s6 : Value) (s7 : Value) (s8 : Value) (h : Heap) : Option (Value × Heap) :=
  runL (fun x : (Value × Value × Value × Value × Value × Value × Value) × Heap => Jr25_0 rc md x.1.1 x.1.2.1 x.1.2.2.1 x.1.2.2.2.1 x.1.2.2.2.2.1 x.1.2.2.2.2.2.1 x.1.2.2.2.2.2.2 x.2) (fun e (s : Value × Value × Value × Value × Value × Value × Value) h => Jk25_0 rc md h0 e s.1 s.2.1 s.2.2.1 s.2.2.2.1 s.2.2.2.2.1 s.2.2.2.2.2.1 s.2.2.2.2.2.2 h) (s1, s2, s4, s5, s6, s7, s8) h
theorem J25_0_step (rc : Rec) (md : Md) (h0 : Heap) (s1 : Value) (s2 : Value) (s4 : Value) (s5 : Value) (s6 : Value) (s7 : Value) (s8 : Value) (h : Heap) : J25_0 rc md h0 s1 s2 s4 s5 s6 s7 s8 h = (Jr25_0 rc md s1 s2 s4 s5 s6 s7 s8 h).bind fun x => match x with
    | .inl (s, h) => J25_0 rc md h0 s.1 s.2.1 s.2.2.1 s.2.2.2.1 s.2.2.2.2.1 s.2.2.2.2.2.1 s.2.2.2.2.2.2 h
    | .inr (e, s, h) => Jk25_0 rc md h0 e s.1 s.2.1 s.2.2.1 s.2.2.2.1 s.2.2.2.2.1 s.2.2.2.2.2.1 s.2.2.2.2.2.2 h := by
  unfold J25_0
  rw [runL_eq]
  refine congrArg (Option.bind _) (funext fun x => ?_)
  rcases x with ⟨s, h⟩ | ⟨e, s, h⟩ <;> rfl
theorem J25_0_cut (rc : Rec) (md : Md) (h0 : Heap) : cut Try.prog cfg rc md 31 (bodyOf Try.prog 25) [1, 1, 1, 1, 0, 1, 0] (retK Try.prog cfg 25 (rsOf Try.prog 25) h0) = fun t h => J25_0 rc md h0 (t 1) (t 2) (t 4) (t 5) (t 6) (t 7) (t 8) h := by
  funext t h
  have e : sub (bodyOf Try.prog 25) [1, 1, 1, 1, 0, 1, 0] = .loop (sub (bodyOf Try.prog 25) [1, 1, 1, 1, 0, 1, 0, 0]) := by kernel_rfl
  unfold cut
  rw [e]
  exact loop_eq (by kernel_rfl) (fun t => (t 1, t 2, t 4, t 5, t 6, t 7, t 8)) (fun x : (Value × Value × Value × Value × Value × Value × Value) × Heap => Jr25_0 rc md x.1.1 x.1.2.1 x.1.2.2.1 x.1.2.2.2.1 x.1.2.2.2.2.1 x.1.2.2.2.2.2.1 x.1.2.2.2.2.2.2 x.2) (fun t h => Jr25_0_at rc md t h) (fun e (s : Value × Value × Value × Value × Value × Value × Value) h => Jk25_0 rc md h0 e s.1 s.2.1 s.2.2.1 s.2.2.2.1 s.2.2.2.2.1 s.2.2.2.2.2.1 s.2.2.2.2.2.2 h) (fun e t h => Jk25_0_at rc md h0 e t h) t h
noncomputable def F25 (rc : Rec) (md : Md) (a0_0 : Int) (a0_1 : Int) (a0_2 : Int) (a1 : Value) (h0 : Heap) : Option (Value × Heap) :=
  let h1 : Heap := h0 ++ [.own [(.int .i64 a0_0), (.int .i64 a0_1), (.int .i64 a0_2)]]
  ldN 3 (.pointer (some ⟨h0.length, 0, none⟩)) h1 fun v2 =>
  cl (rc md 48 [v2] h1) fun v3 h4 =>
  ldN 3 (.pointer (some ⟨h0.length, 0, none⟩)) h4 fun v5 =>
  cl (rc md 49 [v5] h4) fun v6 h7 =>
  J25_0 rc md h0 a1 (.pointer (some ⟨h0.length, 0, none⟩)) (.slice none 0 0) v3 v6 (.slice none 0 0) (.int .i64 0) h7
noncomputable def F25H (rc : Rec) (md : Md) (X0 : T → Heap → Option (Value × Heap)) (a0_0 : Int) (a0_1 : Int) (a0_2 : Int) (a1 : Value) (h0 : Heap) : Option (Value × Heap) :=
  let h1 : Heap := h0 ++ [.own [(.int .i64 a0_0), (.int .i64 a0_1), (.int .i64 a0_2)]]
  ldN 3 (.pointer (some ⟨h0.length, 0, none⟩)) h1 fun v2 =>
  cl (rc md 48 [v2] h1) fun v3 h4 =>
  ldN 3 (.pointer (some ⟨h0.length, 0, none⟩)) h4 fun v5 =>
  cl (rc md 49 [v5] h4) fun v6 h7 =>
  X0 (upd (upd (upd (upd (upd (upd (upd (upd (upd (upd (args0 [(.agg #[(.int .i64 a0_0), (.int .i64 a0_1), (.int .i64 a0_2)]), a1]) 2 (.pointer (some ⟨h0.length, 0, none⟩))) 4 (.slice none 0 0)) 9 v2) 10 v3) 5 v3) 11 v5) 12 v6) 6 v6) 7 (.slice none 0 0)) 8 (.int .i64 0)) h7
theorem F25_h0 (rc : Rec) (md : Md) (a0_0 : Int) (a0_1 : Int) (a0_2 : Int) (a1 : Value) (h0 : Heap) : callStep0 Try.prog cfg rc md 25 [(.agg #[(.int .i64 a0_0), (.int .i64 a0_1), (.int .i64 a0_2)]), a1] h0 = exec Try.prog cfg rc md 31 (bodyOf Try.prog 25) (retK Try.prog cfg 25 (rsOf Try.prog 25) h0) (args0 [(.agg #[(.int .i64 a0_0), (.int .i64 a0_1), (.int .i64 a0_2)]), a1]) h0 := callStep0_run (by kernel_rfl) (by kernel_rfl) (by kernel_rfl)
theorem F25_h1 (rc : Rec) (md : Md) (X : Nat → T → Heap → Option (Value × Heap)) (a0_0 : Int) (a0_1 : Int) (a0_2 : Int) (a1 : Value) (h0 : Heap) : execG Try.prog cfg X rc md 31 (replS (bodyOf Try.prog 25) [([1, 1, 1, 1, 0, 1, 0], 0)]) (retK Try.prog cfg 25 (rsOf Try.prog 25) h0) (args0 [(.agg #[(.int .i64 a0_0), (.int .i64 a0_1), (.int .i64 a0_2)]), a1]) h0 = F25H rc md (X 0) a0_0 a0_1 a0_2 a1 h0 := by kernel_rfl
theorem F25_h2 (rc : Rec) (md : Md) (a0_0 : Int) (a0_1 : Int) (a0_2 : Int) (a1 : Value) (h0 : Heap) : F25H rc md (fun t h => J25_0 rc md h0 (t 1) (t 2) (t 4) (t 5) (t 6) (t 7) (t 8) h) a0_0 a0_1 a0_2 a1 h0 = F25 rc md a0_0 a0_1 a0_2 a1 h0 := by unfold F25H F25; kernel_rfl
theorem F25_eq0 (rc : Rec) (md : Md) (a0_0 : Int) (a0_1 : Int) (a0_2 : Int) (a1 : Value) (h0 : Heap) : callStep0 Try.prog cfg rc md 25 [(.agg #[(.int .i64 a0_0), (.int .i64 a0_1), (.int .i64 a0_2)]), a1] h0 = F25 rc md a0_0 a0_1 a0_2 a1 h0 := by
  rw [F25_h0, exec_holes [([1, 1, 1, 1, 0, 1, 0], 0)] (by kernel_rfl), F25_h1, show (goX Try.prog cfg rc md 31 (bodyOf Try.prog 25) [([1, 1, 1, 1, 0, 1, 0], 0)] (retK Try.prog cfg 25 (rsOf Try.prog 25) h0)) 0 = _ from J25_0_cut rc md h0]
  exact F25_h2 rc _ a0_0 a0_1 a0_2 a1 h0
theorem F25_eq (rc : Rec) (md : Md) (a0_0 : Int) (a0_1 : Int) (a0_2 : Int) (a1 : Value) (h0 : Heap) : callStep Try.prog cfg rc md 25 [(.agg #[(.int .i64 a0_0), (.int .i64 a0_1), (.int .i64 a0_2)]), a1] h0 = F25 rc md a0_0 a0_1 a0_2 a1 h0 := (callStep_ne (by kernel_rfl)).trans (F25_eq0 rc md a0_0 a0_1 a0_2 a1 h0)

/-- tombolo/birth.node -/
noncomputable def J47_0 (rc : Rec) (md : Md) (h0 : Heap) (s1 : Value) (s3 : Value) (s6 : Value) (h : Heap) : Option (Value × Heap) :=
  fA 3 s3 fun v1 =>
  ld1 v1 h fun v2 =>
  fA 0 s3 fun v3 =>
  ldN 3 v3 h fun v4 =>
  cl (rc md 37 [v4, s1, (.int .i64 0)] h) fun v5 h6 =>
  cIn .i64 v5 fun n7 =>
  bif okNil Try.prog v2 then
  clI Try.prog rc md v2 "Store" [(.int .i64 n7), s6] h6 fun v8 h9 =>
  some ((.tuple #[]), List.take h0.length h9)
  else none
theorem J47_0_at (rc : Rec) (md : Md) (h0 : Heap) (t : T) (h : Heap) : cut Try.prog cfg rc md 56 (bodyOf Try.prog 47) [1, 1, 1, 1, 1, 1] (retK Try.prog cfg 47 (rsOf Try.prog 47) h0) t h = J47_0 rc md h0 (t 1) (t 3) (t 6) h := by kernel_rfl
theorem J47_0_cut (rc : Rec) (md : Md) (h0 : Heap) : cut Try.prog cfg rc md 56 (bodyOf Try.prog 47) [1, 1, 1, 1, 1, 1] (retK Try.prog cfg 47 (rsOf Try.prog 47) h0) = fun t h => J47_0 rc md h0 (t 1) (t 3) (t 6) h := funext fun t => funext fun h => J47_0_at rc md h0 t h
noncomputable def F47 (rc : Rec) (md : Md) (a0_0 : Int) (a0_1 : Int) (a0_2 : Int) (a0_3 : Value) (a0_4 : Int) (a0_5 : Int) (a1 : Int) (a2 : Int) (h0 : Heap) : Option (Value × Heap) :=
  let h1 : Heap := h0 ++ [.own [(.int .i64 a0_0), (.int .i64 a0_1), (.int .i64 a0_2), a0_3, (.int .i64 a0_4), (.int .i64 a0_5)]]
  ld1 (.pointer (some ⟨h0.length, 3, none⟩)) h1 fun v2 =>
  ldN 3 (.pointer (some ⟨h0.length, 0, none⟩)) h1 fun v3 =>
  cl (rc md 37 [v3, (.int .i64 a1), (.int .i64 5)] h1) fun v4 h5 =>
  cIn .i64 v4 fun n6 =>
  bif okNil Try.prog v2 then
  clI Try.prog rc md v2 "Store" [(.int .i64 n6), (.int .u64 a2)] h5 fun v7 h8 =>
  ldN 6 (.pointer (some ⟨h0.length, 0, none⟩)) h8 fun v9 =>
  cl (rc md 70 [v9, (.int .i64 a1)] h8) fun v10 h11 =>
  ldN 2 (.pointer (some ⟨h0.length, 4, none⟩)) h11 fun v12 =>
  ld1 (.pointer (some ⟨h0.length, 3, none⟩)) h11 fun v13 =>
  ldN 3 (.pointer (some ⟨h0.length, 0, none⟩)) h11 fun v14 =>
  cl (rc md 37 [v14, (.int .i64 a1), (.int .i64 2)] h11) fun v15 h16 =>
  cIn .i64 v15 fun n17 =>
  cl (rc md 71 [v12, v13, (.int .i64 n17)] h16) fun v18 h19 =>
  ldN 3 (.pointer (some ⟨h0.length, 0, none⟩)) h19 fun v20 =>
  cl (rc md 72 [v20, (.int .i64 a1)] h19) fun v21 h22 =>
  exT v21 0 fun v23 =>
  exT v21 1 fun v24 =>
  cBn v24 fun b25 =>
  let h26 : Heap := h22 ++ [.own [(.bool false), (.int .i64 0), (.int .i64 0), (.int .i64 0), (.int .i64 0)]]
  st md 5 (.pointer (some ⟨h22.length, 0, none⟩)) v23 h26 fun h27 =>
  ld1 (.pointer (some ⟨h22.length, 0, none⟩)) h27 fun v28 =>
  cBn v28 fun b29 =>
  (bif wantV (.bool (!b29)) true then
  some ((.pointer (some ⟨h22.length, 1, none⟩)), h27)
  else some (undef, h27)).bind fun p30 =>
  (bif wantV (.bool (!b29)) true then
  ld1 p30.1 p30.2 fun v31 =>
  cIn .i64 v31 fun n32 =>
  some ((.int .i64 n32), p30.2)
  else some (undef, p30.2)).bind fun p33 =>
  (bif wantV (.bool (!b29)) true then
  aBin Try.prog .eql 3 p33.1 (.int .i64 0) fun v34 =>
  some (v34, p33.2)
  else some (undef, p33.2)).bind fun p35 =>
  cBn (bif !b29 then p35.1 else (.bool false)) fun b36 =>
  bif b36 then
    J47_0 rc md h0 (.int .i64 a1) (.pointer (some ⟨h0.length, 0, none⟩)) (.int .u64 0) p35.2
  else
    J47_0 rc md h0 (.int .i64 a1) (.pointer (some ⟨h0.length, 0, none⟩)) (.int .u64 65535) p35.2
  else none
noncomputable def F47H (rc : Rec) (md : Md) (X0 : T → Heap → Option (Value × Heap)) (a0_0 : Int) (a0_1 : Int) (a0_2 : Int) (a0_3 : Value) (a0_4 : Int) (a0_5 : Int) (a1 : Int) (a2 : Int) (h0 : Heap) : Option (Value × Heap) :=
  let h1 : Heap := h0 ++ [.own [(.int .i64 a0_0), (.int .i64 a0_1), (.int .i64 a0_2), a0_3, (.int .i64 a0_4), (.int .i64 a0_5)]]
  ld1 (.pointer (some ⟨h0.length, 3, none⟩)) h1 fun v2 =>
  ldN 3 (.pointer (some ⟨h0.length, 0, none⟩)) h1 fun v3 =>
  cl (rc md 37 [v3, (.int .i64 a1), (.int .i64 5)] h1) fun v4 h5 =>
  cIn .i64 v4 fun n6 =>
  bif okNil Try.prog v2 then
  clI Try.prog rc md v2 "Store" [(.int .i64 n6), (.int .u64 a2)] h5 fun v7 h8 =>
  ldN 6 (.pointer (some ⟨h0.length, 0, none⟩)) h8 fun v9 =>
  cl (rc md 70 [v9, (.int .i64 a1)] h8) fun v10 h11 =>
  ldN 2 (.pointer (some ⟨h0.length, 4, none⟩)) h11 fun v12 =>
  ld1 (.pointer (some ⟨h0.length, 3, none⟩)) h11 fun v13 =>
  ldN 3 (.pointer (some ⟨h0.length, 0, none⟩)) h11 fun v14 =>
  cl (rc md 37 [v14, (.int .i64 a1), (.int .i64 2)] h11) fun v15 h16 =>
  cIn .i64 v15 fun n17 =>
  cl (rc md 71 [v12, v13, (.int .i64 n17)] h16) fun v18 h19 =>
  ldN 3 (.pointer (some ⟨h0.length, 0, none⟩)) h19 fun v20 =>
  cl (rc md 72 [v20, (.int .i64 a1)] h19) fun v21 h22 =>
  exT v21 0 fun v23 =>
  exT v21 1 fun v24 =>
  cBn v24 fun b25 =>
  let h26 : Heap := h22 ++ [.own [(.bool false), (.int .i64 0), (.int .i64 0), (.int .i64 0), (.int .i64 0)]]
  st md 5 (.pointer (some ⟨h22.length, 0, none⟩)) v23 h26 fun h27 =>
  ld1 (.pointer (some ⟨h22.length, 0, none⟩)) h27 fun v28 =>
  cBn v28 fun b29 =>
  (bif wantV (.bool (!b29)) true then
  some ((.pointer (some ⟨h22.length, 1, none⟩)), h27)
  else some (undef, h27)).bind fun p30 =>
  (bif wantV (.bool (!b29)) true then
  ld1 p30.1 p30.2 fun v31 =>
  cIn .i64 v31 fun n32 =>
  some ((.int .i64 n32), p30.2)
  else some (undef, p30.2)).bind fun p33 =>
  (bif wantV (.bool (!b29)) true then
  aBin Try.prog .eql 3 p33.1 (.int .i64 0) fun v34 =>
  some (v34, p33.2)
  else some (undef, p33.2)).bind fun p35 =>
  cBn (bif !b29 then p35.1 else (.bool false)) fun b36 =>
  bif b36 then
    X0 (upd (upd (upd (upd (upd (upd (upd (upd (upd (upd (upd (upd (upd (upd (upd (upd (upd (upd (upd (upd (upd (upd (upd (upd (upd (upd (upd (upd (upd (upd (upd (upd (upd (upd (upd (upd (upd (upd (upd (upd (upd (upd (args0 [(.agg #[(.int .i64 a0_0), (.int .i64 a0_1), (.int .i64 a0_2), a0_3, (.int .i64 a0_4), (.int .i64 a0_5)]), (.int .i64 a1), (.int .u64 a2)]) 3 (.pointer (some ⟨h0.length, 0, none⟩))) 9 (.pointer (some ⟨h0.length, 3, none⟩))) 10 v2) 11 (.pointer (some ⟨h0.length, 0, none⟩))) 12 v3) 13 (.int .i64 a1)) 14 (.int .i64 n6)) 15 (.int .u64 a2)) 16 v2) 17 v2) 18 v7) 19 v9) 20 (.int .i64 a1)) 21 v10) 22 (.pointer (some ⟨h0.length, 4, none⟩))) 23 v12) 24 (.pointer (some ⟨h0.length, 3, none⟩))) 25 v13) 26 (.pointer (some ⟨h0.length, 0, none⟩))) 27 v14) 28 (.int .i64 a1)) 29 (.int .i64 n17)) 30 v18) 6 (.int .u64 65535)) 32 (.pointer (some ⟨h0.length, 0, none⟩))) 33 v20) 34 (.int .i64 a1)) 35 v21) 31 v21) 36 v23) 37 (.bool b25)) 7 (.pointer (some ⟨h22.length, 0, none⟩))) 8 (.bool b25)) 38 (.pointer (some ⟨h22.length, 0, none⟩))) 39 (.bool b29)) 40 (.bool (!b29))) 41 (.bool (!b29))) 42 p30.1) 43 p33.1) 44 p35.1) 45 (.bool b36)) 6 (.int .u64 0)) p35.2
  else
    X0 (upd (upd (upd (upd (upd (upd (upd (upd (upd (upd (upd (upd (upd (upd (upd (upd (upd (upd (upd (upd (upd (upd (upd (upd (upd (upd (upd (upd (upd (upd (upd (upd (upd (upd (upd (upd (upd (upd (upd (upd (upd (args0 [(.agg #[(.int .i64 a0_0), (.int .i64 a0_1), (.int .i64 a0_2), a0_3, (.int .i64 a0_4), (.int .i64 a0_5)]), (.int .i64 a1), (.int .u64 a2)]) 3 (.pointer (some ⟨h0.length, 0, none⟩))) 9 (.pointer (some ⟨h0.length, 3, none⟩))) 10 v2) 11 (.pointer (some ⟨h0.length, 0, none⟩))) 12 v3) 13 (.int .i64 a1)) 14 (.int .i64 n6)) 15 (.int .u64 a2)) 16 v2) 17 v2) 18 v7) 19 v9) 20 (.int .i64 a1)) 21 v10) 22 (.pointer (some ⟨h0.length, 4, none⟩))) 23 v12) 24 (.pointer (some ⟨h0.length, 3, none⟩))) 25 v13) 26 (.pointer (some ⟨h0.length, 0, none⟩))) 27 v14) 28 (.int .i64 a1)) 29 (.int .i64 n17)) 30 v18) 6 (.int .u64 65535)) 32 (.pointer (some ⟨h0.length, 0, none⟩))) 33 v20) 34 (.int .i64 a1)) 35 v21) 31 v21) 36 v23) 37 (.bool b25)) 7 (.pointer (some ⟨h22.length, 0, none⟩))) 8 (.bool b25)) 38 (.pointer (some ⟨h22.length, 0, none⟩))) 39 (.bool b29)) 40 (.bool (!b29))) 41 (.bool (!b29))) 42 p30.1) 43 p33.1) 44 p35.1) 45 (.bool b36)) p35.2
  else none
theorem F47_h0 (rc : Rec) (md : Md) (a0_0 : Int) (a0_1 : Int) (a0_2 : Int) (a0_3 : Value) (a0_4 : Int) (a0_5 : Int) (a1 : Int) (a2 : Int) (h0 : Heap) : callStep0 Try.prog cfg rc md 47 [(.agg #[(.int .i64 a0_0), (.int .i64 a0_1), (.int .i64 a0_2), a0_3, (.int .i64 a0_4), (.int .i64 a0_5)]), (.int .i64 a1), (.int .u64 a2)] h0 = exec Try.prog cfg rc ⟨md.ro, h0.length⟩ 56 (bodyOf Try.prog 47) (retK Try.prog cfg 47 (rsOf Try.prog 47) h0) (args0 [(.agg #[(.int .i64 a0_0), (.int .i64 a0_1), (.int .i64 a0_2), a0_3, (.int .i64 a0_4), (.int .i64 a0_5)]), (.int .i64 a1), (.int .u64 a2)]) h0 := callStep0_run (by kernel_rfl) (by kernel_rfl) (by kernel_rfl)
theorem F47_h1 (rc : Rec) (md : Md) (X : Nat → T → Heap → Option (Value × Heap)) (a0_0 : Int) (a0_1 : Int) (a0_2 : Int) (a0_3 : Value) (a0_4 : Int) (a0_5 : Int) (a1 : Int) (a2 : Int) (h0 : Heap) : execG Try.prog cfg X rc md 56 (replS (bodyOf Try.prog 47) [([1, 1, 1, 1, 1, 1], 0)]) (retK Try.prog cfg 47 (rsOf Try.prog 47) h0) (args0 [(.agg #[(.int .i64 a0_0), (.int .i64 a0_1), (.int .i64 a0_2), a0_3, (.int .i64 a0_4), (.int .i64 a0_5)]), (.int .i64 a1), (.int .u64 a2)]) h0 = F47H rc md (X 0) a0_0 a0_1 a0_2 a0_3 a0_4 a0_5 a1 a2 h0 := by kernel_rfl
theorem F47_h2 (rc : Rec) (md : Md) (a0_0 : Int) (a0_1 : Int) (a0_2 : Int) (a0_3 : Value) (a0_4 : Int) (a0_5 : Int) (a1 : Int) (a2 : Int) (h0 : Heap) : F47H rc md (fun t h => J47_0 rc md h0 (t 1) (t 3) (t 6) h) a0_0 a0_1 a0_2 a0_3 a0_4 a0_5 a1 a2 h0 = F47 rc md a0_0 a0_1 a0_2 a0_3 a0_4 a0_5 a1 a2 h0 := by unfold F47H F47; kernel_rfl
theorem F47_eq0 (rc : Rec) (md : Md) (a0_0 : Int) (a0_1 : Int) (a0_2 : Int) (a0_3 : Value) (a0_4 : Int) (a0_5 : Int) (a1 : Int) (a2 : Int) (h0 : Heap) : callStep0 Try.prog cfg rc md 47 [(.agg #[(.int .i64 a0_0), (.int .i64 a0_1), (.int .i64 a0_2), a0_3, (.int .i64 a0_4), (.int .i64 a0_5)]), (.int .i64 a1), (.int .u64 a2)] h0 = F47 rc ⟨md.ro, h0.length⟩ a0_0 a0_1 a0_2 a0_3 a0_4 a0_5 a1 a2 h0 := by
  rw [F47_h0, exec_holes [([1, 1, 1, 1, 1, 1], 0)] (by kernel_rfl), F47_h1, show (goX Try.prog cfg rc ⟨md.ro, h0.length⟩ 56 (bodyOf Try.prog 47) [([1, 1, 1, 1, 1, 1], 0)] (retK Try.prog cfg 47 (rsOf Try.prog 47) h0)) 0 = _ from J47_0_cut rc ⟨md.ro, h0.length⟩ h0]
  exact F47_h2 rc _ a0_0 a0_1 a0_2 a0_3 a0_4 a0_5 a1 a2 h0
theorem F47_eq (rc : Rec) (md : Md) (a0_0 : Int) (a0_1 : Int) (a0_2 : Int) (a0_3 : Value) (a0_4 : Int) (a0_5 : Int) (a1 : Int) (a2 : Int) (h0 : Heap) : callStep Try.prog cfg rc md 47 [(.agg #[(.int .i64 a0_0), (.int .i64 a0_1), (.int .i64 a0_2), a0_3, (.int .i64 a0_4), (.int .i64 a0_5)]), (.int .i64 a1), (.int .u64 a2)] h0 = F47 rc ⟨md.ro, h0.length⟩ a0_0 a0_1 a0_2 a0_3 a0_4 a0_5 a1 a2 h0 := (callStep_ne (by kernel_rfl)).trans (F47_eq0 rc md a0_0 a0_1 a0_2 a0_3 a0_4 a0_5 a1 a2 h0)

/-- tombolo/tomboloref15.first -/
noncomputable def F50 (rc : Rec) (md : Md) (a0_0 : Int) (a0_1 : Int) (a0_2 : Int) (a1 : Value) (a2_0 : Int) (a2_1 : Int) (a2_2 : Int) (a2_3 : Int) (a3 : Value) (h0 : Heap) : Option (Value × Heap) :=
  let h1 : Heap := h0 ++ [.own [(.int .i64 a0_0), (.int .i64 a0_1), (.int .i64 a0_2)]]
  let h2 : Heap := h1 ++ [.own [(.int .i64 a2_0), (.int .i64 a2_1), (.int .i64 a2_2), (.int .i64 a2_3)]]
  ld1 (.pointer (some ⟨h1.length, 0, none⟩)) h2 fun v3 =>
  cIn .i64 v3 fun n4 =>
  (bif wantV (.bool (n4 == 2)) true then
  some ((.pointer (some ⟨h0.length, 1, none⟩)), h2)
  else some (undef, h2)).bind fun p5 =>
  (bif wantV (.bool (n4 == 2)) true then
  ld1 p5.1 p5.2 fun v6 =>
  cIn .i64 v6 fun n7 =>
  some ((.int .i64 n7), p5.2)
  else some (undef, p5.2)).bind fun p8 =>
  (bif wantV (.bool (n4 == 2)) true then
  aBin Try.prog .gtr 3 p8.1 (.int .i64 0) fun v9 =>
  some (v9, p8.2)
  else some (undef, p8.2)).bind fun p10 =>
  cBn (bif (n4 == 2) then p10.1 else (.bool false)) fun b11 =>
  bif b11 then
    some ((.int .u64 1), h0)
  else
    ld1 (.pointer (some ⟨h1.length, 0, none⟩)) p10.2 fun v12 =>
    cIn .i64 v12 fun n13 =>
    (bif wantV (.bool (n13 == 3)) true then
    some ((.pointer (some ⟨h1.length, 1, none⟩)), p10.2)
    else some (undef, p10.2)).bind fun p14 =>
    (bif wantV (.bool (n13 == 3)) true then
    ld1 p14.1 p14.2 fun v15 =>
    cIn .i64 v15 fun n16 =>
    some ((.int .i64 n16), p14.2)
    else some (undef, p14.2)).bind fun p17 =>
    (bif wantV (.bool (n13 == 3)) true then
    aBin Try.prog .add 3 p17.1 (.int .i64 1) fun v18 =>
    some (v18, p17.2)
    else some (undef, p17.2)).bind fun p19 =>
    (bif wantV (.bool (n13 == 3)) true then
    some ((.pointer (some ⟨h0.length, 1, none⟩)), p19.2)
    else some (undef, p19.2)).bind fun p20 =>
    (bif wantV (.bool (n13 == 3)) true then
    ld1 p20.1 p20.2 fun v21 =>
    cIn .i64 v21 fun n22 =>
    some ((.int .i64 n22), p20.2)
    else some (undef, p20.2)).bind fun p23 =>
    (bif wantV (.bool (n13 == 3)) true then
    aBin Try.prog .lss 3 p19.1 p23.1 fun v24 =>
    some (v24, p23.2)
    else some (undef, p23.2)).bind fun p25 =>
    cBn (bif (n13 == 3) then p25.1 else (.bool false)) fun b26 =>
    bif b26 then
      ld1 (.pointer (some ⟨h1.length, 1, none⟩)) p25.2 fun v27 =>
      cIn .i64 v27 fun n28 =>
      some ((.int .u64 (IntKind.wrap .u64 (IntKind.wrap .i64 (n28 + 2)))), h0)
    else
      ld1 (.pointer (some ⟨h1.length, 0, none⟩)) p25.2 fun v29 =>
      cIn .i64 v29 fun n30 =>
      bif (n30 != 10) then
        some ((.int .u64 0), h0)
      else
        ld1 (.pointer (some ⟨h1.length, 1, none⟩)) p25.2 fun v31 =>
        cIn .i64 v31 fun n32 =>
        ixS 4 a3 (IntKind.wrap .i64 (n32 - 1)) fun v33 =>
        ldN 4 v33 p25.2 fun v34 =>
        let h35 : Heap := p25.2 ++ [.own [(.int .i64 0), (.int .i64 0), (.int .i64 0), (.int .i64 0)]]
        st md 4 (.pointer (some ⟨p25.2.length, 0, none⟩)) v34 h35 fun h36 =>
        ld1 (.pointer (some ⟨h1.length, 2, none⟩)) h36 fun v37 =>
        cIn .i64 v37 fun n38 =>
        bif (n38 == 0) then
          ld1 (.pointer (some ⟨p25.2.length, 0, none⟩)) h36 fun v39 =>
          cIn .i64 v39 fun n40 =>
          (bif wantV (.bool (n40 == 1)) true then
          some ((.pointer (some ⟨p25.2.length, 1, none⟩)), h36)
          else some (undef, h36)).bind fun p41 =>
          (bif wantV (.bool (n40 == 1)) true then
          ld1 p41.1 p41.2 fun v42 =>
          cIn .i64 v42 fun n43 =>
          some ((.int .i64 n43), p41.2)
          else some (undef, p41.2)).bind fun p44 =>
          (bif wantV (.bool (n40 == 1)) true then
          aBin Try.prog .eql 3 p44.1 (.int .i64 0) fun v45 =>
          some (v45, p44.2)
          else some (undef, p44.2)).bind fun p46 =>
          cBn (bif (n40 == 1) then p46.1 else (.bool false)) fun b47 =>
          bif b47 then
            some ((.int .u64 0), h0)
          else
            some ((.int .u64 65535), h0)
        else
          ld1 (.pointer (some ⟨h1.length, 2, none⟩)) h36 fun v48 =>
          cIn .i64 v48 fun n49 =>
          (bif wantV (.bool (n49 == 5)) true then
          some (a1, h36)
          else some (undef, h36)).bind fun p50 =>
          (bif wantV (.bool (n49 == 5)) true then
          lenS p50.1 fun v51 =>
          cIn .i64 v51 fun n52 =>
          some ((.int .i64 n52), p50.2)
          else some (undef, p50.2)).bind fun p53 =>
          (bif wantV (.bool (n49 == 5)) true then
          aBin Try.prog .gtr 3 p53.1 (.int .i64 0) fun v54 =>
          some (v54, p53.2)
          else some (undef, p53.2)).bind fun p55 =>
          cBn (bif (n49 == 5) then p55.1 else (.bool false)) fun b56 =>
          bif b56 then
            ld1 (.pointer (some ⟨h1.length, 1, none⟩)) p55.2 fun v57 =>
            cIn .i64 v57 fun n58 =>
            lenS a1 fun v59 =>
            cIn .i64 v59 fun n60 =>
            divI .rem n58 n60 .i64 fun v61 =>
            ixSV 1 a1 v61 fun v62 =>
            ld1 v62 p55.2 fun v63 =>
            cIn .u64 v63 fun n64 =>
            some ((.int .u64 n64), h0)
          else
            ld1 (.pointer (some ⟨h1.length, 2, none⟩)) p55.2 fun v65 =>
            cIn .i64 v65 fun n66 =>
            bif (n66 == 6) then
              ld1 (.pointer (some ⟨p25.2.length, 0, none⟩)) p55.2 fun v67 =>
              cIn .i64 v67 fun n68 =>
              bif (n68 == 1) then
                some ((.int .u64 65537), h0)
              else
                some ((.int .u64 1), h0)
            else
              some ((.int .u64 0), h0)
theorem F50_eq0 (rc : Rec) (md : Md) (a0_0 : Int) (a0_1 : Int) (a0_2 : Int) (a1 : Value) (a2_0 : Int) (a2_1 : Int) (a2_2 : Int) (a2_3 : Int) (a3 : Value) (h0 : Heap) : callStep0 Try.prog cfg rc md 50 [(.agg #[(.int .i64 a0_0), (.int .i64 a0_1), (.int .i64 a0_2)]), a1, (.agg #[(.int .i64 a2_0), (.int .i64 a2_1), (.int .i64 a2_2), (.int .i64 a2_3)]), a3] h0 = F50 rc ⟨h0.length, h0.length⟩ a0_0 a0_1 a0_2 a1 a2_0 a2_1 a2_2 a2_3 a3 h0 := by kernel_rfl
theorem F50_eq (rc : Rec) (md : Md) (a0_0 : Int) (a0_1 : Int) (a0_2 : Int) (a1 : Value) (a2_0 : Int) (a2_1 : Int) (a2_2 : Int) (a2_3 : Int) (a3 : Value) (h0 : Heap) : callStep Try.prog cfg rc md 50 [(.agg #[(.int .i64 a0_0), (.int .i64 a0_1), (.int .i64 a0_2)]), a1, (.agg #[(.int .i64 a2_0), (.int .i64 a2_1), (.int .i64 a2_2), (.int .i64 a2_3)]), a3] h0 = F50 rc ⟨h0.length, h0.length⟩ a0_0 a0_1 a0_2 a1 a2_0 a2_1 a2_2 a2_3 a3 h0 := (callStep_ne (by kernel_rfl)).trans (F50_eq0 rc md a0_0 a0_1 a0_2 a1 a2_0 a2_1 a2_2 a2_3 a3 h0)

/-- (tombolo/treap.Trees).Alone -/
noncomputable def F70 (rc : Rec) (md : Md) (a0_0 : Int) (a0_1 : Int) (a0_2 : Int) (a0_3 : Value) (a0_4 : Int) (a0_5 : Int) (a1 : Int) (h0 : Heap) : Option (Value × Heap) :=
  let h1 : Heap := h0 ++ [.own [(.int .i64 a0_0), (.int .i64 a0_1), (.int .i64 a0_2), a0_3, (.int .i64 a0_4), (.int .i64 a0_5)]]
  ldN 6 (.pointer (some ⟨h0.length, 0, none⟩)) h1 fun v2 =>
  cl (rc md 85 [v2, (.int .i64 a1), (.int .i64 3), (.int .i64 0)] h1) fun v3 h4 =>
  ldN 6 (.pointer (some ⟨h0.length, 0, none⟩)) h4 fun v5 =>
  cl (rc md 85 [v5, (.int .i64 a1), (.int .i64 4), (.int .i64 0)] h4) fun v6 h7 =>
  ldN 6 (.pointer (some ⟨h0.length, 0, none⟩)) h7 fun v8 =>
  cl (rc md 86 [v8, (.int .i64 a1), (.int .i64 0)] h7) fun v9 h10 =>
  ld1 (.pointer (some ⟨h0.length, 3, none⟩)) h10 fun v11 =>
  ldN 3 (.pointer (some ⟨h0.length, 0, none⟩)) h10 fun v12 =>
  cl (rc md 37 [v12, (.int .i64 a1), (.int .i64 6)] h10) fun v13 h14 =>
  cIn .i64 v13 fun n15 =>
  ldN 6 (.pointer (some ⟨h0.length, 0, none⟩)) h14 fun v16 =>
  cl (rc md 87 [v16, (.int .i64 a1), (.int .u64 0)] h14) fun v17 h18 =>
  cIn .u64 v17 fun n19 =>
  bif okNil Try.prog v11 then
  clI Try.prog rc md v11 "Store" [(.int .i64 n15), (.int .u64 n19)] h18 fun v20 h21 =>
  some ((.tuple #[]), List.take h0.length h21)
  else none
theorem F70_eq0 (rc : Rec) (md : Md) (a0_0 : Int) (a0_1 : Int) (a0_2 : Int) (a0_3 : Value) (a0_4 : Int) (a0_5 : Int) (a1 : Int) (h0 : Heap) : callStep0 Try.prog cfg rc md 70 [(.agg #[(.int .i64 a0_0), (.int .i64 a0_1), (.int .i64 a0_2), a0_3, (.int .i64 a0_4), (.int .i64 a0_5)]), (.int .i64 a1)] h0 = F70 rc ⟨md.ro, h0.length⟩ a0_0 a0_1 a0_2 a0_3 a0_4 a0_5 a1 h0 := by kernel_rfl
theorem F70_eq (rc : Rec) (md : Md) (a0_0 : Int) (a0_1 : Int) (a0_2 : Int) (a0_3 : Value) (a0_4 : Int) (a0_5 : Int) (a1 : Int) (h0 : Heap) : callStep Try.prog cfg rc md 70 [(.agg #[(.int .i64 a0_0), (.int .i64 a0_1), (.int .i64 a0_2), a0_3, (.int .i64 a0_4), (.int .i64 a0_5)]), (.int .i64 a1)] h0 = F70 rc ⟨md.ro, h0.length⟩ a0_0 a0_1 a0_2 a0_3 a0_4 a0_5 a1 h0 := (callStep_ne (by kernel_rfl)).trans (F70_eq0 rc md a0_0 a0_1 a0_2 a0_3 a0_4 a0_5 a1 h0)

/-- (tombolo/treap.Trees).put -/
noncomputable def F85 (rc : Rec) (md : Md) (a0_0 : Int) (a0_1 : Int) (a0_2 : Int) (a0_3 : Value) (a0_4 : Int) (a0_5 : Int) (a1 : Int) (a2 : Int) (a3 : Int) (h0 : Heap) : Option (Value × Heap) :=
  let h1 : Heap := h0 ++ [.own [(.int .i64 a0_0), (.int .i64 a0_1), (.int .i64 a0_2), a0_3, (.int .i64 a0_4), (.int .i64 a0_5)]]
  ld1 (.pointer (some ⟨h0.length, 3, none⟩)) h1 fun v2 =>
  ldN 3 (.pointer (some ⟨h0.length, 0, none⟩)) h1 fun v3 =>
  cl (rc md 37 [v3, (.int .i64 a1), (.int .i64 a2)] h1) fun v4 h5 =>
  cIn .i64 v4 fun n6 =>
  bif okNil Try.prog v2 then
  clI Try.prog rc md v2 "Store" [(.int .i64 n6), (.int .u64 (IntKind.wrap .u64 a3))] h5 fun v7 h8 =>
  some ((.tuple #[]), List.take h0.length h8)
  else none
theorem F85_eq0 (rc : Rec) (md : Md) (a0_0 : Int) (a0_1 : Int) (a0_2 : Int) (a0_3 : Value) (a0_4 : Int) (a0_5 : Int) (a1 : Int) (a2 : Int) (a3 : Int) (h0 : Heap) : callStep0 Try.prog cfg rc md 85 [(.agg #[(.int .i64 a0_0), (.int .i64 a0_1), (.int .i64 a0_2), a0_3, (.int .i64 a0_4), (.int .i64 a0_5)]), (.int .i64 a1), (.int .i64 a2), (.int .i64 a3)] h0 = F85 rc ⟨md.ro, h0.length⟩ a0_0 a0_1 a0_2 a0_3 a0_4 a0_5 a1 a2 a3 h0 := by kernel_rfl
theorem F85_eq (rc : Rec) (md : Md) (a0_0 : Int) (a0_1 : Int) (a0_2 : Int) (a0_3 : Value) (a0_4 : Int) (a0_5 : Int) (a1 : Int) (a2 : Int) (a3 : Int) (h0 : Heap) : callStep Try.prog cfg rc md 85 [(.agg #[(.int .i64 a0_0), (.int .i64 a0_1), (.int .i64 a0_2), a0_3, (.int .i64 a0_4), (.int .i64 a0_5)]), (.int .i64 a1), (.int .i64 a2), (.int .i64 a3)] h0 = F85 rc ⟨md.ro, h0.length⟩ a0_0 a0_1 a0_2 a0_3 a0_4 a0_5 a1 a2 a3 h0 := (callStep_ne (by kernel_rfl)).trans (F85_eq0 rc md a0_0 a0_1 a0_2 a0_3 a0_4 a0_5 a1 a2 a3 h0)

/-- (tombolo/treap.Trees).hang -/
noncomputable def F86 (rc : Rec) (md : Md) (a0_0 : Int) (a0_1 : Int) (a0_2 : Int) (a0_3 : Value) (a0_4 : Int) (a0_5 : Int) (a1 : Int) (a2 : Int) (h0 : Heap) : Option (Value × Heap) :=
  let h1 : Heap := h0 ++ [.own [(.int .i64 a0_0), (.int .i64 a0_1), (.int .i64 a0_2), a0_3, (.int .i64 a0_4), (.int .i64 a0_5)]]
  bif (a1 == 0) then
    some ((.tuple #[]), List.take h0.length h1)
  else
    ldN 6 (.pointer (some ⟨h0.length, 0, none⟩)) h1 fun v2 =>
    cl (rc md 98 [v2, (.int .i64 a1)] h1) fun v3 h4 =>
    cBn v3 fun b5 =>
    bif b5 then
      ldN 2 (.pointer (some ⟨h0.length, 4, none⟩)) h4 fun v6 =>
      ld1 (.pointer (some ⟨h0.length, 3, none⟩)) h4 fun v7 =>
      ldN 3 (.pointer (some ⟨h0.length, 0, none⟩)) h4 fun v8 =>
      cl (rc md 37 [v8, (.int .i64 a1), (.int .i64 2)] h4) fun v9 h10 =>
      cIn .i64 v9 fun n11 =>
      cl (rc md 99 [v6, v7, (.int .i64 n11), (.int .i64 a2)] h10) fun v12 h13 =>
      some ((.tuple #[]), List.take h0.length h13)
    else
      ldN 6 (.pointer (some ⟨h0.length, 0, none⟩)) h4 fun v14 =>
      cl (rc md 85 [v14, (.int .i64 a1), (.int .i64 2), (.int .i64 a2)] h4) fun v15 h16 =>
      some ((.tuple #[]), List.take h0.length h16)
theorem F86_eq0 (rc : Rec) (md : Md) (a0_0 : Int) (a0_1 : Int) (a0_2 : Int) (a0_3 : Value) (a0_4 : Int) (a0_5 : Int) (a1 : Int) (a2 : Int) (h0 : Heap) : callStep0 Try.prog cfg rc md 86 [(.agg #[(.int .i64 a0_0), (.int .i64 a0_1), (.int .i64 a0_2), a0_3, (.int .i64 a0_4), (.int .i64 a0_5)]), (.int .i64 a1), (.int .i64 a2)] h0 = F86 rc ⟨md.ro, h0.length⟩ a0_0 a0_1 a0_2 a0_3 a0_4 a0_5 a1 a2 h0 := by kernel_rfl
theorem F86_eq (rc : Rec) (md : Md) (a0_0 : Int) (a0_1 : Int) (a0_2 : Int) (a0_3 : Value) (a0_4 : Int) (a0_5 : Int) (a1 : Int) (a2 : Int) (h0 : Heap) : callStep Try.prog cfg rc md 86 [(.agg #[(.int .i64 a0_0), (.int .i64 a0_1), (.int .i64 a0_2), a0_3, (.int .i64 a0_4), (.int .i64 a0_5)]), (.int .i64 a1), (.int .i64 a2)] h0 = F86 rc ⟨md.ro, h0.length⟩ a0_0 a0_1 a0_2 a0_3 a0_4 a0_5 a1 a2 h0 := (callStep_ne (by kernel_rfl)).trans (F86_eq0 rc md a0_0 a0_1 a0_2 a0_3 a0_4 a0_5 a1 a2 h0)

/-- (tombolo/treap.Trees).lone -/
noncomputable def F87 (rc : Rec) (md : Md) (a0_0 : Int) (a0_1 : Int) (a0_2 : Int) (a0_3 : Value) (a0_4 : Int) (a0_5 : Int) (a1 : Int) (a2 : Int) (h0 : Heap) : Option (Value × Heap) :=
  let h1 : Heap := h0 ++ [.own [(.int .i64 a0_0), (.int .i64 a0_1), (.int .i64 a0_2), a0_3, (.int .i64 a0_4), (.int .i64 a0_5)]]
  ldN 3 (.pointer (some ⟨h0.length, 0, none⟩)) h1 fun v2 =>
  cl (rc md 72 [v2, (.int .i64 a1)] h1) fun v3 h4 =>
  exT v3 0 fun v5 =>
  exT v3 1 fun v6 =>
  cBn v6 fun b7 =>
  let h8 : Heap := h4 ++ [.own [(.bool false), (.int .i64 0), (.int .i64 0), (.int .i64 0), (.int .i64 0)]]
  st md 5 (.pointer (some ⟨h4.length, 0, none⟩)) v5 h8 fun h9 =>
  ld1 (.pointer (some ⟨h4.length, 0, none⟩)) h9 fun v10 =>
  cBn v10 fun b11 =>
  bif !b11 then
    some ((.int .u64 (bOr .u64 (bOr .u64 (bOr .u64 1 (IntKind.wrap .u64 (a2 * 2 ^ 32))) (IntKind.wrap .u64 (a2 * 2 ^ 34))) 65536)), h0)
  else
    some ((.int .u64 (bOr .u64 (bOr .u64 1 (IntKind.wrap .u64 (a2 * 2 ^ 32))) (IntKind.wrap .u64 (a2 * 2 ^ 34)))), h0)
theorem F87_eq0 (rc : Rec) (md : Md) (a0_0 : Int) (a0_1 : Int) (a0_2 : Int) (a0_3 : Value) (a0_4 : Int) (a0_5 : Int) (a1 : Int) (a2 : Int) (h0 : Heap) : callStep0 Try.prog cfg rc md 87 [(.agg #[(.int .i64 a0_0), (.int .i64 a0_1), (.int .i64 a0_2), a0_3, (.int .i64 a0_4), (.int .i64 a0_5)]), (.int .i64 a1), (.int .u64 a2)] h0 = F87 rc ⟨h0.length, h0.length⟩ a0_0 a0_1 a0_2 a0_3 a0_4 a0_5 a1 a2 h0 := by kernel_rfl
theorem F87_eq (rc : Rec) (md : Md) (a0_0 : Int) (a0_1 : Int) (a0_2 : Int) (a0_3 : Value) (a0_4 : Int) (a0_5 : Int) (a1 : Int) (a2 : Int) (h0 : Heap) : callStep Try.prog cfg rc md 87 [(.agg #[(.int .i64 a0_0), (.int .i64 a0_1), (.int .i64 a0_2), a0_3, (.int .i64 a0_4), (.int .i64 a0_5)]), (.int .i64 a1), (.int .u64 a2)] h0 = F87 rc ⟨h0.length, h0.length⟩ a0_0 a0_1 a0_2 a0_3 a0_4 a0_5 a1 a2 h0 := (callStep_ne (by kernel_rfl)).trans (F87_eq0 rc md a0_0 a0_1 a0_2 a0_3 a0_4 a0_5 a1 a2 h0)

/-- (tombolo/treap.Trees).shown -/
noncomputable def F98 (rc : Rec) (md : Md) (a0_0 : Int) (a0_1 : Int) (a0_2 : Int) (a0_3 : Value) (a0_4 : Int) (a0_5 : Int) (a1 : Int) (h0 : Heap) : Option (Value × Heap) :=
  let h1 : Heap := h0 ++ [.own [(.int .i64 a0_0), (.int .i64 a0_1), (.int .i64 a0_2), a0_3, (.int .i64 a0_4), (.int .i64 a0_5)]]
  ldN 3 (.pointer (some ⟨h0.length, 0, none⟩)) h1 fun v2 =>
  cl (rc md 72 [v2, (.int .i64 a1)] h1) fun v3 h4 =>
  exT v3 0 fun v5 =>
  exT v3 1 fun v6 =>
  cBn v6 fun b7 =>
  let h8 : Heap := h4 ++ [.own [(.bool false), (.int .i64 0), (.int .i64 0), (.int .i64 0), (.int .i64 0)]]
  st md 5 (.pointer (some ⟨h4.length, 0, none⟩)) v5 h8 fun h9 =>
  ld1 (.pointer (some ⟨h4.length, 1, none⟩)) h9 fun v10 =>
  cIn .i64 v10 fun n11 =>
  some ((.bool (n11 == 0)), h0)
theorem F98_eq0 (rc : Rec) (md : Md) (a0_0 : Int) (a0_1 : Int) (a0_2 : Int) (a0_3 : Value) (a0_4 : Int) (a0_5 : Int) (a1 : Int) (h0 : Heap) : callStep0 Try.prog cfg rc md 98 [(.agg #[(.int .i64 a0_0), (.int .i64 a0_1), (.int .i64 a0_2), a0_3, (.int .i64 a0_4), (.int .i64 a0_5)]), (.int .i64 a1)] h0 = F98 rc ⟨h0.length, h0.length⟩ a0_0 a0_1 a0_2 a0_3 a0_4 a0_5 a1 h0 := by kernel_rfl
theorem F98_eq (rc : Rec) (md : Md) (a0_0 : Int) (a0_1 : Int) (a0_2 : Int) (a0_3 : Value) (a0_4 : Int) (a0_5 : Int) (a1 : Int) (h0 : Heap) : callStep Try.prog cfg rc md 98 [(.agg #[(.int .i64 a0_0), (.int .i64 a0_1), (.int .i64 a0_2), a0_3, (.int .i64 a0_4), (.int .i64 a0_5)]), (.int .i64 a1)] h0 = F98 rc ⟨h0.length, h0.length⟩ a0_0 a0_1 a0_2 a0_3 a0_4 a0_5 a1 h0 := (callStep_ne (by kernel_rfl)).trans (F98_eq0 rc md a0_0 a0_1 a0_2 a0_3 a0_4 a0_5 a1 h0)

end Go.Det.E
