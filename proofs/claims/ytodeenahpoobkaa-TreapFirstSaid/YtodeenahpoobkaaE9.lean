/- Printed functions. -/
import Derived.Test.YtodeenahpoobkaaE5
import Derived.Test.YtodeenahpoobkaaDetT
import Derived.Test.YtodeenahpoobkaaDetX
import Derived.Test.YtodeenahpoobkaaProg
set_option autoImplicit false
set_option linter.unusedVariables false
set_option linter.unusedSimpArgs false
namespace Go.Det.E
open Go.Proofs Go.Det

/-- tombolo/tombololaw09.TreapBack -/
noncomputable def J5_1 (rc : Rec) (md : Md) (h0 : Heap) (s1 : Value) (s2 : Value) (s7 : Value) (h : Heap) : Option (Value × Heap) :=
  cl (rc md 27 [s7, s1] h) fun v1 h2 =>
  cIn .i64 v1 fun n3 =>
  bif (decide (n3 < 0)) then
    cl (rc md 14 [] h2) fun v4 h5 =>
    cBn v4 fun b6 =>
    some ((.bool b6), List.take h0.length h5)
  else
    bif okNil Try.prog s7 then
    fA 10 s7 fun v7 =>
    ldN 4 v7 h2 fun v8 =>
    bif okNil Try.prog s7 then
    fA 10 s7 fun v9 =>
    fA 0 v9 fun v10 =>
    ld1 v10 h2 fun v11 =>
    ixS 1 v11 n3 fun v12 =>
    ld1 v12 h2 fun v13 =>
    cl (rc md 19 [v8, v13] h2) fun v14 h15 =>
    cIn .i64 v14 fun n16 =>
    bif okNil Try.prog s7 then
    fA 4 s7 fun v17 =>
    ldN 6 v17 h15 fun v18 =>
    cl (rc md 28 [v18, (.int .i64 n16), s2] h15) fun v19 h20 =>
    exT v19 0 fun v21 =>
    cIn .i64 v21 fun n22 =>
    exT v19 1 fun v23 =>
    cIn .i64 v23 fun n24 =>
    bif okNil Try.prog s7 then
    fA 4 s7 fun v25 =>
    ldN 6 v25 h20 fun v26 =>
    cl (rc md 23 [v26, (.int .i64 n22)] h20) fun v27 h28 =>
    cIn .i64 v27 fun n29 =>
    bif okNil Try.prog s7 then
    fA 4 s7 fun v30 =>
    ldN 6 v30 h28 fun v31 =>
    cLE true (fun hq => ldN 6 v30 hq some) v31 h20 h28 <|
    cl (rc md 23 [v31, (.int .i64 n24)] h28) fun v32 h33 =>
    cIn .i64 v32 fun n34 =>
    bif okNil Try.prog s7 then
    fA 10 s7 fun v35 =>
    fA 0 v35 fun v36 =>
    ld1 v36 h33 fun v37 =>
    cLE true (fun hq => ld1 v36 hq some) v37 h28 h33 <|
    cLE true (fun hq => ld1 v36 hq some) v37 h20 h28 <|
    ixS 1 v37 n3 fun v38 =>
    ld1 v38 h33 fun v39 =>
    cLE true (fun hq => ld1 v38 hq some) v39 h28 h33 <|
    cLE true (fun hq => ld1 v38 hq some) v39 h20 h28 <|
    lenS v39 fun v40 =>
    cIn .i64 v40 fun n41 =>
    bif ((IntKind.wrap .i64 (n29 + n34)) != n41) then
      some ((.bool false), List.take h0.length h33)
    else
      bif okNil Try.prog s7 then
      fA 4 s7 fun v42 =>
      ldN 6 v42 h33 fun v43 =>
      cl (rc md 29 [v43, (.int .i64 n22), (.int .i64 n24)] h33) fun v44 h45 =>
      cIn .i64 v44 fun n46 =>
      (bif wantV (.bool (n46 == n16)) true then
      some (s7, h45)
      else some (undef, h45)).bind fun p47 =>
      (bif wantV (.bool (n46 == n16)) true then
      cl (rc md 16 [p47.1] p47.2) fun v48 h49 =>
      cBn v48 fun b50 =>
      some ((.bool b50), h49)
      else some (undef, p47.2)).bind fun p51 =>
      cBn (bif (n46 == n16) then p51.1 else (.bool false)) fun b52 =>
      (bif wantV (.bool b52) true then
      cl (rc md 14 [] p51.2) fun v53 h54 =>
      cBn v53 fun b55 =>
      some ((.bool b55), h54)
      else some (undef, p51.2)).bind fun p56 =>
      cBn (bif b52 then p56.1 else (.bool false)) fun b57 =>
      some ((.bool b57), List.take h0.length p56.2)
      else none
    else none
    else none
    else none
    else none
    else none
    else none
theorem J5_1_at (rc : Rec) (md : Md) (h0 : Heap) (t : T) (h : Heap) : cut Try.prog cfg rc md 102 (bodyOf Try.prog 5) [1, 1, 1, 1, 1] (retK Try.prog cfg 5 (rsOf Try.prog 5) h0) t h = J5_1 rc md h0 (t 1) (t 2) (t 7) h := by kernel_rfl
theorem J5_1_cut (rc : Rec) (md : Md) (h0 : Heap) : cut Try.prog cfg rc md 102 (bodyOf Try.prog 5) [1, 1, 1, 1, 1] (retK Try.prog cfg 5 (rsOf Try.prog 5) h0) = fun t h => J5_1 rc md h0 (t 1) (t 2) (t 7) h := funext fun t => funext fun h => J5_1_at rc md h0 t h
noncomputable def Jk5_0 (rc : Rec) (md : Md) (h0 : Heap) (e : Exit) (s1 : Value) (s2 : Value) (s6 : Value) (s7 : Value) (s23 : Value) (s24 : Value) (s25 : Value) (h : Heap) : Option (Value × Heap) :=
  match e with
  | .normal =>
    J5_1 rc md h0 s1 s2 s7 h
  | .exit j =>
    bif Nat.beq j 0 then
      J5_1 rc md h0 s1 s2 s7 h
    else
      none
  | .ret =>
    fin1 h0 s6 h
  | .goto l => none
  | .panic ps => none
  | .outgrown => none
noncomputable def Jk5_0H (rc : Rec) (md : Md) (h0 : Heap) (X1 : T → Heap → Option (Value × Heap)) (e : Exit) (t : T) (h : Heap) : Option (Value × Heap) :=
  match e with
  | .normal =>
    X1 t h
  | .exit j =>
    bif Nat.beq j 0 then
      X1 t h
    else
      none
  | .ret =>
    fin1 h0 (t 6) h
  | .goto l => none
  | .panic ps => none
  | .outgrown => none
theorem Jk5_0_h1 (rc : Rec) (md : Md) (h0 : Heap) (X : Nat → T → Heap → Option (Value × Heap)) (e : Exit) (t : T) (h : Heap) : kAtG Try.prog cfg X rc md 102 (replS (bodyOf Try.prog 5) [([1, 1, 1, 1, 1], 1)]) [1, 1, 1, 1, 0, 1, 0] (retK Try.prog cfg 5 (rsOf Try.prog 5) h0) e t h = Jk5_0H rc md h0 (X 1) e t h := by cases e <;> kernel_rfl
theorem Jk5_0_h2 (rc : Rec) (md : Md) (h0 : Heap) (e : Exit) (t : T) (h : Heap) : Jk5_0H rc md h0 (fun t h => J5_1 rc md h0 (t 1) (t 2) (t 7) h) e t h = Jk5_0 rc md h0 e (t 1) (t 2) (t 6) (t 7) (t 23) (t 24) (t 25) h := by cases e <;> (unfold Jk5_0H Jk5_0; kernel_rfl)
theorem Jk5_0_at (rc : Rec) (md : Md) (h0 : Heap) (e : Exit) (t : T) (h : Heap) : kAt Try.prog cfg rc md 102 (bodyOf Try.prog 5) [1, 1, 1, 1, 0, 1, 0] (retK Try.prog cfg 5 (rsOf Try.prog 5) h0) e t h = Jk5_0 rc md h0 e (t 1) (t 2) (t 6) (t 7) (t 23) (t 24) (t 25) h := by
  rw [kAt_holes [([1, 1, 1, 1, 1], 1)] [1, 1, 1, 1, 0, 1, 0] (by kernel_rfl), Jk5_0_h1, show (goX Try.prog cfg rc md 102 (bodyOf Try.prog 5) [([1, 1, 1, 1, 1], 1)] (retK Try.prog cfg 5 (rsOf Try.prog 5) h0)) 1 = _ from J5_1_cut rc md h0]
  exact Jk5_0_h2 rc md h0 e t h
/-- a round -/
noncomputable def Jr5_0 (rc : Rec) (md : Md) (s1 : Value) (s2 : Value) (s6 : Value) (s7 : Value) (s23 : Value) (s24 : Value) (s25 : Value) (h : Heap) : Option (((Value × Value × Value × Value × Value × Value × Value) × Heap) ⊕ (Exit × (Value × Value × Value × Value × Value × Value × Value) × Heap)) :=
  aBin Try.prog .lss 3 s25 s24 fun v1 =>
  cBn v1 fun b2 =>
  bif b2 then
    ixSV 5 s23 s25 fun v3 =>
    ldN 5 v3 h fun v4 =>
    let h5 : Heap := h ++ [.own [(.int .i64 0), (.int .i64 0), (.int .i64 0), (.int .i64 0), (.bool false)]]
    st md 5 (.pointer (some ⟨h.length, 0, none⟩)) v4 h5 fun h6 =>
    ldN 5 (.pointer (some ⟨h.length, 0, none⟩)) h6 fun v7 =>
    cl (rc md 17 [s7, v7] h6) fun v8 h9 =>
    cBn v8 fun b10 =>
    bif !b10 then
      some (.inr (.ret, (s1, s2, (.bool false), s7, s23, s24, s25), h9))
    else
      aBin Try.prog .add 3 s25 (.int .i64 1) fun v11 =>
      some (.inl ((s1, s2, s6, s7, s23, s24, v11), h9))
  else
    some (.inr ((.exit 0), (s1, s2, s6, s7, s23, s24, s25), h))
theorem Jr5_0_at (rc : Rec) (md : Md) (t : T) (h : Heap) : exec Try.prog cfg rc md 102 (sub (bodyOf Try.prog 5) [1, 1, 1, 1, 0, 1, 0, 0]) (rndK (fun t => (t 1, t 2, t 6, t 7, t 23, t 24, t 25))) t h = Jr5_0 rc md (t 1) (t 2) (t 6) (t 7) (t 23) (t 24) (t 25) h := by kernel_rfl
noncomputable def J5_0 (rc : Rec) (md : Md) (h0 : Heap) (s1 : Value) (s2 : Value) (s6 : Value) (s7 : Value) (s23 : Value) (s24 : Value) (s25 : Value) (h : Heap) : Option (Value × Heap) :=
  runL (fun x : (Value × Value × Value × Value × Value × Value × Value) × Heap => Jr5_0 rc md x.1.1 x.1.2.1 x.1.2.2.1 x.1.2.2.2.1 x.1.2.2.2.2.1 x.1.2.2.2.2.2.1 x.1.2.2.2.2.2.2 x.2) (fun e (s : Value × Value × Value × Value × Value × Value × Value) h => Jk5_0 rc md h0 e s.1 s.2.1 s.2.2.1 s.2.2.2.1 s.2.2.2.2.1 s.2.2.2.2.2.1 s.2.2.2.2.2.2 h) (s1, s2, s6, s7, s23, s24, s25) h
theorem J5_0_step (rc : Rec) (md : Md) (h0 : Heap) (s1 : Value) (s2 : Value) (s6 : Value) (s7 : Value) (s23 : Value) (s24 : Value) (s25 : Value) (h : Heap) : J5_0 rc md h0 s1 s2 s6 s7 s23 s24 s25 h = (Jr5_0 rc md s1 s2 s6 s7 s23 s24 s25 h).bind fun x => match x with
    | .inl (s, h) => J5_0 rc md h0 s.1 s.2.1 s.2.2.1 s.2.2.2.1 s.2.2.2.2.1 s.2.2.2.2.2.1 s.2.2.2.2.2.2 h
    | .inr (e, s, h) => Jk5_0 rc md h0 e s.1 s.2.1 s.2.2.1 s.2.2.2.1 s.2.2.2.2.1 s.2.2.2.2.2.1 s.2.2.2.2.2.2 h := by
  unfold J5_0
  rw [runL_eq]
  refine congrArg (Option.bind _) (funext fun x => ?_)
  rcases x with ⟨s, h⟩ | ⟨e, s, h⟩ <;> rfl
theorem J5_0_cut (rc : Rec) (md : Md) (h0 : Heap) : cut Try.prog cfg rc md 102 (bodyOf Try.prog 5) [1, 1, 1, 1, 0, 1, 0] (retK Try.prog cfg 5 (rsOf Try.prog 5) h0) = fun t h => J5_0 rc md h0 (t 1) (t 2) (t 6) (t 7) (t 23) (t 24) (t 25) h := by
  funext t h
  have e : sub (bodyOf Try.prog 5) [1, 1, 1, 1, 0, 1, 0] = .loop (sub (bodyOf Try.prog 5) [1, 1, 1, 1, 0, 1, 0, 0]) := by kernel_rfl
  unfold cut
  rw [e]
  exact loop_eq (by kernel_rfl) (fun t => (t 1, t 2, t 6, t 7, t 23, t 24, t 25)) (fun x : (Value × Value × Value × Value × Value × Value × Value) × Heap => Jr5_0 rc md x.1.1 x.1.2.1 x.1.2.2.1 x.1.2.2.2.1 x.1.2.2.2.2.1 x.1.2.2.2.2.2.1 x.1.2.2.2.2.2.2 x.2) (fun t h => Jr5_0_at rc md t h) (fun e (s : Value × Value × Value × Value × Value × Value × Value) h => Jk5_0 rc md h0 e s.1 s.2.1 s.2.2.1 s.2.2.2.1 s.2.2.2.2.1 s.2.2.2.2.2.1 s.2.2.2.2.2.2 h) (fun e t h => Jk5_0_at rc md h0 e t h) t h
noncomputable def F5 (rc : Rec) (md : Md) (a0_0 : Int) (a0_1 : Int) (a0_2 : Int) (a0_3 : Value) (a0_4 : Value) (a1 : Int) (a2 : Int) (h0 : Heap) : Option (Value × Heap) :=
  let h1 : Heap := h0 ++ [.own [(.int .i64 a0_0), (.int .i64 a0_1), (.int .i64 a0_2), a0_3, a0_4]]
  ldN 5 (.pointer (some ⟨h0.length, 0, none⟩)) h1 fun v2 =>
  cl (rc md 13 [v2] h1) fun v3 h4 =>
  cBn v3 fun b5 =>
  bif !b5 then
    cl (rc md 14 [] h4) fun v6 h7 =>
    cBn v6 fun b8 =>
    some ((.bool b8), List.take h0.length h7)
  else
    ldN 5 (.pointer (some ⟨h0.length, 0, none⟩)) h4 fun v9 =>
    cl (rc md 15 [v9] h4) fun v10 h11 =>
    aBin Try.prog .eql 30 v10 (.pointer none) fun v12 =>
    cBn v12 fun b13 =>
    bif b13 then
      some ((.bool false), List.take h0.length h11)
    else
      ld1 (.pointer (some ⟨h0.length, 4, none⟩)) h11 fun v14 =>
      lenS v14 fun v15 =>
      cIn .i64 v15 fun n16 =>
      J5_0 rc md h0 (.int .i64 a1) (.int .i64 a2) (.bool false) v10 v14 (.int .i64 n16) (.int .i64 0) h11
noncomputable def F5H (rc : Rec) (md : Md) (X0 : T → Heap → Option (Value × Heap)) (a0_0 : Int) (a0_1 : Int) (a0_2 : Int) (a0_3 : Value) (a0_4 : Value) (a1 : Int) (a2 : Int) (h0 : Heap) : Option (Value × Heap) :=
  let h1 : Heap := h0 ++ [.own [(.int .i64 a0_0), (.int .i64 a0_1), (.int .i64 a0_2), a0_3, a0_4]]
  ldN 5 (.pointer (some ⟨h0.length, 0, none⟩)) h1 fun v2 =>
  cl (rc md 13 [v2] h1) fun v3 h4 =>
  cBn v3 fun b5 =>
  bif !b5 then
    cl (rc md 14 [] h4) fun v6 h7 =>
    cBn v6 fun b8 =>
    some ((.bool b8), List.take h0.length h7)
  else
    ldN 5 (.pointer (some ⟨h0.length, 0, none⟩)) h4 fun v9 =>
    cl (rc md 15 [v9] h4) fun v10 h11 =>
    aBin Try.prog .eql 30 v10 (.pointer none) fun v12 =>
    cBn v12 fun b13 =>
    bif b13 then
      some ((.bool false), List.take h0.length h11)
    else
      ld1 (.pointer (some ⟨h0.length, 4, none⟩)) h11 fun v14 =>
      lenS v14 fun v15 =>
      cIn .i64 v15 fun n16 =>
      X0 (upd (upd (upd (upd (upd (upd (upd (upd (upd (upd (upd (upd (upd (upd (args0 [(.agg #[(.int .i64 a0_0), (.int .i64 a0_1), (.int .i64 a0_2), a0_3, a0_4]), (.int .i64 a1), (.int .i64 a2)]) 3 (.pointer (some ⟨h0.length, 0, none⟩))) 6 (.bool false)) 14 v2) 15 (.bool b5)) 16 (.bool (!b5))) 18 v9) 19 v10) 7 v10) 20 v10) 21 v12) 22 (.pointer (some ⟨h0.length, 4, none⟩))) 23 v14) 24 (.int .i64 n16)) 25 (.int .i64 0)) h11
theorem F5_h0 (rc : Rec) (md : Md) (a0_0 : Int) (a0_1 : Int) (a0_2 : Int) (a0_3 : Value) (a0_4 : Value) (a1 : Int) (a2 : Int) (h0 : Heap) : callStep0 Try.prog cfg rc md 5 [(.agg #[(.int .i64 a0_0), (.int .i64 a0_1), (.int .i64 a0_2), a0_3, a0_4]), (.int .i64 a1), (.int .i64 a2)] h0 = exec Try.prog cfg rc ⟨md.ro, h0.length⟩ 102 (bodyOf Try.prog 5) (retK Try.prog cfg 5 (rsOf Try.prog 5) h0) (args0 [(.agg #[(.int .i64 a0_0), (.int .i64 a0_1), (.int .i64 a0_2), a0_3, a0_4]), (.int .i64 a1), (.int .i64 a2)]) h0 := callStep0_run (by kernel_rfl) (by kernel_rfl) (by kernel_rfl)
theorem F5_h1 (rc : Rec) (md : Md) (X : Nat → T → Heap → Option (Value × Heap)) (a0_0 : Int) (a0_1 : Int) (a0_2 : Int) (a0_3 : Value) (a0_4 : Value) (a1 : Int) (a2 : Int) (h0 : Heap) : execG Try.prog cfg X rc md 102 (replS (bodyOf Try.prog 5) [([1, 1, 1, 1, 0, 1, 0], 0), ([1, 1, 1, 1, 1], 1)]) (retK Try.prog cfg 5 (rsOf Try.prog 5) h0) (args0 [(.agg #[(.int .i64 a0_0), (.int .i64 a0_1), (.int .i64 a0_2), a0_3, a0_4]), (.int .i64 a1), (.int .i64 a2)]) h0 = F5H rc md (X 0) a0_0 a0_1 a0_2 a0_3 a0_4 a1 a2 h0 := by kernel_rfl
theorem F5_h2 (rc : Rec) (md : Md) (a0_0 : Int) (a0_1 : Int) (a0_2 : Int) (a0_3 : Value) (a0_4 : Value) (a1 : Int) (a2 : Int) (h0 : Heap) : F5H rc md (fun t h => J5_0 rc md h0 (t 1) (t 2) (t 6) (t 7) (t 23) (t 24) (t 25) h) a0_0 a0_1 a0_2 a0_3 a0_4 a1 a2 h0 = F5 rc md a0_0 a0_1 a0_2 a0_3 a0_4 a1 a2 h0 := by unfold F5H F5; kernel_rfl
theorem F5_eq0 (rc : Rec) (md : Md) (a0_0 : Int) (a0_1 : Int) (a0_2 : Int) (a0_3 : Value) (a0_4 : Value) (a1 : Int) (a2 : Int) (h0 : Heap) : callStep0 Try.prog cfg rc md 5 [(.agg #[(.int .i64 a0_0), (.int .i64 a0_1), (.int .i64 a0_2), a0_3, a0_4]), (.int .i64 a1), (.int .i64 a2)] h0 = F5 rc ⟨md.ro, h0.length⟩ a0_0 a0_1 a0_2 a0_3 a0_4 a1 a2 h0 := by
  rw [F5_h0, exec_holes [([1, 1, 1, 1, 0, 1, 0], 0), ([1, 1, 1, 1, 1], 1)] (by kernel_rfl), F5_h1, show (goX Try.prog cfg rc ⟨md.ro, h0.length⟩ 102 (bodyOf Try.prog 5) [([1, 1, 1, 1, 0, 1, 0], 0), ([1, 1, 1, 1, 1], 1)] (retK Try.prog cfg 5 (rsOf Try.prog 5) h0)) 0 = _ from J5_0_cut rc ⟨md.ro, h0.length⟩ h0]
  exact F5_h2 rc _ a0_0 a0_1 a0_2 a0_3 a0_4 a1 a2 h0
theorem F5_eq (rc : Rec) (md : Md) (a0_0 : Int) (a0_1 : Int) (a0_2 : Int) (a0_3 : Value) (a0_4 : Value) (a1 : Int) (a2 : Int) (h0 : Heap) : callStep Try.prog cfg rc md 5 [(.agg #[(.int .i64 a0_0), (.int .i64 a0_1), (.int .i64 a0_2), a0_3, a0_4]), (.int .i64 a1), (.int .i64 a2)] h0 = F5 rc ⟨md.ro, h0.length⟩ a0_0 a0_1 a0_2 a0_3 a0_4 a1 a2 h0 := (callStep_ne (by kernel_rfl)).trans (F5_eq0 rc md a0_0 a0_1 a0_2 a0_3 a0_4 a1 a2 h0)

end Go.Det.E
