/- Printed functions. -/
import Derived.Test.YtodeenahpoobkaaE3
import Derived.Test.YtodeenahpoobkaaDetT
import Derived.Test.YtodeenahpoobkaaDetX
import Derived.Test.YtodeenahpoobkaaProg
set_option autoImplicit false
set_option linter.unusedVariables false
set_option linter.unusedSimpArgs false
namespace Go.Det.E
open Go.Proofs Go.Det
/-- (tombolo/treap.Trees).List -/
noncomputable def F20 (rc : Rec) (md : Md) (a0_0 : Int) (a0_1 : Int) (a0_2 : Int) (a0_3 : Value) (a0_4 : Int) (a0_5 : Int) (a1 : Int) (h0 : Heap) : Option (Value × Heap) :=
  let h1 : Heap := h0 ++ [.own [(.int .i64 a0_0), (.int .i64 a0_1), (.int .i64 a0_2), a0_3, (.int .i64 a0_4), (.int .i64 a0_5)]]
  bif (a1 == 0) then
    some ((.slice none 0 0), h1)
  else
    ldN 6 (.pointer (some ⟨h0.length, 0, none⟩)) h1 fun v2 =>
    ldN 6 (.pointer (some ⟨h0.length, 0, none⟩)) h1 fun v3 =>
    cl (rc md 63 [v3, (.int .i64 a1), (.int .i64 3)] h1) fun v4 h5 =>
    cIn .i64 v4 fun n6 =>
    cLE true (fun hq => ldN 6 (.pointer (some ⟨h0.length, 0, none⟩)) hq some) v2 h1 h5 <|
    cl (rc md 20 [v2, (.int .i64 n6)] h5) fun v7 h8 =>
    let h9 : Heap := h8 ++ [.own [(.int .i64 a1)]]
    cLE true (fun hq => ldN 6 (.pointer (some ⟨h0.length, 0, none⟩)) hq some) v3 h8 h9 <|
    cLE true (fun hq => ldN 6 (.pointer (some ⟨h0.length, 0, none⟩)) hq some) v2 h8 h9 <|
    aBuiltin Try.prog md .append #[44, 44] [v7, (.slice (some ⟨h8.length, 0, none⟩) 1 1)] h9 fun v10 h11 =>
    ldN 6 (.pointer (some ⟨h0.length, 0, none⟩)) h11 fun v12 =>
    ldN 6 (.pointer (some ⟨h0.length, 0, none⟩)) h11 fun v13 =>
    cl (rc md 63 [v13, (.int .i64 a1), (.int .i64 4)] h11) fun v14 h15 =>
    cIn .i64 v14 fun n16 =>
    cLE true (fun hq => ldN 6 (.pointer (some ⟨h0.length, 0, none⟩)) hq some) v12 h11 h15 <|
    cl (rc md 20 [v12, (.int .i64 n16)] h15) fun v17 h18 =>
    aBuiltin Try.prog md .append #[44, 44] [v10, v17] h18 fun v19 h20 =>
    some (v19, h20)
theorem F20_eq0 (rc : Rec) (md : Md) (a0_0 : Int) (a0_1 : Int) (a0_2 : Int) (a0_3 : Value) (a0_4 : Int) (a0_5 : Int) (a1 : Int) (h0 : Heap) : callStep0 Try.prog cfg rc md 20 [(.agg #[(.int .i64 a0_0), (.int .i64 a0_1), (.int .i64 a0_2), a0_3, (.int .i64 a0_4), (.int .i64 a0_5)]), (.int .i64 a1)] h0 = F20 rc md a0_0 a0_1 a0_2 a0_3 a0_4 a0_5 a1 h0 := by kernel_rfl
theorem F20_eq (rc : Rec) (md : Md) (a0_0 : Int) (a0_1 : Int) (a0_2 : Int) (a0_3 : Value) (a0_4 : Int) (a0_5 : Int) (a1 : Int) (h0 : Heap) : callStep Try.prog cfg rc md 20 [(.agg #[(.int .i64 a0_0), (.int .i64 a0_1), (.int .i64 a0_2), a0_3, (.int .i64 a0_4), (.int .i64 a0_5)]), (.int .i64 a1)] h0 = F20 rc md a0_0 a0_1 a0_2 a0_3 a0_4 a0_5 a1 h0 := (callStep_ne (by kernel_rfl)).trans (F20_eq0 rc md a0_0 a0_1 a0_2 a0_3 a0_4 a0_5 a1 h0)

/-- (tombolo/treap.Trees).Root -/
noncomputable def Jk21_0 (rc : Rec) (md : Md) (h0 : Heap) (e : Exit) (s1 : Value) (s2 : Value) (s4 : Value) (h : Heap) : Option (Value × Heap) :=
  match e with
  | .normal =>
    fin1 h0 s1 h
  | .exit j =>
    bif Nat.beq j 0 then
      fin1 h0 s1 h
    else
      none
  | .ret =>
    fin1 h0 s4 h
  | .goto l => none
  | .panic ps => none
  | .outgrown => none
theorem Jk21_0_at (rc : Rec) (md : Md) (h0 : Heap) (e : Exit) (t : T) (h : Heap) : kAt Try.prog cfg rc md 15 (bodyOf Try.prog 21) [1, 0, 0] (retK Try.prog cfg 21 (rsOf Try.prog 21) h0) e t h = Jk21_0 rc md h0 e (t 1) (t 2) (t 4) h := by cases e <;> kernel_rfl
/-- a round -/
noncomputable def Jr21_0 (rc : Rec) (md : Md) (s1 : Value) (s2 : Value) (s4 : Value) (h : Heap) : Option (((Value × Value × Value) × Heap) ⊕ (Exit × (Value × Value × Value) × Heap)) :=
  aBin Try.prog .neq 3 s1 (.int .i64 0) fun v1 =>
  cBn v1 fun b2 =>
  bif b2 then
    ldN 6 s2 h fun v3 =>
    cl (rc md 64 [v3, s1] h) fun v4 h5 =>
    cIn .i64 v4 fun n6 =>
    bif (n6 == 0) then
      some (.inr ((.exit 0), (s1, s2, s4), h5))
    else
      some (.inl (((.int .i64 n6), s2, s4), h5))
  else
    some (.inr ((.exit 0), (s1, s2, s4), h))
theorem Jr21_0_at (rc : Rec) (md : Md) (t : T) (h : Heap) : exec Try.prog cfg rc md 15 (sub (bodyOf Try.prog 21) [1, 0, 0, 0]) (rndK (fun t => (t 1, t 2, t 4))) t h = Jr21_0 rc md (t 1) (t 2) (t 4) h := by kernel_rfl
noncomputable def J21_0 (rc : Rec) (md : Md) (h0 : Heap) (s1 : Value) (s2 : Value) (s4 : Value) (h : Heap) : Option (Value × Heap) :=
  runL (fun x : (Value × Value × Value) × Heap => Jr21_0 rc md x.1.1 x.1.2.1 x.1.2.2 x.2) (fun e (s : Value × Value × Value) h => Jk21_0 rc md h0 e s.1 s.2.1 s.2.2 h) (s1, s2, s4) h
theorem J21_0_step (rc : Rec) (md : Md) (h0 : Heap) (s1 : Value) (s2 : Value) (s4 : Value) (h : Heap) : J21_0 rc md h0 s1 s2 s4 h = (Jr21_0 rc md s1 s2 s4 h).bind fun x => match x with
    | .inl (s, h) => J21_0 rc md h0 s.1 s.2.1 s.2.2 h
    | .inr (e, s, h) => Jk21_0 rc md h0 e s.1 s.2.1 s.2.2 h := by
  unfold J21_0
  rw [runL_eq]
  refine congrArg (Option.bind _) (funext fun x => ?_)
  rcases x with ⟨s, h⟩ | ⟨e, s, h⟩ <;> rfl
theorem J21_0_cut (rc : Rec) (md : Md) (h0 : Heap) : cut Try.prog cfg rc md 15 (bodyOf Try.prog 21) [1, 0, 0] (retK Try.prog cfg 21 (rsOf Try.prog 21) h0) = fun t h => J21_0 rc md h0 (t 1) (t 2) (t 4) h := by
  funext t h
  have e : sub (bodyOf Try.prog 21) [1, 0, 0] = .loop (sub (bodyOf Try.prog 21) [1, 0, 0, 0]) := by kernel_rfl
  unfold cut
  rw [e]
  exact loop_eq (by kernel_rfl) (fun t => (t 1, t 2, t 4)) (fun x : (Value × Value × Value) × Heap => Jr21_0 rc md x.1.1 x.1.2.1 x.1.2.2 x.2) (fun t h => Jr21_0_at rc md t h) (fun e (s : Value × Value × Value) h => Jk21_0 rc md h0 e s.1 s.2.1 s.2.2 h) (fun e t h => Jk21_0_at rc md h0 e t h) t h
noncomputable def F21 (rc : Rec) (md : Md) (a0_0 : Int) (a0_1 : Int) (a0_2 : Int) (a0_3 : Value) (a0_4 : Int) (a0_5 : Int) (a1 : Int) (h0 : Heap) : Option (Value × Heap) :=
  let h1 : Heap := h0 ++ [.own [(.int .i64 a0_0), (.int .i64 a0_1), (.int .i64 a0_2), a0_3, (.int .i64 a0_4), (.int .i64 a0_5)]]
  J21_0 rc md h0 (.int .i64 a1) (.pointer (some ⟨h0.length, 0, none⟩)) (.int .i64 0) h1
noncomputable def F21H (rc : Rec) (md : Md) (X0 : T → Heap → Option (Value × Heap)) (a0_0 : Int) (a0_1 : Int) (a0_2 : Int) (a0_3 : Value) (a0_4 : Int) (a0_5 : Int) (a1 : Int) (h0 : Heap) : Option (Value × Heap) :=
  let h1 : Heap := h0 ++ [.own [(.int .i64 a0_0), (.int .i64 a0_1), (.int .i64 a0_2), a0_3, (.int .i64 a0_4), (.int .i64 a0_5)]]
  X0 (upd (upd (args0 [(.agg #[(.int .i64 a0_0), (.int .i64 a0_1), (.int .i64 a0_2), a0_3, (.int .i64 a0_4), (.int .i64 a0_5)]), (.int .i64 a1)]) 2 (.pointer (some ⟨h0.length, 0, none⟩))) 4 (.int .i64 0)) h1
theorem F21_h0 (rc : Rec) (md : Md) (a0_0 : Int) (a0_1 : Int) (a0_2 : Int) (a0_3 : Value) (a0_4 : Int) (a0_5 : Int) (a1 : Int) (h0 : Heap) : callStep0 Try.prog cfg rc md 21 [(.agg #[(.int .i64 a0_0), (.int .i64 a0_1), (.int .i64 a0_2), a0_3, (.int .i64 a0_4), (.int .i64 a0_5)]), (.int .i64 a1)] h0 = exec Try.prog cfg rc ⟨md.ro, h0.length⟩ 15 (bodyOf Try.prog 21) (retK Try.prog cfg 21 (rsOf Try.prog 21) h0) (args0 [(.agg #[(.int .i64 a0_0), (.int .i64 a0_1), (.int .i64 a0_2), a0_3, (.int .i64 a0_4), (.int .i64 a0_5)]), (.int .i64 a1)]) h0 := callStep0_run (by kernel_rfl) (by kernel_rfl) (by kernel_rfl)
theorem F21_h1 (rc : Rec) (md : Md) (X : Nat → T → Heap → Option (Value × Heap)) (a0_0 : Int) (a0_1 : Int) (a0_2 : Int) (a0_3 : Value) (a0_4 : Int) (a0_5 : Int) (a1 : Int) (h0 : Heap) : execG Try.prog cfg X rc md 15 (replS (bodyOf Try.prog 21) [([1, 0, 0], 0)]) (retK Try.prog cfg 21 (rsOf Try.prog 21) h0) (args0 [(.agg #[(.int .i64 a0_0), (.int .i64 a0_1), (.int .i64 a0_2), a0_3, (.int .i64 a0_4), (.int .i64 a0_5)]), (.int .i64 a1)]) h0 = F21H rc md (X 0) a0_0 a0_1 a0_2 a0_3 a0_4 a0_5 a1 h0 := by kernel_rfl
theorem F21_h2 (rc : Rec) (md : Md) (a0_0 : Int) (a0_1 : Int) (a0_2 : Int) (a0_3 : Value) (a0_4 : Int) (a0_5 : Int) (a1 : Int) (h0 : Heap) : F21H rc md (fun t h => J21_0 rc md h0 (t 1) (t 2) (t 4) h) a0_0 a0_1 a0_2 a0_3 a0_4 a0_5 a1 h0 = F21 rc md a0_0 a0_1 a0_2 a0_3 a0_4 a0_5 a1 h0 := by unfold F21H F21; kernel_rfl
theorem F21_eq0 (rc : Rec) (md : Md) (a0_0 : Int) (a0_1 : Int) (a0_2 : Int) (a0_3 : Value) (a0_4 : Int) (a0_5 : Int) (a1 : Int) (h0 : Heap) : callStep0 Try.prog cfg rc md 21 [(.agg #[(.int .i64 a0_0), (.int .i64 a0_1), (.int .i64 a0_2), a0_3, (.int .i64 a0_4), (.int .i64 a0_5)]), (.int .i64 a1)] h0 = F21 rc ⟨md.ro, h0.length⟩ a0_0 a0_1 a0_2 a0_3 a0_4 a0_5 a1 h0 := by
  rw [F21_h0, exec_holes [([1, 0, 0], 0)] (by kernel_rfl), F21_h1, show (goX Try.prog cfg rc ⟨md.ro, h0.length⟩ 15 (bodyOf Try.prog 21) [([1, 0, 0], 0)] (retK Try.prog cfg 21 (rsOf Try.prog 21) h0)) 0 = _ from J21_0_cut rc ⟨md.ro, h0.length⟩ h0]
  exact F21_h2 rc _ a0_0 a0_1 a0_2 a0_3 a0_4 a0_5 a1 h0
theorem F21_eq (rc : Rec) (md : Md) (a0_0 : Int) (a0_1 : Int) (a0_2 : Int) (a0_3 : Value) (a0_4 : Int) (a0_5 : Int) (a1 : Int) (h0 : Heap) : callStep Try.prog cfg rc md 21 [(.agg #[(.int .i64 a0_0), (.int .i64 a0_1), (.int .i64 a0_2), a0_3, (.int .i64 a0_4), (.int .i64 a0_5)]), (.int .i64 a1)] h0 = F21 rc ⟨md.ro, h0.length⟩ a0_0 a0_1 a0_2 a0_3 a0_4 a0_5 a1 h0 := (callStep_ne (by kernel_rfl)).trans (F21_eq0 rc md a0_0 a0_1 a0_2 a0_3 a0_4 a0_5 a1 h0)

/-- (tombolo/treap.Trees).Index -/
noncomputable def Jk22_0 (rc : Rec) (md : Md) (h0 : Heap) (e : Exit) (s1 : Value) (s2 : Value) (s4 : Value) (s5 : Value) (h : Heap) : Option (Value × Heap) :=
  match e with
  | .normal =>
    fin1 h0 s4 h
  | .exit j =>
    bif Nat.beq j 0 then
      fin1 h0 s4 h
    else
      none
  | .ret =>
    fin1 h0 s4 h
  | .goto l => none
  | .panic ps => none
  | .outgrown => none
theorem Jk22_0_at (rc : Rec) (md : Md) (h0 : Heap) (e : Exit) (t : T) (h : Heap) : kAt Try.prog cfg rc md 32 (bodyOf Try.prog 22) [1, 1, 0] (retK Try.prog cfg 22 (rsOf Try.prog 22) h0) e t h = Jk22_0 rc md h0 e (t 1) (t 2) (t 4) (t 5) h := by cases e <;> kernel_rfl
/-- a round -/
noncomputable def Jr22_0 (rc : Rec) (md : Md) (s1 : Value) (s2 : Value) (s4 : Value) (s5 : Value) (h : Heap) : Option (((Value × Value × Value × Value) × Heap) ⊕ (Exit × (Value × Value × Value × Value) × Heap)) :=
  ldN 6 s2 h fun v1 =>
  cl (rc md 64 [v1, s1] h) fun v2 h3 =>
  cIn .i64 v2 fun n4 =>
  bif (n4 == 0) then
    some (.inr (.ret, (s1, s2, s5, s5), h3))
  else
    ldN 6 s2 h3 fun v5 =>
    cl (rc md 63 [v5, (.int .i64 n4), (.int .i64 4)] h3) fun v6 h7 =>
    cIn .i64 v6 fun n8 =>
    aBin Try.prog .eql 3 (.int .i64 n8) s1 fun v9 =>
    cBn v9 fun b10 =>
    bif b10 then
      ldN 6 s2 h7 fun v11 =>
      ldN 6 s2 h7 fun v12 =>
      cl (rc md 63 [v12, (.int .i64 n4), (.int .i64 3)] h7) fun v13 h14 =>
      cIn .i64 v13 fun n15 =>
      cLE true (fun hq => ldN 6 s2 hq some) v11 h7 h14 <|
      cl (rc md 23 [v11, (.int .i64 n15)] h14) fun v16 h17 =>
      cIn .i64 v16 fun n18 =>
      aBin Try.prog .add 3 s5 (.int .i64 (IntKind.wrap .i64 (1 + n18))) fun v19 =>
      some (.inl (((.int .i64 n4), s2, s4, v19), h17))
    else
      some (.inl (((.int .i64 n4), s2, s4, s5), h7))
theorem Jr22_0_at (rc : Rec) (md : Md) (t : T) (h : Heap) : exec Try.prog cfg rc md 32 (sub (bodyOf Try.prog 22) [1, 1, 0, 0]) (rndK (fun t => (t 1, t 2, t 4, t 5))) t h = Jr22_0 rc md (t 1) (t 2) (t 4) (t 5) h := by kernel_rfl
noncomputable def J22_0 (rc : Rec) (md : Md) (h0 : Heap) (s1 : Value) (s2 : Value) (s4 : Value) (s5 : Value) (h : Heap) : Option (Value × Heap) :=
  runL (fun x : (Value × Value × Value × Value) × Heap => Jr22_0 rc md x.1.1 x.1.2.1 x.1.2.2.1 x.1.2.2.2 x.2) (fun e (s : Value × Value × Value × Value) h => Jk22_0 rc md h0 e s.1 s.2.1 s.2.2.1 s.2.2.2 h) (s1, s2, s4, s5) h
theorem J22_0_step (rc : Rec) (md : Md) (h0 : Heap) (s1 : Value) (s2 : Value) (s4 : Value) (s5 : Value) (h : Heap) : J22_0 rc md h0 s1 s2 s4 s5 h = (Jr22_0 rc md s1 s2 s4 s5 h).bind fun x => match x with
    | .inl (s, h) => J22_0 rc md h0 s.1 s.2.1 s.2.2.1 s.2.2.2 h
    | .inr (e, s, h) => Jk22_0 rc md h0 e s.1 s.2.1 s.2.2.1 s.2.2.2 h := by
  unfold J22_0
  rw [runL_eq]
  refine congrArg (Option.bind _) (funext fun x => ?_)
  rcases x with ⟨s, h⟩ | ⟨e, s, h⟩ <;> rfl
theorem J22_0_cut (rc : Rec) (md : Md) (h0 : Heap) : cut Try.prog cfg rc md 32 (bodyOf Try.prog 22) [1, 1, 0] (retK Try.prog cfg 22 (rsOf Try.prog 22) h0) = fun t h => J22_0 rc md h0 (t 1) (t 2) (t 4) (t 5) h := by
  funext t h
  have e : sub (bodyOf Try.prog 22) [1, 1, 0] = .loop (sub (bodyOf Try.prog 22) [1, 1, 0, 0]) := by kernel_rfl
  unfold cut
  rw [e]
  exact loop_eq (by kernel_rfl) (fun t => (t 1, t 2, t 4, t 5)) (fun x : (Value × Value × Value × Value) × Heap => Jr22_0 rc md x.1.1 x.1.2.1 x.1.2.2.1 x.1.2.2.2 x.2) (fun t h => Jr22_0_at rc md t h) (fun e (s : Value × Value × Value × Value) h => Jk22_0 rc md h0 e s.1 s.2.1 s.2.2.1 s.2.2.2 h) (fun e t h => Jk22_0_at rc md h0 e t h) t h
noncomputable def F22 (rc : Rec) (md : Md) (a0_0 : Int) (a0_1 : Int) (a0_2 : Int) (a0_3 : Value) (a0_4 : Int) (a0_5 : Int) (a1 : Int) (h0 : Heap) : Option (Value × Heap) :=
  let h1 : Heap := h0 ++ [.own [(.int .i64 a0_0), (.int .i64 a0_1), (.int .i64 a0_2), a0_3, (.int .i64 a0_4), (.int .i64 a0_5)]]
  ldN 6 (.pointer (some ⟨h0.length, 0, none⟩)) h1 fun v2 =>
  ldN 6 (.pointer (some ⟨h0.length, 0, none⟩)) h1 fun v3 =>
  cl (rc md 63 [v3, (.int .i64 a1), (.int .i64 3)] h1) fun v4 h5 =>
  cIn .i64 v4 fun n6 =>
  cLE true (fun hq => ldN 6 (.pointer (some ⟨h0.length, 0, none⟩)) hq some) v2 h1 h5 <|
  cl (rc md 23 [v2, (.int .i64 n6)] h5) fun v7 h8 =>
  cIn .i64 v7 fun n9 =>
  J22_0 rc md h0 (.int .i64 a1) (.pointer (some ⟨h0.length, 0, none⟩)) (.int .i64 0) (.int .i64 n9) h8
noncomputable def F22H (rc : Rec) (md : Md) (X0 : T → Heap → Option (Value × Heap)) (a0_0 : Int) (a0_1 : Int) (a0_2 : Int) (a0_3 : Value) (a0_4 : Int) (a0_5 : Int) (a1 : Int) (h0 : Heap) : Option (Value × Heap) :=
  let h1 : Heap := h0 ++ [.own [(.int .i64 a0_0), (.int .i64 a0_1), (.int .i64 a0_2), a0_3, (.int .i64 a0_4), (.int .i64 a0_5)]]
  ldN 6 (.pointer (some ⟨h0.length, 0, none⟩)) h1 fun v2 =>
  ldN 6 (.pointer (some ⟨h0.length, 0, none⟩)) h1 fun v3 =>
  cl (rc md 63 [v3, (.int .i64 a1), (.int .i64 3)] h1) fun v4 h5 =>
  cIn .i64 v4 fun n6 =>
  cLE true (fun hq => ldN 6 (.pointer (some ⟨h0.length, 0, none⟩)) hq some) v2 h1 h5 <|
  cl (rc md 23 [v2, (.int .i64 n6)] h5) fun v7 h8 =>
  cIn .i64 v7 fun n9 =>
  X0 (upd (upd (upd (upd (upd (upd (upd (upd (args0 [(.agg #[(.int .i64 a0_0), (.int .i64 a0_1), (.int .i64 a0_2), a0_3, (.int .i64 a0_4), (.int .i64 a0_5)]), (.int .i64 a1)]) 2 (.pointer (some ⟨h0.length, 0, none⟩))) 4 (.int .i64 0)) 7 v2) 8 v3) 9 (.int .i64 a1)) 10 (.int .i64 n6)) 11 (.int .i64 n9)) 5 (.int .i64 n9)) h8
theorem F22_h0 (rc : Rec) (md : Md) (a0_0 : Int) (a0_1 : Int) (a0_2 : Int) (a0_3 : Value) (a0_4 : Int) (a0_5 : Int) (a1 : Int) (h0 : Heap) : callStep0 Try.prog cfg rc md 22 [(.agg #[(.int .i64 a0_0), (.int .i64 a0_1), (.int .i64 a0_2), a0_3, (.int .i64 a0_4), (.int .i64 a0_5)]), (.int .i64 a1)] h0 = exec Try.prog cfg rc ⟨md.ro, h0.length⟩ 32 (bodyOf Try.prog 22) (retK Try.prog cfg 22 (rsOf Try.prog 22) h0) (args0 [(.agg #[(.int .i64 a0_0), (.int .i64 a0_1), (.int .i64 a0_2), a0_3, (.int .i64 a0_4), (.int .i64 a0_5)]), (.int .i64 a1)]) h0 := callStep0_run (by kernel_rfl) (by kernel_rfl) (by kernel_rfl)
theorem F22_h1 (rc : Rec) (md : Md) (X : Nat → T → Heap → Option (Value × Heap)) (a0_0 : Int) (a0_1 : Int) (a0_2 : Int) (a0_3 : Value) (a0_4 : Int) (a0_5 : Int) (a1 : Int) (h0 : Heap) : execG Try.prog cfg X rc md 32 (replS (bodyOf Try.prog 22) [([1, 1, 0], 0)]) (retK Try.prog cfg 22 (rsOf Try.prog 22) h0) (args0 [(.agg #[(.int .i64 a0_0), (.int .i64 a0_1), (.int .i64 a0_2), a0_3, (.int .i64 a0_4), (.int .i64 a0_5)]), (.int .i64 a1)]) h0 = F22H rc md (X 0) a0_0 a0_1 a0_2 a0_3 a0_4 a0_5 a1 h0 := by kernel_rfl
theorem F22_h2 (rc : Rec) (md : Md) (a0_0 : Int) (a0_1 : Int) (a0_2 : Int) (a0_3 : Value) (a0_4 : Int) (a0_5 : Int) (a1 : Int) (h0 : Heap) : F22H rc md (fun t h => J22_0 rc md h0 (t 1) (t 2) (t 4) (t 5) h) a0_0 a0_1 a0_2 a0_3 a0_4 a0_5 a1 h0 = F22 rc md a0_0 a0_1 a0_2 a0_3 a0_4 a0_5 a1 h0 := by unfold F22H F22; kernel_rfl
theorem F22_eq0 (rc : Rec) (md : Md) (a0_0 : Int) (a0_1 : Int) (a0_2 : Int) (a0_3 : Value) (a0_4 : Int) (a0_5 : Int) (a1 : Int) (h0 : Heap) : callStep0 Try.prog cfg rc md 22 [(.agg #[(.int .i64 a0_0), (.int .i64 a0_1), (.int .i64 a0_2), a0_3, (.int .i64 a0_4), (.int .i64 a0_5)]), (.int .i64 a1)] h0 = F22 rc ⟨md.ro, h0.length⟩ a0_0 a0_1 a0_2 a0_3 a0_4 a0_5 a1 h0 := by
  rw [F22_h0, exec_holes [([1, 1, 0], 0)] (by kernel_rfl), F22_h1, show (goX Try.prog cfg rc ⟨md.ro, h0.length⟩ 32 (bodyOf Try.prog 22) [([1, 1, 0], 0)] (retK Try.prog cfg 22 (rsOf Try.prog 22) h0)) 0 = _ from J22_0_cut rc ⟨md.ro, h0.length⟩ h0]
  exact F22_h2 rc _ a0_0 a0_1 a0_2 a0_3 a0_4 a0_5 a1 h0
theorem F22_eq (rc : Rec) (md : Md) (a0_0 : Int) (a0_1 : Int) (a0_2 : Int) (a0_3 : Value) (a0_4 : Int) (a0_5 : Int) (a1 : Int) (h0 : Heap) : callStep Try.prog cfg rc md 22 [(.agg #[(.int .i64 a0_0), (.int .i64 a0_1), (.int .i64 a0_2), a0_3, (.int .i64 a0_4), (.int .i64 a0_5)]), (.int .i64 a1)] h0 = F22 rc ⟨md.ro, h0.length⟩ a0_0 a0_1 a0_2 a0_3 a0_4 a0_5 a1 h0 := (callStep_ne (by kernel_rfl)).trans (F22_eq0 rc md a0_0 a0_1 a0_2 a0_3 a0_4 a0_5 a1 h0)

/-- (tombolo/treap.Trees).Size -/
noncomputable def F23 (rc : Rec) (md : Md) (a0_0 : Int) (a0_1 : Int) (a0_2 : Int) (a0_3 : Value) (a0_4 : Int) (a0_5 : Int) (a1 : Int) (h0 : Heap) : Option (Value × Heap) :=
  let h1 : Heap := h0 ++ [.own [(.int .i64 a0_0), (.int .i64 a0_1), (.int .i64 a0_2), a0_3, (.int .i64 a0_4), (.int .i64 a0_5)]]
  ldN 6 (.pointer (some ⟨h0.length, 0, none⟩)) h1 fun v2 =>
  cl (rc md 65 [v2, (.int .i64 a1)] h1) fun v3 h4 =>
  cIn .u64 v3 fun n5 =>
  some ((.int .i64 (IntKind.wrap .i64 (bAnd .u64 n5 65535))), List.take h0.length h4)
theorem F23_eq0 (rc : Rec) (md : Md) (a0_0 : Int) (a0_1 : Int) (a0_2 : Int) (a0_3 : Value) (a0_4 : Int) (a0_5 : Int) (a1 : Int) (h0 : Heap) : callStep0 Try.prog cfg rc md 23 [(.agg #[(.int .i64 a0_0), (.int .i64 a0_1), (.int .i64 a0_2), a0_3, (.int .i64 a0_4), (.int .i64 a0_5)]), (.int .i64 a1)] h0 = F23 rc ⟨md.ro, h0.length⟩ a0_0 a0_1 a0_2 a0_3 a0_4 a0_5 a1 h0 := by kernel_rfl
theorem F23_eq (rc : Rec) (md : Md) (a0_0 : Int) (a0_1 : Int) (a0_2 : Int) (a0_3 : Value) (a0_4 : Int) (a0_5 : Int) (a1 : Int) (h0 : Heap) : callStep Try.prog cfg rc md 23 [(.agg #[(.int .i64 a0_0), (.int .i64 a0_1), (.int .i64 a0_2), a0_3, (.int .i64 a0_4), (.int .i64 a0_5)]), (.int .i64 a1)] h0 = F23 rc ⟨md.ro, h0.length⟩ a0_0 a0_1 a0_2 a0_3 a0_4 a0_5 a1 h0 := (callStep_ne (by kernel_rfl)).trans (F23_eq0 rc md a0_0 a0_1 a0_2 a0_3 a0_4 a0_5 a1 h0)

/-- (tombolo/treap.Trees).Vertices -/
noncomputable def F24 (rc : Rec) (md : Md) (a0_0 : Int) (a0_1 : Int) (a0_2 : Int) (a0_3 : Value) (a0_4 : Int) (a0_5 : Int) (a1 : Int) (h0 : Heap) : Option (Value × Heap) :=
  let h1 : Heap := h0 ++ [.own [(.int .i64 a0_0), (.int .i64 a0_1), (.int .i64 a0_2), a0_3, (.int .i64 a0_4), (.int .i64 a0_5)]]
  ldN 6 (.pointer (some ⟨h0.length, 0, none⟩)) h1 fun v2 =>
  cl (rc md 65 [v2, (.int .i64 a1)] h1) fun v3 h4 =>
  cIn .u64 v3 fun n5 =>
  some ((.int .i64 (IntKind.wrap .i64 (bAnd .u64 (Int.fdiv n5 (2 ^ 16)) 65535))), List.take h0.length h4)
theorem F24_eq0 (rc : Rec) (md : Md) (a0_0 : Int) (a0_1 : Int) (a0_2 : Int) (a0_3 : Value) (a0_4 : Int) (a0_5 : Int) (a1 : Int) (h0 : Heap) : callStep0 Try.prog cfg rc md 24 [(.agg #[(.int .i64 a0_0), (.int .i64 a0_1), (.int .i64 a0_2), a0_3, (.int .i64 a0_4), (.int .i64 a0_5)]), (.int .i64 a1)] h0 = F24 rc ⟨md.ro, h0.length⟩ a0_0 a0_1 a0_2 a0_3 a0_4 a0_5 a1 h0 := by kernel_rfl
theorem F24_eq (rc : Rec) (md : Md) (a0_0 : Int) (a0_1 : Int) (a0_2 : Int) (a0_3 : Value) (a0_4 : Int) (a0_5 : Int) (a1 : Int) (h0 : Heap) : callStep Try.prog cfg rc md 24 [(.agg #[(.int .i64 a0_0), (.int .i64 a0_1), (.int .i64 a0_2), a0_3, (.int .i64 a0_4), (.int .i64 a0_5)]), (.int .i64 a1)] h0 = F24 rc ⟨md.ro, h0.length⟩ a0_0 a0_1 a0_2 a0_3 a0_4 a0_5 a1 h0 := (callStep_ne (by kernel_rfl)).trans (F24_eq0 rc md a0_0 a0_1 a0_2 a0_3 a0_4 a0_5 a1 h0)

/-- (tombolo/treap.Trees).Split -/
noncomputable def F28 (rc : Rec) (md : Md) (a0_0 : Int) (a0_1 : Int) (a0_2 : Int) (a0_3 : Value) (a0_4 : Int) (a0_5 : Int) (a1 : Int) (a2 : Int) (h0 : Heap) : Option (Value × Heap) :=
  let h1 : Heap := h0 ++ [.own [(.int .i64 a0_0), (.int .i64 a0_1), (.int .i64 a0_2), a0_3, (.int .i64 a0_4), (.int .i64 a0_5)]]
  ldN 6 (.pointer (some ⟨h0.length, 0, none⟩)) h1 fun v2 =>
  ldN 6 (.pointer (some ⟨h0.length, 0, none⟩)) h1 fun v3 =>
  cl (rc md 23 [v3, (.int .i64 a1)] h1) fun v4 h5 =>
  cIn .i64 v4 fun n6 =>
  cLE true (fun hq => ldN 6 (.pointer (some ⟨h0.length, 0, none⟩)) hq some) v2 h1 h5 <|
  cl (rc md 68 [v2, (.int .i64 a1), (.int .i64 (if n6 < (if 0 > a2 then 0 else a2) then n6 else (if 0 > a2 then 0 else a2)))] h5) fun v7 h8 =>
  exT v7 0 fun v9 =>
  cIn .i64 v9 fun n10 =>
  exT v7 1 fun v11 =>
  cIn .i64 v11 fun n12 =>
  ldN 6 (.pointer (some ⟨h0.length, 0, none⟩)) h8 fun v13 =>
  cl (rc md 69 [v13, (.int .i64 n10), (.int .i64 0)] h8) fun v14 h15 =>
  ldN 6 (.pointer (some ⟨h0.length, 0, none⟩)) h15 fun v16 =>
  cl (rc md 69 [v16, (.int .i64 n12), (.int .i64 0)] h15) fun v17 h18 =>
  some ((.tuple #[(.int .i64 n10), (.int .i64 n12)]), List.take h0.length h18)
theorem F28_eq0 (rc : Rec) (md : Md) (a0_0 : Int) (a0_1 : Int) (a0_2 : Int) (a0_3 : Value) (a0_4 : Int) (a0_5 : Int) (a1 : Int) (a2 : Int) (h0 : Heap) : callStep0 Try.prog cfg rc md 28 [(.agg #[(.int .i64 a0_0), (.int .i64 a0_1), (.int .i64 a0_2), a0_3, (.int .i64 a0_4), (.int .i64 a0_5)]), (.int .i64 a1), (.int .i64 a2)] h0 = F28 rc ⟨md.ro, h0.length⟩ a0_0 a0_1 a0_2 a0_3 a0_4 a0_5 a1 a2 h0 := by kernel_rfl
theorem F28_eq (rc : Rec) (md : Md) (a0_0 : Int) (a0_1 : Int) (a0_2 : Int) (a0_3 : Value) (a0_4 : Int) (a0_5 : Int) (a1 : Int) (a2 : Int) (h0 : Heap) : callStep Try.prog cfg rc md 28 [(.agg #[(.int .i64 a0_0), (.int .i64 a0_1), (.int .i64 a0_2), a0_3, (.int .i64 a0_4), (.int .i64 a0_5)]), (.int .i64 a1), (.int .i64 a2)] h0 = F28 rc ⟨md.ro, h0.length⟩ a0_0 a0_1 a0_2 a0_3 a0_4 a0_5 a1 a2 h0 := (callStep_ne (by kernel_rfl)).trans (F28_eq0 rc md a0_0 a0_1 a0_2 a0_3 a0_4 a0_5 a1 a2 h0)

/-- (tombolo/treap.Trees).Merge -/
noncomputable def F29 (rc : Rec) (md : Md) (a0_0 : Int) (a0_1 : Int) (a0_2 : Int) (a0_3 : Value) (a0_4 : Int) (a0_5 : Int) (a1 : Int) (a2 : Int) (h0 : Heap) : Option (Value × Heap) :=
  let h1 : Heap := h0 ++ [.own [(.int .i64 a0_0), (.int .i64 a0_1), (.int .i64 a0_2), a0_3, (.int .i64 a0_4), (.int .i64 a0_5)]]
  ldN 6 (.pointer (some ⟨h0.length, 0, none⟩)) h1 fun v2 =>
  cl (rc md 70 [v2, (.int .i64 a1), (.int .i64 a2)] h1) fun v3 h4 =>
  cIn .i64 v3 fun n5 =>
  ldN 6 (.pointer (some ⟨h0.length, 0, none⟩)) h4 fun v6 =>
  cl (rc md 69 [v6, (.int .i64 n5), (.int .i64 0)] h4) fun v7 h8 =>
  some ((.int .i64 n5), List.take h0.length h8)
theorem F29_eq0 (rc : Rec) (md : Md) (a0_0 : Int) (a0_1 : Int) (a0_2 : Int) (a0_3 : Value) (a0_4 : Int) (a0_5 : Int) (a1 : Int) (a2 : Int) (h0 : Heap) : callStep0 Try.prog cfg rc md 29 [(.agg #[(.int .i64 a0_0), (.int .i64 a0_1), (.int .i64 a0_2), a0_3, (.int .i64 a0_4), (.int .i64 a0_5)]), (.int .i64 a1), (.int .i64 a2)] h0 = F29 rc ⟨md.ro, h0.length⟩ a0_0 a0_1 a0_2 a0_3 a0_4 a0_5 a1 a2 h0 := by kernel_rfl
theorem F29_eq (rc : Rec) (md : Md) (a0_0 : Int) (a0_1 : Int) (a0_2 : Int) (a0_3 : Value) (a0_4 : Int) (a0_5 : Int) (a1 : Int) (a2 : Int) (h0 : Heap) : callStep Try.prog cfg rc md 29 [(.agg #[(.int .i64 a0_0), (.int .i64 a0_1), (.int .i64 a0_2), a0_3, (.int .i64 a0_4), (.int .i64 a0_5)]), (.int .i64 a1), (.int .i64 a2)] h0 = F29 rc ⟨md.ro, h0.length⟩ a0_0 a0_1 a0_2 a0_3 a0_4 a0_5 a1 a2 h0 := (callStep_ne (by kernel_rfl)).trans (F29_eq0 rc md a0_0 a0_1 a0_2 a0_3 a0_4 a0_5 a1 a2 h0)

/-- (tombolo/treap.Trees).Alone -/
noncomputable def F56 (rc : Rec) (md : Md) (a0_0 : Int) (a0_1 : Int) (a0_2 : Int) (a0_3 : Value) (a0_4 : Int) (a0_5 : Int) (a1 : Int) (h0 : Heap) : Option (Value × Heap) :=
  let h1 : Heap := h0 ++ [.own [(.int .i64 a0_0), (.int .i64 a0_1), (.int .i64 a0_2), a0_3, (.int .i64 a0_4), (.int .i64 a0_5)]]
  ldN 6 (.pointer (some ⟨h0.length, 0, none⟩)) h1 fun v2 =>
  cl (rc md 82 [v2, (.int .i64 a1), (.int .i64 3), (.int .i64 0)] h1) fun v3 h4 =>
  ldN 6 (.pointer (some ⟨h0.length, 0, none⟩)) h4 fun v5 =>
  cl (rc md 82 [v5, (.int .i64 a1), (.int .i64 4), (.int .i64 0)] h4) fun v6 h7 =>
  ldN 6 (.pointer (some ⟨h0.length, 0, none⟩)) h7 fun v8 =>
  cl (rc md 69 [v8, (.int .i64 a1), (.int .i64 0)] h7) fun v9 h10 =>
  ld1 (.pointer (some ⟨h0.length, 3, none⟩)) h10 fun v11 =>
  ldN 3 (.pointer (some ⟨h0.length, 0, none⟩)) h10 fun v12 =>
  cl (rc md 55 [v12, (.int .i64 a1), (.int .i64 6)] h10) fun v13 h14 =>
  cIn .i64 v13 fun n15 =>
  ldN 6 (.pointer (some ⟨h0.length, 0, none⟩)) h14 fun v16 =>
  cl (rc md 83 [v16, (.int .i64 a1), (.int .u64 0)] h14) fun v17 h18 =>
  cIn .u64 v17 fun n19 =>
  bif okNil Try.prog v11 then
  clI Try.prog rc md v11 "Store" [(.int .i64 n15), (.int .u64 n19)] h18 fun v20 h21 =>
  some ((.tuple #[]), List.take h0.length h21)
  else none
theorem F56_eq0 (rc : Rec) (md : Md) (a0_0 : Int) (a0_1 : Int) (a0_2 : Int) (a0_3 : Value) (a0_4 : Int) (a0_5 : Int) (a1 : Int) (h0 : Heap) : callStep0 Try.prog cfg rc md 56 [(.agg #[(.int .i64 a0_0), (.int .i64 a0_1), (.int .i64 a0_2), a0_3, (.int .i64 a0_4), (.int .i64 a0_5)]), (.int .i64 a1)] h0 = F56 rc ⟨md.ro, h0.length⟩ a0_0 a0_1 a0_2 a0_3 a0_4 a0_5 a1 h0 := by kernel_rfl
theorem F56_eq (rc : Rec) (md : Md) (a0_0 : Int) (a0_1 : Int) (a0_2 : Int) (a0_3 : Value) (a0_4 : Int) (a0_5 : Int) (a1 : Int) (h0 : Heap) : callStep Try.prog cfg rc md 56 [(.agg #[(.int .i64 a0_0), (.int .i64 a0_1), (.int .i64 a0_2), a0_3, (.int .i64 a0_4), (.int .i64 a0_5)]), (.int .i64 a1)] h0 = F56 rc ⟨md.ro, h0.length⟩ a0_0 a0_1 a0_2 a0_3 a0_4 a0_5 a1 h0 := (callStep_ne (by kernel_rfl)).trans (F56_eq0 rc md a0_0 a0_1 a0_2 a0_3 a0_4 a0_5 a1 h0)

/-- (tombolo/treap.Trees).get -/
noncomputable def F63 (rc : Rec) (md : Md) (a0_0 : Int) (a0_1 : Int) (a0_2 : Int) (a0_3 : Value) (a0_4 : Int) (a0_5 : Int) (a1 : Int) (a2 : Int) (h0 : Heap) : Option (Value × Heap) :=
  let h1 : Heap := h0 ++ [.own [(.int .i64 a0_0), (.int .i64 a0_1), (.int .i64 a0_2), a0_3, (.int .i64 a0_4), (.int .i64 a0_5)]]
  ld1 (.pointer (some ⟨h0.length, 3, none⟩)) h1 fun v2 =>
  ldN 3 (.pointer (some ⟨h0.length, 0, none⟩)) h1 fun v3 =>
  cl (rc md 55 [v3, (.int .i64 a1), (.int .i64 a2)] h1) fun v4 h5 =>
  cIn .i64 v4 fun n6 =>
  bif okNil Try.prog v2 then
  clI Try.prog rc md v2 "Load" [(.int .i64 n6)] h5 fun v7 h8 =>
  cIn .u64 v7 fun n9 =>
  some ((.int .i64 (IntKind.wrap .i64 n9)), List.take h0.length h8)
  else none
theorem F63_eq0 (rc : Rec) (md : Md) (a0_0 : Int) (a0_1 : Int) (a0_2 : Int) (a0_3 : Value) (a0_4 : Int) (a0_5 : Int) (a1 : Int) (a2 : Int) (h0 : Heap) : callStep0 Try.prog cfg rc md 63 [(.agg #[(.int .i64 a0_0), (.int .i64 a0_1), (.int .i64 a0_2), a0_3, (.int .i64 a0_4), (.int .i64 a0_5)]), (.int .i64 a1), (.int .i64 a2)] h0 = F63 rc ⟨md.ro, h0.length⟩ a0_0 a0_1 a0_2 a0_3 a0_4 a0_5 a1 a2 h0 := by kernel_rfl
theorem F63_eq (rc : Rec) (md : Md) (a0_0 : Int) (a0_1 : Int) (a0_2 : Int) (a0_3 : Value) (a0_4 : Int) (a0_5 : Int) (a1 : Int) (a2 : Int) (h0 : Heap) : callStep Try.prog cfg rc md 63 [(.agg #[(.int .i64 a0_0), (.int .i64 a0_1), (.int .i64 a0_2), a0_3, (.int .i64 a0_4), (.int .i64 a0_5)]), (.int .i64 a1), (.int .i64 a2)] h0 = F63 rc ⟨md.ro, h0.length⟩ a0_0 a0_1 a0_2 a0_3 a0_4 a0_5 a1 a2 h0 := (callStep_ne (by kernel_rfl)).trans (F63_eq0 rc md a0_0 a0_1 a0_2 a0_3 a0_4 a0_5 a1 a2 h0)

/-- (tombolo/treap.Trees).parent -/
noncomputable def F64 (rc : Rec) (md : Md) (a0_0 : Int) (a0_1 : Int) (a0_2 : Int) (a0_3 : Value) (a0_4 : Int) (a0_5 : Int) (a1 : Int) (h0 : Heap) : Option (Value × Heap) :=
  let h1 : Heap := h0 ++ [.own [(.int .i64 a0_0), (.int .i64 a0_1), (.int .i64 a0_2), a0_3, (.int .i64 a0_4), (.int .i64 a0_5)]]
  ldN 6 (.pointer (some ⟨h0.length, 0, none⟩)) h1 fun v2 =>
  cl (rc md 85 [v2, (.int .i64 a1)] h1) fun v3 h4 =>
  cBn v3 fun b5 =>
  bif b5 then
    ld1 (.pointer (some ⟨h0.length, 3, none⟩)) h4 fun v6 =>
    ldN 3 (.pointer (some ⟨h0.length, 0, none⟩)) h4 fun v7 =>
    cl (rc md 55 [v7, (.int .i64 a1), (.int .i64 2)] h4) fun v8 h9 =>
    cIn .i64 v8 fun n10 =>
    cl (rc md 86 [v6, (.int .i64 n10)] h9) fun v11 h12 =>
    cIn .i64 v11 fun n13 =>
    some ((.int .i64 n13), List.take h0.length h12)
  else
    ldN 6 (.pointer (some ⟨h0.length, 0, none⟩)) h4 fun v14 =>
    cl (rc md 63 [v14, (.int .i64 a1), (.int .i64 2)] h4) fun v15 h16 =>
    cIn .i64 v15 fun n17 =>
    some ((.int .i64 n17), List.take h0.length h16)
theorem F64_eq0 (rc : Rec) (md : Md) (a0_0 : Int) (a0_1 : Int) (a0_2 : Int) (a0_3 : Value) (a0_4 : Int) (a0_5 : Int) (a1 : Int) (h0 : Heap) : callStep0 Try.prog cfg rc md 64 [(.agg #[(.int .i64 a0_0), (.int .i64 a0_1), (.int .i64 a0_2), a0_3, (.int .i64 a0_4), (.int .i64 a0_5)]), (.int .i64 a1)] h0 = F64 rc ⟨md.ro, h0.length⟩ a0_0 a0_1 a0_2 a0_3 a0_4 a0_5 a1 h0 := by kernel_rfl
theorem F64_eq (rc : Rec) (md : Md) (a0_0 : Int) (a0_1 : Int) (a0_2 : Int) (a0_3 : Value) (a0_4 : Int) (a0_5 : Int) (a1 : Int) (h0 : Heap) : callStep Try.prog cfg rc md 64 [(.agg #[(.int .i64 a0_0), (.int .i64 a0_1), (.int .i64 a0_2), a0_3, (.int .i64 a0_4), (.int .i64 a0_5)]), (.int .i64 a1)] h0 = F64 rc ⟨md.ro, h0.length⟩ a0_0 a0_1 a0_2 a0_3 a0_4 a0_5 a1 h0 := (callStep_ne (by kernel_rfl)).trans (F64_eq0 rc md a0_0 a0_1 a0_2 a0_3 a0_4 a0_5 a1 h0)

/-- (tombolo/treap.Trees).sum -/
noncomputable def F65 (rc : Rec) (md : Md) (a0_0 : Int) (a0_1 : Int) (a0_2 : Int) (a0_3 : Value) (a0_4 : Int) (a0_5 : Int) (a1 : Int) (h0 : Heap) : Option (Value × Heap) :=
  let h1 : Heap := h0 ++ [.own [(.int .i64 a0_0), (.int .i64 a0_1), (.int .i64 a0_2), a0_3, (.int .i64 a0_4), (.int .i64 a0_5)]]
  bif (a1 == 0) then
    some ((.int .u64 0), List.take h0.length h1)
  else
    ld1 (.pointer (some ⟨h0.length, 3, none⟩)) h1 fun v2 =>
    ldN 3 (.pointer (some ⟨h0.length, 0, none⟩)) h1 fun v3 =>
    cl (rc md 55 [v3, (.int .i64 a1), (.int .i64 6)] h1) fun v4 h5 =>
    cIn .i64 v4 fun n6 =>
    bif okNil Try.prog v2 then
    clI Try.prog rc md v2 "Load" [(.int .i64 n6)] h5 fun v7 h8 =>
    cIn .u64 v7 fun n9 =>
    some ((.int .u64 n9), List.take h0.length h8)
    else none
theorem F65_eq0 (rc : Rec) (md : Md) (a0_0 : Int) (a0_1 : Int) (a0_2 : Int) (a0_3 : Value) (a0_4 : Int) (a0_5 : Int) (a1 : Int) (h0 : Heap) : callStep0 Try.prog cfg rc md 65 [(.agg #[(.int .i64 a0_0), (.int .i64 a0_1), (.int .i64 a0_2), a0_3, (.int .i64 a0_4), (.int .i64 a0_5)]), (.int .i64 a1)] h0 = F65 rc ⟨md.ro, h0.length⟩ a0_0 a0_1 a0_2 a0_3 a0_4 a0_5 a1 h0 := by kernel_rfl
theorem F65_eq (rc : Rec) (md : Md) (a0_0 : Int) (a0_1 : Int) (a0_2 : Int) (a0_3 : Value) (a0_4 : Int) (a0_5 : Int) (a1 : Int) (h0 : Heap) : callStep Try.prog cfg rc md 65 [(.agg #[(.int .i64 a0_0), (.int .i64 a0_1), (.int .i64 a0_2), a0_3, (.int .i64 a0_4), (.int .i64 a0_5)]), (.int .i64 a1)] h0 = F65 rc ⟨md.ro, h0.length⟩ a0_0 a0_1 a0_2 a0_3 a0_4 a0_5 a1 h0 := (callStep_ne (by kernel_rfl)).trans (F65_eq0 rc md a0_0 a0_1 a0_2 a0_3 a0_4 a0_5 a1 h0)

/-- (tombolo/treap.Trees).marks -/
noncomputable def F66 (rc : Rec) (md : Md) (a0_0 : Int) (a0_1 : Int) (a0_2 : Int) (a0_3 : Value) (a0_4 : Int) (a0_5 : Int) (a1 : Int) (h0 : Heap) : Option (Value × Heap) :=
  let h1 : Heap := h0 ++ [.own [(.int .i64 a0_0), (.int .i64 a0_1), (.int .i64 a0_2), a0_3, (.int .i64 a0_4), (.int .i64 a0_5)]]
  ldN 6 (.pointer (some ⟨h0.length, 0, none⟩)) h1 fun v2 =>
  cl (rc md 65 [v2, (.int .i64 a1)] h1) fun v3 h4 =>
  cIn .u64 v3 fun n5 =>
  some ((.int .u64 (bAnd .u64 (Int.fdiv n5 (2 ^ 32)) 3)), List.take h0.length h4)
theorem F66_eq0 (rc : Rec) (md : Md) (a0_0 : Int) (a0_1 : Int) (a0_2 : Int) (a0_3 : Value) (a0_4 : Int) (a0_5 : Int) (a1 : Int) (h0 : Heap) : callStep0 Try.prog cfg rc md 66 [(.agg #[(.int .i64 a0_0), (.int .i64 a0_1), (.int .i64 a0_2), a0_3, (.int .i64 a0_4), (.int .i64 a0_5)]), (.int .i64 a1)] h0 = F66 rc ⟨md.ro, h0.length⟩ a0_0 a0_1 a0_2 a0_3 a0_4 a0_5 a1 h0 := by kernel_rfl
theorem F66_eq (rc : Rec) (md : Md) (a0_0 : Int) (a0_1 : Int) (a0_2 : Int) (a0_3 : Value) (a0_4 : Int) (a0_5 : Int) (a1 : Int) (h0 : Heap) : callStep Try.prog cfg rc md 66 [(.agg #[(.int .i64 a0_0), (.int .i64 a0_1), (.int .i64 a0_2), a0_3, (.int .i64 a0_4), (.int .i64 a0_5)]), (.int .i64 a1)] h0 = F66 rc ⟨md.ro, h0.length⟩ a0_0 a0_1 a0_2 a0_3 a0_4 a0_5 a1 h0 := (callStep_ne (by kernel_rfl)).trans (F66_eq0 rc md a0_0 a0_1 a0_2 a0_3 a0_4 a0_5 a1 h0)

/-- (tombolo/treap.Trees).split -/
noncomputable def F68 (rc : Rec) (md : Md) (a0_0 : Int) (a0_1 : Int) (a0_2 : Int) (a0_3 : Value) (a0_4 : Int) (a0_5 : Int) (a1 : Int) (a2 : Int) (h0 : Heap) : Option (Value × Heap) :=
  let h1 : Heap := h0 ++ [.own [(.int .i64 a0_0), (.int .i64 a0_1), (.int .i64 a0_2), a0_3, (.int .i64 a0_4), (.int .i64 a0_5)]]
  bif (a1 == 0) then
    some ((.tuple #[(.int .i64 0), (.int .i64 0)]), List.take h0.length h1)
  else
    ldN 6 (.pointer (some ⟨h0.length, 0, none⟩)) h1 fun v2 =>
    cl (rc md 63 [v2, (.int .i64 a1), (.int .i64 3)] h1) fun v3 h4 =>
    cIn .i64 v3 fun n5 =>
    ldN 6 (.pointer (some ⟨h0.length, 0, none⟩)) h4 fun v6 =>
    cl (rc md 23 [v6, (.int .i64 n5)] h4) fun v7 h8 =>
    cIn .i64 v7 fun n9 =>
    bif (decide (a2 ≤ n9)) then
      ldN 6 (.pointer (some ⟨h0.length, 0, none⟩)) h8 fun v10 =>
      cl (rc md 68 [v10, (.int .i64 n5), (.int .i64 a2)] h8) fun v11 h12 =>
      exT v11 0 fun v13 =>
      cIn .i64 v13 fun n14 =>
      exT v11 1 fun v15 =>
      cIn .i64 v15 fun n16 =>
      ldN 6 (.pointer (some ⟨h0.length, 0, none⟩)) h12 fun v17 =>
      cl (rc md 87 [v17, (.int .i64 a1), (.int .i64 3), (.int .i64 n16)] h12) fun v18 h19 =>
      some ((.tuple #[(.int .i64 n14), (.int .i64 a1)]), List.take h0.length h19)
    else
      ldN 6 (.pointer (some ⟨h0.length, 0, none⟩)) h8 fun v20 =>
      ldN 6 (.pointer (some ⟨h0.length, 0, none⟩)) h8 fun v21 =>
      cl (rc md 63 [v21, (.int .i64 a1), (.int .i64 4)] h8) fun v22 h23 =>
      cIn .i64 v22 fun n24 =>
      cLE true (fun hq => ldN 6 (.pointer (some ⟨h0.length, 0, none⟩)) hq some) v20 h8 h23 <|
      cl (rc md 68 [v20, (.int .i64 n24), (.int .i64 (IntKind.wrap .i64 ((IntKind.wrap .i64 (a2 - n9)) - 1)))] h23) fun v25 h26 =>
      exT v25 0 fun v27 =>
      cIn .i64 v27 fun n28 =>
      exT v25 1 fun v29 =>
      cIn .i64 v29 fun n30 =>
      ldN 6 (.pointer (some ⟨h0.length, 0, none⟩)) h26 fun v31 =>
      cl (rc md 87 [v31, (.int .i64 a1), (.int .i64 4), (.int .i64 n28)] h26) fun v32 h33 =>
      some ((.tuple #[(.int .i64 a1), (.int .i64 n30)]), List.take h0.length h33)
theorem F68_eq0 (rc : Rec) (md : Md) (a0_0 : Int) (a0_1 : Int) (a0_2 : Int) (a0_3 : Value) (a0_4 : Int) (a0_5 : Int) (a1 : Int) (a2 : Int) (h0 : Heap) : callStep0 Try.prog cfg rc md 68 [(.agg #[(.int .i64 a0_0), (.int .i64 a0_1), (.int .i64 a0_2), a0_3, (.int .i64 a0_4), (.int .i64 a0_5)]), (.int .i64 a1), (.int .i64 a2)] h0 = F68 rc ⟨md.ro, h0.length⟩ a0_0 a0_1 a0_2 a0_3 a0_4 a0_5 a1 a2 h0 := by kernel_rfl
theorem F68_eq (rc : Rec) (md : Md) (a0_0 : Int) (a0_1 : Int) (a0_2 : Int) (a0_3 : Value) (a0_4 : Int) (a0_5 : Int) (a1 : Int) (a2 : Int) (h0 : Heap) : callStep Try.prog cfg rc md 68 [(.agg #[(.int .i64 a0_0), (.int .i64 a0_1), (.int .i64 a0_2), a0_3, (.int .i64 a0_4), (.int .i64 a0_5)]), (.int .i64 a1), (.int .i64 a2)] h0 = F68 rc ⟨md.ro, h0.length⟩ a0_0 a0_1 a0_2 a0_3 a0_4 a0_5 a1 a2 h0 := (callStep_ne (by kernel_rfl)).trans (F68_eq0 rc md a0_0 a0_1 a0_2 a0_3 a0_4 a0_5 a1 a2 h0)

/-- (tombolo/treap.Trees).hang -/
noncomputable def F69 (rc : Rec) (md : Md) (a0_0 : Int) (a0_1 : Int) (a0_2 : Int) (a0_3 : Value) (a0_4 : Int) (a0_5 : Int) (a1 : Int) (a2 : Int) (h0 : Heap) : Option (Value × Heap) :=
  let h1 : Heap := h0 ++ [.own [(.int .i64 a0_0), (.int .i64 a0_1), (.int .i64 a0_2), a0_3, (.int .i64 a0_4), (.int .i64 a0_5)]]
  bif (a1 == 0) then
    some ((.tuple #[]), List.take h0.length h1)
  else
    ldN 6 (.pointer (some ⟨h0.length, 0, none⟩)) h1 fun v2 =>
    cl (rc md 85 [v2, (.int .i64 a1)] h1) fun v3 h4 =>
    cBn v3 fun b5 =>
    bif b5 then
      ldN 2 (.pointer (some ⟨h0.length, 4, none⟩)) h4 fun v6 =>
      ld1 (.pointer (some ⟨h0.length, 3, none⟩)) h4 fun v7 =>
      ldN 3 (.pointer (some ⟨h0.length, 0, none⟩)) h4 fun v8 =>
      cl (rc md 55 [v8, (.int .i64 a1), (.int .i64 2)] h4) fun v9 h10 =>
      cIn .i64 v9 fun n11 =>
      cl (rc md 88 [v6, v7, (.int .i64 n11), (.int .i64 a2)] h10) fun v12 h13 =>
      some ((.tuple #[]), List.take h0.length h13)
    else
      ldN 6 (.pointer (some ⟨h0.length, 0, none⟩)) h4 fun v14 =>
      cl (rc md 82 [v14, (.int .i64 a1), (.int .i64 2), (.int .i64 a2)] h4) fun v15 h16 =>
      some ((.tuple #[]), List.take h0.length h16)
theorem F69_eq0 (rc : Rec) (md : Md) (a0_0 : Int) (a0_1 : Int) (a0_2 : Int) (a0_3 : Value) (a0_4 : Int) (a0_5 : Int) (a1 : Int) (a2 : Int) (h0 : Heap) : callStep0 Try.prog cfg rc md 69 [(.agg #[(.int .i64 a0_0), (.int .i64 a0_1), (.int .i64 a0_2), a0_3, (.int .i64 a0_4), (.int .i64 a0_5)]), (.int .i64 a1), (.int .i64 a2)] h0 = F69 rc ⟨md.ro, h0.length⟩ a0_0 a0_1 a0_2 a0_3 a0_4 a0_5 a1 a2 h0 := by kernel_rfl
theorem F69_eq (rc : Rec) (md : Md) (a0_0 : Int) (a0_1 : Int) (a0_2 : Int) (a0_3 : Value) (a0_4 : Int) (a0_5 : Int) (a1 : Int) (a2 : Int) (h0 : Heap) : callStep Try.prog cfg rc md 69 [(.agg #[(.int .i64 a0_0), (.int .i64 a0_1), (.int .i64 a0_2), a0_3, (.int .i64 a0_4), (.int .i64 a0_5)]), (.int .i64 a1), (.int .i64 a2)] h0 = F69 rc ⟨md.ro, h0.length⟩ a0_0 a0_1 a0_2 a0_3 a0_4 a0_5 a1 a2 h0 := (callStep_ne (by kernel_rfl)).trans (F69_eq0 rc md a0_0 a0_1 a0_2 a0_3 a0_4 a0_5 a1 a2 h0)

/-- (tombolo/treap.Trees).merge -/
noncomputable def F70 (rc : Rec) (md : Md) (a0_0 : Int) (a0_1 : Int) (a0_2 : Int) (a0_3 : Value) (a0_4 : Int) (a0_5 : Int) (a1 : Int) (a2 : Int) (h0 : Heap) : Option (Value × Heap) :=
  let h1 : Heap := h0 ++ [.own [(.int .i64 a0_0), (.int .i64 a0_1), (.int .i64 a0_2), a0_3, (.int .i64 a0_4), (.int .i64 a0_5)]]
  bif (a1 == 0) then
    some ((.int .i64 a2), List.take h0.length h1)
  else
    bif (a2 == 0) then
      some ((.int .i64 a1), List.take h0.length h1)
    else
      ldN 6 (.pointer (some ⟨h0.length, 0, none⟩)) h1 fun v2 =>
      cl (rc md 89 [v2, (.int .i64 a1), (.int .i64 a2)] h1) fun v3 h4 =>
      cBn v3 fun b5 =>
      bif b5 then
        ldN 6 (.pointer (some ⟨h0.length, 0, none⟩)) h4 fun v6 =>
        ldN 6 (.pointer (some ⟨h0.length, 0, none⟩)) h4 fun v7 =>
        ldN 6 (.pointer (some ⟨h0.length, 0, none⟩)) h4 fun v8 =>
        cl (rc md 63 [v8, (.int .i64 a1), (.int .i64 4)] h4) fun v9 h10 =>
        cIn .i64 v9 fun n11 =>
        cLE true (fun hq => ldN 6 (.pointer (some ⟨h0.length, 0, none⟩)) hq some) v7 h4 h10 <|
        cLE true (fun hq => ldN 6 (.pointer (some ⟨h0.length, 0, none⟩)) hq some) v6 h4 h10 <|
        cl (rc md 70 [v7, (.int .i64 n11), (.int .i64 a2)] h10) fun v12 h13 =>
        cIn .i64 v12 fun n14 =>
        cLE true (fun hq => ldN 6 (.pointer (some ⟨h0.length, 0, none⟩)) hq some) v6 h10 h13 <|
        cl (rc md 87 [v6, (.int .i64 a1), (.int .i64 4), (.int .i64 n14)] h13) fun v15 h16 =>
        some ((.int .i64 a1), List.take h0.length h16)
      else
        ldN 6 (.pointer (some ⟨h0.length, 0, none⟩)) h4 fun v17 =>
        ldN 6 (.pointer (some ⟨h0.length, 0, none⟩)) h4 fun v18 =>
        ldN 6 (.pointer (some ⟨h0.length, 0, none⟩)) h4 fun v19 =>
        cl (rc md 63 [v19, (.int .i64 a2), (.int .i64 3)] h4) fun v20 h21 =>
        cIn .i64 v20 fun n22 =>
        cLE true (fun hq => ldN 6 (.pointer (some ⟨h0.length, 0, none⟩)) hq some) v18 h4 h21 <|
        cLE true (fun hq => ldN 6 (.pointer (some ⟨h0.length, 0, none⟩)) hq some) v17 h4 h21 <|
        cl (rc md 70 [v18, (.int .i64 a1), (.int .i64 n22)] h21) fun v23 h24 =>
        cIn .i64 v23 fun n25 =>
        cLE true (fun hq => ldN 6 (.pointer (some ⟨h0.length, 0, none⟩)) hq some) v17 h21 h24 <|
        cl (rc md 87 [v17, (.int .i64 a2), (.int .i64 3), (.int .i64 n25)] h24) fun v26 h27 =>
        some ((.int .i64 a2), List.take h0.length h27)
theorem F70_eq0 (rc : Rec) (md : Md) (a0_0 : Int) (a0_1 : Int) (a0_2 : Int) (a0_3 : Value) (a0_4 : Int) (a0_5 : Int) (a1 : Int) (a2 : Int) (h0 : Heap) : callStep0 Try.prog cfg rc md 70 [(.agg #[(.int .i64 a0_0), (.int .i64 a0_1), (.int .i64 a0_2), a0_3, (.int .i64 a0_4), (.int .i64 a0_5)]), (.int .i64 a1), (.int .i64 a2)] h0 = F70 rc ⟨md.ro, h0.length⟩ a0_0 a0_1 a0_2 a0_3 a0_4 a0_5 a1 a2 h0 := by kernel_rfl
theorem F70_eq (rc : Rec) (md : Md) (a0_0 : Int) (a0_1 : Int) (a0_2 : Int) (a0_3 : Value) (a0_4 : Int) (a0_5 : Int) (a1 : Int) (a2 : Int) (h0 : Heap) : callStep Try.prog cfg rc md 70 [(.agg #[(.int .i64 a0_0), (.int .i64 a0_1), (.int .i64 a0_2), a0_3, (.int .i64 a0_4), (.int .i64 a0_5)]), (.int .i64 a1), (.int .i64 a2)] h0 = F70 rc ⟨md.ro, h0.length⟩ a0_0 a0_1 a0_2 a0_3 a0_4 a0_5 a1 a2 h0 := (callStep_ne (by kernel_rfl)).trans (F70_eq0 rc md a0_0 a0_1 a0_2 a0_3 a0_4 a0_5 a1 a2 h0)

/-- (tombolo/treap.Trees).renew -/
noncomputable def J71_1 (rc : Rec) (md : Md) (h0 : Heap) (s1 : Value) (s3 : Value) (s6 : Value) (h : Heap) : Option (Value × Heap) :=
  fA 3 s3 fun v1 =>
  ld1 v1 h fun v2 =>
  fA 0 s3 fun v3 =>
  ldN 3 v3 h fun v4 =>
  cl (rc md 55 [v4, s1, (.int .i64 6)] h) fun v5 h6 =>
  cIn .i64 v5 fun n7 =>
  bif okNil Try.prog v2 then
  clI Try.prog rc md v2 "Store" [(.int .i64 n7), s6] h6 fun v8 h9 =>
  some ((.tuple #[]), List.take h0.length h9)
  else none
theorem J71_1_at (rc : Rec) (md : Md) (h0 : Heap) (t : T) (h : Heap) : cut Try.prog cfg rc md 44 (bodyOf Try.prog 71) [1, 1, 1] (retK Try.prog cfg 71 (rsOf Try.prog 71) h0) t h = J71_1 rc md h0 (t 1) (t 3) (t 6) h := by kernel_rfl
theorem J71_1_cut (rc : Rec) (md : Md) (h0 : Heap) : cut Try.prog cfg rc md 44 (bodyOf Try.prog 71) [1, 1, 1] (retK Try.prog cfg 71 (rsOf Try.prog 71) h0) = fun t h => J71_1 rc md h0 (t 1) (t 3) (t 6) h := funext fun t => funext fun h => J71_1_at rc md h0 t h
noncomputable def Jk71_0 (rc : Rec) (md : Md) (h0 : Heap) (e : Exit) (s1 : Value) (s3 : Value) (s6 : Value) (s14 : Value) (s15 : Value) (h : Heap) : Option (Value × Heap) :=
  match e with
  | .normal =>
    J71_1 rc md h0 s1 s3 s6 h
  | .exit j =>
    bif Nat.beq j 0 then
      J71_1 rc md h0 s1 s3 s6 h
    else
      none
  | .ret =>
    some ((.tuple #[]), List.take h0.length h)
  | .goto l => none
  | .panic ps => none
  | .outgrown => none
noncomputable def Jk71_0H (rc : Rec) (md : Md) (h0 : Heap) (X1 : T → Heap → Option (Value × Heap)) (e : Exit) (t : T) (h : Heap) : Option (Value × Heap) :=
  match e with
  | .normal =>
    X1 t h
  | .exit j =>
    bif Nat.beq j 0 then
      X1 t h
    else
      none
  | .ret =>
    some ((.tuple #[]), List.take h0.length h)
  | .goto l => none
  | .panic ps => none
  | .outgrown => none
theorem Jk71_0_h1 (rc : Rec) (md : Md) (h0 : Heap) (X : Nat → T → Heap → Option (Value × Heap)) (e : Exit) (t : T) (h : Heap) : kAtG Try.prog cfg X rc md 44 (replS (bodyOf Try.prog 71) [([1, 1, 1], 1)]) [1, 1, 0, 1, 0] (retK Try.prog cfg 71 (rsOf Try.prog 71) h0) e t h = Jk71_0H rc md h0 (X 1) e t h := by cases e <;> kernel_rfl
theorem Jk71_0_h2 (rc : Rec) (md : Md) (h0 : Heap) (e : Exit) (t : T) (h : Heap) : Jk71_0H rc md h0 (fun t h => J71_1 rc md h0 (t 1) (t 3) (t 6) h) e t h = Jk71_0 rc md h0 e (t 1) (t 3) (t 6) (t 14) (t 15) h := by cases e <;> (unfold Jk71_0H Jk71_0; kernel_rfl)
theorem Jk71_0_at (rc : Rec) (md : Md) (h0 : Heap) (e : Exit) (t : T) (h : Heap) : kAt Try.prog cfg rc md 44 (bodyOf Try.prog 71) [1, 1, 0, 1, 0] (retK Try.prog cfg 71 (rsOf Try.prog 71) h0) e t h = Jk71_0 rc md h0 e (t 1) (t 3) (t 6) (t 14) (t 15) h := by
  rw [kAt_holes [([1, 1, 1], 1)] [1, 1, 0, 1, 0] (by kernel_rfl), Jk71_0_h1, show (goX Try.prog cfg rc md 44 (bodyOf Try.prog 71) [([1, 1, 1], 1)] (retK Try.prog cfg 71 (rsOf Try.prog 71) h0)) 1 = _ from J71_1_cut rc md h0]
  exact Jk71_0_h2 rc md h0 e t h
/-- a round -/
noncomputable def Jr71_0 (rc : Rec) (md : Md) (s1 : Value) (s3 : Value) (s6 : Value) (s14 : Value) (s15 : Value) (h : Heap) : Option (((Value × Value × Value × Value × Value) × Heap) ⊕ (Exit × (Value × Value × Value × Value × Value) × Heap)) :=
  aBin Try.prog .lss 3 s15 (.int .i64 2) fun v1 =>
  cBn v1 fun b2 =>
  bif b2 then
    aIndex Try.prog 53 s14 s15 fun v3 =>
    cIn .i64 v3 fun n4 =>
    ldN 6 s3 h fun v5 =>
    ldN 6 s3 h fun v6 =>
    cl (rc md 63 [v6, s1, (.int .i64 n4)] h) fun v7 h8 =>
    cIn .i64 v7 fun n9 =>
    cLE true (fun hq => ldN 6 s3 hq some) v5 h h8 <|
    cl (rc md 65 [v5, (.int .i64 n9)] h8) fun v10 h11 =>
    cIn .u64 v10 fun n12 =>
    cl (rc md 90 [(.int .u64 n12)] h11) fun v13 h14 =>
    cIn .u64 v13 fun n15 =>
    aBin Try.prog .add 103 s6 (.int .u64 n15) fun v16 =>
    aBin Try.prog .or 103 v16 (.int .u64 (IntKind.wrap .u64 ((bAnd .u64 (Int.fdiv n12 (2 ^ 34)) 3) * 2 ^ 34))) fun v17 =>
    aBin Try.prog .add 3 s15 (.int .i64 1) fun v18 =>
    some (.inl ((s1, s3, v17, s14, v18), h14))
  else
    some (.inr ((.exit 0), (s1, s3, s6, s14, s15), h))
theorem Jr71_0_at (rc : Rec) (md : Md) (t : T) (h : Heap) : exec Try.prog cfg rc md 44 (sub (bodyOf Try.prog 71) [1, 1, 0, 1, 0, 0]) (rndK (fun t => (t 1, t 3, t 6, t 14, t 15))) t h = Jr71_0 rc md (t 1) (t 3) (t 6) (t 14) (t 15) h := by kernel_rfl
noncomputable def J71_0 (rc : Rec) (md : Md) (h0 : Heap) (s1 : Value) (s3 : Value) (s6 : Value) (s14 : Value) (s15 : Value) (h : Heap) : Option (Value × Heap) :=
  runL (fun x : (Value × Value × Value × Value × Value) × Heap => Jr71_0 rc md x.1.1 x.1.2.1 x.1.2.2.1 x.1.2.2.2.1 x.1.2.2.2.2 x.2) (fun e (s : Value × Value × Value × Value × Value) h => Jk71_0 rc md h0 e s.1 s.2.1 s.2.2.1 s.2.2.2.1 s.2.2.2.2 h) (s1, s3, s6, s14, s15) h
theorem J71_0_step (rc : Rec) (md : Md) (h0 : Heap) (s1 : Value) (s3 : Value) (s6 : Value) (s14 : Value) (s15 : Value) (h : Heap) : J71_0 rc md h0 s1 s3 s6 s14 s15 h = (Jr71_0 rc md s1 s3 s6 s14 s15 h).bind fun x => match x with
    | .inl (s, h) => J71_0 rc md h0 s.1 s.2.1 s.2.2.1 s.2.2.2.1 s.2.2.2.2 h
    | .inr (e, s, h) => Jk71_0 rc md h0 e s.1 s.2.1 s.2.2.1 s.2.2.2.1 s.2.2.2.2 h := by
  unfold J71_0
  rw [runL_eq]
  refine congrArg (Option.bind _) (funext fun x => ?_)
  rcases x with ⟨s, h⟩ | ⟨e, s, h⟩ <;> rfl
theorem J71_0_cut (rc : Rec) (md : Md) (h0 : Heap) : cut Try.prog cfg rc md 44 (bodyOf Try.prog 71) [1, 1, 0, 1, 0] (retK Try.prog cfg 71 (rsOf Try.prog 71) h0) = fun t h => J71_0 rc md h0 (t 1) (t 3) (t 6) (t 14) (t 15) h := by
  funext t h
  have e : sub (bodyOf Try.prog 71) [1, 1, 0, 1, 0] = .loop (sub (bodyOf Try.prog 71) [1, 1, 0, 1, 0, 0]) := by kernel_rfl
  unfold cut
  rw [e]
  exact loop_eq (by kernel_rfl) (fun t => (t 1, t 3, t 6, t 14, t 15)) (fun x : (Value × Value × Value × Value × Value) × Heap => Jr71_0 rc md x.1.1 x.1.2.1 x.1.2.2.1 x.1.2.2.2.1 x.1.2.2.2.2 x.2) (fun t h => Jr71_0_at rc md t h) (fun e (s : Value × Value × Value × Value × Value) h => Jk71_0 rc md h0 e s.1 s.2.1 s.2.2.1 s.2.2.2.1 s.2.2.2.2 h) (fun e t h => Jk71_0_at rc md h0 e t h) t h
noncomputable def F71 (rc : Rec) (md : Md) (a0_0 : Int) (a0_1 : Int) (a0_2 : Int) (a0_3 : Value) (a0_4 : Int) (a0_5 : Int) (a1 : Int) (a2 : Int) (h0 : Heap) : Option (Value × Heap) :=
  let h1 : Heap := h0 ++ [.own [(.int .i64 a0_0), (.int .i64 a0_1), (.int .i64 a0_2), a0_3, (.int .i64 a0_4), (.int .i64 a0_5)]]
  ldN 6 (.pointer (some ⟨h0.length, 0, none⟩)) h1 fun v2 =>
  cl (rc md 83 [v2, (.int .i64 a1), (.int .u64 a2)] h1) fun v3 h4 =>
  cIn .u64 v3 fun n5 =>
  J71_0 rc md h0 (.int .i64 a1) (.pointer (some ⟨h0.length, 0, none⟩)) (.int .u64 n5) (.agg #[(.int .i64 3), (.int .i64 4)]) (.int .i64 0) h4
noncomputable def F71H (rc : Rec) (md : Md) (X0 : T → Heap → Option (Value × Heap)) (a0_0 : Int) (a0_1 : Int) (a0_2 : Int) (a0_3 : Value) (a0_4 : Int) (a0_5 : Int) (a1 : Int) (a2 : Int) (h0 : Heap) : Option (Value × Heap) :=
  let h1 : Heap := h0 ++ [.own [(.int .i64 a0_0), (.int .i64 a0_1), (.int .i64 a0_2), a0_3, (.int .i64 a0_4), (.int .i64 a0_5)]]
  ldN 6 (.pointer (some ⟨h0.length, 0, none⟩)) h1 fun v2 =>
  cl (rc md 83 [v2, (.int .i64 a1), (.int .u64 a2)] h1) fun v3 h4 =>
  cIn .u64 v3 fun n5 =>
  X0 (upd (upd (upd (upd (upd (upd (upd (upd (args0 [(.agg #[(.int .i64 a0_0), (.int .i64 a0_1), (.int .i64 a0_2), a0_3, (.int .i64 a0_4), (.int .i64 a0_5)]), (.int .i64 a1), (.int .u64 a2)]) 3 (.pointer (some ⟨h0.length, 0, none⟩))) 10 v2) 11 (.int .i64 a1)) 12 (.int .u64 a2)) 13 (.int .u64 n5)) 6 (.int .u64 n5)) 14 (.agg #[(.int .i64 3), (.int .i64 4)])) 15 (.int .i64 0)) h4
theorem F71_h0 (rc : Rec) (md : Md) (a0_0 : Int) (a0_1 : Int) (a0_2 : Int) (a0_3 : Value) (a0_4 : Int) (a0_5 : Int) (a1 : Int) (a2 : Int) (h0 : Heap) : callStep0 Try.prog cfg rc md 71 [(.agg #[(.int .i64 a0_0), (.int .i64 a0_1), (.int .i64 a0_2), a0_3, (.int .i64 a0_4), (.int .i64 a0_5)]), (.int .i64 a1), (.int .u64 a2)] h0 = exec Try.prog cfg rc ⟨md.ro, h0.length⟩ 44 (bodyOf Try.prog 71) (retK Try.prog cfg 71 (rsOf Try.prog 71) h0) (args0 [(.agg #[(.int .i64 a0_0), (.int .i64 a0_1), (.int .i64 a0_2), a0_3, (.int .i64 a0_4), (.int .i64 a0_5)]), (.int .i64 a1), (.int .u64 a2)]) h0 := callStep0_run (by kernel_rfl) (by kernel_rfl) (by kernel_rfl)
theorem F71_h1 (rc : Rec) (md : Md) (X : Nat → T → Heap → Option (Value × Heap)) (a0_0 : Int) (a0_1 : Int) (a0_2 : Int) (a0_3 : Value) (a0_4 : Int) (a0_5 : Int) (a1 : Int) (a2 : Int) (h0 : Heap) : execG Try.prog cfg X rc md 44 (replS (bodyOf Try.prog 71) [([1, 1, 0, 1, 0], 0), ([1, 1, 1], 1)]) (retK Try.prog cfg 71 (rsOf Try.prog 71) h0) (args0 [(.agg #[(.int .i64 a0_0), (.int .i64 a0_1), (.int .i64 a0_2), a0_3, (.int .i64 a0_4), (.int .i64 a0_5)]), (.int .i64 a1), (.int .u64 a2)]) h0 = F71H rc md (X 0) a0_0 a0_1 a0_2 a0_3 a0_4 a0_5 a1 a2 h0 := by kernel_rfl
theorem F71_h2 (rc : Rec) (md : Md) (a0_0 : Int) (a0_1 : Int) (a0_2 : Int) (a0_3 : Value) (a0_4 : Int) (a0_5 : Int) (a1 : Int) (a2 : Int) (h0 : Heap) : F71H rc md (fun t h => J71_0 rc md h0 (t 1) (t 3) (t 6) (t 14) (t 15) h) a0_0 a0_1 a0_2 a0_3 a0_4 a0_5 a1 a2 h0 = F71 rc md a0_0 a0_1 a0_2 a0_3 a0_4 a0_5 a1 a2 h0 := by unfold F71H F71; kernel_rfl
theorem F71_eq0 (rc : Rec) (md : Md) (a0_0 : Int) (a0_1 : Int) (a0_2 : Int) (a0_3 : Value) (a0_4 : Int) (a0_5 : Int) (a1 : Int) (a2 : Int) (h0 : Heap) : callStep0 Try.prog cfg rc md 71 [(.agg #[(.int .i64 a0_0), (.int .i64 a0_1), (.int .i64 a0_2), a0_3, (.int .i64 a0_4), (.int .i64 a0_5)]), (.int .i64 a1), (.int .u64 a2)] h0 = F71 rc ⟨md.ro, h0.length⟩ a0_0 a0_1 a0_2 a0_3 a0_4 a0_5 a1 a2 h0 := by
  rw [F71_h0, exec_holes [([1, 1, 0, 1, 0], 0), ([1, 1, 1], 1)] (by kernel_rfl), F71_h1, show (goX Try.prog cfg rc ⟨md.ro, h0.length⟩ 44 (bodyOf Try.prog 71) [([1, 1, 0, 1, 0], 0), ([1, 1, 1], 1)] (retK Try.prog cfg 71 (rsOf Try.prog 71) h0)) 0 = _ from J71_0_cut rc ⟨md.ro, h0.length⟩ h0]
  exact F71_h2 rc _ a0_0 a0_1 a0_2 a0_3 a0_4 a0_5 a1 a2 h0
theorem F71_eq (rc : Rec) (md : Md) (a0_0 : Int) (a0_1 : Int) (a0_2 : Int) (a0_3 : Value) (a0_4 : Int) (a0_5 : Int) (a1 : Int) (a2 : Int) (h0 : Heap) : callStep Try.prog cfg rc md 71 [(.agg #[(.int .i64 a0_0), (.int .i64 a0_1), (.int .i64 a0_2), a0_3, (.int .i64 a0_4), (.int .i64 a0_5)]), (.int .i64 a1), (.int .u64 a2)] h0 = F71 rc ⟨md.ro, h0.length⟩ a0_0 a0_1 a0_2 a0_3 a0_4 a0_5 a1 a2 h0 := (callStep_ne (by kernel_rfl)).trans (F71_eq0 rc md a0_0 a0_1 a0_2 a0_3 a0_4 a0_5 a1 a2 h0)

/-- (tombolo/treap.Trees).put -/
noncomputable def F82 (rc : Rec) (md : Md) (a0_0 : Int) (a0_1 : Int) (a0_2 : Int) (a0_3 : Value) (a0_4 : Int) (a0_5 : Int) (a1 : Int) (a2 : Int) (a3 : Int) (h0 : Heap) : Option (Value × Heap) :=
  let h1 : Heap := h0 ++ [.own [(.int .i64 a0_0), (.int .i64 a0_1), (.int .i64 a0_2), a0_3, (.int .i64 a0_4), (.int .i64 a0_5)]]
  ld1 (.pointer (some ⟨h0.length, 3, none⟩)) h1 fun v2 =>
  ldN 3 (.pointer (some ⟨h0.length, 0, none⟩)) h1 fun v3 =>
  cl (rc md 55 [v3, (.int .i64 a1), (.int .i64 a2)] h1) fun v4 h5 =>
  cIn .i64 v4 fun n6 =>
  bif okNil Try.prog v2 then
  clI Try.prog rc md v2 "Store" [(.int .i64 n6), (.int .u64 (IntKind.wrap .u64 a3))] h5 fun v7 h8 =>
  some ((.tuple #[]), List.take h0.length h8)
  else none
theorem F82_eq0 (rc : Rec) (md : Md) (a0_0 : Int) (a0_1 : Int) (a0_2 : Int) (a0_3 : Value) (a0_4 : Int) (a0_5 : Int) (a1 : Int) (a2 : Int) (a3 : Int) (h0 : Heap) : callStep0 Try.prog cfg rc md 82 [(.agg #[(.int .i64 a0_0), (.int .i64 a0_1), (.int .i64 a0_2), a0_3, (.int .i64 a0_4), (.int .i64 a0_5)]), (.int .i64 a1), (.int .i64 a2), (.int .i64 a3)] h0 = F82 rc ⟨md.ro, h0.length⟩ a0_0 a0_1 a0_2 a0_3 a0_4 a0_5 a1 a2 a3 h0 := by kernel_rfl
theorem F82_eq (rc : Rec) (md : Md) (a0_0 : Int) (a0_1 : Int) (a0_2 : Int) (a0_3 : Value) (a0_4 : Int) (a0_5 : Int) (a1 : Int) (a2 : Int) (a3 : Int) (h0 : Heap) : callStep Try.prog cfg rc md 82 [(.agg #[(.int .i64 a0_0), (.int .i64 a0_1), (.int .i64 a0_2), a0_3, (.int .i64 a0_4), (.int .i64 a0_5)]), (.int .i64 a1), (.int .i64 a2), (.int .i64 a3)] h0 = F82 rc ⟨md.ro, h0.length⟩ a0_0 a0_1 a0_2 a0_3 a0_4 a0_5 a1 a2 a3 h0 := (callStep_ne (by kernel_rfl)).trans (F82_eq0 rc md a0_0 a0_1 a0_2 a0_3 a0_4 a0_5 a1 a2 a3 h0)

/-- (tombolo/treap.Trees).lone -/
noncomputable def F83 (rc : Rec) (md : Md) (a0_0 : Int) (a0_1 : Int) (a0_2 : Int) (a0_3 : Value) (a0_4 : Int) (a0_5 : Int) (a1 : Int) (a2 : Int) (h0 : Heap) : Option (Value × Heap) :=
  let h1 : Heap := h0 ++ [.own [(.int .i64 a0_0), (.int .i64 a0_1), (.int .i64 a0_2), a0_3, (.int .i64 a0_4), (.int .i64 a0_5)]]
  ldN 3 (.pointer (some ⟨h0.length, 0, none⟩)) h1 fun v2 =>
  cl (rc md 42 [v2, (.int .i64 a1)] h1) fun v3 h4 =>
  exT v3 0 fun v5 =>
  exT v3 1 fun v6 =>
  cBn v6 fun b7 =>
  let h8 : Heap := h4 ++ [.own [(.bool false), (.int .i64 0), (.int .i64 0), (.int .i64 0), (.int .i64 0)]]
  st md 5 (.pointer (some ⟨h4.length, 0, none⟩)) v5 h8 fun h9 =>
  ld1 (.pointer (some ⟨h4.length, 0, none⟩)) h9 fun v10 =>
  cBn v10 fun b11 =>
  bif !b11 then
    some ((.int .u64 (bOr .u64 (bOr .u64 (bOr .u64 1 (IntKind.wrap .u64 (a2 * 2 ^ 32))) (IntKind.wrap .u64 (a2 * 2 ^ 34))) 65536)), h0)
  else
    some ((.int .u64 (bOr .u64 (bOr .u64 1 (IntKind.wrap .u64 (a2 * 2 ^ 32))) (IntKind.wrap .u64 (a2 * 2 ^ 34)))), h0)
theorem F83_eq0 (rc : Rec) (md : Md) (a0_0 : Int) (a0_1 : Int) (a0_2 : Int) (a0_3 : Value) (a0_4 : Int) (a0_5 : Int) (a1 : Int) (a2 : Int) (h0 : Heap) : callStep0 Try.prog cfg rc md 83 [(.agg #[(.int .i64 a0_0), (.int .i64 a0_1), (.int .i64 a0_2), a0_3, (.int .i64 a0_4), (.int .i64 a0_5)]), (.int .i64 a1), (.int .u64 a2)] h0 = F83 rc ⟨h0.length, h0.length⟩ a0_0 a0_1 a0_2 a0_3 a0_4 a0_5 a1 a2 h0 := by kernel_rfl
theorem F83_eq (rc : Rec) (md : Md) (a0_0 : Int) (a0_1 : Int) (a0_2 : Int) (a0_3 : Value) (a0_4 : Int) (a0_5 : Int) (a1 : Int) (a2 : Int) (h0 : Heap) : callStep Try.prog cfg rc md 83 [(.agg #[(.int .i64 a0_0), (.int .i64 a0_1), (.int .i64 a0_2), a0_3, (.int .i64 a0_4), (.int .i64 a0_5)]), (.int .i64 a1), (.int .u64 a2)] h0 = F83 rc ⟨h0.length, h0.length⟩ a0_0 a0_1 a0_2 a0_3 a0_4 a0_5 a1 a2 h0 := (callStep_ne (by kernel_rfl)).trans (F83_eq0 rc md a0_0 a0_1 a0_2 a0_3 a0_4 a0_5 a1 a2 h0)

/-- (tombolo/treap.Trees).shown -/
noncomputable def F85 (rc : Rec) (md : Md) (a0_0 : Int) (a0_1 : Int) (a0_2 : Int) (a0_3 : Value) (a0_4 : Int) (a0_5 : Int) (a1 : Int) (h0 : Heap) : Option (Value × Heap) :=
  let h1 : Heap := h0 ++ [.own [(.int .i64 a0_0), (.int .i64 a0_1), (.int .i64 a0_2), a0_3, (.int .i64 a0_4), (.int .i64 a0_5)]]
  ldN 3 (.pointer (some ⟨h0.length, 0, none⟩)) h1 fun v2 =>
  cl (rc md 42 [v2, (.int .i64 a1)] h1) fun v3 h4 =>
  exT v3 0 fun v5 =>
  exT v3 1 fun v6 =>
  cBn v6 fun b7 =>
  let h8 : Heap := h4 ++ [.own [(.bool false), (.int .i64 0), (.int .i64 0), (.int .i64 0), (.int .i64 0)]]
  st md 5 (.pointer (some ⟨h4.length, 0, none⟩)) v5 h8 fun h9 =>
  ld1 (.pointer (some ⟨h4.length, 1, none⟩)) h9 fun v10 =>
  cIn .i64 v10 fun n11 =>
  some ((.bool (n11 == 0)), h0)
theorem F85_eq0 (rc : Rec) (md : Md) (a0_0 : Int) (a0_1 : Int) (a0_2 : Int) (a0_3 : Value) (a0_4 : Int) (a0_5 : Int) (a1 : Int) (h0 : Heap) : callStep0 Try.prog cfg rc md 85 [(.agg #[(.int .i64 a0_0), (.int .i64 a0_1), (.int .i64 a0_2), a0_3, (.int .i64 a0_4), (.int .i64 a0_5)]), (.int .i64 a1)] h0 = F85 rc ⟨h0.length, h0.length⟩ a0_0 a0_1 a0_2 a0_3 a0_4 a0_5 a1 h0 := by kernel_rfl
theorem F85_eq (rc : Rec) (md : Md) (a0_0 : Int) (a0_1 : Int) (a0_2 : Int) (a0_3 : Value) (a0_4 : Int) (a0_5 : Int) (a1 : Int) (h0 : Heap) : callStep Try.prog cfg rc md 85 [(.agg #[(.int .i64 a0_0), (.int .i64 a0_1), (.int .i64 a0_2), a0_3, (.int .i64 a0_4), (.int .i64 a0_5)]), (.int .i64 a1)] h0 = F85 rc ⟨h0.length, h0.length⟩ a0_0 a0_1 a0_2 a0_3 a0_4 a0_5 a1 h0 := (callStep_ne (by kernel_rfl)).trans (F85_eq0 rc md a0_0 a0_1 a0_2 a0_3 a0_4 a0_5 a1 h0)

/-- (tombolo/treap.Trees).set -/
noncomputable def F87 (rc : Rec) (md : Md) (a0_0 : Int) (a0_1 : Int) (a0_2 : Int) (a0_3 : Value) (a0_4 : Int) (a0_5 : Int) (a1 : Int) (a2 : Int) (a3 : Int) (h0 : Heap) : Option (Value × Heap) :=
  let h1 : Heap := h0 ++ [.own [(.int .i64 a0_0), (.int .i64 a0_1), (.int .i64 a0_2), a0_3, (.int .i64 a0_4), (.int .i64 a0_5)]]
  ldN 6 (.pointer (some ⟨h0.length, 0, none⟩)) h1 fun v2 =>
  cl (rc md 82 [v2, (.int .i64 a1), (.int .i64 a2), (.int .i64 a3)] h1) fun v3 h4 =>
  ldN 6 (.pointer (some ⟨h0.length, 0, none⟩)) h4 fun v5 =>
  cl (rc md 69 [v5, (.int .i64 a3), (.int .i64 a1)] h4) fun v6 h7 =>
  ldN 6 (.pointer (some ⟨h0.length, 0, none⟩)) h7 fun v8 =>
  ldN 6 (.pointer (some ⟨h0.length, 0, none⟩)) h7 fun v9 =>
  cl (rc md 66 [v9, (.int .i64 a1)] h7) fun v10 h11 =>
  cIn .u64 v10 fun n12 =>
  cLE true (fun hq => ldN 6 (.pointer (some ⟨h0.length, 0, none⟩)) hq some) v8 h7 h11 <|
  cl (rc md 71 [v8, (.int .i64 a1), (.int .u64 n12)] h11) fun v13 h14 =>
  some ((.tuple #[]), List.take h0.length h14)
theorem F87_eq0 (rc : Rec) (md : Md) (a0_0 : Int) (a0_1 : Int) (a0_2 : Int) (a0_3 : Value) (a0_4 : Int) (a0_5 : Int) (a1 : Int) (a2 : Int) (a3 : Int) (h0 : Heap) : callStep0 Try.prog cfg rc md 87 [(.agg #[(.int .i64 a0_0), (.int .i64 a0_1), (.int .i64 a0_2), a0_3, (.int .i64 a0_4), (.int .i64 a0_5)]), (.int .i64 a1), (.int .i64 a2), (.int .i64 a3)] h0 = F87 rc ⟨md.ro, h0.length⟩ a0_0 a0_1 a0_2 a0_3 a0_4 a0_5 a1 a2 a3 h0 := by kernel_rfl
theorem F87_eq (rc : Rec) (md : Md) (a0_0 : Int) (a0_1 : Int) (a0_2 : Int) (a0_3 : Value) (a0_4 : Int) (a0_5 : Int) (a1 : Int) (a2 : Int) (a3 : Int) (h0 : Heap) : callStep Try.prog cfg rc md 87 [(.agg #[(.int .i64 a0_0), (.int .i64 a0_1), (.int .i64 a0_2), a0_3, (.int .i64 a0_4), (.int .i64 a0_5)]), (.int .i64 a1), (.int .i64 a2), (.int .i64 a3)] h0 = F87 rc ⟨md.ro, h0.length⟩ a0_0 a0_1 a0_2 a0_3 a0_4 a0_5 a1 a2 a3 h0 := (callStep_ne (by kernel_rfl)).trans (F87_eq0 rc md a0_0 a0_1 a0_2 a0_3 a0_4 a0_5 a1 a2 a3 h0)

/-- (tombolo/treap.Trees).above -/
noncomputable def F89 (rc : Rec) (md : Md) (a0_0 : Int) (a0_1 : Int) (a0_2 : Int) (a0_3 : Value) (a0_4 : Int) (a0_5 : Int) (a1 : Int) (a2 : Int) (h0 : Heap) : Option (Value × Heap) :=
  let h1 : Heap := h0 ++ [.own [(.int .i64 a0_0), (.int .i64 a0_1), (.int .i64 a0_2), a0_3, (.int .i64 a0_4), (.int .i64 a0_5)]]
  ld1 (.pointer (some ⟨h0.length, 3, none⟩)) h1 fun v2 =>
  ldN 3 (.pointer (some ⟨h0.length, 0, none⟩)) h1 fun v3 =>
  cl (rc md 55 [v3, (.int .i64 a1), (.int .i64 5)] h1) fun v4 h5 =>
  cIn .i64 v4 fun n6 =>
  bif okNil Try.prog v2 then
  clI Try.prog rc md v2 "Load" [(.int .i64 n6)] h5 fun v7 h8 =>
  cIn .u64 v7 fun n9 =>
  ld1 (.pointer (some ⟨h0.length, 3, none⟩)) h8 fun v10 =>
  cLE true (fun hq => ld1 (.pointer (some ⟨h0.length, 3, none⟩)) hq some) v10 h5 h8 <|
  ldN 3 (.pointer (some ⟨h0.length, 0, none⟩)) h8 fun v11 =>
  cLE true (fun hq => ldN 3 (.pointer (some ⟨h0.length, 0, none⟩)) hq some) v11 h5 h8 <|
  cl (rc md 55 [v11, (.int .i64 a2), (.int .i64 5)] h8) fun v12 h13 =>
  cIn .i64 v12 fun n14 =>
  bif okNil Try.prog v10 then
  clI Try.prog rc md v10 "Load" [(.int .i64 n14)] h13 fun v15 h16 =>
  cIn .u64 v15 fun n17 =>
  (bif wantV (.bool (decide (n9 > n17))) false then
  some ((.int .u64 n9), h16)
  else some (undef, h16)).bind fun p18 =>
  (bif wantV (.bool (decide (n9 > n17))) false then
  some ((.int .u64 n17), p18.2)
  else some (undef, p18.2)).bind fun p19 =>
  (bif wantV (.bool (decide (n9 > n17))) false then
  aBin Try.prog .eql 103 p18.1 p19.1 fun v20 =>
  some (v20, p19.2)
  else some (undef, p19.2)).bind fun p21 =>
  (bif wantV (.bool (decide (n9 > n17))) false then
  some (p21.1, p21.2)
  else some (undef, p21.2)).bind fun p22 =>
  (bif wantV p22.1 true then
  some ((.int .i64 a1), p22.2)
  else some (undef, p22.2)).bind fun p23 =>
  (bif wantV p22.1 true then
  some ((.int .i64 a2), p23.2)
  else some (undef, p23.2)).bind fun p24 =>
  (bif wantV p22.1 true then
  aBin Try.prog .lss 3 p23.1 p24.1 fun v25 =>
  some (v25, p24.2)
  else some (undef, p24.2)).bind fun p26 =>
  (bif wantV (.bool (decide (n9 > n17))) false then
  cBn p22.1 fun q27 =>
  cBn (bif q27 then p26.1 else (.bool false)) fun b28 =>
  some ((.bool b28), p26.2)
  else some (undef, p26.2)).bind fun p29 =>
  cBn (bif (decide (n9 > n17)) then (.bool true) else p29.1) fun b30 =>
  some ((.bool b30), List.take h0.length p29.2)
  else none
  else none
theorem F89_eq0 (rc : Rec) (md : Md) (a0_0 : Int) (a0_1 : Int) (a0_2 : Int) (a0_3 : Value) (a0_4 : Int) (a0_5 : Int) (a1 : Int) (a2 : Int) (h0 : Heap) : callStep0 Try.prog cfg rc md 89 [(.agg #[(.int .i64 a0_0), (.int .i64 a0_1), (.int .i64 a0_2), a0_3, (.int .i64 a0_4), (.int .i64 a0_5)]), (.int .i64 a1), (.int .i64 a2)] h0 = F89 rc ⟨md.ro, h0.length⟩ a0_0 a0_1 a0_2 a0_3 a0_4 a0_5 a1 a2 h0 := by kernel_rfl
theorem F89_eq (rc : Rec) (md : Md) (a0_0 : Int) (a0_1 : Int) (a0_2 : Int) (a0_3 : Value) (a0_4 : Int) (a0_5 : Int) (a1 : Int) (a2 : Int) (h0 : Heap) : callStep Try.prog cfg rc md 89 [(.agg #[(.int .i64 a0_0), (.int .i64 a0_1), (.int .i64 a0_2), a0_3, (.int .i64 a0_4), (.int .i64 a0_5)]), (.int .i64 a1), (.int .i64 a2)] h0 = F89 rc ⟨md.ro, h0.length⟩ a0_0 a0_1 a0_2 a0_3 a0_4 a0_5 a1 a2 h0 := (callStep_ne (by kernel_rfl)).trans (F89_eq0 rc md a0_0 a0_1 a0_2 a0_3 a0_4 a0_5 a1 a2 h0)

/-- tombolo/treap.counts -/
noncomputable def F90 (rc : Rec) (md : Md) (a0 : Int) (h0 : Heap) : Option (Value × Heap) :=
  some ((.int .u64 (bAnd .u64 a0 4294967295)), h0)
theorem F90_eq0 (rc : Rec) (md : Md) (a0 : Int) (h0 : Heap) : callStep0 Try.prog cfg rc md 90 [(.int .u64 a0)] h0 = F90 rc ⟨h0.length, h0.length⟩ a0 h0 := by kernel_rfl
theorem F90_eq (rc : Rec) (md : Md) (a0 : Int) (h0 : Heap) : callStep Try.prog cfg rc md 90 [(.int .u64 a0)] h0 = alone h0 (F90 rc ⟨0, 0⟩ a0 []) := by
  have e : callStep Try.prog cfg rc md 90 [(.int .u64 a0)] h0 = alone h0 (callStep0 Try.prog cfg rc ⟨0, 0⟩ 90 [(.int .u64 a0)] []) := by kernel_rfl
  rw [e, F90_eq0]; rfl

end Go.Det.E
