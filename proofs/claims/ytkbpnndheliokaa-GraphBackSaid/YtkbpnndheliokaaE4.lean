/- Printed functions. -/
import Derived.Test.YtkbpnndheliokaaE1
import Derived.Test.YtkbpnndheliokaaDetT
import Derived.Test.YtkbpnndheliokaaDetX
import Derived.Test.YtkbpnndheliokaaProg
set_option autoImplicit false
set_option linter.unusedVariables false
set_option linter.unusedSimpArgs false
namespace Go.Det.E
open Go.Proofs Go.Det

/-- slices.Equal[[]uint64,uint64] -/
noncomputable def Jk64_0 (rc : Rec) (md : Md) (h0 : Heap) (e : Exit) (s0 : Value) (s1 : Value) (s4 : Value) (s12 : Value) (s13 : Value) (h : Heap) : Option (Value × Heap) :=
  match e with
  | .normal =>
    some ((.bool true), h0)
  | .exit j =>
    bif Nat.beq j 0 then
      some ((.bool true), h0)
    else
      none
  | .ret =>
    fin2 h0 s4
  | .goto l => none
  | .panic ps => none
  | .outgrown => none
theorem Jk64_0_at (rc : Rec) (md : Md) (h0 : Heap) (e : Exit) (t : T) (h : Heap) : kAt Try.prog cfg rc md 26 (bodyOf Try.prog 64) [1, 1, 0, 1, 0] (retK Try.prog cfg 64 (rsOf Try.prog 64) h0) e t h = Jk64_0 rc md h0 e (t 0) (t 1) (t 4) (t 12) (t 13) h := by cases e <;> kernel_rfl
/-- a round -/
noncomputable def Jr64_0 (rc : Rec) (md : Md) (s0 : Value) (s1 : Value) (s4 : Value) (s12 : Value) (s13 : Value) (h : Heap) : Option (((Value × Value × Value × Value × Value) × Heap) ⊕ (Exit × (Value × Value × Value × Value × Value) × Heap)) :=
  aBin Try.prog .lss 3 s13 s12 fun v1 =>
  cBn v1 fun b2 =>
  bif b2 then
    ixSV 1 s0 s13 fun v3 =>
    ld1 v3 h fun v4 =>
    cIn .u64 v4 fun n5 =>
    ixSV 1 s1 s13 fun v6 =>
    ld1 v6 h fun v7 =>
    cIn .u64 v7 fun n8 =>
    bif (n5 != n8) then
      some (.inr (.ret, (s0, s1, (.bool false), s12, s13), h))
    else
      aBin Try.prog .add 3 s13 (.int .i64 1) fun v9 =>
      some (.inl ((s0, s1, s4, s12, v9), h))
  else
    some (.inr ((.exit 0), (s0, s1, s4, s12, s13), h))
theorem Jr64_0_at (rc : Rec) (md : Md) (t : T) (h : Heap) : exec Try.prog cfg rc md 26 (sub (bodyOf Try.prog 64) [1, 1, 0, 1, 0, 0]) (rndK (fun t => (t 0, t 1, t 4, t 12, t 13))) t h = Jr64_0 rc md (t 0) (t 1) (t 4) (t 12) (t 13) h := by kernel_rfl
noncomputable def J64_0 (rc : Rec) (md : Md) (h0 : Heap) (s0 : Value) (s1 : Value) (s4 : Value) (s12 : Value) (s13 : Value) (h : Heap) : Option (Value × Heap) :=
  runL (fun x : (Value × Value × Value × Value × Value) × Heap => Jr64_0 rc md x.1.1 x.1.2.1 x.1.2.2.1 x.1.2.2.2.1 x.1.2.2.2.2 x.2) (fun e (s : Value × Value × Value × Value × Value) h => Jk64_0 rc md h0 e s.1 s.2.1 s.2.2.1 s.2.2.2.1 s.2.2.2.2 h) (s0, s1, s4, s12, s13) h
theorem J64_0_step (rc : Rec) (md : Md) (h0 : Heap) (s0 : Value) (s1 : Value) (s4 : Value) (s12 : Value) (s13 : Value) (h : Heap) : J64_0 rc md h0 s0 s1 s4 s12 s13 h = (Jr64_0 rc md s0 s1 s4 s12 s13 h).bind fun x => match x with
    | .inl (s, h) => J64_0 rc md h0 s.1 s.2.1 s.2.2.1 s.2.2.2.1 s.2.2.2.2 h
    | .inr (e, s, h) => Jk64_0 rc md h0 e s.1 s.2.1 s.2.2.1 s.2.2.2.1 s.2.2.2.2 h := by
  unfold J64_0
  rw [runL_eq]
  refine congrArg (Option.bind _) (funext fun x => ?_)
  rcases x with ⟨s, h⟩ | ⟨e, s, h⟩ <;> rfl
theorem J64_0_cut (rc : Rec) (md : Md) (h0 : Heap) : cut Try.prog cfg rc md 26 (bodyOf Try.prog 64) [1, 1, 0, 1, 0] (retK Try.prog cfg 64 (rsOf Try.prog 64) h0) = fun t h => J64_0 rc md h0 (t 0) (t 1) (t 4) (t 12) (t 13) h := by
  funext t h
  have e : sub (bodyOf Try.prog 64) [1, 1, 0, 1, 0] = .loop (sub (bodyOf Try.prog 64) [1, 1, 0, 1, 0, 0]) := by kernel_rfl
  unfold cut
  rw [e]
  exact loop_eq (by kernel_rfl) (fun t => (t 0, t 1, t 4, t 12, t 13)) (fun x : (Value × Value × Value × Value × Value) × Heap => Jr64_0 rc md x.1.1 x.1.2.1 x.1.2.2.1 x.1.2.2.2.1 x.1.2.2.2.2 x.2) (fun t h => Jr64_0_at rc md t h) (fun e (s : Value × Value × Value × Value × Value) h => Jk64_0 rc md h0 e s.1 s.2.1 s.2.2.1 s.2.2.2.1 s.2.2.2.2 h) (fun e t h => Jk64_0_at rc md h0 e t h) t h
noncomputable def F64 (rc : Rec) (md : Md) (a0 : Value) (a1 : Value) (h0 : Heap) : Option (Value × Heap) :=
  lenS a0 fun v1 =>
  cIn .i64 v1 fun n2 =>
  lenS a1 fun v3 =>
  cIn .i64 v3 fun n4 =>
  bif (n2 != n4) then
    some ((.bool false), h0)
  else
    lenS a0 fun v5 =>
    cIn .i64 v5 fun n6 =>
    J64_0 rc md h0 a0 a1 (.bool false) (.int .i64 n6) (.int .i64 0) h0
noncomputable def F64H (rc : Rec) (md : Md) (X0 : T → Heap → Option (Value × Heap)) (a0 : Value) (a1 : Value) (h0 : Heap) : Option (Value × Heap) :=
  lenS a0 fun v1 =>
  cIn .i64 v1 fun n2 =>
  lenS a1 fun v3 =>
  cIn .i64 v3 fun n4 =>
  bif (n2 != n4) then
    some ((.bool false), h0)
  else
    lenS a0 fun v5 =>
    cIn .i64 v5 fun n6 =>
    X0 (upd (upd (upd (upd (upd (upd (upd (upd (upd (args0 [a0, a1]) 4 (.bool false)) 6 a0) 7 (.int .i64 n2)) 8 a1) 9 (.int .i64 n4)) 10 (.bool (n2 != n4))) 11 a0) 12 (.int .i64 n6)) 13 (.int .i64 0)) h0
theorem F64_h0 (rc : Rec) (md : Md) (a0 : Value) (a1 : Value) (h0 : Heap) : callStep0 Try.prog cfg rc md 64 [a0, a1] h0 = exec Try.prog cfg rc ⟨h0.length, h0.length⟩ 26 (bodyOf Try.prog 64) (retK Try.prog cfg 64 (rsOf Try.prog 64) h0) (args0 [a0, a1]) h0 := callStep0_run (by kernel_rfl) (by kernel_rfl) (by kernel_rfl)
theorem F64_h1 (rc : Rec) (md : Md) (X : Nat → T → Heap → Option (Value × Heap)) (a0 : Value) (a1 : Value) (h0 : Heap) : execG Try.prog cfg X rc md 26 (replS (bodyOf Try.prog 64) [([1, 1, 0, 1, 0], 0)]) (retK Try.prog cfg 64 (rsOf Try.prog 64) h0) (args0 [a0, a1]) h0 = F64H rc md (X 0) a0 a1 h0 := by kernel_rfl
theorem F64_h2 (rc : Rec) (md : Md) (a0 : Value) (a1 : Value) (h0 : Heap) : F64H rc md (fun t h => J64_0 rc md h0 (t 0) (t 1) (t 4) (t 12) (t 13) h) a0 a1 h0 = F64 rc md a0 a1 h0 := by unfold F64H F64; kernel_rfl
theorem F64_eq0 (rc : Rec) (md : Md) (a0 : Value) (a1 : Value) (h0 : Heap) : callStep0 Try.prog cfg rc md 64 [a0, a1] h0 = F64 rc ⟨h0.length, h0.length⟩ a0 a1 h0 := by
  rw [F64_h0, exec_holes [([1, 1, 0, 1, 0], 0)] (by kernel_rfl), F64_h1, show (goX Try.prog cfg rc ⟨h0.length, h0.length⟩ 26 (bodyOf Try.prog 64) [([1, 1, 0, 1, 0], 0)] (retK Try.prog cfg 64 (rsOf Try.prog 64) h0)) 0 = _ from J64_0_cut rc ⟨h0.length, h0.length⟩ h0]
  exact F64_h2 rc _ a0 a1 h0
theorem F64_eq (rc : Rec) (md : Md) (a0 : Value) (a1 : Value) (h0 : Heap) : callStep Try.prog cfg rc md 64 [a0, a1] h0 = F64 rc ⟨h0.length, h0.length⟩ a0 a1 h0 := (callStep_ne (by kernel_rfl)).trans (F64_eq0 rc md a0 a1 h0)

end Go.Det.E
