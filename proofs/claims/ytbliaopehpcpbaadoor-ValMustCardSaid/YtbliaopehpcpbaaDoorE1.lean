/- Printed functions. -/
import Derived.Test.YtbliaopehpcpbaaDoorDetR
import Derived.Test.YtbliaopehpcpbaaDoorE0
import Derived.Test.YtbliaopehpcpbaaDoorDetT
import Derived.Test.YtbliaopehpcpbaaDoorDetX
import Derived.Test.YtbliaopehpcpbaaDoorProg
set_option autoImplicit false
set_option linter.unusedVariables false
set_option linter.unusedSimpArgs false
namespace Go.Det.E
open Go.Proofs Go.Det

def cfg : Cfg := ⟨fun f => bif Nat.ble 9 f && Nat.ble f 13 || Nat.beq f 15 || Nat.beq f 19 || Nat.ble 22 f && Nat.ble f 24 || Nat.beq f 27 then 2 else bif Nat.ble 3 f && Nat.ble f 7 || Nat.ble 25 f && Nat.ble f 26 || Nat.ble 30 f && Nat.ble f 31 || Nat.beq f 34 || Nat.beq f 64 then 1 else bif Nat.beq f 2 || Nat.beq f 8 || Nat.beq f 14 || Nat.ble 20 f && Nat.ble f 21 || Nat.beq f 28 || Nat.ble 32 f && Nat.ble f 33 || Nat.ble 36 f && Nat.ble f 42 then 3 else bif Nat.ble 17 f && Nat.ble f 18 || Nat.beq f 29 then 4 else 0, Go.Det.E.extX⟩

noncomputable abbrev C := call Tryd.prog cfg
/-- tombolo/tombololaw03.made -/
noncomputable def F9 (rc : Rec) (md : Md) (a0_0 : Int) (a0_1 : Int) (a0_2 : ByteArray) (a0_3 : Int) (h0 : Heap) : Option (Value × Heap) :=
  let h1 : Heap := h0 ++ [.own [(.int .i64 a0_0), (.int .i64 a0_1), (.string a0_2), (.int .i32 a0_3)]]
  ld1 (.pointer (some ⟨h0.length, 0, none⟩)) h1 fun v2 =>
  cIn .i64 v2 fun n3 =>
  bif (n3 == 1) then
    ld1 (.pointer (some ⟨h0.length, 1, none⟩)) h1 fun v4 =>
    cIn .i64 v4 fun n5 =>
    fin2 h0 (.iface 3 (.int .i64 n5))
  else
    bif (n3 == 2) then
      ld1 (.pointer (some ⟨h0.length, 2, none⟩)) h1 fun v6 =>
      fin2 h0 (.iface 9 v6)
    else
      bif (n3 == 3) then
        ld1 (.pointer (some ⟨h0.length, 3, none⟩)) h1 fun v7 =>
        cIn .i32 v7 fun n8 =>
        fin2 h0 (.iface 21 (.int .i32 n8))
      else
        bif (n3 == 4) then
          ld1 (.pointer (some ⟨h0.length, 1, none⟩)) h1 fun v9 =>
          cIn .i64 v9 fun n10 =>
          aConv Tryd.prog 3 47 (.int .i64 n10) fun v11 =>
          fin2 h0 (.iface 47 v11)
        else
          some (.nilIface, h0)
theorem F9_eq0 (rc : Rec) (md : Md) (a0_0 : Int) (a0_1 : Int) (a0_2 : ByteArray) (a0_3 : Int) (h0 : Heap) : callStep0 Tryd.prog cfg rc md 9 [(.agg #[(.int .i64 a0_0), (.int .i64 a0_1), (.string a0_2), (.int .i32 a0_3)])] h0 = F9 rc ⟨h0.length, h0.length⟩ a0_0 a0_1 a0_2 a0_3 h0 := by kernel_rfl
theorem F9_eq (rc : Rec) (md : Md) (a0_0 : Int) (a0_1 : Int) (a0_2 : ByteArray) (a0_3 : Int) (h0 : Heap) : callStep Tryd.prog cfg rc md 9 [(.agg #[(.int .i64 a0_0), (.int .i64 a0_1), (.string a0_2), (.int .i32 a0_3)])] h0 = F9 rc ⟨h0.length, h0.length⟩ a0_0 a0_1 a0_2 a0_3 h0 := (callStep_ne (by kernel_rfl)).trans (F9_eq0 rc md a0_0 a0_1 a0_2 a0_3 h0)

/-- tombolo/val.Num -/
noncomputable def F10 (rc : Rec) (md : Md) (a0 : Value) (h0 : Heap) : Option (Value × Heap) :=
  aAssert Tryd.prog a0 3 true fun v1 =>
  exT v1 0 fun v2 =>
  cIn .i64 v2 fun n3 =>
  exT v1 1 fun v4 =>
  cBn v4 fun b5 =>
  some ((.tuple #[(.int .i64 n3), (.bool b5)]), h0)
theorem F10_eq0 (rc : Rec) (md : Md) (a0 : Value) (h0 : Heap) : callStep0 Tryd.prog cfg rc md 10 [a0] h0 = F10 rc ⟨h0.length, h0.length⟩ a0 h0 := by kernel_rfl
theorem F10_eq (rc : Rec) (md : Md) (a0 : Value) (h0 : Heap) : callStep Tryd.prog cfg rc md 10 [a0] h0 = F10 rc ⟨h0.length, h0.length⟩ a0 h0 := (callStep_ne (by kernel_rfl)).trans (F10_eq0 rc md a0 h0)

/-- tombolo/val.Str -/
noncomputable def F11 (rc : Rec) (md : Md) (a0 : Value) (h0 : Heap) : Option (Value × Heap) :=
  aAssert Tryd.prog a0 9 true fun v1 =>
  exT v1 0 fun v2 =>
  exT v1 1 fun v3 =>
  cBn v3 fun b4 =>
  fin2 h0 (.tuple #[v2, (.bool b4)])
theorem F11_eq0 (rc : Rec) (md : Md) (a0 : Value) (h0 : Heap) : callStep0 Tryd.prog cfg rc md 11 [a0] h0 = F11 rc ⟨h0.length, h0.length⟩ a0 h0 := by kernel_rfl
theorem F11_eq (rc : Rec) (md : Md) (a0 : Value) (h0 : Heap) : callStep Tryd.prog cfg rc md 11 [a0] h0 = F11 rc ⟨h0.length, h0.length⟩ a0 h0 := (callStep_ne (by kernel_rfl)).trans (F11_eq0 rc md a0 h0)

/-- tombolo/val.Rune -/
noncomputable def F12 (rc : Rec) (md : Md) (a0 : Value) (h0 : Heap) : Option (Value × Heap) :=
  aAssert Tryd.prog a0 21 true fun v1 =>
  exT v1 0 fun v2 =>
  cIn .i32 v2 fun n3 =>
  exT v1 1 fun v4 =>
  cBn v4 fun b5 =>
  some ((.tuple #[(.int .i32 n3), (.bool b5)]), h0)
theorem F12_eq0 (rc : Rec) (md : Md) (a0 : Value) (h0 : Heap) : callStep0 Tryd.prog cfg rc md 12 [a0] h0 = F12 rc ⟨h0.length, h0.length⟩ a0 h0 := by kernel_rfl
theorem F12_eq (rc : Rec) (md : Md) (a0 : Value) (h0 : Heap) : callStep Tryd.prog cfg rc md 12 [a0] h0 = F12 rc ⟨h0.length, h0.length⟩ a0 h0 := (callStep_ne (by kernel_rfl)).trans (F12_eq0 rc md a0 h0)

/-- tombolo/val.Items -/
noncomputable def F13 (rc : Rec) (md : Md) (a0 : Value) (h0 : Heap) : Option (Value × Heap) :=
  aAssert Tryd.prog a0 33 true fun v1 =>
  exT v1 0 fun v2 =>
  exT v1 1 fun v3 =>
  cBn v3 fun b4 =>
  fin2 h0 (.tuple #[v2, (.bool b4)])
theorem F13_eq0 (rc : Rec) (md : Md) (a0 : Value) (h0 : Heap) : callStep0 Tryd.prog cfg rc md 13 [a0] h0 = F13 rc ⟨h0.length, h0.length⟩ a0 h0 := by kernel_rfl
theorem F13_eq (rc : Rec) (md : Md) (a0 : Value) (h0 : Heap) : callStep Tryd.prog cfg rc md 13 [a0] h0 = F13 rc ⟨h0.length, h0.length⟩ a0 h0 := (callStep_ne (by kernel_rfl)).trans (F13_eq0 rc md a0 h0)

/-- tombolo/tombololaw03.kind -/
noncomputable def F14 (rc : Rec) (md : Md) (a0_0 : Int) (a0_1 : Int) (a0_2 : ByteArray) (a0_3 : Int) (h0 : Heap) : Option (Value × Heap) :=
  let h1 : Heap := h0 ++ [.own [(.int .i64 a0_0), (.int .i64 a0_1), (.string a0_2), (.int .i32 a0_3)]]
  ld1 (.pointer (some ⟨h0.length, 0, none⟩)) h1 fun v2 =>
  cIn .i64 v2 fun n3 =>
  (bif wantV (.bool (decide (n3 ≥ 1))) true then
  some ((.pointer (some ⟨h0.length, 0, none⟩)), h1)
  else some (undef, h1)).bind fun p4 =>
  (bif wantV (.bool (decide (n3 ≥ 1))) true then
  ld1 p4.1 p4.2 fun v5 =>
  cIn .i64 v5 fun n6 =>
  some ((.int .i64 n6), p4.2)
  else some (undef, p4.2)).bind fun p7 =>
  (bif wantV (.bool (decide (n3 ≥ 1))) true then
  aBin Tryd.prog .leq 3 p7.1 (.int .i64 3) fun v8 =>
  some (v8, p7.2)
  else some (undef, p7.2)).bind fun p9 =>
  cBn (bif (decide (n3 ≥ 1)) then p9.1 else (.bool false)) fun b10 =>
  bif b10 then
    ld1 (.pointer (some ⟨h0.length, 0, none⟩)) p9.2 fun v11 =>
    cIn .i64 v11 fun n12 =>
    some ((.int .i64 n12), h0)
  else
    some ((.int .i64 0), h0)
theorem F14_eq0 (rc : Rec) (md : Md) (a0_0 : Int) (a0_1 : Int) (a0_2 : ByteArray) (a0_3 : Int) (h0 : Heap) : callStep0 Tryd.prog cfg rc md 14 [(.agg #[(.int .i64 a0_0), (.int .i64 a0_1), (.string a0_2), (.int .i32 a0_3)])] h0 = F14 rc ⟨h0.length, h0.length⟩ a0_0 a0_1 a0_2 a0_3 h0 := by kernel_rfl
theorem F14_eq (rc : Rec) (md : Md) (a0_0 : Int) (a0_1 : Int) (a0_2 : ByteArray) (a0_3 : Int) (h0 : Heap) : callStep Tryd.prog cfg rc md 14 [(.agg #[(.int .i64 a0_0), (.int .i64 a0_1), (.string a0_2), (.int .i32 a0_3)])] h0 = alone h0 (F14 rc ⟨0, 0⟩ a0_0 a0_1 a0_2 a0_3 []) := by
  have e : callStep Tryd.prog cfg rc md 14 [(.agg #[(.int .i64 a0_0), (.int .i64 a0_1), (.string a0_2), (.int .i32 a0_3)])] h0 = alone h0 (callStep0 Tryd.prog cfg rc ⟨0, 0⟩ 14 [(.agg #[(.int .i64 a0_0), (.int .i64 a0_1), (.string a0_2), (.int .i32 a0_3)])] []) := by kernel_rfl
  rw [e, F14_eq0]; rfl

/-- tombolo/val.Kind -/
noncomputable def F15 (rc : Rec) (md : Md) (a0 : Value) (h0 : Heap) : Option (Value × Heap) :=
  aAssert Tryd.prog a0 3 true fun v1 =>
  exT v1 1 fun v2 =>
  cBn v2 fun b3 =>
  exT v1 0 fun v4 =>
  cIn .i64 v4 fun n5 =>
  bif b3 then
    some ((.int .i64 1), h0)
  else
    aAssert Tryd.prog a0 9 true fun v6 =>
    exT v6 1 fun v7 =>
    cBn v7 fun b8 =>
    exT v6 0 fun v9 =>
    bif b8 then
      some ((.int .i64 2), h0)
    else
      aAssert Tryd.prog a0 21 true fun v10 =>
      exT v10 1 fun v11 =>
      cBn v11 fun b12 =>
      exT v10 0 fun v13 =>
      cIn .i32 v13 fun n14 =>
      bif b12 then
        some ((.int .i64 3), h0)
      else
        aAssert Tryd.prog a0 33 true fun v15 =>
        exT v15 1 fun v16 =>
        cBn v16 fun b17 =>
        exT v15 0 fun v18 =>
        bif b17 then
          some ((.int .i64 4), h0)
        else
          some ((.int .i64 0), h0)
theorem F15_eq0 (rc : Rec) (md : Md) (a0 : Value) (h0 : Heap) : callStep0 Tryd.prog cfg rc md 15 [a0] h0 = F15 rc ⟨h0.length, h0.length⟩ a0 h0 := by kernel_rfl
theorem F15_eq (rc : Rec) (md : Md) (a0 : Value) (h0 : Heap) : callStep Tryd.prog cfg rc md 15 [a0] h0 = F15 rc ⟨h0.length, h0.length⟩ a0 h0 := (callStep_ne (by kernel_rfl)).trans (F15_eq0 rc md a0 h0)

/-- tombolo/tombololaw03.list -/
noncomputable def Jk16_0 (rc : Rec) (md : Md) (h0 : Heap) (e : Exit) (s2 : Value) (s3 : Value) (s6 : Value) (s7 : Value) (s8 : Value) (h : Heap) : Option (Value × Heap) :=
  match e with
  | .normal =>
    some (s3, h)
  | .exit j =>
    bif Nat.beq j 0 then
      some (s3, h)
    else
      none
  | .ret =>
    some (s2, h)
  | .goto l => none
  | .panic ps => none
  | .outgrown => none
theorem Jk16_0_at (rc : Rec) (md : Md) (h0 : Heap) (e : Exit) (t : T) (h : Heap) : kAt Tryd.prog cfg rc md 19 (bodyOf Tryd.prog 16) [1, 1, 0, 1, 0] (retK Tryd.prog cfg 16 (rsOf Tryd.prog 16) h0) e t h = Jk16_0 rc md h0 e (t 2) (t 3) (t 6) (t 7) (t 8) h := by cases e <;> kernel_rfl
/-- a round -/
noncomputable def Jr16_0 (rc : Rec) (md : Md) (s2 : Value) (s3 : Value) (s6 : Value) (s7 : Value) (s8 : Value) (h : Heap) : Option (((Value × Value × Value × Value × Value) × Heap) ⊕ (Exit × (Value × Value × Value × Value × Value) × Heap)) :=
  aBin Tryd.prog .lss 3 s8 s7 fun v1 =>
  cBn v1 fun b2 =>
  bif b2 then
    ixSV 4 s6 s8 fun v3 =>
    ldN 4 v3 h fun v4 =>
    let h5 : Heap := h ++ [.own [(.int .i64 0), (.int .i64 0), (.string ⟨#[]⟩), (.int .i32 0)]]
    st md 4 (.pointer (some ⟨h.length, 0, none⟩)) v4 h5 fun h6 =>
    ldN 4 (.pointer (some ⟨h.length, 0, none⟩)) h6 fun v7 =>
    cl (rc md 9 [v7] h6) fun v8 h9 =>
    aBuildSlice Tryd.prog 33 1 [(0, v8)] h9 fun v10 h11 =>
    aBuiltin Tryd.prog md .append #[33, 33] [s3, v10] h11 fun v12 h13 =>
    aBin Tryd.prog .add 3 s8 (.int .i64 1) fun v14 =>
    some (.inl ((s2, v12, s6, s7, v14), h13))
  else
    some (.inr ((.exit 0), (s2, s3, s6, s7, s8), h))
theorem Jr16_0_at (rc : Rec) (md : Md) (t : T) (h : Heap) : exec Tryd.prog cfg rc md 19 (sub (bodyOf Tryd.prog 16) [1, 1, 0, 1, 0, 0]) (rndK (fun t => (t 2, t 3, t 6, t 7, t 8))) t h = Jr16_0 rc md (t 2) (t 3) (t 6) (t 7) (t 8) h := by kernel_rfl
noncomputable def J16_0 (rc : Rec) (md : Md) (h0 : Heap) (s2 : Value) (s3 : Value) (s6 : Value) (s7 : Value) (s8 : Value) (h : Heap) : Option (Value × Heap) :=
  runL (fun x : (Value × Value × Value × Value × Value) × Heap => Jr16_0 rc md x.1.1 x.1.2.1 x.1.2.2.1 x.1.2.2.2.1 x.1.2.2.2.2 x.2) (fun e (s : Value × Value × Value × Value × Value) h => Jk16_0 rc md h0 e s.1 s.2.1 s.2.2.1 s.2.2.2.1 s.2.2.2.2 h) (s2, s3, s6, s7, s8) h
theorem J16_0_step (rc : Rec) (md : Md) (h0 : Heap) (s2 : Value) (s3 : Value) (s6 : Value) (s7 : Value) (s8 : Value) (h : Heap) : J16_0 rc md h0 s2 s3 s6 s7 s8 h = (Jr16_0 rc md s2 s3 s6 s7 s8 h).bind fun x => match x with
    | .inl (s, h) => J16_0 rc md h0 s.1 s.2.1 s.2.2.1 s.2.2.2.1 s.2.2.2.2 h
    | .inr (e, s, h) => Jk16_0 rc md h0 e s.1 s.2.1 s.2.2.1 s.2.2.2.1 s.2.2.2.2 h := by
  unfold J16_0
  rw [runL_eq]
  refine congrArg (Option.bind _) (funext fun x => ?_)
  rcases x with ⟨s, h⟩ | ⟨e, s, h⟩ <;> rfl
theorem J16_0_cut (rc : Rec) (md : Md) (h0 : Heap) : cut Tryd.prog cfg rc md 19 (bodyOf Tryd.prog 16) [1, 1, 0, 1, 0] (retK Tryd.prog cfg 16 (rsOf Tryd.prog 16) h0) = fun t h => J16_0 rc md h0 (t 2) (t 3) (t 6) (t 7) (t 8) h := by
  funext t h
  have e : sub (bodyOf Tryd.prog 16) [1, 1, 0, 1, 0] = .loop (sub (bodyOf Tryd.prog 16) [1, 1, 0, 1, 0, 0]) := by kernel_rfl
  unfold cut
  rw [e]
  exact loop_eq (by kernel_rfl) (fun t => (t 2, t 3, t 6, t 7, t 8)) (fun x : (Value × Value × Value × Value × Value) × Heap => Jr16_0 rc md x.1.1 x.1.2.1 x.1.2.2.1 x.1.2.2.2.1 x.1.2.2.2.2 x.2) (fun t h => Jr16_0_at rc md t h) (fun e (s : Value × Value × Value × Value × Value) h => Jk16_0 rc md h0 e s.1 s.2.1 s.2.2.1 s.2.2.2.1 s.2.2.2.2 h) (fun e t h => Jk16_0_at rc md h0 e t h) t h
noncomputable def F16 (rc : Rec) (md : Md) (a0 : Value) (h0 : Heap) : Option (Value × Heap) :=
  lenS a0 fun v1 =>
  cIn .i64 v1 fun n2 =>
  J16_0 rc md h0 (.slice none 0 0) (.slice none 0 0) a0 (.int .i64 n2) (.int .i64 0) h0
noncomputable def F16H (rc : Rec) (md : Md) (X0 : T → Heap → Option (Value × Heap)) (a0 : Value) (h0 : Heap) : Option (Value × Heap) :=
  lenS a0 fun v1 =>
  cIn .i64 v1 fun n2 =>
  X0 (upd (upd (upd (upd (upd (args0 [a0]) 2 (.slice none 0 0)) 3 (.slice none 0 0)) 6 a0) 7 (.int .i64 n2)) 8 (.int .i64 0)) h0
theorem F16_h0 (rc : Rec) (md : Md) (a0 : Value) (h0 : Heap) : callStep0 Tryd.prog cfg rc md 16 [a0] h0 = exec Tryd.prog cfg rc md 19 (bodyOf Tryd.prog 16) (retK Tryd.prog cfg 16 (rsOf Tryd.prog 16) h0) (args0 [a0]) h0 := callStep0_run (by kernel_rfl) (by kernel_rfl) (by kernel_rfl)
theorem F16_h1 (rc : Rec) (md : Md) (X : Nat → T → Heap → Option (Value × Heap)) (a0 : Value) (h0 : Heap) : execG Tryd.prog cfg X rc md 19 (replS (bodyOf Tryd.prog 16) [([1, 1, 0, 1, 0], 0)]) (retK Tryd.prog cfg 16 (rsOf Tryd.prog 16) h0) (args0 [a0]) h0 = F16H rc md (X 0) a0 h0 := by kernel_rfl
theorem F16_h2 (rc : Rec) (md : Md) (a0 : Value) (h0 : Heap) : F16H rc md (fun t h => J16_0 rc md h0 (t 2) (t 3) (t 6) (t 7) (t 8) h) a0 h0 = F16 rc md a0 h0 := by unfold F16H F16; kernel_rfl
theorem F16_eq0 (rc : Rec) (md : Md) (a0 : Value) (h0 : Heap) : callStep0 Tryd.prog cfg rc md 16 [a0] h0 = F16 rc md a0 h0 := by
  rw [F16_h0, exec_holes [([1, 1, 0, 1, 0], 0)] (by kernel_rfl), F16_h1, show (goX Tryd.prog cfg rc md 19 (bodyOf Tryd.prog 16) [([1, 1, 0, 1, 0], 0)] (retK Tryd.prog cfg 16 (rsOf Tryd.prog 16) h0)) 0 = _ from J16_0_cut rc md h0]
  exact F16_h2 rc _ a0 h0
theorem F16_eq (rc : Rec) (md : Md) (a0 : Value) (h0 : Heap) : callStep Tryd.prog cfg rc md 16 [a0] h0 = F16 rc md a0 h0 := (callStep_ne (by kernel_rfl)).trans (F16_eq0 rc md a0 h0)

/-- tombolo/val.Equal -/
noncomputable def F19 (rc : Rec) (md : Md) (a0 : Value) (a1 : Value) (h0 : Heap) : Option (Value × Heap) :=
  aAssert Tryd.prog a0 3 true fun v1 =>
  exT v1 1 fun v2 =>
  cBn v2 fun b3 =>
  exT v1 0 fun v4 =>
  cIn .i64 v4 fun n5 =>
  bif b3 then
    cl (rc md 10 [a1] h0) fun v6 h7 =>
    exT v6 0 fun v8 =>
    cIn .i64 v8 fun n9 =>
    exT v6 1 fun v10 =>
    cBn v10 fun b11 =>
    (bif wantV (.bool b11) true then
    some ((.int .i64 n9), h7)
    else some (undef, h7)).bind fun p12 =>
    (bif wantV (.bool b11) true then
    some ((.int .i64 n5), p12.2)
    else some (undef, p12.2)).bind fun p13 =>
    (bif wantV (.bool b11) true then
    aBin Tryd.prog .eql 3 p12.1 p13.1 fun v14 =>
    some (v14, p13.2)
    else some (undef, p13.2)).bind fun p15 =>
    cBn (bif b11 then p15.1 else (.bool false)) fun b16 =>
    some ((.bool b16), h0)
  else
    aAssert Tryd.prog a0 9 true fun v17 =>
    exT v17 1 fun v18 =>
    cBn v18 fun b19 =>
    exT v17 0 fun v20 =>
    bif b19 then
      cl (rc md 11 [a1] h0) fun v21 h22 =>
      exT v21 0 fun v23 =>
      exT v21 1 fun v24 =>
      cBn v24 fun b25 =>
      (bif wantV (.bool b25) true then
      some (v23, h22)
      else some (undef, h22)).bind fun p26 =>
      (bif wantV (.bool b25) true then
      some (v20, p26.2)
      else some (undef, p26.2)).bind fun p27 =>
      (bif wantV (.bool b25) true then
      aBin Tryd.prog .eql 9 p26.1 p27.1 fun v28 =>
      some (v28, p27.2)
      else some (undef, p27.2)).bind fun p29 =>
      cBn (bif b25 then p29.1 else (.bool false)) fun b30 =>
      some ((.bool b30), h0)
    else
      aAssert Tryd.prog a0 21 true fun v31 =>
      exT v31 1 fun v32 =>
      cBn v32 fun b33 =>
      exT v31 0 fun v34 =>
      cIn .i32 v34 fun n35 =>
      bif b33 then
        cl (rc md 12 [a1] h0) fun v36 h37 =>
        exT v36 0 fun v38 =>
        cIn .i32 v38 fun n39 =>
        exT v36 1 fun v40 =>
        cBn v40 fun b41 =>
        (bif wantV (.bool b41) true then
        some ((.int .i32 n39), h37)
        else some (undef, h37)).bind fun p42 =>
        (bif wantV (.bool b41) true then
        some ((.int .i32 n35), p42.2)
        else some (undef, p42.2)).bind fun p43 =>
        (bif wantV (.bool b41) true then
        aBin Tryd.prog .eql 21 p42.1 p43.1 fun v44 =>
        some (v44, p43.2)
        else some (undef, p43.2)).bind fun p45 =>
        cBn (bif b41 then p45.1 else (.bool false)) fun b46 =>
        some ((.bool b46), h0)
      else
        aAssert Tryd.prog a0 33 true fun v47 =>
        exT v47 1 fun v48 =>
        cBn v48 fun b49 =>
        exT v47 0 fun v50 =>
        bif b49 then
          cl (rc md 13 [a1] h0) fun v51 h52 =>
          exT v51 0 fun v53 =>
          exT v51 1 fun v54 =>
          cBn v54 fun b55 =>
          (bif wantV (.bool b55) true then
          some (v50, h52)
          else some (undef, h52)).bind fun p56 =>
          (bif wantV (.bool b55) true then
          some (v53, p56.2)
          else some (undef, p56.2)).bind fun p57 =>
          (bif wantV (.bool b55) true then
          cl (rc md 27 [p56.1, p57.1, (.func (.func 19) #[] #[])] p57.2) fun v58 h59 =>
          cBn v58 fun b60 =>
          some ((.bool b60), h59)
          else some (undef, p57.2)).bind fun p61 =>
          cBn (bif b55 then p61.1 else (.bool false)) fun b62 =>
          some ((.bool b62), h0)
        else
          some ((.bool false), h0)
theorem F19_eq0 (rc : Rec) (md : Md) (a0 : Value) (a1 : Value) (h0 : Heap) : callStep0 Tryd.prog cfg rc md 19 [a0, a1] h0 = F19 rc ⟨h0.length, h0.length⟩ a0 a1 h0 := by kernel_rfl
theorem F19_eq (rc : Rec) (md : Md) (a0 : Value) (a1 : Value) (h0 : Heap) : callStep Tryd.prog cfg rc md 19 [a0, a1] h0 = F19 rc ⟨h0.length, h0.length⟩ a0 a1 h0 := (callStep_ne (by kernel_rfl)).trans (F19_eq0 rc md a0 a1 h0)

/-- tombolo/tombololaw03.same -/
noncomputable def F20 (rc : Rec) (md : Md) (a0_0 : Int) (a0_1 : Int) (a0_2 : ByteArray) (a0_3 : Int) (a1_0 : Int) (a1_1 : Int) (a1_2 : ByteArray) (a1_3 : Int) (h0 : Heap) : Option (Value × Heap) :=
  let h1 : Heap := h0 ++ [.own [(.int .i64 a0_0), (.int .i64 a0_1), (.string a0_2), (.int .i32 a0_3)]]
  let h2 : Heap := h1 ++ [.own [(.int .i64 a1_0), (.int .i64 a1_1), (.string a1_2), (.int .i32 a1_3)]]
  ldN 4 (.pointer (some ⟨h0.length, 0, none⟩)) h2 fun v3 =>
  cl (rc md 14 [v3] h2) fun v4 h5 =>
  cIn .i64 v4 fun n6 =>
  ldN 4 (.pointer (some ⟨h1.length, 0, none⟩)) h5 fun v7 =>
  cl (rc md 14 [v7] h5) fun v8 h9 =>
  cIn .i64 v8 fun n10 =>
  bif (n6 != n10) then
    some ((.bool false), h0)
  else
    ldN 4 (.pointer (some ⟨h0.length, 0, none⟩)) h9 fun v11 =>
    cl (rc md 14 [v11] h9) fun v12 h13 =>
    cIn .i64 v12 fun n14 =>
    bif (n14 == 1) then
      ld1 (.pointer (some ⟨h0.length, 1, none⟩)) h13 fun v15 =>
      cIn .i64 v15 fun n16 =>
      ld1 (.pointer (some ⟨h1.length, 1, none⟩)) h13 fun v17 =>
      cIn .i64 v17 fun n18 =>
      some ((.bool (n16 == n18)), h0)
    else
      bif (n14 == 2) then
        ld1 (.pointer (some ⟨h0.length, 2, none⟩)) h13 fun v19 =>
        ld1 (.pointer (some ⟨h1.length, 2, none⟩)) h13 fun v20 =>
        aBin Tryd.prog .eql 9 v19 v20 fun v21 =>
        fin2 h0 v21
      else
        bif (n14 == 3) then
          ld1 (.pointer (some ⟨h0.length, 3, none⟩)) h13 fun v22 =>
          cIn .i32 v22 fun n23 =>
          ld1 (.pointer (some ⟨h1.length, 3, none⟩)) h13 fun v24 =>
          cIn .i32 v24 fun n25 =>
          some ((.bool (n23 == n25)), h0)
        else
          some ((.bool false), h0)
theorem F20_eq0 (rc : Rec) (md : Md) (a0_0 : Int) (a0_1 : Int) (a0_2 : ByteArray) (a0_3 : Int) (a1_0 : Int) (a1_1 : Int) (a1_2 : ByteArray) (a1_3 : Int) (h0 : Heap) : callStep0 Tryd.prog cfg rc md 20 [(.agg #[(.int .i64 a0_0), (.int .i64 a0_1), (.string a0_2), (.int .i32 a0_3)]), (.agg #[(.int .i64 a1_0), (.int .i64 a1_1), (.string a1_2), (.int .i32 a1_3)])] h0 = F20 rc ⟨h0.length, h0.length⟩ a0_0 a0_1 a0_2 a0_3 a1_0 a1_1 a1_2 a1_3 h0 := by kernel_rfl
theorem F20_eq (rc : Rec) (md : Md) (a0_0 : Int) (a0_1 : Int) (a0_2 : ByteArray) (a0_3 : Int) (a1_0 : Int) (a1_1 : Int) (a1_2 : ByteArray) (a1_3 : Int) (h0 : Heap) : callStep Tryd.prog cfg rc md 20 [(.agg #[(.int .i64 a0_0), (.int .i64 a0_1), (.string a0_2), (.int .i32 a0_3)]), (.agg #[(.int .i64 a1_0), (.int .i64 a1_1), (.string a1_2), (.int .i32 a1_3)])] h0 = alone h0 (F20 rc ⟨0, 0⟩ a0_0 a0_1 a0_2 a0_3 a1_0 a1_1 a1_2 a1_3 []) := by
  have e : callStep Tryd.prog cfg rc md 20 [(.agg #[(.int .i64 a0_0), (.int .i64 a0_1), (.string a0_2), (.int .i32 a0_3)]), (.agg #[(.int .i64 a1_0), (.int .i64 a1_1), (.string a1_2), (.int .i32 a1_3)])] h0 = alone h0 (callStep0 Tryd.prog cfg rc ⟨0, 0⟩ 20 [(.agg #[(.int .i64 a0_0), (.int .i64 a0_1), (.string a0_2), (.int .i32 a0_3)]), (.agg #[(.int .i64 a1_0), (.int .i64 a1_1), (.string a1_2), (.int .i32 a1_3)])] []) := by kernel_rfl
  rw [e, F20_eq0]; rfl

/-- tombolo/tombololaw03.text -/
noncomputable def F21 (rc : Rec) (md : Md) (a0_0 : Int) (a0_1 : Int) (a0_2 : ByteArray) (a0_3 : Int) (h0 : Heap) : Option (Value × Heap) :=
  let h1 : Heap := h0 ++ [.own [(.int .i64 a0_0), (.int .i64 a0_1), (.string a0_2), (.int .i32 a0_3)]]
  ldN 4 (.pointer (some ⟨h0.length, 0, none⟩)) h1 fun v2 =>
  cl (rc md 14 [v2] h1) fun v3 h4 =>
  cIn .i64 v3 fun n5 =>
  bif (n5 == 1) then
    ld1 (.pointer (some ⟨h0.length, 1, none⟩)) h4 fun v6 =>
    cIn .i64 v6 fun n7 =>
    cl (rc md 28 [(.int .i64 n7)] h4) fun v8 h9 =>
    fin2 h0 v8
  else
    bif (n5 == 2) then
      ld1 (.pointer (some ⟨h0.length, 2, none⟩)) h4 fun v10 =>
      fin2 h0 v10
    else
      bif (n5 == 3) then
        ld1 (.pointer (some ⟨h0.length, 3, none⟩)) h4 fun v11 =>
        cIn .i32 v11 fun n12 =>
        aConv Tryd.prog 21 9 (.int .i32 n12) fun v13 =>
        fin2 h0 v13
      else
        some ((.string ⟨#[63]⟩), h0)
theorem F21_eq0 (rc : Rec) (md : Md) (a0_0 : Int) (a0_1 : Int) (a0_2 : ByteArray) (a0_3 : Int) (h0 : Heap) : callStep0 Tryd.prog cfg rc md 21 [(.agg #[(.int .i64 a0_0), (.int .i64 a0_1), (.string a0_2), (.int .i32 a0_3)])] h0 = F21 rc ⟨h0.length, h0.length⟩ a0_0 a0_1 a0_2 a0_3 h0 := by kernel_rfl
theorem F21_eq (rc : Rec) (md : Md) (a0_0 : Int) (a0_1 : Int) (a0_2 : ByteArray) (a0_3 : Int) (h0 : Heap) : callStep Tryd.prog cfg rc md 21 [(.agg #[(.int .i64 a0_0), (.int .i64 a0_1), (.string a0_2), (.int .i32 a0_3)])] h0 = alone h0 (F21 rc ⟨0, 0⟩ a0_0 a0_1 a0_2 a0_3 []) := by
  have e : callStep Tryd.prog cfg rc md 21 [(.agg #[(.int .i64 a0_0), (.int .i64 a0_1), (.string a0_2), (.int .i32 a0_3)])] h0 = alone h0 (callStep0 Tryd.prog cfg rc ⟨0, 0⟩ 21 [(.agg #[(.int .i64 a0_0), (.int .i64 a0_1), (.string a0_2), (.int .i32 a0_3)])] []) := by kernel_rfl
  rw [e, F21_eq0]; rfl

/-- tombolo/val.Say -/
noncomputable def Jk22_0 (rc : Rec) (md : Md) (h0 : Heap) (e : Exit) (s2 : Value) (s7 : Value) (s28 : Value) (s29 : Value) (s30 : Value) (h : Heap) : Option (Value × Heap) :=
  match e with
  | .normal =>
    aBin Tryd.prog .add 9 s7 (.string ⟨#[41]⟩) fun v1 =>
    fin2 h0 v1
  | .exit j =>
    bif Nat.beq j 1 then
      aBin Tryd.prog .add 9 s7 (.string ⟨#[41]⟩) fun v2 =>
      fin2 h0 v2
    else
      bif Nat.beq j 0 then
        some ((.string ⟨#[63]⟩), h0)
      else
        none
  | .ret =>
    fin2 h0 s2
  | .goto l => none
  | .panic ps => none
  | .outgrown => none
theorem Jk22_0_at (rc : Rec) (md : Md) (h0 : Heap) (e : Exit) (t : T) (h : Heap) : kAt Tryd.prog cfg rc md 46 (bodyOf Tryd.prog 22) [1, 0, 1, 0, 1, 1, 1, 1, 1, 1, 1, 0, 1, 1, 0, 1, 0] (retK Tryd.prog cfg 22 (rsOf Tryd.prog 22) h0) e t h = Jk22_0 rc md h0 e (t 2) (t 7) (t 28) (t 29) (t 30) h := by cases e <;> kernel_rfl
noncomputable def J22_0b0 (rc : Rec) (md : Md) (s2 : Value) (s7 : Value) (s9 : Value) (s28 : Value) (s29 : Value) (s30 : Value) (h : Heap) : Option (((Value × Value × Value × Value × Value) × Heap) ⊕ (Exit × (Value × Value × Value × Value × Value) × Heap)) :=
  cl (rc md 22 [s9] h) fun v1 h2 =>
  aBin Tryd.prog .add 9 s7 v1 fun v3 =>
  aBin Tryd.prog .add 3 s30 (.int .i64 1) fun v4 =>
  some (.inl ((s2, v3, s28, s29, v4), h2))
theorem J22_0b0_at (rc : Rec) (md : Md) (t : T) (h : Heap) : cut Tryd.prog cfg rc md 46 (sub (bodyOf Tryd.prog 22) [1, 0, 1, 0, 1, 1, 1, 1, 1, 1, 1, 0, 1, 1, 0, 1, 0, 0]) [1, 1, 0, 0, 1, 1] (rndK (fun t => (t 2, t 7, t 28, t 29, t 30))) t h = J22_0b0 rc md (t 2) (t 7) (t 9) (t 28) (t 29) (t 30) h := by kernel_rfl
theorem J22_0b0_cut (rc : Rec) (md : Md) : cut Tryd.prog cfg rc md 46 (sub (bodyOf Tryd.prog 22) [1, 0, 1, 0, 1, 1, 1, 1, 1, 1, 1, 0, 1, 1, 0, 1, 0, 0]) [1, 1, 0, 0, 1, 1] (rndK (fun t => (t 2, t 7, t 28, t 29, t 30))) = fun t h => J22_0b0 rc md (t 2) (t 7) (t 9) (t 28) (t 29) (t 30) h := funext fun t => funext fun h => J22_0b0_at rc md t h
/-- a round -/
noncomputable def Jr22_0 (rc : Rec) (md : Md) (s2 : Value) (s7 : Value) (s28 : Value) (s29 : Value) (s30 : Value) (h : Heap) : Option (((Value × Value × Value × Value × Value) × Heap) ⊕ (Exit × (Value × Value × Value × Value × Value) × Heap)) :=
  aBin Tryd.prog .lss 3 s30 s29 fun v1 =>
  cBn v1 fun b2 =>
  bif b2 then
    ixSV 1 s28 s30 fun v3 =>
    ld1 v3 h fun v4 =>
    aBin Tryd.prog .gtr 3 s30 (.int .i64 0) fun v5 =>
    cBn v5 fun b6 =>
    bif b6 then
      aBin Tryd.prog .add 9 s7 (.string ⟨#[32]⟩) fun v7 =>
      J22_0b0 rc md s2 v7 v4 s28 s29 s30 h
    else
      J22_0b0 rc md s2 s7 v4 s28 s29 s30 h
  else
    some (.inr ((.exit 1), (s2, s7, s28, s29, s30), h))
noncomputable def Jr22_0H (rc : Rec) (md : Md) (X0 : T → Heap → Option (((Value × Value × Value × Value × Value) × Heap) ⊕ (Exit × (Value × Value × Value × Value × Value) × Heap))) (t : T) (h : Heap) : Option (((Value × Value × Value × Value × Value) × Heap) ⊕ (Exit × (Value × Value × Value × Value × Value) × Heap)) :=
  aBin Tryd.prog .lss 3 (t 30) (t 29) fun v1 =>
  cBn v1 fun b2 =>
  bif b2 then
    ixSV 1 (t 28) (t 30) fun v3 =>
    ld1 v3 h fun v4 =>
    aBin Tryd.prog .gtr 3 (t 30) (.int .i64 0) fun v5 =>
    cBn v5 fun b6 =>
    bif b6 then
      aBin Tryd.prog .add 9 (t 7) (.string ⟨#[32]⟩) fun v7 =>
      X0 (upd (upd (upd (upd (upd (upd (upd (upd (upd (upd (upd t 31 v1) 32 (t 30)) 33 v3) 34 v4) 8 (t 30)) 9 v4) 35 (t 30)) 36 v5) 37 (t 7)) 38 v7) 7 v7) h
    else
      X0 (upd (upd (upd (upd (upd (upd (upd (upd t 31 v1) 32 (t 30)) 33 v3) 34 v4) 8 (t 30)) 9 v4) 35 (t 30)) 36 v5) h
  else
    some (.inr ((.exit 1), ((t 2), (t 7), (t 28), (t 29), (t 30)), h))
theorem Jr22_0_h1 (rc : Rec) (md : Md) (X : Nat → T → Heap → Option (((Value × Value × Value × Value × Value) × Heap) ⊕ (Exit × (Value × Value × Value × Value × Value) × Heap))) (t : T) (h : Heap) : execG Tryd.prog cfg X rc md 46 (replS (sub (bodyOf Tryd.prog 22) [1, 0, 1, 0, 1, 1, 1, 1, 1, 1, 1, 0, 1, 1, 0, 1, 0, 0]) [([1, 1, 0, 0, 1, 1], 0)]) (rndK (fun t => (t 2, t 7, t 28, t 29, t 30))) t h = Jr22_0H rc md (X 0) t h := by kernel_rfl
theorem Jr22_0_h2 (rc : Rec) (md : Md) (t : T) (h : Heap) : Jr22_0H rc md (fun t h => J22_0b0 rc md (t 2) (t 7) (t 9) (t 28) (t 29) (t 30) h) t h = Jr22_0 rc md (t 2) (t 7) (t 28) (t 29) (t 30) h := by unfold Jr22_0H Jr22_0; kernel_rfl
theorem Jr22_0_at (rc : Rec) (md : Md) (t : T) (h : Heap) : exec Tryd.prog cfg rc md 46 (sub (bodyOf Tryd.prog 22) [1, 0, 1, 0, 1, 1, 1, 1, 1, 1, 1, 0, 1, 1, 0, 1, 0, 0]) (rndK (fun t => (t 2, t 7, t 28, t 29, t 30))) t h = Jr22_0 rc md (t 2) (t 7) (t 28) (t 29) (t 30) h := by
  rw [exec_holes [([1, 1, 0, 0, 1, 1], 0)] (by kernel_rfl), Jr22_0_h1, show (goX Tryd.prog cfg rc md 46 (sub (bodyOf Tryd.prog 22) [1, 0, 1, 0, 1, 1, 1, 1, 1, 1, 1, 0, 1, 1, 0, 1, 0, 0]) [([1, 1, 0, 0, 1, 1], 0)] (rndK (fun t => (t 2, t 7, t 28, t 29, t 30)))) 0 = _ from J22_0b0_cut rc md]
  exact Jr22_0_h2 rc md t h
noncomputable def J22_0 (rc : Rec) (md : Md) (h0 : Heap) (s2 : Value) (s7 : Value) (s28 : Value) (s29 : Value) (s30 : Value) (h : Heap) : Option (Value × Heap) :=
  runL (fun x : (Value × Value × Value × Value × Value) × Heap => Jr22_0 rc md x.1.1 x.1.2.1 x.1.2.2.1 x.1.2.2.2.1 x.1.2.2.2.2 x.2) (fun e (s : Value × Value × Value × Value × Value) h => Jk22_0 rc md h0 e s.1 s.2.1 s.2.2.1 s.2.2.2.1 s.2.2.2.2 h) (s2, s7, s28, s29, s30) h
theorem J22_0_step (rc : Rec) (md : Md) (h0 : Heap) (s2 : Value) (s7 : Value) (s28 : Value) (s29 : Value) (s30 : Value) (h : Heap) : J22_0 rc md h0 s2 s7 s28 s29 s30 h = (Jr22_0 rc md s2 s7 s28 s29 s30 h).bind fun x => match x with
    | .inl (s, h) => J22_0 rc md h0 s.1 s.2.1 s.2.2.1 s.2.2.2.1 s.2.2.2.2 h
    | .inr (e, s, h) => Jk22_0 rc md h0 e s.1 s.2.1 s.2.2.1 s.2.2.2.1 s.2.2.2.2 h := by
  unfold J22_0
  rw [runL_eq]
  refine congrArg (Option.bind _) (funext fun x => ?_)
  rcases x with ⟨s, h⟩ | ⟨e, s, h⟩ <;> rfl
theorem J22_0_cut (rc : Rec) (md : Md) (h0 : Heap) : cut Tryd.prog cfg rc md 46 (bodyOf Tryd.prog 22) [1, 0, 1, 0, 1, 1, 1, 1, 1, 1, 1, 0, 1, 1, 0, 1, 0] (retK Tryd.prog cfg 22 (rsOf Tryd.prog 22) h0) = fun t h => J22_0 rc md h0 (t 2) (t 7) (t 28) (t 29) (t 30) h := by
  funext t h
  have e : sub (bodyOf Tryd.prog 22) [1, 0, 1, 0, 1, 1, 1, 1, 1, 1, 1, 0, 1, 1, 0, 1, 0] = .loop (sub (bodyOf Tryd.prog 22) [1, 0, 1, 0, 1, 1, 1, 1, 1, 1, 1, 0, 1, 1, 0, 1, 0, 0]) := by kernel_rfl
  unfold cut
  rw [e]
  exact loop_eq (by kernel_rfl) (fun t => (t 2, t 7, t 28, t 29, t 30)) (fun x : (Value × Value × Value × Value × Value) × Heap => Jr22_0 rc md x.1.1 x.1.2.1 x.1.2.2.1 x.1.2.2.2.1 x.1.2.2.2.2 x.2) (fun t h => Jr22_0_at rc md t h) (fun e (s : Value × Value × Value × Value × Value) h => Jk22_0 rc md h0 e s.1 s.2.1 s.2.2.1 s.2.2.2.1 s.2.2.2.2 h) (fun e t h => Jk22_0_at rc md h0 e t h) t h
noncomputable def F22 (rc : Rec) (md : Md) (a0 : Value) (h0 : Heap) : Option (Value × Heap) :=
  aAssert Tryd.prog a0 3 true fun v1 =>
  exT v1 1 fun v2 =>
  cBn v2 fun b3 =>
  exT v1 0 fun v4 =>
  cIn .i64 v4 fun n5 =>
  bif b3 then
    cl (rc md 29 [(.int .i64 n5)] h0) fun v6 h7 =>
    fin2 h0 v6
  else
    aAssert Tryd.prog a0 9 true fun v8 =>
    exT v8 1 fun v9 =>
    cBn v9 fun b10 =>
    exT v8 0 fun v11 =>
    bif b10 then
      fin2 h0 v11
    else
      aAssert Tryd.prog a0 21 true fun v12 =>
      exT v12 1 fun v13 =>
      cBn v13 fun b14 =>
      exT v12 0 fun v15 =>
      cIn .i32 v15 fun n16 =>
      bif b14 then
        aConv Tryd.prog 21 9 (.int .i32 n16) fun v17 =>
        fin2 h0 v17
      else
        aAssert Tryd.prog a0 33 true fun v18 =>
        exT v18 1 fun v19 =>
        cBn v19 fun b20 =>
        exT v18 0 fun v21 =>
        bif b20 then
          lenS v21 fun v22 =>
          cIn .i64 v22 fun n23 =>
          J22_0 rc md h0 (.string ⟨#[]⟩) (.string ⟨#[40]⟩) v21 (.int .i64 n23) (.int .i64 0) h0
        else
          some ((.string ⟨#[63]⟩), h0)
noncomputable def F22H (rc : Rec) (md : Md) (X0 : T → Heap → Option (Value × Heap)) (a0 : Value) (h0 : Heap) : Option (Value × Heap) :=
  aAssert Tryd.prog a0 3 true fun v1 =>
  exT v1 1 fun v2 =>
  cBn v2 fun b3 =>
  exT v1 0 fun v4 =>
  cIn .i64 v4 fun n5 =>
  bif b3 then
    cl (rc md 29 [(.int .i64 n5)] h0) fun v6 h7 =>
    fin2 h0 v6
  else
    aAssert Tryd.prog a0 9 true fun v8 =>
    exT v8 1 fun v9 =>
    cBn v9 fun b10 =>
    exT v8 0 fun v11 =>
    bif b10 then
      fin2 h0 v11
    else
      aAssert Tryd.prog a0 21 true fun v12 =>
      exT v12 1 fun v13 =>
      cBn v13 fun b14 =>
      exT v12 0 fun v15 =>
      cIn .i32 v15 fun n16 =>
      bif b14 then
        aConv Tryd.prog 21 9 (.int .i32 n16) fun v17 =>
        fin2 h0 v17
      else
        aAssert Tryd.prog a0 33 true fun v18 =>
        exT v18 1 fun v19 =>
        cBn v19 fun b20 =>
        exT v18 0 fun v21 =>
        bif b20 then
          lenS v21 fun v22 =>
          cIn .i64 v22 fun n23 =>
          X0 (upd (upd (upd (upd (upd (upd (upd (upd (upd (upd (upd (upd (upd (upd (upd (upd (upd (upd (upd (args0 [a0]) 2 (.string ⟨#[]⟩)) 10 a0) 11 v1) 12 (.bool b3)) 13 (.int .i64 n5)) 16 v8) 17 (.bool b10)) 18 v11) 20 v12) 21 (.bool b14)) 22 (.int .i32 n16)) 25 v18) 26 (.bool b20)) 27 v21) 6 v21) 7 (.string ⟨#[40]⟩)) 28 v21) 29 (.int .i64 n23)) 30 (.int .i64 0)) h0
        else
          some ((.string ⟨#[63]⟩), h0)
theorem F22_h0 (rc : Rec) (md : Md) (a0 : Value) (h0 : Heap) : callStep0 Tryd.prog cfg rc md 22 [a0] h0 = exec Tryd.prog cfg rc ⟨h0.length, h0.length⟩ 46 (bodyOf Tryd.prog 22) (retK Tryd.prog cfg 22 (rsOf Tryd.prog 22) h0) (args0 [a0]) h0 := callStep0_run (by kernel_rfl) (by kernel_rfl) (by kernel_rfl)
theorem F22_h1 (rc : Rec) (md : Md) (X : Nat → T → Heap → Option (Value × Heap)) (a0 : Value) (h0 : Heap) : execG Tryd.prog cfg X rc md 46 (replS (bodyOf Tryd.prog 22) [([1, 0, 1, 0, 1, 1, 1, 1, 1, 1, 1, 0, 1, 1, 0, 1, 0], 0)]) (retK Tryd.prog cfg 22 (rsOf Tryd.prog 22) h0) (args0 [a0]) h0 = F22H rc md (X 0) a0 h0 := by kernel_rfl
theorem F22_h2 (rc : Rec) (md : Md) (a0 : Value) (h0 : Heap) : F22H rc md (fun t h => J22_0 rc md h0 (t 2) (t 7) (t 28) (t 29) (t 30) h) a0 h0 = F22 rc md a0 h0 := by unfold F22H F22; kernel_rfl
theorem F22_eq0 (rc : Rec) (md : Md) (a0 : Value) (h0 : Heap) : callStep0 Tryd.prog cfg rc md 22 [a0] h0 = F22 rc ⟨h0.length, h0.length⟩ a0 h0 := by
  rw [F22_h0, exec_holes [([1, 0, 1, 0, 1, 1, 1, 1, 1, 1, 1, 0, 1, 1, 0, 1, 0], 0)] (by kernel_rfl), F22_h1, show (goX Tryd.prog cfg rc ⟨h0.length, h0.length⟩ 46 (bodyOf Tryd.prog 22) [([1, 0, 1, 0, 1, 1, 1, 1, 1, 1, 1, 0, 1, 1, 0, 1, 0], 0)] (retK Tryd.prog cfg 22 (rsOf Tryd.prog 22) h0)) 0 = _ from J22_0_cut rc ⟨h0.length, h0.length⟩ h0]
  exact F22_h2 rc _ a0 h0
theorem F22_eq (rc : Rec) (md : Md) (a0 : Value) (h0 : Heap) : callStep Tryd.prog cfg rc md 22 [a0] h0 = F22 rc ⟨h0.length, h0.length⟩ a0 h0 := (callStep_ne (by kernel_rfl)).trans (F22_eq0 rc md a0 h0)

/-- tombolo/val.MustNum -/
noncomputable def F23 (rc : Rec) (md : Md) (a0 : Value) (h0 : Heap) : Option (Value × Heap) :=
  aAssert Tryd.prog a0 3 false fun v1 =>
  fin2 h0 v1
theorem F23_eq0 (rc : Rec) (md : Md) (a0 : Value) (h0 : Heap) : callStep0 Tryd.prog cfg rc md 23 [a0] h0 = F23 rc ⟨h0.length, h0.length⟩ a0 h0 := by kernel_rfl
theorem F23_eq (rc : Rec) (md : Md) (a0 : Value) (h0 : Heap) : callStep Tryd.prog cfg rc md 23 [a0] h0 = F23 rc ⟨h0.length, h0.length⟩ a0 h0 := (callStep_ne (by kernel_rfl)).trans (F23_eq0 rc md a0 h0)

/-- tombolo/val.MustStr -/
noncomputable def F24 (rc : Rec) (md : Md) (a0 : Value) (h0 : Heap) : Option (Value × Heap) :=
  aAssert Tryd.prog a0 9 false fun v1 =>
  fin2 h0 v1
theorem F24_eq0 (rc : Rec) (md : Md) (a0 : Value) (h0 : Heap) : callStep0 Tryd.prog cfg rc md 24 [a0] h0 = F24 rc ⟨h0.length, h0.length⟩ a0 h0 := by kernel_rfl
theorem F24_eq (rc : Rec) (md : Md) (a0 : Value) (h0 : Heap) : callStep Tryd.prog cfg rc md 24 [a0] h0 = F24 rc ⟨h0.length, h0.length⟩ a0 h0 := (callStep_ne (by kernel_rfl)).trans (F24_eq0 rc md a0 h0)

/-- slices.EqualFunc[[]any,[]any,any,any] -/
noncomputable def Jk27_0 (rc : Rec) (md : Md) (h0 : Heap) (e : Exit) (s1 : Value) (s2 : Value) (s6 : Value) (s15 : Value) (s16 : Value) (s17 : Value) (h : Heap) : Option (Value × Heap) :=
  match e with
  | .normal =>
    some ((.bool true), h0)
  | .exit j =>
    bif Nat.beq j 0 then
      some ((.bool true), h0)
    else
      none
  | .ret =>
    fin2 h0 s6
  | .goto l => none
  | .panic ps => none
  | .outgrown => none
theorem Jk27_0_at (rc : Rec) (md : Md) (h0 : Heap) (e : Exit) (t : T) (h : Heap) : kAt Tryd.prog cfg rc md 32 (bodyOf Tryd.prog 27) [1, 1, 0, 1, 0] (retK Tryd.prog cfg 27 (rsOf Tryd.prog 27) h0) e t h = Jk27_0 rc md h0 e (t 1) (t 2) (t 6) (t 15) (t 16) (t 17) h := by cases e <;> kernel_rfl
/-- a round -/
noncomputable def Jr27_0 (rc : Rec) (md : Md) (s1 : Value) (s2 : Value) (s6 : Value) (s15 : Value) (s16 : Value) (s17 : Value) (h : Heap) : Option (((Value × Value × Value × Value × Value × Value) × Heap) ⊕ (Exit × (Value × Value × Value × Value × Value × Value) × Heap)) :=
  aBin Tryd.prog .lss 3 s17 s16 fun v1 =>
  cBn v1 fun b2 =>
  bif b2 then
    ixSV 1 s15 s17 fun v3 =>
    ld1 v3 h fun v4 =>
    ixSV 1 s1 s17 fun v5 =>
    ld1 v5 h fun v6 =>
    clV rc md s2 [v4, v6] h fun v7 h8 =>
    cBn v7 fun b9 =>
    bif !b9 then
      some (.inr (.ret, (s1, s2, (.bool false), s15, s16, s17), h8))
    else
      aBin Tryd.prog .add 3 s17 (.int .i64 1) fun v10 =>
      some (.inl ((s1, s2, s6, s15, s16, v10), h8))
  else
    some (.inr ((.exit 0), (s1, s2, s6, s15, s16, s17), h))
theorem Jr27_0_at (rc : Rec) (md : Md) (t : T) (h : Heap) : exec Tryd.prog cfg rc md 32 (sub (bodyOf Tryd.prog 27) [1, 1, 0, 1, 0, 0]) (rndK (fun t => (t 1, t 2, t 6, t 15, t 16, t 17))) t h = Jr27_0 rc md (t 1) (t 2) (t 6) (t 15) (t 16) (t 17) h := by kernel_rfl
noncomputable def J27_0 (rc : Rec) (md : Md) (h0 : Heap) (s1 : Value) (s2 : Value) (s6 : Value) (s15 : Value) (s16 : Value) (s17 : Value) (h : Heap) : Option (Value × Heap) :=
  runL (fun x : (Value × Value × Value × Value × Value × Value) × Heap => Jr27_0 rc md x.1.1 x.1.2.1 x.1.2.2.1 x.1.2.2.2.1 x.1.2.2.2.2.1 x.1.2.2.2.2.2 x.2) (fun e (s : Value × Value × Value × Value × Value × Value) h => Jk27_0 rc md h0 e s.1 s.2.1 s.2.2.1 s.2.2.2.1 s.2.2.2.2.1 s.2.2.2.2.2 h) (s1, s2, s6, s15, s16, s17) h
theorem J27_0_step (rc : Rec) (md : Md) (h0 : Heap) (s1 : Value) (s2 : Value) (s6 : Value) (s15 : Value) (s16 : Value) (s17 : Value) (h : Heap) : J27_0 rc md h0 s1 s2 s6 s15 s16 s17 h = (Jr27_0 rc md s1 s2 s6 s15 s16 s17 h).bind fun x => match x with
    | .inl (s, h) => J27_0 rc md h0 s.1 s.2.1 s.2.2.1 s.2.2.2.1 s.2.2.2.2.1 s.2.2.2.2.2 h
    | .inr (e, s, h) => Jk27_0 rc md h0 e s.1 s.2.1 s.2.2.1 s.2.2.2.1 s.2.2.2.2.1 s.2.2.2.2.2 h := by
  unfold J27_0
  rw [runL_eq]
  refine congrArg (Option.bind _) (funext fun x => ?_)
  rcases x with ⟨s, h⟩ | ⟨e, s, h⟩ <;> rfl
theorem J27_0_cut (rc : Rec) (md : Md) (h0 : Heap) : cut Tryd.prog cfg rc md 32 (bodyOf Tryd.prog 27) [1, 1, 0, 1, 0] (retK Tryd.prog cfg 27 (rsOf Tryd.prog 27) h0) = fun t h => J27_0 rc md h0 (t 1) (t 2) (t 6) (t 15) (t 16) (t 17) h := by
  funext t h
  have e : sub (bodyOf Tryd.prog 27) [1, 1, 0, 1, 0] = .loop (sub (bodyOf Tryd.prog 27) [1, 1, 0, 1, 0, 0]) := by kernel_rfl
  unfold cut
  rw [e]
  exact loop_eq (by kernel_rfl) (fun t => (t 1, t 2, t 6, t 15, t 16, t 17)) (fun x : (Value × Value × Value × Value × Value × Value) × Heap => Jr27_0 rc md x.1.1 x.1.2.1 x.1.2.2.1 x.1.2.2.2.1 x.1.2.2.2.2.1 x.1.2.2.2.2.2 x.2) (fun t h => Jr27_0_at rc md t h) (fun e (s : Value × Value × Value × Value × Value × Value) h => Jk27_0 rc md h0 e s.1 s.2.1 s.2.2.1 s.2.2.2.1 s.2.2.2.2.1 s.2.2.2.2.2 h) (fun e t h => Jk27_0_at rc md h0 e t h) t h
noncomputable def F27 (rc : Rec) (md : Md) (a0 : Value) (a1 : Value) (a2 : Value) (h0 : Heap) : Option (Value × Heap) :=
  lenS a0 fun v1 =>
  cIn .i64 v1 fun n2 =>
  lenS a1 fun v3 =>
  cIn .i64 v3 fun n4 =>
  bif (n2 != n4) then
    some ((.bool false), h0)
  else
    lenS a0 fun v5 =>
    cIn .i64 v5 fun n6 =>
    J27_0 rc md h0 a1 a2 (.bool false) a0 (.int .i64 n6) (.int .i64 0) h0
noncomputable def F27H (rc : Rec) (md : Md) (X0 : T → Heap → Option (Value × Heap)) (a0 : Value) (a1 : Value) (a2 : Value) (h0 : Heap) : Option (Value × Heap) :=
  lenS a0 fun v1 =>
  cIn .i64 v1 fun n2 =>
  lenS a1 fun v3 =>
  cIn .i64 v3 fun n4 =>
  bif (n2 != n4) then
    some ((.bool false), h0)
  else
    lenS a0 fun v5 =>
    cIn .i64 v5 fun n6 =>
    X0 (upd (upd (upd (upd (upd (upd (upd (upd (upd (args0 [a0, a1, a2]) 6 (.bool false)) 10 a0) 11 (.int .i64 n2)) 12 a1) 13 (.int .i64 n4)) 14 (.bool (n2 != n4))) 15 a0) 16 (.int .i64 n6)) 17 (.int .i64 0)) h0
theorem F27_h0 (rc : Rec) (md : Md) (a0 : Value) (a1 : Value) (a2 : Value) (h0 : Heap) : callStep0 Tryd.prog cfg rc md 27 [a0, a1, a2] h0 = exec Tryd.prog cfg rc ⟨h0.length, h0.length⟩ 32 (bodyOf Tryd.prog 27) (retK Tryd.prog cfg 27 (rsOf Tryd.prog 27) h0) (args0 [a0, a1, a2]) h0 := callStep0_run (by kernel_rfl) (by kernel_rfl) (by kernel_rfl)
theorem F27_h1 (rc : Rec) (md : Md) (X : Nat → T → Heap → Option (Value × Heap)) (a0 : Value) (a1 : Value) (a2 : Value) (h0 : Heap) : execG Tryd.prog cfg X rc md 32 (replS (bodyOf Tryd.prog 27) [([1, 1, 0, 1, 0], 0)]) (retK Tryd.prog cfg 27 (rsOf Tryd.prog 27) h0) (args0 [a0, a1, a2]) h0 = F27H rc md (X 0) a0 a1 a2 h0 := by kernel_rfl
theorem F27_h2 (rc : Rec) (md : Md) (a0 : Value) (a1 : Value) (a2 : Value) (h0 : Heap) : F27H rc md (fun t h => J27_0 rc md h0 (t 1) (t 2) (t 6) (t 15) (t 16) (t 17) h) a0 a1 a2 h0 = F27 rc md a0 a1 a2 h0 := by unfold F27H F27; kernel_rfl
theorem F27_eq0 (rc : Rec) (md : Md) (a0 : Value) (a1 : Value) (a2 : Value) (h0 : Heap) : callStep0 Tryd.prog cfg rc md 27 [a0, a1, a2] h0 = F27 rc ⟨h0.length, h0.length⟩ a0 a1 a2 h0 := by
  rw [F27_h0, exec_holes [([1, 1, 0, 1, 0], 0)] (by kernel_rfl), F27_h1, show (goX Tryd.prog cfg rc ⟨h0.length, h0.length⟩ 32 (bodyOf Tryd.prog 27) [([1, 1, 0, 1, 0], 0)] (retK Tryd.prog cfg 27 (rsOf Tryd.prog 27) h0)) 0 = _ from J27_0_cut rc ⟨h0.length, h0.length⟩ h0]
  exact F27_h2 rc _ a0 a1 a2 h0
theorem F27_eq (rc : Rec) (md : Md) (a0 : Value) (a1 : Value) (a2 : Value) (h0 : Heap) : callStep Tryd.prog cfg rc md 27 [a0, a1, a2] h0 = F27 rc ⟨h0.length, h0.length⟩ a0 a1 a2 h0 := (callStep_ne (by kernel_rfl)).trans (F27_eq0 rc md a0 a1 a2 h0)

/-- tombolo/tombololaw03.digits -/
noncomputable def F28 (rc : Rec) (md : Md) (a0 : Int) (h0 : Heap) : Option (Value × Heap) :=
  bif (decide (a0 < 0)) then
    bif (a0 == (-9223372036854775808)) then
      some ((.string ⟨#[45, 57, 50, 50, 51, 51, 55, 50, 48, 51, 54, 56, 53, 52, 55, 55, 53, 56, 48, 56]⟩), h0)
    else
      cl (rc md 28 [(.int .i64 (IntKind.wrap .i64 (0 - a0)))] h0) fun v1 h2 =>
      aBin Tryd.prog .add 9 (.string ⟨#[45]⟩) v1 fun v3 =>
      fin2 h0 v3
  else
    bif (decide (a0 < 10)) then
      let h4 : Heap := h0 ++ [.own [(.int .u8 (IntKind.wrap .u8 (IntKind.wrap .i64 (48 + a0))))]]
      aConvH Tryd.prog 50 9 (.slice (some ⟨h0.length, 0, none⟩) 1 1) h4 fun v5 =>
      fin2 h0 v5
    else
      cl (rc md 28 [(.int .i64 (IntKind.wrap .i64 (Int.tdiv a0 10)))] h0) fun v6 h7 =>
      let h8 : Heap := h7 ++ [.own [(.int .u8 (IntKind.wrap .u8 (IntKind.wrap .i64 (48 + (Int.tmod a0 10)))))]]
      aConvH Tryd.prog 50 9 (.slice (some ⟨h7.length, 0, none⟩) 1 1) h8 fun v9 =>
      aBin Tryd.prog .add 9 v6 v9 fun v10 =>
      fin2 h0 v10
theorem F28_eq0 (rc : Rec) (md : Md) (a0 : Int) (h0 : Heap) : callStep0 Tryd.prog cfg rc md 28 [(.int .i64 a0)] h0 = F28 rc ⟨h0.length, h0.length⟩ a0 h0 := by kernel_rfl
theorem F28_eq (rc : Rec) (md : Md) (a0 : Int) (h0 : Heap) : callStep Tryd.prog cfg rc md 28 [(.int .i64 a0)] h0 = alone h0 (F28 rc ⟨0, 0⟩ a0 []) := by
  have e : callStep Tryd.prog cfg rc md 28 [(.int .i64 a0)] h0 = alone h0 (callStep0 Tryd.prog cfg rc ⟨0, 0⟩ 28 [(.int .i64 a0)] []) := by kernel_rfl
  rw [e, F28_eq0]; rfl

end Go.Det.E
