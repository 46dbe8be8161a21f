/- Printed functions. -/
import Derived.Test.YthhlflpeibdfmaaDoorDetR
import Derived.Test.YthhlflpeibdfmaaDoorQ0
import Derived.Test.YthhlflpeibdfmaaDoorDetT
import Derived.Test.YthhlflpeibdfmaaDoorDetX
import Derived.Test.YthhlflpeibdfmaaDoorProg
set_option autoImplicit false
set_option linter.unusedVariables false
set_option linter.unusedSimpArgs false
namespace Go.Det.E
open Go.Proofs Go.Det

def cfg : Cfg := ⟨fun f => bif Nat.beq f 13 || Nat.ble 18 f && Nat.ble f 20 || Nat.ble 24 f && Nat.ble f 28 || Nat.beq f 30 || Nat.beq f 34 then 2 else bif Nat.ble 3 f && Nat.ble f 9 || Nat.beq f 32 || Nat.ble 35 f && Nat.ble f 38 || Nat.beq f 43 || Nat.beq f 74 then 1 else bif Nat.beq f 2 || Nat.beq f 10 || Nat.ble 14 f && Nat.ble f 17 || Nat.beq f 22 || Nat.beq f 31 || Nat.ble 41 f && Nat.ble f 42 || Nat.ble 45 f && Nat.ble f 51 then 3 else bif Nat.beq f 23 || Nat.beq f 29 then 4 else 0, Go.Det.E.extX⟩

noncomputable abbrev C := call Tryd.prog cfg
/-- tombolo/scan.Scan -/
noncomputable def J11_1 (rc : Rec) (md : Md) (h0 : Heap) (s0 : Value) (s2 : Value) (s5 : Value) (h : Heap) : Option (Value × Heap) :=
  ldN 3 s5 h fun v1 =>
  cl (rc md 21 [v1, s2] h) fun v2 h3 =>
  exT v2 0 fun v4 =>
  exT v2 1 fun v5 =>
  cIn .i64 v5 fun n6 =>
  bif (n6 != 0) then
    fA 1 s5 fun v7 =>
    ld1 v7 h3 fun v8 =>
    cIn .i64 v8 fun n9 =>
    some ((.tuple #[(.slice none 0 0), (.int .i64 n9), (.int .i64 n6)]), h3)
  else
    lenT s0 fun v10 =>
    cIn .i64 v10 fun n11 =>
    some ((.tuple #[v4, (.int .i64 n11), (.int .i64 0)]), h3)
theorem J11_1_at (rc : Rec) (md : Md) (h0 : Heap) (t : T) (h : Heap) : cut Tryd.prog cfg rc md 69 (bodyOf Tryd.prog 11) [1, 1, 1] (retK Tryd.prog cfg 11 (rsOf Tryd.prog 11) h0) t h = J11_1 rc md h0 (t 0) (t 2) (t 5) h := by kernel_rfl
theorem J11_1_cut (rc : Rec) (md : Md) (h0 : Heap) : cut Tryd.prog cfg rc md 69 (bodyOf Tryd.prog 11) [1, 1, 1] (retK Tryd.prog cfg 11 (rsOf Tryd.prog 11) h0) = fun t h => J11_1 rc md h0 (t 0) (t 2) (t 5) h := funext fun t => funext fun h => J11_1_at rc md h0 t h
noncomputable def Jk11_0 (rc : Rec) (md : Md) (h0 : Heap) (e : Exit) (s0 : Value) (s2 : Value) (s3 : Value) (s4 : Value) (s5 : Value) (s10 : Value) (h : Heap) : Option (Value × Heap) :=
  match e with
  | .normal =>
    J11_1 rc md h0 s0 s2 s5 h
  | .exit j =>
    bif Nat.beq j 0 then
      J11_1 rc md h0 s0 s2 s5 h
    else
      none
  | .ret =>
    some ((.tuple #[s2, s3, s4]), h)
  | .goto l => none
  | .panic ps => none
  | .outgrown => none
noncomputable def Jk11_0H (rc : Rec) (md : Md) (h0 : Heap) (X1 : T → Heap → Option (Value × Heap)) (e : Exit) (t : T) (h : Heap) : Option (Value × Heap) :=
  match e with
  | .normal =>
    X1 t h
  | .exit j =>
    bif Nat.beq j 0 then
      X1 t h
    else
      none
  | .ret =>
    some ((.tuple #[(t 2), (t 3), (t 4)]), h)
  | .goto l => none
  | .panic ps => none
  | .outgrown => none
theorem Jk11_0_h1 (rc : Rec) (md : Md) (h0 : Heap) (X : Nat → T → Heap → Option (Value × Heap)) (e : Exit) (t : T) (h : Heap) : kAtG Tryd.prog cfg X rc md 69 (replS (bodyOf Tryd.prog 11) [([1, 1, 1], 1)]) [1, 1, 0, 1, 0] (retK Tryd.prog cfg 11 (rsOf Tryd.prog 11) h0) e t h = Jk11_0H rc md h0 (X 1) e t h := by cases e <;> kernel_rfl
theorem Jk11_0_h2 (rc : Rec) (md : Md) (h0 : Heap) (e : Exit) (t : T) (h : Heap) : Jk11_0H rc md h0 (fun t h => J11_1 rc md h0 (t 0) (t 2) (t 5) h) e t h = Jk11_0 rc md h0 e (t 0) (t 2) (t 3) (t 4) (t 5) (t 10) h := by cases e <;> (unfold Jk11_0H Jk11_0; kernel_rfl)
theorem Jk11_0_at (rc : Rec) (md : Md) (h0 : Heap) (e : Exit) (t : T) (h : Heap) : kAt Tryd.prog cfg rc md 69 (bodyOf Tryd.prog 11) [1, 1, 0, 1, 0] (retK Tryd.prog cfg 11 (rsOf Tryd.prog 11) h0) e t h = Jk11_0 rc md h0 e (t 0) (t 2) (t 3) (t 4) (t 5) (t 10) h := by
  rw [kAt_holes [([1, 1, 1], 1)] [1, 1, 0, 1, 0] (by kernel_rfl), Jk11_0_h1, show (goX Tryd.prog cfg rc md 69 (bodyOf Tryd.prog 11) [([1, 1, 1], 1)] (retK Tryd.prog cfg 11 (rsOf Tryd.prog 11) h0)) 1 = _ from J11_1_cut rc md h0]
  exact Jk11_0_h2 rc md h0 e t h
noncomputable def J11_0b1 (rc : Rec) (md : Md) (s0 : Value) (s2 : Value) (s3 : Value) (s4 : Value) (s5 : Value) (s7 : Value) (s10 : Value) (s46 : Value) (h : Heap) : Option (((Value × Value × Value × Value × Value × Value) × Heap) ⊕ (Exit × (Value × Value × Value × Value × Value × Value) × Heap)) :=
  cBn s46 fun b1 =>
  bif b1 then
    fA 2 s5 fun v2 =>
    ld1 v2 h fun v3 =>
    aBuildSlice Tryd.prog 43 1 [(0, s7)] h fun v4 h5 =>
    aBuiltin Tryd.prog md .append #[43, 43] [v3, v4] h5 fun v6 h7 =>
    fA 2 s5 fun v8 =>
    st md 1 v8 v6 h7 fun h9 =>
    some (.inl ((s0, s2, s3, s4, s5, s10), h9))
  else
    some (.inl ((s0, s2, s3, s4, s5, s10), h))
theorem J11_0b1_at (rc : Rec) (md : Md) (t : T) (h : Heap) : cut Tryd.prog cfg rc md 69 (sub (bodyOf Tryd.prog 11) [1, 1, 0, 1, 0, 0]) [1, 1, 0, 1, 1, 1, 1, 0, 1, 1, 1, 1, 1] (rndK (fun t => (t 0, t 2, t 3, t 4, t 5, t 10))) t h = J11_0b1 rc md (t 0) (t 2) (t 3) (t 4) (t 5) (t 7) (t 10) (t 46) h := by kernel_rfl
theorem J11_0b1_cut (rc : Rec) (md : Md) : cut Tryd.prog cfg rc md 69 (sub (bodyOf Tryd.prog 11) [1, 1, 0, 1, 0, 0]) [1, 1, 0, 1, 1, 1, 1, 0, 1, 1, 1, 1, 1] (rndK (fun t => (t 0, t 2, t 3, t 4, t 5, t 10))) = fun t h => J11_0b1 rc md (t 0) (t 2) (t 3) (t 4) (t 5) (t 7) (t 10) (t 46) h := funext fun t => funext fun h => J11_0b1_at rc md t h
noncomputable def J11_0b0 (rc : Rec) (md : Md) (s0 : Value) (s2 : Value) (s3 : Value) (s4 : Value) (s5 : Value) (s6 : Value) (s7 : Value) (s8 : Value) (s10 : Value) (h : Heap) : Option (((Value × Value × Value × Value × Value × Value) × Heap) ⊕ (Exit × (Value × Value × Value × Value × Value × Value) × Heap)) :=
  aBin Tryd.prog .eql 3 s8 (.int .i64 0) fun v1 =>
  cBn v1 fun b2 =>
  bif b2 then
    some (.inr (.ret, (s0, (.slice none 0 0), s6, (.int .i64 40), s5, s10), h))
  else
    aBin Tryd.prog .eql 3 s8 (.int .i64 4) fun v3 =>
    cBn v3 fun b4 =>
    bif b4 then
      let h5 : Heap := h ++ [.own [(.iface 21 s7)]]
      aBuiltin Tryd.prog md .append #[23, 23] [s2, (.slice (some ⟨h.length, 0, none⟩) 1 1)] h5 fun v6 h7 =>
      some (.inl ((s0, v6, s3, s4, s5, s10), h7))
    else
      aBin Tryd.prog .eql 3 s8 (.int .i64 2) fun v8 =>
      cBn v8 fun b9 =>
      bif b9 then
        J11_0b1 rc md s0 s2 s3 s4 s5 s7 s10 v8 h
      else
        aBin Tryd.prog .eql 3 s8 (.int .i64 3) fun v10 =>
        J11_0b1 rc md s0 s2 s3 s4 s5 s7 s10 v10 h
noncomputable def J11_0b0H (rc : Rec) (md : Md) (X0 : T → Heap → Option (((Value × Value × Value × Value × Value × Value) × Heap) ⊕ (Exit × (Value × Value × Value × Value × Value × Value) × Heap))) (t : T) (h : Heap) : Option (((Value × Value × Value × Value × Value × Value) × Heap) ⊕ (Exit × (Value × Value × Value × Value × Value × Value) × Heap)) :=
  aBin Tryd.prog .eql 3 (t 8) (.int .i64 0) fun v1 =>
  cBn v1 fun b2 =>
  bif b2 then
    some (.inr (.ret, ((t 0), (.slice none 0 0), (t 6), (.int .i64 40), (t 5), (t 10)), h))
  else
    aBin Tryd.prog .eql 3 (t 8) (.int .i64 4) fun v3 =>
    cBn v3 fun b4 =>
    bif b4 then
      let h5 : Heap := h ++ [.own [(.iface 21 (t 7))]]
      aBuiltin Tryd.prog md .append #[23, 23] [(t 2), (.slice (some ⟨h.length, 0, none⟩) 1 1)] h5 fun v6 h7 =>
      some (.inl (((t 0), v6, (t 3), (t 4), (t 5), (t 10)), h7))
    else
      aBin Tryd.prog .eql 3 (t 8) (.int .i64 2) fun v8 =>
      cBn v8 fun b9 =>
      bif b9 then
        X0 (upd (upd (upd (upd (upd (upd (upd t 35 (t 8)) 37 v1) 36 v1) 40 v3) 39 v3) 47 v8) 46 v8) h
      else
        aBin Tryd.prog .eql 3 (t 8) (.int .i64 3) fun v10 =>
        X0 (upd (upd (upd (upd (upd (upd (upd (upd (upd t 35 (t 8)) 37 v1) 36 v1) 40 v3) 39 v3) 47 v8) 46 v8) 48 v10) 46 v10) h
theorem J11_0b0_h1 (rc : Rec) (md : Md) (X : Nat → T → Heap → Option (((Value × Value × Value × Value × Value × Value) × Heap) ⊕ (Exit × (Value × Value × Value × Value × Value × Value) × Heap))) (t : T) (h : Heap) : execG Tryd.prog cfg X rc md 69 (sub (replS (sub (bodyOf Tryd.prog 11) [1, 1, 0, 1, 0, 0]) [([1, 1, 0, 1, 1, 1, 1, 0, 1, 1, 1, 1, 1], 0)]) [1, 1, 0, 1, 1, 1]) (kAtG Tryd.prog cfg X rc md 69 (replS (sub (bodyOf Tryd.prog 11) [1, 1, 0, 1, 0, 0]) [([1, 1, 0, 1, 1, 1, 1, 0, 1, 1, 1, 1, 1], 0)]) [1, 1, 0, 1, 1, 1] (rndK (fun t => (t 0, t 2, t 3, t 4, t 5, t 10)))) t h = J11_0b0H rc md (X 0) t h := by kernel_rfl
theorem J11_0b0_h2 (rc : Rec) (md : Md) (t : T) (h : Heap) : J11_0b0H rc md (fun t h => J11_0b1 rc md (t 0) (t 2) (t 3) (t 4) (t 5) (t 7) (t 10) (t 46) h) t h = J11_0b0 rc md (t 0) (t 2) (t 3) (t 4) (t 5) (t 6) (t 7) (t 8) (t 10) h := by (unfold J11_0b0H J11_0b0; kernel_rfl)
theorem J11_0b0_at (rc : Rec) (md : Md) (t : T) (h : Heap) : cut Tryd.prog cfg rc md 69 (sub (bodyOf Tryd.prog 11) [1, 1, 0, 1, 0, 0]) [1, 1, 0, 1, 1, 1] (rndK (fun t => (t 0, t 2, t 3, t 4, t 5, t 10))) t h = J11_0b0 rc md (t 0) (t 2) (t 3) (t 4) (t 5) (t 6) (t 7) (t 8) (t 10) h := by
  rw [cut_holes [([1, 1, 0, 1, 1, 1, 1, 0, 1, 1, 1, 1, 1], 0)] [1, 1, 0, 1, 1, 1] (by kernel_rfl), J11_0b0_h1, show (goX Tryd.prog cfg rc md 69 (sub (bodyOf Tryd.prog 11) [1, 1, 0, 1, 0, 0]) [([1, 1, 0, 1, 1, 1, 1, 0, 1, 1, 1, 1, 1], 0)] (rndK (fun t => (t 0, t 2, t 3, t 4, t 5, t 10)))) 0 = _ from J11_0b1_cut rc md]
  exact J11_0b0_h2 rc md t h
theorem J11_0b0_cut (rc : Rec) (md : Md) : cut Tryd.prog cfg rc md 69 (sub (bodyOf Tryd.prog 11) [1, 1, 0, 1, 0, 0]) [1, 1, 0, 1, 1, 1] (rndK (fun t => (t 0, t 2, t 3, t 4, t 5, t 10))) = fun t h => J11_0b0 rc md (t 0) (t 2) (t 3) (t 4) (t 5) (t 6) (t 7) (t 8) (t 10) h := funext fun t => funext fun h => J11_0b0_at rc md t h
/-- a round -/
noncomputable def Jr11_0 (rc : Rec) (md : Md) (s0 : Value) (s2 : Value) (s3 : Value) (s4 : Value) (s5 : Value) (s10 : Value) (h : Heap) : Option (((Value × Value × Value × Value × Value × Value) × Heap) ⊕ (Exit × (Value × Value × Value × Value × Value × Value) × Heap)) :=
  aNext md s10 true h fun v1 h2 =>
  exT v1 0 fun v3 =>
  cBn v3 fun b4 =>
  bif b4 then
    exT v1 1 fun v5 =>
    cIn .i64 v5 fun n6 =>
    exT v1 2 fun v7 =>
    cIn .i32 v7 fun n8 =>
    cl (rc md 14 [(.int .i32 n8)] h2) fun v9 h10 =>
    cIn .i64 v9 fun n11 =>
    fA 0 s5 fun v12 =>
    ld1 v12 h10 fun v13 =>
    cIn .i64 v13 fun n14 =>
    bif (n11 != n14) then
      ldN 3 s5 h10 fun v15 =>
      cl (rc md 21 [v15, s2] h10) fun v16 h17 =>
      exT v16 0 fun v18 =>
      exT v16 1 fun v19 =>
      cIn .i64 v19 fun n20 =>
      bif (n20 != 0) then
        fA 1 s5 fun v21 =>
        ld1 v21 h17 fun v22 =>
        cIn .i64 v22 fun n23 =>
        some (.inr (.ret, (s0, (.slice none 0 0), (.int .i64 n23), (.int .i64 n20), s5, s10), h17))
      else
        st md 3 s5 (.agg #[(.int .i64 n11), (.int .i64 n6), (.slice none 0 0)]) h17 fun h24 =>
        J11_0b0 rc md s0 v18 s3 (.int .i64 n20) s5 (.int .i64 n6) (.int .i32 n8) (.int .i64 n11) s10 h24
    else
      J11_0b0 rc md s0 s2 s3 s4 s5 (.int .i64 n6) (.int .i32 n8) (.int .i64 n11) s10 h10
  else
    some (.inr ((.exit 0), (s0, s2, s3, s4, s5, s10), h2))
noncomputable def Jr11_0H (rc : Rec) (md : Md) (X1 : T → Heap → Option (((Value × Value × Value × Value × Value × Value) × Heap) ⊕ (Exit × (Value × Value × Value × Value × Value × Value) × Heap))) (t : T) (h : Heap) : Option (((Value × Value × Value × Value × Value × Value) × Heap) ⊕ (Exit × (Value × Value × Value × Value × Value × Value) × Heap)) :=
  aNext md (t 10) true h fun v1 h2 =>
  exT v1 0 fun v3 =>
  cBn v3 fun b4 =>
  bif b4 then
    exT v1 1 fun v5 =>
    cIn .i64 v5 fun n6 =>
    exT v1 2 fun v7 =>
    cIn .i32 v7 fun n8 =>
    cl (rc md 14 [(.int .i32 n8)] h2) fun v9 h10 =>
    cIn .i64 v9 fun n11 =>
    fA 0 (t 5) fun v12 =>
    ld1 v12 h10 fun v13 =>
    cIn .i64 v13 fun n14 =>
    bif (n11 != n14) then
      ldN 3 (t 5) h10 fun v15 =>
      cl (rc md 21 [v15, (t 2)] h10) fun v16 h17 =>
      exT v16 0 fun v18 =>
      exT v16 1 fun v19 =>
      cIn .i64 v19 fun n20 =>
      bif (n20 != 0) then
        fA 1 (t 5) fun v21 =>
        ld1 v21 h17 fun v22 =>
        cIn .i64 v22 fun n23 =>
        some (.inr (.ret, ((t 0), (.slice none 0 0), (.int .i64 n23), (.int .i64 n20), (t 5), (t 10)), h17))
      else
        st md 3 (t 5) (.agg #[(.int .i64 n11), (.int .i64 n6), (.slice none 0 0)]) h17 fun h24 =>
        X1 (upd (upd (upd (upd (upd (upd (upd (upd (upd (upd (upd (upd (upd (upd (upd (upd (upd (upd (upd (upd (upd (upd (upd (upd (upd (upd t 11 v1) 12 (.bool b4)) 13 (.int .i64 n6)) 14 (.int .i32 n8)) 6 (.int .i64 n6)) 7 (.int .i32 n8)) 15 (.int .i32 n8)) 16 (.int .i64 n11)) 8 (.int .i64 n11)) 17 (.int .i64 n11)) 18 v12) 19 (.int .i64 n14)) 20 (.bool (n11 != n14))) 22 v15) 23 (t 2)) 24 v16) 21 v16) 25 v18) 26 (.int .i64 n20)) 2 v18) 4 (.int .i64 n20)) 27 (.int .i64 n20)) 28 (.bool (n20 != 0))) 32 (.int .i64 n11)) 33 (.int .i64 n6)) 34 (.agg #[(.int .i64 n11), (.int .i64 n6), (.slice none 0 0)])) h24
    else
      X1 (upd (upd (upd (upd (upd (upd (upd (upd (upd (upd (upd (upd (upd t 11 v1) 12 (.bool b4)) 13 (.int .i64 n6)) 14 (.int .i32 n8)) 6 (.int .i64 n6)) 7 (.int .i32 n8)) 15 (.int .i32 n8)) 16 (.int .i64 n11)) 8 (.int .i64 n11)) 17 (.int .i64 n11)) 18 v12) 19 (.int .i64 n14)) 20 (.bool (n11 != n14))) h10
  else
    some (.inr ((.exit 0), ((t 0), (t 2), (t 3), (t 4), (t 5), (t 10)), h2))
theorem Jr11_0_h1 (rc : Rec) (md : Md) (X : Nat → T → Heap → Option (((Value × Value × Value × Value × Value × Value) × Heap) ⊕ (Exit × (Value × Value × Value × Value × Value × Value) × Heap))) (t : T) (h : Heap) : execG Tryd.prog cfg X rc md 69 (replS (sub (bodyOf Tryd.prog 11) [1, 1, 0, 1, 0, 0]) [([1, 1, 0, 1, 1, 1, 1, 0, 1, 1, 1, 1, 1], 0), ([1, 1, 0, 1, 1, 1], 1)]) (rndK (fun t => (t 0, t 2, t 3, t 4, t 5, t 10))) t h = Jr11_0H rc md (X 1) t h := by kernel_rfl
theorem Jr11_0_h2 (rc : Rec) (md : Md) (t : T) (h : Heap) : Jr11_0H rc md (fun t h => J11_0b0 rc md (t 0) (t 2) (t 3) (t 4) (t 5) (t 6) (t 7) (t 8) (t 10) h) t h = Jr11_0 rc md (t 0) (t 2) (t 3) (t 4) (t 5) (t 10) h := by unfold Jr11_0H Jr11_0; kernel_rfl
theorem Jr11_0_at (rc : Rec) (md : Md) (t : T) (h : Heap) : exec Tryd.prog cfg rc md 69 (sub (bodyOf Tryd.prog 11) [1, 1, 0, 1, 0, 0]) (rndK (fun t => (t 0, t 2, t 3, t 4, t 5, t 10))) t h = Jr11_0 rc md (t 0) (t 2) (t 3) (t 4) (t 5) (t 10) h := by
  rw [exec_holes [([1, 1, 0, 1, 1, 1, 1, 0, 1, 1, 1, 1, 1], 0), ([1, 1, 0, 1, 1, 1], 1)] (by kernel_rfl), Jr11_0_h1, show (goX Tryd.prog cfg rc md 69 (sub (bodyOf Tryd.prog 11) [1, 1, 0, 1, 0, 0]) [([1, 1, 0, 1, 1, 1, 1, 0, 1, 1, 1, 1, 1], 0), ([1, 1, 0, 1, 1, 1], 1)] (rndK (fun t => (t 0, t 2, t 3, t 4, t 5, t 10)))) 1 = _ from J11_0b0_cut rc md]
  exact Jr11_0_h2 rc md t h
noncomputable def J11_0 (rc : Rec) (md : Md) (h0 : Heap) (s0 : Value) (s2 : Value) (s3 : Value) (s4 : Value) (s5 : Value) (s10 : Value) (h : Heap) : Option (Value × Heap) :=
  runL (fun x : (Value × Value × Value × Value × Value × Value) × Heap => Jr11_0 rc md x.1.1 x.1.2.1 x.1.2.2.1 x.1.2.2.2.1 x.1.2.2.2.2.1 x.1.2.2.2.2.2 x.2) (fun e (s : Value × Value × Value × Value × Value × Value) h => Jk11_0 rc md h0 e s.1 s.2.1 s.2.2.1 s.2.2.2.1 s.2.2.2.2.1 s.2.2.2.2.2 h) (s0, s2, s3, s4, s5, s10) h
theorem J11_0_step (rc : Rec) (md : Md) (h0 : Heap) (s0 : Value) (s2 : Value) (s3 : Value) (s4 : Value) (s5 : Value) (s10 : Value) (h : Heap) : J11_0 rc md h0 s0 s2 s3 s4 s5 s10 h = (Jr11_0 rc md s0 s2 s3 s4 s5 s10 h).bind fun x => match x with
    | .inl (s, h) => J11_0 rc md h0 s.1 s.2.1 s.2.2.1 s.2.2.2.1 s.2.2.2.2.1 s.2.2.2.2.2 h
    | .inr (e, s, h) => Jk11_0 rc md h0 e s.1 s.2.1 s.2.2.1 s.2.2.2.1 s.2.2.2.2.1 s.2.2.2.2.2 h := by
  unfold J11_0
  rw [runL_eq]
  refine congrArg (Option.bind _) (funext fun x => ?_)
  rcases x with ⟨s, h⟩ | ⟨e, s, h⟩ <;> rfl
theorem J11_0_cut (rc : Rec) (md : Md) (h0 : Heap) : cut Tryd.prog cfg rc md 69 (bodyOf Tryd.prog 11) [1, 1, 0, 1, 0] (retK Tryd.prog cfg 11 (rsOf Tryd.prog 11) h0) = fun t h => J11_0 rc md h0 (t 0) (t 2) (t 3) (t 4) (t 5) (t 10) h := by
  funext t h
  have e : sub (bodyOf Tryd.prog 11) [1, 1, 0, 1, 0] = .loop (sub (bodyOf Tryd.prog 11) [1, 1, 0, 1, 0, 0]) := by kernel_rfl
  unfold cut
  rw [e]
  exact loop_eq (by kernel_rfl) (fun t => (t 0, t 2, t 3, t 4, t 5, t 10)) (fun x : (Value × Value × Value × Value × Value × Value) × Heap => Jr11_0 rc md x.1.1 x.1.2.1 x.1.2.2.1 x.1.2.2.2.1 x.1.2.2.2.2.1 x.1.2.2.2.2.2 x.2) (fun t h => Jr11_0_at rc md t h) (fun e (s : Value × Value × Value × Value × Value × Value) h => Jk11_0 rc md h0 e s.1 s.2.1 s.2.2.1 s.2.2.2.1 s.2.2.2.2.1 s.2.2.2.2.2 h) (fun e t h => Jk11_0_at rc md h0 e t h) t h
noncomputable def F11 (rc : Rec) (md : Md) (a0 : ByteArray) (h0 : Heap) : Option (Value × Heap) :=
  let h1 : Heap := h0 ++ [.own [(.int .i64 0), (.int .i64 0), (.slice none 0 0)]]
  aRange Tryd.prog 9 (.string a0) h1 fun v2 h3 =>
  J11_0 rc md h0 (.string a0) (.slice none 0 0) (.int .i64 0) (.int .i64 0) (.pointer (some ⟨h0.length, 0, none⟩)) v2 h3
noncomputable def F11H (rc : Rec) (md : Md) (X0 : T → Heap → Option (Value × Heap)) (a0 : ByteArray) (h0 : Heap) : Option (Value × Heap) :=
  let h1 : Heap := h0 ++ [.own [(.int .i64 0), (.int .i64 0), (.slice none 0 0)]]
  aRange Tryd.prog 9 (.string a0) h1 fun v2 h3 =>
  X0 (upd (upd (upd (upd (upd (upd (args0 [(.string a0)]) 2 (.slice none 0 0)) 3 (.int .i64 0)) 4 (.int .i64 0)) 5 (.pointer (some ⟨h0.length, 0, none⟩))) 9 (.string a0)) 10 v2) h3
theorem F11_h0 (rc : Rec) (md : Md) (a0 : ByteArray) (h0 : Heap) : callStep0 Tryd.prog cfg rc md 11 [(.string a0)] h0 = exec Tryd.prog cfg rc md 69 (bodyOf Tryd.prog 11) (retK Tryd.prog cfg 11 (rsOf Tryd.prog 11) h0) (args0 [(.string a0)]) h0 := callStep0_run (by kernel_rfl) (by kernel_rfl) (by kernel_rfl)
theorem F11_h1 (rc : Rec) (md : Md) (X : Nat → T → Heap → Option (Value × Heap)) (a0 : ByteArray) (h0 : Heap) : execG Tryd.prog cfg X rc md 69 (replS (bodyOf Tryd.prog 11) [([1, 1, 0, 1, 0], 0), ([1, 1, 1], 1)]) (retK Tryd.prog cfg 11 (rsOf Tryd.prog 11) h0) (args0 [(.string a0)]) h0 = F11H rc md (X 0) a0 h0 := by kernel_rfl
theorem F11_h2 (rc : Rec) (md : Md) (a0 : ByteArray) (h0 : Heap) : F11H rc md (fun t h => J11_0 rc md h0 (t 0) (t 2) (t 3) (t 4) (t 5) (t 10) h) a0 h0 = F11 rc md a0 h0 := by unfold F11H F11; kernel_rfl
theorem F11_eq0 (rc : Rec) (md : Md) (a0 : ByteArray) (h0 : Heap) : callStep0 Tryd.prog cfg rc md 11 [(.string a0)] h0 = F11 rc md a0 h0 := by
  rw [F11_h0, exec_holes [([1, 1, 0, 1, 0], 0), ([1, 1, 1], 1)] (by kernel_rfl), F11_h1, show (goX Tryd.prog cfg rc md 69 (bodyOf Tryd.prog 11) [([1, 1, 0, 1, 0], 0), ([1, 1, 1], 1)] (retK Tryd.prog cfg 11 (rsOf Tryd.prog 11) h0)) 0 = _ from J11_0_cut rc md h0]
  exact F11_h2 rc _ a0 h0
theorem F11_eq (rc : Rec) (md : Md) (a0 : ByteArray) (h0 : Heap) : callStep Tryd.prog cfg rc md 11 [(.string a0)] h0 = F11 rc md a0 h0 := (callStep_ne (by kernel_rfl)).trans (F11_eq0 rc md a0 h0)

/-- tombolo/tomboloref04.Scan -/
noncomputable def J12_1 (rc : Rec) (md : Md) (h0 : Heap) (s0 : Value) (s5 : Value) (h : Heap) : Option (Value × Heap) :=
  lenT s0 fun v1 =>
  cIn .i64 v1 fun n2 =>
  some ((.tuple #[s5, (.int .i64 n2), (.int .i64 0)]), h)
theorem J12_1_at (rc : Rec) (md : Md) (h0 : Heap) (t : T) (h : Heap) : cut Tryd.prog cfg rc md 112 (bodyOf Tryd.prog 12) [1, 1, 1, 1] (retK Tryd.prog cfg 12 (rsOf Tryd.prog 12) h0) t h = J12_1 rc md h0 (t 0) (t 5) h := by kernel_rfl
theorem J12_1_cut (rc : Rec) (md : Md) (h0 : Heap) : cut Tryd.prog cfg rc md 112 (bodyOf Tryd.prog 12) [1, 1, 1, 1] (retK Tryd.prog cfg 12 (rsOf Tryd.prog 12) h0) = fun t h => J12_1 rc md h0 (t 0) (t 5) h := funext fun t => funext fun h => J12_1_at rc md h0 t h
noncomputable def Jk12_0 (rc : Rec) (md : Md) (h0 : Heap) (e : Exit) (s0 : Value) (s2 : Value) (s3 : Value) (s4 : Value) (s5 : Value) (s6 : Value) (h : Heap) : Option (Value × Heap) :=
  match e with
  | .normal =>
    J12_1 rc md h0 s0 s5 h
  | .exit j =>
    bif Nat.beq j 0 then
      J12_1 rc md h0 s0 s5 h
    else
      none
  | .ret =>
    some ((.tuple #[s2, s3, s4]), h)
  | .goto l => none
  | .panic ps => none
  | .outgrown => none
noncomputable def Jk12_0H (rc : Rec) (md : Md) (h0 : Heap) (X1 : T → Heap → Option (Value × Heap)) (e : Exit) (t : T) (h : Heap) : Option (Value × Heap) :=
  match e with
  | .normal =>
    X1 t h
  | .exit j =>
    bif Nat.beq j 0 then
      X1 t h
    else
      none
  | .ret =>
    some ((.tuple #[(t 2), (t 3), (t 4)]), h)
  | .goto l => none
  | .panic ps => none
  | .outgrown => none
theorem Jk12_0_h1 (rc : Rec) (md : Md) (h0 : Heap) (X : Nat → T → Heap → Option (Value × Heap)) (e : Exit) (t : T) (h : Heap) : kAtG Tryd.prog cfg X rc md 112 (replS (bodyOf Tryd.prog 12) [([1, 1, 1, 1], 1)]) [1, 1, 1, 0, 0] (retK Tryd.prog cfg 12 (rsOf Tryd.prog 12) h0) e t h = Jk12_0H rc md h0 (X 1) e t h := by cases e <;> kernel_rfl
theorem Jk12_0_h2 (rc : Rec) (md : Md) (h0 : Heap) (e : Exit) (t : T) (h : Heap) : Jk12_0H rc md h0 (fun t h => J12_1 rc md h0 (t 0) (t 5) h) e t h = Jk12_0 rc md h0 e (t 0) (t 2) (t 3) (t 4) (t 5) (t 6) h := by cases e <;> (unfold Jk12_0H Jk12_0; kernel_rfl)
theorem Jk12_0_at (rc : Rec) (md : Md) (h0 : Heap) (e : Exit) (t : T) (h : Heap) : kAt Tryd.prog cfg rc md 112 (bodyOf Tryd.prog 12) [1, 1, 1, 0, 0] (retK Tryd.prog cfg 12 (rsOf Tryd.prog 12) h0) e t h = Jk12_0 rc md h0 e (t 0) (t 2) (t 3) (t 4) (t 5) (t 6) h := by
  rw [kAt_holes [([1, 1, 1, 1], 1)] [1, 1, 1, 0, 0] (by kernel_rfl), Jk12_0_h1, show (goX Tryd.prog cfg rc md 112 (bodyOf Tryd.prog 12) [([1, 1, 1, 1], 1)] (retK Tryd.prog cfg 12 (rsOf Tryd.prog 12) h0)) 1 = _ from J12_1_cut rc md h0]
  exact Jk12_0_h2 rc md h0 e t h
noncomputable def J12_0b4 (rc : Rec) (md : Md) (s0 : Value) (s2 : Value) (s3 : Value) (s4 : Value) (s5 : Value) (s6 : Value) (s14 : Value) (h : Heap) : Option (((Value × Value × Value × Value × Value × Value) × Heap) ⊕ (Exit × (Value × Value × Value × Value × Value × Value) × Heap)) :=
  aBuild Tryd.prog 50 [(0, (.int .i64 1)), (1, s14)] fun v1 =>
  aBuildSlice Tryd.prog 27 1 [(0, v1)] h fun v2 h3 =>
  aBuiltin Tryd.prog md .append #[27, 27] [s5, v2] h3 fun v4 h5 =>
  some (.inl ((s0, s2, s3, s4, v4, s6), h5))
theorem J12_0b4_at (rc : Rec) (md : Md) (t : T) (h : Heap) : cut Tryd.prog cfg rc md 112 (sub (bodyOf Tryd.prog 12) [1, 1, 1, 0, 0, 0]) [1, 0, 1, 1, 1, 1, 1, 1, 1, 1, 1, 1, 1, 1] (rndK (fun t => (t 0, t 2, t 3, t 4, t 5, t 6))) t h = J12_0b4 rc md (t 0) (t 2) (t 3) (t 4) (t 5) (t 6) (t 14) h := by kernel_rfl
theorem J12_0b4_cut (rc : Rec) (md : Md) : cut Tryd.prog cfg rc md 112 (sub (bodyOf Tryd.prog 12) [1, 1, 1, 0, 0, 0]) [1, 0, 1, 1, 1, 1, 1, 1, 1, 1, 1, 1, 1, 1] (rndK (fun t => (t 0, t 2, t 3, t 4, t 5, t 6))) = fun t h => J12_0b4 rc md (t 0) (t 2) (t 3) (t 4) (t 5) (t 6) (t 14) h := funext fun t => funext fun h => J12_0b4_at rc md t h
noncomputable def Jk12_0b3 (rc : Rec) (md : Md) (e : Exit) (s0 : Value) (s2 : Value) (s3 : Value) (s4 : Value) (s5 : Value) (s6 : Value) (s13 : Value) (s14 : Value) (s15 : Value) (h : Heap) : Option (((Value × Value × Value × Value × Value × Value) × Heap) ⊕ (Exit × (Value × Value × Value × Value × Value × Value) × Heap)) :=
  match e with
  | .normal =>
    J12_0b4 rc md s0 s2 s3 s4 s5 s6 s14 h
  | .exit j =>
    bif Nat.beq j 4 then
      J12_0b4 rc md s0 s2 s3 s4 s5 s6 s14 h
    else
      bif Nat.beq j 1 then
        some (.inl ((s0, s2, s3, s4, s5, s6), h))
      else
        some (.inr ((.exit j), (s0, s2, s3, s4, s5, s6), h))
  | .ret =>
    some (.inr (.ret, (s0, s2, s3, s4, s5, s6), h))
  | .goto l => some (.inr ((.goto l), (s0, s2, s3, s4, s5, s6), h))
  | .panic ps => some (.inr ((.panic ps), (s0, s2, s3, s4, s5, s6), h))
  | .outgrown => some (.inr (.outgrown, (s0, s2, s3, s4, s5, s6), h))
noncomputable def Jk12_0b3H (rc : Rec) (md : Md) (X2 : T → Heap → Option (((Value × Value × Value × Value × Value × Value) × Heap) ⊕ (Exit × (Value × Value × Value × Value × Value × Value) × Heap))) (e : Exit) (t : T) (h : Heap) : Option (((Value × Value × Value × Value × Value × Value) × Heap) ⊕ (Exit × (Value × Value × Value × Value × Value × Value) × Heap)) :=
  match e with
  | .normal =>
    X2 t h
  | .exit j =>
    bif Nat.beq j 4 then
      X2 t h
    else
      bif Nat.beq j 1 then
        some (.inl (((t 0), (t 2), (t 3), (t 4), (t 5), (t 6)), h))
      else
        some (.inr ((.exit j), ((t 0), (t 2), (t 3), (t 4), (t 5), (t 6)), h))
  | .ret =>
    some (.inr (.ret, ((t 0), (t 2), (t 3), (t 4), (t 5), (t 6)), h))
  | .goto l => some (.inr ((.goto l), ((t 0), (t 2), (t 3), (t 4), (t 5), (t 6)), h))
  | .panic ps => some (.inr ((.panic ps), ((t 0), (t 2), (t 3), (t 4), (t 5), (t 6)), h))
  | .outgrown => some (.inr (.outgrown, ((t 0), (t 2), (t 3), (t 4), (t 5), (t 6)), h))
theorem Jk12_0b3_h1 (rc : Rec) (md : Md) (X : Nat → T → Heap → Option (((Value × Value × Value × Value × Value × Value) × Heap) ⊕ (Exit × (Value × Value × Value × Value × Value × Value) × Heap))) (e : Exit) (t : T) (h : Heap) : kAtG Tryd.prog cfg X rc md 112 (replS (sub (bodyOf Tryd.prog 12) [1, 1, 1, 0, 0, 0]) [([1, 0, 1, 1, 1, 1, 1, 1, 0, 0], 0), ([1, 0, 1, 1, 1, 1, 1, 1, 1, 1, 1, 1, 1, 1], 2)]) [1, 0, 1, 1, 1, 1, 1, 1, 1, 1, 1, 1, 1, 0, 1, 0] (rndK (fun t => (t 0, t 2, t 3, t 4, t 5, t 6))) e t h = Jk12_0b3H rc md (X 2) e t h := by cases e <;> kernel_rfl
theorem Jk12_0b3_h2 (rc : Rec) (md : Md) (e : Exit) (t : T) (h : Heap) : Jk12_0b3H rc md (fun t h => J12_0b4 rc md (t 0) (t 2) (t 3) (t 4) (t 5) (t 6) (t 14) h) e t h = Jk12_0b3 rc md e (t 0) (t 2) (t 3) (t 4) (t 5) (t 6) (t 13) (t 14) (t 15) h := by cases e <;> (unfold Jk12_0b3H Jk12_0b3; kernel_rfl)
theorem Jk12_0b3_at (rc : Rec) (md : Md) (e : Exit) (t : T) (h : Heap) : kAt Tryd.prog cfg rc md 112 (sub (bodyOf Tryd.prog 12) [1, 1, 1, 0, 0, 0]) [1, 0, 1, 1, 1, 1, 1, 1, 1, 1, 1, 1, 1, 0, 1, 0] (rndK (fun t => (t 0, t 2, t 3, t 4, t 5, t 6))) e t h = Jk12_0b3 rc md e (t 0) (t 2) (t 3) (t 4) (t 5) (t 6) (t 13) (t 14) (t 15) h := by
  rw [kAt_holes [([1, 0, 1, 1, 1, 1, 1, 1, 0, 0], 0), ([1, 0, 1, 1, 1, 1, 1, 1, 1, 1, 1, 1, 1, 1], 2)] [1, 0, 1, 1, 1, 1, 1, 1, 1, 1, 1, 1, 1, 0, 1, 0] (by kernel_rfl), Jk12_0b3_h1, show (goX Tryd.prog cfg rc md 112 (sub (bodyOf Tryd.prog 12) [1, 1, 1, 0, 0, 0]) [([1, 0, 1, 1, 1, 1, 1, 1, 0, 0], 0), ([1, 0, 1, 1, 1, 1, 1, 1, 1, 1, 1, 1, 1, 1], 2)] (rndK (fun t => (t 0, t 2, t 3, t 4, t 5, t 6)))) 2 = _ from J12_0b4_cut rc md]
  exact Jk12_0b3_h2 rc md e t h
/-- a round -/
noncomputable def Jr12_0b3 (rc : Rec) (md : Md) (s0 : Value) (s2 : Value) (s3 : Value) (s4 : Value) (s5 : Value) (s6 : Value) (s13 : Value) (s14 : Value) (s15 : Value) (h : Heap) : Option (((Value × Value × Value × Value × Value × Value × Value × Value × Value) × Heap) ⊕ (Exit × (Value × Value × Value × Value × Value × Value × Value × Value × Value) × Heap)) :=
  lenT s13 fun v1 =>
  cIn .i64 v1 fun n2 =>
  aBin Tryd.prog .lss 3 s15 (.int .i64 n2) fun v3 =>
  cBn v3 fun b4 =>
  bif b4 then
    aBin Tryd.prog .mul 3 s14 (.int .i64 10) fun v5 =>
    aIndex Tryd.prog 9 s13 s15 fun v6 =>
    cIn .u8 v6 fun n7 =>
    aBin Tryd.prog .add 3 v5 (.int .i64 (IntKind.wrap .i64 (IntKind.wrap .u8 (n7 - 48)))) fun v8 =>
    aBin Tryd.prog .add 3 s15 (.int .i64 1) fun v9 =>
    some (.inl ((s0, s2, s3, s4, s5, s6, s13, v8, v9), h))
  else
    some (.inr ((.exit 4), (s0, s2, s3, s4, s5, s6, s13, s14, s15), h))
theorem Jr12_0b3_at (rc : Rec) (md : Md) (t : T) (h : Heap) : exec Tryd.prog cfg rc md 112 (sub (bodyOf Tryd.prog 12) [1, 1, 1, 0, 0, 0, 1, 0, 1, 1, 1, 1, 1, 1, 1, 1, 1, 1, 1, 0, 1, 0, 0]) (rndK (fun t => (t 0, t 2, t 3, t 4, t 5, t 6, t 13, t 14, t 15))) t h = Jr12_0b3 rc md (t 0) (t 2) (t 3) (t 4) (t 5) (t 6) (t 13) (t 14) (t 15) h := by kernel_rfl
noncomputable def J12_0b3 (rc : Rec) (md : Md) (s0 : Value) (s2 : Value) (s3 : Value) (s4 : Value) (s5 : Value) (s6 : Value) (s13 : Value) (s14 : Value) (s15 : Value) (h : Heap) : Option (((Value × Value × Value × Value × Value × Value) × Heap) ⊕ (Exit × (Value × Value × Value × Value × Value × Value) × Heap)) :=
  runL (fun x : (Value × Value × Value × Value × Value × Value × Value × Value × Value) × Heap => Jr12_0b3 rc md x.1.1 x.1.2.1 x.1.2.2.1 x.1.2.2.2.1 x.1.2.2.2.2.1 x.1.2.2.2.2.2.1 x.1.2.2.2.2.2.2.1 x.1.2.2.2.2.2.2.2.1 x.1.2.2.2.2.2.2.2.2 x.2) (fun e (s : Value × Value × Value × Value × Value × Value × Value × Value × Value) h => Jk12_0b3 rc md e s.1 s.2.1 s.2.2.1 s.2.2.2.1 s.2.2.2.2.1 s.2.2.2.2.2.1 s.2.2.2.2.2.2.1 s.2.2.2.2.2.2.2.1 s.2.2.2.2.2.2.2.2 h) (s0, s2, s3, s4, s5, s6, s13, s14, s15) h
theorem J12_0b3_step (rc : Rec) (md : Md) (s0 : Value) (s2 : Value) (s3 : Value) (s4 : Value) (s5 : Value) (s6 : Value) (s13 : Value) (s14 : Value) (s15 : Value) (h : Heap) : J12_0b3 rc md s0 s2 s3 s4 s5 s6 s13 s14 s15 h = (Jr12_0b3 rc md s0 s2 s3 s4 s5 s6 s13 s14 s15 h).bind fun x => match x with
    | .inl (s, h) => J12_0b3 rc md s.1 s.2.1 s.2.2.1 s.2.2.2.1 s.2.2.2.2.1 s.2.2.2.2.2.1 s.2.2.2.2.2.2.1 s.2.2.2.2.2.2.2.1 s.2.2.2.2.2.2.2.2 h
    | .inr (e, s, h) => Jk12_0b3 rc md e s.1 s.2.1 s.2.2.1 s.2.2.2.1 s.2.2.2.2.1 s.2.2.2.2.2.1 s.2.2.2.2.2.2.1 s.2.2.2.2.2.2.2.1 s.2.2.2.2.2.2.2.2 h := by
  unfold J12_0b3
  rw [runL_eq]
  refine congrArg (Option.bind _) (funext fun x => ?_)
  rcases x with ⟨s, h⟩ | ⟨e, s, h⟩ <;> rfl
theorem J12_0b3_cut (rc : Rec) (md : Md) : cut Tryd.prog cfg rc md 112 (sub (bodyOf Tryd.prog 12) [1, 1, 1, 0, 0, 0]) [1, 0, 1, 1, 1, 1, 1, 1, 1, 1, 1, 1, 1, 0, 1, 0] (rndK (fun t => (t 0, t 2, t 3, t 4, t 5, t 6))) = fun t h => J12_0b3 rc md (t 0) (t 2) (t 3) (t 4) (t 5) (t 6) (t 13) (t 14) (t 15) h := by
  funext t h
  have e : sub (sub (bodyOf Tryd.prog 12) [1, 1, 1, 0, 0, 0]) [1, 0, 1, 1, 1, 1, 1, 1, 1, 1, 1, 1, 1, 0, 1, 0] = .loop (sub (bodyOf Tryd.prog 12) [1, 1, 1, 0, 0, 0, 1, 0, 1, 1, 1, 1, 1, 1, 1, 1, 1, 1, 1, 0, 1, 0, 0]) := by kernel_rfl
  unfold cut
  rw [e]
  exact loop_eq (by kernel_rfl) (fun t => (t 0, t 2, t 3, t 4, t 5, t 6, t 13, t 14, t 15)) (fun x : (Value × Value × Value × Value × Value × Value × Value × Value × Value) × Heap => Jr12_0b3 rc md x.1.1 x.1.2.1 x.1.2.2.1 x.1.2.2.2.1 x.1.2.2.2.2.1 x.1.2.2.2.2.2.1 x.1.2.2.2.2.2.2.1 x.1.2.2.2.2.2.2.2.1 x.1.2.2.2.2.2.2.2.2 x.2) (fun t h => Jr12_0b3_at rc md t h) (fun e (s : Value × Value × Value × Value × Value × Value × Value × Value × Value) h => Jk12_0b3 rc md e s.1 s.2.1 s.2.2.1 s.2.2.2.1 s.2.2.2.2.1 s.2.2.2.2.2.1 s.2.2.2.2.2.2.1 s.2.2.2.2.2.2.2.1 s.2.2.2.2.2.2.2.2 h) (fun e t h => Jk12_0b3_at rc md e t h) t h
noncomputable def J12_0b2 (rc : Rec) (md : Md) (s0 : Value) (s2 : Value) (s3 : Value) (s4 : Value) (s5 : Value) (s6 : Value) (s9 : Value) (s10 : Value) (h : Heap) : Option (((Value × Value × Value × Value × Value × Value) × Heap) ⊕ (Exit × (Value × Value × Value × Value × Value × Value) × Heap)) :=
  aSlice Tryd.prog 9 s0 (some s10) (some s6) none fun v1 =>
  aBin Tryd.prog .eql 3 s9 (.int .i64 3) fun v2 =>
  cBn v2 fun b3 =>
  bif b3 then
    aBuild Tryd.prog 50 [(0, (.int .i64 2)), (2, v1)] fun v4 =>
    aBuildSlice Tryd.prog 27 1 [(0, v4)] h fun v5 h6 =>
    aBuiltin Tryd.prog md .append #[27, 27] [s5, v5] h6 fun v7 h8 =>
    some (.inl ((s0, s2, s3, s4, v7, s6), h8))
  else
    lenT v1 fun v9 =>
    cIn .i64 v9 fun n10 =>
    (bif wantV (.bool (decide (n10 > 9))) false then
    some (v1, h)
    else some (undef, h)).bind fun p11 =>
    (bif wantV (.bool (decide (n10 > 9))) false then
    lenT p11.1 fun v12 =>
    cIn .i64 v12 fun n13 =>
    some ((.int .i64 n13), p11.2)
    else some (undef, p11.2)).bind fun p14 =>
    (bif wantV (.bool (decide (n10 > 9))) false then
    aBin Tryd.prog .gtr 3 p14.1 (.int .i64 1) fun v15 =>
    some (v15, p14.2)
    else some (undef, p14.2)).bind fun p16 =>
    (bif wantV (.bool (decide (n10 > 9))) false then
    some (p16.1, p16.2)
    else some (undef, p16.2)).bind fun p17 =>
    (bif wantV p17.1 true then
    some (v1, p17.2)
    else some (undef, p17.2)).bind fun p18 =>
    (bif wantV p17.1 true then
    aIndex Tryd.prog 9 p18.1 (.int .i64 0) fun v19 =>
    cIn .u8 v19 fun n20 =>
    some ((.int .u8 n20), p18.2)
    else some (undef, p18.2)).bind fun p21 =>
    (bif wantV p17.1 true then
    aBin Tryd.prog .eql 5 p21.1 (.int .u8 48) fun v22 =>
    some (v22, p21.2)
    else some (undef, p21.2)).bind fun p23 =>
    (bif wantV (.bool (decide (n10 > 9))) false then
    cBn p17.1 fun q24 =>
    cBn (bif q24 then p23.1 else (.bool false)) fun b25 =>
    some ((.bool b25), p23.2)
    else some (undef, p23.2)).bind fun p26 =>
    cBn (bif (decide (n10 > 9)) then (.bool true) else p26.1) fun b27 =>
    bif b27 then
      some (.inr (.ret, (s0, (.slice none 0 0), s10, (.int .i64 41), s5, s6), p26.2))
    else
      J12_0b3 rc md s0 s2 s3 s4 s5 s6 v1 (.int .i64 0) (.int .i64 0) p26.2
noncomputable def J12_0b2H (rc : Rec) (md : Md) (X1 : T → Heap → Option (((Value × Value × Value × Value × Value × Value) × Heap) ⊕ (Exit × (Value × Value × Value × Value × Value × Value) × Heap))) (t : T) (h : Heap) : Option (((Value × Value × Value × Value × Value × Value) × Heap) ⊕ (Exit × (Value × Value × Value × Value × Value × Value) × Heap)) :=
  aSlice Tryd.prog 9 (t 0) (some (t 10)) (some (t 6)) none fun v1 =>
  aBin Tryd.prog .eql 3 (t 9) (.int .i64 3) fun v2 =>
  cBn v2 fun b3 =>
  bif b3 then
    aBuild Tryd.prog 50 [(0, (.int .i64 2)), (2, v1)] fun v4 =>
    aBuildSlice Tryd.prog 27 1 [(0, v4)] h fun v5 h6 =>
    aBuiltin Tryd.prog md .append #[27, 27] [(t 5), v5] h6 fun v7 h8 =>
    some (.inl (((t 0), (t 2), (t 3), (t 4), v7, (t 6)), h8))
  else
    lenT v1 fun v9 =>
    cIn .i64 v9 fun n10 =>
    (bif wantV (.bool (decide (n10 > 9))) false then
    some (v1, h)
    else some (undef, h)).bind fun p11 =>
    (bif wantV (.bool (decide (n10 > 9))) false then
    lenT p11.1 fun v12 =>
    cIn .i64 v12 fun n13 =>
    some ((.int .i64 n13), p11.2)
    else some (undef, p11.2)).bind fun p14 =>
    (bif wantV (.bool (decide (n10 > 9))) false then
    aBin Tryd.prog .gtr 3 p14.1 (.int .i64 1) fun v15 =>
    some (v15, p14.2)
    else some (undef, p14.2)).bind fun p16 =>
    (bif wantV (.bool (decide (n10 > 9))) false then
    some (p16.1, p16.2)
    else some (undef, p16.2)).bind fun p17 =>
    (bif wantV p17.1 true then
    some (v1, p17.2)
    else some (undef, p17.2)).bind fun p18 =>
    (bif wantV p17.1 true then
    aIndex Tryd.prog 9 p18.1 (.int .i64 0) fun v19 =>
    cIn .u8 v19 fun n20 =>
    some ((.int .u8 n20), p18.2)
    else some (undef, p18.2)).bind fun p21 =>
    (bif wantV p17.1 true then
    aBin Tryd.prog .eql 5 p21.1 (.int .u8 48) fun v22 =>
    some (v22, p21.2)
    else some (undef, p21.2)).bind fun p23 =>
    (bif wantV (.bool (decide (n10 > 9))) false then
    cBn p17.1 fun q24 =>
    cBn (bif q24 then p23.1 else (.bool false)) fun b25 =>
    some ((.bool b25), p23.2)
    else some (undef, p23.2)).bind fun p26 =>
    cBn (bif (decide (n10 > 9)) then (.bool true) else p26.1) fun b27 =>
    bif b27 then
      some (.inr (.ret, ((t 0), (.slice none 0 0), (t 10), (.int .i64 41), (t 5), (t 6)), p26.2))
    else
      X1 (upd (upd (upd (upd (upd (upd (upd (upd (upd (upd (upd (upd (upd (upd (upd (upd (upd (upd (upd (upd (upd (upd t 65 (t 0)) 66 (t 10)) 67 (t 6)) 68 v1) 13 v1) 69 (t 9)) 70 v2) 76 v1) 77 (.int .i64 n10)) 78 (.bool (decide (n10 > 9)))) 79 (.bool (decide (n10 > 9)))) 80 p11.1) 81 p14.1) 82 p16.1) 83 p17.1) 84 p18.1) 85 p21.1) 86 p23.1) 87 p26.1) 88 (.bool b27)) 14 (.int .i64 0)) 15 (.int .i64 0)) p26.2
theorem J12_0b2_h1 (rc : Rec) (md : Md) (X : Nat → T → Heap → Option (((Value × Value × Value × Value × Value × Value) × Heap) ⊕ (Exit × (Value × Value × Value × Value × Value × Value) × Heap))) (t : T) (h : Heap) : execG Tryd.prog cfg X rc md 112 (sub (replS (sub (bodyOf Tryd.prog 12) [1, 1, 1, 0, 0, 0]) [([1, 0, 1, 1, 1, 1, 1, 1, 0, 0], 0), ([1, 0, 1, 1, 1, 1, 1, 1, 1, 1, 1, 1, 1, 0, 1, 0], 1), ([1, 0, 1, 1, 1, 1, 1, 1, 1, 1, 1, 1, 1, 1], 2)]) [1, 0, 1, 1, 1, 1, 1, 1, 1]) (kAtG Tryd.prog cfg X rc md 112 (replS (sub (bodyOf Tryd.prog 12) [1, 1, 1, 0, 0, 0]) [([1, 0, 1, 1, 1, 1, 1, 1, 0, 0], 0), ([1, 0, 1, 1, 1, 1, 1, 1, 1, 1, 1, 1, 1, 0, 1, 0], 1), ([1, 0, 1, 1, 1, 1, 1, 1, 1, 1, 1, 1, 1, 1], 2)]) [1, 0, 1, 1, 1, 1, 1, 1, 1] (rndK (fun t => (t 0, t 2, t 3, t 4, t 5, t 6)))) t h = J12_0b2H rc md (X 1) t h := by kernel_rfl
theorem J12_0b2_h2 (rc : Rec) (md : Md) (t : T) (h : Heap) : J12_0b2H rc md (fun t h => J12_0b3 rc md (t 0) (t 2) (t 3) (t 4) (t 5) (t 6) (t 13) (t 14) (t 15) h) t h = J12_0b2 rc md (t 0) (t 2) (t 3) (t 4) (t 5) (t 6) (t 9) (t 10) h := by (unfold J12_0b2H J12_0b2; kernel_rfl)
theorem J12_0b2_at (rc : Rec) (md : Md) (t : T) (h : Heap) : cut Tryd.prog cfg rc md 112 (sub (bodyOf Tryd.prog 12) [1, 1, 1, 0, 0, 0]) [1, 0, 1, 1, 1, 1, 1, 1, 1] (rndK (fun t => (t 0, t 2, t 3, t 4, t 5, t 6))) t h = J12_0b2 rc md (t 0) (t 2) (t 3) (t 4) (t 5) (t 6) (t 9) (t 10) h := by
  rw [cut_holes [([1, 0, 1, 1, 1, 1, 1, 1, 0, 0], 0), ([1, 0, 1, 1, 1, 1, 1, 1, 1, 1, 1, 1, 1, 0, 1, 0], 1), ([1, 0, 1, 1, 1, 1, 1, 1, 1, 1, 1, 1, 1, 1], 2)] [1, 0, 1, 1, 1, 1, 1, 1, 1] (by kernel_rfl), J12_0b2_h1, show (goX Tryd.prog cfg rc md 112 (sub (bodyOf Tryd.prog 12) [1, 1, 1, 0, 0, 0]) [([1, 0, 1, 1, 1, 1, 1, 1, 0, 0], 0), ([1, 0, 1, 1, 1, 1, 1, 1, 1, 1, 1, 1, 1, 0, 1, 0], 1), ([1, 0, 1, 1, 1, 1, 1, 1, 1, 1, 1, 1, 1, 1], 2)] (rndK (fun t => (t 0, t 2, t 3, t 4, t 5, t 6)))) 1 = _ from J12_0b3_cut rc md]
  exact J12_0b2_h2 rc md t h
theorem J12_0b2_cut (rc : Rec) (md : Md) : cut Tryd.prog cfg rc md 112 (sub (bodyOf Tryd.prog 12) [1, 1, 1, 0, 0, 0]) [1, 0, 1, 1, 1, 1, 1, 1, 1] (rndK (fun t => (t 0, t 2, t 3, t 4, t 5, t 6))) = fun t h => J12_0b2 rc md (t 0) (t 2) (t 3) (t 4) (t 5) (t 6) (t 9) (t 10) h := funext fun t => funext fun h => J12_0b2_at rc md t h
noncomputable def Jk12_0b1 (rc : Rec) (md : Md) (e : Exit) (s0 : Value) (s2 : Value) (s3 : Value) (s4 : Value) (s5 : Value) (s6 : Value) (s9 : Value) (s10 : Value) (h : Heap) : Option (((Value × Value × Value × Value × Value × Value) × Heap) ⊕ (Exit × (Value × Value × Value × Value × Value × Value) × Heap)) :=
  match e with
  | .normal =>
    J12_0b2 rc md s0 s2 s3 s4 s5 s6 s9 s10 h
  | .exit j =>
    bif Nat.beq j 2 then
      J12_0b2 rc md s0 s2 s3 s4 s5 s6 s9 s10 h
    else
      bif Nat.beq j 1 then
        some (.inl ((s0, s2, s3, s4, s5, s6), h))
      else
        some (.inr ((.exit j), (s0, s2, s3, s4, s5, s6), h))
  | .ret =>
    some (.inr (.ret, (s0, s2, s3, s4, s5, s6), h))
  | .goto l => some (.inr ((.goto l), (s0, s2, s3, s4, s5, s6), h))
  | .panic ps => some (.inr ((.panic ps), (s0, s2, s3, s4, s5, s6), h))
  | .outgrown => some (.inr (.outgrown, (s0, s2, s3, s4, s5, s6), h))
noncomputable def Jk12_0b1H (rc : Rec) (md : Md) (X3 : T → Heap → Option (((Value × Value × Value × Value × Value × Value) × Heap) ⊕ (Exit × (Value × Value × Value × Value × Value × Value) × Heap))) (e : Exit) (t : T) (h : Heap) : Option (((Value × Value × Value × Value × Value × Value) × Heap) ⊕ (Exit × (Value × Value × Value × Value × Value × Value) × Heap)) :=
  match e with
  | .normal =>
    X3 t h
  | .exit j =>
    bif Nat.beq j 2 then
      X3 t h
    else
      bif Nat.beq j 1 then
        some (.inl (((t 0), (t 2), (t 3), (t 4), (t 5), (t 6)), h))
      else
        some (.inr ((.exit j), ((t 0), (t 2), (t 3), (t 4), (t 5), (t 6)), h))
  | .ret =>
    some (.inr (.ret, ((t 0), (t 2), (t 3), (t 4), (t 5), (t 6)), h))
  | .goto l => some (.inr ((.goto l), ((t 0), (t 2), (t 3), (t 4), (t 5), (t 6)), h))
  | .panic ps => some (.inr ((.panic ps), ((t 0), (t 2), (t 3), (t 4), (t 5), (t 6)), h))
  | .outgrown => some (.inr (.outgrown, ((t 0), (t 2), (t 3), (t 4), (t 5), (t 6)), h))
theorem Jk12_0b1_h1 (rc : Rec) (md : Md) (X : Nat → T → Heap → Option (((Value × Value × Value × Value × Value × Value) × Heap) ⊕ (Exit × (Value × Value × Value × Value × Value × Value) × Heap))) (e : Exit) (t : T) (h : Heap) : kAtG Tryd.prog cfg X rc md 112 (replS (sub (bodyOf Tryd.prog 12) [1, 1, 1, 0, 0, 0]) [([1, 0, 1, 1, 1, 1, 1, 1, 1, 1, 1, 1, 1, 0, 1, 0], 1), ([1, 0, 1, 1, 1, 1, 1, 1, 1, 1, 1, 1, 1, 1], 2), ([1, 0, 1, 1, 1, 1, 1, 1, 1], 3)]) [1, 0, 1, 1, 1, 1, 1, 1, 0, 0] (rndK (fun t => (t 0, t 2, t 3, t 4, t 5, t 6))) e t h = Jk12_0b1H rc md (X 3) e t h := by cases e <;> kernel_rfl
theorem Jk12_0b1_h2 (rc : Rec) (md : Md) (e : Exit) (t : T) (h : Heap) : Jk12_0b1H rc md (fun t h => J12_0b2 rc md (t 0) (t 2) (t 3) (t 4) (t 5) (t 6) (t 9) (t 10) h) e t h = Jk12_0b1 rc md e (t 0) (t 2) (t 3) (t 4) (t 5) (t 6) (t 9) (t 10) h := by cases e <;> (unfold Jk12_0b1H Jk12_0b1; kernel_rfl)
theorem Jk12_0b1_at (rc : Rec) (md : Md) (e : Exit) (t : T) (h : Heap) : kAt Tryd.prog cfg rc md 112 (sub (bodyOf Tryd.prog 12) [1, 1, 1, 0, 0, 0]) [1, 0, 1, 1, 1, 1, 1, 1, 0, 0] (rndK (fun t => (t 0, t 2, t 3, t 4, t 5, t 6))) e t h = Jk12_0b1 rc md e (t 0) (t 2) (t 3) (t 4) (t 5) (t 6) (t 9) (t 10) h := by
  rw [kAt_holes [([1, 0, 1, 1, 1, 1, 1, 1, 1, 1, 1, 1, 1, 0, 1, 0], 1), ([1, 0, 1, 1, 1, 1, 1, 1, 1, 1, 1, 1, 1, 1], 2), ([1, 0, 1, 1, 1, 1, 1, 1, 1], 3)] [1, 0, 1, 1, 1, 1, 1, 1, 0, 0] (by kernel_rfl), Jk12_0b1_h1, show (goX Tryd.prog cfg rc md 112 (sub (bodyOf Tryd.prog 12) [1, 1, 1, 0, 0, 0]) [([1, 0, 1, 1, 1, 1, 1, 1, 1, 1, 1, 1, 1, 0, 1, 0], 1), ([1, 0, 1, 1, 1, 1, 1, 1, 1, 1, 1, 1, 1, 1], 2), ([1, 0, 1, 1, 1, 1, 1, 1, 1], 3)] (rndK (fun t => (t 0, t 2, t 3, t 4, t 5, t 6)))) 3 = _ from J12_0b2_cut rc md]
  exact Jk12_0b1_h2 rc md e t h
/-- a round -/
noncomputable def Jr12_0b1 (rc : Rec) (md : Md) (s0 : Value) (s2 : Value) (s3 : Value) (s4 : Value) (s5 : Value) (s6 : Value) (s9 : Value) (s10 : Value) (h : Heap) : Option (((Value × Value × Value × Value × Value × Value × Value × Value) × Heap) ⊕ (Exit × (Value × Value × Value × Value × Value × Value × Value × Value) × Heap)) :=
  lenT s0 fun v1 =>
  cIn .i64 v1 fun n2 =>
  aBin Tryd.prog .lss 3 s6 (.int .i64 n2) fun v3 =>
  cBn v3 fun b4 =>
  bif b4 then
    cl (rc md 22 [s0, s6] h) fun v5 h6 =>
    exT v5 0 fun v7 =>
    cIn .i64 v7 fun n8 =>
    exT v5 1 fun v9 =>
    cIn .i64 v9 fun n10 =>
    cl (rc md 15 [(.int .i64 n8)] h6) fun v11 h12 =>
    cIn .i64 v11 fun n13 =>
    aBin Tryd.prog .neq 3 (.int .i64 n13) s9 fun v14 =>
    cBn v14 fun b15 =>
    bif b15 then
      some (.inr ((.exit 2), (s0, s2, s3, s4, s5, s6, s9, s10), h12))
    else
      aBin Tryd.prog .add 3 s6 (.int .i64 n10) fun v16 =>
      some (.inl ((s0, s2, s3, s4, s5, v16, s9, s10), h12))
  else
    some (.inr ((.exit 2), (s0, s2, s3, s4, s5, s6, s9, s10), h))
theorem Jr12_0b1_at (rc : Rec) (md : Md) (t : T) (h : Heap) : exec Tryd.prog cfg rc md 112 (sub (bodyOf Tryd.prog 12) [1, 1, 1, 0, 0, 0, 1, 0, 1, 1, 1, 1, 1, 1, 0, 0, 0]) (rndK (fun t => (t 0, t 2, t 3, t 4, t 5, t 6, t 9, t 10))) t h = Jr12_0b1 rc md (t 0) (t 2) (t 3) (t 4) (t 5) (t 6) (t 9) (t 10) h := by kernel_rfl
noncomputable def J12_0b1 (rc : Rec) (md : Md) (s0 : Value) (s2 : Value) (s3 : Value) (s4 : Value) (s5 : Value) (s6 : Value) (s9 : Value) (s10 : Value) (h : Heap) : Option (((Value × Value × Value × Value × Value × Value) × Heap) ⊕ (Exit × (Value × Value × Value × Value × Value × Value) × Heap)) :=
  runL (fun x : (Value × Value × Value × Value × Value × Value × Value × Value) × Heap => Jr12_0b1 rc md x.1.1 x.1.2.1 x.1.2.2.1 x.1.2.2.2.1 x.1.2.2.2.2.1 x.1.2.2.2.2.2.1 x.1.2.2.2.2.2.2.1 x.1.2.2.2.2.2.2.2 x.2) (fun e (s : Value × Value × Value × Value × Value × Value × Value × Value) h => Jk12_0b1 rc md e s.1 s.2.1 s.2.2.1 s.2.2.2.1 s.2.2.2.2.1 s.2.2.2.2.2.1 s.2.2.2.2.2.2.1 s.2.2.2.2.2.2.2 h) (s0, s2, s3, s4, s5, s6, s9, s10) h
theorem J12_0b1_step (rc : Rec) (md : Md) (s0 : Value) (s2 : Value) (s3 : Value) (s4 : Value) (s5 : Value) (s6 : Value) (s9 : Value) (s10 : Value) (h : Heap) : J12_0b1 rc md s0 s2 s3 s4 s5 s6 s9 s10 h = (Jr12_0b1 rc md s0 s2 s3 s4 s5 s6 s9 s10 h).bind fun x => match x with
    | .inl (s, h) => J12_0b1 rc md s.1 s.2.1 s.2.2.1 s.2.2.2.1 s.2.2.2.2.1 s.2.2.2.2.2.1 s.2.2.2.2.2.2.1 s.2.2.2.2.2.2.2 h
    | .inr (e, s, h) => Jk12_0b1 rc md e s.1 s.2.1 s.2.2.1 s.2.2.2.1 s.2.2.2.2.1 s.2.2.2.2.2.1 s.2.2.2.2.2.2.1 s.2.2.2.2.2.2.2 h := by
  unfold J12_0b1
  rw [runL_eq]
  refine congrArg (Option.bind _) (funext fun x => ?_)
  rcases x with ⟨s, h⟩ | ⟨e, s, h⟩ <;> rfl
theorem J12_0b1_cut (rc : Rec) (md : Md) : cut Tryd.prog cfg rc md 112 (sub (bodyOf Tryd.prog 12) [1, 1, 1, 0, 0, 0]) [1, 0, 1, 1, 1, 1, 1, 1, 0, 0] (rndK (fun t => (t 0, t 2, t 3, t 4, t 5, t 6))) = fun t h => J12_0b1 rc md (t 0) (t 2) (t 3) (t 4) (t 5) (t 6) (t 9) (t 10) h := by
  funext t h
  have e : sub (sub (bodyOf Tryd.prog 12) [1, 1, 1, 0, 0, 0]) [1, 0, 1, 1, 1, 1, 1, 1, 0, 0] = .loop (sub (bodyOf Tryd.prog 12) [1, 1, 1, 0, 0, 0, 1, 0, 1, 1, 1, 1, 1, 1, 0, 0, 0]) := by kernel_rfl
  unfold cut
  rw [e]
  exact loop_eq (by kernel_rfl) (fun t => (t 0, t 2, t 3, t 4, t 5, t 6, t 9, t 10)) (fun x : (Value × Value × Value × Value × Value × Value × Value × Value) × Heap => Jr12_0b1 rc md x.1.1 x.1.2.1 x.1.2.2.1 x.1.2.2.2.1 x.1.2.2.2.2.1 x.1.2.2.2.2.2.1 x.1.2.2.2.2.2.2.1 x.1.2.2.2.2.2.2.2 x.2) (fun t h => Jr12_0b1_at rc md t h) (fun e (s : Value × Value × Value × Value × Value × Value × Value × Value) h => Jk12_0b1 rc md e s.1 s.2.1 s.2.2.1 s.2.2.2.1 s.2.2.2.2.1 s.2.2.2.2.2.1 s.2.2.2.2.2.2.1 s.2.2.2.2.2.2.2 h) (fun e t h => Jk12_0b1_at rc md e t h) t h
noncomputable def J12_0b0 (rc : Rec) (md : Md) (s0 : Value) (s2 : Value) (s3 : Value) (s4 : Value) (s5 : Value) (s6 : Value) (s8 : Value) (s9 : Value) (h : Heap) : Option (((Value × Value × Value × Value × Value × Value) × Heap) ⊕ (Exit × (Value × Value × Value × Value × Value × Value) × Heap)) :=
  aBin Tryd.prog .eql 3 s9 (.int .i64 1) fun v1 =>
  (bif wantV v1 false then
  some (s9, h)
  else some (undef, h)).bind fun p2 =>
  (bif wantV v1 false then
  aBin Tryd.prog .eql 3 p2.1 (.int .i64 4) fun v3 =>
  some (v3, p2.2)
  else some (undef, p2.2)).bind fun p4 =>
  cBn v1 fun q5 =>
  cBn (bif q5 then (.bool true) else p4.1) fun b6 =>
  bif b6 then
    aBin Tryd.prog .add 3 s6 s8 fun v7 =>
    some (.inl ((s0, s2, s3, s4, s5, v7), p4.2))
  else
    J12_0b1 rc md s0 s2 s3 s4 s5 s6 s9 s6 p4.2
noncomputable def J12_0b0H (rc : Rec) (md : Md) (X0 : T → Heap → Option (((Value × Value × Value × Value × Value × Value) × Heap) ⊕ (Exit × (Value × Value × Value × Value × Value × Value) × Heap))) (t : T) (h : Heap) : Option (((Value × Value × Value × Value × Value × Value) × Heap) ⊕ (Exit × (Value × Value × Value × Value × Value × Value) × Heap)) :=
  aBin Tryd.prog .eql 3 (t 9) (.int .i64 1) fun v1 =>
  (bif wantV v1 false then
  some ((t 9), h)
  else some (undef, h)).bind fun p2 =>
  (bif wantV v1 false then
  aBin Tryd.prog .eql 3 p2.1 (.int .i64 4) fun v3 =>
  some (v3, p2.2)
  else some (undef, p2.2)).bind fun p4 =>
  cBn v1 fun q5 =>
  cBn (bif q5 then (.bool true) else p4.1) fun b6 =>
  bif b6 then
    aBin Tryd.prog .add 3 (t 6) (t 8) fun v7 =>
    some (.inl (((t 0), (t 2), (t 3), (t 4), (t 5), v7), p4.2))
  else
    X0 (upd (upd (upd (upd (upd (upd (upd (upd t 38 (t 9)) 39 v1) 40 v1) 41 p2.1) 42 p4.1) 43 (.bool b6)) 47 (t 6)) 10 (t 6)) p4.2
theorem J12_0b0_h1 (rc : Rec) (md : Md) (X : Nat → T → Heap → Option (((Value × Value × Value × Value × Value × Value) × Heap) ⊕ (Exit × (Value × Value × Value × Value × Value × Value) × Heap))) (t : T) (h : Heap) : execG Tryd.prog cfg X rc md 112 (sub (replS (sub (bodyOf Tryd.prog 12) [1, 1, 1, 0, 0, 0]) [([1, 0, 1, 1, 1, 1, 1, 1, 0, 0], 0), ([1, 0, 1, 1, 1, 1, 1, 1, 1, 1, 1, 1, 1, 0, 1, 0], 1), ([1, 0, 1, 1, 1, 1, 1, 1, 1, 1, 1, 1, 1, 1], 2), ([1, 0, 1, 1, 1, 1, 1, 1, 1], 3)]) [1, 0, 1, 1, 1, 1]) (kAtG Tryd.prog cfg X rc md 112 (replS (sub (bodyOf Tryd.prog 12) [1, 1, 1, 0, 0, 0]) [([1, 0, 1, 1, 1, 1, 1, 1, 0, 0], 0), ([1, 0, 1, 1, 1, 1, 1, 1, 1, 1, 1, 1, 1, 0, 1, 0], 1), ([1, 0, 1, 1, 1, 1, 1, 1, 1, 1, 1, 1, 1, 1], 2), ([1, 0, 1, 1, 1, 1, 1, 1, 1], 3)]) [1, 0, 1, 1, 1, 1] (rndK (fun t => (t 0, t 2, t 3, t 4, t 5, t 6)))) t h = J12_0b0H rc md (X 0) t h := by kernel_rfl
theorem J12_0b0_h2 (rc : Rec) (md : Md) (t : T) (h : Heap) : J12_0b0H rc md (fun t h => J12_0b1 rc md (t 0) (t 2) (t 3) (t 4) (t 5) (t 6) (t 9) (t 10) h) t h = J12_0b0 rc md (t 0) (t 2) (t 3) (t 4) (t 5) (t 6) (t 8) (t 9) h := by (unfold J12_0b0H J12_0b0; kernel_rfl)
theorem J12_0b0_at (rc : Rec) (md : Md) (t : T) (h : Heap) : cut Tryd.prog cfg rc md 112 (sub (bodyOf Tryd.prog 12) [1, 1, 1, 0, 0, 0]) [1, 0, 1, 1, 1, 1] (rndK (fun t => (t 0, t 2, t 3, t 4, t 5, t 6))) t h = J12_0b0 rc md (t 0) (t 2) (t 3) (t 4) (t 5) (t 6) (t 8) (t 9) h := by
  rw [cut_holes [([1, 0, 1, 1, 1, 1, 1, 1, 0, 0], 0), ([1, 0, 1, 1, 1, 1, 1, 1, 1, 1, 1, 1, 1, 0, 1, 0], 1), ([1, 0, 1, 1, 1, 1, 1, 1, 1, 1, 1, 1, 1, 1], 2), ([1, 0, 1, 1, 1, 1, 1, 1, 1], 3)] [1, 0, 1, 1, 1, 1] (by kernel_rfl), J12_0b0_h1, show (goX Tryd.prog cfg rc md 112 (sub (bodyOf Tryd.prog 12) [1, 1, 1, 0, 0, 0]) [([1, 0, 1, 1, 1, 1, 1, 1, 0, 0], 0), ([1, 0, 1, 1, 1, 1, 1, 1, 1, 1, 1, 1, 1, 0, 1, 0], 1), ([1, 0, 1, 1, 1, 1, 1, 1, 1, 1, 1, 1, 1, 1], 2), ([1, 0, 1, 1, 1, 1, 1, 1, 1], 3)] (rndK (fun t => (t 0, t 2, t 3, t 4, t 5, t 6)))) 0 = _ from J12_0b1_cut rc md]
  exact J12_0b0_h2 rc md t h
theorem J12_0b0_cut (rc : Rec) (md : Md) : cut Tryd.prog cfg rc md 112 (sub (bodyOf Tryd.prog 12) [1, 1, 1, 0, 0, 0]) [1, 0, 1, 1, 1, 1] (rndK (fun t => (t 0, t 2, t 3, t 4, t 5, t 6))) = fun t h => J12_0b0 rc md (t 0) (t 2) (t 3) (t 4) (t 5) (t 6) (t 8) (t 9) h := funext fun t => funext fun h => J12_0b0_at rc md t h
/-- a round -/
noncomputable def Jr12_0 (rc : Rec) (md : Md) (s0 : Value) (s2 : Value) (s3 : Value) (s4 : Value) (s5 : Value) (s6 : Value) (h : Heap) : Option (((Value × Value × Value × Value × Value × Value) × Heap) ⊕ (Exit × (Value × Value × Value × Value × Value × Value) × Heap)) :=
  lenT s0 fun v1 =>
  cIn .i64 v1 fun n2 =>
  aBin Tryd.prog .lss 3 s6 (.int .i64 n2) fun v3 =>
  cBn v3 fun b4 =>
  bif b4 then
    cl (rc md 22 [s0, s6] h) fun v5 h6 =>
    exT v5 0 fun v7 =>
    cIn .i64 v7 fun n8 =>
    exT v5 1 fun v9 =>
    cIn .i64 v9 fun n10 =>
    cl (rc md 15 [(.int .i64 n8)] h6) fun v11 h12 =>
    cIn .i64 v11 fun n13 =>
    bif (n13 == 0) then
      some (.inr (.ret, (s0, (.slice none 0 0), s6, (.int .i64 40), s5, s6), h12))
    else
      bif (n13 == 4) then
        let h14 : Heap := h12 ++ [.own [(.int .i64 3), (.int .i64 n8), (.string ⟨#[]⟩)]]
        aBuiltin Tryd.prog md .append #[27, 27] [s5, (.slice (some ⟨h12.length, 0, none⟩) 1 3)] h14 fun v15 h16 =>
        J12_0b0 rc md s0 s2 s3 s4 v15 s6 (.int .i64 n10) (.int .i64 n13) h16
      else
        J12_0b0 rc md s0 s2 s3 s4 s5 s6 (.int .i64 n10) (.int .i64 n13) h12
  else
    some (.inr ((.exit 0), (s0, s2, s3, s4, s5, s6), h))
noncomputable def Jr12_0H (rc : Rec) (md : Md) (X4 : T → Heap → Option (((Value × Value × Value × Value × Value × Value) × Heap) ⊕ (Exit × (Value × Value × Value × Value × Value × Value) × Heap))) (t : T) (h : Heap) : Option (((Value × Value × Value × Value × Value × Value) × Heap) ⊕ (Exit × (Value × Value × Value × Value × Value × Value) × Heap)) :=
  lenT (t 0) fun v1 =>
  cIn .i64 v1 fun n2 =>
  aBin Tryd.prog .lss 3 (t 6) (.int .i64 n2) fun v3 =>
  cBn v3 fun b4 =>
  bif b4 then
    cl (rc md 22 [(t 0), (t 6)] h) fun v5 h6 =>
    exT v5 0 fun v7 =>
    cIn .i64 v7 fun n8 =>
    exT v5 1 fun v9 =>
    cIn .i64 v9 fun n10 =>
    cl (rc md 15 [(.int .i64 n8)] h6) fun v11 h12 =>
    cIn .i64 v11 fun n13 =>
    bif (n13 == 0) then
      some (.inr (.ret, ((t 0), (.slice none 0 0), (t 6), (.int .i64 40), (t 5), (t 6)), h12))
    else
      bif (n13 == 4) then
        let h14 : Heap := h12 ++ [.own [(.int .i64 3), (.int .i64 n8), (.string ⟨#[]⟩)]]
        aBuiltin Tryd.prog md .append #[27, 27] [(t 5), (.slice (some ⟨h12.length, 0, none⟩) 1 3)] h14 fun v15 h16 =>
        X4 (upd (upd (upd (upd (upd (upd (upd (upd (upd (upd (upd (upd (upd (upd (upd (upd (upd (upd (upd (upd (upd (upd (upd (upd (upd t 16 (t 6)) 17 (t 0)) 18 (.int .i64 n2)) 19 v3) 21 (t 0)) 22 (t 6)) 23 v5) 20 v5) 24 (.int .i64 n8)) 25 (.int .i64 n10)) 7 (.int .i64 n8)) 8 (.int .i64 n10)) 26 (.int .i64 n8)) 27 (.int .i64 n13)) 9 (.int .i64 n13)) 28 (.int .i64 n13)) 29 (.bool (n13 == 0))) 31 (.int .i64 n13)) 32 (.bool (n13 == 4))) 33 (t 5)) 34 (.int .i64 n8)) 35 (.agg #[(.int .i64 3), (.int .i64 n8), (.string ⟨#[]⟩)])) 36 (.slice (some ⟨h12.length, 0, none⟩) 1 3)) 37 v15) 5 v15) h16
      else
        X4 (upd (upd (upd (upd (upd (upd (upd (upd (upd (upd (upd (upd (upd (upd (upd (upd (upd (upd (upd t 16 (t 6)) 17 (t 0)) 18 (.int .i64 n2)) 19 v3) 21 (t 0)) 22 (t 6)) 23 v5) 20 v5) 24 (.int .i64 n8)) 25 (.int .i64 n10)) 7 (.int .i64 n8)) 8 (.int .i64 n10)) 26 (.int .i64 n8)) 27 (.int .i64 n13)) 9 (.int .i64 n13)) 28 (.int .i64 n13)) 29 (.bool (n13 == 0))) 31 (.int .i64 n13)) 32 (.bool (n13 == 4))) h12
  else
    some (.inr ((.exit 0), ((t 0), (t 2), (t 3), (t 4), (t 5), (t 6)), h))
theorem Jr12_0_h1 (rc : Rec) (md : Md) (X : Nat → T → Heap → Option (((Value × Value × Value × Value × Value × Value) × Heap) ⊕ (Exit × (Value × Value × Value × Value × Value × Value) × Heap))) (t : T) (h : Heap) : execG Tryd.prog cfg X rc md 112 (replS (sub (bodyOf Tryd.prog 12) [1, 1, 1, 0, 0, 0]) [([1, 0, 1, 1, 1, 1, 1, 1, 0, 0], 0), ([1, 0, 1, 1, 1, 1, 1, 1, 1, 1, 1, 1, 1, 0, 1, 0], 1), ([1, 0, 1, 1, 1, 1, 1, 1, 1, 1, 1, 1, 1, 1], 2), ([1, 0, 1, 1, 1, 1, 1, 1, 1], 3), ([1, 0, 1, 1, 1, 1], 4)]) (rndK (fun t => (t 0, t 2, t 3, t 4, t 5, t 6))) t h = Jr12_0H rc md (X 4) t h := by kernel_rfl
theorem Jr12_0_h2 (rc : Rec) (md : Md) (t : T) (h : Heap) : Jr12_0H rc md (fun t h => J12_0b0 rc md (t 0) (t 2) (t 3) (t 4) (t 5) (t 6) (t 8) (t 9) h) t h = Jr12_0 rc md (t 0) (t 2) (t 3) (t 4) (t 5) (t 6) h := by unfold Jr12_0H Jr12_0; kernel_rfl
theorem Jr12_0_at (rc : Rec) (md : Md) (t : T) (h : Heap) : exec Tryd.prog cfg rc md 112 (sub (bodyOf Tryd.prog 12) [1, 1, 1, 0, 0, 0]) (rndK (fun t => (t 0, t 2, t 3, t 4, t 5, t 6))) t h = Jr12_0 rc md (t 0) (t 2) (t 3) (t 4) (t 5) (t 6) h := by
  rw [exec_holes [([1, 0, 1, 1, 1, 1, 1, 1, 0, 0], 0), ([1, 0, 1, 1, 1, 1, 1, 1, 1, 1, 1, 1, 1, 0, 1, 0], 1), ([1, 0, 1, 1, 1, 1, 1, 1, 1, 1, 1, 1, 1, 1], 2), ([1, 0, 1, 1, 1, 1, 1, 1, 1], 3), ([1, 0, 1, 1, 1, 1], 4)] (by kernel_rfl), Jr12_0_h1, show (goX Tryd.prog cfg rc md 112 (sub (bodyOf Tryd.prog 12) [1, 1, 1, 0, 0, 0]) [([1, 0, 1, 1, 1, 1, 1, 1, 0, 0], 0), ([1, 0, 1, 1, 1, 1, 1, 1, 1, 1, 1, 1, 1, 0, 1, 0], 1), ([1, 0, 1, 1, 1, 1, 1, 1, 1, 1, 1, 1, 1, 1], 2), ([1, 0, 1, 1, 1, 1, 1, 1, 1], 3), ([1, 0, 1, 1, 1, 1], 4)] (rndK (fun t => (t 0, t 2, t 3, t 4, t 5, t 6)))) 4 = _ from J12_0b0_cut rc md]
  exact Jr12_0_h2 rc md t h
noncomputable def J12_0 (rc : Rec) (md : Md) (h0 : Heap) (s0 : Value) (s2 : Value) (s3 : Value) (s4 : Value) (s5 : Value) (s6 : Value) (h : Heap) : Option (Value × Heap) :=
  runL (fun x : (Value × Value × Value × Value × Value × Value) × Heap => Jr12_0 rc md x.1.1 x.1.2.1 x.1.2.2.1 x.1.2.2.2.1 x.1.2.2.2.2.1 x.1.2.2.2.2.2 x.2) (fun e (s : Value × Value × Value × Value × Value × Value) h => Jk12_0 rc md h0 e s.1 s.2.1 s.2.2.1 s.2.2.2.1 s.2.2.2.2.1 s.2.2.2.2.2 h) (s0, s2, s3, s4, s5, s6) h
theorem J12_0_step (rc : Rec) (md : Md) (h0 : Heap) (s0 : Value) (s2 : Value) (s3 : Value) (s4 : Value) (s5 : Value) (s6 : Value) (h : Heap) : J12_0 rc md h0 s0 s2 s3 s4 s5 s6 h = (Jr12_0 rc md s0 s2 s3 s4 s5 s6 h).bind fun x => match x with
    | .inl (s, h) => J12_0 rc md h0 s.1 s.2.1 s.2.2.1 s.2.2.2.1 s.2.2.2.2.1 s.2.2.2.2.2 h
    | .inr (e, s, h) => Jk12_0 rc md h0 e s.1 s.2.1 s.2.2.1 s.2.2.2.1 s.2.2.2.2.1 s.2.2.2.2.2 h := by
  unfold J12_0
  rw [runL_eq]
  refine congrArg (Option.bind _) (funext fun x => ?_)
  rcases x with ⟨s, h⟩ | ⟨e, s, h⟩ <;> rfl
theorem J12_0_cut (rc : Rec) (md : Md) (h0 : Heap) : cut Tryd.prog cfg rc md 112 (bodyOf Tryd.prog 12) [1, 1, 1, 0, 0] (retK Tryd.prog cfg 12 (rsOf Tryd.prog 12) h0) = fun t h => J12_0 rc md h0 (t 0) (t 2) (t 3) (t 4) (t 5) (t 6) h := by
  funext t h
  have e : sub (bodyOf Tryd.prog 12) [1, 1, 1, 0, 0] = .loop (sub (bodyOf Tryd.prog 12) [1, 1, 1, 0, 0, 0]) := by kernel_rfl
  unfold cut
  rw [e]
  exact loop_eq (by kernel_rfl) (fun t => (t 0, t 2, t 3, t 4, t 5, t 6)) (fun x : (Value × Value × Value × Value × Value × Value) × Heap => Jr12_0 rc md x.1.1 x.1.2.1 x.1.2.2.1 x.1.2.2.2.1 x.1.2.2.2.2.1 x.1.2.2.2.2.2 x.2) (fun t h => Jr12_0_at rc md t h) (fun e (s : Value × Value × Value × Value × Value × Value) h => Jk12_0 rc md h0 e s.1 s.2.1 s.2.2.1 s.2.2.2.1 s.2.2.2.2.1 s.2.2.2.2.2 h) (fun e t h => Jk12_0_at rc md h0 e t h) t h
noncomputable def F12 (rc : Rec) (md : Md) (a0 : ByteArray) (h0 : Heap) : Option (Value × Heap) :=
  J12_0 rc md h0 (.string a0) (.slice none 0 0) (.int .i64 0) (.int .i64 0) (.slice none 0 0) (.int .i64 0) h0
noncomputable def F12H (rc : Rec) (md : Md) (X0 : T → Heap → Option (Value × Heap)) (a0 : ByteArray) (h0 : Heap) : Option (Value × Heap) :=
  X0 (upd (upd (upd (upd (upd (args0 [(.string a0)]) 2 (.slice none 0 0)) 3 (.int .i64 0)) 4 (.int .i64 0)) 5 (.slice none 0 0)) 6 (.int .i64 0)) h0
theorem F12_h0 (rc : Rec) (md : Md) (a0 : ByteArray) (h0 : Heap) : callStep0 Tryd.prog cfg rc md 12 [(.string a0)] h0 = exec Tryd.prog cfg rc md 112 (bodyOf Tryd.prog 12) (retK Tryd.prog cfg 12 (rsOf Tryd.prog 12) h0) (args0 [(.string a0)]) h0 := callStep0_run (by kernel_rfl) (by kernel_rfl) (by kernel_rfl)
theorem F12_h1 (rc : Rec) (md : Md) (X : Nat → T → Heap → Option (Value × Heap)) (a0 : ByteArray) (h0 : Heap) : execG Tryd.prog cfg X rc md 112 (replS (bodyOf Tryd.prog 12) [([1, 1, 1, 0, 0], 0), ([1, 1, 1, 1], 1)]) (retK Tryd.prog cfg 12 (rsOf Tryd.prog 12) h0) (args0 [(.string a0)]) h0 = F12H rc md (X 0) a0 h0 := by kernel_rfl
theorem F12_h2 (rc : Rec) (md : Md) (a0 : ByteArray) (h0 : Heap) : F12H rc md (fun t h => J12_0 rc md h0 (t 0) (t 2) (t 3) (t 4) (t 5) (t 6) h) a0 h0 = F12 rc md a0 h0 := by unfold F12H F12; kernel_rfl
theorem F12_eq0 (rc : Rec) (md : Md) (a0 : ByteArray) (h0 : Heap) : callStep0 Tryd.prog cfg rc md 12 [(.string a0)] h0 = F12 rc md a0 h0 := by
  rw [F12_h0, exec_holes [([1, 1, 1, 0, 0], 0), ([1, 1, 1, 1], 1)] (by kernel_rfl), F12_h1, show (goX Tryd.prog cfg rc md 112 (bodyOf Tryd.prog 12) [([1, 1, 1, 0, 0], 0), ([1, 1, 1, 1], 1)] (retK Tryd.prog cfg 12 (rsOf Tryd.prog 12) h0)) 0 = _ from J12_0_cut rc md h0]
  exact F12_h2 rc _ a0 h0
theorem F12_eq (rc : Rec) (md : Md) (a0 : ByteArray) (h0 : Heap) : callStep Tryd.prog cfg rc md 12 [(.string a0)] h0 = F12 rc md a0 h0 := (callStep_ne (by kernel_rfl)).trans (F12_eq0 rc md a0 h0)

/-- tombolo/tombololaw04.same -/
noncomputable def Jk13_0 (rc : Rec) (md : Md) (h0 : Heap) (e : Exit) (s0 : Value) (s4 : Value) (s12 : Value) (s13 : Value) (s14 : Value) (h : Heap) : Option (Value × Heap) :=
  match e with
  | .normal =>
    some ((.bool true), h0)
  | .exit j =>
    bif Nat.beq j 0 then
      some ((.bool true), h0)
    else
      none
  | .ret =>
    fin2 h0 s4
  | .goto l => none
  | .panic ps => none
  | .outgrown => none
theorem Jk13_0_at (rc : Rec) (md : Md) (h0 : Heap) (e : Exit) (t : T) (h : Heap) : kAt Tryd.prog cfg rc md 54 (bodyOf Tryd.prog 13) [1, 1, 0, 1, 0] (retK Tryd.prog cfg 13 (rsOf Tryd.prog 13) h0) e t h = Jk13_0 rc md h0 e (t 0) (t 4) (t 12) (t 13) (t 14) h := by cases e <;> kernel_rfl
/-- a round -/
noncomputable def Jr13_0 (rc : Rec) (md : Md) (s0 : Value) (s4 : Value) (s12 : Value) (s13 : Value) (s14 : Value) (h : Heap) : Option (((Value × Value × Value × Value × Value) × Heap) ⊕ (Exit × (Value × Value × Value × Value × Value) × Heap)) :=
  aBin Tryd.prog .lss 3 s14 s13 fun v1 =>
  cBn v1 fun b2 =>
  bif b2 then
    ixSV 3 s12 s14 fun v3 =>
    ldN 3 v3 h fun v4 =>
    let h5 : Heap := h ++ [.own [(.int .i64 0), (.int .i64 0), (.string ⟨#[]⟩)]]
    st md 3 (.pointer (some ⟨h.length, 0, none⟩)) v4 h5 fun h6 =>
    ld1 (.pointer (some ⟨h.length, 0, none⟩)) h6 fun v7 =>
    cIn .i64 v7 fun n8 =>
    bif (n8 == 1) then
      ixSV 1 s0 s14 fun v9 =>
      ld1 v9 h6 fun v10 =>
      ld1 (.pointer (some ⟨h.length, 1, none⟩)) h6 fun v11 =>
      cIn .i64 v11 fun n12 =>
      cl (rc md 19 [v10, (.iface 3 (.int .i64 n12))] h6) fun v13 h14 =>
      cBn v13 fun b15 =>
      bif !b15 then
        some (.inr (.ret, (s0, (.bool false), s12, s13, s14), h14))
      else
        aBin Tryd.prog .add 3 s14 (.int .i64 1) fun v16 =>
        some (.inl ((s0, s4, s12, s13, v16), h14))
    else
      bif (n8 == 2) then
        ixSV 1 s0 s14 fun v17 =>
        ld1 v17 h6 fun v18 =>
        ld1 (.pointer (some ⟨h.length, 2, none⟩)) h6 fun v19 =>
        cl (rc md 19 [v18, (.iface 9 v19)] h6) fun v20 h21 =>
        cBn v20 fun b22 =>
        bif !b22 then
          some (.inr (.ret, (s0, (.bool false), s12, s13, s14), h21))
        else
          aBin Tryd.prog .add 3 s14 (.int .i64 1) fun v23 =>
          some (.inl ((s0, s4, s12, s13, v23), h21))
      else
        ixSV 1 s0 s14 fun v24 =>
        ld1 v24 h6 fun v25 =>
        ld1 (.pointer (some ⟨h.length, 1, none⟩)) h6 fun v26 =>
        cIn .i64 v26 fun n27 =>
        cl (rc md 19 [v25, (.iface 21 (.int .i32 (IntKind.wrap .i32 n27)))] h6) fun v28 h29 =>
        cBn v28 fun b30 =>
        bif !b30 then
          some (.inr (.ret, (s0, (.bool false), s12, s13, s14), h29))
        else
          aBin Tryd.prog .add 3 s14 (.int .i64 1) fun v31 =>
          some (.inl ((s0, s4, s12, s13, v31), h29))
  else
    some (.inr ((.exit 0), (s0, s4, s12, s13, s14), h))
theorem Jr13_0_at (rc : Rec) (md : Md) (t : T) (h : Heap) : exec Tryd.prog cfg rc md 54 (sub (bodyOf Tryd.prog 13) [1, 1, 0, 1, 0, 0]) (rndK (fun t => (t 0, t 4, t 12, t 13, t 14))) t h = Jr13_0 rc md (t 0) (t 4) (t 12) (t 13) (t 14) h := by kernel_rfl
noncomputable def J13_0 (rc : Rec) (md : Md) (h0 : Heap) (s0 : Value) (s4 : Value) (s12 : Value) (s13 : Value) (s14 : Value) (h : Heap) : Option (Value × Heap) :=
  runL (fun x : (Value × Value × Value × Value × Value) × Heap => Jr13_0 rc md x.1.1 x.1.2.1 x.1.2.2.1 x.1.2.2.2.1 x.1.2.2.2.2 x.2) (fun e (s : Value × Value × Value × Value × Value) h => Jk13_0 rc md h0 e s.1 s.2.1 s.2.2.1 s.2.2.2.1 s.2.2.2.2 h) (s0, s4, s12, s13, s14) h
theorem J13_0_step (rc : Rec) (md : Md) (h0 : Heap) (s0 : Value) (s4 : Value) (s12 : Value) (s13 : Value) (s14 : Value) (h : Heap) : J13_0 rc md h0 s0 s4 s12 s13 s14 h = (Jr13_0 rc md s0 s4 s12 s13 s14 h).bind fun x => match x with
    | .inl (s, h) => J13_0 rc md h0 s.1 s.2.1 s.2.2.1 s.2.2.2.1 s.2.2.2.2 h
    | .inr (e, s, h) => Jk13_0 rc md h0 e s.1 s.2.1 s.2.2.1 s.2.2.2.1 s.2.2.2.2 h := by
  unfold J13_0
  rw [runL_eq]
  refine congrArg (Option.bind _) (funext fun x => ?_)
  rcases x with ⟨s, h⟩ | ⟨e, s, h⟩ <;> rfl
theorem J13_0_cut (rc : Rec) (md : Md) (h0 : Heap) : cut Tryd.prog cfg rc md 54 (bodyOf Tryd.prog 13) [1, 1, 0, 1, 0] (retK Tryd.prog cfg 13 (rsOf Tryd.prog 13) h0) = fun t h => J13_0 rc md h0 (t 0) (t 4) (t 12) (t 13) (t 14) h := by
  funext t h
  have e : sub (bodyOf Tryd.prog 13) [1, 1, 0, 1, 0] = .loop (sub (bodyOf Tryd.prog 13) [1, 1, 0, 1, 0, 0]) := by kernel_rfl
  unfold cut
  rw [e]
  exact loop_eq (by kernel_rfl) (fun t => (t 0, t 4, t 12, t 13, t 14)) (fun x : (Value × Value × Value × Value × Value) × Heap => Jr13_0 rc md x.1.1 x.1.2.1 x.1.2.2.1 x.1.2.2.2.1 x.1.2.2.2.2 x.2) (fun t h => Jr13_0_at rc md t h) (fun e (s : Value × Value × Value × Value × Value) h => Jk13_0 rc md h0 e s.1 s.2.1 s.2.2.1 s.2.2.2.1 s.2.2.2.2 h) (fun e t h => Jk13_0_at rc md h0 e t h) t h
noncomputable def F13 (rc : Rec) (md : Md) (a0 : Value) (a1 : Value) (h0 : Heap) : Option (Value × Heap) :=
  lenS a0 fun v1 =>
  cIn .i64 v1 fun n2 =>
  lenS a1 fun v3 =>
  cIn .i64 v3 fun n4 =>
  bif (n2 != n4) then
    some ((.bool false), h0)
  else
    lenS a1 fun v5 =>
    cIn .i64 v5 fun n6 =>
    J13_0 rc md h0 a0 (.bool false) a1 (.int .i64 n6) (.int .i64 0) h0
noncomputable def F13H (rc : Rec) (md : Md) (X0 : T → Heap → Option (Value × Heap)) (a0 : Value) (a1 : Value) (h0 : Heap) : Option (Value × Heap) :=
  lenS a0 fun v1 =>
  cIn .i64 v1 fun n2 =>
  lenS a1 fun v3 =>
  cIn .i64 v3 fun n4 =>
  bif (n2 != n4) then
    some ((.bool false), h0)
  else
    lenS a1 fun v5 =>
    cIn .i64 v5 fun n6 =>
    X0 (upd (upd (upd (upd (upd (upd (upd (upd (upd (args0 [a0, a1]) 4 (.bool false)) 7 a0) 8 (.int .i64 n2)) 9 a1) 10 (.int .i64 n4)) 11 (.bool (n2 != n4))) 12 a1) 13 (.int .i64 n6)) 14 (.int .i64 0)) h0
theorem F13_h0 (rc : Rec) (md : Md) (a0 : Value) (a1 : Value) (h0 : Heap) : callStep0 Tryd.prog cfg rc md 13 [a0, a1] h0 = exec Tryd.prog cfg rc ⟨h0.length, h0.length⟩ 54 (bodyOf Tryd.prog 13) (retK Tryd.prog cfg 13 (rsOf Tryd.prog 13) h0) (args0 [a0, a1]) h0 := callStep0_run (by kernel_rfl) (by kernel_rfl) (by kernel_rfl)
theorem F13_h1 (rc : Rec) (md : Md) (X : Nat → T → Heap → Option (Value × Heap)) (a0 : Value) (a1 : Value) (h0 : Heap) : execG Tryd.prog cfg X rc md 54 (replS (bodyOf Tryd.prog 13) [([1, 1, 0, 1, 0], 0)]) (retK Tryd.prog cfg 13 (rsOf Tryd.prog 13) h0) (args0 [a0, a1]) h0 = F13H rc md (X 0) a0 a1 h0 := by kernel_rfl
theorem F13_h2 (rc : Rec) (md : Md) (a0 : Value) (a1 : Value) (h0 : Heap) : F13H rc md (fun t h => J13_0 rc md h0 (t 0) (t 4) (t 12) (t 13) (t 14) h) a0 a1 h0 = F13 rc md a0 a1 h0 := by unfold F13H F13; kernel_rfl
theorem F13_eq0 (rc : Rec) (md : Md) (a0 : Value) (a1 : Value) (h0 : Heap) : callStep0 Tryd.prog cfg rc md 13 [a0, a1] h0 = F13 rc ⟨h0.length, h0.length⟩ a0 a1 h0 := by
  rw [F13_h0, exec_holes [([1, 1, 0, 1, 0], 0)] (by kernel_rfl), F13_h1, show (goX Tryd.prog cfg rc ⟨h0.length, h0.length⟩ 54 (bodyOf Tryd.prog 13) [([1, 1, 0, 1, 0], 0)] (retK Tryd.prog cfg 13 (rsOf Tryd.prog 13) h0)) 0 = _ from J13_0_cut rc ⟨h0.length, h0.length⟩ h0]
  exact F13_h2 rc _ a0 a1 h0
theorem F13_eq (rc : Rec) (md : Md) (a0 : Value) (a1 : Value) (h0 : Heap) : callStep Tryd.prog cfg rc md 13 [a0, a1] h0 = F13 rc ⟨h0.length, h0.length⟩ a0 a1 h0 := (callStep_ne (by kernel_rfl)).trans (F13_eq0 rc md a0 a1 h0)

/-- tombolo/scan.Class -/
noncomputable def F14 (rc : Rec) (md : Md) (a0 : Int) (h0 : Heap) : Option (Value × Heap) :=
  (bif wantV (.bool (a0 == 32)) false then
  some ((.int .i32 a0), h0)
  else some (undef, h0)).bind fun p1 =>
  (bif wantV (.bool (a0 == 32)) false then
  aBin Tryd.prog .eql 21 p1.1 (.int .i32 9) fun v2 =>
  some (v2, p1.2)
  else some (undef, p1.2)).bind fun p3 =>
  cBn (bif (a0 == 32) then (.bool true) else p3.1) fun b4 =>
  (bif wantV (.bool b4) false then
  some ((.int .i32 a0), p3.2)
  else some (undef, p3.2)).bind fun p5 =>
  (bif wantV (.bool b4) false then
  aBin Tryd.prog .eql 21 p5.1 (.int .i32 10) fun v6 =>
  some (v6, p5.2)
  else some (undef, p5.2)).bind fun p7 =>
  cBn (bif b4 then (.bool true) else p7.1) fun b8 =>
  bif b8 then
    some ((.int .i64 1), h0)
  else
    (bif wantV (.bool (decide (a0 ≥ 48))) true then
    some ((.int .i32 a0), p7.2)
    else some (undef, p7.2)).bind fun p9 =>
    (bif wantV (.bool (decide (a0 ≥ 48))) true then
    aBin Tryd.prog .leq 21 p9.1 (.int .i32 57) fun v10 =>
    some (v10, p9.2)
    else some (undef, p9.2)).bind fun p11 =>
    cBn (bif (decide (a0 ≥ 48)) then p11.1 else (.bool false)) fun b12 =>
    bif b12 then
      some ((.int .i64 2), h0)
    else
      (bif wantV (.bool (decide (a0 ≥ 97))) true then
      some ((.int .i32 a0), p11.2)
      else some (undef, p11.2)).bind fun p13 =>
      (bif wantV (.bool (decide (a0 ≥ 97))) true then
      aBin Tryd.prog .leq 21 p13.1 (.int .i32 122) fun v14 =>
      some (v14, p13.2)
      else some (undef, p13.2)).bind fun p15 =>
      cBn (bif (decide (a0 ≥ 97)) then p15.1 else (.bool false)) fun b16 =>
      (bif wantV (.bool b16) false then
      some ((.int .i32 a0), p15.2)
      else some (undef, p15.2)).bind fun p17 =>
      (bif wantV (.bool b16) false then
      aBin Tryd.prog .geq 21 p17.1 (.int .i32 65) fun v18 =>
      some (v18, p17.2)
      else some (undef, p17.2)).bind fun p19 =>
      (bif wantV (.bool b16) false then
      some (p19.1, p19.2)
      else some (undef, p19.2)).bind fun p20 =>
      (bif wantV p20.1 true then
      some ((.int .i32 a0), p20.2)
      else some (undef, p20.2)).bind fun p21 =>
      (bif wantV p20.1 true then
      aBin Tryd.prog .leq 21 p21.1 (.int .i32 90) fun v22 =>
      some (v22, p21.2)
      else some (undef, p21.2)).bind fun p23 =>
      (bif wantV (.bool b16) false then
      cBn p20.1 fun q24 =>
      cBn (bif q24 then p23.1 else (.bool false)) fun b25 =>
      some ((.bool b25), p23.2)
      else some (undef, p23.2)).bind fun p26 =>
      cBn (bif b16 then (.bool true) else p26.1) fun b27 =>
      (bif wantV (.bool b27) false then
      some ((.int .i32 a0), p26.2)
      else some (undef, p26.2)).bind fun p28 =>
      (bif wantV (.bool b27) false then
      aBin Tryd.prog .eql 21 p28.1 (.int .i32 95) fun v29 =>
      some (v29, p28.2)
      else some (undef, p28.2)).bind fun p30 =>
      cBn (bif b27 then (.bool true) else p30.1) fun b31 =>
      (bif wantV (.bool b31) false then
      some ((.int .i32 a0), p30.2)
      else some (undef, p30.2)).bind fun p32 =>
      (bif wantV (.bool b31) false then
      aBin Tryd.prog .geq 21 p32.1 (.int .i32 192) fun v33 =>
      some (v33, p32.2)
      else some (undef, p32.2)).bind fun p34 =>
      (bif wantV (.bool b31) false then
      some (p34.1, p34.2)
      else some (undef, p34.2)).bind fun p35 =>
      (bif wantV p35.1 true then
      some ((.int .i32 a0), p35.2)
      else some (undef, p35.2)).bind fun p36 =>
      (bif wantV p35.1 true then
      aBin Tryd.prog .neq 21 p36.1 (.int .i32 65533) fun v37 =>
      some (v37, p36.2)
      else some (undef, p36.2)).bind fun p38 =>
      (bif wantV (.bool b31) false then
      cBn p35.1 fun q39 =>
      cBn (bif q39 then p38.1 else (.bool false)) fun b40 =>
      some ((.bool b40), p38.2)
      else some (undef, p38.2)).bind fun p41 =>
      cBn (bif b31 then (.bool true) else p41.1) fun b42 =>
      bif b42 then
        some ((.int .i64 3), h0)
      else
        (bif wantV (.bool (decide (a0 > 32))) true then
        some ((.int .i32 a0), p41.2)
        else some (undef, p41.2)).bind fun p43 =>
        (bif wantV (.bool (decide (a0 > 32))) true then
        aBin Tryd.prog .leq 21 p43.1 (.int .i32 126) fun v44 =>
        some (v44, p43.2)
        else some (undef, p43.2)).bind fun p45 =>
        cBn (bif (decide (a0 > 32)) then p45.1 else (.bool false)) fun b46 =>
        bif b46 then
          some ((.int .i64 4), h0)
        else
          some ((.int .i64 0), h0)
theorem F14_eq0 (rc : Rec) (md : Md) (a0 : Int) (h0 : Heap) : callStep0 Tryd.prog cfg rc md 14 [(.int .i32 a0)] h0 = F14 rc ⟨h0.length, h0.length⟩ a0 h0 := by kernel_rfl
theorem F14_eq (rc : Rec) (md : Md) (a0 : Int) (h0 : Heap) : callStep Tryd.prog cfg rc md 14 [(.int .i32 a0)] h0 = alone h0 (F14 rc ⟨0, 0⟩ a0 []) := by
  have e : callStep Tryd.prog cfg rc md 14 [(.int .i32 a0)] h0 = alone h0 (callStep0 Tryd.prog cfg rc ⟨0, 0⟩ 14 [(.int .i32 a0)] []) := by kernel_rfl
  rw [e, F14_eq0]; rfl

/-- tombolo/tomboloref04.Class -/
noncomputable def F15 (rc : Rec) (md : Md) (a0 : Int) (h0 : Heap) : Option (Value × Heap) :=
  (bif wantV (.bool (a0 == 32)) false then
  some ((.int .i64 a0), h0)
  else some (undef, h0)).bind fun p1 =>
  (bif wantV (.bool (a0 == 32)) false then
  aBin Tryd.prog .eql 3 p1.1 (.int .i64 9) fun v2 =>
  some (v2, p1.2)
  else some (undef, p1.2)).bind fun p3 =>
  cBn (bif (a0 == 32) then (.bool true) else p3.1) fun b4 =>
  (bif wantV (.bool b4) false then
  some ((.int .i64 a0), p3.2)
  else some (undef, p3.2)).bind fun p5 =>
  (bif wantV (.bool b4) false then
  aBin Tryd.prog .eql 3 p5.1 (.int .i64 10) fun v6 =>
  some (v6, p5.2)
  else some (undef, p5.2)).bind fun p7 =>
  cBn (bif b4 then (.bool true) else p7.1) fun b8 =>
  bif b8 then
    some ((.int .i64 1), h0)
  else
    (bif wantV (.bool (decide (a0 ≥ 48))) true then
    some ((.int .i64 a0), p7.2)
    else some (undef, p7.2)).bind fun p9 =>
    (bif wantV (.bool (decide (a0 ≥ 48))) true then
    aBin Tryd.prog .leq 3 p9.1 (.int .i64 57) fun v10 =>
    some (v10, p9.2)
    else some (undef, p9.2)).bind fun p11 =>
    cBn (bif (decide (a0 ≥ 48)) then p11.1 else (.bool false)) fun b12 =>
    bif b12 then
      some ((.int .i64 2), h0)
    else
      (bif wantV (.bool (decide (a0 ≥ 97))) true then
      some ((.int .i64 a0), p11.2)
      else some (undef, p11.2)).bind fun p13 =>
      (bif wantV (.bool (decide (a0 ≥ 97))) true then
      aBin Tryd.prog .leq 3 p13.1 (.int .i64 122) fun v14 =>
      some (v14, p13.2)
      else some (undef, p13.2)).bind fun p15 =>
      cBn (bif (decide (a0 ≥ 97)) then p15.1 else (.bool false)) fun b16 =>
      (bif wantV (.bool b16) false then
      some ((.int .i64 a0), p15.2)
      else some (undef, p15.2)).bind fun p17 =>
      (bif wantV (.bool b16) false then
      aBin Tryd.prog .geq 3 p17.1 (.int .i64 65) fun v18 =>
      some (v18, p17.2)
      else some (undef, p17.2)).bind fun p19 =>
      (bif wantV (.bool b16) false then
      some (p19.1, p19.2)
      else some (undef, p19.2)).bind fun p20 =>
      (bif wantV p20.1 true then
      some ((.int .i64 a0), p20.2)
      else some (undef, p20.2)).bind fun p21 =>
      (bif wantV p20.1 true then
      aBin Tryd.prog .leq 3 p21.1 (.int .i64 90) fun v22 =>
      some (v22, p21.2)
      else some (undef, p21.2)).bind fun p23 =>
      (bif wantV (.bool b16) false then
      cBn p20.1 fun q24 =>
      cBn (bif q24 then p23.1 else (.bool false)) fun b25 =>
      some ((.bool b25), p23.2)
      else some (undef, p23.2)).bind fun p26 =>
      cBn (bif b16 then (.bool true) else p26.1) fun b27 =>
      (bif wantV (.bool b27) false then
      some ((.int .i64 a0), p26.2)
      else some (undef, p26.2)).bind fun p28 =>
      (bif wantV (.bool b27) false then
      aBin Tryd.prog .eql 3 p28.1 (.int .i64 95) fun v29 =>
      some (v29, p28.2)
      else some (undef, p28.2)).bind fun p30 =>
      cBn (bif b27 then (.bool true) else p30.1) fun b31 =>
      (bif wantV (.bool b31) false then
      some ((.int .i64 a0), p30.2)
      else some (undef, p30.2)).bind fun p32 =>
      (bif wantV (.bool b31) false then
      aBin Tryd.prog .geq 3 p32.1 (.int .i64 192) fun v33 =>
      some (v33, p32.2)
      else some (undef, p32.2)).bind fun p34 =>
      (bif wantV (.bool b31) false then
      some (p34.1, p34.2)
      else some (undef, p34.2)).bind fun p35 =>
      (bif wantV p35.1 true then
      some ((.int .i64 a0), p35.2)
      else some (undef, p35.2)).bind fun p36 =>
      (bif wantV p35.1 true then
      aBin Tryd.prog .neq 3 p36.1 (.int .i64 65533) fun v37 =>
      some (v37, p36.2)
      else some (undef, p36.2)).bind fun p38 =>
      (bif wantV (.bool b31) false then
      cBn p35.1 fun q39 =>
      cBn (bif q39 then p38.1 else (.bool false)) fun b40 =>
      some ((.bool b40), p38.2)
      else some (undef, p38.2)).bind fun p41 =>
      cBn (bif b31 then (.bool true) else p41.1) fun b42 =>
      bif b42 then
        some ((.int .i64 3), h0)
      else
        (bif wantV (.bool (decide (a0 ≥ 33))) true then
        some ((.int .i64 a0), p41.2)
        else some (undef, p41.2)).bind fun p43 =>
        (bif wantV (.bool (decide (a0 ≥ 33))) true then
        aBin Tryd.prog .leq 3 p43.1 (.int .i64 126) fun v44 =>
        some (v44, p43.2)
        else some (undef, p43.2)).bind fun p45 =>
        cBn (bif (decide (a0 ≥ 33)) then p45.1 else (.bool false)) fun b46 =>
        bif b46 then
          some ((.int .i64 4), h0)
        else
          some ((.int .i64 0), h0)
theorem F15_eq0 (rc : Rec) (md : Md) (a0 : Int) (h0 : Heap) : callStep0 Tryd.prog cfg rc md 15 [(.int .i64 a0)] h0 = F15 rc ⟨h0.length, h0.length⟩ a0 h0 := by kernel_rfl
theorem F15_eq (rc : Rec) (md : Md) (a0 : Int) (h0 : Heap) : callStep Tryd.prog cfg rc md 15 [(.int .i64 a0)] h0 = alone h0 (F15 rc ⟨0, 0⟩ a0 []) := by
  have e : callStep Tryd.prog cfg rc md 15 [(.int .i64 a0)] h0 = alone h0 (callStep0 Tryd.prog cfg rc ⟨0, 0⟩ 15 [(.int .i64 a0)] []) := by kernel_rfl
  rw [e, F15_eq0]; rfl

/-- tombolo/scan.Count -/
noncomputable def J16_1 (rc : Rec) (md : Md) (h0 : Heap) (s2 : Value) (s3 : Value) (h : Heap) : Option (Value × Heap) :=
  fin2 h0 (.tuple #[s2, s3])
theorem J16_1_at (rc : Rec) (md : Md) (h0 : Heap) (t : T) (h : Heap) : cut Tryd.prog cfg rc md 20 (bodyOf Tryd.prog 16) [1, 1] (retK Tryd.prog cfg 16 (rsOf Tryd.prog 16) h0) t h = J16_1 rc md h0 (t 2) (t 3) h := by kernel_rfl
theorem J16_1_cut (rc : Rec) (md : Md) (h0 : Heap) : cut Tryd.prog cfg rc md 20 (bodyOf Tryd.prog 16) [1, 1] (retK Tryd.prog cfg 16 (rsOf Tryd.prog 16) h0) = fun t h => J16_1 rc md h0 (t 2) (t 3) h := funext fun t => funext fun h => J16_1_at rc md h0 t h
noncomputable def Jk16_0 (rc : Rec) (md : Md) (h0 : Heap) (e : Exit) (s2 : Value) (s3 : Value) (s7 : Value) (h : Heap) : Option (Value × Heap) :=
  match e with
  | .normal =>
    J16_1 rc md h0 s2 s3 h
  | .exit j =>
    bif Nat.beq j 0 then
      J16_1 rc md h0 s2 s3 h
    else
      none
  | .ret =>
    fin2 h0 (.tuple #[s2, s3])
  | .goto l => none
  | .panic ps => none
  | .outgrown => none
noncomputable def Jk16_0H (rc : Rec) (md : Md) (h0 : Heap) (X1 : T → Heap → Option (Value × Heap)) (e : Exit) (t : T) (h : Heap) : Option (Value × Heap) :=
  match e with
  | .normal =>
    X1 t h
  | .exit j =>
    bif Nat.beq j 0 then
      X1 t h
    else
      none
  | .ret =>
    fin2 h0 (.tuple #[(t 2), (t 3)])
  | .goto l => none
  | .panic ps => none
  | .outgrown => none
theorem Jk16_0_h1 (rc : Rec) (md : Md) (h0 : Heap) (X : Nat → T → Heap → Option (Value × Heap)) (e : Exit) (t : T) (h : Heap) : kAtG Tryd.prog cfg X rc md 20 (replS (bodyOf Tryd.prog 16) [([1, 1], 1)]) [1, 0, 1, 0] (retK Tryd.prog cfg 16 (rsOf Tryd.prog 16) h0) e t h = Jk16_0H rc md h0 (X 1) e t h := by cases e <;> kernel_rfl
theorem Jk16_0_h2 (rc : Rec) (md : Md) (h0 : Heap) (e : Exit) (t : T) (h : Heap) : Jk16_0H rc md h0 (fun t h => J16_1 rc md h0 (t 2) (t 3) h) e t h = Jk16_0 rc md h0 e (t 2) (t 3) (t 7) h := by cases e <;> (unfold Jk16_0H Jk16_0; kernel_rfl)
theorem Jk16_0_at (rc : Rec) (md : Md) (h0 : Heap) (e : Exit) (t : T) (h : Heap) : kAt Tryd.prog cfg rc md 20 (bodyOf Tryd.prog 16) [1, 0, 1, 0] (retK Tryd.prog cfg 16 (rsOf Tryd.prog 16) h0) e t h = Jk16_0 rc md h0 e (t 2) (t 3) (t 7) h := by
  rw [kAt_holes [([1, 1], 1)] [1, 0, 1, 0] (by kernel_rfl), Jk16_0_h1, show (goX Tryd.prog cfg rc md 20 (bodyOf Tryd.prog 16) [([1, 1], 1)] (retK Tryd.prog cfg 16 (rsOf Tryd.prog 16) h0)) 1 = _ from J16_1_cut rc md h0]
  exact Jk16_0_h2 rc md h0 e t h
/-- a round -/
noncomputable def Jr16_0 (rc : Rec) (md : Md) (s2 : Value) (s3 : Value) (s7 : Value) (h : Heap) : Option (((Value × Value × Value) × Heap) ⊕ (Exit × (Value × Value × Value) × Heap)) :=
  aNext md s7 true h fun v1 h2 =>
  exT v1 0 fun v3 =>
  cBn v3 fun b4 =>
  bif b4 then
    exT v1 2 fun v5 =>
    cIn .i32 v5 fun n6 =>
    aBin Tryd.prog .add 3 s2 (.int .i64 1) fun v7 =>
    cl (rc md 14 [(.int .i32 n6)] h2) fun v8 h9 =>
    cIn .i64 v8 fun n10 =>
    bif (n10 == 0) then
      aBin Tryd.prog .add 3 s3 (.int .i64 1) fun v11 =>
      some (.inl ((v7, v11, s7), h9))
    else
      some (.inl ((v7, s3, s7), h9))
  else
    some (.inr ((.exit 0), (s2, s3, s7), h2))
theorem Jr16_0_at (rc : Rec) (md : Md) (t : T) (h : Heap) : exec Tryd.prog cfg rc md 20 (sub (bodyOf Tryd.prog 16) [1, 0, 1, 0, 0]) (rndK (fun t => (t 2, t 3, t 7))) t h = Jr16_0 rc md (t 2) (t 3) (t 7) h := by kernel_rfl
noncomputable def J16_0 (rc : Rec) (md : Md) (h0 : Heap) (s2 : Value) (s3 : Value) (s7 : Value) (h : Heap) : Option (Value × Heap) :=
  runL (fun x : (Value × Value × Value) × Heap => Jr16_0 rc md x.1.1 x.1.2.1 x.1.2.2 x.2) (fun e (s : Value × Value × Value) h => Jk16_0 rc md h0 e s.1 s.2.1 s.2.2 h) (s2, s3, s7) h
theorem J16_0_step (rc : Rec) (md : Md) (h0 : Heap) (s2 : Value) (s3 : Value) (s7 : Value) (h : Heap) : J16_0 rc md h0 s2 s3 s7 h = (Jr16_0 rc md s2 s3 s7 h).bind fun x => match x with
    | .inl (s, h) => J16_0 rc md h0 s.1 s.2.1 s.2.2 h
    | .inr (e, s, h) => Jk16_0 rc md h0 e s.1 s.2.1 s.2.2 h := by
  unfold J16_0
  rw [runL_eq]
  refine congrArg (Option.bind _) (funext fun x => ?_)
  rcases x with ⟨s, h⟩ | ⟨e, s, h⟩ <;> rfl
theorem J16_0_cut (rc : Rec) (md : Md) (h0 : Heap) : cut Tryd.prog cfg rc md 20 (bodyOf Tryd.prog 16) [1, 0, 1, 0] (retK Tryd.prog cfg 16 (rsOf Tryd.prog 16) h0) = fun t h => J16_0 rc md h0 (t 2) (t 3) (t 7) h := by
  funext t h
  have e : sub (bodyOf Tryd.prog 16) [1, 0, 1, 0] = .loop (sub (bodyOf Tryd.prog 16) [1, 0, 1, 0, 0]) := by kernel_rfl
  unfold cut
  rw [e]
  exact loop_eq (by kernel_rfl) (fun t => (t 2, t 3, t 7)) (fun x : (Value × Value × Value) × Heap => Jr16_0 rc md x.1.1 x.1.2.1 x.1.2.2 x.2) (fun t h => Jr16_0_at rc md t h) (fun e (s : Value × Value × Value) h => Jk16_0 rc md h0 e s.1 s.2.1 s.2.2 h) (fun e t h => Jk16_0_at rc md h0 e t h) t h
noncomputable def F16 (rc : Rec) (md : Md) (a0 : ByteArray) (h0 : Heap) : Option (Value × Heap) :=
  aRange Tryd.prog 9 (.string a0) h0 fun v1 h2 =>
  J16_0 rc md h0 (.int .i64 0) (.int .i64 0) v1 h2
noncomputable def F16H (rc : Rec) (md : Md) (X0 : T → Heap → Option (Value × Heap)) (a0 : ByteArray) (h0 : Heap) : Option (Value × Heap) :=
  aRange Tryd.prog 9 (.string a0) h0 fun v1 h2 =>
  X0 (upd (upd (upd (upd (args0 [(.string a0)]) 2 (.int .i64 0)) 3 (.int .i64 0)) 6 (.string a0)) 7 v1) h2
theorem F16_h0 (rc : Rec) (md : Md) (a0 : ByteArray) (h0 : Heap) : callStep0 Tryd.prog cfg rc md 16 [(.string a0)] h0 = exec Tryd.prog cfg rc ⟨h0.length, h0.length⟩ 20 (bodyOf Tryd.prog 16) (retK Tryd.prog cfg 16 (rsOf Tryd.prog 16) h0) (args0 [(.string a0)]) h0 := callStep0_run (by kernel_rfl) (by kernel_rfl) (by kernel_rfl)
theorem F16_h1 (rc : Rec) (md : Md) (X : Nat → T → Heap → Option (Value × Heap)) (a0 : ByteArray) (h0 : Heap) : execG Tryd.prog cfg X rc md 20 (replS (bodyOf Tryd.prog 16) [([1, 0, 1, 0], 0), ([1, 1], 1)]) (retK Tryd.prog cfg 16 (rsOf Tryd.prog 16) h0) (args0 [(.string a0)]) h0 = F16H rc md (X 0) a0 h0 := by kernel_rfl
theorem F16_h2 (rc : Rec) (md : Md) (a0 : ByteArray) (h0 : Heap) : F16H rc md (fun t h => J16_0 rc md h0 (t 2) (t 3) (t 7) h) a0 h0 = F16 rc md a0 h0 := by unfold F16H F16; kernel_rfl
theorem F16_eq0 (rc : Rec) (md : Md) (a0 : ByteArray) (h0 : Heap) : callStep0 Tryd.prog cfg rc md 16 [(.string a0)] h0 = F16 rc ⟨h0.length, h0.length⟩ a0 h0 := by
  rw [F16_h0, exec_holes [([1, 0, 1, 0], 0), ([1, 1], 1)] (by kernel_rfl), F16_h1, show (goX Tryd.prog cfg rc ⟨h0.length, h0.length⟩ 20 (bodyOf Tryd.prog 16) [([1, 0, 1, 0], 0), ([1, 1], 1)] (retK Tryd.prog cfg 16 (rsOf Tryd.prog 16) h0)) 0 = _ from J16_0_cut rc ⟨h0.length, h0.length⟩ h0]
  exact F16_h2 rc _ a0 h0
theorem F16_eq (rc : Rec) (md : Md) (a0 : ByteArray) (h0 : Heap) : callStep Tryd.prog cfg rc md 16 [(.string a0)] h0 = alone h0 (F16 rc ⟨0, 0⟩ a0 []) := by
  have e : callStep Tryd.prog cfg rc md 16 [(.string a0)] h0 = alone h0 (callStep0 Tryd.prog cfg rc ⟨0, 0⟩ 16 [(.string a0)] []) := by kernel_rfl
  rw [e, F16_eq0]; rfl

/-- tombolo/tomboloref04.Count -/
noncomputable def J17_1 (rc : Rec) (md : Md) (h0 : Heap) (s4 : Value) (s5 : Value) (h : Heap) : Option (Value × Heap) :=
  fin2 h0 (.tuple #[s4, s5])
theorem J17_1_at (rc : Rec) (md : Md) (h0 : Heap) (t : T) (h : Heap) : cut Tryd.prog cfg rc md 31 (bodyOf Tryd.prog 17) [1, 1, 1, 1] (retK Tryd.prog cfg 17 (rsOf Tryd.prog 17) h0) t h = J17_1 rc md h0 (t 4) (t 5) h := by kernel_rfl
theorem J17_1_cut (rc : Rec) (md : Md) (h0 : Heap) : cut Tryd.prog cfg rc md 31 (bodyOf Tryd.prog 17) [1, 1, 1, 1] (retK Tryd.prog cfg 17 (rsOf Tryd.prog 17) h0) = fun t h => J17_1 rc md h0 (t 4) (t 5) h := funext fun t => funext fun h => J17_1_at rc md h0 t h
noncomputable def Jk17_0 (rc : Rec) (md : Md) (h0 : Heap) (e : Exit) (s0 : Value) (s2 : Value) (s3 : Value) (s4 : Value) (s5 : Value) (s6 : Value) (h : Heap) : Option (Value × Heap) :=
  match e with
  | .normal =>
    J17_1 rc md h0 s4 s5 h
  | .exit j =>
    bif Nat.beq j 0 then
      J17_1 rc md h0 s4 s5 h
    else
      none
  | .ret =>
    fin2 h0 (.tuple #[s2, s3])
  | .goto l => none
  | .panic ps => none
  | .outgrown => none
noncomputable def Jk17_0H (rc : Rec) (md : Md) (h0 : Heap) (X1 : T → Heap → Option (Value × Heap)) (e : Exit) (t : T) (h : Heap) : Option (Value × Heap) :=
  match e with
  | .normal =>
    X1 t h
  | .exit j =>
    bif Nat.beq j 0 then
      X1 t h
    else
      none
  | .ret =>
    fin2 h0 (.tuple #[(t 2), (t 3)])
  | .goto l => none
  | .panic ps => none
  | .outgrown => none
theorem Jk17_0_h1 (rc : Rec) (md : Md) (h0 : Heap) (X : Nat → T → Heap → Option (Value × Heap)) (e : Exit) (t : T) (h : Heap) : kAtG Tryd.prog cfg X rc md 31 (replS (bodyOf Tryd.prog 17) [([1, 1, 1, 1], 1)]) [1, 1, 1, 0, 0] (retK Tryd.prog cfg 17 (rsOf Tryd.prog 17) h0) e t h = Jk17_0H rc md h0 (X 1) e t h := by cases e <;> kernel_rfl
theorem Jk17_0_h2 (rc : Rec) (md : Md) (h0 : Heap) (e : Exit) (t : T) (h : Heap) : Jk17_0H rc md h0 (fun t h => J17_1 rc md h0 (t 4) (t 5) h) e t h = Jk17_0 rc md h0 e (t 0) (t 2) (t 3) (t 4) (t 5) (t 6) h := by cases e <;> (unfold Jk17_0H Jk17_0; kernel_rfl)
theorem Jk17_0_at (rc : Rec) (md : Md) (h0 : Heap) (e : Exit) (t : T) (h : Heap) : kAt Tryd.prog cfg rc md 31 (bodyOf Tryd.prog 17) [1, 1, 1, 0, 0] (retK Tryd.prog cfg 17 (rsOf Tryd.prog 17) h0) e t h = Jk17_0 rc md h0 e (t 0) (t 2) (t 3) (t 4) (t 5) (t 6) h := by
  rw [kAt_holes [([1, 1, 1, 1], 1)] [1, 1, 1, 0, 0] (by kernel_rfl), Jk17_0_h1, show (goX Tryd.prog cfg rc md 31 (bodyOf Tryd.prog 17) [([1, 1, 1, 1], 1)] (retK Tryd.prog cfg 17 (rsOf Tryd.prog 17) h0)) 1 = _ from J17_1_cut rc md h0]
  exact Jk17_0_h2 rc md h0 e t h
noncomputable def J17_0b0 (rc : Rec) (md : Md) (s0 : Value) (s2 : Value) (s3 : Value) (s4 : Value) (s5 : Value) (s6 : Value) (s8 : Value) (h : Heap) : Option (((Value × Value × Value × Value × Value × Value) × Heap) ⊕ (Exit × (Value × Value × Value × Value × Value × Value) × Heap)) :=
  aBin Tryd.prog .add 3 s6 s8 fun v1 =>
  some (.inl ((s0, s2, s3, s4, s5, v1), h))
theorem J17_0b0_at (rc : Rec) (md : Md) (t : T) (h : Heap) : cut Tryd.prog cfg rc md 31 (sub (bodyOf Tryd.prog 17) [1, 1, 1, 0, 0, 0]) [1, 0, 1, 1, 1] (rndK (fun t => (t 0, t 2, t 3, t 4, t 5, t 6))) t h = J17_0b0 rc md (t 0) (t 2) (t 3) (t 4) (t 5) (t 6) (t 8) h := by kernel_rfl
theorem J17_0b0_cut (rc : Rec) (md : Md) : cut Tryd.prog cfg rc md 31 (sub (bodyOf Tryd.prog 17) [1, 1, 1, 0, 0, 0]) [1, 0, 1, 1, 1] (rndK (fun t => (t 0, t 2, t 3, t 4, t 5, t 6))) = fun t h => J17_0b0 rc md (t 0) (t 2) (t 3) (t 4) (t 5) (t 6) (t 8) h := funext fun t => funext fun h => J17_0b0_at rc md t h
/-- a round -/
noncomputable def Jr17_0 (rc : Rec) (md : Md) (s0 : Value) (s2 : Value) (s3 : Value) (s4 : Value) (s5 : Value) (s6 : Value) (h : Heap) : Option (((Value × Value × Value × Value × Value × Value) × Heap) ⊕ (Exit × (Value × Value × Value × Value × Value × Value) × Heap)) :=
  lenT s0 fun v1 =>
  cIn .i64 v1 fun n2 =>
  aBin Tryd.prog .lss 3 s6 (.int .i64 n2) fun v3 =>
  cBn v3 fun b4 =>
  bif b4 then
    cl (rc md 22 [s0, s6] h) fun v5 h6 =>
    exT v5 0 fun v7 =>
    cIn .i64 v7 fun n8 =>
    exT v5 1 fun v9 =>
    cIn .i64 v9 fun n10 =>
    aBin Tryd.prog .add 3 s4 (.int .i64 1) fun v11 =>
    cl (rc md 15 [(.int .i64 n8)] h6) fun v12 h13 =>
    cIn .i64 v12 fun n14 =>
    bif (n14 == 0) then
      aBin Tryd.prog .add 3 s5 (.int .i64 1) fun v15 =>
      J17_0b0 rc md s0 s2 s3 v11 v15 s6 (.int .i64 n10) h13
    else
      J17_0b0 rc md s0 s2 s3 v11 s5 s6 (.int .i64 n10) h13
  else
    some (.inr ((.exit 0), (s0, s2, s3, s4, s5, s6), h))
noncomputable def Jr17_0H (rc : Rec) (md : Md) (X0 : T → Heap → Option (((Value × Value × Value × Value × Value × Value) × Heap) ⊕ (Exit × (Value × Value × Value × Value × Value × Value) × Heap))) (t : T) (h : Heap) : Option (((Value × Value × Value × Value × Value × Value) × Heap) ⊕ (Exit × (Value × Value × Value × Value × Value × Value) × Heap)) :=
  lenT (t 0) fun v1 =>
  cIn .i64 v1 fun n2 =>
  aBin Tryd.prog .lss 3 (t 6) (.int .i64 n2) fun v3 =>
  cBn v3 fun b4 =>
  bif b4 then
    cl (rc md 22 [(t 0), (t 6)] h) fun v5 h6 =>
    exT v5 0 fun v7 =>
    cIn .i64 v7 fun n8 =>
    exT v5 1 fun v9 =>
    cIn .i64 v9 fun n10 =>
    aBin Tryd.prog .add 3 (t 4) (.int .i64 1) fun v11 =>
    cl (rc md 15 [(.int .i64 n8)] h6) fun v12 h13 =>
    cIn .i64 v12 fun n14 =>
    bif (n14 == 0) then
      aBin Tryd.prog .add 3 (t 5) (.int .i64 1) fun v15 =>
      X0 (upd (upd (upd (upd (upd (upd (upd (upd (upd (upd (upd (upd (upd (upd (upd (upd (upd (upd (upd (upd (upd t 9 (t 6)) 10 (t 0)) 11 (.int .i64 n2)) 12 v3) 14 (t 0)) 15 (t 6)) 16 v5) 13 v5) 17 (.int .i64 n8)) 18 (.int .i64 n10)) 7 (.int .i64 n8)) 8 (.int .i64 n10)) 19 (t 4)) 20 v11) 4 v11) 21 (.int .i64 n8)) 22 (.int .i64 n14)) 23 (.bool (n14 == 0))) 24 (t 5)) 25 v15) 5 v15) h13
    else
      X0 (upd (upd (upd (upd (upd (upd (upd (upd (upd (upd (upd (upd (upd (upd (upd (upd (upd (upd t 9 (t 6)) 10 (t 0)) 11 (.int .i64 n2)) 12 v3) 14 (t 0)) 15 (t 6)) 16 v5) 13 v5) 17 (.int .i64 n8)) 18 (.int .i64 n10)) 7 (.int .i64 n8)) 8 (.int .i64 n10)) 19 (t 4)) 20 v11) 4 v11) 21 (.int .i64 n8)) 22 (.int .i64 n14)) 23 (.bool (n14 == 0))) h13
  else
    some (.inr ((.exit 0), ((t 0), (t 2), (t 3), (t 4), (t 5), (t 6)), h))
theorem Jr17_0_h1 (rc : Rec) (md : Md) (X : Nat → T → Heap → Option (((Value × Value × Value × Value × Value × Value) × Heap) ⊕ (Exit × (Value × Value × Value × Value × Value × Value) × Heap))) (t : T) (h : Heap) : execG Tryd.prog cfg X rc md 31 (replS (sub (bodyOf Tryd.prog 17) [1, 1, 1, 0, 0, 0]) [([1, 0, 1, 1, 1], 0)]) (rndK (fun t => (t 0, t 2, t 3, t 4, t 5, t 6))) t h = Jr17_0H rc md (X 0) t h := by kernel_rfl
theorem Jr17_0_h2 (rc : Rec) (md : Md) (t : T) (h : Heap) : Jr17_0H rc md (fun t h => J17_0b0 rc md (t 0) (t 2) (t 3) (t 4) (t 5) (t 6) (t 8) h) t h = Jr17_0 rc md (t 0) (t 2) (t 3) (t 4) (t 5) (t 6) h := by unfold Jr17_0H Jr17_0; kernel_rfl
theorem Jr17_0_at (rc : Rec) (md : Md) (t : T) (h : Heap) : exec Tryd.prog cfg rc md 31 (sub (bodyOf Tryd.prog 17) [1, 1, 1, 0, 0, 0]) (rndK (fun t => (t 0, t 2, t 3, t 4, t 5, t 6))) t h = Jr17_0 rc md (t 0) (t 2) (t 3) (t 4) (t 5) (t 6) h := by
  rw [exec_holes [([1, 0, 1, 1, 1], 0)] (by kernel_rfl), Jr17_0_h1, show (goX Tryd.prog cfg rc md 31 (sub (bodyOf Tryd.prog 17) [1, 1, 1, 0, 0, 0]) [([1, 0, 1, 1, 1], 0)] (rndK (fun t => (t 0, t 2, t 3, t 4, t 5, t 6)))) 0 = _ from J17_0b0_cut rc md]
  exact Jr17_0_h2 rc md t h
noncomputable def J17_0 (rc : Rec) (md : Md) (h0 : Heap) (s0 : Value) (s2 : Value) (s3 : Value) (s4 : Value) (s5 : Value) (s6 : Value) (h : Heap) : Option (Value × Heap) :=
  runL (fun x : (Value × Value × Value × Value × Value × Value) × Heap => Jr17_0 rc md x.1.1 x.1.2.1 x.1.2.2.1 x.1.2.2.2.1 x.1.2.2.2.2.1 x.1.2.2.2.2.2 x.2) (fun e (s : Value × Value × Value × Value × Value × Value) h => Jk17_0 rc md h0 e s.1 s.2.1 s.2.2.1 s.2.2.2.1 s.2.2.2.2.1 s.2.2.2.2.2 h) (s0, s2, s3, s4, s5, s6) h
theorem J17_0_step (rc : Rec) (md : Md) (h0 : Heap) (s0 : Value) (s2 : Value) (s3 : Value) (s4 : Value) (s5 : Value) (s6 : Value) (h : Heap) : J17_0 rc md h0 s0 s2 s3 s4 s5 s6 h = (Jr17_0 rc md s0 s2 s3 s4 s5 s6 h).bind fun x => match x with
    | .inl (s, h) => J17_0 rc md h0 s.1 s.2.1 s.2.2.1 s.2.2.2.1 s.2.2.2.2.1 s.2.2.2.2.2 h
    | .inr (e, s, h) => Jk17_0 rc md h0 e s.1 s.2.1 s.2.2.1 s.2.2.2.1 s.2.2.2.2.1 s.2.2.2.2.2 h := by
  unfold J17_0
  rw [runL_eq]
  refine congrArg (Option.bind _) (funext fun x => ?_)
  rcases x with ⟨s, h⟩ | ⟨e, s, h⟩ <;> rfl
theorem J17_0_cut (rc : Rec) (md : Md) (h0 : Heap) : cut Tryd.prog cfg rc md 31 (bodyOf Tryd.prog 17) [1, 1, 1, 0, 0] (retK Tryd.prog cfg 17 (rsOf Tryd.prog 17) h0) = fun t h => J17_0 rc md h0 (t 0) (t 2) (t 3) (t 4) (t 5) (t 6) h := by
  funext t h
  have e : sub (bodyOf Tryd.prog 17) [1, 1, 1, 0, 0] = .loop (sub (bodyOf Tryd.prog 17) [1, 1, 1, 0, 0, 0]) := by kernel_rfl
  unfold cut
  rw [e]
  exact loop_eq (by kernel_rfl) (fun t => (t 0, t 2, t 3, t 4, t 5, t 6)) (fun x : (Value × Value × Value × Value × Value × Value) × Heap => Jr17_0 rc md x.1.1 x.1.2.1 x.1.2.2.1 x.1.2.2.2.1 x.1.2.2.2.2.1 x.1.2.2.2.2.2 x.2) (fun t h => Jr17_0_at rc md t h) (fun e (s : Value × Value × Value × Value × Value × Value) h => Jk17_0 rc md h0 e s.1 s.2.1 s.2.2.1 s.2.2.2.1 s.2.2.2.2.1 s.2.2.2.2.2 h) (fun e t h => Jk17_0_at rc md h0 e t h) t h
noncomputable def F17 (rc : Rec) (md : Md) (a0 : ByteArray) (h0 : Heap) : Option (Value × Heap) :=
  J17_0 rc md h0 (.string a0) (.int .i64 0) (.int .i64 0) (.int .i64 0) (.int .i64 0) (.int .i64 0) h0
noncomputable def F17H (rc : Rec) (md : Md) (X0 : T → Heap → Option (Value × Heap)) (a0 : ByteArray) (h0 : Heap) : Option (Value × Heap) :=
  X0 (upd (upd (upd (upd (upd (args0 [(.string a0)]) 2 (.int .i64 0)) 3 (.int .i64 0)) 4 (.int .i64 0)) 5 (.int .i64 0)) 6 (.int .i64 0)) h0
theorem F17_h0 (rc : Rec) (md : Md) (a0 : ByteArray) (h0 : Heap) : callStep0 Tryd.prog cfg rc md 17 [(.string a0)] h0 = exec Tryd.prog cfg rc ⟨h0.length, h0.length⟩ 31 (bodyOf Tryd.prog 17) (retK Tryd.prog cfg 17 (rsOf Tryd.prog 17) h0) (args0 [(.string a0)]) h0 := callStep0_run (by kernel_rfl) (by kernel_rfl) (by kernel_rfl)
theorem F17_h1 (rc : Rec) (md : Md) (X : Nat → T → Heap → Option (Value × Heap)) (a0 : ByteArray) (h0 : Heap) : execG Tryd.prog cfg X rc md 31 (replS (bodyOf Tryd.prog 17) [([1, 1, 1, 0, 0], 0), ([1, 1, 1, 1], 1)]) (retK Tryd.prog cfg 17 (rsOf Tryd.prog 17) h0) (args0 [(.string a0)]) h0 = F17H rc md (X 0) a0 h0 := by kernel_rfl
theorem F17_h2 (rc : Rec) (md : Md) (a0 : ByteArray) (h0 : Heap) : F17H rc md (fun t h => J17_0 rc md h0 (t 0) (t 2) (t 3) (t 4) (t 5) (t 6) h) a0 h0 = F17 rc md a0 h0 := by unfold F17H F17; kernel_rfl
theorem F17_eq0 (rc : Rec) (md : Md) (a0 : ByteArray) (h0 : Heap) : callStep0 Tryd.prog cfg rc md 17 [(.string a0)] h0 = F17 rc ⟨h0.length, h0.length⟩ a0 h0 := by
  rw [F17_h0, exec_holes [([1, 1, 1, 0, 0], 0), ([1, 1, 1, 1], 1)] (by kernel_rfl), F17_h1, show (goX Tryd.prog cfg rc ⟨h0.length, h0.length⟩ 31 (bodyOf Tryd.prog 17) [([1, 1, 1, 0, 0], 0), ([1, 1, 1, 1], 1)] (retK Tryd.prog cfg 17 (rsOf Tryd.prog 17) h0)) 0 = _ from J17_0_cut rc ⟨h0.length, h0.length⟩ h0]
  exact F17_h2 rc _ a0 h0
theorem F17_eq (rc : Rec) (md : Md) (a0 : ByteArray) (h0 : Heap) : callStep Tryd.prog cfg rc md 17 [(.string a0)] h0 = alone h0 (F17 rc ⟨0, 0⟩ a0 []) := by
  have e : callStep Tryd.prog cfg rc md 17 [(.string a0)] h0 = alone h0 (callStep0 Tryd.prog cfg rc ⟨0, 0⟩ 17 [(.string a0)] []) := by kernel_rfl
  rw [e, F17_eq0]; rfl

/-- tombolo/scan.Join -/
noncomputable def Jk18_0 (rc : Rec) (md : Md) (h0 : Heap) (e : Exit) (s2 : Value) (s3 : Value) (s6 : Value) (s7 : Value) (s8 : Value) (h : Heap) : Option (Value × Heap) :=
  match e with
  | .normal =>
    cl (rc md 23 [s3, (.string ⟨#[32]⟩)] h) fun v1 h2 =>
    fin2 h0 v1
  | .exit j =>
    bif Nat.beq j 0 then
      cl (rc md 23 [s3, (.string ⟨#[32]⟩)] h) fun v3 h4 =>
      fin2 h0 v3
    else
      none
  | .ret =>
    fin2 h0 s2
  | .goto l => none
  | .panic ps => none
  | .outgrown => none
theorem Jk18_0_at (rc : Rec) (md : Md) (h0 : Heap) (e : Exit) (t : T) (h : Heap) : kAt Tryd.prog cfg rc md 20 (bodyOf Tryd.prog 18) [1, 1, 0, 1, 0] (retK Tryd.prog cfg 18 (rsOf Tryd.prog 18) h0) e t h = Jk18_0 rc md h0 e (t 2) (t 3) (t 6) (t 7) (t 8) h := by cases e <;> kernel_rfl
/-- a round -/
noncomputable def Jr18_0 (rc : Rec) (md : Md) (s2 : Value) (s3 : Value) (s6 : Value) (s7 : Value) (s8 : Value) (h : Heap) : Option (((Value × Value × Value × Value × Value) × Heap) ⊕ (Exit × (Value × Value × Value × Value × Value) × Heap)) :=
  aBin Tryd.prog .lss 3 s8 s7 fun v1 =>
  cBn v1 fun b2 =>
  bif b2 then
    ixSV 1 s6 s8 fun v3 =>
    ld1 v3 h fun v4 =>
    cl (rc md 20 [v4] h) fun v5 h6 =>
    aBuildSlice Tryd.prog 51 1 [(0, v5)] h6 fun v7 h8 =>
    aBuiltin Tryd.prog md .append #[51, 51] [s3, v7] h8 fun v9 h10 =>
    aBin Tryd.prog .add 3 s8 (.int .i64 1) fun v11 =>
    some (.inl ((s2, v9, s6, s7, v11), h10))
  else
    some (.inr ((.exit 0), (s2, s3, s6, s7, s8), h))
theorem Jr18_0_at (rc : Rec) (md : Md) (t : T) (h : Heap) : exec Tryd.prog cfg rc md 20 (sub (bodyOf Tryd.prog 18) [1, 1, 0, 1, 0, 0]) (rndK (fun t => (t 2, t 3, t 6, t 7, t 8))) t h = Jr18_0 rc md (t 2) (t 3) (t 6) (t 7) (t 8) h := by kernel_rfl
noncomputable def J18_0 (rc : Rec) (md : Md) (h0 : Heap) (s2 : Value) (s3 : Value) (s6 : Value) (s7 : Value) (s8 : Value) (h : Heap) : Option (Value × Heap) :=
  runL (fun x : (Value × Value × Value × Value × Value) × Heap => Jr18_0 rc md x.1.1 x.1.2.1 x.1.2.2.1 x.1.2.2.2.1 x.1.2.2.2.2 x.2) (fun e (s : Value × Value × Value × Value × Value) h => Jk18_0 rc md h0 e s.1 s.2.1 s.2.2.1 s.2.2.2.1 s.2.2.2.2 h) (s2, s3, s6, s7, s8) h
theorem J18_0_step (rc : Rec) (md : Md) (h0 : Heap) (s2 : Value) (s3 : Value) (s6 : Value) (s7 : Value) (s8 : Value) (h : Heap) : J18_0 rc md h0 s2 s3 s6 s7 s8 h = (Jr18_0 rc md s2 s3 s6 s7 s8 h).bind fun x => match x with
    | .inl (s, h) => J18_0 rc md h0 s.1 s.2.1 s.2.2.1 s.2.2.2.1 s.2.2.2.2 h
    | .inr (e, s, h) => Jk18_0 rc md h0 e s.1 s.2.1 s.2.2.1 s.2.2.2.1 s.2.2.2.2 h := by
  unfold J18_0
  rw [runL_eq]
  refine congrArg (Option.bind _) (funext fun x => ?_)
  rcases x with ⟨s, h⟩ | ⟨e, s, h⟩ <;> rfl
theorem J18_0_cut (rc : Rec) (md : Md) (h0 : Heap) : cut Tryd.prog cfg rc md 20 (bodyOf Tryd.prog 18) [1, 1, 0, 1, 0] (retK Tryd.prog cfg 18 (rsOf Tryd.prog 18) h0) = fun t h => J18_0 rc md h0 (t 2) (t 3) (t 6) (t 7) (t 8) h := by
  funext t h
  have e : sub (bodyOf Tryd.prog 18) [1, 1, 0, 1, 0] = .loop (sub (bodyOf Tryd.prog 18) [1, 1, 0, 1, 0, 0]) := by kernel_rfl
  unfold cut
  rw [e]
  exact loop_eq (by kernel_rfl) (fun t => (t 2, t 3, t 6, t 7, t 8)) (fun x : (Value × Value × Value × Value × Value) × Heap => Jr18_0 rc md x.1.1 x.1.2.1 x.1.2.2.1 x.1.2.2.2.1 x.1.2.2.2.2 x.2) (fun t h => Jr18_0_at rc md t h) (fun e (s : Value × Value × Value × Value × Value) h => Jk18_0 rc md h0 e s.1 s.2.1 s.2.2.1 s.2.2.2.1 s.2.2.2.2 h) (fun e t h => Jk18_0_at rc md h0 e t h) t h
noncomputable def F18 (rc : Rec) (md : Md) (a0 : Value) (h0 : Heap) : Option (Value × Heap) :=
  lenS a0 fun v1 =>
  cIn .i64 v1 fun n2 =>
  J18_0 rc md h0 (.string ⟨#[]⟩) (.slice none 0 0) a0 (.int .i64 n2) (.int .i64 0) h0
noncomputable def F18H (rc : Rec) (md : Md) (X0 : T → Heap → Option (Value × Heap)) (a0 : Value) (h0 : Heap) : Option (Value × Heap) :=
  lenS a0 fun v1 =>
  cIn .i64 v1 fun n2 =>
  X0 (upd (upd (upd (upd (upd (args0 [a0]) 2 (.string ⟨#[]⟩)) 3 (.slice none 0 0)) 6 a0) 7 (.int .i64 n2)) 8 (.int .i64 0)) h0
theorem F18_h0 (rc : Rec) (md : Md) (a0 : Value) (h0 : Heap) : callStep0 Tryd.prog cfg rc md 18 [a0] h0 = exec Tryd.prog cfg rc ⟨h0.length, h0.length⟩ 20 (bodyOf Tryd.prog 18) (retK Tryd.prog cfg 18 (rsOf Tryd.prog 18) h0) (args0 [a0]) h0 := callStep0_run (by kernel_rfl) (by kernel_rfl) (by kernel_rfl)
theorem F18_h1 (rc : Rec) (md : Md) (X : Nat → T → Heap → Option (Value × Heap)) (a0 : Value) (h0 : Heap) : execG Tryd.prog cfg X rc md 20 (replS (bodyOf Tryd.prog 18) [([1, 1, 0, 1, 0], 0)]) (retK Tryd.prog cfg 18 (rsOf Tryd.prog 18) h0) (args0 [a0]) h0 = F18H rc md (X 0) a0 h0 := by kernel_rfl
theorem F18_h2 (rc : Rec) (md : Md) (a0 : Value) (h0 : Heap) : F18H rc md (fun t h => J18_0 rc md h0 (t 2) (t 3) (t 6) (t 7) (t 8) h) a0 h0 = F18 rc md a0 h0 := by unfold F18H F18; kernel_rfl
theorem F18_eq0 (rc : Rec) (md : Md) (a0 : Value) (h0 : Heap) : callStep0 Tryd.prog cfg rc md 18 [a0] h0 = F18 rc ⟨h0.length, h0.length⟩ a0 h0 := by
  rw [F18_h0, exec_holes [([1, 1, 0, 1, 0], 0)] (by kernel_rfl), F18_h1, show (goX Tryd.prog cfg rc ⟨h0.length, h0.length⟩ 20 (bodyOf Tryd.prog 18) [([1, 1, 0, 1, 0], 0)] (retK Tryd.prog cfg 18 (rsOf Tryd.prog 18) h0)) 0 = _ from J18_0_cut rc ⟨h0.length, h0.length⟩ h0]
  exact F18_h2 rc _ a0 h0
theorem F18_eq (rc : Rec) (md : Md) (a0 : Value) (h0 : Heap) : callStep Tryd.prog cfg rc md 18 [a0] h0 = F18 rc ⟨h0.length, h0.length⟩ a0 h0 := (callStep_ne (by kernel_rfl)).trans (F18_eq0 rc md a0 h0)

/-- tombolo/val.Equal -/
noncomputable def F19 (rc : Rec) (md : Md) (a0 : Value) (a1 : Value) (h0 : Heap) : Option (Value × Heap) :=
  aAssert Tryd.prog a0 3 true fun v1 =>
  exT v1 1 fun v2 =>
  cBn v2 fun b3 =>
  exT v1 0 fun v4 =>
  cIn .i64 v4 fun n5 =>
  bif b3 then
    cl (rc md 24 [a1] h0) fun v6 h7 =>
    exT v6 0 fun v8 =>
    cIn .i64 v8 fun n9 =>
    exT v6 1 fun v10 =>
    cBn v10 fun b11 =>
    (bif wantV (.bool b11) true then
    some ((.int .i64 n9), h7)
    else some (undef, h7)).bind fun p12 =>
    (bif wantV (.bool b11) true then
    some ((.int .i64 n5), p12.2)
    else some (undef, p12.2)).bind fun p13 =>
    (bif wantV (.bool b11) true then
    aBin Tryd.prog .eql 3 p12.1 p13.1 fun v14 =>
    some (v14, p13.2)
    else some (undef, p13.2)).bind fun p15 =>
    cBn (bif b11 then p15.1 else (.bool false)) fun b16 =>
    some ((.bool b16), h0)
  else
    aAssert Tryd.prog a0 9 true fun v17 =>
    exT v17 1 fun v18 =>
    cBn v18 fun b19 =>
    exT v17 0 fun v20 =>
    bif b19 then
      cl (rc md 25 [a1] h0) fun v21 h22 =>
      exT v21 0 fun v23 =>
      exT v21 1 fun v24 =>
      cBn v24 fun b25 =>
      (bif wantV (.bool b25) true then
      some (v23, h22)
      else some (undef, h22)).bind fun p26 =>
      (bif wantV (.bool b25) true then
      some (v20, p26.2)
      else some (undef, p26.2)).bind fun p27 =>
      (bif wantV (.bool b25) true then
      aBin Tryd.prog .eql 9 p26.1 p27.1 fun v28 =>
      some (v28, p27.2)
      else some (undef, p27.2)).bind fun p29 =>
      cBn (bif b25 then p29.1 else (.bool false)) fun b30 =>
      some ((.bool b30), h0)
    else
      aAssert Tryd.prog a0 21 true fun v31 =>
      exT v31 1 fun v32 =>
      cBn v32 fun b33 =>
      exT v31 0 fun v34 =>
      cIn .i32 v34 fun n35 =>
      bif b33 then
        cl (rc md 26 [a1] h0) fun v36 h37 =>
        exT v36 0 fun v38 =>
        cIn .i32 v38 fun n39 =>
        exT v36 1 fun v40 =>
        cBn v40 fun b41 =>
        (bif wantV (.bool b41) true then
        some ((.int .i32 n39), h37)
        else some (undef, h37)).bind fun p42 =>
        (bif wantV (.bool b41) true then
        some ((.int .i32 n35), p42.2)
        else some (undef, p42.2)).bind fun p43 =>
        (bif wantV (.bool b41) true then
        aBin Tryd.prog .eql 21 p42.1 p43.1 fun v44 =>
        some (v44, p43.2)
        else some (undef, p43.2)).bind fun p45 =>
        cBn (bif b41 then p45.1 else (.bool false)) fun b46 =>
        some ((.bool b46), h0)
      else
        aAssert Tryd.prog a0 23 true fun v47 =>
        exT v47 1 fun v48 =>
        cBn v48 fun b49 =>
        exT v47 0 fun v50 =>
        bif b49 then
          cl (rc md 27 [a1] h0) fun v51 h52 =>
          exT v51 0 fun v53 =>
          exT v51 1 fun v54 =>
          cBn v54 fun b55 =>
          (bif wantV (.bool b55) true then
          some (v50, h52)
          else some (undef, h52)).bind fun p56 =>
          (bif wantV (.bool b55) true then
          some (v53, p56.2)
          else some (undef, p56.2)).bind fun p57 =>
          (bif wantV (.bool b55) true then
          cl (rc md 28 [p56.1, p57.1, (.func (.func 19) #[] #[])] p57.2) fun v58 h59 =>
          cBn v58 fun b60 =>
          some ((.bool b60), h59)
          else some (undef, p57.2)).bind fun p61 =>
          cBn (bif b55 then p61.1 else (.bool false)) fun b62 =>
          some ((.bool b62), h0)
        else
          some ((.bool false), h0)
theorem F19_eq0 (rc : Rec) (md : Md) (a0 : Value) (a1 : Value) (h0 : Heap) : callStep0 Tryd.prog cfg rc md 19 [a0, a1] h0 = F19 rc ⟨h0.length, h0.length⟩ a0 a1 h0 := by kernel_rfl
theorem F19_eq (rc : Rec) (md : Md) (a0 : Value) (a1 : Value) (h0 : Heap) : callStep Tryd.prog cfg rc md 19 [a0, a1] h0 = F19 rc ⟨h0.length, h0.length⟩ a0 a1 h0 := (callStep_ne (by kernel_rfl)).trans (F19_eq0 rc md a0 a1 h0)

/-- tombolo/val.Say -/
noncomputable def Jk20_0 (rc : Rec) (md : Md) (h0 : Heap) (e : Exit) (s2 : Value) (s7 : Value) (s28 : Value) (s29 : Value) (s30 : Value) (h : Heap) : Option (Value × Heap) :=
  match e with
  | .normal =>
    aBin Tryd.prog .add 9 s7 (.string ⟨#[41]⟩) fun v1 =>
    fin2 h0 v1
  | .exit j =>
    bif Nat.beq j 1 then
      aBin Tryd.prog .add 9 s7 (.string ⟨#[41]⟩) fun v2 =>
      fin2 h0 v2
    else
      bif Nat.beq j 0 then
        some ((.string ⟨#[63]⟩), h0)
      else
        none
  | .ret =>
    fin2 h0 s2
  | .goto l => none
  | .panic ps => none
  | .outgrown => none
theorem Jk20_0_at (rc : Rec) (md : Md) (h0 : Heap) (e : Exit) (t : T) (h : Heap) : kAt Tryd.prog cfg rc md 46 (bodyOf Tryd.prog 20) [1, 0, 1, 0, 1, 1, 1, 1, 1, 1, 1, 0, 1, 1, 0, 1, 0] (retK Tryd.prog cfg 20 (rsOf Tryd.prog 20) h0) e t h = Jk20_0 rc md h0 e (t 2) (t 7) (t 28) (t 29) (t 30) h := by cases e <;> kernel_rfl
noncomputable def J20_0b0 (rc : Rec) (md : Md) (s2 : Value) (s7 : Value) (s9 : Value) (s28 : Value) (s29 : Value) (s30 : Value) (h : Heap) : Option (((Value × Value × Value × Value × Value) × Heap) ⊕ (Exit × (Value × Value × Value × Value × Value) × Heap)) :=
  cl (rc md 20 [s9] h) fun v1 h2 =>
  aBin Tryd.prog .add 9 s7 v1 fun v3 =>
  aBin Tryd.prog .add 3 s30 (.int .i64 1) fun v4 =>
  some (.inl ((s2, v3, s28, s29, v4), h2))
theorem J20_0b0_at (rc : Rec) (md : Md) (t : T) (h : Heap) : cut Tryd.prog cfg rc md 46 (sub (bodyOf Tryd.prog 20) [1, 0, 1, 0, 1, 1, 1, 1, 1, 1, 1, 0, 1, 1, 0, 1, 0, 0]) [1, 1, 0, 0, 1, 1] (rndK (fun t => (t 2, t 7, t 28, t 29, t 30))) t h = J20_0b0 rc md (t 2) (t 7) (t 9) (t 28) (t 29) (t 30) h := by kernel_rfl
theorem J20_0b0_cut (rc : Rec) (md : Md) : cut Tryd.prog cfg rc md 46 (sub (bodyOf Tryd.prog 20) [1, 0, 1, 0, 1, 1, 1, 1, 1, 1, 1, 0, 1, 1, 0, 1, 0, 0]) [1, 1, 0, 0, 1, 1] (rndK (fun t => (t 2, t 7, t 28, t 29, t 30))) = fun t h => J20_0b0 rc md (t 2) (t 7) (t 9) (t 28) (t 29) (t 30) h := funext fun t => funext fun h => J20_0b0_at rc md t h
/-- a round -/
noncomputable def Jr20_0 (rc : Rec) (md : Md) (s2 : Value) (s7 : Value) (s28 : Value) (s29 : Value) (s30 : Value) (h : Heap) : Option (((Value × Value × Value × Value × Value) × Heap) ⊕ (Exit × (Value × Value × Value × Value × Value) × Heap)) :=
  aBin Tryd.prog .lss 3 s30 s29 fun v1 =>
  cBn v1 fun b2 =>
  bif b2 then
    ixSV 1 s28 s30 fun v3 =>
    ld1 v3 h fun v4 =>
    aBin Tryd.prog .gtr 3 s30 (.int .i64 0) fun v5 =>
    cBn v5 fun b6 =>
    bif b6 then
      aBin Tryd.prog .add 9 s7 (.string ⟨#[32]⟩) fun v7 =>
      J20_0b0 rc md s2 v7 v4 s28 s29 s30 h
    else
      J20_0b0 rc md s2 s7 v4 s28 s29 s30 h
  else
    some (.inr ((.exit 1), (s2, s7, s28, s29, s30), h))
noncomputable def Jr20_0H (rc : Rec) (md : Md) (X0 : T → Heap → Option (((Value × Value × Value × Value × Value) × Heap) ⊕ (Exit × (Value × Value × Value × Value × Value) × Heap))) (t : T) (h : Heap) : Option (((Value × Value × Value × Value × Value) × Heap) ⊕ (Exit × (Value × Value × Value × Value × Value) × Heap)) :=
  aBin Tryd.prog .lss 3 (t 30) (t 29) fun v1 =>
  cBn v1 fun b2 =>
  bif b2 then
    ixSV 1 (t 28) (t 30) fun v3 =>
    ld1 v3 h fun v4 =>
    aBin Tryd.prog .gtr 3 (t 30) (.int .i64 0) fun v5 =>
    cBn v5 fun b6 =>
    bif b6 then
      aBin Tryd.prog .add 9 (t 7) (.string ⟨#[32]⟩) fun v7 =>
      X0 (upd (upd (upd (upd (upd (upd (upd (upd (upd (upd (upd t 31 v1) 32 (t 30)) 33 v3) 34 v4) 8 (t 30)) 9 v4) 35 (t 30)) 36 v5) 37 (t 7)) 38 v7) 7 v7) h
    else
      X0 (upd (upd (upd (upd (upd (upd (upd (upd t 31 v1) 32 (t 30)) 33 v3) 34 v4) 8 (t 30)) 9 v4) 35 (t 30)) 36 v5) h
  else
    some (.inr ((.exit 1), ((t 2), (t 7), (t 28), (t 29), (t 30)), h))
theorem Jr20_0_h1 (rc : Rec) (md : Md) (X : Nat → T → Heap → Option (((Value × Value × Value × Value × Value) × Heap) ⊕ (Exit × (Value × Value × Value × Value × Value) × Heap))) (t : T) (h : Heap) : execG Tryd.prog cfg X rc md 46 (replS (sub (bodyOf Tryd.prog 20) [1, 0, 1, 0, 1, 1, 1, 1, 1, 1, 1, 0, 1, 1, 0, 1, 0, 0]) [([1, 1, 0, 0, 1, 1], 0)]) (rndK (fun t => (t 2, t 7, t 28, t 29, t 30))) t h = Jr20_0H rc md (X 0) t h := by kernel_rfl
theorem Jr20_0_h2 (rc : Rec) (md : Md) (t : T) (h : Heap) : Jr20_0H rc md (fun t h => J20_0b0 rc md (t 2) (t 7) (t 9) (t 28) (t 29) (t 30) h) t h = Jr20_0 rc md (t 2) (t 7) (t 28) (t 29) (t 30) h := by unfold Jr20_0H Jr20_0; kernel_rfl
theorem Jr20_0_at (rc : Rec) (md : Md) (t : T) (h : Heap) : exec Tryd.prog cfg rc md 46 (sub (bodyOf Tryd.prog 20) [1, 0, 1, 0, 1, 1, 1, 1, 1, 1, 1, 0, 1, 1, 0, 1, 0, 0]) (rndK (fun t => (t 2, t 7, t 28, t 29, t 30))) t h = Jr20_0 rc md (t 2) (t 7) (t 28) (t 29) (t 30) h := by
  rw [exec_holes [([1, 1, 0, 0, 1, 1], 0)] (by kernel_rfl), Jr20_0_h1, show (goX Tryd.prog cfg rc md 46 (sub (bodyOf Tryd.prog 20) [1, 0, 1, 0, 1, 1, 1, 1, 1, 1, 1, 0, 1, 1, 0, 1, 0, 0]) [([1, 1, 0, 0, 1, 1], 0)] (rndK (fun t => (t 2, t 7, t 28, t 29, t 30)))) 0 = _ from J20_0b0_cut rc md]
  exact Jr20_0_h2 rc md t h
noncomputable def J20_0 (rc : Rec) (md : Md) (h0 : Heap) (s2 : Value) (s7 : Value) (s28 : Value) (s29 : Value) (s30 : Value) (h : Heap) : Option (Value × Heap) :=
  runL (fun x : (Value × Value × Value × Value × Value) × Heap => Jr20_0 rc md x.1.1 x.1.2.1 x.1.2.2.1 x.1.2.2.2.1 x.1.2.2.2.2 x.2) (fun e (s : Value × Value × Value × Value × Value) h => Jk20_0 rc md h0 e s.1 s.2.1 s.2.2.1 s.2.2.2.1 s.2.2.2.2 h) (s2, s7, s28, s29, s30) h
theorem J20_0_step (rc : Rec) (md : Md) (h0 : Heap) (s2 : Value) (s7 : Value) (s28 : Value) (s29 : Value) (s30 : Value) (h : Heap) : J20_0 rc md h0 s2 s7 s28 s29 s30 h = (Jr20_0 rc md s2 s7 s28 s29 s30 h).bind fun x => match x with
    | .inl (s, h) => J20_0 rc md h0 s.1 s.2.1 s.2.2.1 s.2.2.2.1 s.2.2.2.2 h
    | .inr (e, s, h) => Jk20_0 rc md h0 e s.1 s.2.1 s.2.2.1 s.2.2.2.1 s.2.2.2.2 h := by
  unfold J20_0
  rw [runL_eq]
  refine congrArg (Option.bind _) (funext fun x => ?_)
  rcases x with ⟨s, h⟩ | ⟨e, s, h⟩ <;> rfl
theorem J20_0_cut (rc : Rec) (md : Md) (h0 : Heap) : cut Tryd.prog cfg rc md 46 (bodyOf Tryd.prog 20) [1, 0, 1, 0, 1, 1, 1, 1, 1, 1, 1, 0, 1, 1, 0, 1, 0] (retK Tryd.prog cfg 20 (rsOf Tryd.prog 20) h0) = fun t h => J20_0 rc md h0 (t 2) (t 7) (t 28) (t 29) (t 30) h := by
  funext t h
  have e : sub (bodyOf Tryd.prog 20) [1, 0, 1, 0, 1, 1, 1, 1, 1, 1, 1, 0, 1, 1, 0, 1, 0] = .loop (sub (bodyOf Tryd.prog 20) [1, 0, 1, 0, 1, 1, 1, 1, 1, 1, 1, 0, 1, 1, 0, 1, 0, 0]) := by kernel_rfl
  unfold cut
  rw [e]
  exact loop_eq (by kernel_rfl) (fun t => (t 2, t 7, t 28, t 29, t 30)) (fun x : (Value × Value × Value × Value × Value) × Heap => Jr20_0 rc md x.1.1 x.1.2.1 x.1.2.2.1 x.1.2.2.2.1 x.1.2.2.2.2 x.2) (fun t h => Jr20_0_at rc md t h) (fun e (s : Value × Value × Value × Value × Value) h => Jk20_0 rc md h0 e s.1 s.2.1 s.2.2.1 s.2.2.2.1 s.2.2.2.2 h) (fun e t h => Jk20_0_at rc md h0 e t h) t h
noncomputable def F20 (rc : Rec) (md : Md) (a0 : Value) (h0 : Heap) : Option (Value × Heap) :=
  aAssert Tryd.prog a0 3 true fun v1 =>
  exT v1 1 fun v2 =>
  cBn v2 fun b3 =>
  exT v1 0 fun v4 =>
  cIn .i64 v4 fun n5 =>
  bif b3 then
    cl (rc md 29 [(.int .i64 n5)] h0) fun v6 h7 =>
    fin2 h0 v6
  else
    aAssert Tryd.prog a0 9 true fun v8 =>
    exT v8 1 fun v9 =>
    cBn v9 fun b10 =>
    exT v8 0 fun v11 =>
    bif b10 then
      fin2 h0 v11
    else
      aAssert Tryd.prog a0 21 true fun v12 =>
      exT v12 1 fun v13 =>
      cBn v13 fun b14 =>
      exT v12 0 fun v15 =>
      cIn .i32 v15 fun n16 =>
      bif b14 then
        aConv Tryd.prog 21 9 (.int .i32 n16) fun v17 =>
        fin2 h0 v17
      else
        aAssert Tryd.prog a0 23 true fun v18 =>
        exT v18 1 fun v19 =>
        cBn v19 fun b20 =>
        exT v18 0 fun v21 =>
        bif b20 then
          lenS v21 fun v22 =>
          cIn .i64 v22 fun n23 =>
          J20_0 rc md h0 (.string ⟨#[]⟩) (.string ⟨#[40]⟩) v21 (.int .i64 n23) (.int .i64 0) h0
        else
          some ((.string ⟨#[63]⟩), h0)
noncomputable def F20H (rc : Rec) (md : Md) (X0 : T → Heap → Option (Value × Heap)) (a0 : Value) (h0 : Heap) : Option (Value × Heap) :=
  aAssert Tryd.prog a0 3 true fun v1 =>
  exT v1 1 fun v2 =>
  cBn v2 fun b3 =>
  exT v1 0 fun v4 =>
  cIn .i64 v4 fun n5 =>
  bif b3 then
    cl (rc md 29 [(.int .i64 n5)] h0) fun v6 h7 =>
    fin2 h0 v6
  else
    aAssert Tryd.prog a0 9 true fun v8 =>
    exT v8 1 fun v9 =>
    cBn v9 fun b10 =>
    exT v8 0 fun v11 =>
    bif b10 then
      fin2 h0 v11
    else
      aAssert Tryd.prog a0 21 true fun v12 =>
      exT v12 1 fun v13 =>
      cBn v13 fun b14 =>
      exT v12 0 fun v15 =>
      cIn .i32 v15 fun n16 =>
      bif b14 then
        aConv Tryd.prog 21 9 (.int .i32 n16) fun v17 =>
        fin2 h0 v17
      else
        aAssert Tryd.prog a0 23 true fun v18 =>
        exT v18 1 fun v19 =>
        cBn v19 fun b20 =>
        exT v18 0 fun v21 =>
        bif b20 then
          lenS v21 fun v22 =>
          cIn .i64 v22 fun n23 =>
          X0 (upd (upd (upd (upd (upd (upd (upd (upd (upd (upd (upd (upd (upd (upd (upd (upd (upd (upd (upd (args0 [a0]) 2 (.string ⟨#[]⟩)) 10 a0) 11 v1) 12 (.bool b3)) 13 (.int .i64 n5)) 16 v8) 17 (.bool b10)) 18 v11) 20 v12) 21 (.bool b14)) 22 (.int .i32 n16)) 25 v18) 26 (.bool b20)) 27 v21) 6 v21) 7 (.string ⟨#[40]⟩)) 28 v21) 29 (.int .i64 n23)) 30 (.int .i64 0)) h0
        else
          some ((.string ⟨#[63]⟩), h0)
theorem F20_h0 (rc : Rec) (md : Md) (a0 : Value) (h0 : Heap) : callStep0 Tryd.prog cfg rc md 20 [a0] h0 = exec Tryd.prog cfg rc ⟨h0.length, h0.length⟩ 46 (bodyOf Tryd.prog 20) (retK Tryd.prog cfg 20 (rsOf Tryd.prog 20) h0) (args0 [a0]) h0 := callStep0_run (by kernel_rfl) (by kernel_rfl) (by kernel_rfl)
theorem F20_h1 (rc : Rec) (md : Md) (X : Nat → T → Heap → Option (Value × Heap)) (a0 : Value) (h0 : Heap) : execG Tryd.prog cfg X rc md 46 (replS (bodyOf Tryd.prog 20) [([1, 0, 1, 0, 1, 1, 1, 1, 1, 1, 1, 0, 1, 1, 0, 1, 0], 0)]) (retK Tryd.prog cfg 20 (rsOf Tryd.prog 20) h0) (args0 [a0]) h0 = F20H rc md (X 0) a0 h0 := by kernel_rfl
theorem F20_h2 (rc : Rec) (md : Md) (a0 : Value) (h0 : Heap) : F20H rc md (fun t h => J20_0 rc md h0 (t 2) (t 7) (t 28) (t 29) (t 30) h) a0 h0 = F20 rc md a0 h0 := by unfold F20H F20; kernel_rfl
theorem F20_eq0 (rc : Rec) (md : Md) (a0 : Value) (h0 : Heap) : callStep0 Tryd.prog cfg rc md 20 [a0] h0 = F20 rc ⟨h0.length, h0.length⟩ a0 h0 := by
  rw [F20_h0, exec_holes [([1, 0, 1, 0, 1, 1, 1, 1, 1, 1, 1, 0, 1, 1, 0, 1, 0], 0)] (by kernel_rfl), F20_h1, show (goX Tryd.prog cfg rc ⟨h0.length, h0.length⟩ 46 (bodyOf Tryd.prog 20) [([1, 0, 1, 0, 1, 1, 1, 1, 1, 1, 1, 0, 1, 1, 0, 1, 0], 0)] (retK Tryd.prog cfg 20 (rsOf Tryd.prog 20) h0)) 0 = _ from J20_0_cut rc ⟨h0.length, h0.length⟩ h0]
  exact F20_h2 rc _ a0 h0
theorem F20_eq (rc : Rec) (md : Md) (a0 : Value) (h0 : Heap) : callStep Tryd.prog cfg rc md 20 [a0] h0 = F20 rc ⟨h0.length, h0.length⟩ a0 h0 := (callStep_ne (by kernel_rfl)).trans (F20_eq0 rc md a0 h0)

/-- (tombolo/scan.run).end -/
noncomputable def F21 (rc : Rec) (md : Md) (a0_0 : Int) (a0_1 : Int) (a0_2 : Value) (a1 : Value) (h0 : Heap) : Option (Value × Heap) :=
  let h1 : Heap := h0 ++ [.own [(.int .i64 a0_0), (.int .i64 a0_1), a0_2]]
  ld1 (.pointer (some ⟨h0.length, 0, none⟩)) h1 fun v2 =>
  cIn .i64 v2 fun n3 =>
  bif (n3 == 2) then
    ldN 3 (.pointer (some ⟨h0.length, 0, none⟩)) h1 fun v4 =>
    cl (rc md 30 [v4] h1) fun v5 h6 =>
    exT v5 0 fun v7 =>
    cIn .i64 v7 fun n8 =>
    exT v5 1 fun v9 =>
    cBn v9 fun b10 =>
    bif !b10 then
      some ((.tuple #[(.slice none 0 0), (.int .i64 41)]), h6)
    else
      let h11 : Heap := h6 ++ [.own [(.iface 3 (.int .i64 n8))]]
      aBuiltin Tryd.prog md .append #[23, 23] [a1, (.slice (some ⟨h6.length, 0, none⟩) 1 1)] h11 fun v12 h13 =>
      some ((.tuple #[v12, (.int .i64 0)]), h13)
  else
    bif (n3 == 3) then
      ld1 (.pointer (some ⟨h0.length, 2, none⟩)) h1 fun v14 =>
      aConvH Tryd.prog 43 9 v14 h1 fun v15 =>
      let h16 : Heap := h1 ++ [.own [(.iface 9 v15)]]
      aBuiltin Tryd.prog md .append #[23, 23] [a1, (.slice (some ⟨h1.length, 0, none⟩) 1 1)] h16 fun v17 h18 =>
      some ((.tuple #[v17, (.int .i64 0)]), h18)
    else
      some ((.tuple #[a1, (.int .i64 0)]), h1)
theorem F21_eq0 (rc : Rec) (md : Md) (a0_0 : Int) (a0_1 : Int) (a0_2 : Value) (a1 : Value) (h0 : Heap) : callStep0 Tryd.prog cfg rc md 21 [(.agg #[(.int .i64 a0_0), (.int .i64 a0_1), a0_2]), a1] h0 = F21 rc md a0_0 a0_1 a0_2 a1 h0 := by kernel_rfl
theorem F21_eq (rc : Rec) (md : Md) (a0_0 : Int) (a0_1 : Int) (a0_2 : Value) (a1 : Value) (h0 : Heap) : callStep Tryd.prog cfg rc md 21 [(.agg #[(.int .i64 a0_0), (.int .i64 a0_1), a0_2]), a1] h0 = F21 rc md a0_0 a0_1 a0_2 a1 h0 := (callStep_ne (by kernel_rfl)).trans (F21_eq0 rc md a0_0 a0_1 a0_2 a1 h0)

/-- tombolo/tomboloref04.Rune -/
noncomputable def J22_3 (rc : Rec) (md : Md) (h0 : Heap) (s0 : Value) (s1 : Value) (s6 : Value) (s7 : Value) (s8 : Value) (h : Heap) : Option (Value × Heap) :=
  aBin Tryd.prog .geq 5 s6 (.int .u8 240) fun v1 =>
  (bif wantV v1 true then
  some (s6, h)
  else some (undef, h)).bind fun p2 =>
  (bif wantV v1 true then
  aBin Tryd.prog .leq 5 p2.1 (.int .u8 244) fun v3 =>
  some (v3, p2.2)
  else some (undef, p2.2)).bind fun p4 =>
  cBn v1 fun q5 =>
  cBn (bif q5 then p4.1 else (.bool false)) fun b6 =>
  (bif wantV (.bool b6) true then
  some (s0, p4.2)
  else some (undef, p4.2)).bind fun p7 =>
  (bif wantV (.bool b6) true then
  some (s1, p7.2)
  else some (undef, p7.2)).bind fun p8 =>
  (bif wantV (.bool b6) true then
  aBin Tryd.prog .add 3 p8.1 (.int .i64 1) fun v9 =>
  some (v9, p8.2)
  else some (undef, p8.2)).bind fun p10 =>
  (bif wantV (.bool b6) true then
  some (s7, p10.2)
  else some (undef, p10.2)).bind fun p11 =>
  (bif wantV (.bool b6) true then
  some (s8, p11.2)
  else some (undef, p11.2)).bind fun p12 =>
  (bif wantV (.bool b6) true then
  cl (rc md 31 [p7.1, p10.1, p11.1, p12.1] p12.2) fun v13 h14 =>
  cBn v13 fun b15 =>
  some ((.bool b15), h14)
  else some (undef, p12.2)).bind fun p16 =>
  cBn (bif b6 then p16.1 else (.bool false)) fun b17 =>
  (bif wantV (.bool b17) true then
  some (s0, p16.2)
  else some (undef, p16.2)).bind fun p18 =>
  (bif wantV (.bool b17) true then
  some (s1, p18.2)
  else some (undef, p18.2)).bind fun p19 =>
  (bif wantV (.bool b17) true then
  aBin Tryd.prog .add 3 p19.1 (.int .i64 2) fun v20 =>
  some (v20, p19.2)
  else some (undef, p19.2)).bind fun p21 =>
  (bif wantV (.bool b17) true then
  cl (rc md 31 [p18.1, p21.1, (.int .u8 128), (.int .u8 191)] p21.2) fun v22 h23 =>
  cBn v22 fun b24 =>
  some ((.bool b24), h23)
  else some (undef, p21.2)).bind fun p25 =>
  cBn (bif b17 then p25.1 else (.bool false)) fun b26 =>
  (bif wantV (.bool b26) true then
  some (s0, p25.2)
  else some (undef, p25.2)).bind fun p27 =>
  (bif wantV (.bool b26) true then
  some (s1, p27.2)
  else some (undef, p27.2)).bind fun p28 =>
  (bif wantV (.bool b26) true then
  aBin Tryd.prog .add 3 p28.1 (.int .i64 3) fun v29 =>
  some (v29, p28.2)
  else some (undef, p28.2)).bind fun p30 =>
  (bif wantV (.bool b26) true then
  cl (rc md 31 [p27.1, p30.1, (.int .u8 128), (.int .u8 191)] p30.2) fun v31 h32 =>
  cBn v31 fun b33 =>
  some ((.bool b33), h32)
  else some (undef, p30.2)).bind fun p34 =>
  cBn (bif b26 then p34.1 else (.bool false)) fun b35 =>
  bif b35 then
    aBin Tryd.prog .sub 5 s6 (.int .u8 240) fun v36 =>
    aConv Tryd.prog 5 3 v36 fun v37 =>
    aBin Tryd.prog .mul 3 v37 (.int .i64 64) fun v38 =>
    aBin Tryd.prog .add 3 s1 (.int .i64 1) fun v39 =>
    aIndex Tryd.prog 9 s0 v39 fun v40 =>
    cIn .u8 v40 fun n41 =>
    aBin Tryd.prog .add 3 v38 (.int .i64 (IntKind.wrap .i64 (IntKind.wrap .u8 (n41 - 128)))) fun v42 =>
    aBin Tryd.prog .mul 3 v42 (.int .i64 64) fun v43 =>
    aBin Tryd.prog .add 3 s1 (.int .i64 2) fun v44 =>
    aIndex Tryd.prog 9 s0 v44 fun v45 =>
    cIn .u8 v45 fun n46 =>
    aBin Tryd.prog .add 3 v43 (.int .i64 (IntKind.wrap .i64 (IntKind.wrap .u8 (n46 - 128)))) fun v47 =>
    aBin Tryd.prog .mul 3 v47 (.int .i64 64) fun v48 =>
    aBin Tryd.prog .add 3 s1 (.int .i64 3) fun v49 =>
    aIndex Tryd.prog 9 s0 v49 fun v50 =>
    cIn .u8 v50 fun n51 =>
    aBin Tryd.prog .add 3 v48 (.int .i64 (IntKind.wrap .i64 (IntKind.wrap .u8 (n51 - 128)))) fun v52 =>
    fin2 h0 (.tuple #[v52, (.int .i64 4)])
  else
    some ((.tuple #[(.int .i64 65533), (.int .i64 1)]), h0)
theorem J22_3_at (rc : Rec) (md : Md) (h0 : Heap) (t : T) (h : Heap) : cut Tryd.prog cfg rc md 139 (bodyOf Tryd.prog 22) [1, 1, 1, 1, 1, 1, 1, 1, 1, 1] (retK Tryd.prog cfg 22 (rsOf Tryd.prog 22) h0) t h = J22_3 rc md h0 (t 0) (t 1) (t 6) (t 7) (t 8) h := by kernel_rfl
theorem J22_3_cut (rc : Rec) (md : Md) (h0 : Heap) : cut Tryd.prog cfg rc md 139 (bodyOf Tryd.prog 22) [1, 1, 1, 1, 1, 1, 1, 1, 1, 1] (retK Tryd.prog cfg 22 (rsOf Tryd.prog 22) h0) = fun t h => J22_3 rc md h0 (t 0) (t 1) (t 6) (t 7) (t 8) h := funext fun t => funext fun h => J22_3_at rc md h0 t h
noncomputable def J22_2 (rc : Rec) (md : Md) (h0 : Heap) (s0 : Value) (s1 : Value) (s6 : Value) (s7 : Value) (s8 : Value) (h : Heap) : Option (Value × Heap) :=
  aBin Tryd.prog .eql 5 s6 (.int .u8 244) fun v1 =>
  cBn v1 fun b2 =>
  bif b2 then
    J22_3 rc md h0 s0 s1 s6 s7 (.int .u8 143) h
  else
    J22_3 rc md h0 s0 s1 s6 s7 s8 h
noncomputable def J22_2H (rc : Rec) (md : Md) (h0 : Heap) (X0 : T → Heap → Option (Value × Heap)) (t : T) (h : Heap) : Option (Value × Heap) :=
  aBin Tryd.prog .eql 5 (t 6) (.int .u8 244) fun v1 =>
  cBn v1 fun b2 =>
  bif b2 then
    X0 (upd (upd (upd t 84 (t 6)) 85 v1) 8 (.int .u8 143)) h
  else
    X0 (upd (upd t 84 (t 6)) 85 v1) h
theorem J22_2_h1 (rc : Rec) (md : Md) (h0 : Heap) (X : Nat → T → Heap → Option (Value × Heap)) (t : T) (h : Heap) : execG Tryd.prog cfg X rc md 139 (sub (replS (bodyOf Tryd.prog 22) [([1, 1, 1, 1, 1, 1, 1, 1, 1, 1], 0)]) [1, 1, 1, 1, 1, 1, 1, 1, 1]) (kAtG Tryd.prog cfg X rc md 139 (replS (bodyOf Tryd.prog 22) [([1, 1, 1, 1, 1, 1, 1, 1, 1, 1], 0)]) [1, 1, 1, 1, 1, 1, 1, 1, 1] (retK Tryd.prog cfg 22 (rsOf Tryd.prog 22) h0)) t h = J22_2H rc md h0 (X 0) t h := by kernel_rfl
theorem J22_2_h2 (rc : Rec) (md : Md) (h0 : Heap) (t : T) (h : Heap) : J22_2H rc md h0 (fun t h => J22_3 rc md h0 (t 0) (t 1) (t 6) (t 7) (t 8) h) t h = J22_2 rc md h0 (t 0) (t 1) (t 6) (t 7) (t 8) h := by (unfold J22_2H J22_2; kernel_rfl)
theorem J22_2_at (rc : Rec) (md : Md) (h0 : Heap) (t : T) (h : Heap) : cut Tryd.prog cfg rc md 139 (bodyOf Tryd.prog 22) [1, 1, 1, 1, 1, 1, 1, 1, 1] (retK Tryd.prog cfg 22 (rsOf Tryd.prog 22) h0) t h = J22_2 rc md h0 (t 0) (t 1) (t 6) (t 7) (t 8) h := by
  rw [cut_holes [([1, 1, 1, 1, 1, 1, 1, 1, 1, 1], 0)] [1, 1, 1, 1, 1, 1, 1, 1, 1] (by kernel_rfl), J22_2_h1, show (goX Tryd.prog cfg rc md 139 (bodyOf Tryd.prog 22) [([1, 1, 1, 1, 1, 1, 1, 1, 1, 1], 0)] (retK Tryd.prog cfg 22 (rsOf Tryd.prog 22) h0)) 0 = _ from J22_3_cut rc md h0]
  exact J22_2_h2 rc md h0 t h
theorem J22_2_cut (rc : Rec) (md : Md) (h0 : Heap) : cut Tryd.prog cfg rc md 139 (bodyOf Tryd.prog 22) [1, 1, 1, 1, 1, 1, 1, 1, 1] (retK Tryd.prog cfg 22 (rsOf Tryd.prog 22) h0) = fun t h => J22_2 rc md h0 (t 0) (t 1) (t 6) (t 7) (t 8) h := funext fun t => funext fun h => J22_2_at rc md h0 t h
noncomputable def J22_1 (rc : Rec) (md : Md) (h0 : Heap) (s0 : Value) (s1 : Value) (s6 : Value) (s7 : Value) (s8 : Value) (h : Heap) : Option (Value × Heap) :=
  aBin Tryd.prog .geq 5 s6 (.int .u8 224) fun v1 =>
  (bif wantV v1 true then
  some (s6, h)
  else some (undef, h)).bind fun p2 =>
  (bif wantV v1 true then
  aBin Tryd.prog .leq 5 p2.1 (.int .u8 239) fun v3 =>
  some (v3, p2.2)
  else some (undef, p2.2)).bind fun p4 =>
  cBn v1 fun q5 =>
  cBn (bif q5 then p4.1 else (.bool false)) fun b6 =>
  (bif wantV (.bool b6) true then
  some (s0, p4.2)
  else some (undef, p4.2)).bind fun p7 =>
  (bif wantV (.bool b6) true then
  some (s1, p7.2)
  else some (undef, p7.2)).bind fun p8 =>
  (bif wantV (.bool b6) true then
  aBin Tryd.prog .add 3 p8.1 (.int .i64 1) fun v9 =>
  some (v9, p8.2)
  else some (undef, p8.2)).bind fun p10 =>
  (bif wantV (.bool b6) true then
  some (s7, p10.2)
  else some (undef, p10.2)).bind fun p11 =>
  (bif wantV (.bool b6) true then
  some (s8, p11.2)
  else some (undef, p11.2)).bind fun p12 =>
  (bif wantV (.bool b6) true then
  cl (rc md 31 [p7.1, p10.1, p11.1, p12.1] p12.2) fun v13 h14 =>
  cBn v13 fun b15 =>
  some ((.bool b15), h14)
  else some (undef, p12.2)).bind fun p16 =>
  cBn (bif b6 then p16.1 else (.bool false)) fun b17 =>
  (bif wantV (.bool b17) true then
  some (s0, p16.2)
  else some (undef, p16.2)).bind fun p18 =>
  (bif wantV (.bool b17) true then
  some (s1, p18.2)
  else some (undef, p18.2)).bind fun p19 =>
  (bif wantV (.bool b17) true then
  aBin Tryd.prog .add 3 p19.1 (.int .i64 2) fun v20 =>
  some (v20, p19.2)
  else some (undef, p19.2)).bind fun p21 =>
  (bif wantV (.bool b17) true then
  cl (rc md 31 [p18.1, p21.1, (.int .u8 128), (.int .u8 191)] p21.2) fun v22 h23 =>
  cBn v22 fun b24 =>
  some ((.bool b24), h23)
  else some (undef, p21.2)).bind fun p25 =>
  cBn (bif b17 then p25.1 else (.bool false)) fun b26 =>
  bif b26 then
    aBin Tryd.prog .sub 5 s6 (.int .u8 224) fun v27 =>
    aConv Tryd.prog 5 3 v27 fun v28 =>
    aBin Tryd.prog .mul 3 v28 (.int .i64 64) fun v29 =>
    aBin Tryd.prog .add 3 s1 (.int .i64 1) fun v30 =>
    aIndex Tryd.prog 9 s0 v30 fun v31 =>
    cIn .u8 v31 fun n32 =>
    aBin Tryd.prog .add 3 v29 (.int .i64 (IntKind.wrap .i64 (IntKind.wrap .u8 (n32 - 128)))) fun v33 =>
    aBin Tryd.prog .mul 3 v33 (.int .i64 64) fun v34 =>
    aBin Tryd.prog .add 3 s1 (.int .i64 2) fun v35 =>
    aIndex Tryd.prog 9 s0 v35 fun v36 =>
    cIn .u8 v36 fun n37 =>
    aBin Tryd.prog .add 3 v34 (.int .i64 (IntKind.wrap .i64 (IntKind.wrap .u8 (n37 - 128)))) fun v38 =>
    fin2 h0 (.tuple #[v38, (.int .i64 3)])
  else
    aBin Tryd.prog .eql 5 s6 (.int .u8 240) fun v39 =>
    cBn v39 fun b40 =>
    bif b40 then
      J22_2 rc md h0 s0 s1 s6 (.int .u8 144) s8 p25.2
    else
      J22_2 rc md h0 s0 s1 s6 s7 s8 p25.2
noncomputable def J22_1H (rc : Rec) (md : Md) (h0 : Heap) (X1 : T → Heap → Option (Value × Heap)) (t : T) (h : Heap) : Option (Value × Heap) :=
  aBin Tryd.prog .geq 5 (t 6) (.int .u8 224) fun v1 =>
  (bif wantV v1 true then
  some ((t 6), h)
  else some (undef, h)).bind fun p2 =>
  (bif wantV v1 true then
  aBin Tryd.prog .leq 5 p2.1 (.int .u8 239) fun v3 =>
  some (v3, p2.2)
  else some (undef, p2.2)).bind fun p4 =>
  cBn v1 fun q5 =>
  cBn (bif q5 then p4.1 else (.bool false)) fun b6 =>
  (bif wantV (.bool b6) true then
  some ((t 0), p4.2)
  else some (undef, p4.2)).bind fun p7 =>
  (bif wantV (.bool b6) true then
  some ((t 1), p7.2)
  else some (undef, p7.2)).bind fun p8 =>
  (bif wantV (.bool b6) true then
  aBin Tryd.prog .add 3 p8.1 (.int .i64 1) fun v9 =>
  some (v9, p8.2)
  else some (undef, p8.2)).bind fun p10 =>
  (bif wantV (.bool b6) true then
  some ((t 7), p10.2)
  else some (undef, p10.2)).bind fun p11 =>
  (bif wantV (.bool b6) true then
  some ((t 8), p11.2)
  else some (undef, p11.2)).bind fun p12 =>
  (bif wantV (.bool b6) true then
  cl (rc md 31 [p7.1, p10.1, p11.1, p12.1] p12.2) fun v13 h14 =>
  cBn v13 fun b15 =>
  some ((.bool b15), h14)
  else some (undef, p12.2)).bind fun p16 =>
  cBn (bif b6 then p16.1 else (.bool false)) fun b17 =>
  (bif wantV (.bool b17) true then
  some ((t 0), p16.2)
  else some (undef, p16.2)).bind fun p18 =>
  (bif wantV (.bool b17) true then
  some ((t 1), p18.2)
  else some (undef, p18.2)).bind fun p19 =>
  (bif wantV (.bool b17) true then
  aBin Tryd.prog .add 3 p19.1 (.int .i64 2) fun v20 =>
  some (v20, p19.2)
  else some (undef, p19.2)).bind fun p21 =>
  (bif wantV (.bool b17) true then
  cl (rc md 31 [p18.1, p21.1, (.int .u8 128), (.int .u8 191)] p21.2) fun v22 h23 =>
  cBn v22 fun b24 =>
  some ((.bool b24), h23)
  else some (undef, p21.2)).bind fun p25 =>
  cBn (bif b17 then p25.1 else (.bool false)) fun b26 =>
  bif b26 then
    aBin Tryd.prog .sub 5 (t 6) (.int .u8 224) fun v27 =>
    aConv Tryd.prog 5 3 v27 fun v28 =>
    aBin Tryd.prog .mul 3 v28 (.int .i64 64) fun v29 =>
    aBin Tryd.prog .add 3 (t 1) (.int .i64 1) fun v30 =>
    aIndex Tryd.prog 9 (t 0) v30 fun v31 =>
    cIn .u8 v31 fun n32 =>
    aBin Tryd.prog .add 3 v29 (.int .i64 (IntKind.wrap .i64 (IntKind.wrap .u8 (n32 - 128)))) fun v33 =>
    aBin Tryd.prog .mul 3 v33 (.int .i64 64) fun v34 =>
    aBin Tryd.prog .add 3 (t 1) (.int .i64 2) fun v35 =>
    aIndex Tryd.prog 9 (t 0) v35 fun v36 =>
    cIn .u8 v36 fun n37 =>
    aBin Tryd.prog .add 3 v34 (.int .i64 (IntKind.wrap .i64 (IntKind.wrap .u8 (n37 - 128)))) fun v38 =>
    fin2 h0 (.tuple #[v38, (.int .i64 3)])
  else
    aBin Tryd.prog .eql 5 (t 6) (.int .u8 240) fun v39 =>
    cBn v39 fun b40 =>
    bif b40 then
      X1 (upd (upd (upd (upd (upd (upd (upd (upd (upd (upd (upd (upd (upd (upd (upd (upd (upd (upd (upd (upd (upd (upd (upd t 43 (t 6)) 44 v1) 45 v1) 46 p2.1) 47 p4.1) 48 (.bool b6)) 49 (.bool b6)) 50 p7.1) 51 p8.1) 52 p10.1) 53 p11.1) 54 p12.1) 55 p16.1) 56 (.bool b17)) 57 (.bool b17)) 58 p18.1) 59 p19.1) 60 p21.1) 61 p25.1) 62 (.bool b26)) 82 (t 6)) 83 v39) 7 (.int .u8 144)) p25.2
    else
      X1 (upd (upd (upd (upd (upd (upd (upd (upd (upd (upd (upd (upd (upd (upd (upd (upd (upd (upd (upd (upd (upd (upd t 43 (t 6)) 44 v1) 45 v1) 46 p2.1) 47 p4.1) 48 (.bool b6)) 49 (.bool b6)) 50 p7.1) 51 p8.1) 52 p10.1) 53 p11.1) 54 p12.1) 55 p16.1) 56 (.bool b17)) 57 (.bool b17)) 58 p18.1) 59 p19.1) 60 p21.1) 61 p25.1) 62 (.bool b26)) 82 (t 6)) 83 v39) p25.2
theorem J22_1_h1 (rc : Rec) (md : Md) (h0 : Heap) (X : Nat → T → Heap → Option (Value × Heap)) (t : T) (h : Heap) : execG Tryd.prog cfg X rc md 139 (sub (replS (bodyOf Tryd.prog 22) [([1, 1, 1, 1, 1, 1, 1, 1, 1, 1], 0), ([1, 1, 1, 1, 1, 1, 1, 1, 1], 1)]) [1, 1, 1, 1, 1, 1, 1]) (kAtG Tryd.prog cfg X rc md 139 (replS (bodyOf Tryd.prog 22) [([1, 1, 1, 1, 1, 1, 1, 1, 1, 1], 0), ([1, 1, 1, 1, 1, 1, 1, 1, 1], 1)]) [1, 1, 1, 1, 1, 1, 1] (retK Tryd.prog cfg 22 (rsOf Tryd.prog 22) h0)) t h = J22_1H rc md h0 (X 1) t h := by kernel_rfl
theorem J22_1_h2 (rc : Rec) (md : Md) (h0 : Heap) (t : T) (h : Heap) : J22_1H rc md h0 (fun t h => J22_2 rc md h0 (t 0) (t 1) (t 6) (t 7) (t 8) h) t h = J22_1 rc md h0 (t 0) (t 1) (t 6) (t 7) (t 8) h := by (unfold J22_1H J22_1; kernel_rfl)
theorem J22_1_at (rc : Rec) (md : Md) (h0 : Heap) (t : T) (h : Heap) : cut Tryd.prog cfg rc md 139 (bodyOf Tryd.prog 22) [1, 1, 1, 1, 1, 1, 1] (retK Tryd.prog cfg 22 (rsOf Tryd.prog 22) h0) t h = J22_1 rc md h0 (t 0) (t 1) (t 6) (t 7) (t 8) h := by
  rw [cut_holes [([1, 1, 1, 1, 1, 1, 1, 1, 1, 1], 0), ([1, 1, 1, 1, 1, 1, 1, 1, 1], 1)] [1, 1, 1, 1, 1, 1, 1] (by kernel_rfl), J22_1_h1, show (goX Tryd.prog cfg rc md 139 (bodyOf Tryd.prog 22) [([1, 1, 1, 1, 1, 1, 1, 1, 1, 1], 0), ([1, 1, 1, 1, 1, 1, 1, 1, 1], 1)] (retK Tryd.prog cfg 22 (rsOf Tryd.prog 22) h0)) 1 = _ from J22_2_cut rc md h0]
  exact J22_1_h2 rc md h0 t h
theorem J22_1_cut (rc : Rec) (md : Md) (h0 : Heap) : cut Tryd.prog cfg rc md 139 (bodyOf Tryd.prog 22) [1, 1, 1, 1, 1, 1, 1] (retK Tryd.prog cfg 22 (rsOf Tryd.prog 22) h0) = fun t h => J22_1 rc md h0 (t 0) (t 1) (t 6) (t 7) (t 8) h := funext fun t => funext fun h => J22_1_at rc md h0 t h
noncomputable def J22_0 (rc : Rec) (md : Md) (h0 : Heap) (s0 : Value) (s1 : Value) (s6 : Value) (s7 : Value) (s8 : Value) (h : Heap) : Option (Value × Heap) :=
  aBin Tryd.prog .eql 5 s6 (.int .u8 237) fun v1 =>
  cBn v1 fun b2 =>
  bif b2 then
    J22_1 rc md h0 s0 s1 s6 s7 (.int .u8 159) h
  else
    J22_1 rc md h0 s0 s1 s6 s7 s8 h
noncomputable def J22_0H (rc : Rec) (md : Md) (h0 : Heap) (X2 : T → Heap → Option (Value × Heap)) (t : T) (h : Heap) : Option (Value × Heap) :=
  aBin Tryd.prog .eql 5 (t 6) (.int .u8 237) fun v1 =>
  cBn v1 fun b2 =>
  bif b2 then
    X2 (upd (upd (upd t 41 (t 6)) 42 v1) 8 (.int .u8 159)) h
  else
    X2 (upd (upd t 41 (t 6)) 42 v1) h
theorem J22_0_h1 (rc : Rec) (md : Md) (h0 : Heap) (X : Nat → T → Heap → Option (Value × Heap)) (t : T) (h : Heap) : execG Tryd.prog cfg X rc md 139 (sub (replS (bodyOf Tryd.prog 22) [([1, 1, 1, 1, 1, 1, 1, 1, 1, 1], 0), ([1, 1, 1, 1, 1, 1, 1, 1, 1], 1), ([1, 1, 1, 1, 1, 1, 1], 2)]) [1, 1, 1, 1, 1, 1]) (kAtG Tryd.prog cfg X rc md 139 (replS (bodyOf Tryd.prog 22) [([1, 1, 1, 1, 1, 1, 1, 1, 1, 1], 0), ([1, 1, 1, 1, 1, 1, 1, 1, 1], 1), ([1, 1, 1, 1, 1, 1, 1], 2)]) [1, 1, 1, 1, 1, 1] (retK Tryd.prog cfg 22 (rsOf Tryd.prog 22) h0)) t h = J22_0H rc md h0 (X 2) t h := by kernel_rfl
theorem J22_0_h2 (rc : Rec) (md : Md) (h0 : Heap) (t : T) (h : Heap) : J22_0H rc md h0 (fun t h => J22_1 rc md h0 (t 0) (t 1) (t 6) (t 7) (t 8) h) t h = J22_0 rc md h0 (t 0) (t 1) (t 6) (t 7) (t 8) h := by (unfold J22_0H J22_0; kernel_rfl)
theorem J22_0_at (rc : Rec) (md : Md) (h0 : Heap) (t : T) (h : Heap) : cut Tryd.prog cfg rc md 139 (bodyOf Tryd.prog 22) [1, 1, 1, 1, 1, 1] (retK Tryd.prog cfg 22 (rsOf Tryd.prog 22) h0) t h = J22_0 rc md h0 (t 0) (t 1) (t 6) (t 7) (t 8) h := by
  rw [cut_holes [([1, 1, 1, 1, 1, 1, 1, 1, 1, 1], 0), ([1, 1, 1, 1, 1, 1, 1, 1, 1], 1), ([1, 1, 1, 1, 1, 1, 1], 2)] [1, 1, 1, 1, 1, 1] (by kernel_rfl), J22_0_h1, show (goX Tryd.prog cfg rc md 139 (bodyOf Tryd.prog 22) [([1, 1, 1, 1, 1, 1, 1, 1, 1, 1], 0), ([1, 1, 1, 1, 1, 1, 1, 1, 1], 1), ([1, 1, 1, 1, 1, 1, 1], 2)] (retK Tryd.prog cfg 22 (rsOf Tryd.prog 22) h0)) 2 = _ from J22_1_cut rc md h0]
  exact J22_0_h2 rc md h0 t h
theorem J22_0_cut (rc : Rec) (md : Md) (h0 : Heap) : cut Tryd.prog cfg rc md 139 (bodyOf Tryd.prog 22) [1, 1, 1, 1, 1, 1] (retK Tryd.prog cfg 22 (rsOf Tryd.prog 22) h0) = fun t h => J22_0 rc md h0 (t 0) (t 1) (t 6) (t 7) (t 8) h := funext fun t => funext fun h => J22_0_at rc md h0 t h
noncomputable def F22 (rc : Rec) (md : Md) (a0 : ByteArray) (a1 : Int) (h0 : Heap) : Option (Value × Heap) :=
  aIndex Tryd.prog 9 (.string a0) (.int .i64 a1) fun v1 =>
  cIn .u8 v1 fun n2 =>
  bif (decide (n2 < 128)) then
    some ((.tuple #[(.int .i64 (IntKind.wrap .i64 n2)), (.int .i64 1)]), h0)
  else
    (bif wantV (.bool (decide (n2 ≥ 194))) true then
    some ((.int .u8 n2), h0)
    else some (undef, h0)).bind fun p3 =>
    (bif wantV (.bool (decide (n2 ≥ 194))) true then
    aBin Tryd.prog .leq 5 p3.1 (.int .u8 223) fun v4 =>
    some (v4, p3.2)
    else some (undef, p3.2)).bind fun p5 =>
    cBn (bif (decide (n2 ≥ 194)) then p5.1 else (.bool false)) fun b6 =>
    (bif wantV (.bool b6) true then
    some ((.string a0), p5.2)
    else some (undef, p5.2)).bind fun p7 =>
    (bif wantV (.bool b6) true then
    some ((.int .i64 a1), p7.2)
    else some (undef, p7.2)).bind fun p8 =>
    (bif wantV (.bool b6) true then
    aBin Tryd.prog .add 3 p8.1 (.int .i64 1) fun v9 =>
    some (v9, p8.2)
    else some (undef, p8.2)).bind fun p10 =>
    (bif wantV (.bool b6) true then
    cl (rc md 31 [p7.1, p10.1, (.int .u8 128), (.int .u8 191)] p10.2) fun v11 h12 =>
    cBn v11 fun b13 =>
    some ((.bool b13), h12)
    else some (undef, p10.2)).bind fun p14 =>
    cBn (bif b6 then p14.1 else (.bool false)) fun b15 =>
    bif b15 then
      aIndex Tryd.prog 9 (.string a0) (.int .i64 (IntKind.wrap .i64 (a1 + 1))) fun v16 =>
      cIn .u8 v16 fun n17 =>
      some ((.tuple #[(.int .i64 (IntKind.wrap .i64 ((IntKind.wrap .i64 ((IntKind.wrap .i64 (IntKind.wrap .u8 (n2 - 192))) * 64)) + (IntKind.wrap .i64 (IntKind.wrap .u8 (n17 - 128)))))), (.int .i64 2)]), h0)
    else
      bif (n2 == 224) then
        J22_0 rc md h0 (.string a0) (.int .i64 a1) (.int .u8 n2) (.int .u8 160) (.int .u8 191) p14.2
      else
        J22_0 rc md h0 (.string a0) (.int .i64 a1) (.int .u8 n2) (.int .u8 128) (.int .u8 191) p14.2
noncomputable def F22H (rc : Rec) (md : Md) (X3 : T → Heap → Option (Value × Heap)) (a0 : ByteArray) (a1 : Int) (h0 : Heap) : Option (Value × Heap) :=
  aIndex Tryd.prog 9 (.string a0) (.int .i64 a1) fun v1 =>
  cIn .u8 v1 fun n2 =>
  bif (decide (n2 < 128)) then
    some ((.tuple #[(.int .i64 (IntKind.wrap .i64 n2)), (.int .i64 1)]), h0)
  else
    (bif wantV (.bool (decide (n2 ≥ 194))) true then
    some ((.int .u8 n2), h0)
    else some (undef, h0)).bind fun p3 =>
    (bif wantV (.bool (decide (n2 ≥ 194))) true then
    aBin Tryd.prog .leq 5 p3.1 (.int .u8 223) fun v4 =>
    some (v4, p3.2)
    else some (undef, p3.2)).bind fun p5 =>
    cBn (bif (decide (n2 ≥ 194)) then p5.1 else (.bool false)) fun b6 =>
    (bif wantV (.bool b6) true then
    some ((.string a0), p5.2)
    else some (undef, p5.2)).bind fun p7 =>
    (bif wantV (.bool b6) true then
    some ((.int .i64 a1), p7.2)
    else some (undef, p7.2)).bind fun p8 =>
    (bif wantV (.bool b6) true then
    aBin Tryd.prog .add 3 p8.1 (.int .i64 1) fun v9 =>
    some (v9, p8.2)
    else some (undef, p8.2)).bind fun p10 =>
    (bif wantV (.bool b6) true then
    cl (rc md 31 [p7.1, p10.1, (.int .u8 128), (.int .u8 191)] p10.2) fun v11 h12 =>
    cBn v11 fun b13 =>
    some ((.bool b13), h12)
    else some (undef, p10.2)).bind fun p14 =>
    cBn (bif b6 then p14.1 else (.bool false)) fun b15 =>
    bif b15 then
      aIndex Tryd.prog 9 (.string a0) (.int .i64 (IntKind.wrap .i64 (a1 + 1))) fun v16 =>
      cIn .u8 v16 fun n17 =>
      some ((.tuple #[(.int .i64 (IntKind.wrap .i64 ((IntKind.wrap .i64 ((IntKind.wrap .i64 (IntKind.wrap .u8 (n2 - 192))) * 64)) + (IntKind.wrap .i64 (IntKind.wrap .u8 (n17 - 128)))))), (.int .i64 2)]), h0)
    else
      bif (n2 == 224) then
        X3 (upd (upd (upd (upd (upd (upd (upd (upd (upd (upd (upd (upd (upd (upd (upd (upd (upd (upd (upd (upd (upd (upd (upd (upd (upd (args0 [(.string a0), (.int .i64 a1)]) 4 (.int .i64 0)) 5 (.int .i64 0)) 9 (.string a0)) 10 (.int .i64 a1)) 11 (.int .u8 n2)) 6 (.int .u8 n2)) 12 (.int .u8 n2)) 13 (.bool (decide (n2 < 128)))) 16 (.int .u8 n2)) 17 (.bool (decide (n2 ≥ 194)))) 18 (.bool (decide (n2 ≥ 194)))) 19 p3.1) 20 p5.1) 21 (.bool b6)) 22 (.bool b6)) 23 p7.1) 24 p8.1) 25 p10.1) 26 p14.1) 27 (.bool b15)) 7 (.int .u8 128)) 8 (.int .u8 191)) 39 (.int .u8 n2)) 40 (.bool (n2 == 224))) 7 (.int .u8 160)) p14.2
      else
        X3 (upd (upd (upd (upd (upd (upd (upd (upd (upd (upd (upd (upd (upd (upd (upd (upd (upd (upd (upd (upd (upd (upd (upd (upd (args0 [(.string a0), (.int .i64 a1)]) 4 (.int .i64 0)) 5 (.int .i64 0)) 9 (.string a0)) 10 (.int .i64 a1)) 11 (.int .u8 n2)) 6 (.int .u8 n2)) 12 (.int .u8 n2)) 13 (.bool (decide (n2 < 128)))) 16 (.int .u8 n2)) 17 (.bool (decide (n2 ≥ 194)))) 18 (.bool (decide (n2 ≥ 194)))) 19 p3.1) 20 p5.1) 21 (.bool b6)) 22 (.bool b6)) 23 p7.1) 24 p8.1) 25 p10.1) 26 p14.1) 27 (.bool b15)) 7 (.int .u8 128)) 8 (.int .u8 191)) 39 (.int .u8 n2)) 40 (.bool (n2 == 224))) p14.2
theorem F22_h0 (rc : Rec) (md : Md) (a0 : ByteArray) (a1 : Int) (h0 : Heap) : callStep0 Tryd.prog cfg rc md 22 [(.string a0), (.int .i64 a1)] h0 = exec Tryd.prog cfg rc ⟨h0.length, h0.length⟩ 139 (bodyOf Tryd.prog 22) (retK Tryd.prog cfg 22 (rsOf Tryd.prog 22) h0) (args0 [(.string a0), (.int .i64 a1)]) h0 := callStep0_run (by kernel_rfl) (by kernel_rfl) (by kernel_rfl)
theorem F22_h1 (rc : Rec) (md : Md) (X : Nat → T → Heap → Option (Value × Heap)) (a0 : ByteArray) (a1 : Int) (h0 : Heap) : execG Tryd.prog cfg X rc md 139 (replS (bodyOf Tryd.prog 22) [([1, 1, 1, 1, 1, 1, 1, 1, 1, 1], 0), ([1, 1, 1, 1, 1, 1, 1, 1, 1], 1), ([1, 1, 1, 1, 1, 1, 1], 2), ([1, 1, 1, 1, 1, 1], 3)]) (retK Tryd.prog cfg 22 (rsOf Tryd.prog 22) h0) (args0 [(.string a0), (.int .i64 a1)]) h0 = F22H rc md (X 3) a0 a1 h0 := by kernel_rfl
theorem F22_h2 (rc : Rec) (md : Md) (a0 : ByteArray) (a1 : Int) (h0 : Heap) : F22H rc md (fun t h => J22_0 rc md h0 (t 0) (t 1) (t 6) (t 7) (t 8) h) a0 a1 h0 = F22 rc md a0 a1 h0 := by unfold F22H F22; kernel_rfl
theorem F22_eq0 (rc : Rec) (md : Md) (a0 : ByteArray) (a1 : Int) (h0 : Heap) : callStep0 Tryd.prog cfg rc md 22 [(.string a0), (.int .i64 a1)] h0 = F22 rc ⟨h0.length, h0.length⟩ a0 a1 h0 := by
  rw [F22_h0, exec_holes [([1, 1, 1, 1, 1, 1, 1, 1, 1, 1], 0), ([1, 1, 1, 1, 1, 1, 1, 1, 1], 1), ([1, 1, 1, 1, 1, 1, 1], 2), ([1, 1, 1, 1, 1, 1], 3)] (by kernel_rfl), F22_h1, show (goX Tryd.prog cfg rc ⟨h0.length, h0.length⟩ 139 (bodyOf Tryd.prog 22) [([1, 1, 1, 1, 1, 1, 1, 1, 1, 1], 0), ([1, 1, 1, 1, 1, 1, 1, 1, 1], 1), ([1, 1, 1, 1, 1, 1, 1], 2), ([1, 1, 1, 1, 1, 1], 3)] (retK Tryd.prog cfg 22 (rsOf Tryd.prog 22) h0)) 3 = _ from J22_0_cut rc ⟨h0.length, h0.length⟩ h0]
  exact F22_h2 rc _ a0 a1 h0
theorem F22_eq (rc : Rec) (md : Md) (a0 : ByteArray) (a1 : Int) (h0 : Heap) : callStep Tryd.prog cfg rc md 22 [(.string a0), (.int .i64 a1)] h0 = alone h0 (F22 rc ⟨0, 0⟩ a0 a1 []) := by
  have e : callStep Tryd.prog cfg rc md 22 [(.string a0), (.int .i64 a1)] h0 = alone h0 (callStep0 Tryd.prog cfg rc ⟨0, 0⟩ 22 [(.string a0), (.int .i64 a1)] []) := by kernel_rfl
  rw [e, F22_eq0]; rfl

/-- tombolo/val.Num -/
noncomputable def F24 (rc : Rec) (md : Md) (a0 : Value) (h0 : Heap) : Option (Value × Heap) :=
  aAssert Tryd.prog a0 3 true fun v1 =>
  exT v1 0 fun v2 =>
  cIn .i64 v2 fun n3 =>
  exT v1 1 fun v4 =>
  cBn v4 fun b5 =>
  some ((.tuple #[(.int .i64 n3), (.bool b5)]), h0)
theorem F24_eq0 (rc : Rec) (md : Md) (a0 : Value) (h0 : Heap) : callStep0 Tryd.prog cfg rc md 24 [a0] h0 = F24 rc ⟨h0.length, h0.length⟩ a0 h0 := by kernel_rfl
theorem F24_eq (rc : Rec) (md : Md) (a0 : Value) (h0 : Heap) : callStep Tryd.prog cfg rc md 24 [a0] h0 = F24 rc ⟨h0.length, h0.length⟩ a0 h0 := (callStep_ne (by kernel_rfl)).trans (F24_eq0 rc md a0 h0)

/-- tombolo/val.Str -/
noncomputable def F25 (rc : Rec) (md : Md) (a0 : Value) (h0 : Heap) : Option (Value × Heap) :=
  aAssert Tryd.prog a0 9 true fun v1 =>
  exT v1 0 fun v2 =>
  exT v1 1 fun v3 =>
  cBn v3 fun b4 =>
  fin2 h0 (.tuple #[v2, (.bool b4)])
theorem F25_eq0 (rc : Rec) (md : Md) (a0 : Value) (h0 : Heap) : callStep0 Tryd.prog cfg rc md 25 [a0] h0 = F25 rc ⟨h0.length, h0.length⟩ a0 h0 := by kernel_rfl
theorem F25_eq (rc : Rec) (md : Md) (a0 : Value) (h0 : Heap) : callStep Tryd.prog cfg rc md 25 [a0] h0 = F25 rc ⟨h0.length, h0.length⟩ a0 h0 := (callStep_ne (by kernel_rfl)).trans (F25_eq0 rc md a0 h0)

/-- tombolo/val.Rune -/
noncomputable def F26 (rc : Rec) (md : Md) (a0 : Value) (h0 : Heap) : Option (Value × Heap) :=
  aAssert Tryd.prog a0 21 true fun v1 =>
  exT v1 0 fun v2 =>
  cIn .i32 v2 fun n3 =>
  exT v1 1 fun v4 =>
  cBn v4 fun b5 =>
  some ((.tuple #[(.int .i32 n3), (.bool b5)]), h0)
theorem F26_eq0 (rc : Rec) (md : Md) (a0 : Value) (h0 : Heap) : callStep0 Tryd.prog cfg rc md 26 [a0] h0 = F26 rc ⟨h0.length, h0.length⟩ a0 h0 := by kernel_rfl
theorem F26_eq (rc : Rec) (md : Md) (a0 : Value) (h0 : Heap) : callStep Tryd.prog cfg rc md 26 [a0] h0 = F26 rc ⟨h0.length, h0.length⟩ a0 h0 := (callStep_ne (by kernel_rfl)).trans (F26_eq0 rc md a0 h0)

/-- tombolo/val.Items -/
noncomputable def F27 (rc : Rec) (md : Md) (a0 : Value) (h0 : Heap) : Option (Value × Heap) :=
  aAssert Tryd.prog a0 23 true fun v1 =>
  exT v1 0 fun v2 =>
  exT v1 1 fun v3 =>
  cBn v3 fun b4 =>
  fin2 h0 (.tuple #[v2, (.bool b4)])
theorem F27_eq0 (rc : Rec) (md : Md) (a0 : Value) (h0 : Heap) : callStep0 Tryd.prog cfg rc md 27 [a0] h0 = F27 rc ⟨h0.length, h0.length⟩ a0 h0 := by kernel_rfl
theorem F27_eq (rc : Rec) (md : Md) (a0 : Value) (h0 : Heap) : callStep Tryd.prog cfg rc md 27 [a0] h0 = F27 rc ⟨h0.length, h0.length⟩ a0 h0 := (callStep_ne (by kernel_rfl)).trans (F27_eq0 rc md a0 h0)

/-- slices.EqualFunc[[]any,[]any,any,any] -/
noncomputable def Jk28_0 (rc : Rec) (md : Md) (h0 : Heap) (e : Exit) (s1 : Value) (s2 : Value) (s6 : Value) (s15 : Value) (s16 : Value) (s17 : Value) (h : Heap) : Option (Value × Heap) :=
  match e with
  | .normal =>
    some ((.bool true), h0)
  | .exit j =>
    bif Nat.beq j 0 then
      some ((.bool true), h0)
    else
      none
  | .ret =>
    fin2 h0 s6
  | .goto l => none
  | .panic ps => none
  | .outgrown => none
theorem Jk28_0_at (rc : Rec) (md : Md) (h0 : Heap) (e : Exit) (t : T) (h : Heap) : kAt Tryd.prog cfg rc md 32 (bodyOf Tryd.prog 28) [1, 1, 0, 1, 0] (retK Tryd.prog cfg 28 (rsOf Tryd.prog 28) h0) e t h = Jk28_0 rc md h0 e (t 1) (t 2) (t 6) (t 15) (t 16) (t 17) h := by cases e <;> kernel_rfl
/-- a round -/
noncomputable def Jr28_0 (rc : Rec) (md : Md) (s1 : Value) (s2 : Value) (s6 : Value) (s15 : Value) (s16 : Value) (s17 : Value) (h : Heap) : Option (((Value × Value × Value × Value × Value × Value) × Heap) ⊕ (Exit × (Value × Value × Value × Value × Value × Value) × Heap)) :=
  aBin Tryd.prog .lss 3 s17 s16 fun v1 =>
  cBn v1 fun b2 =>
  bif b2 then
    ixSV 1 s15 s17 fun v3 =>
    ld1 v3 h fun v4 =>
    ixSV 1 s1 s17 fun v5 =>
    ld1 v5 h fun v6 =>
    clV rc md s2 [v4, v6] h fun v7 h8 =>
    cBn v7 fun b9 =>
    bif !b9 then
      some (.inr (.ret, (s1, s2, (.bool false), s15, s16, s17), h8))
    else
      aBin Tryd.prog .add 3 s17 (.int .i64 1) fun v10 =>
      some (.inl ((s1, s2, s6, s15, s16, v10), h8))
  else
    some (.inr ((.exit 0), (s1, s2, s6, s15, s16, s17), h))
theorem Jr28_0_at (rc : Rec) (md : Md) (t : T) (h : Heap) : exec Tryd.prog cfg rc md 32 (sub (bodyOf Tryd.prog 28) [1, 1, 0, 1, 0, 0]) (rndK (fun t => (t 1, t 2, t 6, t 15, t 16, t 17))) t h = Jr28_0 rc md (t 1) (t 2) (t 6) (t 15) (t 16) (t 17) h := by kernel_rfl
noncomputable def J28_0 (rc : Rec) (md : Md) (h0 : Heap) (s1 : Value) (s2 : Value) (s6 : Value) (s15 : Value) (s16 : Value) (s17 : Value) (h : Heap) : Option (Value × Heap) :=
  runL (fun x : (Value × Value × Value × Value × Value × Value) × Heap => Jr28_0 rc md x.1.1 x.1.2.1 x.1.2.2.1 x.1.2.2.2.1 x.1.2.2.2.2.1 x.1.2.2.2.2.2 x.2) (fun e (s : Value × Value × Value × Value × Value × Value) h => Jk28_0 rc md h0 e s.1 s.2.1 s.2.2.1 s.2.2.2.1 s.2.2.2.2.1 s.2.2.2.2.2 h) (s1, s2, s6, s15, s16, s17) h
theorem J28_0_step (rc : Rec) (md : Md) (h0 : Heap) (s1 : Value) (s2 : Value) (s6 : Value) (s15 : Value) (s16 : Value) (s17 : Value) (h : Heap) : J28_0 rc md h0 s1 s2 s6 s15 s16 s17 h = (Jr28_0 rc md s1 s2 s6 s15 s16 s17 h).bind fun x => match x with
    | .inl (s, h) => J28_0 rc md h0 s.1 s.2.1 s.2.2.1 s.2.2.2.1 s.2.2.2.2.1 s.2.2.2.2.2 h
    | .inr (e, s, h) => Jk28_0 rc md h0 e s.1 s.2.1 s.2.2.1 s.2.2.2.1 s.2.2.2.2.1 s.2.2.2.2.2 h := by
  unfold J28_0
  rw [runL_eq]
  refine congrArg (Option.bind _) (funext fun x => ?_)
  rcases x with ⟨s, h⟩ | ⟨e, s, h⟩ <;> rfl
theorem J28_0_cut (rc : Rec) (md : Md) (h0 : Heap) : cut Tryd.prog cfg rc md 32 (bodyOf Tryd.prog 28) [1, 1, 0, 1, 0] (retK Tryd.prog cfg 28 (rsOf Tryd.prog 28) h0) = fun t h => J28_0 rc md h0 (t 1) (t 2) (t 6) (t 15) (t 16) (t 17) h := by
  funext t h
  have e : sub (bodyOf Tryd.prog 28) [1, 1, 0, 1, 0] = .loop (sub (bodyOf Tryd.prog 28) [1, 1, 0, 1, 0, 0]) := by kernel_rfl
  unfold cut
  rw [e]
  exact loop_eq (by kernel_rfl) (fun t => (t 1, t 2, t 6, t 15, t 16, t 17)) (fun x : (Value × Value × Value × Value × Value × Value) × Heap => Jr28_0 rc md x.1.1 x.1.2.1 x.1.2.2.1 x.1.2.2.2.1 x.1.2.2.2.2.1 x.1.2.2.2.2.2 x.2) (fun t h => Jr28_0_at rc md t h) (fun e (s : Value × Value × Value × Value × Value × Value) h => Jk28_0 rc md h0 e s.1 s.2.1 s.2.2.1 s.2.2.2.1 s.2.2.2.2.1 s.2.2.2.2.2 h) (fun e t h => Jk28_0_at rc md h0 e t h) t h
noncomputable def F28 (rc : Rec) (md : Md) (a0 : Value) (a1 : Value) (a2 : Value) (h0 : Heap) : Option (Value × Heap) :=
  lenS a0 fun v1 =>
  cIn .i64 v1 fun n2 =>
  lenS a1 fun v3 =>
  cIn .i64 v3 fun n4 =>
  bif (n2 != n4) then
    some ((.bool false), h0)
  else
    lenS a0 fun v5 =>
    cIn .i64 v5 fun n6 =>
    J28_0 rc md h0 a1 a2 (.bool false) a0 (.int .i64 n6) (.int .i64 0) h0
noncomputable def F28H (rc : Rec) (md : Md) (X0 : T → Heap → Option (Value × Heap)) (a0 : Value) (a1 : Value) (a2 : Value) (h0 : Heap) : Option (Value × Heap) :=
  lenS a0 fun v1 =>
  cIn .i64 v1 fun n2 =>
  lenS a1 fun v3 =>
  cIn .i64 v3 fun n4 =>
  bif (n2 != n4) then
    some ((.bool false), h0)
  else
    lenS a0 fun v5 =>
    cIn .i64 v5 fun n6 =>
    X0 (upd (upd (upd (upd (upd (upd (upd (upd (upd (args0 [a0, a1, a2]) 6 (.bool false)) 10 a0) 11 (.int .i64 n2)) 12 a1) 13 (.int .i64 n4)) 14 (.bool (n2 != n4))) 15 a0) 16 (.int .i64 n6)) 17 (.int .i64 0)) h0
theorem F28_h0 (rc : Rec) (md : Md) (a0 : Value) (a1 : Value) (a2 : Value) (h0 : Heap) : callStep0 Tryd.prog cfg rc md 28 [a0, a1, a2] h0 = exec Tryd.prog cfg rc ⟨h0.length, h0.length⟩ 32 (bodyOf Tryd.prog 28) (retK Tryd.prog cfg 28 (rsOf Tryd.prog 28) h0) (args0 [a0, a1, a2]) h0 := callStep0_run (by kernel_rfl) (by kernel_rfl) (by kernel_rfl)
theorem F28_h1 (rc : Rec) (md : Md) (X : Nat → T → Heap → Option (Value × Heap)) (a0 : Value) (a1 : Value) (a2 : Value) (h0 : Heap) : execG Tryd.prog cfg X rc md 32 (replS (bodyOf Tryd.prog 28) [([1, 1, 0, 1, 0], 0)]) (retK Tryd.prog cfg 28 (rsOf Tryd.prog 28) h0) (args0 [a0, a1, a2]) h0 = F28H rc md (X 0) a0 a1 a2 h0 := by kernel_rfl
theorem F28_h2 (rc : Rec) (md : Md) (a0 : Value) (a1 : Value) (a2 : Value) (h0 : Heap) : F28H rc md (fun t h => J28_0 rc md h0 (t 1) (t 2) (t 6) (t 15) (t 16) (t 17) h) a0 a1 a2 h0 = F28 rc md a0 a1 a2 h0 := by unfold F28H F28; kernel_rfl
theorem F28_eq0 (rc : Rec) (md : Md) (a0 : Value) (a1 : Value) (a2 : Value) (h0 : Heap) : callStep0 Tryd.prog cfg rc md 28 [a0, a1, a2] h0 = F28 rc ⟨h0.length, h0.length⟩ a0 a1 a2 h0 := by
  rw [F28_h0, exec_holes [([1, 1, 0, 1, 0], 0)] (by kernel_rfl), F28_h1, show (goX Tryd.prog cfg rc ⟨h0.length, h0.length⟩ 32 (bodyOf Tryd.prog 28) [([1, 1, 0, 1, 0], 0)] (retK Tryd.prog cfg 28 (rsOf Tryd.prog 28) h0)) 0 = _ from J28_0_cut rc ⟨h0.length, h0.length⟩ h0]
  exact F28_h2 rc _ a0 a1 a2 h0
theorem F28_eq (rc : Rec) (md : Md) (a0 : Value) (a1 : Value) (a2 : Value) (h0 : Heap) : callStep Tryd.prog cfg rc md 28 [a0, a1, a2] h0 = F28 rc ⟨h0.length, h0.length⟩ a0 a1 a2 h0 := (callStep_ne (by kernel_rfl)).trans (F28_eq0 rc md a0 a1 a2 h0)

/-- (tombolo/scan.run).number -/
noncomputable def Jk30_0 (rc : Rec) (md : Md) (h0 : Heap) (e : Exit) (s2 : Value) (s3 : Value) (s4 : Value) (s25 : Value) (s26 : Value) (s27 : Value) (h : Heap) : Option (Value × Heap) :=
  match e with
  | .normal =>
    fin2 h0 (.tuple #[s4, (.bool true)])
  | .exit j =>
    bif Nat.beq j 0 then
      fin2 h0 (.tuple #[s4, (.bool true)])
    else
      none
  | .ret =>
    fin2 h0 (.tuple #[s2, s3])
  | .goto l => none
  | .panic ps => none
  | .outgrown => none
theorem Jk30_0_at (rc : Rec) (md : Md) (h0 : Heap) (e : Exit) (t : T) (h : Heap) : kAt Tryd.prog cfg rc md 39 (bodyOf Tryd.prog 30) [1, 1, 1, 0, 1, 0] (retK Tryd.prog cfg 30 (rsOf Tryd.prog 30) h0) e t h = Jk30_0 rc md h0 e (t 2) (t 3) (t 4) (t 25) (t 26) (t 27) h := by cases e <;> kernel_rfl
/-- a round -/
noncomputable def Jr30_0 (rc : Rec) (md : Md) (s2 : Value) (s3 : Value) (s4 : Value) (s25 : Value) (s26 : Value) (s27 : Value) (h : Heap) : Option (((Value × Value × Value × Value × Value × Value) × Heap) ⊕ (Exit × (Value × Value × Value × Value × Value × Value) × Heap)) :=
  aBin Tryd.prog .lss 3 s27 s26 fun v1 =>
  cBn v1 fun b2 =>
  bif b2 then
    ixSV 1 s25 s27 fun v3 =>
    ld1 v3 h fun v4 =>
    cIn .i32 v4 fun n5 =>
    aBin Tryd.prog .mul 3 (.int .i64 10) s4 fun v6 =>
    aBin Tryd.prog .add 3 v6 (.int .i64 (IntKind.wrap .i64 (IntKind.wrap .i32 (n5 - 48)))) fun v7 =>
    aBin Tryd.prog .add 3 s27 (.int .i64 1) fun v8 =>
    some (.inl ((s2, s3, v7, s25, s26, v8), h))
  else
    some (.inr ((.exit 0), (s2, s3, s4, s25, s26, s27), h))
theorem Jr30_0_at (rc : Rec) (md : Md) (t : T) (h : Heap) : exec Tryd.prog cfg rc md 39 (sub (bodyOf Tryd.prog 30) [1, 1, 1, 0, 1, 0, 0]) (rndK (fun t => (t 2, t 3, t 4, t 25, t 26, t 27))) t h = Jr30_0 rc md (t 2) (t 3) (t 4) (t 25) (t 26) (t 27) h := by kernel_rfl
noncomputable def J30_0 (rc : Rec) (md : Md) (h0 : Heap) (s2 : Value) (s3 : Value) (s4 : Value) (s25 : Value) (s26 : Value) (s27 : Value) (h : Heap) : Option (Value × Heap) :=
  runL (fun x : (Value × Value × Value × Value × Value × Value) × Heap => Jr30_0 rc md x.1.1 x.1.2.1 x.1.2.2.1 x.1.2.2.2.1 x.1.2.2.2.2.1 x.1.2.2.2.2.2 x.2) (fun e (s : Value × Value × Value × Value × Value × Value) h => Jk30_0 rc md h0 e s.1 s.2.1 s.2.2.1 s.2.2.2.1 s.2.2.2.2.1 s.2.2.2.2.2 h) (s2, s3, s4, s25, s26, s27) h
theorem J30_0_step (rc : Rec) (md : Md) (h0 : Heap) (s2 : Value) (s3 : Value) (s4 : Value) (s25 : Value) (s26 : Value) (s27 : Value) (h : Heap) : J30_0 rc md h0 s2 s3 s4 s25 s26 s27 h = (Jr30_0 rc md s2 s3 s4 s25 s26 s27 h).bind fun x => match x with
    | .inl (s, h) => J30_0 rc md h0 s.1 s.2.1 s.2.2.1 s.2.2.2.1 s.2.2.2.2.1 s.2.2.2.2.2 h
    | .inr (e, s, h) => Jk30_0 rc md h0 e s.1 s.2.1 s.2.2.1 s.2.2.2.1 s.2.2.2.2.1 s.2.2.2.2.2 h := by
  unfold J30_0
  rw [runL_eq]
  refine congrArg (Option.bind _) (funext fun x => ?_)
  rcases x with ⟨s, h⟩ | ⟨e, s, h⟩ <;> rfl
theorem J30_0_cut (rc : Rec) (md : Md) (h0 : Heap) : cut Tryd.prog cfg rc md 39 (bodyOf Tryd.prog 30) [1, 1, 1, 0, 1, 0] (retK Tryd.prog cfg 30 (rsOf Tryd.prog 30) h0) = fun t h => J30_0 rc md h0 (t 2) (t 3) (t 4) (t 25) (t 26) (t 27) h := by
  funext t h
  have e : sub (bodyOf Tryd.prog 30) [1, 1, 1, 0, 1, 0] = .loop (sub (bodyOf Tryd.prog 30) [1, 1, 1, 0, 1, 0, 0]) := by kernel_rfl
  unfold cut
  rw [e]
  exact loop_eq (by kernel_rfl) (fun t => (t 2, t 3, t 4, t 25, t 26, t 27)) (fun x : (Value × Value × Value × Value × Value × Value) × Heap => Jr30_0 rc md x.1.1 x.1.2.1 x.1.2.2.1 x.1.2.2.2.1 x.1.2.2.2.2.1 x.1.2.2.2.2.2 x.2) (fun t h => Jr30_0_at rc md t h) (fun e (s : Value × Value × Value × Value × Value × Value) h => Jk30_0 rc md h0 e s.1 s.2.1 s.2.2.1 s.2.2.2.1 s.2.2.2.2.1 s.2.2.2.2.2 h) (fun e t h => Jk30_0_at rc md h0 e t h) t h
noncomputable def F30 (rc : Rec) (md : Md) (a0_0 : Int) (a0_1 : Int) (a0_2 : Value) (h0 : Heap) : Option (Value × Heap) :=
  let h1 : Heap := h0 ++ [.own [(.int .i64 a0_0), (.int .i64 a0_1), a0_2]]
  ld1 (.pointer (some ⟨h0.length, 2, none⟩)) h1 fun v2 =>
  lenS v2 fun v3 =>
  cIn .i64 v3 fun n4 =>
  (bif wantV (.bool (decide (n4 > 9))) false then
  some ((.pointer (some ⟨h0.length, 2, none⟩)), h1)
  else some (undef, h1)).bind fun p5 =>
  (bif wantV (.bool (decide (n4 > 9))) false then
  ld1 p5.1 p5.2 fun v6 =>
  some (v6, p5.2)
  else some (undef, p5.2)).bind fun p7 =>
  (bif wantV (.bool (decide (n4 > 9))) false then
  lenS p7.1 fun v8 =>
  cIn .i64 v8 fun n9 =>
  some ((.int .i64 n9), p7.2)
  else some (undef, p7.2)).bind fun p10 =>
  (bif wantV (.bool (decide (n4 > 9))) false then
  aBin Tryd.prog .gtr 3 p10.1 (.int .i64 1) fun v11 =>
  some (v11, p10.2)
  else some (undef, p10.2)).bind fun p12 =>
  (bif wantV (.bool (decide (n4 > 9))) false then
  some (p12.1, p12.2)
  else some (undef, p12.2)).bind fun p13 =>
  (bif wantV p13.1 true then
  some ((.pointer (some ⟨h0.length, 2, none⟩)), p13.2)
  else some (undef, p13.2)).bind fun p14 =>
  (bif wantV p13.1 true then
  ld1 p14.1 p14.2 fun v15 =>
  some (v15, p14.2)
  else some (undef, p14.2)).bind fun p16 =>
  (bif wantV p13.1 true then
  ixS 1 p16.1 0 fun v17 =>
  some (v17, p16.2)
  else some (undef, p16.2)).bind fun p18 =>
  (bif wantV p13.1 true then
  ld1 p18.1 p18.2 fun v19 =>
  cIn .i32 v19 fun n20 =>
  some ((.int .i32 n20), p18.2)
  else some (undef, p18.2)).bind fun p21 =>
  (bif wantV p13.1 true then
  aBin Tryd.prog .eql 21 p21.1 (.int .i32 48) fun v22 =>
  some (v22, p21.2)
  else some (undef, p21.2)).bind fun p23 =>
  (bif wantV (.bool (decide (n4 > 9))) false then
  cBn p13.1 fun q24 =>
  cBn (bif q24 then p23.1 else (.bool false)) fun b25 =>
  some ((.bool b25), p23.2)
  else some (undef, p23.2)).bind fun p26 =>
  cBn (bif (decide (n4 > 9)) then (.bool true) else p26.1) fun b27 =>
  bif b27 then
    some ((.tuple #[(.int .i64 0), (.bool false)]), h0)
  else
    ld1 (.pointer (some ⟨h0.length, 2, none⟩)) p26.2 fun v28 =>
    lenS v28 fun v29 =>
    cIn .i64 v29 fun n30 =>
    J30_0 rc md h0 (.int .i64 0) (.bool false) (.int .i64 0) v28 (.int .i64 n30) (.int .i64 0) p26.2
noncomputable def F30H (rc : Rec) (md : Md) (X0 : T → Heap → Option (Value × Heap)) (a0_0 : Int) (a0_1 : Int) (a0_2 : Value) (h0 : Heap) : Option (Value × Heap) :=
  let h1 : Heap := h0 ++ [.own [(.int .i64 a0_0), (.int .i64 a0_1), a0_2]]
  ld1 (.pointer (some ⟨h0.length, 2, none⟩)) h1 fun v2 =>
  lenS v2 fun v3 =>
  cIn .i64 v3 fun n4 =>
  (bif wantV (.bool (decide (n4 > 9))) false then
  some ((.pointer (some ⟨h0.length, 2, none⟩)), h1)
  else some (undef, h1)).bind fun p5 =>
  (bif wantV (.bool (decide (n4 > 9))) false then
  ld1 p5.1 p5.2 fun v6 =>
  some (v6, p5.2)
  else some (undef, p5.2)).bind fun p7 =>
  (bif wantV (.bool (decide (n4 > 9))) false then
  lenS p7.1 fun v8 =>
  cIn .i64 v8 fun n9 =>
  some ((.int .i64 n9), p7.2)
  else some (undef, p7.2)).bind fun p10 =>
  (bif wantV (.bool (decide (n4 > 9))) false then
  aBin Tryd.prog .gtr 3 p10.1 (.int .i64 1) fun v11 =>
  some (v11, p10.2)
  else some (undef, p10.2)).bind fun p12 =>
  (bif wantV (.bool (decide (n4 > 9))) false then
  some (p12.1, p12.2)
  else some (undef, p12.2)).bind fun p13 =>
  (bif wantV p13.1 true then
  some ((.pointer (some ⟨h0.length, 2, none⟩)), p13.2)
  else some (undef, p13.2)).bind fun p14 =>
  (bif wantV p13.1 true then
  ld1 p14.1 p14.2 fun v15 =>
  some (v15, p14.2)
  else some (undef, p14.2)).bind fun p16 =>
  (bif wantV p13.1 true then
  ixS 1 p16.1 0 fun v17 =>
  some (v17, p16.2)
  else some (undef, p16.2)).bind fun p18 =>
  (bif wantV p13.1 true then
  ld1 p18.1 p18.2 fun v19 =>
  cIn .i32 v19 fun n20 =>
  some ((.int .i32 n20), p18.2)
  else some (undef, p18.2)).bind fun p21 =>
  (bif wantV p13.1 true then
  aBin Tryd.prog .eql 21 p21.1 (.int .i32 48) fun v22 =>
  some (v22, p21.2)
  else some (undef, p21.2)).bind fun p23 =>
  (bif wantV (.bool (decide (n4 > 9))) false then
  cBn p13.1 fun q24 =>
  cBn (bif q24 then p23.1 else (.bool false)) fun b25 =>
  some ((.bool b25), p23.2)
  else some (undef, p23.2)).bind fun p26 =>
  cBn (bif (decide (n4 > 9)) then (.bool true) else p26.1) fun b27 =>
  bif b27 then
    some ((.tuple #[(.int .i64 0), (.bool false)]), h0)
  else
    ld1 (.pointer (some ⟨h0.length, 2, none⟩)) p26.2 fun v28 =>
    lenS v28 fun v29 =>
    cIn .i64 v29 fun n30 =>
    X0 (upd (upd (upd (upd (upd (upd (upd (upd (upd (upd (upd (upd (upd (upd (upd (upd (upd (upd (upd (upd (upd (upd (upd (upd (upd (args0 [(.agg #[(.int .i64 a0_0), (.int .i64 a0_1), a0_2])]) 1 (.pointer (some ⟨h0.length, 0, none⟩))) 2 (.int .i64 0)) 3 (.bool false)) 7 (.pointer (some ⟨h0.length, 2, none⟩))) 8 v2) 9 (.int .i64 n4)) 10 (.bool (decide (n4 > 9)))) 11 (.bool (decide (n4 > 9)))) 12 p5.1) 13 p7.1) 14 p10.1) 15 p12.1) 16 p13.1) 17 p14.1) 18 p16.1) 19 p18.1) 20 p21.1) 21 p23.1) 22 p26.1) 23 (.bool b27)) 4 (.int .i64 0)) 24 (.pointer (some ⟨h0.length, 2, none⟩))) 25 v28) 26 (.int .i64 n30)) 27 (.int .i64 0)) p26.2
theorem F30_h0 (rc : Rec) (md : Md) (a0_0 : Int) (a0_1 : Int) (a0_2 : Value) (h0 : Heap) : callStep0 Tryd.prog cfg rc md 30 [(.agg #[(.int .i64 a0_0), (.int .i64 a0_1), a0_2])] h0 = exec Tryd.prog cfg rc ⟨h0.length, h0.length⟩ 39 (bodyOf Tryd.prog 30) (retK Tryd.prog cfg 30 (rsOf Tryd.prog 30) h0) (args0 [(.agg #[(.int .i64 a0_0), (.int .i64 a0_1), a0_2])]) h0 := callStep0_run (by kernel_rfl) (by kernel_rfl) (by kernel_rfl)
theorem F30_h1 (rc : Rec) (md : Md) (X : Nat → T → Heap → Option (Value × Heap)) (a0_0 : Int) (a0_1 : Int) (a0_2 : Value) (h0 : Heap) : execG Tryd.prog cfg X rc md 39 (replS (bodyOf Tryd.prog 30) [([1, 1, 1, 0, 1, 0], 0)]) (retK Tryd.prog cfg 30 (rsOf Tryd.prog 30) h0) (args0 [(.agg #[(.int .i64 a0_0), (.int .i64 a0_1), a0_2])]) h0 = F30H rc md (X 0) a0_0 a0_1 a0_2 h0 := by kernel_rfl
theorem F30_h2 (rc : Rec) (md : Md) (a0_0 : Int) (a0_1 : Int) (a0_2 : Value) (h0 : Heap) : F30H rc md (fun t h => J30_0 rc md h0 (t 2) (t 3) (t 4) (t 25) (t 26) (t 27) h) a0_0 a0_1 a0_2 h0 = F30 rc md a0_0 a0_1 a0_2 h0 := by unfold F30H F30; kernel_rfl
theorem F30_eq0 (rc : Rec) (md : Md) (a0_0 : Int) (a0_1 : Int) (a0_2 : Value) (h0 : Heap) : callStep0 Tryd.prog cfg rc md 30 [(.agg #[(.int .i64 a0_0), (.int .i64 a0_1), a0_2])] h0 = F30 rc ⟨h0.length, h0.length⟩ a0_0 a0_1 a0_2 h0 := by
  rw [F30_h0, exec_holes [([1, 1, 1, 0, 1, 0], 0)] (by kernel_rfl), F30_h1, show (goX Tryd.prog cfg rc ⟨h0.length, h0.length⟩ 39 (bodyOf Tryd.prog 30) [([1, 1, 1, 0, 1, 0], 0)] (retK Tryd.prog cfg 30 (rsOf Tryd.prog 30) h0)) 0 = _ from J30_0_cut rc ⟨h0.length, h0.length⟩ h0]
  exact F30_h2 rc _ a0_0 a0_1 a0_2 h0
theorem F30_eq (rc : Rec) (md : Md) (a0_0 : Int) (a0_1 : Int) (a0_2 : Value) (h0 : Heap) : callStep Tryd.prog cfg rc md 30 [(.agg #[(.int .i64 a0_0), (.int .i64 a0_1), a0_2])] h0 = F30 rc ⟨h0.length, h0.length⟩ a0_0 a0_1 a0_2 h0 := (callStep_ne (by kernel_rfl)).trans (F30_eq0 rc md a0_0 a0_1 a0_2 h0)

/-- tombolo/tomboloref04.between -/
noncomputable def F31 (rc : Rec) (md : Md) (a0 : ByteArray) (a1 : Int) (a2 : Int) (a3 : Int) (h0 : Heap) : Option (Value × Heap) :=
  lenT (.string a0) fun v1 =>
  cIn .i64 v1 fun n2 =>
  (bif wantV (.bool (decide (a1 < n2))) true then
  some ((.string a0), h0)
  else some (undef, h0)).bind fun p3 =>
  (bif wantV (.bool (decide (a1 < n2))) true then
  some ((.int .i64 a1), p3.2)
  else some (undef, p3.2)).bind fun p4 =>
  (bif wantV (.bool (decide (a1 < n2))) true then
  aIndex Tryd.prog 9 p3.1 p4.1 fun v5 =>
  cIn .u8 v5 fun n6 =>
  some ((.int .u8 n6), p4.2)
  else some (undef, p4.2)).bind fun p7 =>
  (bif wantV (.bool (decide (a1 < n2))) true then
  some ((.int .u8 a2), p7.2)
  else some (undef, p7.2)).bind fun p8 =>
  (bif wantV (.bool (decide (a1 < n2))) true then
  aBin Tryd.prog .geq 5 p7.1 p8.1 fun v9 =>
  some (v9, p8.2)
  else some (undef, p8.2)).bind fun p10 =>
  cBn (bif (decide (a1 < n2)) then p10.1 else (.bool false)) fun b11 =>
  (bif wantV (.bool b11) true then
  some ((.string a0), p10.2)
  else some (undef, p10.2)).bind fun p12 =>
  (bif wantV (.bool b11) true then
  some ((.int .i64 a1), p12.2)
  else some (undef, p12.2)).bind fun p13 =>
  (bif wantV (.bool b11) true then
  aIndex Tryd.prog 9 p12.1 p13.1 fun v14 =>
  cIn .u8 v14 fun n15 =>
  some ((.int .u8 n15), p13.2)
  else some (undef, p13.2)).bind fun p16 =>
  (bif wantV (.bool b11) true then
  some ((.int .u8 a3), p16.2)
  else some (undef, p16.2)).bind fun p17 =>
  (bif wantV (.bool b11) true then
  aBin Tryd.prog .leq 5 p16.1 p17.1 fun v18 =>
  some (v18, p17.2)
  else some (undef, p17.2)).bind fun p19 =>
  cBn (bif b11 then p19.1 else (.bool false)) fun b20 =>
  some ((.bool b20), h0)
theorem F31_eq0 (rc : Rec) (md : Md) (a0 : ByteArray) (a1 : Int) (a2 : Int) (a3 : Int) (h0 : Heap) : callStep0 Tryd.prog cfg rc md 31 [(.string a0), (.int .i64 a1), (.int .u8 a2), (.int .u8 a3)] h0 = F31 rc ⟨h0.length, h0.length⟩ a0 a1 a2 a3 h0 := by kernel_rfl
theorem F31_eq (rc : Rec) (md : Md) (a0 : ByteArray) (a1 : Int) (a2 : Int) (a3 : Int) (h0 : Heap) : callStep Tryd.prog cfg rc md 31 [(.string a0), (.int .i64 a1), (.int .u8 a2), (.int .u8 a3)] h0 = alone h0 (F31 rc ⟨0, 0⟩ a0 a1 a2 a3 []) := by
  have e : callStep Tryd.prog cfg rc md 31 [(.string a0), (.int .i64 a1), (.int .u8 a2), (.int .u8 a3)] h0 = alone h0 (callStep0 Tryd.prog cfg rc ⟨0, 0⟩ 31 [(.string a0), (.int .i64 a1), (.int .u8 a2), (.int .u8 a3)] []) := by kernel_rfl
  rw [e, F31_eq0]; rfl

end Go.Det.E
