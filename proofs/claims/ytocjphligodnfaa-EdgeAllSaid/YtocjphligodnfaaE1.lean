/- Printed functions. -/
import Derived.Test.YtocjphligodnfaaDetR
import Derived.Test.YtocjphligodnfaaDetT
import Derived.Test.YtocjphligodnfaaDetX
import Derived.Test.YtocjphligodnfaaProg
set_option autoImplicit false
set_option linter.unusedVariables false
set_option linter.unusedSimpArgs false
namespace Go.Det.E
open Go.Proofs Go.Det

def cfg : FuncId → Nat := fun f => bif Nat.ble 35 f && Nat.ble f 39 || Nat.beq f 46 || Nat.ble 61 f && Nat.ble f 62 then 2 else bif Nat.beq f 6 || Nat.ble 8 f && Nat.ble f 11 || Nat.beq f 44 || Nat.ble 47 f && Nat.ble f 50 || Nat.ble 58 f && Nat.ble f 59 || Nat.beq f 63 || Nat.ble 83 f && Nat.ble f 87 then 1 else bif Nat.ble 2 f && Nat.ble f 5 || Nat.beq f 7 || Nat.ble 12 f && Nat.ble f 15 || Nat.ble 17 f && Nat.ble f 23 || Nat.ble 25 f && Nat.ble f 34 || Nat.ble 40 f && Nat.ble f 41 || Nat.ble 51 f && Nat.ble f 57 || Nat.ble 64 f && Nat.ble f 66 then 3 else 0

noncomputable abbrev C := call Try.prog cfg
/-- tombolo/tombololaw05.LayNodes -/
noncomputable def J3_1 (rc : Rec) (md : Md) (h0 : Heap) (s1 : Value) (s2 : Value) (s5 : Value) (h : Heap) : Option (Value × Heap) :=
  ldN 3 s2 h fun v1 =>
  cl (rc md 20 [v1, s1] h) fun v2 h3 =>
  exT v2 0 fun v4 =>
  exT v2 1 fun v5 =>
  cBn v5 fun b6 =>
  let h7 : Heap := h3 ++ [.own [(.bool false), (.int .i64 0), (.int .i64 0), (.int .i64 0), (.int .i64 0)]]
  st md 5 (.pointer (some ⟨h3.length, 0, none⟩)) v4 h7 fun h8 =>
  aBin Try.prog .geq 3 s1 (.int .i64 1) fun v9 =>
  (bif wantV v9 true then
  some (s1, h8)
  else some (undef, h8)).bind fun p10 =>
  (bif wantV v9 true then
  some (s5, p10.2)
  else some (undef, p10.2)).bind fun p11 =>
  (bif wantV v9 true then
  lenS p11.1 fun v12 =>
  cIn .i64 v12 fun n13 =>
  some ((.int .i64 n13), p11.2)
  else some (undef, p11.2)).bind fun p14 =>
  (bif wantV v9 true then
  aBin Try.prog .leq 3 p10.1 p14.1 fun v15 =>
  some (v15, p14.2)
  else some (undef, p14.2)).bind fun p16 =>
  cBn v9 fun q17 =>
  cBn (bif q17 then p16.1 else (.bool false)) fun b18 =>
  aBin Try.prog .eql 4 (.bool b18) (.bool b6) fun v19 =>
  (bif wantV v19 true then
  some ((.bool b6), p16.2)
  else some (undef, p16.2)).bind fun p20 =>
  (bif wantV v19 true then
  some (p20.1, p20.2)
  else some (undef, p20.2)).bind fun p21 =>
  (bif wantV p21.1 false then
  ldN 5 (.pointer (some ⟨h3.length, 0, none⟩)) p21.2 fun v22 =>
  some (v22, p21.2)
  else some (undef, p21.2)).bind fun p23 =>
  (bif wantV p21.1 false then
  some ((.agg #[(.bool false), (.int .i64 0), (.int .i64 0), (.int .i64 0), (.int .i64 0)]), p23.2)
  else some (undef, p23.2)).bind fun p24 =>
  (bif wantV p21.1 false then
  aBin Try.prog .eql 34 p23.1 p24.1 fun v25 =>
  some (v25, p24.2)
  else some (undef, p24.2)).bind fun p26 =>
  (bif wantV v19 true then
  cBn p21.1 fun q27 =>
  cBn (bif q27 then (.bool true) else p26.1) fun b28 =>
  some ((.bool b28), p26.2)
  else some (undef, p26.2)).bind fun p29 =>
  cBn v19 fun q30 =>
  cBn (bif q30 then p29.1 else (.bool false)) fun b31 =>
  (bif wantV (.bool b31) true then
  cl (rc md 15 [] p29.2) fun v32 h33 =>
  cBn v32 fun b34 =>
  some ((.bool b34), h33)
  else some (undef, p29.2)).bind fun p35 =>
  cBn (bif b31 then p35.1 else (.bool false)) fun b36 =>
  some ((.bool b36), h0)
theorem J3_1_at (rc : Rec) (md : Md) (h0 : Heap) (t : T) (h : Heap) : cut Try.prog cfg rc md 125 (bodyOf Try.prog 3) [1, 1, 1, 1, 1, 1] (retK Try.prog cfg 3 (rsOf Try.prog 3) h0) t h = J3_1 rc md h0 (t 1) (t 2) (t 5) h := by kernel_rfl
theorem J3_1_cut (rc : Rec) (md : Md) (h0 : Heap) : cut Try.prog cfg rc md 125 (bodyOf Try.prog 3) [1, 1, 1, 1, 1, 1] (retK Try.prog cfg 3 (rsOf Try.prog 3) h0) = fun t h => J3_1 rc md h0 (t 1) (t 2) (t 5) h := funext fun t => funext fun h => J3_1_at rc md h0 t h
noncomputable def Jk3_0 (rc : Rec) (md : Md) (h0 : Heap) (e : Exit) (s1 : Value) (s2 : Value) (s4 : Value) (s5 : Value) (s41 : Value) (s42 : Value) (s43 : Value) (h : Heap) : Option (Value × Heap) :=
  match e with
  | .normal =>
    J3_1 rc md h0 s1 s2 s5 h
  | .exit j =>
    bif Nat.beq j 0 then
      J3_1 rc md h0 s1 s2 s5 h
    else
      none
  | .ret =>
    fin2 h0 s4
  | .goto l => none
  | .panic ps => none
  | .outgrown => none
noncomputable def Jk3_0H (rc : Rec) (md : Md) (h0 : Heap) (X1 : T → Heap → Option (Value × Heap)) (e : Exit) (t : T) (h : Heap) : Option (Value × Heap) :=
  match e with
  | .normal =>
    X1 t h
  | .exit j =>
    bif Nat.beq j 0 then
      X1 t h
    else
      none
  | .ret =>
    fin2 h0 (t 4)
  | .goto l => none
  | .panic ps => none
  | .outgrown => none
theorem Jk3_0_h1 (rc : Rec) (md : Md) (h0 : Heap) (X : Nat → T → Heap → Option (Value × Heap)) (e : Exit) (t : T) (h : Heap) : kAtG Try.prog cfg X rc md 125 (replS (bodyOf Try.prog 3) [([1, 1, 1, 1, 1, 1], 1)]) [1, 1, 1, 1, 1, 0, 1, 0] (retK Try.prog cfg 3 (rsOf Try.prog 3) h0) e t h = Jk3_0H rc md h0 (X 1) e t h := by cases e <;> kernel_rfl
theorem Jk3_0_h2 (rc : Rec) (md : Md) (h0 : Heap) (e : Exit) (t : T) (h : Heap) : Jk3_0H rc md h0 (fun t h => J3_1 rc md h0 (t 1) (t 2) (t 5) h) e t h = Jk3_0 rc md h0 e (t 1) (t 2) (t 4) (t 5) (t 41) (t 42) (t 43) h := by cases e <;> (unfold Jk3_0H Jk3_0; kernel_rfl)
theorem Jk3_0_at (rc : Rec) (md : Md) (h0 : Heap) (e : Exit) (t : T) (h : Heap) : kAt Try.prog cfg rc md 125 (bodyOf Try.prog 3) [1, 1, 1, 1, 1, 0, 1, 0] (retK Try.prog cfg 3 (rsOf Try.prog 3) h0) e t h = Jk3_0 rc md h0 e (t 1) (t 2) (t 4) (t 5) (t 41) (t 42) (t 43) h := by
  rw [kAt_holes [([1, 1, 1, 1, 1, 1], 1)] [1, 1, 1, 1, 1, 0, 1, 0] (by kernel_rfl), Jk3_0_h1, show (goX Try.prog cfg rc md 125 (bodyOf Try.prog 3) [([1, 1, 1, 1, 1, 1], 1)] (retK Try.prog cfg 3 (rsOf Try.prog 3) h0)) 1 = _ from J3_1_cut rc md h0]
  exact Jk3_0_h2 rc md h0 e t h
noncomputable def J3_0b0 (rc : Rec) (md : Md) (s1 : Value) (s2 : Value) (s4 : Value) (s5 : Value) (s6 : Value) (s8 : Value) (s9 : Value) (s10 : Value) (s11 : Value) (s41 : Value) (s42 : Value) (s43 : Value) (h : Heap) : Option (((Value × Value × Value × Value × Value × Value × Value) × Heap) ⊕ (Exit × (Value × Value × Value × Value × Value × Value × Value) × Heap)) :=
  aUn .not s9 fun v1 =>
  (bif wantV v1 false then
  ldN 5 s8 h fun v2 =>
  some (v2, h)
  else some (undef, h)).bind fun p3 =>
  (bif wantV v1 false then
  ldN 5 s10 p3.2 fun v4 =>
  some (v4, p3.2)
  else some (undef, p3.2)).bind fun p5 =>
  (bif wantV v1 false then
  aBin Try.prog .neq 34 p3.1 p5.1 fun v6 =>
  some (v6, p5.2)
  else some (undef, p5.2)).bind fun p7 =>
  cBn v1 fun q8 =>
  cBn (bif q8 then (.bool true) else p7.1) fun b9 =>
  (bif wantV (.bool b9) false then
  some (s11, p7.2)
  else some (undef, p7.2)).bind fun p10 =>
  (bif wantV (.bool b9) false then
  some (s6, p10.2)
  else some (undef, p10.2)).bind fun p11 =>
  (bif wantV (.bool b9) false then
  aBin Try.prog .add 3 p11.1 (.int .i64 1) fun v12 =>
  some (v12, p11.2)
  else some (undef, p11.2)).bind fun p13 =>
  (bif wantV (.bool b9) false then
  aBin Try.prog .neq 3 p10.1 p13.1 fun v14 =>
  some (v14, p13.2)
  else some (undef, p13.2)).bind fun p15 =>
  cBn (bif b9 then (.bool true) else p15.1) fun b16 =>
  bif b16 then
    some (.inr (.ret, (s1, s2, (.bool false), s5, s41, s42, s43), p15.2))
  else
    aBin Try.prog .add 3 s43 (.int .i64 1) fun v17 =>
    some (.inl ((s1, s2, s4, s5, s41, s42, v17), p15.2))
theorem J3_0b0_at (rc : Rec) (md : Md) (t : T) (h : Heap) : cut Try.prog cfg rc md 125 (sub (bodyOf Try.prog 3) [1, 1, 1, 1, 1, 0, 1, 0, 0]) [1, 1, 0, 0, 1, 1, 1, 1] (rndK (fun t => (t 1, t 2, t 4, t 5, t 41, t 42, t 43))) t h = J3_0b0 rc md (t 1) (t 2) (t 4) (t 5) (t 6) (t 8) (t 9) (t 10) (t 11) (t 41) (t 42) (t 43) h := by kernel_rfl
theorem J3_0b0_cut (rc : Rec) (md : Md) : cut Try.prog cfg rc md 125 (sub (bodyOf Try.prog 3) [1, 1, 1, 1, 1, 0, 1, 0, 0]) [1, 1, 0, 0, 1, 1, 1, 1] (rndK (fun t => (t 1, t 2, t 4, t 5, t 41, t 42, t 43))) = fun t h => J3_0b0 rc md (t 1) (t 2) (t 4) (t 5) (t 6) (t 8) (t 9) (t 10) (t 11) (t 41) (t 42) (t 43) h := funext fun t => funext fun h => J3_0b0_at rc md t h
/-- a round -/
noncomputable def Jr3_0 (rc : Rec) (md : Md) (s1 : Value) (s2 : Value) (s4 : Value) (s5 : Value) (s41 : Value) (s42 : Value) (s43 : Value) (h : Heap) : Option (((Value × Value × Value × Value × Value × Value × Value) × Heap) ⊕ (Exit × (Value × Value × Value × Value × Value × Value × Value) × Heap)) :=
  aBin Try.prog .lss 3 s43 s42 fun v1 =>
  cBn v1 fun b2 =>
  bif b2 then
    ixSV 4 s41 s43 fun v3 =>
    ldN 4 v3 h fun v4 =>
    let h5 : Heap := h ++ [.own [(.int .i64 0), (.int .i64 0), (.int .i64 0), (.int .i64 0)]]
    st md 4 (.pointer (some ⟨h.length, 0, none⟩)) v4 h5 fun h6 =>
    ldN 3 s2 h6 fun v7 =>
    aBin Try.prog .add 3 s43 (.int .i64 1) fun v8 =>
    cl (rc md 20 [v7, v8] h6) fun v9 h10 =>
    exT v9 0 fun v11 =>
    exT v9 1 fun v12 =>
    cBn v12 fun b13 =>
    let h14 : Heap := h10 ++ [.own [(.bool false), (.int .i64 0), (.int .i64 0), (.int .i64 0), (.int .i64 0)]]
    st md 5 (.pointer (some ⟨h10.length, 0, none⟩)) v11 h14 fun h15 =>
    ld1 (.pointer (some ⟨h.length, 1, none⟩)) h15 fun v16 =>
    cIn .i64 v16 fun n17 =>
    ld1 (.pointer (some ⟨h.length, 2, none⟩)) h15 fun v18 =>
    cIn .i64 v18 fun n19 =>
    ldN 3 s2 h15 fun v20 =>
    ld1 (.pointer (some ⟨h.length, 1, none⟩)) h15 fun v21 =>
    cIn .i64 v21 fun n22 =>
    ld1 (.pointer (some ⟨h.length, 2, none⟩)) h15 fun v23 =>
    cIn .i64 v23 fun n24 =>
    cl (rc md 21 [v20, (.int .i64 n22), (.int .i64 n24)] h15) fun v25 h26 =>
    cIn .i64 v25 fun n27 =>
    let h28 : Heap := h26 ++ [.own [(.bool false), (.int .i64 0), (.int .i64 0), (.int .i64 0), (.int .i64 0)]]
    cLE true (fun hq => ld1 (.pointer (some ⟨h.length, 2, none⟩)) hq some) (.int .i64 n24) h26 h28 <|
    cLE true (fun hq => ld1 (.pointer (some ⟨h.length, 1, none⟩)) hq some) (.int .i64 n22) h26 h28 <|
    cLE true (fun hq => ldN 3 s2 hq some) v20 h26 h28 <|
    cLE true (fun hq => ld1 (.pointer (some ⟨h.length, 2, none⟩)) hq some) (.int .i64 n19) h26 h28 <|
    cLE true (fun hq => ld1 (.pointer (some ⟨h.length, 1, none⟩)) hq some) (.int .i64 n17) h26 h28 <|
    st md 5 (.pointer (some ⟨h26.length, 0, none⟩)) (.agg #[(.bool false), (.int .i64 n17), (.int .i64 n19), (.int .i64 0), (.int .i64 0)]) h28 fun h29 =>
    ld1 (.pointer (some ⟨h.length, 0, none⟩)) h29 fun v30 =>
    cIn .i64 v30 fun n31 =>
    bif (n31 == 2) then
      ld1 (.pointer (some ⟨h.length, 1, none⟩)) h29 fun v32 =>
      cIn .i64 v32 fun n33 =>
      ld1 (.pointer (some ⟨h.length, 2, none⟩)) h29 fun v34 =>
      cIn .i64 v34 fun n35 =>
      ld1 (.pointer (some ⟨h.length, 3, none⟩)) h29 fun v36 =>
      cIn .i64 v36 fun n37 =>
      ldN 3 s2 h29 fun v38 =>
      ld1 (.pointer (some ⟨h.length, 1, none⟩)) h29 fun v39 =>
      cIn .i64 v39 fun n40 =>
      ld1 (.pointer (some ⟨h.length, 2, none⟩)) h29 fun v41 =>
      cIn .i64 v41 fun n42 =>
      ld1 (.pointer (some ⟨h.length, 3, none⟩)) h29 fun v43 =>
      cIn .i64 v43 fun n44 =>
      cl (rc md 22 [v38, (.int .i64 n40), (.int .i64 n42), (.int .i64 n44)] h29) fun v45 h46 =>
      cIn .i64 v45 fun n47 =>
      st md 5 (.pointer (some ⟨h26.length, 0, none⟩)) (.agg #[(.bool true), (.int .i64 n35), (.int .i64 0), (.int .i64 n33), (.int .i64 n37)]) h46 fun h48 =>
      J3_0b0 rc md s1 s2 s4 s5 s43 (.pointer (some ⟨h10.length, 0, none⟩)) (.bool b13) (.pointer (some ⟨h26.length, 0, none⟩)) (.int .i64 n47) s41 s42 s43 h48
    else
      J3_0b0 rc md s1 s2 s4 s5 s43 (.pointer (some ⟨h10.length, 0, none⟩)) (.bool b13) (.pointer (some ⟨h26.length, 0, none⟩)) (.int .i64 n27) s41 s42 s43 h29
  else
    some (.inr ((.exit 0), (s1, s2, s4, s5, s41, s42, s43), h))
noncomputable def Jr3_0H (rc : Rec) (md : Md) (X0 : T → Heap → Option (((Value × Value × Value × Value × Value × Value × Value) × Heap) ⊕ (Exit × (Value × Value × Value × Value × Value × Value × Value) × Heap))) (t : T) (h : Heap) : Option (((Value × Value × Value × Value × Value × Value × Value) × Heap) ⊕ (Exit × (Value × Value × Value × Value × Value × Value × Value) × Heap)) :=
  aBin Try.prog .lss 3 (t 43) (t 42) fun v1 =>
  cBn v1 fun b2 =>
  bif b2 then
    ixSV 4 (t 41) (t 43) fun v3 =>
    ldN 4 v3 h fun v4 =>
    let h5 : Heap := h ++ [.own [(.int .i64 0), (.int .i64 0), (.int .i64 0), (.int .i64 0)]]
    st md 4 (.pointer (some ⟨h.length, 0, none⟩)) v4 h5 fun h6 =>
    ldN 3 (t 2) h6 fun v7 =>
    aBin Try.prog .add 3 (t 43) (.int .i64 1) fun v8 =>
    cl (rc md 20 [v7, v8] h6) fun v9 h10 =>
    exT v9 0 fun v11 =>
    exT v9 1 fun v12 =>
    cBn v12 fun b13 =>
    let h14 : Heap := h10 ++ [.own [(.bool false), (.int .i64 0), (.int .i64 0), (.int .i64 0), (.int .i64 0)]]
    st md 5 (.pointer (some ⟨h10.length, 0, none⟩)) v11 h14 fun h15 =>
    ld1 (.pointer (some ⟨h.length, 1, none⟩)) h15 fun v16 =>
    cIn .i64 v16 fun n17 =>
    ld1 (.pointer (some ⟨h.length, 2, none⟩)) h15 fun v18 =>
    cIn .i64 v18 fun n19 =>
    ldN 3 (t 2) h15 fun v20 =>
    ld1 (.pointer (some ⟨h.length, 1, none⟩)) h15 fun v21 =>
    cIn .i64 v21 fun n22 =>
    ld1 (.pointer (some ⟨h.length, 2, none⟩)) h15 fun v23 =>
    cIn .i64 v23 fun n24 =>
    cl (rc md 21 [v20, (.int .i64 n22), (.int .i64 n24)] h15) fun v25 h26 =>
    cIn .i64 v25 fun n27 =>
    let h28 : Heap := h26 ++ [.own [(.bool false), (.int .i64 0), (.int .i64 0), (.int .i64 0), (.int .i64 0)]]
    cLE true (fun hq => ld1 (.pointer (some ⟨h.length, 2, none⟩)) hq some) (.int .i64 n24) h26 h28 <|
    cLE true (fun hq => ld1 (.pointer (some ⟨h.length, 1, none⟩)) hq some) (.int .i64 n22) h26 h28 <|
    cLE true (fun hq => ldN 3 (t 2) hq some) v20 h26 h28 <|
    cLE true (fun hq => ld1 (.pointer (some ⟨h.length, 2, none⟩)) hq some) (.int .i64 n19) h26 h28 <|
    cLE true (fun hq => ld1 (.pointer (some ⟨h.length, 1, none⟩)) hq some) (.int .i64 n17) h26 h28 <|
    st md 5 (.pointer (some ⟨h26.length, 0, none⟩)) (.agg #[(.bool false), (.int .i64 n17), (.int .i64 n19), (.int .i64 0), (.int .i64 0)]) h28 fun h29 =>
    ld1 (.pointer (some ⟨h.length, 0, none⟩)) h29 fun v30 =>
    cIn .i64 v30 fun n31 =>
    bif (n31 == 2) then
      ld1 (.pointer (some ⟨h.length, 1, none⟩)) h29 fun v32 =>
      cIn .i64 v32 fun n33 =>
      ld1 (.pointer (some ⟨h.length, 2, none⟩)) h29 fun v34 =>
      cIn .i64 v34 fun n35 =>
      ld1 (.pointer (some ⟨h.length, 3, none⟩)) h29 fun v36 =>
      cIn .i64 v36 fun n37 =>
      ldN 3 (t 2) h29 fun v38 =>
      ld1 (.pointer (some ⟨h.length, 1, none⟩)) h29 fun v39 =>
      cIn .i64 v39 fun n40 =>
      ld1 (.pointer (some ⟨h.length, 2, none⟩)) h29 fun v41 =>
      cIn .i64 v41 fun n42 =>
      ld1 (.pointer (some ⟨h.length, 3, none⟩)) h29 fun v43 =>
      cIn .i64 v43 fun n44 =>
      cl (rc md 22 [v38, (.int .i64 n40), (.int .i64 n42), (.int .i64 n44)] h29) fun v45 h46 =>
      cIn .i64 v45 fun n47 =>
      st md 5 (.pointer (some ⟨h26.length, 0, none⟩)) (.agg #[(.bool true), (.int .i64 n35), (.int .i64 0), (.int .i64 n33), (.int .i64 n37)]) h46 fun h48 =>
      X0 (upd (upd (upd (upd (upd (upd (upd (upd (upd (upd (upd (upd (upd (upd (upd (upd (upd (upd (upd (upd (upd (upd (upd (upd (upd (upd (upd (upd (upd (upd (upd (upd (upd (upd (upd (upd (upd (upd (upd (upd (upd (upd (upd (upd (upd (upd (upd t 44 v1) 45 (t 43)) 46 v3) 47 v4) 7 (.pointer (some ⟨h.length, 0, none⟩))) 6 (t 43)) 49 v7) 50 (t 43)) 51 v8) 52 v9) 48 v9) 53 v11) 54 (.bool b13)) 8 (.pointer (some ⟨h10.length, 0, none⟩))) 9 (.bool b13)) 55 (.pointer (some ⟨h.length, 1, none⟩))) 56 (.int .i64 n17)) 57 (.pointer (some ⟨h.length, 2, none⟩))) 58 (.int .i64 n19)) 59 (.agg #[(.bool false), (.int .i64 n17), (.int .i64 n19), (.int .i64 0), (.int .i64 0)])) 60 v20) 61 (.pointer (some ⟨h.length, 1, none⟩))) 62 (.int .i64 n22)) 63 (.pointer (some ⟨h.length, 2, none⟩))) 64 (.int .i64 n24)) 65 (.int .i64 n27)) 10 (.pointer (some ⟨h26.length, 0, none⟩))) 11 (.int .i64 n27)) 66 (.pointer (some ⟨h.length, 0, none⟩))) 67 (.int .i64 n31)) 68 (.bool (n31 == 2))) 69 (.pointer (some ⟨h.length, 1, none⟩))) 70 (.int .i64 n33)) 71 (.pointer (some ⟨h.length, 2, none⟩))) 72 (.int .i64 n35)) 73 (.pointer (some ⟨h.length, 3, none⟩))) 74 (.int .i64 n37)) 75 (.agg #[(.bool true), (.int .i64 n35), (.int .i64 0), (.int .i64 n33), (.int .i64 n37)])) 76 v38) 77 (.pointer (some ⟨h.length, 1, none⟩))) 78 (.int .i64 n40)) 79 (.pointer (some ⟨h.length, 2, none⟩))) 80 (.int .i64 n42)) 81 (.pointer (some ⟨h.length, 3, none⟩))) 82 (.int .i64 n44)) 83 (.int .i64 n47)) 11 (.int .i64 n47)) h48
    else
      X0 (upd (upd (upd (upd (upd (upd (upd (upd (upd (upd (upd (upd (upd (upd (upd (upd (upd (upd (upd (upd (upd (upd (upd (upd (upd (upd (upd (upd (upd (upd (upd t 44 v1) 45 (t 43)) 46 v3) 47 v4) 7 (.pointer (some ⟨h.length, 0, none⟩))) 6 (t 43)) 49 v7) 50 (t 43)) 51 v8) 52 v9) 48 v9) 53 v11) 54 (.bool b13)) 8 (.pointer (some ⟨h10.length, 0, none⟩))) 9 (.bool b13)) 55 (.pointer (some ⟨h.length, 1, none⟩))) 56 (.int .i64 n17)) 57 (.pointer (some ⟨h.length, 2, none⟩))) 58 (.int .i64 n19)) 59 (.agg #[(.bool false), (.int .i64 n17), (.int .i64 n19), (.int .i64 0), (.int .i64 0)])) 60 v20) 61 (.pointer (some ⟨h.length, 1, none⟩))) 62 (.int .i64 n22)) 63 (.pointer (some ⟨h.length, 2, none⟩))) 64 (.int .i64 n24)) 65 (.int .i64 n27)) 10 (.pointer (some ⟨h26.length, 0, none⟩))) 11 (.int .i64 n27)) 66 (.pointer (some ⟨h.length, 0, none⟩))) 67 (.int .i64 n31)) 68 (.bool (n31 == 2))) h29
  else
    some (.inr ((.exit 0), ((t 1), (t 2), (t 4), (t 5), (t 41), (t 42), (t 43)), h))
theorem Jr3_0_h1 (rc : Rec) (md : Md) (X : Nat → T → Heap → Option (((Value × Value × Value × Value × Value × Value × Value) × Heap) ⊕ (Exit × (Value × Value × Value × Value × Value × Value × Value) × Heap))) (t : T) (h : Heap) : execG Try.prog cfg X rc md 125 (replS (sub (bodyOf Try.prog 3) [1, 1, 1, 1, 1, 0, 1, 0, 0]) [([1, 1, 0, 0, 1, 1, 1, 1], 0)]) (rndK (fun t => (t 1, t 2, t 4, t 5, t 41, t 42, t 43))) t h = Jr3_0H rc md (X 0) t h := by kernel_rfl
theorem Jr3_0_h2 (rc : Rec) (md : Md) (t : T) (h : Heap) : Jr3_0H rc md (fun t h => J3_0b0 rc md (t 1) (t 2) (t 4) (t 5) (t 6) (t 8) (t 9) (t 10) (t 11) (t 41) (t 42) (t 43) h) t h = Jr3_0 rc md (t 1) (t 2) (t 4) (t 5) (t 41) (t 42) (t 43) h := by unfold Jr3_0H Jr3_0; kernel_rfl
theorem Jr3_0_at (rc : Rec) (md : Md) (t : T) (h : Heap) : exec Try.prog cfg rc md 125 (sub (bodyOf Try.prog 3) [1, 1, 1, 1, 1, 0, 1, 0, 0]) (rndK (fun t => (t 1, t 2, t 4, t 5, t 41, t 42, t 43))) t h = Jr3_0 rc md (t 1) (t 2) (t 4) (t 5) (t 41) (t 42) (t 43) h := by
  rw [exec_holes [([1, 1, 0, 0, 1, 1, 1, 1], 0)] (by kernel_rfl), Jr3_0_h1, show (goX Try.prog cfg rc md 125 (sub (bodyOf Try.prog 3) [1, 1, 1, 1, 1, 0, 1, 0, 0]) [([1, 1, 0, 0, 1, 1, 1, 1], 0)] (rndK (fun t => (t 1, t 2, t 4, t 5, t 41, t 42, t 43)))) 0 = _ from J3_0b0_cut rc md]
  exact Jr3_0_h2 rc md t h
noncomputable def J3_0 (rc : Rec) (md : Md) (h0 : Heap) (s1 : Value) (s2 : Value) (s4 : Value) (s5 : Value) (s41 : Value) (s42 : Value) (s43 : Value) (h : Heap) : Option (Value × Heap) :=
  runL (fun x : (Value × Value × Value × Value × Value × Value × Value) × Heap => Jr3_0 rc md x.1.1 x.1.2.1 x.1.2.2.1 x.1.2.2.2.1 x.1.2.2.2.2.1 x.1.2.2.2.2.2.1 x.1.2.2.2.2.2.2 x.2) (fun e (s : Value × Value × Value × Value × Value × Value × Value) h => Jk3_0 rc md h0 e s.1 s.2.1 s.2.2.1 s.2.2.2.1 s.2.2.2.2.1 s.2.2.2.2.2.1 s.2.2.2.2.2.2 h) (s1, s2, s4, s5, s41, s42, s43) h
theorem J3_0_step (rc : Rec) (md : Md) (h0 : Heap) (s1 : Value) (s2 : Value) (s4 : Value) (s5 : Value) (s41 : Value) (s42 : Value) (s43 : Value) (h : Heap) : J3_0 rc md h0 s1 s2 s4 s5 s41 s42 s43 h = (Jr3_0 rc md s1 s2 s4 s5 s41 s42 s43 h).bind fun x => match x with
    | .inl (s, h) => J3_0 rc md h0 s.1 s.2.1 s.2.2.1 s.2.2.2.1 s.2.2.2.2.1 s.2.2.2.2.2.1 s.2.2.2.2.2.2 h
    | .inr (e, s, h) => Jk3_0 rc md h0 e s.1 s.2.1 s.2.2.1 s.2.2.2.1 s.2.2.2.2.1 s.2.2.2.2.2.1 s.2.2.2.2.2.2 h := by
  unfold J3_0
  rw [runL_eq]
  refine congrArg (Option.bind _) (funext fun x => ?_)
  rcases x with ⟨s, h⟩ | ⟨e, s, h⟩ <;> rfl
theorem J3_0_cut (rc : Rec) (md : Md) (h0 : Heap) : cut Try.prog cfg rc md 125 (bodyOf Try.prog 3) [1, 1, 1, 1, 1, 0, 1, 0] (retK Try.prog cfg 3 (rsOf Try.prog 3) h0) = fun t h => J3_0 rc md h0 (t 1) (t 2) (t 4) (t 5) (t 41) (t 42) (t 43) h := by
  funext t h
  have e : sub (bodyOf Try.prog 3) [1, 1, 1, 1, 1, 0, 1, 0] = .loop (sub (bodyOf Try.prog 3) [1, 1, 1, 1, 1, 0, 1, 0, 0]) := by kernel_rfl
  unfold cut
  rw [e]
  exact loop_eq (by kernel_rfl) (fun t => (t 1, t 2, t 4, t 5, t 41, t 42, t 43)) (fun x : (Value × Value × Value × Value × Value × Value × Value) × Heap => Jr3_0 rc md x.1.1 x.1.2.1 x.1.2.2.1 x.1.2.2.2.1 x.1.2.2.2.2.1 x.1.2.2.2.2.2.1 x.1.2.2.2.2.2.2 x.2) (fun t h => Jr3_0_at rc md t h) (fun e (s : Value × Value × Value × Value × Value × Value × Value) h => Jk3_0 rc md h0 e s.1 s.2.1 s.2.2.1 s.2.2.2.1 s.2.2.2.2.1 s.2.2.2.2.2.1 s.2.2.2.2.2.2 h) (fun e t h => Jk3_0_at rc md h0 e t h) t h
noncomputable def F3 (rc : Rec) (md : Md) (a0_0 : Int) (a0_1 : Int) (a0_2 : Int) (a1 : Int) (h0 : Heap) : Option (Value × Heap) :=
  let h1 : Heap := h0 ++ [.own [(.int .i64 a0_0), (.int .i64 a0_1), (.int .i64 a0_2)]]
  ldN 3 (.pointer (some ⟨h0.length, 0, none⟩)) h1 fun v2 =>
  cl (rc md 12 [v2] h1) fun v3 h4 =>
  cBn v3 fun b5 =>
  ldN 3 (.pointer (some ⟨h0.length, 0, none⟩)) h4 fun v6 =>
  cl (rc md 14 [v6] h4) fun v7 h8 =>
  cl (rc md 13 [v7] h8) fun v9 h10 =>
  cBn v9 fun b11 =>
  aBin Try.prog .neq 4 (.bool b5) (.bool b11) fun v12 =>
  cBn v12 fun b13 =>
  bif b13 then
    some ((.bool false), h0)
  else
    ldN 3 (.pointer (some ⟨h0.length, 0, none⟩)) h10 fun v14 =>
    cl (rc md 14 [v14] h10) fun v15 h16 =>
    cl (rc md 13 [v15] h16) fun v17 h18 =>
    cBn v17 fun b19 =>
    bif !b19 then
      cl (rc md 15 [] h18) fun v20 h21 =>
      cBn v20 fun b22 =>
      some ((.bool b22), h0)
    else
      ldN 3 (.pointer (some ⟨h0.length, 0, none⟩)) h18 fun v23 =>
      cl (rc md 14 [v23] h18) fun v24 h25 =>
      cl (rc md 16 [v24] h25) fun v26 h27 =>
      ldN 3 (.pointer (some ⟨h0.length, 0, none⟩)) h27 fun v28 =>
      cl (rc md 17 [v28] h27) fun v29 h30 =>
      cIn .i64 v29 fun n31 =>
      ldN 3 (.pointer (some ⟨h0.length, 0, none⟩)) h30 fun v32 =>
      cl (rc md 14 [v32] h30) fun v33 h34 =>
      cl (rc md 18 [v33] h34) fun v35 h36 =>
      cIn .i64 v35 fun n37 =>
      (bif wantV (.bool (n31 != n37)) false then
      ldN 3 (.pointer (some ⟨h0.length, 0, none⟩)) h36 fun v38 =>
      some (v38, h36)
      else some (undef, h36)).bind fun p39 =>
      (bif wantV (.bool (n31 != n37)) false then
      cl (rc md 19 [p39.1] p39.2) fun v40 h41 =>
      cIn .i64 v40 fun n42 =>
      some ((.int .i64 n42), h41)
      else some (undef, p39.2)).bind fun p43 =>
      (bif wantV (.bool (n31 != n37)) false then
      some (v26, p43.2)
      else some (undef, p43.2)).bind fun p44 =>
      (bif wantV (.bool (n31 != n37)) false then
      lenS p44.1 fun v45 =>
      cIn .i64 v45 fun n46 =>
      some ((.int .i64 n46), p44.2)
      else some (undef, p44.2)).bind fun p47 =>
      (bif wantV (.bool (n31 != n37)) false then
      aBin Try.prog .neq 3 p43.1 p47.1 fun v48 =>
      some (v48, p47.2)
      else some (undef, p47.2)).bind fun p49 =>
      cBn (bif (n31 != n37) then (.bool true) else p49.1) fun b50 =>
      bif b50 then
        some ((.bool false), h0)
      else
        lenS v26 fun v51 =>
        cIn .i64 v51 fun n52 =>
        J3_0 rc md h0 (.int .i64 a1) (.pointer (some ⟨h0.length, 0, none⟩)) (.bool false) v26 v26 (.int .i64 n52) (.int .i64 0) p49.2
noncomputable def F3H (rc : Rec) (md : Md) (X0 : T → Heap → Option (Value × Heap)) (a0_0 : Int) (a0_1 : Int) (a0_2 : Int) (a1 : Int) (h0 : Heap) : Option (Value × Heap) :=
  let h1 : Heap := h0 ++ [.own [(.int .i64 a0_0), (.int .i64 a0_1), (.int .i64 a0_2)]]
  ldN 3 (.pointer (some ⟨h0.length, 0, none⟩)) h1 fun v2 =>
  cl (rc md 12 [v2] h1) fun v3 h4 =>
  cBn v3 fun b5 =>
  ldN 3 (.pointer (some ⟨h0.length, 0, none⟩)) h4 fun v6 =>
  cl (rc md 14 [v6] h4) fun v7 h8 =>
  cl (rc md 13 [v7] h8) fun v9 h10 =>
  cBn v9 fun b11 =>
  aBin Try.prog .neq 4 (.bool b5) (.bool b11) fun v12 =>
  cBn v12 fun b13 =>
  bif b13 then
    some ((.bool false), h0)
  else
    ldN 3 (.pointer (some ⟨h0.length, 0, none⟩)) h10 fun v14 =>
    cl (rc md 14 [v14] h10) fun v15 h16 =>
    cl (rc md 13 [v15] h16) fun v17 h18 =>
    cBn v17 fun b19 =>
    bif !b19 then
      cl (rc md 15 [] h18) fun v20 h21 =>
      cBn v20 fun b22 =>
      some ((.bool b22), h0)
    else
      ldN 3 (.pointer (some ⟨h0.length, 0, none⟩)) h18 fun v23 =>
      cl (rc md 14 [v23] h18) fun v24 h25 =>
      cl (rc md 16 [v24] h25) fun v26 h27 =>
      ldN 3 (.pointer (some ⟨h0.length, 0, none⟩)) h27 fun v28 =>
      cl (rc md 17 [v28] h27) fun v29 h30 =>
      cIn .i64 v29 fun n31 =>
      ldN 3 (.pointer (some ⟨h0.length, 0, none⟩)) h30 fun v32 =>
      cl (rc md 14 [v32] h30) fun v33 h34 =>
      cl (rc md 18 [v33] h34) fun v35 h36 =>
      cIn .i64 v35 fun n37 =>
      (bif wantV (.bool (n31 != n37)) false then
      ldN 3 (.pointer (some ⟨h0.length, 0, none⟩)) h36 fun v38 =>
      some (v38, h36)
      else some (undef, h36)).bind fun p39 =>
      (bif wantV (.bool (n31 != n37)) false then
      cl (rc md 19 [p39.1] p39.2) fun v40 h41 =>
      cIn .i64 v40 fun n42 =>
      some ((.int .i64 n42), h41)
      else some (undef, p39.2)).bind fun p43 =>
      (bif wantV (.bool (n31 != n37)) false then
      some (v26, p43.2)
      else some (undef, p43.2)).bind fun p44 =>
      (bif wantV (.bool (n31 != n37)) false then
      lenS p44.1 fun v45 =>
      cIn .i64 v45 fun n46 =>
      some ((.int .i64 n46), p44.2)
      else some (undef, p44.2)).bind fun p47 =>
      (bif wantV (.bool (n31 != n37)) false then
      aBin Try.prog .neq 3 p43.1 p47.1 fun v48 =>
      some (v48, p47.2)
      else some (undef, p47.2)).bind fun p49 =>
      cBn (bif (n31 != n37) then (.bool true) else p49.1) fun b50 =>
      bif b50 then
        some ((.bool false), h0)
      else
        lenS v26 fun v51 =>
        cIn .i64 v51 fun n52 =>
        X0 (upd (upd (upd (upd (upd (upd (upd (upd (upd (upd (upd (upd (upd (upd (upd (upd (upd (upd (upd (upd (upd (upd (upd (upd (upd (upd (upd (upd (upd (upd (upd (upd (args0 [(.agg #[(.int .i64 a0_0), (.int .i64 a0_1), (.int .i64 a0_2)]), (.int .i64 a1)]) 2 (.pointer (some ⟨h0.length, 0, none⟩))) 4 (.bool false)) 14 v2) 15 (.bool b5)) 16 v6) 17 v7) 18 (.bool b11)) 19 v12) 20 v14) 21 v15) 22 (.bool b19)) 23 (.bool (!b19))) 25 v23) 26 v24) 27 v26) 5 v26) 28 v28) 29 (.int .i64 n31)) 30 v32) 31 v33) 32 (.int .i64 n37)) 33 (.bool (n31 != n37))) 34 (.bool (n31 != n37))) 35 p39.1) 36 p43.1) 37 p44.1) 38 p47.1) 39 p49.1) 40 (.bool b50)) 41 v26) 42 (.int .i64 n52)) 43 (.int .i64 0)) p49.2
theorem F3_h0 (rc : Rec) (md : Md) (a0_0 : Int) (a0_1 : Int) (a0_2 : Int) (a1 : Int) (h0 : Heap) : callStep0 Try.prog cfg rc md 3 [(.agg #[(.int .i64 a0_0), (.int .i64 a0_1), (.int .i64 a0_2)]), (.int .i64 a1)] h0 = exec Try.prog cfg rc ⟨h0.length, h0.length⟩ 125 (bodyOf Try.prog 3) (retK Try.prog cfg 3 (rsOf Try.prog 3) h0) (args0 [(.agg #[(.int .i64 a0_0), (.int .i64 a0_1), (.int .i64 a0_2)]), (.int .i64 a1)]) h0 := callStep0_run (by kernel_rfl) (by kernel_rfl) (by kernel_rfl)
theorem F3_h1 (rc : Rec) (md : Md) (X : Nat → T → Heap → Option (Value × Heap)) (a0_0 : Int) (a0_1 : Int) (a0_2 : Int) (a1 : Int) (h0 : Heap) : execG Try.prog cfg X rc md 125 (replS (bodyOf Try.prog 3) [([1, 1, 1, 1, 1, 0, 1, 0], 0), ([1, 1, 1, 1, 1, 1], 1)]) (retK Try.prog cfg 3 (rsOf Try.prog 3) h0) (args0 [(.agg #[(.int .i64 a0_0), (.int .i64 a0_1), (.int .i64 a0_2)]), (.int .i64 a1)]) h0 = F3H rc md (X 0) a0_0 a0_1 a0_2 a1 h0 := by kernel_rfl
theorem F3_h2 (rc : Rec) (md : Md) (a0_0 : Int) (a0_1 : Int) (a0_2 : Int) (a1 : Int) (h0 : Heap) : F3H rc md (fun t h => J3_0 rc md h0 (t 1) (t 2) (t 4) (t 5) (t 41) (t 42) (t 43) h) a0_0 a0_1 a0_2 a1 h0 = F3 rc md a0_0 a0_1 a0_2 a1 h0 := by unfold F3H F3; kernel_rfl
theorem F3_eq0 (rc : Rec) (md : Md) (a0_0 : Int) (a0_1 : Int) (a0_2 : Int) (a1 : Int) (h0 : Heap) : callStep0 Try.prog cfg rc md 3 [(.agg #[(.int .i64 a0_0), (.int .i64 a0_1), (.int .i64 a0_2)]), (.int .i64 a1)] h0 = F3 rc ⟨h0.length, h0.length⟩ a0_0 a0_1 a0_2 a1 h0 := by
  rw [F3_h0, exec_holes [([1, 1, 1, 1, 1, 0, 1, 0], 0), ([1, 1, 1, 1, 1, 1], 1)] (by kernel_rfl), F3_h1, show (goX Try.prog cfg rc ⟨h0.length, h0.length⟩ 125 (bodyOf Try.prog 3) [([1, 1, 1, 1, 1, 0, 1, 0], 0), ([1, 1, 1, 1, 1, 1], 1)] (retK Try.prog cfg 3 (rsOf Try.prog 3) h0)) 0 = _ from J3_0_cut rc ⟨h0.length, h0.length⟩ h0]
  exact F3_h2 rc _ a0_0 a0_1 a0_2 a1 h0
theorem F3_eq (rc : Rec) (md : Md) (a0_0 : Int) (a0_1 : Int) (a0_2 : Int) (a1 : Int) (h0 : Heap) : callStep Try.prog cfg rc md 3 [(.agg #[(.int .i64 a0_0), (.int .i64 a0_1), (.int .i64 a0_2)]), (.int .i64 a1)] h0 = alone h0 (F3 rc ⟨0, 0⟩ a0_0 a0_1 a0_2 a1 []) := by
  have e : callStep Try.prog cfg rc md 3 [(.agg #[(.int .i64 a0_0), (.int .i64 a0_1), (.int .i64 a0_2)]), (.int .i64 a1)] h0 = alone h0 (callStep0 Try.prog cfg rc ⟨0, 0⟩ 3 [(.agg #[(.int .i64 a0_0), (.int .i64 a0_1), (.int .i64 a0_2)]), (.int .i64 a1)] []) := by kernel_rfl
  rw [e, F3_eq0]; rfl

/-- tombolo/tombololaw05.LayCounts -/
noncomputable def J4_1 (rc : Rec) (md : Md) (h0 : Heap) (s1 : Value) (s3 : Value) (h : Heap) : Option (Value × Heap) :=
  fA 0 s1 fun v1 =>
  ld1 v1 h fun v2 =>
  cIn .i64 v2 fun n3 =>
  fA 1 s1 fun v4 =>
  ld1 v4 h fun v5 =>
  cIn .i64 v5 fun n6 =>
  aBin Try.prog .mul 3 s3 (.int .i64 (IntKind.wrap .i64 (n3 + (IntKind.wrap .i64 (2 * n6))))) fun v7 =>
  fA 2 s1 fun v8 =>
  ld1 v8 h fun v9 =>
  cIn .i64 v9 fun n10 =>
  fA 1 s1 fun v11 =>
  ld1 v11 h fun v12 =>
  cIn .i64 v12 fun n13 =>
  fA 0 s1 fun v14 =>
  ld1 v14 h fun v15 =>
  cIn .i64 v15 fun n16 =>
  aBin Try.prog .mul 3 (.int .i64 n16) s3 fun v17 =>
  aBin Try.prog .add 3 (.int .i64 (IntKind.wrap .i64 ((IntKind.wrap .i64 (n10 + 1)) + (IntKind.wrap .i64 (7 * n13))))) v17 fun v18 =>
  fA 0 s1 fun v19 =>
  ld1 v19 h fun v20 =>
  cIn .i64 v20 fun n21 =>
  fA 0 s1 fun v22 =>
  ld1 v22 h fun v23 =>
  cIn .i64 v23 fun n24 =>
  aBin Try.prog .add 3 v18 (.int .i64 (IntKind.wrap .i64 (Int.tdiv (IntKind.wrap .i64 (n21 * (IntKind.wrap .i64 (n24 - 1)))) 2))) fun v25 =>
  aBin Try.prog .mul 3 (.int .i64 7) v7 fun v26 =>
  aBin Try.prog .add 3 v25 v26 fun v27 =>
  ldN 3 s1 h fun v28 =>
  cl (rc md 17 [v28] h) fun v29 h30 =>
  cIn .i64 v29 fun n31 =>
  aBin Try.prog .eql 3 (.int .i64 n31) s3 fun v32 =>
  (bif wantV v32 true then
  ldN 3 s1 h30 fun v33 =>
  some (v33, h30)
  else some (undef, h30)).bind fun p34 =>
  (bif wantV v32 true then
  cl (rc md 19 [p34.1] p34.2) fun v35 h36 =>
  cIn .i64 v35 fun n37 =>
  some ((.int .i64 n37), h36)
  else some (undef, p34.2)).bind fun p38 =>
  (bif wantV v32 true then
  some (v7, p38.2)
  else some (undef, p38.2)).bind fun p39 =>
  (bif wantV v32 true then
  aBin Try.prog .eql 3 p38.1 p39.1 fun v40 =>
  some (v40, p39.2)
  else some (undef, p39.2)).bind fun p41 =>
  cBn v32 fun q42 =>
  cBn (bif q42 then p41.1 else (.bool false)) fun b43 =>
  (bif wantV (.bool b43) true then
  ldN 3 s1 p41.2 fun v44 =>
  some (v44, p41.2)
  else some (undef, p41.2)).bind fun p45 =>
  (bif wantV (.bool b43) true then
  cl (rc md 23 [p45.1] p45.2) fun v46 h47 =>
  cIn .i64 v46 fun n48 =>
  some ((.int .i64 n48), h47)
  else some (undef, p45.2)).bind fun p49 =>
  (bif wantV (.bool b43) true then
  some (v27, p49.2)
  else some (undef, p49.2)).bind fun p50 =>
  (bif wantV (.bool b43) true then
  aBin Try.prog .eql 3 p49.1 p50.1 fun v51 =>
  some (v51, p50.2)
  else some (undef, p50.2)).bind fun p52 =>
  cBn (bif b43 then p52.1 else (.bool false)) fun b53 =>
  (bif wantV (.bool b53) true then
  some (v27, p52.2)
  else some (undef, p52.2)).bind fun p54 =>
  (bif wantV (.bool b53) true then
  aBin Try.prog .leq 3 p54.1 (.int .i64 16384) fun v55 =>
  some (v55, p54.2)
  else some (undef, p54.2)).bind fun p56 =>
  cBn (bif b53 then p56.1 else (.bool false)) fun b57 =>
  (bif wantV (.bool b57) true then
  some (v7, p56.2)
  else some (undef, p56.2)).bind fun p58 =>
  (bif wantV (.bool b57) true then
  aBin Try.prog .lss 3 p58.1 (.int .i64 65535) fun v59 =>
  some (v59, p58.2)
  else some (undef, p58.2)).bind fun p60 =>
  cBn (bif b57 then p60.1 else (.bool false)) fun b61 =>
  (bif wantV (.bool b61) true then
  cl (rc md 15 [] p60.2) fun v62 h63 =>
  cBn v62 fun b64 =>
  some ((.bool b64), h63)
  else some (undef, p60.2)).bind fun p65 =>
  cBn (bif b61 then p65.1 else (.bool false)) fun b66 =>
  some ((.bool b66), h0)
theorem J4_1_at (rc : Rec) (md : Md) (h0 : Heap) (t : T) (h : Heap) : cut Try.prog cfg rc md 78 (bodyOf Try.prog 4) [1, 1, 1, 1] (retK Try.prog cfg 4 (rsOf Try.prog 4) h0) t h = J4_1 rc md h0 (t 1) (t 3) h := by kernel_rfl
theorem J4_1_cut (rc : Rec) (md : Md) (h0 : Heap) : cut Try.prog cfg rc md 78 (bodyOf Try.prog 4) [1, 1, 1, 1] (retK Try.prog cfg 4 (rsOf Try.prog 4) h0) = fun t h => J4_1 rc md h0 (t 1) (t 3) h := funext fun t => funext fun h => J4_1_at rc md h0 t h
noncomputable def Jk4_0 (rc : Rec) (md : Md) (h0 : Heap) (e : Exit) (s1 : Value) (s2 : Value) (s3 : Value) (s4 : Value) (h : Heap) : Option (Value × Heap) :=
  match e with
  | .normal =>
    J4_1 rc md h0 s1 s3 h
  | .exit j =>
    bif Nat.beq j 0 then
      J4_1 rc md h0 s1 s3 h
    else
      none
  | .ret =>
    fin2 h0 s2
  | .goto l => none
  | .panic ps => none
  | .outgrown => none
noncomputable def Jk4_0H (rc : Rec) (md : Md) (h0 : Heap) (X1 : T → Heap → Option (Value × Heap)) (e : Exit) (t : T) (h : Heap) : Option (Value × Heap) :=
  match e with
  | .normal =>
    X1 t h
  | .exit j =>
    bif Nat.beq j 0 then
      X1 t h
    else
      none
  | .ret =>
    fin2 h0 (t 2)
  | .goto l => none
  | .panic ps => none
  | .outgrown => none
theorem Jk4_0_h1 (rc : Rec) (md : Md) (h0 : Heap) (X : Nat → T → Heap → Option (Value × Heap)) (e : Exit) (t : T) (h : Heap) : kAtG Try.prog cfg X rc md 78 (replS (bodyOf Try.prog 4) [([1, 1, 1, 1], 1)]) [1, 1, 1, 0, 1, 0] (retK Try.prog cfg 4 (rsOf Try.prog 4) h0) e t h = Jk4_0H rc md h0 (X 1) e t h := by cases e <;> kernel_rfl
theorem Jk4_0_h2 (rc : Rec) (md : Md) (h0 : Heap) (e : Exit) (t : T) (h : Heap) : Jk4_0H rc md h0 (fun t h => J4_1 rc md h0 (t 1) (t 3) h) e t h = Jk4_0 rc md h0 e (t 1) (t 2) (t 3) (t 4) h := by cases e <;> (unfold Jk4_0H Jk4_0; kernel_rfl)
theorem Jk4_0_at (rc : Rec) (md : Md) (h0 : Heap) (e : Exit) (t : T) (h : Heap) : kAt Try.prog cfg rc md 78 (bodyOf Try.prog 4) [1, 1, 1, 0, 1, 0] (retK Try.prog cfg 4 (rsOf Try.prog 4) h0) e t h = Jk4_0 rc md h0 e (t 1) (t 2) (t 3) (t 4) h := by
  rw [kAt_holes [([1, 1, 1, 1], 1)] [1, 1, 1, 0, 1, 0] (by kernel_rfl), Jk4_0_h1, show (goX Try.prog cfg rc md 78 (bodyOf Try.prog 4) [([1, 1, 1, 1], 1)] (retK Try.prog cfg 4 (rsOf Try.prog 4) h0)) 1 = _ from J4_1_cut rc md h0]
  exact Jk4_0_h2 rc md h0 e t h
/-- a round -/
noncomputable def Jr4_0 (rc : Rec) (md : Md) (s1 : Value) (s2 : Value) (s3 : Value) (s4 : Value) (h : Heap) : Option (((Value × Value × Value × Value) × Heap) ⊕ (Exit × (Value × Value × Value × Value) × Heap)) :=
  aBin Try.prog .gtr 3 s4 (.int .i64 1) fun v1 =>
  cBn v1 fun b2 =>
  bif b2 then
    aBin Try.prog .add 3 s3 (.int .i64 1) fun v3 =>
    aBin Try.prog .quo 3 s4 (.int .i64 2) fun v4 =>
    some (.inl ((s1, s2, v3, v4), h))
  else
    some (.inr ((.exit 0), (s1, s2, s3, s4), h))
theorem Jr4_0_at (rc : Rec) (md : Md) (t : T) (h : Heap) : exec Try.prog cfg rc md 78 (sub (bodyOf Try.prog 4) [1, 1, 1, 0, 1, 0, 0]) (rndK (fun t => (t 1, t 2, t 3, t 4))) t h = Jr4_0 rc md (t 1) (t 2) (t 3) (t 4) h := by kernel_rfl
noncomputable def J4_0 (rc : Rec) (md : Md) (h0 : Heap) (s1 : Value) (s2 : Value) (s3 : Value) (s4 : Value) (h : Heap) : Option (Value × Heap) :=
  runL (fun x : (Value × Value × Value × Value) × Heap => Jr4_0 rc md x.1.1 x.1.2.1 x.1.2.2.1 x.1.2.2.2 x.2) (fun e (s : Value × Value × Value × Value) h => Jk4_0 rc md h0 e s.1 s.2.1 s.2.2.1 s.2.2.2 h) (s1, s2, s3, s4) h
theorem J4_0_step (rc : Rec) (md : Md) (h0 : Heap) (s1 : Value) (s2 : Value) (s3 : Value) (s4 : Value) (h : Heap) : J4_0 rc md h0 s1 s2 s3 s4 h = (Jr4_0 rc md s1 s2 s3 s4 h).bind fun x => match x with
    | .inl (s, h) => J4_0 rc md h0 s.1 s.2.1 s.2.2.1 s.2.2.2 h
    | .inr (e, s, h) => Jk4_0 rc md h0 e s.1 s.2.1 s.2.2.1 s.2.2.2 h := by
  unfold J4_0
  rw [runL_eq]
  refine congrArg (Option.bind _) (funext fun x => ?_)
  rcases x with ⟨s, h⟩ | ⟨e, s, h⟩ <;> rfl
theorem J4_0_cut (rc : Rec) (md : Md) (h0 : Heap) : cut Try.prog cfg rc md 78 (bodyOf Try.prog 4) [1, 1, 1, 0, 1, 0] (retK Try.prog cfg 4 (rsOf Try.prog 4) h0) = fun t h => J4_0 rc md h0 (t 1) (t 2) (t 3) (t 4) h := by
  funext t h
  have e : sub (bodyOf Try.prog 4) [1, 1, 1, 0, 1, 0] = .loop (sub (bodyOf Try.prog 4) [1, 1, 1, 0, 1, 0, 0]) := by kernel_rfl
  unfold cut
  rw [e]
  exact loop_eq (by kernel_rfl) (fun t => (t 1, t 2, t 3, t 4)) (fun x : (Value × Value × Value × Value) × Heap => Jr4_0 rc md x.1.1 x.1.2.1 x.1.2.2.1 x.1.2.2.2 x.2) (fun t h => Jr4_0_at rc md t h) (fun e (s : Value × Value × Value × Value) h => Jk4_0 rc md h0 e s.1 s.2.1 s.2.2.1 s.2.2.2 h) (fun e t h => Jk4_0_at rc md h0 e t h) t h
noncomputable def F4 (rc : Rec) (md : Md) (a0_0 : Int) (a0_1 : Int) (a0_2 : Int) (h0 : Heap) : Option (Value × Heap) :=
  let h1 : Heap := h0 ++ [.own [(.int .i64 a0_0), (.int .i64 a0_1), (.int .i64 a0_2)]]
  ldN 3 (.pointer (some ⟨h0.length, 0, none⟩)) h1 fun v2 =>
  cl (rc md 14 [v2] h1) fun v3 h4 =>
  cl (rc md 13 [v3] h4) fun v5 h6 =>
  cBn v5 fun b7 =>
  bif !b7 then
    cl (rc md 15 [] h6) fun v8 h9 =>
    cBn v8 fun b10 =>
    some ((.bool b10), h0)
  else
    ld1 (.pointer (some ⟨h0.length, 0, none⟩)) h6 fun v11 =>
    cIn .i64 v11 fun n12 =>
    J4_0 rc md h0 (.pointer (some ⟨h0.length, 0, none⟩)) (.bool false) (.int .i64 1) (.int .i64 n12) h6
noncomputable def F4H (rc : Rec) (md : Md) (X0 : T → Heap → Option (Value × Heap)) (a0_0 : Int) (a0_1 : Int) (a0_2 : Int) (h0 : Heap) : Option (Value × Heap) :=
  let h1 : Heap := h0 ++ [.own [(.int .i64 a0_0), (.int .i64 a0_1), (.int .i64 a0_2)]]
  ldN 3 (.pointer (some ⟨h0.length, 0, none⟩)) h1 fun v2 =>
  cl (rc md 14 [v2] h1) fun v3 h4 =>
  cl (rc md 13 [v3] h4) fun v5 h6 =>
  cBn v5 fun b7 =>
  bif !b7 then
    cl (rc md 15 [] h6) fun v8 h9 =>
    cBn v8 fun b10 =>
    some ((.bool b10), h0)
  else
    ld1 (.pointer (some ⟨h0.length, 0, none⟩)) h6 fun v11 =>
    cIn .i64 v11 fun n12 =>
    X0 (upd (upd (upd (upd (upd (upd (upd (upd (upd (upd (args0 [(.agg #[(.int .i64 a0_0), (.int .i64 a0_1), (.int .i64 a0_2)])]) 1 (.pointer (some ⟨h0.length, 0, none⟩))) 2 (.bool false)) 7 v2) 8 v3) 9 (.bool b7)) 10 (.bool (!b7))) 3 (.int .i64 1)) 12 (.pointer (some ⟨h0.length, 0, none⟩))) 13 (.int .i64 n12)) 4 (.int .i64 n12)) h6
theorem F4_h0 (rc : Rec) (md : Md) (a0_0 : Int) (a0_1 : Int) (a0_2 : Int) (h0 : Heap) : callStep0 Try.prog cfg rc md 4 [(.agg #[(.int .i64 a0_0), (.int .i64 a0_1), (.int .i64 a0_2)])] h0 = exec Try.prog cfg rc ⟨h0.length, h0.length⟩ 78 (bodyOf Try.prog 4) (retK Try.prog cfg 4 (rsOf Try.prog 4) h0) (args0 [(.agg #[(.int .i64 a0_0), (.int .i64 a0_1), (.int .i64 a0_2)])]) h0 := callStep0_run (by kernel_rfl) (by kernel_rfl) (by kernel_rfl)
theorem F4_h1 (rc : Rec) (md : Md) (X : Nat → T → Heap → Option (Value × Heap)) (a0_0 : Int) (a0_1 : Int) (a0_2 : Int) (h0 : Heap) : execG Try.prog cfg X rc md 78 (replS (bodyOf Try.prog 4) [([1, 1, 1, 0, 1, 0], 0), ([1, 1, 1, 1], 1)]) (retK Try.prog cfg 4 (rsOf Try.prog 4) h0) (args0 [(.agg #[(.int .i64 a0_0), (.int .i64 a0_1), (.int .i64 a0_2)])]) h0 = F4H rc md (X 0) a0_0 a0_1 a0_2 h0 := by kernel_rfl
theorem F4_h2 (rc : Rec) (md : Md) (a0_0 : Int) (a0_1 : Int) (a0_2 : Int) (h0 : Heap) : F4H rc md (fun t h => J4_0 rc md h0 (t 1) (t 2) (t 3) (t 4) h) a0_0 a0_1 a0_2 h0 = F4 rc md a0_0 a0_1 a0_2 h0 := by unfold F4H F4; kernel_rfl
theorem F4_eq0 (rc : Rec) (md : Md) (a0_0 : Int) (a0_1 : Int) (a0_2 : Int) (h0 : Heap) : callStep0 Try.prog cfg rc md 4 [(.agg #[(.int .i64 a0_0), (.int .i64 a0_1), (.int .i64 a0_2)])] h0 = F4 rc ⟨h0.length, h0.length⟩ a0_0 a0_1 a0_2 h0 := by
  rw [F4_h0, exec_holes [([1, 1, 1, 0, 1, 0], 0), ([1, 1, 1, 1], 1)] (by kernel_rfl), F4_h1, show (goX Try.prog cfg rc ⟨h0.length, h0.length⟩ 78 (bodyOf Try.prog 4) [([1, 1, 1, 0, 1, 0], 0), ([1, 1, 1, 1], 1)] (retK Try.prog cfg 4 (rsOf Try.prog 4) h0)) 0 = _ from J4_0_cut rc ⟨h0.length, h0.length⟩ h0]
  exact F4_h2 rc _ a0_0 a0_1 a0_2 h0
theorem F4_eq (rc : Rec) (md : Md) (a0_0 : Int) (a0_1 : Int) (a0_2 : Int) (h0 : Heap) : callStep Try.prog cfg rc md 4 [(.agg #[(.int .i64 a0_0), (.int .i64 a0_1), (.int .i64 a0_2)])] h0 = alone h0 (F4 rc ⟨0, 0⟩ a0_0 a0_1 a0_2 []) := by
  have e : callStep Try.prog cfg rc md 4 [(.agg #[(.int .i64 a0_0), (.int .i64 a0_1), (.int .i64 a0_2)])] h0 = alone h0 (callStep0 Try.prog cfg rc ⟨0, 0⟩ 4 [(.agg #[(.int .i64 a0_0), (.int .i64 a0_1), (.int .i64 a0_2)])] []) := by kernel_rfl
  rw [e, F4_eq0]; rfl

/-- tombolo/tombololaw05.LayCells -/
noncomputable def Jk5_0 (rc : Rec) (md : Md) (h0 : Heap) (e : Exit) (s1 : Value) (s2 : Value) (s30 : Value) (s31 : Value) (s32 : Value) (h : Heap) : Option (Value × Heap) :=
  match e with
  | .normal =>
    cl (rc md 15 [] h) fun v1 h2 =>
    cBn v1 fun b3 =>
    some ((.bool b3), h0)
  | .exit j =>
    bif Nat.beq j 0 then
      cl (rc md 15 [] h) fun v4 h5 =>
      cBn v4 fun b6 =>
      some ((.bool b6), h0)
    else
      none
  | .ret =>
    fin2 h0 s2
  | .goto l => none
  | .panic ps => none
  | .outgrown => none
theorem Jk5_0_at (rc : Rec) (md : Md) (h0 : Heap) (e : Exit) (t : T) (h : Heap) : kAt Try.prog cfg rc md 118 (bodyOf Try.prog 5) [1, 1, 1, 1, 0, 1, 0] (retK Try.prog cfg 5 (rsOf Try.prog 5) h0) e t h = Jk5_0 rc md h0 e (t 1) (t 2) (t 30) (t 31) (t 32) h := by cases e <;> kernel_rfl
noncomputable def J5_0b0 (rc : Rec) (md : Md) (s1 : Value) (s2 : Value) (s4 : Value) (s6 : Value) (s30 : Value) (s31 : Value) (s32 : Value) (h : Heap) : Option (((Value × Value × Value × Value × Value) × Heap) ⊕ (Exit × (Value × Value × Value × Value × Value) × Heap)) :=
  aBin Try.prog .neq 3 s6 s4 fun v1 =>
  cBn v1 fun b2 =>
  bif b2 then
    some (.inr (.ret, (s1, (.bool false), s30, s31, s32), h))
  else
    aBin Try.prog .add 3 s32 (.int .i64 1) fun v3 =>
    some (.inl ((s1, s2, s30, s31, v3), h))
theorem J5_0b0_at (rc : Rec) (md : Md) (t : T) (h : Heap) : cut Try.prog cfg rc md 118 (sub (bodyOf Try.prog 5) [1, 1, 1, 1, 0, 1, 0, 0]) [1, 1, 0, 0, 1, 1, 1] (rndK (fun t => (t 1, t 2, t 30, t 31, t 32))) t h = J5_0b0 rc md (t 1) (t 2) (t 4) (t 6) (t 30) (t 31) (t 32) h := by kernel_rfl
theorem J5_0b0_cut (rc : Rec) (md : Md) : cut Try.prog cfg rc md 118 (sub (bodyOf Try.prog 5) [1, 1, 1, 1, 0, 1, 0, 0]) [1, 1, 0, 0, 1, 1, 1] (rndK (fun t => (t 1, t 2, t 30, t 31, t 32))) = fun t h => J5_0b0 rc md (t 1) (t 2) (t 4) (t 6) (t 30) (t 31) (t 32) h := funext fun t => funext fun h => J5_0b0_at rc md t h
/-- a round -/
noncomputable def Jr5_0 (rc : Rec) (md : Md) (s1 : Value) (s2 : Value) (s30 : Value) (s31 : Value) (s32 : Value) (h : Heap) : Option (((Value × Value × Value × Value × Value) × Heap) ⊕ (Exit × (Value × Value × Value × Value × Value) × Heap)) :=
  aBin Try.prog .lss 3 s32 s31 fun v1 =>
  cBn v1 fun b2 =>
  bif b2 then
    ixSV 4 s30 s32 fun v3 =>
    ldN 4 v3 h fun v4 =>
    let h5 : Heap := h ++ [.own [(.int .i64 0), (.int .i64 0), (.int .i64 0), (.int .i64 0)]]
    st md 4 (.pointer (some ⟨h.length, 0, none⟩)) v4 h5 fun h6 =>
    ld1 (.pointer (some ⟨h.length, 0, none⟩)) h6 fun v7 =>
    cIn .i64 v7 fun n8 =>
    bif (n8 == 1) then
      ldN 3 s1 h6 fun v9 =>
      ld1 (.pointer (some ⟨h.length, 1, none⟩)) h6 fun v10 =>
      cIn .i64 v10 fun n11 =>
      cl (rc md 25 [v9, (.int .i64 n11)] h6) fun v12 h13 =>
      cIn .i64 v12 fun n14 =>
      J5_0b0 rc md s1 s2 s32 (.int .i64 n14) s30 s31 s32 h13
    else
      bif (n8 == 2) then
        ldN 3 s1 h6 fun v15 =>
        cl (rc md 26 [v15] h6) fun v16 h17 =>
        cIn .i64 v16 fun n18 =>
        J5_0b0 rc md s1 s2 s32 (.int .i64 n18) s30 s31 s32 h17
      else
        bif (n8 == 3) then
          ldN 3 s1 h6 fun v19 =>
          ld1 (.pointer (some ⟨h.length, 1, none⟩)) h6 fun v20 =>
          cIn .i64 v20 fun n21 =>
          cl (rc md 27 [v19, (.int .i64 n21)] h6) fun v22 h23 =>
          cIn .i64 v22 fun n24 =>
          J5_0b0 rc md s1 s2 s32 (.int .i64 n24) s30 s31 s32 h23
        else
          bif (n8 == 4) then
            ldN 3 s1 h6 fun v25 =>
            ld1 (.pointer (some ⟨h.length, 1, none⟩)) h6 fun v26 =>
            cIn .i64 v26 fun n27 =>
            cl (rc md 28 [v25, (.int .i64 n27)] h6) fun v28 h29 =>
            cIn .i64 v28 fun n30 =>
            J5_0b0 rc md s1 s2 s32 (.int .i64 n30) s30 s31 s32 h29
          else
            bif (n8 == 5) then
              ldN 3 s1 h6 fun v31 =>
              ld1 (.pointer (some ⟨h.length, 1, none⟩)) h6 fun v32 =>
              cIn .i64 v32 fun n33 =>
              cl (rc md 29 [v31, (.int .i64 n33)] h6) fun v34 h35 =>
              cIn .i64 v34 fun n36 =>
              J5_0b0 rc md s1 s2 s32 (.int .i64 n36) s30 s31 s32 h35
            else
              bif (n8 == 6) then
                ldN 3 s1 h6 fun v37 =>
                ld1 (.pointer (some ⟨h.length, 1, none⟩)) h6 fun v38 =>
                cIn .i64 v38 fun n39 =>
                ld1 (.pointer (some ⟨h.length, 2, none⟩)) h6 fun v40 =>
                cIn .i64 v40 fun n41 =>
                cl (rc md 30 [v37, (.int .i64 n39), (.int .i64 n41)] h6) fun v42 h43 =>
                cIn .i64 v42 fun n44 =>
                J5_0b0 rc md s1 s2 s32 (.int .i64 n44) s30 s31 s32 h43
              else
                bif (n8 == 7) then
                  ldN 3 s1 h6 fun v45 =>
                  ld1 (.pointer (some ⟨h.length, 1, none⟩)) h6 fun v46 =>
                  cIn .i64 v46 fun n47 =>
                  ld1 (.pointer (some ⟨h.length, 2, none⟩)) h6 fun v48 =>
                  cIn .i64 v48 fun n49 =>
                  cl (rc md 31 [v45, (.int .i64 n47), (.int .i64 n49)] h6) fun v50 h51 =>
                  cIn .i64 v50 fun n52 =>
                  J5_0b0 rc md s1 s2 s32 (.int .i64 n52) s30 s31 s32 h51
                else
                  bif (n8 == 8) then
                    ldN 3 s1 h6 fun v53 =>
                    ld1 (.pointer (some ⟨h.length, 1, none⟩)) h6 fun v54 =>
                    cIn .i64 v54 fun n55 =>
                    ld1 (.pointer (some ⟨h.length, 2, none⟩)) h6 fun v56 =>
                    cIn .i64 v56 fun n57 =>
                    cl (rc md 32 [v53, (.int .i64 n55), (.int .i64 n57)] h6) fun v58 h59 =>
                    cIn .i64 v58 fun n60 =>
                    J5_0b0 rc md s1 s2 s32 (.int .i64 n60) s30 s31 s32 h59
                  else
                    bif (n8 == 9) then
                      ldN 3 s1 h6 fun v61 =>
                      ld1 (.pointer (some ⟨h.length, 1, none⟩)) h6 fun v62 =>
                      cIn .i64 v62 fun n63 =>
                      ld1 (.pointer (some ⟨h.length, 2, none⟩)) h6 fun v64 =>
                      cIn .i64 v64 fun n65 =>
                      cl (rc md 33 [v61, (.int .i64 n63), (.int .i64 n65)] h6) fun v66 h67 =>
                      cIn .i64 v66 fun n68 =>
                      ldN 3 s1 h67 fun v69 =>
                      ld1 (.pointer (some ⟨h.length, 2, none⟩)) h67 fun v70 =>
                      cIn .i64 v70 fun n71 =>
                      ld1 (.pointer (some ⟨h.length, 1, none⟩)) h67 fun v72 =>
                      cIn .i64 v72 fun n73 =>
                      cl (rc md 33 [v69, (.int .i64 n71), (.int .i64 n73)] h67) fun v74 h75 =>
                      cIn .i64 v74 fun n76 =>
                      bif (n76 != n68) then
                        some (.inr (.ret, (s1, (.bool false), s30, s31, s32), h75))
                      else
                        J5_0b0 rc md s1 s2 s32 (.int .i64 n68) s30 s31 s32 h75
                    else
                      ldN 3 s1 h6 fun v77 =>
                      ld1 (.pointer (some ⟨h.length, 1, none⟩)) h6 fun v78 =>
                      cIn .i64 v78 fun n79 =>
                      ld1 (.pointer (some ⟨h.length, 2, none⟩)) h6 fun v80 =>
                      cIn .i64 v80 fun n81 =>
                      cl (rc md 34 [v77, (.int .i64 n79), (.int .i64 n81)] h6) fun v82 h83 =>
                      cIn .i64 v82 fun n84 =>
                      J5_0b0 rc md s1 s2 s32 (.int .i64 n84) s30 s31 s32 h83
  else
    some (.inr ((.exit 0), (s1, s2, s30, s31, s32), h))
noncomputable def Jr5_0H (rc : Rec) (md : Md) (X0 : T → Heap → Option (((Value × Value × Value × Value × Value) × Heap) ⊕ (Exit × (Value × Value × Value × Value × Value) × Heap))) (t : T) (h : Heap) : Option (((Value × Value × Value × Value × Value) × Heap) ⊕ (Exit × (Value × Value × Value × Value × Value) × Heap)) :=
  aBin Try.prog .lss 3 (t 32) (t 31) fun v1 =>
  cBn v1 fun b2 =>
  bif b2 then
    ixSV 4 (t 30) (t 32) fun v3 =>
    ldN 4 v3 h fun v4 =>
    let h5 : Heap := h ++ [.own [(.int .i64 0), (.int .i64 0), (.int .i64 0), (.int .i64 0)]]
    st md 4 (.pointer (some ⟨h.length, 0, none⟩)) v4 h5 fun h6 =>
    ld1 (.pointer (some ⟨h.length, 0, none⟩)) h6 fun v7 =>
    cIn .i64 v7 fun n8 =>
    bif (n8 == 1) then
      ldN 3 (t 1) h6 fun v9 =>
      ld1 (.pointer (some ⟨h.length, 1, none⟩)) h6 fun v10 =>
      cIn .i64 v10 fun n11 =>
      cl (rc md 25 [v9, (.int .i64 n11)] h6) fun v12 h13 =>
      cIn .i64 v12 fun n14 =>
      X0 (upd (upd (upd (upd (upd (upd (upd (upd (upd (upd (upd (upd (upd (upd (upd (upd t 33 v1) 34 (t 32)) 35 v3) 36 v4) 5 (.pointer (some ⟨h.length, 0, none⟩))) 4 (t 32)) 6 (.int .i64 (-1))) 37 (.pointer (some ⟨h.length, 0, none⟩))) 38 (.int .i64 n8)) 46 (.bool (n8 == 1))) 45 (.bool (n8 == 1))) 47 v9) 48 (.pointer (some ⟨h.length, 1, none⟩))) 49 (.int .i64 n11)) 50 (.int .i64 n14)) 6 (.int .i64 n14)) h13
    else
      bif (n8 == 2) then
        ldN 3 (t 1) h6 fun v15 =>
        cl (rc md 26 [v15] h6) fun v16 h17 =>
        cIn .i64 v16 fun n18 =>
        X0 (upd (upd (upd (upd (upd (upd (upd (upd (upd (upd (upd (upd (upd (upd (upd (upd t 33 v1) 34 (t 32)) 35 v3) 36 v4) 5 (.pointer (some ⟨h.length, 0, none⟩))) 4 (t 32)) 6 (.int .i64 (-1))) 37 (.pointer (some ⟨h.length, 0, none⟩))) 38 (.int .i64 n8)) 46 (.bool (n8 == 1))) 45 (.bool (n8 == 1))) 52 (.bool (n8 == 2))) 51 (.bool (n8 == 2))) 53 v15) 54 (.int .i64 n18)) 6 (.int .i64 n18)) h17
      else
        bif (n8 == 3) then
          ldN 3 (t 1) h6 fun v19 =>
          ld1 (.pointer (some ⟨h.length, 1, none⟩)) h6 fun v20 =>
          cIn .i64 v20 fun n21 =>
          cl (rc md 27 [v19, (.int .i64 n21)] h6) fun v22 h23 =>
          cIn .i64 v22 fun n24 =>
          X0 (upd (upd (upd (upd (upd (upd (upd (upd (upd (upd (upd (upd (upd (upd (upd (upd (upd (upd (upd (upd t 33 v1) 34 (t 32)) 35 v3) 36 v4) 5 (.pointer (some ⟨h.length, 0, none⟩))) 4 (t 32)) 6 (.int .i64 (-1))) 37 (.pointer (some ⟨h.length, 0, none⟩))) 38 (.int .i64 n8)) 46 (.bool (n8 == 1))) 45 (.bool (n8 == 1))) 52 (.bool (n8 == 2))) 51 (.bool (n8 == 2))) 56 (.bool (n8 == 3))) 55 (.bool (n8 == 3))) 57 v19) 58 (.pointer (some ⟨h.length, 1, none⟩))) 59 (.int .i64 n21)) 60 (.int .i64 n24)) 6 (.int .i64 n24)) h23
        else
          bif (n8 == 4) then
            ldN 3 (t 1) h6 fun v25 =>
            ld1 (.pointer (some ⟨h.length, 1, none⟩)) h6 fun v26 =>
            cIn .i64 v26 fun n27 =>
            cl (rc md 28 [v25, (.int .i64 n27)] h6) fun v28 h29 =>
            cIn .i64 v28 fun n30 =>
            X0 (upd (upd (upd (upd (upd (upd (upd (upd (upd (upd (upd (upd (upd (upd (upd (upd (upd (upd (upd (upd (upd (upd t 33 v1) 34 (t 32)) 35 v3) 36 v4) 5 (.pointer (some ⟨h.length, 0, none⟩))) 4 (t 32)) 6 (.int .i64 (-1))) 37 (.pointer (some ⟨h.length, 0, none⟩))) 38 (.int .i64 n8)) 46 (.bool (n8 == 1))) 45 (.bool (n8 == 1))) 52 (.bool (n8 == 2))) 51 (.bool (n8 == 2))) 56 (.bool (n8 == 3))) 55 (.bool (n8 == 3))) 62 (.bool (n8 == 4))) 61 (.bool (n8 == 4))) 63 v25) 64 (.pointer (some ⟨h.length, 1, none⟩))) 65 (.int .i64 n27)) 66 (.int .i64 n30)) 6 (.int .i64 n30)) h29
          else
            bif (n8 == 5) then
              ldN 3 (t 1) h6 fun v31 =>
              ld1 (.pointer (some ⟨h.length, 1, none⟩)) h6 fun v32 =>
              cIn .i64 v32 fun n33 =>
              cl (rc md 29 [v31, (.int .i64 n33)] h6) fun v34 h35 =>
              cIn .i64 v34 fun n36 =>
              X0 (upd (upd (upd (upd (upd (upd (upd (upd (upd (upd (upd (upd (upd (upd (upd (upd (upd (upd (upd (upd (upd (upd (upd (upd t 33 v1) 34 (t 32)) 35 v3) 36 v4) 5 (.pointer (some ⟨h.length, 0, none⟩))) 4 (t 32)) 6 (.int .i64 (-1))) 37 (.pointer (some ⟨h.length, 0, none⟩))) 38 (.int .i64 n8)) 46 (.bool (n8 == 1))) 45 (.bool (n8 == 1))) 52 (.bool (n8 == 2))) 51 (.bool (n8 == 2))) 56 (.bool (n8 == 3))) 55 (.bool (n8 == 3))) 62 (.bool (n8 == 4))) 61 (.bool (n8 == 4))) 68 (.bool (n8 == 5))) 67 (.bool (n8 == 5))) 69 v31) 70 (.pointer (some ⟨h.length, 1, none⟩))) 71 (.int .i64 n33)) 72 (.int .i64 n36)) 6 (.int .i64 n36)) h35
            else
              bif (n8 == 6) then
                ldN 3 (t 1) h6 fun v37 =>
                ld1 (.pointer (some ⟨h.length, 1, none⟩)) h6 fun v38 =>
                cIn .i64 v38 fun n39 =>
                ld1 (.pointer (some ⟨h.length, 2, none⟩)) h6 fun v40 =>
                cIn .i64 v40 fun n41 =>
                cl (rc md 30 [v37, (.int .i64 n39), (.int .i64 n41)] h6) fun v42 h43 =>
                cIn .i64 v42 fun n44 =>
                X0 (upd (upd (upd (upd (upd (upd (upd (upd (upd (upd (upd (upd (upd (upd (upd (upd (upd (upd (upd (upd (upd (upd (upd (upd (upd (upd (upd (upd t 33 v1) 34 (t 32)) 35 v3) 36 v4) 5 (.pointer (some ⟨h.length, 0, none⟩))) 4 (t 32)) 6 (.int .i64 (-1))) 37 (.pointer (some ⟨h.length, 0, none⟩))) 38 (.int .i64 n8)) 46 (.bool (n8 == 1))) 45 (.bool (n8 == 1))) 52 (.bool (n8 == 2))) 51 (.bool (n8 == 2))) 56 (.bool (n8 == 3))) 55 (.bool (n8 == 3))) 62 (.bool (n8 == 4))) 61 (.bool (n8 == 4))) 68 (.bool (n8 == 5))) 67 (.bool (n8 == 5))) 74 (.bool (n8 == 6))) 73 (.bool (n8 == 6))) 75 v37) 76 (.pointer (some ⟨h.length, 1, none⟩))) 77 (.int .i64 n39)) 78 (.pointer (some ⟨h.length, 2, none⟩))) 79 (.int .i64 n41)) 80 (.int .i64 n44)) 6 (.int .i64 n44)) h43
              else
                bif (n8 == 7) then
                  ldN 3 (t 1) h6 fun v45 =>
                  ld1 (.pointer (some ⟨h.length, 1, none⟩)) h6 fun v46 =>
                  cIn .i64 v46 fun n47 =>
                  ld1 (.pointer (some ⟨h.length, 2, none⟩)) h6 fun v48 =>
                  cIn .i64 v48 fun n49 =>
                  cl (rc md 31 [v45, (.int .i64 n47), (.int .i64 n49)] h6) fun v50 h51 =>
                  cIn .i64 v50 fun n52 =>
                  X0 (upd (upd (upd (upd (upd (upd (upd (upd (upd (upd (upd (upd (upd (upd (upd (upd (upd (upd (upd (upd (upd (upd (upd (upd (upd (upd (upd (upd (upd (upd t 33 v1) 34 (t 32)) 35 v3) 36 v4) 5 (.pointer (some ⟨h.length, 0, none⟩))) 4 (t 32)) 6 (.int .i64 (-1))) 37 (.pointer (some ⟨h.length, 0, none⟩))) 38 (.int .i64 n8)) 46 (.bool (n8 == 1))) 45 (.bool (n8 == 1))) 52 (.bool (n8 == 2))) 51 (.bool (n8 == 2))) 56 (.bool (n8 == 3))) 55 (.bool (n8 == 3))) 62 (.bool (n8 == 4))) 61 (.bool (n8 == 4))) 68 (.bool (n8 == 5))) 67 (.bool (n8 == 5))) 74 (.bool (n8 == 6))) 73 (.bool (n8 == 6))) 82 (.bool (n8 == 7))) 81 (.bool (n8 == 7))) 83 v45) 84 (.pointer (some ⟨h.length, 1, none⟩))) 85 (.int .i64 n47)) 86 (.pointer (some ⟨h.length, 2, none⟩))) 87 (.int .i64 n49)) 88 (.int .i64 n52)) 6 (.int .i64 n52)) h51
                else
                  bif (n8 == 8) then
                    ldN 3 (t 1) h6 fun v53 =>
                    ld1 (.pointer (some ⟨h.length, 1, none⟩)) h6 fun v54 =>
                    cIn .i64 v54 fun n55 =>
                    ld1 (.pointer (some ⟨h.length, 2, none⟩)) h6 fun v56 =>
                    cIn .i64 v56 fun n57 =>
                    cl (rc md 32 [v53, (.int .i64 n55), (.int .i64 n57)] h6) fun v58 h59 =>
                    cIn .i64 v58 fun n60 =>
                    X0 (upd (upd (upd (upd (upd (upd (upd (upd (upd (upd (upd (upd (upd (upd (upd (upd (upd (upd (upd (upd (upd (upd (upd (upd (upd (upd (upd (upd (upd (upd (upd (upd t 33 v1) 34 (t 32)) 35 v3) 36 v4) 5 (.pointer (some ⟨h.length, 0, none⟩))) 4 (t 32)) 6 (.int .i64 (-1))) 37 (.pointer (some ⟨h.length, 0, none⟩))) 38 (.int .i64 n8)) 46 (.bool (n8 == 1))) 45 (.bool (n8 == 1))) 52 (.bool (n8 == 2))) 51 (.bool (n8 == 2))) 56 (.bool (n8 == 3))) 55 (.bool (n8 == 3))) 62 (.bool (n8 == 4))) 61 (.bool (n8 == 4))) 68 (.bool (n8 == 5))) 67 (.bool (n8 == 5))) 74 (.bool (n8 == 6))) 73 (.bool (n8 == 6))) 82 (.bool (n8 == 7))) 81 (.bool (n8 == 7))) 90 (.bool (n8 == 8))) 89 (.bool (n8 == 8))) 91 v53) 92 (.pointer (some ⟨h.length, 1, none⟩))) 93 (.int .i64 n55)) 94 (.pointer (some ⟨h.length, 2, none⟩))) 95 (.int .i64 n57)) 96 (.int .i64 n60)) 6 (.int .i64 n60)) h59
                  else
                    bif (n8 == 9) then
                      ldN 3 (t 1) h6 fun v61 =>
                      ld1 (.pointer (some ⟨h.length, 1, none⟩)) h6 fun v62 =>
                      cIn .i64 v62 fun n63 =>
                      ld1 (.pointer (some ⟨h.length, 2, none⟩)) h6 fun v64 =>
                      cIn .i64 v64 fun n65 =>
                      cl (rc md 33 [v61, (.int .i64 n63), (.int .i64 n65)] h6) fun v66 h67 =>
                      cIn .i64 v66 fun n68 =>
                      ldN 3 (t 1) h67 fun v69 =>
                      ld1 (.pointer (some ⟨h.length, 2, none⟩)) h67 fun v70 =>
                      cIn .i64 v70 fun n71 =>
                      ld1 (.pointer (some ⟨h.length, 1, none⟩)) h67 fun v72 =>
                      cIn .i64 v72 fun n73 =>
                      cl (rc md 33 [v69, (.int .i64 n71), (.int .i64 n73)] h67) fun v74 h75 =>
                      cIn .i64 v74 fun n76 =>
                      bif (n76 != n68) then
                        some (.inr (.ret, ((t 1), (.bool false), (t 30), (t 31), (t 32)), h75))
                      else
                        X0 (upd (upd (upd (upd (upd (upd (upd (upd (upd (upd (upd (upd (upd (upd (upd (upd (upd (upd (upd (upd (upd (upd (upd (upd (upd (upd (upd (upd (upd (upd (upd (upd (upd (upd (upd (upd (upd (upd (upd (upd (upd (upd t 33 v1) 34 (t 32)) 35 v3) 36 v4) 5 (.pointer (some ⟨h.length, 0, none⟩))) 4 (t 32)) 6 (.int .i64 (-1))) 37 (.pointer (some ⟨h.length, 0, none⟩))) 38 (.int .i64 n8)) 46 (.bool (n8 == 1))) 45 (.bool (n8 == 1))) 52 (.bool (n8 == 2))) 51 (.bool (n8 == 2))) 56 (.bool (n8 == 3))) 55 (.bool (n8 == 3))) 62 (.bool (n8 == 4))) 61 (.bool (n8 == 4))) 68 (.bool (n8 == 5))) 67 (.bool (n8 == 5))) 74 (.bool (n8 == 6))) 73 (.bool (n8 == 6))) 82 (.bool (n8 == 7))) 81 (.bool (n8 == 7))) 90 (.bool (n8 == 8))) 89 (.bool (n8 == 8))) 98 (.bool (n8 == 9))) 97 (.bool (n8 == 9))) 99 v61) 100 (.pointer (some ⟨h.length, 1, none⟩))) 101 (.int .i64 n63)) 102 (.pointer (some ⟨h.length, 2, none⟩))) 103 (.int .i64 n65)) 104 (.int .i64 n68)) 6 (.int .i64 n68)) 105 v69) 106 (.pointer (some ⟨h.length, 2, none⟩))) 107 (.int .i64 n71)) 108 (.pointer (some ⟨h.length, 1, none⟩))) 109 (.int .i64 n73)) 110 (.int .i64 n76)) 111 (.int .i64 n68)) 112 (.bool (n76 != n68))) h75
                    else
                      ldN 3 (t 1) h6 fun v77 =>
                      ld1 (.pointer (some ⟨h.length, 1, none⟩)) h6 fun v78 =>
                      cIn .i64 v78 fun n79 =>
                      ld1 (.pointer (some ⟨h.length, 2, none⟩)) h6 fun v80 =>
                      cIn .i64 v80 fun n81 =>
                      cl (rc md 34 [v77, (.int .i64 n79), (.int .i64 n81)] h6) fun v82 h83 =>
                      cIn .i64 v82 fun n84 =>
                      X0 (upd (upd (upd (upd (upd (upd (upd (upd (upd (upd (upd (upd (upd (upd (upd (upd (upd (upd (upd (upd (upd (upd (upd (upd (upd (upd (upd (upd (upd (upd (upd (upd (upd (upd t 33 v1) 34 (t 32)) 35 v3) 36 v4) 5 (.pointer (some ⟨h.length, 0, none⟩))) 4 (t 32)) 6 (.int .i64 (-1))) 37 (.pointer (some ⟨h.length, 0, none⟩))) 38 (.int .i64 n8)) 46 (.bool (n8 == 1))) 45 (.bool (n8 == 1))) 52 (.bool (n8 == 2))) 51 (.bool (n8 == 2))) 56 (.bool (n8 == 3))) 55 (.bool (n8 == 3))) 62 (.bool (n8 == 4))) 61 (.bool (n8 == 4))) 68 (.bool (n8 == 5))) 67 (.bool (n8 == 5))) 74 (.bool (n8 == 6))) 73 (.bool (n8 == 6))) 82 (.bool (n8 == 7))) 81 (.bool (n8 == 7))) 90 (.bool (n8 == 8))) 89 (.bool (n8 == 8))) 98 (.bool (n8 == 9))) 97 (.bool (n8 == 9))) 39 v77) 40 (.pointer (some ⟨h.length, 1, none⟩))) 41 (.int .i64 n79)) 42 (.pointer (some ⟨h.length, 2, none⟩))) 43 (.int .i64 n81)) 44 (.int .i64 n84)) 6 (.int .i64 n84)) h83
  else
    some (.inr ((.exit 0), ((t 1), (t 2), (t 30), (t 31), (t 32)), h))
theorem Jr5_0_h1 (rc : Rec) (md : Md) (X : Nat → T → Heap → Option (((Value × Value × Value × Value × Value) × Heap) ⊕ (Exit × (Value × Value × Value × Value × Value) × Heap))) (t : T) (h : Heap) : execG Try.prog cfg X rc md 118 (replS (sub (bodyOf Try.prog 5) [1, 1, 1, 1, 0, 1, 0, 0]) [([1, 1, 0, 0, 1, 1, 1], 0)]) (rndK (fun t => (t 1, t 2, t 30, t 31, t 32))) t h = Jr5_0H rc md (X 0) t h := by kernel_rfl
theorem Jr5_0_h2 (rc : Rec) (md : Md) (t : T) (h : Heap) : Jr5_0H rc md (fun t h => J5_0b0 rc md (t 1) (t 2) (t 4) (t 6) (t 30) (t 31) (t 32) h) t h = Jr5_0 rc md (t 1) (t 2) (t 30) (t 31) (t 32) h := by unfold Jr5_0H Jr5_0; kernel_rfl
theorem Jr5_0_at (rc : Rec) (md : Md) (t : T) (h : Heap) : exec Try.prog cfg rc md 118 (sub (bodyOf Try.prog 5) [1, 1, 1, 1, 0, 1, 0, 0]) (rndK (fun t => (t 1, t 2, t 30, t 31, t 32))) t h = Jr5_0 rc md (t 1) (t 2) (t 30) (t 31) (t 32) h := by
  rw [exec_holes [([1, 1, 0, 0, 1, 1, 1], 0)] (by kernel_rfl), Jr5_0_h1, show (goX Try.prog cfg rc md 118 (sub (bodyOf Try.prog 5) [1, 1, 1, 1, 0, 1, 0, 0]) [([1, 1, 0, 0, 1, 1, 1], 0)] (rndK (fun t => (t 1, t 2, t 30, t 31, t 32)))) 0 = _ from J5_0b0_cut rc md]
  exact Jr5_0_h2 rc md t h
noncomputable def J5_0 (rc : Rec) (md : Md) (h0 : Heap) (s1 : Value) (s2 : Value) (s30 : Value) (s31 : Value) (s32 : Value) (h : Heap) : Option (Value × Heap) :=
  runL (fun x : (Value × Value × Value × Value × Value) × Heap => Jr5_0 rc md x.1.1 x.1.2.1 x.1.2.2.1 x.1.2.2.2.1 x.1.2.2.2.2 x.2) (fun e (s : Value × Value × Value × Value × Value) h => Jk5_0 rc md h0 e s.1 s.2.1 s.2.2.1 s.2.2.2.1 s.2.2.2.2 h) (s1, s2, s30, s31, s32) h
theorem J5_0_step (rc : Rec) (md : Md) (h0 : Heap) (s1 : Value) (s2 : Value) (s30 : Value) (s31 : Value) (s32 : Value) (h : Heap) : J5_0 rc md h0 s1 s2 s30 s31 s32 h = (Jr5_0 rc md s1 s2 s30 s31 s32 h).bind fun x => match x with
    | .inl (s, h) => J5_0 rc md h0 s.1 s.2.1 s.2.2.1 s.2.2.2.1 s.2.2.2.2 h
    | .inr (e, s, h) => Jk5_0 rc md h0 e s.1 s.2.1 s.2.2.1 s.2.2.2.1 s.2.2.2.2 h := by
  unfold J5_0
  rw [runL_eq]
  refine congrArg (Option.bind _) (funext fun x => ?_)
  rcases x with ⟨s, h⟩ | ⟨e, s, h⟩ <;> rfl
theorem J5_0_cut (rc : Rec) (md : Md) (h0 : Heap) : cut Try.prog cfg rc md 118 (bodyOf Try.prog 5) [1, 1, 1, 1, 0, 1, 0] (retK Try.prog cfg 5 (rsOf Try.prog 5) h0) = fun t h => J5_0 rc md h0 (t 1) (t 2) (t 30) (t 31) (t 32) h := by
  funext t h
  have e : sub (bodyOf Try.prog 5) [1, 1, 1, 1, 0, 1, 0] = .loop (sub (bodyOf Try.prog 5) [1, 1, 1, 1, 0, 1, 0, 0]) := by kernel_rfl
  unfold cut
  rw [e]
  exact loop_eq (by kernel_rfl) (fun t => (t 1, t 2, t 30, t 31, t 32)) (fun x : (Value × Value × Value × Value × Value) × Heap => Jr5_0 rc md x.1.1 x.1.2.1 x.1.2.2.1 x.1.2.2.2.1 x.1.2.2.2.2 x.2) (fun t h => Jr5_0_at rc md t h) (fun e (s : Value × Value × Value × Value × Value) h => Jk5_0 rc md h0 e s.1 s.2.1 s.2.2.1 s.2.2.2.1 s.2.2.2.2 h) (fun e t h => Jk5_0_at rc md h0 e t h) t h
noncomputable def F5 (rc : Rec) (md : Md) (a0_0 : Int) (a0_1 : Int) (a0_2 : Int) (h0 : Heap) : Option (Value × Heap) :=
  let h1 : Heap := h0 ++ [.own [(.int .i64 a0_0), (.int .i64 a0_1), (.int .i64 a0_2)]]
  ldN 3 (.pointer (some ⟨h0.length, 0, none⟩)) h1 fun v2 =>
  cl (rc md 14 [v2] h1) fun v3 h4 =>
  cl (rc md 13 [v3] h4) fun v5 h6 =>
  cBn v5 fun b7 =>
  (bif wantV (.bool (!b7)) false then
  some ((.pointer (some ⟨h0.length, 0, none⟩)), h6)
  else some (undef, h6)).bind fun p8 =>
  (bif wantV (.bool (!b7)) false then
  ld1 p8.1 p8.2 fun v9 =>
  cIn .i64 v9 fun n10 =>
  some ((.int .i64 n10), p8.2)
  else some (undef, p8.2)).bind fun p11 =>
  (bif wantV (.bool (!b7)) false then
  aBin Try.prog .gtr 3 p11.1 (.int .i64 6) fun v12 =>
  some (v12, p11.2)
  else some (undef, p11.2)).bind fun p13 =>
  cBn (bif !b7 then (.bool true) else p13.1) fun b14 =>
  (bif wantV (.bool b14) false then
  some ((.pointer (some ⟨h0.length, 1, none⟩)), p13.2)
  else some (undef, p13.2)).bind fun p15 =>
  (bif wantV (.bool b14) false then
  ld1 p15.1 p15.2 fun v16 =>
  cIn .i64 v16 fun n17 =>
  some ((.int .i64 n17), p15.2)
  else some (undef, p15.2)).bind fun p18 =>
  (bif wantV (.bool b14) false then
  aBin Try.prog .gtr 3 p18.1 (.int .i64 6) fun v19 =>
  some (v19, p18.2)
  else some (undef, p18.2)).bind fun p20 =>
  cBn (bif b14 then (.bool true) else p20.1) fun b21 =>
  bif b21 then
    cl (rc md 15 [] p20.2) fun v22 h23 =>
    cBn v22 fun b24 =>
    some ((.bool b24), h0)
  else
    ldN 3 (.pointer (some ⟨h0.length, 0, none⟩)) p20.2 fun v25 =>
    cl (rc md 14 [v25] p20.2) fun v26 h27 =>
    cl (rc md 24 [v26] h27) fun v28 h29 =>
    ldN 3 (.pointer (some ⟨h0.length, 0, none⟩)) h29 fun v30 =>
    cl (rc md 23 [v30] h29) fun v31 h32 =>
    cIn .i64 v31 fun n33 =>
    lenS v28 fun v34 =>
    cIn .i64 v34 fun n35 =>
    bif (n33 != n35) then
      some ((.bool false), h0)
    else
      lenS v28 fun v36 =>
      cIn .i64 v36 fun n37 =>
      J5_0 rc md h0 (.pointer (some ⟨h0.length, 0, none⟩)) (.bool false) v28 (.int .i64 n37) (.int .i64 0) h32
noncomputable def F5H (rc : Rec) (md : Md) (X0 : T → Heap → Option (Value × Heap)) (a0_0 : Int) (a0_1 : Int) (a0_2 : Int) (h0 : Heap) : Option (Value × Heap) :=
  let h1 : Heap := h0 ++ [.own [(.int .i64 a0_0), (.int .i64 a0_1), (.int .i64 a0_2)]]
  ldN 3 (.pointer (some ⟨h0.length, 0, none⟩)) h1 fun v2 =>
  cl (rc md 14 [v2] h1) fun v3 h4 =>
  cl (rc md 13 [v3] h4) fun v5 h6 =>
  cBn v5 fun b7 =>
  (bif wantV (.bool (!b7)) false then
  some ((.pointer (some ⟨h0.length, 0, none⟩)), h6)
  else some (undef, h6)).bind fun p8 =>
  (bif wantV (.bool (!b7)) false then
  ld1 p8.1 p8.2 fun v9 =>
  cIn .i64 v9 fun n10 =>
  some ((.int .i64 n10), p8.2)
  else some (undef, p8.2)).bind fun p11 =>
  (bif wantV (.bool (!b7)) false then
  aBin Try.prog .gtr 3 p11.1 (.int .i64 6) fun v12 =>
  some (v12, p11.2)
  else some (undef, p11.2)).bind fun p13 =>
  cBn (bif !b7 then (.bool true) else p13.1) fun b14 =>
  (bif wantV (.bool b14) false then
  some ((.pointer (some ⟨h0.length, 1, none⟩)), p13.2)
  else some (undef, p13.2)).bind fun p15 =>
  (bif wantV (.bool b14) false then
  ld1 p15.1 p15.2 fun v16 =>
  cIn .i64 v16 fun n17 =>
  some ((.int .i64 n17), p15.2)
  else some (undef, p15.2)).bind fun p18 =>
  (bif wantV (.bool b14) false then
  aBin Try.prog .gtr 3 p18.1 (.int .i64 6) fun v19 =>
  some (v19, p18.2)
  else some (undef, p18.2)).bind fun p20 =>
  cBn (bif b14 then (.bool true) else p20.1) fun b21 =>
  bif b21 then
    cl (rc md 15 [] p20.2) fun v22 h23 =>
    cBn v22 fun b24 =>
    some ((.bool b24), h0)
  else
    ldN 3 (.pointer (some ⟨h0.length, 0, none⟩)) p20.2 fun v25 =>
    cl (rc md 14 [v25] p20.2) fun v26 h27 =>
    cl (rc md 24 [v26] h27) fun v28 h29 =>
    ldN 3 (.pointer (some ⟨h0.length, 0, none⟩)) h29 fun v30 =>
    cl (rc md 23 [v30] h29) fun v31 h32 =>
    cIn .i64 v31 fun n33 =>
    lenS v28 fun v34 =>
    cIn .i64 v34 fun n35 =>
    bif (n33 != n35) then
      some ((.bool false), h0)
    else
      lenS v28 fun v36 =>
      cIn .i64 v36 fun n37 =>
      X0 (upd (upd (upd (upd (upd (upd (upd (upd (upd (upd (upd (upd (upd (upd (upd (upd (upd (upd (upd (upd (upd (upd (upd (upd (upd (upd (upd (upd (args0 [(.agg #[(.int .i64 a0_0), (.int .i64 a0_1), (.int .i64 a0_2)])]) 1 (.pointer (some ⟨h0.length, 0, none⟩))) 2 (.bool false)) 7 v2) 8 v3) 9 (.bool b7)) 10 (.bool (!b7))) 11 (.bool (!b7))) 12 p8.1) 13 p11.1) 14 p13.1) 15 (.bool b14)) 16 (.bool b14)) 17 p15.1) 18 p18.1) 19 p20.1) 20 (.bool b21)) 22 v25) 23 v26) 24 v28) 3 v28) 25 v30) 26 (.int .i64 n33)) 27 v28) 28 (.int .i64 n35)) 29 (.bool (n33 != n35))) 30 v28) 31 (.int .i64 n37)) 32 (.int .i64 0)) h32
theorem F5_h0 (rc : Rec) (md : Md) (a0_0 : Int) (a0_1 : Int) (a0_2 : Int) (h0 : Heap) : callStep0 Try.prog cfg rc md 5 [(.agg #[(.int .i64 a0_0), (.int .i64 a0_1), (.int .i64 a0_2)])] h0 = exec Try.prog cfg rc ⟨h0.length, h0.length⟩ 118 (bodyOf Try.prog 5) (retK Try.prog cfg 5 (rsOf Try.prog 5) h0) (args0 [(.agg #[(.int .i64 a0_0), (.int .i64 a0_1), (.int .i64 a0_2)])]) h0 := callStep0_run (by kernel_rfl) (by kernel_rfl) (by kernel_rfl)
theorem F5_h1 (rc : Rec) (md : Md) (X : Nat → T → Heap → Option (Value × Heap)) (a0_0 : Int) (a0_1 : Int) (a0_2 : Int) (h0 : Heap) : execG Try.prog cfg X rc md 118 (replS (bodyOf Try.prog 5) [([1, 1, 1, 1, 0, 1, 0], 0)]) (retK Try.prog cfg 5 (rsOf Try.prog 5) h0) (args0 [(.agg #[(.int .i64 a0_0), (.int .i64 a0_1), (.int .i64 a0_2)])]) h0 = F5H rc md (X 0) a0_0 a0_1 a0_2 h0 := by kernel_rfl
theorem F5_h2 (rc : Rec) (md : Md) (a0_0 : Int) (a0_1 : Int) (a0_2 : Int) (h0 : Heap) : F5H rc md (fun t h => J5_0 rc md h0 (t 1) (t 2) (t 30) (t 31) (t 32) h) a0_0 a0_1 a0_2 h0 = F5 rc md a0_0 a0_1 a0_2 h0 := by unfold F5H F5; kernel_rfl
theorem F5_eq0 (rc : Rec) (md : Md) (a0_0 : Int) (a0_1 : Int) (a0_2 : Int) (h0 : Heap) : callStep0 Try.prog cfg rc md 5 [(.agg #[(.int .i64 a0_0), (.int .i64 a0_1), (.int .i64 a0_2)])] h0 = F5 rc ⟨h0.length, h0.length⟩ a0_0 a0_1 a0_2 h0 := by
  rw [F5_h0, exec_holes [([1, 1, 1, 1, 0, 1, 0], 0)] (by kernel_rfl), F5_h1, show (goX Try.prog cfg rc ⟨h0.length, h0.length⟩ 118 (bodyOf Try.prog 5) [([1, 1, 1, 1, 0, 1, 0], 0)] (retK Try.prog cfg 5 (rsOf Try.prog 5) h0)) 0 = _ from J5_0_cut rc ⟨h0.length, h0.length⟩ h0]
  exact F5_h2 rc _ a0_0 a0_1 a0_2 h0
theorem F5_eq (rc : Rec) (md : Md) (a0_0 : Int) (a0_1 : Int) (a0_2 : Int) (h0 : Heap) : callStep Try.prog cfg rc md 5 [(.agg #[(.int .i64 a0_0), (.int .i64 a0_1), (.int .i64 a0_2)])] h0 = alone h0 (F5 rc ⟨0, 0⟩ a0_0 a0_1 a0_2 []) := by
  have e : callStep Try.prog cfg rc md 5 [(.agg #[(.int .i64 a0_0), (.int .i64 a0_1), (.int .i64 a0_2)])] h0 = alone h0 (callStep0 Try.prog cfg rc ⟨0, 0⟩ 5 [(.agg #[(.int .i64 a0_0), (.int .i64 a0_1), (.int .i64 a0_2)])] []) := by kernel_rfl
  rw [e, F5_eq0]; rfl

/-- tombolo/tombololaw05.LayNowhere -/
noncomputable def F6 (rc : Rec) (md : Md) (a0_0 : Int) (a0_1 : Int) (a0_2 : Int) (a1 : Int) (a2 : Int) (h0 : Heap) : Option (Value × Heap) :=
  let h1 : Heap := h0 ++ [.own [(.int .i64 a0_0), (.int .i64 a0_1), (.int .i64 a0_2)]]
  ldN 3 (.pointer (some ⟨h0.length, 0, none⟩)) h1 fun v2 =>
  cl (rc md 14 [v2] h1) fun v3 h4 =>
  cl (rc md 13 [v3] h4) fun v5 h6 =>
  cBn v5 fun b7 =>
  bif !b7 then
    cl (rc md 15 [] h6) fun v8 h9 =>
    cBn v8 fun b10 =>
    some ((.bool b10), List.take h0.length h9)
  else
    ldN 3 (.pointer (some ⟨h0.length, 0, none⟩)) h6 fun v11 =>
    cl (rc md 17 [v11] h6) fun v12 h13 =>
    cIn .i64 v12 fun n14 =>
    ldN 3 (.pointer (some ⟨h0.length, 0, none⟩)) h13 fun v15 =>
    cl (rc md 19 [v15] h13) fun v16 h17 =>
    cIn .i64 v16 fun n18 =>
    let h19 : Heap := h17 ++ [.own [(.int .i64 0)]]
    cLE true (fun hq => ldN 3 (.pointer (some ⟨h0.length, 0, none⟩)) hq some) v15 h17 h19 <|
    cLE true (fun hq => ldN 3 (.pointer (some ⟨h0.length, 0, none⟩)) hq some) v11 h17 h19 <|
    st md 1 (.pointer (some ⟨h17.length, 0, none⟩)) (.int .i64 n14) h19 fun h20 =>
    ldN 3 (.pointer (some ⟨h0.length, 0, none⟩)) h20 fun v21 =>
    cl (rc md 21 [v21, (.int .i64 a1), (.int .i64 a2)] h20) fun v22 h23 =>
    cIn .i64 v22 fun n24 =>
    cl (rc md 37 [(.int .i64 a1), (.pointer (some ⟨h17.length, 0, none⟩))] h23) fun v25 h26 =>
    cBn v25 fun b27 =>
    (bif wantV (.bool b27) true then
    some ((.func (.func 35) #[] #[(.pointer (some ⟨h0.length, 0, none⟩))]), h26)
    else some (undef, h26)).bind fun p28 =>
    (bif wantV (.bool b27) true then
    some ((.int .i64 a2), p28.2)
    else some (undef, p28.2)).bind fun p29 =>
    (bif wantV (.bool b27) true then
    clV rc md p28.1 [p29.1] p29.2 fun v30 h31 =>
    cBn v30 fun b32 =>
    some ((.bool b32), h31)
    else some (undef, p29.2)).bind fun p33 =>
    cBn (bif b27 then p33.1 else (.bool false)) fun b34 =>
    aBin Try.prog .neq 4 (.bool (n24 != 0)) (.bool b34) fun v35 =>
    (bif wantV v35 false then
    ldN 3 (.pointer (some ⟨h0.length, 0, none⟩)) p33.2 fun v36 =>
    some (v36, p33.2)
    else some (undef, p33.2)).bind fun p37 =>
    (bif wantV v35 false then
    some ((.int .i64 a1), p37.2)
    else some (undef, p37.2)).bind fun p38 =>
    (bif wantV v35 false then
    some ((.int .i64 a2), p38.2)
    else some (undef, p38.2)).bind fun p39 =>
    (bif wantV v35 false then
    cl (rc md 22 [p37.1, p38.1, p39.1, (.int .i64 0)] p39.2) fun v40 h41 =>
    cIn .i64 v40 fun n42 =>
    some ((.int .i64 n42), h41)
    else some (undef, p39.2)).bind fun p43 =>
    (bif wantV v35 false then
    aBin Try.prog .neq 3 p43.1 (.int .i64 0) fun v44 =>
    some (v44, p43.2)
    else some (undef, p43.2)).bind fun p45 =>
    (bif wantV v35 false then
    some ((.func (.func 36) #[] #[(.pointer (some ⟨h0.length, 0, none⟩))]), p45.2)
    else some (undef, p45.2)).bind fun p46 =>
    (bif wantV v35 false then
    some ((.int .i64 a1), p46.2)
    else some (undef, p46.2)).bind fun p47 =>
    (bif wantV v35 false then
    clV rc md p46.1 [p47.1] p47.2 fun v48 h49 =>
    cBn v48 fun b50 =>
    some ((.bool b50), h49)
    else some (undef, p47.2)).bind fun p51 =>
    (bif wantV v35 false then
    some (p51.1, p51.2)
    else some (undef, p51.2)).bind fun p52 =>
    (bif wantV p52.1 true then
    some ((.func (.func 37) #[] #[(.pointer (some ⟨h17.length, 0, none⟩))]), p52.2)
    else some (undef, p52.2)).bind fun p53 =>
    (bif wantV p52.1 true then
    some ((.int .i64 a2), p53.2)
    else some (undef, p53.2)).bind fun p54 =>
    (bif wantV p52.1 true then
    clV rc md p53.1 [p54.1] p54.2 fun v55 h56 =>
    cBn v55 fun b57 =>
    some ((.bool b57), h56)
    else some (undef, p54.2)).bind fun p58 =>
    (bif wantV v35 false then
    cBn p52.1 fun q59 =>
    cBn (bif q59 then p58.1 else (.bool false)) fun b60 =>
    some ((.bool b60), p58.2)
    else some (undef, p58.2)).bind fun p61 =>
    (bif wantV v35 false then
    aBin Try.prog .neq 4 p45.1 p61.1 fun v62 =>
    some (v62, p61.2)
    else some (undef, p61.2)).bind fun p63 =>
    cBn v35 fun q64 =>
    cBn (bif q64 then (.bool true) else p63.1) fun b65 =>
    (bif wantV (.bool b65) false then
    ldN 3 (.pointer (some ⟨h0.length, 0, none⟩)) p63.2 fun v66 =>
    some (v66, p63.2)
    else some (undef, p63.2)).bind fun p67 =>
    (bif wantV (.bool b65) false then
    some ((.int .i64 a1), p67.2)
    else some (undef, p67.2)).bind fun p68 =>
    (bif wantV (.bool b65) false then
    some ((.int .i64 a2), p68.2)
    else some (undef, p68.2)).bind fun p69 =>
    (bif wantV (.bool b65) false then
    cl (rc md 22 [p67.1, p68.1, (.int .i64 0), p69.1] p69.2) fun v70 h71 =>
    cIn .i64 v70 fun n72 =>
    some ((.int .i64 n72), h71)
    else some (undef, p69.2)).bind fun p73 =>
    (bif wantV (.bool b65) false then
    aBin Try.prog .neq 3 p73.1 (.int .i64 0) fun v74 =>
    some (v74, p73.2)
    else some (undef, p73.2)).bind fun p75 =>
    (bif wantV (.bool b65) false then
    some ((.func (.func 36) #[] #[(.pointer (some ⟨h0.length, 0, none⟩))]), p75.2)
    else some (undef, p75.2)).bind fun p76 =>
    (bif wantV (.bool b65) false then
    some ((.int .i64 a1), p76.2)
    else some (undef, p76.2)).bind fun p77 =>
    (bif wantV (.bool b65) false then
    clV rc md p76.1 [p77.1] p77.2 fun v78 h79 =>
    cBn v78 fun b80 =>
    some ((.bool b80), h79)
    else some (undef, p77.2)).bind fun p81 =>
    (bif wantV (.bool b65) false then
    some (p81.1, p81.2)
    else some (undef, p81.2)).bind fun p82 =>
    (bif wantV p82.1 true then
    some ((.func (.func 38) #[] #[]), p82.2)
    else some (undef, p82.2)).bind fun p83 =>
    (bif wantV p82.1 true then
    some ((.int .i64 a2), p83.2)
    else some (undef, p83.2)).bind fun p84 =>
    (bif wantV p82.1 true then
    clV rc md p83.1 [p84.1] p84.2 fun v85 h86 =>
    cBn v85 fun b87 =>
    some ((.bool b87), h86)
    else some (undef, p84.2)).bind fun p88 =>
    (bif wantV (.bool b65) false then
    cBn p82.1 fun q89 =>
    cBn (bif q89 then p88.1 else (.bool false)) fun b90 =>
    some ((.bool b90), p88.2)
    else some (undef, p88.2)).bind fun p91 =>
    (bif wantV (.bool b65) false then
    aBin Try.prog .neq 4 p75.1 p91.1 fun v92 =>
    some (v92, p91.2)
    else some (undef, p91.2)).bind fun p93 =>
    cBn (bif b65 then (.bool true) else p93.1) fun b94 =>
    bif b94 then
      some ((.bool false), List.take h0.length p93.2)
    else
      ldN 3 (.pointer (some ⟨h0.length, 0, none⟩)) p93.2 fun v95 =>
      cl (rc md 25 [v95, (.int .i64 a1)] p93.2) fun v96 h97 =>
      cIn .i64 v96 fun n98 =>
      (bif wantV (.bool (decide (a1 ≥ 1))) true then
      some ((.int .i64 a1), h97)
      else some (undef, h97)).bind fun p99 =>
      (bif wantV (.bool (decide (a1 ≥ 1))) true then
      some ((.pointer (some ⟨h0.length, 2, none⟩)), p99.2)
      else some (undef, p99.2)).bind fun p100 =>
      (bif wantV (.bool (decide (a1 ≥ 1))) true then
      ld1 p100.1 p100.2 fun v101 =>
      cIn .i64 v101 fun n102 =>
      some ((.int .i64 n102), p100.2)
      else some (undef, p100.2)).bind fun p103 =>
      (bif wantV (.bool (decide (a1 ≥ 1))) true then
      aBin Try.prog .leq 3 p99.1 p103.1 fun v104 =>
      some (v104, p103.2)
      else some (undef, p103.2)).bind fun p105 =>
      cBn (bif (decide (a1 ≥ 1)) then p105.1 else (.bool false)) fun b106 =>
      cl (rc md 39 [(.int .i64 n98), (.bool b106), (.pointer (some ⟨h0.length, 0, none⟩))] p105.2) fun v107 h108 =>
      cBn v107 fun b109 =>
      (bif wantV (.bool b109) true then
      some ((.func (.func 39) #[] #[(.pointer (some ⟨h0.length, 0, none⟩))]), h108)
      else some (undef, h108)).bind fun p110 =>
      (bif wantV (.bool b109) true then
      ldN 3 (.pointer (some ⟨h0.length, 0, none⟩)) p110.2 fun v111 =>
      some (v111, p110.2)
      else some (undef, p110.2)).bind fun p112 =>
      (bif wantV (.bool b109) true then
      some ((.int .i64 a1), p112.2)
      else some (undef, p112.2)).bind fun p113 =>
      (bif wantV (.bool b109) true then
      cl (rc md 27 [p112.1, p113.1] p113.2) fun v114 h115 =>
      cIn .i64 v114 fun n116 =>
      some ((.int .i64 n116), h115)
      else some (undef, p113.2)).bind fun p117 =>
      (bif wantV (.bool b109) true then
      some ((.func (.func 36) #[] #[(.pointer (some ⟨h0.length, 0, none⟩))]), p117.2)
      else some (undef, p117.2)).bind fun p118 =>
      (bif wantV (.bool b109) true then
      some ((.int .i64 a1), p118.2)
      else some (undef, p118.2)).bind fun p119 =>
      (bif wantV (.bool b109) true then
      clV rc md p118.1 [p119.1] p119.2 fun v120 h121 =>
      cBn v120 fun b122 =>
      some ((.bool b122), h121)
      else some (undef, p119.2)).bind fun p123 =>
      (bif wantV (.bool b109) true then
      clV rc md p110.1 [p117.1, p123.1] p123.2 fun v124 h125 =>
      cBn v124 fun b126 =>
      some ((.bool b126), h125)
      else some (undef, p123.2)).bind fun p127 =>
      cBn (bif b109 then p127.1 else (.bool false)) fun b128 =>
      (bif wantV (.bool b128) true then
      some ((.func (.func 39) #[] #[(.pointer (some ⟨h0.length, 0, none⟩))]), p127.2)
      else some (undef, p127.2)).bind fun p129 =>
      (bif wantV (.bool b128) true then
      ldN 3 (.pointer (some ⟨h0.length, 0, none⟩)) p129.2 fun v130 =>
      some (v130, p129.2)
      else some (undef, p129.2)).bind fun p131 =>
      (bif wantV (.bool b128) true then
      some ((.int .i64 a1), p131.2)
      else some (undef, p131.2)).bind fun p132 =>
      (bif wantV (.bool b128) true then
      cl (rc md 28 [p131.1, p132.1] p132.2) fun v133 h134 =>
      cIn .i64 v133 fun n135 =>
      some ((.int .i64 n135), h134)
      else some (undef, p132.2)).bind fun p136 =>
      (bif wantV (.bool b128) true then
      some ((.func (.func 36) #[] #[(.pointer (some ⟨h0.length, 0, none⟩))]), p136.2)
      else some (undef, p136.2)).bind fun p137 =>
      (bif wantV (.bool b128) true then
      some ((.int .i64 a1), p137.2)
      else some (undef, p137.2)).bind fun p138 =>
      (bif wantV (.bool b128) true then
      clV rc md p137.1 [p138.1] p138.2 fun v139 h140 =>
      cBn v139 fun b141 =>
      some ((.bool b141), h140)
      else some (undef, p138.2)).bind fun p142 =>
      (bif wantV (.bool b128) true then
      clV rc md p129.1 [p136.1, p142.1] p142.2 fun v143 h144 =>
      cBn v143 fun b145 =>
      some ((.bool b145), h144)
      else some (undef, p142.2)).bind fun p146 =>
      cBn (bif b128 then p146.1 else (.bool false)) fun b147 =>
      (bif wantV (.bool b147) true then
      some ((.func (.func 39) #[] #[(.pointer (some ⟨h0.length, 0, none⟩))]), p146.2)
      else some (undef, p146.2)).bind fun p148 =>
      (bif wantV (.bool b147) true then
      ldN 3 (.pointer (some ⟨h0.length, 0, none⟩)) p148.2 fun v149 =>
      some (v149, p148.2)
      else some (undef, p148.2)).bind fun p150 =>
      (bif wantV (.bool b147) true then
      some ((.int .i64 a1), p150.2)
      else some (undef, p150.2)).bind fun p151 =>
      (bif wantV (.bool b147) true then
      cl (rc md 29 [p150.1, p151.1] p151.2) fun v152 h153 =>
      cIn .i64 v152 fun n154 =>
      some ((.int .i64 n154), h153)
      else some (undef, p151.2)).bind fun p155 =>
      (bif wantV (.bool b147) true then
      some ((.func (.func 36) #[] #[(.pointer (some ⟨h0.length, 0, none⟩))]), p155.2)
      else some (undef, p155.2)).bind fun p156 =>
      (bif wantV (.bool b147) true then
      some ((.int .i64 a1), p156.2)
      else some (undef, p156.2)).bind fun p157 =>
      (bif wantV (.bool b147) true then
      clV rc md p156.1 [p157.1] p157.2 fun v158 h159 =>
      cBn v158 fun b160 =>
      some ((.bool b160), h159)
      else some (undef, p157.2)).bind fun p161 =>
      (bif wantV (.bool b147) true then
      clV rc md p148.1 [p155.1, p161.1] p161.2 fun v162 h163 =>
      cBn v162 fun b164 =>
      some ((.bool b164), h163)
      else some (undef, p161.2)).bind fun p165 =>
      cBn (bif b147 then p165.1 else (.bool false)) fun b166 =>
      (bif wantV (.bool b166) true then
      some ((.func (.func 39) #[] #[(.pointer (some ⟨h0.length, 0, none⟩))]), p165.2)
      else some (undef, p165.2)).bind fun p167 =>
      (bif wantV (.bool b166) true then
      ldN 3 (.pointer (some ⟨h0.length, 0, none⟩)) p167.2 fun v168 =>
      some (v168, p167.2)
      else some (undef, p167.2)).bind fun p169 =>
      (bif wantV (.bool b166) true then
      some ((.int .i64 a1), p169.2)
      else some (undef, p169.2)).bind fun p170 =>
      (bif wantV (.bool b166) true then
      some ((.int .i64 a2), p170.2)
      else some (undef, p170.2)).bind fun p171 =>
      (bif wantV (.bool b166) true then
      cl (rc md 30 [p169.1, p170.1, p171.1] p171.2) fun v172 h173 =>
      cIn .i64 v172 fun n174 =>
      some ((.int .i64 n174), h173)
      else some (undef, p171.2)).bind fun p175 =>
      (bif wantV (.bool b166) true then
      some ((.func (.func 36) #[] #[(.pointer (some ⟨h0.length, 0, none⟩))]), p175.2)
      else some (undef, p175.2)).bind fun p176 =>
      (bif wantV (.bool b166) true then
      some ((.int .i64 a1), p176.2)
      else some (undef, p176.2)).bind fun p177 =>
      (bif wantV (.bool b166) true then
      clV rc md p176.1 [p177.1] p177.2 fun v178 h179 =>
      cBn v178 fun b180 =>
      some ((.bool b180), h179)
      else some (undef, p177.2)).bind fun p181 =>
      (bif wantV (.bool b166) true then
      some (p181.1, p181.2)
      else some (undef, p181.2)).bind fun p182 =>
      (bif wantV p182.1 true then
      some ((.func (.func 38) #[] #[]), p182.2)
      else some (undef, p182.2)).bind fun p183 =>
      (bif wantV p182.1 true then
      some ((.int .i64 a2), p183.2)
      else some (undef, p183.2)).bind fun p184 =>
      (bif wantV p182.1 true then
      clV rc md p183.1 [p184.1] p184.2 fun v185 h186 =>
      cBn v185 fun b187 =>
      some ((.bool b187), h186)
      else some (undef, p184.2)).bind fun p188 =>
      (bif wantV (.bool b166) true then
      cBn p182.1 fun q189 =>
      cBn (bif q189 then p188.1 else (.bool false)) fun b190 =>
      some ((.bool b190), p188.2)
      else some (undef, p188.2)).bind fun p191 =>
      (bif wantV (.bool b166) true then
      clV rc md p167.1 [p175.1, p191.1] p191.2 fun v192 h193 =>
      cBn v192 fun b194 =>
      some ((.bool b194), h193)
      else some (undef, p191.2)).bind fun p195 =>
      cBn (bif b166 then p195.1 else (.bool false)) fun b196 =>
      (bif wantV (.bool b196) true then
      some ((.func (.func 39) #[] #[(.pointer (some ⟨h0.length, 0, none⟩))]), p195.2)
      else some (undef, p195.2)).bind fun p197 =>
      (bif wantV (.bool b196) true then
      ldN 3 (.pointer (some ⟨h0.length, 0, none⟩)) p197.2 fun v198 =>
      some (v198, p197.2)
      else some (undef, p197.2)).bind fun p199 =>
      (bif wantV (.bool b196) true then
      some ((.int .i64 a1), p199.2)
      else some (undef, p199.2)).bind fun p200 =>
      (bif wantV (.bool b196) true then
      some ((.int .i64 a2), p200.2)
      else some (undef, p200.2)).bind fun p201 =>
      (bif wantV (.bool b196) true then
      cl (rc md 31 [p199.1, p200.1, p201.1] p201.2) fun v202 h203 =>
      cIn .i64 v202 fun n204 =>
      some ((.int .i64 n204), h203)
      else some (undef, p201.2)).bind fun p205 =>
      (bif wantV (.bool b196) true then
      some ((.func (.func 36) #[] #[(.pointer (some ⟨h0.length, 0, none⟩))]), p205.2)
      else some (undef, p205.2)).bind fun p206 =>
      (bif wantV (.bool b196) true then
      some ((.int .i64 a1), p206.2)
      else some (undef, p206.2)).bind fun p207 =>
      (bif wantV (.bool b196) true then
      clV rc md p206.1 [p207.1] p207.2 fun v208 h209 =>
      cBn v208 fun b210 =>
      some ((.bool b210), h209)
      else some (undef, p207.2)).bind fun p211 =>
      (bif wantV (.bool b196) true then
      some (p211.1, p211.2)
      else some (undef, p211.2)).bind fun p212 =>
      (bif wantV p212.1 true then
      some ((.func (.func 38) #[] #[]), p212.2)
      else some (undef, p212.2)).bind fun p213 =>
      (bif wantV p212.1 true then
      some ((.int .i64 a2), p213.2)
      else some (undef, p213.2)).bind fun p214 =>
      (bif wantV p212.1 true then
      clV rc md p213.1 [p214.1] p214.2 fun v215 h216 =>
      cBn v215 fun b217 =>
      some ((.bool b217), h216)
      else some (undef, p214.2)).bind fun p218 =>
      (bif wantV (.bool b196) true then
      cBn p212.1 fun q219 =>
      cBn (bif q219 then p218.1 else (.bool false)) fun b220 =>
      some ((.bool b220), p218.2)
      else some (undef, p218.2)).bind fun p221 =>
      (bif wantV (.bool b196) true then
      clV rc md p197.1 [p205.1, p221.1] p221.2 fun v222 h223 =>
      cBn v222 fun b224 =>
      some ((.bool b224), h223)
      else some (undef, p221.2)).bind fun p225 =>
      cBn (bif b196 then p225.1 else (.bool false)) fun b226 =>
      (bif wantV (.bool b226) true then
      some ((.func (.func 39) #[] #[(.pointer (some ⟨h0.length, 0, none⟩))]), p225.2)
      else some (undef, p225.2)).bind fun p227 =>
      (bif wantV (.bool b226) true then
      ldN 3 (.pointer (some ⟨h0.length, 0, none⟩)) p227.2 fun v228 =>
      some (v228, p227.2)
      else some (undef, p227.2)).bind fun p229 =>
      (bif wantV (.bool b226) true then
      some ((.int .i64 a1), p229.2)
      else some (undef, p229.2)).bind fun p230 =>
      (bif wantV (.bool b226) true then
      some ((.int .i64 a2), p230.2)
      else some (undef, p230.2)).bind fun p231 =>
      (bif wantV (.bool b226) true then
      cl (rc md 32 [p229.1, p230.1, p231.1] p231.2) fun v232 h233 =>
      cIn .i64 v232 fun n234 =>
      some ((.int .i64 n234), h233)
      else some (undef, p231.2)).bind fun p235 =>
      (bif wantV (.bool b226) true then
      some ((.func (.func 35) #[] #[(.pointer (some ⟨h0.length, 0, none⟩))]), p235.2)
      else some (undef, p235.2)).bind fun p236 =>
      (bif wantV (.bool b226) true then
      some ((.int .i64 a1), p236.2)
      else some (undef, p236.2)).bind fun p237 =>
      (bif wantV (.bool b226) true then
      clV rc md p236.1 [p237.1] p237.2 fun v238 h239 =>
      cBn v238 fun b240 =>
      some ((.bool b240), h239)
      else some (undef, p237.2)).bind fun p241 =>
      (bif wantV (.bool b226) true then
      some (p241.1, p241.2)
      else some (undef, p241.2)).bind fun p242 =>
      (bif wantV p242.1 true then
      some ((.func (.func 37) #[] #[(.pointer (some ⟨h17.length, 0, none⟩))]), p242.2)
      else some (undef, p242.2)).bind fun p243 =>
      (bif wantV p242.1 true then
      some ((.int .i64 a2), p243.2)
      else some (undef, p243.2)).bind fun p244 =>
      (bif wantV p242.1 true then
      clV rc md p243.1 [p244.1] p244.2 fun v245 h246 =>
      cBn v245 fun b247 =>
      some ((.bool b247), h246)
      else some (undef, p244.2)).bind fun p248 =>
      (bif wantV (.bool b226) true then
      cBn p242.1 fun q249 =>
      cBn (bif q249 then p248.1 else (.bool false)) fun b250 =>
      some ((.bool b250), p248.2)
      else some (undef, p248.2)).bind fun p251 =>
      (bif wantV (.bool b226) true then
      clV rc md p227.1 [p235.1, p251.1] p251.2 fun v252 h253 =>
      cBn v252 fun b254 =>
      some ((.bool b254), h253)
      else some (undef, p251.2)).bind fun p255 =>
      cBn (bif b226 then p255.1 else (.bool false)) fun b256 =>
      (bif wantV (.bool b256) true then
      some ((.func (.func 39) #[] #[(.pointer (some ⟨h0.length, 0, none⟩))]), p255.2)
      else some (undef, p255.2)).bind fun p257 =>
      (bif wantV (.bool b256) true then
      ldN 3 (.pointer (some ⟨h0.length, 0, none⟩)) p257.2 fun v258 =>
      some (v258, p257.2)
      else some (undef, p257.2)).bind fun p259 =>
      (bif wantV (.bool b256) true then
      some ((.int .i64 a1), p259.2)
      else some (undef, p259.2)).bind fun p260 =>
      (bif wantV (.bool b256) true then
      some ((.int .i64 a2), p260.2)
      else some (undef, p260.2)).bind fun p261 =>
      (bif wantV (.bool b256) true then
      cl (rc md 33 [p259.1, p260.1, p261.1] p261.2) fun v262 h263 =>
      cIn .i64 v262 fun n264 =>
      some ((.int .i64 n264), h263)
      else some (undef, p261.2)).bind fun p265 =>
      (bif wantV (.bool b256) true then
      some ((.int .i64 a1), p265.2)
      else some (undef, p265.2)).bind fun p266 =>
      (bif wantV (.bool b256) true then
      some ((.int .i64 a2), p266.2)
      else some (undef, p266.2)).bind fun p267 =>
      (bif wantV (.bool b256) true then
      aBin Try.prog .neq 3 p266.1 p267.1 fun v268 =>
      some (v268, p267.2)
      else some (undef, p267.2)).bind fun p269 =>
      (bif wantV (.bool b256) true then
      some (p269.1, p269.2)
      else some (undef, p269.2)).bind fun p270 =>
      (bif wantV p270.1 true then
      some ((.func (.func 35) #[] #[(.pointer (some ⟨h0.length, 0, none⟩))]), p270.2)
      else some (undef, p270.2)).bind fun p271 =>
      (bif wantV p270.1 true then
      some ((.int .i64 a1), p271.2)
      else some (undef, p271.2)).bind fun p272 =>
      (bif wantV p270.1 true then
      clV rc md p271.1 [p272.1] p272.2 fun v273 h274 =>
      cBn v273 fun b275 =>
      some ((.bool b275), h274)
      else some (undef, p272.2)).bind fun p276 =>
      (bif wantV (.bool b256) true then
      cBn p270.1 fun q277 =>
      cBn (bif q277 then p276.1 else (.bool false)) fun b278 =>
      some ((.bool b278), p276.2)
      else some (undef, p276.2)).bind fun p279 =>
      (bif wantV (.bool b256) true then
      some (p279.1, p279.2)
      else some (undef, p279.2)).bind fun p280 =>
      (bif wantV p280.1 true then
      some ((.func (.func 35) #[] #[(.pointer (some ⟨h0.length, 0, none⟩))]), p280.2)
      else some (undef, p280.2)).bind fun p281 =>
      (bif wantV p280.1 true then
      some ((.int .i64 a2), p281.2)
      else some (undef, p281.2)).bind fun p282 =>
      (bif wantV p280.1 true then
      clV rc md p281.1 [p282.1] p282.2 fun v283 h284 =>
      cBn v283 fun b285 =>
      some ((.bool b285), h284)
      else some (undef, p282.2)).bind fun p286 =>
      (bif wantV (.bool b256) true then
      cBn p280.1 fun q287 =>
      cBn (bif q287 then p286.1 else (.bool false)) fun b288 =>
      some ((.bool b288), p286.2)
      else some (undef, p286.2)).bind fun p289 =>
      (bif wantV (.bool b256) true then
      clV rc md p257.1 [p265.1, p289.1] p289.2 fun v290 h291 =>
      cBn v290 fun b292 =>
      some ((.bool b292), h291)
      else some (undef, p289.2)).bind fun p293 =>
      cBn (bif b256 then p293.1 else (.bool false)) fun b294 =>
      (bif wantV (.bool b294) true then
      some ((.func (.func 39) #[] #[(.pointer (some ⟨h0.length, 0, none⟩))]), p293.2)
      else some (undef, p293.2)).bind fun p295 =>
      (bif wantV (.bool b294) true then
      ldN 3 (.pointer (some ⟨h0.length, 0, none⟩)) p295.2 fun v296 =>
      some (v296, p295.2)
      else some (undef, p295.2)).bind fun p297 =>
      (bif wantV (.bool b294) true then
      some ((.int .i64 a1), p297.2)
      else some (undef, p297.2)).bind fun p298 =>
      (bif wantV (.bool b294) true then
      some ((.int .i64 a2), p298.2)
      else some (undef, p298.2)).bind fun p299 =>
      (bif wantV (.bool b294) true then
      cl (rc md 34 [p297.1, p298.1, p299.1] p299.2) fun v300 h301 =>
      cIn .i64 v300 fun n302 =>
      some ((.int .i64 n302), h301)
      else some (undef, p299.2)).bind fun p303 =>
      (bif wantV (.bool b294) true then
      some ((.int .i64 a1), p303.2)
      else some (undef, p303.2)).bind fun p304 =>
      (bif wantV (.bool b294) true then
      aBin Try.prog .geq 3 p304.1 (.int .i64 1) fun v305 =>
      some (v305, p304.2)
      else some (undef, p304.2)).bind fun p306 =>
      (bif wantV (.bool b294) true then
      some (p306.1, p306.2)
      else some (undef, p306.2)).bind fun p307 =>
      (bif wantV p307.1 true then
      some ((.int .i64 a1), p307.2)
      else some (undef, p307.2)).bind fun p308 =>
      (bif wantV p307.1 true then
      some ((.int .i64 n18), p308.2)
      else some (undef, p308.2)).bind fun p309 =>
      (bif wantV p307.1 true then
      aBin Try.prog .leq 3 p308.1 p309.1 fun v310 =>
      some (v310, p309.2)
      else some (undef, p309.2)).bind fun p311 =>
      (bif wantV (.bool b294) true then
      cBn p307.1 fun q312 =>
      cBn (bif q312 then p311.1 else (.bool false)) fun b313 =>
      some ((.bool b313), p311.2)
      else some (undef, p311.2)).bind fun p314 =>
      (bif wantV (.bool b294) true then
      some (p314.1, p314.2)
      else some (undef, p314.2)).bind fun p315 =>
      (bif wantV p315.1 true then
      some ((.int .i64 a2), p315.2)
      else some (undef, p315.2)).bind fun p316 =>
      (bif wantV p315.1 true then
      aBin Try.prog .geq 3 p316.1 (.int .i64 0) fun v317 =>
      some (v317, p316.2)
      else some (undef, p316.2)).bind fun p318 =>
      (bif wantV (.bool b294) true then
      cBn p315.1 fun q319 =>
      cBn (bif q319 then p318.1 else (.bool false)) fun b320 =>
      some ((.bool b320), p318.2)
      else some (undef, p318.2)).bind fun p321 =>
      (bif wantV (.bool b294) true then
      some (p321.1, p321.2)
      else some (undef, p321.2)).bind fun p322 =>
      (bif wantV p322.1 true then
      some ((.int .i64 a2), p322.2)
      else some (undef, p322.2)).bind fun p323 =>
      (bif wantV p322.1 true then
      aBin Try.prog .lss 3 p323.1 (.int .i64 7) fun v324 =>
      some (v324, p323.2)
      else some (undef, p323.2)).bind fun p325 =>
      (bif wantV (.bool b294) true then
      cBn p322.1 fun q326 =>
      cBn (bif q326 then p325.1 else (.bool false)) fun b327 =>
      some ((.bool b327), p325.2)
      else some (undef, p325.2)).bind fun p328 =>
      (bif wantV (.bool b294) true then
      clV rc md p295.1 [p303.1, p328.1] p328.2 fun v329 h330 =>
      cBn v329 fun b331 =>
      some ((.bool b331), h330)
      else some (undef, p328.2)).bind fun p332 =>
      cBn (bif b294 then p332.1 else (.bool false)) fun b333 =>
      (bif wantV (.bool b333) true then
      cl (rc md 15 [] p332.2) fun v334 h335 =>
      cBn v334 fun b336 =>
      some ((.bool b336), h335)
      else some (undef, p332.2)).bind fun p337 =>
      cBn (bif b333 then p337.1 else (.bool false)) fun b338 =>
      some ((.bool b338), List.take h0.length p337.2)
theorem F6_eq0 (rc : Rec) (md : Md) (a0_0 : Int) (a0_1 : Int) (a0_2 : Int) (a1 : Int) (a2 : Int) (h0 : Heap) : callStep0 Try.prog cfg rc md 6 [(.agg #[(.int .i64 a0_0), (.int .i64 a0_1), (.int .i64 a0_2)]), (.int .i64 a1), (.int .i64 a2)] h0 = F6 rc ⟨md.ro, h0.length⟩ a0_0 a0_1 a0_2 a1 a2 h0 := by kernel_rfl
theorem F6_eq (rc : Rec) (md : Md) (a0_0 : Int) (a0_1 : Int) (a0_2 : Int) (a1 : Int) (a2 : Int) (h0 : Heap) : callStep Try.prog cfg rc md 6 [(.agg #[(.int .i64 a0_0), (.int .i64 a0_1), (.int .i64 a0_2)]), (.int .i64 a1), (.int .i64 a2)] h0 = F6 rc ⟨md.ro, h0.length⟩ a0_0 a0_1 a0_2 a1 a2 h0 := (callStep_ne (by kernel_rfl)).trans (F6_eq0 rc md a0_0 a0_1 a0_2 a1 a2 h0)

/-- tombolo/tombololaw05.LayApart -/
noncomputable def J7_1 (rc : Rec) (md : Md) (h0 : Heap) (s2 : Value) (s5 : Value) (s6 : Value) (s7 : Value) (s8 : Value) (h : Heap) : Option (Value × Heap) :=
  ldN 3 s2 h fun v1 =>
  cl (rc md 33 [v1, s5, s6] h) fun v2 h3 =>
  cIn .i64 v2 fun n4 =>
  ldN 3 s2 h3 fun v5 =>
  cl (rc md 33 [v5, s7, s8] h3) fun v6 h7 =>
  cIn .i64 v6 fun n8 =>
  (bif wantV (.bool (decide (n4 ≥ 0))) true then
  some ((.int .i64 n4), h7)
  else some (undef, h7)).bind fun p9 =>
  (bif wantV (.bool (decide (n4 ≥ 0))) true then
  some ((.int .i64 n8), p9.2)
  else some (undef, p9.2)).bind fun p10 =>
  (bif wantV (.bool (decide (n4 ≥ 0))) true then
  aBin Try.prog .eql 3 p9.1 p10.1 fun v11 =>
  some (v11, p10.2)
  else some (undef, p10.2)).bind fun p12 =>
  cBn (bif (decide (n4 ≥ 0)) then p12.1 else (.bool false)) fun b13 =>
  (bif wantV (.bool b13) true then
  some (s5, p12.2)
  else some (undef, p12.2)).bind fun p14 =>
  (bif wantV (.bool b13) true then
  some (s6, p14.2)
  else some (undef, p14.2)).bind fun p15 =>
  (bif wantV (.bool b13) true then
  aBuiltin Try.prog md .min #[3, 3] [p14.1, p15.1] p15.2 fun v16 h17 =>
  cIn .i64 v16 fun n18 =>
  some ((.int .i64 n18), h17)
  else some (undef, p15.2)).bind fun p19 =>
  (bif wantV (.bool b13) true then
  some (s7, p19.2)
  else some (undef, p19.2)).bind fun p20 =>
  (bif wantV (.bool b13) true then
  some (s8, p20.2)
  else some (undef, p20.2)).bind fun p21 =>
  (bif wantV (.bool b13) true then
  aBuiltin Try.prog md .min #[3, 3] [p20.1, p21.1] p21.2 fun v22 h23 =>
  cIn .i64 v22 fun n24 =>
  some ((.int .i64 n24), h23)
  else some (undef, p21.2)).bind fun p25 =>
  (bif wantV (.bool b13) true then
  aBin Try.prog .neq 3 p19.1 p25.1 fun v26 =>
  some (v26, p25.2)
  else some (undef, p25.2)).bind fun p27 =>
  cBn (bif b13 then p27.1 else (.bool false)) fun b28 =>
  bif b28 then
    some ((.bool false), h0)
  else
    ldN 3 s2 p27.2 fun v29 =>
    cl (rc md 34 [v29, s5, s6] p27.2) fun v30 h31 =>
    cIn .i64 v30 fun n32 =>
    ldN 3 s2 h31 fun v33 =>
    cl (rc md 34 [v33, s7, s8] h31) fun v34 h35 =>
    cIn .i64 v34 fun n36 =>
    (bif wantV (.bool (decide (n32 ≥ 0))) true then
    some ((.int .i64 n32), h35)
    else some (undef, h35)).bind fun p37 =>
    (bif wantV (.bool (decide (n32 ≥ 0))) true then
    some ((.int .i64 n36), p37.2)
    else some (undef, p37.2)).bind fun p38 =>
    (bif wantV (.bool (decide (n32 ≥ 0))) true then
    aBin Try.prog .eql 3 p37.1 p38.1 fun v39 =>
    some (v39, p38.2)
    else some (undef, p38.2)).bind fun p40 =>
    cBn (bif (decide (n32 ≥ 0)) then p40.1 else (.bool false)) fun b41 =>
    (bif wantV (.bool b41) true then
    some (s5, p40.2)
    else some (undef, p40.2)).bind fun p42 =>
    (bif wantV (.bool b41) true then
    some (s7, p42.2)
    else some (undef, p42.2)).bind fun p43 =>
    (bif wantV (.bool b41) true then
    aBin Try.prog .neq 3 p42.1 p43.1 fun v44 =>
    some (v44, p43.2)
    else some (undef, p43.2)).bind fun p45 =>
    (bif wantV (.bool b41) true then
    some (p45.1, p45.2)
    else some (undef, p45.2)).bind fun p46 =>
    (bif wantV p46.1 false then
    some (s6, p46.2)
    else some (undef, p46.2)).bind fun p47 =>
    (bif wantV p46.1 false then
    some (s8, p47.2)
    else some (undef, p47.2)).bind fun p48 =>
    (bif wantV p46.1 false then
    aBin Try.prog .neq 3 p47.1 p48.1 fun v49 =>
    some (v49, p48.2)
    else some (undef, p48.2)).bind fun p50 =>
    (bif wantV (.bool b41) true then
    cBn p46.1 fun q51 =>
    cBn (bif q51 then (.bool true) else p50.1) fun b52 =>
    some ((.bool b52), p50.2)
    else some (undef, p50.2)).bind fun p53 =>
    cBn (bif b41 then p53.1 else (.bool false)) fun b54 =>
    bif b54 then
      some ((.bool false), h0)
    else
      ldN 3 s2 p53.2 fun v55 =>
      cl (rc md 32 [v55, s5, s6] p53.2) fun v56 h57 =>
      cIn .i64 v56 fun n58 =>
      ldN 3 s2 h57 fun v59 =>
      cl (rc md 32 [v59, s7, s8] h57) fun v60 h61 =>
      cIn .i64 v60 fun n62 =>
      (bif wantV (.bool (decide (n58 < 0))) false then
      some ((.int .i64 n58), h61)
      else some (undef, h61)).bind fun p63 =>
      (bif wantV (.bool (decide (n58 < 0))) false then
      some ((.int .i64 n62), p63.2)
      else some (undef, p63.2)).bind fun p64 =>
      (bif wantV (.bool (decide (n58 < 0))) false then
      aBin Try.prog .neq 3 p63.1 p64.1 fun v65 =>
      some (v65, p64.2)
      else some (undef, p64.2)).bind fun p66 =>
      cBn (bif (decide (n58 < 0)) then (.bool true) else p66.1) fun b67 =>
      (bif wantV (.bool b67) false then
      some (s5, p66.2)
      else some (undef, p66.2)).bind fun p68 =>
      (bif wantV (.bool b67) false then
      some (s7, p68.2)
      else some (undef, p68.2)).bind fun p69 =>
      (bif wantV (.bool b67) false then
      aBin Try.prog .eql 3 p68.1 p69.1 fun v70 =>
      some (v70, p69.2)
      else some (undef, p69.2)).bind fun p71 =>
      (bif wantV (.bool b67) false then
      some (p71.1, p71.2)
      else some (undef, p71.2)).bind fun p72 =>
      (bif wantV p72.1 true then
      some (s6, p72.2)
      else some (undef, p72.2)).bind fun p73 =>
      (bif wantV p72.1 true then
      some (s8, p73.2)
      else some (undef, p73.2)).bind fun p74 =>
      (bif wantV p72.1 true then
      aBin Try.prog .eql 3 p73.1 p74.1 fun v75 =>
      some (v75, p74.2)
      else some (undef, p74.2)).bind fun p76 =>
      (bif wantV (.bool b67) false then
      cBn p72.1 fun q77 =>
      cBn (bif q77 then p76.1 else (.bool false)) fun b78 =>
      some ((.bool b78), p76.2)
      else some (undef, p76.2)).bind fun p79 =>
      cBn (bif b67 then (.bool true) else p79.1) fun b80 =>
      (bif wantV (.bool b80) true then
      cl (rc md 15 [] p79.2) fun v81 h82 =>
      cBn v81 fun b83 =>
      some ((.bool b83), h82)
      else some (undef, p79.2)).bind fun p84 =>
      cBn (bif b80 then p84.1 else (.bool false)) fun b85 =>
      some ((.bool b85), h0)
theorem J7_1_at (rc : Rec) (md : Md) (h0 : Heap) (t : T) (h : Heap) : cut Try.prog cfg rc md 173 (bodyOf Try.prog 7) [1, 1, 1, 1, 1] (retK Try.prog cfg 7 (rsOf Try.prog 7) h0) t h = J7_1 rc md h0 (t 2) (t 5) (t 6) (t 7) (t 8) h := by kernel_rfl
theorem J7_1_cut (rc : Rec) (md : Md) (h0 : Heap) : cut Try.prog cfg rc md 173 (bodyOf Try.prog 7) [1, 1, 1, 1, 1] (retK Try.prog cfg 7 (rsOf Try.prog 7) h0) = fun t h => J7_1 rc md h0 (t 2) (t 5) (t 6) (t 7) (t 8) h := funext fun t => funext fun h => J7_1_at rc md h0 t h
noncomputable def Jk7_0 (rc : Rec) (md : Md) (h0 : Heap) (e : Exit) (s2 : Value) (s4 : Value) (s5 : Value) (s6 : Value) (s7 : Value) (s8 : Value) (s9 : Value) (s68 : Value) (s69 : Value) (s70 : Value) (h : Heap) : Option (Value × Heap) :=
  match e with
  | .normal =>
    J7_1 rc md h0 s2 s5 s6 s7 s8 h
  | .exit j =>
    bif Nat.beq j 0 then
      J7_1 rc md h0 s2 s5 s6 s7 s8 h
    else
      none
  | .ret =>
    fin2 h0 s4
  | .goto l => none
  | .panic ps => none
  | .outgrown => none
noncomputable def Jk7_0H (rc : Rec) (md : Md) (h0 : Heap) (X1 : T → Heap → Option (Value × Heap)) (e : Exit) (t : T) (h : Heap) : Option (Value × Heap) :=
  match e with
  | .normal =>
    X1 t h
  | .exit j =>
    bif Nat.beq j 0 then
      X1 t h
    else
      none
  | .ret =>
    fin2 h0 (t 4)
  | .goto l => none
  | .panic ps => none
  | .outgrown => none
theorem Jk7_0_h1 (rc : Rec) (md : Md) (h0 : Heap) (X : Nat → T → Heap → Option (Value × Heap)) (e : Exit) (t : T) (h : Heap) : kAtG Try.prog cfg X rc md 173 (replS (bodyOf Try.prog 7) [([1, 1, 1, 1, 1], 1)]) [1, 1, 1, 1, 0, 1, 0] (retK Try.prog cfg 7 (rsOf Try.prog 7) h0) e t h = Jk7_0H rc md h0 (X 1) e t h := by cases e <;> kernel_rfl
theorem Jk7_0_h2 (rc : Rec) (md : Md) (h0 : Heap) (e : Exit) (t : T) (h : Heap) : Jk7_0H rc md h0 (fun t h => J7_1 rc md h0 (t 2) (t 5) (t 6) (t 7) (t 8) h) e t h = Jk7_0 rc md h0 e (t 2) (t 4) (t 5) (t 6) (t 7) (t 8) (t 9) (t 68) (t 69) (t 70) h := by cases e <;> (unfold Jk7_0H Jk7_0; kernel_rfl)
theorem Jk7_0_at (rc : Rec) (md : Md) (h0 : Heap) (e : Exit) (t : T) (h : Heap) : kAt Try.prog cfg rc md 173 (bodyOf Try.prog 7) [1, 1, 1, 1, 0, 1, 0] (retK Try.prog cfg 7 (rsOf Try.prog 7) h0) e t h = Jk7_0 rc md h0 e (t 2) (t 4) (t 5) (t 6) (t 7) (t 8) (t 9) (t 68) (t 69) (t 70) h := by
  rw [kAt_holes [([1, 1, 1, 1, 1], 1)] [1, 1, 1, 1, 0, 1, 0] (by kernel_rfl), Jk7_0_h1, show (goX Try.prog cfg rc md 173 (bodyOf Try.prog 7) [([1, 1, 1, 1, 1], 1)] (retK Try.prog cfg 7 (rsOf Try.prog 7) h0)) 1 = _ from J7_1_cut rc md h0]
  exact Jk7_0_h2 rc md h0 e t h
noncomputable def Jk7_0b0 (rc : Rec) (md : Md) (e : Exit) (s2 : Value) (s4 : Value) (s5 : Value) (s6 : Value) (s7 : Value) (s8 : Value) (s9 : Value) (s10 : Value) (s11 : Value) (s68 : Value) (s69 : Value) (s70 : Value) (s75 : Value) (s76 : Value) (s77 : Value) (h : Heap) : Option (((Value × Value × Value × Value × Value × Value × Value × Value × Value × Value) × Heap) ⊕ (Exit × (Value × Value × Value × Value × Value × Value × Value × Value × Value × Value) × Heap)) :=
  match e with
  | .normal =>
    aBin Try.prog .add 3 s70 (.int .i64 1) fun v1 =>
    some (.inl ((s2, s4, s5, s6, s7, s8, s9, s68, s69, v1), h))
  | .exit j =>
    bif Nat.beq j 2 then
      aBin Try.prog .add 3 s70 (.int .i64 1) fun v2 =>
      some (.inl ((s2, s4, s5, s6, s7, s8, s9, s68, s69, v2), h))
    else
      bif Nat.beq j 1 then
        aBin Try.prog .add 3 s70 (.int .i64 1) fun v3 =>
        some (.inl ((s2, s4, s5, s6, s7, s8, s9, s68, s69, v3), h))
      else
        some (.inr ((.exit j), (s2, s4, s5, s6, s7, s8, s9, s68, s69, s70), h))
  | .ret =>
    some (.inr (.ret, (s2, s4, s5, s6, s7, s8, s9, s68, s69, s70), h))
  | .goto l => some (.inr ((.goto l), (s2, s4, s5, s6, s7, s8, s9, s68, s69, s70), h))
  | .panic ps => some (.inr ((.panic ps), (s2, s4, s5, s6, s7, s8, s9, s68, s69, s70), h))
  | .outgrown => some (.inr (.outgrown, (s2, s4, s5, s6, s7, s8, s9, s68, s69, s70), h))
theorem Jk7_0b0_at (rc : Rec) (md : Md) (e : Exit) (t : T) (h : Heap) : kAt Try.prog cfg rc md 173 (sub (bodyOf Try.prog 7) [1, 1, 1, 1, 0, 1, 0, 0]) [1, 1, 0, 0, 1, 1, 0] (rndK (fun t => (t 2, t 4, t 5, t 6, t 7, t 8, t 9, t 68, t 69, t 70))) e t h = Jk7_0b0 rc md e (t 2) (t 4) (t 5) (t 6) (t 7) (t 8) (t 9) (t 10) (t 11) (t 68) (t 69) (t 70) (t 75) (t 76) (t 77) h := by cases e <;> kernel_rfl
/-- a round -/
noncomputable def Jr7_0b0 (rc : Rec) (md : Md) (s2 : Value) (s4 : Value) (s5 : Value) (s6 : Value) (s7 : Value) (s8 : Value) (s9 : Value) (s10 : Value) (s11 : Value) (s68 : Value) (s69 : Value) (s70 : Value) (s75 : Value) (s76 : Value) (s77 : Value) (h : Heap) : Option (((Value × Value × Value × Value × Value × Value × Value × Value × Value × Value × Value × Value × Value × Value × Value) × Heap) ⊕ (Exit × (Value × Value × Value × Value × Value × Value × Value × Value × Value × Value × Value × Value × Value × Value × Value) × Heap)) :=
  aBin Try.prog .lss 3 s77 s76 fun v1 =>
  cBn v1 fun b2 =>
  bif b2 then
    ixSV 1 s75 s77 fun v3 =>
    ld1 v3 h fun v4 =>
    cIn .i64 v4 fun n5 =>
    aBin Try.prog .geq 3 s11 (.int .i64 0) fun v6 =>
    (bif wantV v6 true then
    some (s10, h)
    else some (undef, h)).bind fun p7 =>
    (bif wantV v6 true then
    some (s77, p7.2)
    else some (undef, p7.2)).bind fun p8 =>
    (bif wantV v6 true then
    aBin Try.prog .neq 3 p7.1 p8.1 fun v9 =>
    some (v9, p8.2)
    else some (undef, p8.2)).bind fun p10 =>
    cBn v6 fun q11 =>
    cBn (bif q11 then p10.1 else (.bool false)) fun b12 =>
    (bif wantV (.bool b12) true then
    some (s11, p10.2)
    else some (undef, p10.2)).bind fun p13 =>
    (bif wantV (.bool b12) true then
    some ((.int .i64 n5), p13.2)
    else some (undef, p13.2)).bind fun p14 =>
    (bif wantV (.bool b12) true then
    aBin Try.prog .eql 3 p13.1 p14.1 fun v15 =>
    some (v15, p14.2)
    else some (undef, p14.2)).bind fun p16 =>
    cBn (bif b12 then p16.1 else (.bool false)) fun b17 =>
    bif b17 then
      some (.inr (.ret, (s2, (.bool false), s5, s6, s7, s8, s9, s10, s11, s68, s69, s70, s75, s76, s77), p16.2))
    else
      aBin Try.prog .add 3 s77 (.int .i64 1) fun v18 =>
      some (.inl ((s2, s4, s5, s6, s7, s8, s9, s10, s11, s68, s69, s70, s75, s76, v18), p16.2))
  else
    some (.inr ((.exit 2), (s2, s4, s5, s6, s7, s8, s9, s10, s11, s68, s69, s70, s75, s76, s77), h))
theorem Jr7_0b0_at (rc : Rec) (md : Md) (t : T) (h : Heap) : exec Try.prog cfg rc md 173 (sub (bodyOf Try.prog 7) [1, 1, 1, 1, 0, 1, 0, 0, 1, 1, 0, 0, 1, 1, 0, 0]) (rndK (fun t => (t 2, t 4, t 5, t 6, t 7, t 8, t 9, t 10, t 11, t 68, t 69, t 70, t 75, t 76, t 77))) t h = Jr7_0b0 rc md (t 2) (t 4) (t 5) (t 6) (t 7) (t 8) (t 9) (t 10) (t 11) (t 68) (t 69) (t 70) (t 75) (t 76) (t 77) h := by kernel_rfl
noncomputable def J7_0b0 (rc : Rec) (md : Md) (s2 : Value) (s4 : Value) (s5 : Value) (s6 : Value) (s7 : Value) (s8 : Value) (s9 : Value) (s10 : Value) (s11 : Value) (s68 : Value) (s69 : Value) (s70 : Value) (s75 : Value) (s76 : Value) (s77 : Value) (h : Heap) : Option (((Value × Value × Value × Value × Value × Value × Value × Value × Value × Value) × Heap) ⊕ (Exit × (Value × Value × Value × Value × Value × Value × Value × Value × Value × Value) × Heap)) :=
  runL (fun x : (Value × Value × Value × Value × Value × Value × Value × Value × Value × Value × Value × Value × Value × Value × Value) × Heap => Jr7_0b0 rc md x.1.1 x.1.2.1 x.1.2.2.1 x.1.2.2.2.1 x.1.2.2.2.2.1 x.1.2.2.2.2.2.1 x.1.2.2.2.2.2.2.1 x.1.2.2.2.2.2.2.2.1 x.1.2.2.2.2.2.2.2.2.1 x.1.2.2.2.2.2.2.2.2.2.1 x.1.2.2.2.2.2.2.2.2.2.2.1 x.1.2.2.2.2.2.2.2.2.2.2.2.1 x.1.2.2.2.2.2.2.2.2.2.2.2.2.1 x.1.2.2.2.2.2.2.2.2.2.2.2.2.2.1 x.1.2.2.2.2.2.2.2.2.2.2.2.2.2.2 x.2) (fun e (s : Value × Value × Value × Value × Value × Value × Value × Value × Value × Value × Value × Value × Value × Value × Value) h => Jk7_0b0 rc md e s.1 s.2.1 s.2.2.1 s.2.2.2.1 s.2.2.2.2.1 s.2.2.2.2.2.1 s.2.2.2.2.2.2.1 s.2.2.2.2.2.2.2.1 s.2.2.2.2.2.2.2.2.1 s.2.2.2.2.2.2.2.2.2.1 s.2.2.2.2.2.2.2.2.2.2.1 s.2.2.2.2.2.2.2.2.2.2.2.1 s.2.2.2.2.2.2.2.2.2.2.2.2.1 s.2.2.2.2.2.2.2.2.2.2.2.2.2.1 s.2.2.2.2.2.2.2.2.2.2.2.2.2.2 h) (s2, s4, s5, s6, s7, s8, s9, s10, s11, s68, s69, s70, s75, s76, s77) h
theorem J7_0b0_step (rc : Rec) (md : Md) (s2 : Value) (s4 : Value) (s5 : Value) (s6 : Value) (s7 : Value) (s8 : Value) (s9 : Value) (s10 : Value) (s11 : Value) (s68 : Value) (s69 : Value) (s70 : Value) (s75 : Value) (s76 : Value) (s77 : Value) (h : Heap) : J7_0b0 rc md s2 s4 s5 s6 s7 s8 s9 s10 s11 s68 s69 s70 s75 s76 s77 h = (Jr7_0b0 rc md s2 s4 s5 s6 s7 s8 s9 s10 s11 s68 s69 s70 s75 s76 s77 h).bind fun x => match x with
    | .inl (s, h) => J7_0b0 rc md s.1 s.2.1 s.2.2.1 s.2.2.2.1 s.2.2.2.2.1 s.2.2.2.2.2.1 s.2.2.2.2.2.2.1 s.2.2.2.2.2.2.2.1 s.2.2.2.2.2.2.2.2.1 s.2.2.2.2.2.2.2.2.2.1 s.2.2.2.2.2.2.2.2.2.2.1 s.2.2.2.2.2.2.2.2.2.2.2.1 s.2.2.2.2.2.2.2.2.2.2.2.2.1 s.2.2.2.2.2.2.2.2.2.2.2.2.2.1 s.2.2.2.2.2.2.2.2.2.2.2.2.2.2 h
    | .inr (e, s, h) => Jk7_0b0 rc md e s.1 s.2.1 s.2.2.1 s.2.2.2.1 s.2.2.2.2.1 s.2.2.2.2.2.1 s.2.2.2.2.2.2.1 s.2.2.2.2.2.2.2.1 s.2.2.2.2.2.2.2.2.1 s.2.2.2.2.2.2.2.2.2.1 s.2.2.2.2.2.2.2.2.2.2.1 s.2.2.2.2.2.2.2.2.2.2.2.1 s.2.2.2.2.2.2.2.2.2.2.2.2.1 s.2.2.2.2.2.2.2.2.2.2.2.2.2.1 s.2.2.2.2.2.2.2.2.2.2.2.2.2.2 h := by
  unfold J7_0b0
  rw [runL_eq]
  refine congrArg (Option.bind _) (funext fun x => ?_)
  rcases x with ⟨s, h⟩ | ⟨e, s, h⟩ <;> rfl
theorem J7_0b0_cut (rc : Rec) (md : Md) : cut Try.prog cfg rc md 173 (sub (bodyOf Try.prog 7) [1, 1, 1, 1, 0, 1, 0, 0]) [1, 1, 0, 0, 1, 1, 0] (rndK (fun t => (t 2, t 4, t 5, t 6, t 7, t 8, t 9, t 68, t 69, t 70))) = fun t h => J7_0b0 rc md (t 2) (t 4) (t 5) (t 6) (t 7) (t 8) (t 9) (t 10) (t 11) (t 68) (t 69) (t 70) (t 75) (t 76) (t 77) h := by
  funext t h
  have e : sub (sub (bodyOf Try.prog 7) [1, 1, 1, 1, 0, 1, 0, 0]) [1, 1, 0, 0, 1, 1, 0] = .loop (sub (bodyOf Try.prog 7) [1, 1, 1, 1, 0, 1, 0, 0, 1, 1, 0, 0, 1, 1, 0, 0]) := by kernel_rfl
  unfold cut
  rw [e]
  exact loop_eq (by kernel_rfl) (fun t => (t 2, t 4, t 5, t 6, t 7, t 8, t 9, t 10, t 11, t 68, t 69, t 70, t 75, t 76, t 77)) (fun x : (Value × Value × Value × Value × Value × Value × Value × Value × Value × Value × Value × Value × Value × Value × Value) × Heap => Jr7_0b0 rc md x.1.1 x.1.2.1 x.1.2.2.1 x.1.2.2.2.1 x.1.2.2.2.2.1 x.1.2.2.2.2.2.1 x.1.2.2.2.2.2.2.1 x.1.2.2.2.2.2.2.2.1 x.1.2.2.2.2.2.2.2.2.1 x.1.2.2.2.2.2.2.2.2.2.1 x.1.2.2.2.2.2.2.2.2.2.2.1 x.1.2.2.2.2.2.2.2.2.2.2.2.1 x.1.2.2.2.2.2.2.2.2.2.2.2.2.1 x.1.2.2.2.2.2.2.2.2.2.2.2.2.2.1 x.1.2.2.2.2.2.2.2.2.2.2.2.2.2.2 x.2) (fun t h => Jr7_0b0_at rc md t h) (fun e (s : Value × Value × Value × Value × Value × Value × Value × Value × Value × Value × Value × Value × Value × Value × Value) h => Jk7_0b0 rc md e s.1 s.2.1 s.2.2.1 s.2.2.2.1 s.2.2.2.2.1 s.2.2.2.2.2.1 s.2.2.2.2.2.2.1 s.2.2.2.2.2.2.2.1 s.2.2.2.2.2.2.2.2.1 s.2.2.2.2.2.2.2.2.2.1 s.2.2.2.2.2.2.2.2.2.2.1 s.2.2.2.2.2.2.2.2.2.2.2.1 s.2.2.2.2.2.2.2.2.2.2.2.2.1 s.2.2.2.2.2.2.2.2.2.2.2.2.2.1 s.2.2.2.2.2.2.2.2.2.2.2.2.2.2 h) (fun e t h => Jk7_0b0_at rc md e t h) t h
/-- a round -/
noncomputable def Jr7_0 (rc : Rec) (md : Md) (s2 : Value) (s4 : Value) (s5 : Value) (s6 : Value) (s7 : Value) (s8 : Value) (s9 : Value) (s68 : Value) (s69 : Value) (s70 : Value) (h : Heap) : Option (((Value × Value × Value × Value × Value × Value × Value × Value × Value × Value) × Heap) ⊕ (Exit × (Value × Value × Value × Value × Value × Value × Value × Value × Value × Value) × Heap)) :=
  aBin Try.prog .lss 3 s70 s69 fun v1 =>
  cBn v1 fun b2 =>
  bif b2 then
    ixSV 1 s68 s70 fun v3 =>
    ld1 v3 h fun v4 =>
    cIn .i64 v4 fun n5 =>
    lenS s9 fun v6 =>
    cIn .i64 v6 fun n7 =>
    J7_0b0 rc md s2 s4 s5 s6 s7 s8 s9 s70 (.int .i64 n5) s68 s69 s70 s9 (.int .i64 n7) (.int .i64 0) h
  else
    some (.inr ((.exit 0), (s2, s4, s5, s6, s7, s8, s9, s68, s69, s70), h))
noncomputable def Jr7_0H (rc : Rec) (md : Md) (X0 : T → Heap → Option (((Value × Value × Value × Value × Value × Value × Value × Value × Value × Value) × Heap) ⊕ (Exit × (Value × Value × Value × Value × Value × Value × Value × Value × Value × Value) × Heap))) (t : T) (h : Heap) : Option (((Value × Value × Value × Value × Value × Value × Value × Value × Value × Value) × Heap) ⊕ (Exit × (Value × Value × Value × Value × Value × Value × Value × Value × Value × Value) × Heap)) :=
  aBin Try.prog .lss 3 (t 70) (t 69) fun v1 =>
  cBn v1 fun b2 =>
  bif b2 then
    ixSV 1 (t 68) (t 70) fun v3 =>
    ld1 v3 h fun v4 =>
    cIn .i64 v4 fun n5 =>
    lenS (t 9) fun v6 =>
    cIn .i64 v6 fun n7 =>
    X0 (upd (upd (upd (upd (upd (upd (upd (upd (upd t 71 v1) 72 (t 70)) 73 v3) 74 (.int .i64 n5)) 10 (t 70)) 11 (.int .i64 n5)) 75 (t 9)) 76 (.int .i64 n7)) 77 (.int .i64 0)) h
  else
    some (.inr ((.exit 0), ((t 2), (t 4), (t 5), (t 6), (t 7), (t 8), (t 9), (t 68), (t 69), (t 70)), h))
theorem Jr7_0_h1 (rc : Rec) (md : Md) (X : Nat → T → Heap → Option (((Value × Value × Value × Value × Value × Value × Value × Value × Value × Value) × Heap) ⊕ (Exit × (Value × Value × Value × Value × Value × Value × Value × Value × Value × Value) × Heap))) (t : T) (h : Heap) : execG Try.prog cfg X rc md 173 (replS (sub (bodyOf Try.prog 7) [1, 1, 1, 1, 0, 1, 0, 0]) [([1, 1, 0, 0, 1, 1, 0], 0)]) (rndK (fun t => (t 2, t 4, t 5, t 6, t 7, t 8, t 9, t 68, t 69, t 70))) t h = Jr7_0H rc md (X 0) t h := by kernel_rfl
theorem Jr7_0_h2 (rc : Rec) (md : Md) (t : T) (h : Heap) : Jr7_0H rc md (fun t h => J7_0b0 rc md (t 2) (t 4) (t 5) (t 6) (t 7) (t 8) (t 9) (t 10) (t 11) (t 68) (t 69) (t 70) (t 75) (t 76) (t 77) h) t h = Jr7_0 rc md (t 2) (t 4) (t 5) (t 6) (t 7) (t 8) (t 9) (t 68) (t 69) (t 70) h := by unfold Jr7_0H Jr7_0; kernel_rfl
theorem Jr7_0_at (rc : Rec) (md : Md) (t : T) (h : Heap) : exec Try.prog cfg rc md 173 (sub (bodyOf Try.prog 7) [1, 1, 1, 1, 0, 1, 0, 0]) (rndK (fun t => (t 2, t 4, t 5, t 6, t 7, t 8, t 9, t 68, t 69, t 70))) t h = Jr7_0 rc md (t 2) (t 4) (t 5) (t 6) (t 7) (t 8) (t 9) (t 68) (t 69) (t 70) h := by
  rw [exec_holes [([1, 1, 0, 0, 1, 1, 0], 0)] (by kernel_rfl), Jr7_0_h1, show (goX Try.prog cfg rc md 173 (sub (bodyOf Try.prog 7) [1, 1, 1, 1, 0, 1, 0, 0]) [([1, 1, 0, 0, 1, 1, 0], 0)] (rndK (fun t => (t 2, t 4, t 5, t 6, t 7, t 8, t 9, t 68, t 69, t 70)))) 0 = _ from J7_0b0_cut rc md]
  exact Jr7_0_h2 rc md t h
noncomputable def J7_0 (rc : Rec) (md : Md) (h0 : Heap) (s2 : Value) (s4 : Value) (s5 : Value) (s6 : Value) (s7 : Value) (s8 : Value) (s9 : Value) (s68 : Value) (s69 : Value) (s70 : Value) (h : Heap) : Option (Value × Heap) :=
  runL (fun x : (Value × Value × Value × Value × Value × Value × Value × Value × Value × Value) × Heap => Jr7_0 rc md x.1.1 x.1.2.1 x.1.2.2.1 x.1.2.2.2.1 x.1.2.2.2.2.1 x.1.2.2.2.2.2.1 x.1.2.2.2.2.2.2.1 x.1.2.2.2.2.2.2.2.1 x.1.2.2.2.2.2.2.2.2.1 x.1.2.2.2.2.2.2.2.2.2 x.2) (fun e (s : Value × Value × Value × Value × Value × Value × Value × Value × Value × Value) h => Jk7_0 rc md h0 e s.1 s.2.1 s.2.2.1 s.2.2.2.1 s.2.2.2.2.1 s.2.2.2.2.2.1 s.2.2.2.2.2.2.1 s.2.2.2.2.2.2.2.1 s.2.2.2.2.2.2.2.2.1 s.2.2.2.2.2.2.2.2.2 h) (s2, s4, s5, s6, s7, s8, s9, s68, s69, s70) h
theorem J7_0_step (rc : Rec) (md : Md) (h0 : Heap) (s2 : Value) (s4 : Value) (s5 : Value) (s6 : Value) (s7 : Value) (s8 : Value) (s9 : Value) (s68 : Value) (s69 : Value) (s70 : Value) (h : Heap) : J7_0 rc md h0 s2 s4 s5 s6 s7 s8 s9 s68 s69 s70 h = (Jr7_0 rc md s2 s4 s5 s6 s7 s8 s9 s68 s69 s70 h).bind fun x => match x with
    | .inl (s, h) => J7_0 rc md h0 s.1 s.2.1 s.2.2.1 s.2.2.2.1 s.2.2.2.2.1 s.2.2.2.2.2.1 s.2.2.2.2.2.2.1 s.2.2.2.2.2.2.2.1 s.2.2.2.2.2.2.2.2.1 s.2.2.2.2.2.2.2.2.2 h
    | .inr (e, s, h) => Jk7_0 rc md h0 e s.1 s.2.1 s.2.2.1 s.2.2.2.1 s.2.2.2.2.1 s.2.2.2.2.2.1 s.2.2.2.2.2.2.1 s.2.2.2.2.2.2.2.1 s.2.2.2.2.2.2.2.2.1 s.2.2.2.2.2.2.2.2.2 h := by
  unfold J7_0
  rw [runL_eq]
  refine congrArg (Option.bind _) (funext fun x => ?_)
  rcases x with ⟨s, h⟩ | ⟨e, s, h⟩ <;> rfl
theorem J7_0_cut (rc : Rec) (md : Md) (h0 : Heap) : cut Try.prog cfg rc md 173 (bodyOf Try.prog 7) [1, 1, 1, 1, 0, 1, 0] (retK Try.prog cfg 7 (rsOf Try.prog 7) h0) = fun t h => J7_0 rc md h0 (t 2) (t 4) (t 5) (t 6) (t 7) (t 8) (t 9) (t 68) (t 69) (t 70) h := by
  funext t h
  have e : sub (bodyOf Try.prog 7) [1, 1, 1, 1, 0, 1, 0] = .loop (sub (bodyOf Try.prog 7) [1, 1, 1, 1, 0, 1, 0, 0]) := by kernel_rfl
  unfold cut
  rw [e]
  exact loop_eq (by kernel_rfl) (fun t => (t 2, t 4, t 5, t 6, t 7, t 8, t 9, t 68, t 69, t 70)) (fun x : (Value × Value × Value × Value × Value × Value × Value × Value × Value × Value) × Heap => Jr7_0 rc md x.1.1 x.1.2.1 x.1.2.2.1 x.1.2.2.2.1 x.1.2.2.2.2.1 x.1.2.2.2.2.2.1 x.1.2.2.2.2.2.2.1 x.1.2.2.2.2.2.2.2.1 x.1.2.2.2.2.2.2.2.2.1 x.1.2.2.2.2.2.2.2.2.2 x.2) (fun t h => Jr7_0_at rc md t h) (fun e (s : Value × Value × Value × Value × Value × Value × Value × Value × Value × Value) h => Jk7_0 rc md h0 e s.1 s.2.1 s.2.2.1 s.2.2.2.1 s.2.2.2.2.1 s.2.2.2.2.2.1 s.2.2.2.2.2.2.1 s.2.2.2.2.2.2.2.1 s.2.2.2.2.2.2.2.2.1 s.2.2.2.2.2.2.2.2.2 h) (fun e t h => Jk7_0_at rc md h0 e t h) t h
noncomputable def F7 (rc : Rec) (md : Md) (a0_0 : Int) (a0_1 : Int) (a0_2 : Int) (a1_0 : Int) (a1_1 : Int) (a1_2 : Int) (a1_3 : Int) (h0 : Heap) : Option (Value × Heap) :=
  let h1 : Heap := h0 ++ [.own [(.int .i64 a0_0), (.int .i64 a0_1), (.int .i64 a0_2)]]
  let h2 : Heap := h1 ++ [.own [(.int .i64 a1_0), (.int .i64 a1_1), (.int .i64 a1_2), (.int .i64 a1_3)]]
  ld1 (.pointer (some ⟨h1.length, 0, none⟩)) h2 fun v3 =>
  cIn .i64 v3 fun n4 =>
  ld1 (.pointer (some ⟨h1.length, 1, none⟩)) h2 fun v5 =>
  cIn .i64 v5 fun n6 =>
  ld1 (.pointer (some ⟨h1.length, 2, none⟩)) h2 fun v7 =>
  cIn .i64 v7 fun n8 =>
  ld1 (.pointer (some ⟨h1.length, 3, none⟩)) h2 fun v9 =>
  cIn .i64 v9 fun n10 =>
  ldN 3 (.pointer (some ⟨h0.length, 0, none⟩)) h2 fun v11 =>
  cl (rc md 14 [v11] h2) fun v12 h13 =>
  cl (rc md 13 [v12] h13) fun v14 h15 =>
  cBn v14 fun b16 =>
  bif !b16 then
    cl (rc md 15 [] h15) fun v17 h18 =>
    cBn v17 fun b19 =>
    some ((.bool b19), h0)
  else
    ldN 3 (.pointer (some ⟨h0.length, 0, none⟩)) h15 fun v20 =>
    cl (rc md 25 [v20, (.int .i64 n4)] h15) fun v21 h22 =>
    cIn .i64 v21 fun n23 =>
    ldN 3 (.pointer (some ⟨h0.length, 0, none⟩)) h22 fun v24 =>
    cl (rc md 27 [v24, (.int .i64 n4)] h22) fun v25 h26 =>
    cIn .i64 v25 fun n27 =>
    ldN 3 (.pointer (some ⟨h0.length, 0, none⟩)) h26 fun v28 =>
    cl (rc md 28 [v28, (.int .i64 n4)] h26) fun v29 h30 =>
    cIn .i64 v29 fun n31 =>
    ldN 3 (.pointer (some ⟨h0.length, 0, none⟩)) h30 fun v32 =>
    cl (rc md 29 [v32, (.int .i64 n4)] h30) fun v33 h34 =>
    cIn .i64 v33 fun n35 =>
    ldN 3 (.pointer (some ⟨h0.length, 0, none⟩)) h34 fun v36 =>
    cl (rc md 30 [v36, (.int .i64 n4), (.int .i64 n6)] h34) fun v37 h38 =>
    cIn .i64 v37 fun n39 =>
    ldN 3 (.pointer (some ⟨h0.length, 0, none⟩)) h38 fun v40 =>
    cl (rc md 31 [v40, (.int .i64 n4), (.int .i64 n6)] h38) fun v41 h42 =>
    cIn .i64 v41 fun n43 =>
    ldN 3 (.pointer (some ⟨h0.length, 0, none⟩)) h42 fun v44 =>
    cl (rc md 32 [v44, (.int .i64 n4), (.int .i64 n6)] h42) fun v45 h46 =>
    cIn .i64 v45 fun n47 =>
    ldN 3 (.pointer (some ⟨h0.length, 0, none⟩)) h46 fun v48 =>
    cl (rc md 33 [v48, (.int .i64 n4), (.int .i64 n6)] h46) fun v49 h50 =>
    cIn .i64 v49 fun n51 =>
    ldN 3 (.pointer (some ⟨h0.length, 0, none⟩)) h50 fun v52 =>
    cl (rc md 34 [v52, (.int .i64 n4), (.int .i64 n6)] h50) fun v53 h54 =>
    cIn .i64 v53 fun n55 =>
    ldN 3 (.pointer (some ⟨h0.length, 0, none⟩)) h54 fun v56 =>
    cl (rc md 26 [v56] h54) fun v57 h58 =>
    cIn .i64 v57 fun n59 =>
    let h60 : Heap := h58 ++ [.own [(.int .i64 n23), (.int .i64 n27), (.int .i64 n31), (.int .i64 n35), (.int .i64 n39), (.int .i64 n43), (.int .i64 n47), (.int .i64 n51), (.int .i64 n55), (.int .i64 n59)]]
    lenS (.slice (some ⟨h58.length, 0, none⟩) 10 1) fun v61 =>
    cIn .i64 v61 fun n62 =>
    J7_0 rc md h0 (.pointer (some ⟨h0.length, 0, none⟩)) (.bool false) (.int .i64 n4) (.int .i64 n6) (.int .i64 n8) (.int .i64 n10) (.slice (some ⟨h58.length, 0, none⟩) 10 1) (.slice (some ⟨h58.length, 0, none⟩) 10 1) (.int .i64 n62) (.int .i64 0) h60
noncomputable def F7H (rc : Rec) (md : Md) (X0 : T → Heap → Option (Value × Heap)) (a0_0 : Int) (a0_1 : Int) (a0_2 : Int) (a1_0 : Int) (a1_1 : Int) (a1_2 : Int) (a1_3 : Int) (h0 : Heap) : Option (Value × Heap) :=
  let h1 : Heap := h0 ++ [.own [(.int .i64 a0_0), (.int .i64 a0_1), (.int .i64 a0_2)]]
  let h2 : Heap := h1 ++ [.own [(.int .i64 a1_0), (.int .i64 a1_1), (.int .i64 a1_2), (.int .i64 a1_3)]]
  ld1 (.pointer (some ⟨h1.length, 0, none⟩)) h2 fun v3 =>
  cIn .i64 v3 fun n4 =>
  ld1 (.pointer (some ⟨h1.length, 1, none⟩)) h2 fun v5 =>
  cIn .i64 v5 fun n6 =>
  ld1 (.pointer (some ⟨h1.length, 2, none⟩)) h2 fun v7 =>
  cIn .i64 v7 fun n8 =>
  ld1 (.pointer (some ⟨h1.length, 3, none⟩)) h2 fun v9 =>
  cIn .i64 v9 fun n10 =>
  ldN 3 (.pointer (some ⟨h0.length, 0, none⟩)) h2 fun v11 =>
  cl (rc md 14 [v11] h2) fun v12 h13 =>
  cl (rc md 13 [v12] h13) fun v14 h15 =>
  cBn v14 fun b16 =>
  bif !b16 then
    cl (rc md 15 [] h15) fun v17 h18 =>
    cBn v17 fun b19 =>
    some ((.bool b19), h0)
  else
    ldN 3 (.pointer (some ⟨h0.length, 0, none⟩)) h15 fun v20 =>
    cl (rc md 25 [v20, (.int .i64 n4)] h15) fun v21 h22 =>
    cIn .i64 v21 fun n23 =>
    ldN 3 (.pointer (some ⟨h0.length, 0, none⟩)) h22 fun v24 =>
    cl (rc md 27 [v24, (.int .i64 n4)] h22) fun v25 h26 =>
    cIn .i64 v25 fun n27 =>
    ldN 3 (.pointer (some ⟨h0.length, 0, none⟩)) h26 fun v28 =>
    cl (rc md 28 [v28, (.int .i64 n4)] h26) fun v29 h30 =>
    cIn .i64 v29 fun n31 =>
    ldN 3 (.pointer (some ⟨h0.length, 0, none⟩)) h30 fun v32 =>
    cl (rc md 29 [v32, (.int .i64 n4)] h30) fun v33 h34 =>
    cIn .i64 v33 fun n35 =>
    ldN 3 (.pointer (some ⟨h0.length, 0, none⟩)) h34 fun v36 =>
    cl (rc md 30 [v36, (.int .i64 n4), (.int .i64 n6)] h34) fun v37 h38 =>
    cIn .i64 v37 fun n39 =>
    ldN 3 (.pointer (some ⟨h0.length, 0, none⟩)) h38 fun v40 =>
    cl (rc md 31 [v40, (.int .i64 n4), (.int .i64 n6)] h38) fun v41 h42 =>
    cIn .i64 v41 fun n43 =>
    ldN 3 (.pointer (some ⟨h0.length, 0, none⟩)) h42 fun v44 =>
    cl (rc md 32 [v44, (.int .i64 n4), (.int .i64 n6)] h42) fun v45 h46 =>
    cIn .i64 v45 fun n47 =>
    ldN 3 (.pointer (some ⟨h0.length, 0, none⟩)) h46 fun v48 =>
    cl (rc md 33 [v48, (.int .i64 n4), (.int .i64 n6)] h46) fun v49 h50 =>
    cIn .i64 v49 fun n51 =>
    ldN 3 (.pointer (some ⟨h0.length, 0, none⟩)) h50 fun v52 =>
    cl (rc md 34 [v52, (.int .i64 n4), (.int .i64 n6)] h50) fun v53 h54 =>
    cIn .i64 v53 fun n55 =>
    ldN 3 (.pointer (some ⟨h0.length, 0, none⟩)) h54 fun v56 =>
    cl (rc md 26 [v56] h54) fun v57 h58 =>
    cIn .i64 v57 fun n59 =>
    let h60 : Heap := h58 ++ [.own [(.int .i64 n23), (.int .i64 n27), (.int .i64 n31), (.int .i64 n35), (.int .i64 n39), (.int .i64 n43), (.int .i64 n47), (.int .i64 n51), (.int .i64 n55), (.int .i64 n59)]]
    lenS (.slice (some ⟨h58.length, 0, none⟩) 10 1) fun v61 =>
    cIn .i64 v61 fun n62 =>
    X0 (upd (upd (upd (upd (upd (upd (upd (upd (upd (upd (upd (upd (upd (upd (upd (upd (upd (upd (upd (upd (upd (upd (upd (upd (upd (upd (upd (upd (upd (upd (upd (upd (upd (upd (upd (upd (upd (upd (upd (upd (upd (upd (upd (upd (upd (upd (upd (upd (upd (upd (upd (upd (upd (upd (upd (upd (upd (upd (args0 [(.agg #[(.int .i64 a0_0), (.int .i64 a0_1), (.int .i64 a0_2)]), (.agg #[(.int .i64 a1_0), (.int .i64 a1_1), (.int .i64 a1_2), (.int .i64 a1_3)])]) 2 (.pointer (some ⟨h0.length, 0, none⟩))) 3 (.pointer (some ⟨h1.length, 0, none⟩))) 4 (.bool false)) 20 (.pointer (some ⟨h1.length, 0, none⟩))) 21 (.int .i64 n4)) 22 (.pointer (some ⟨h1.length, 1, none⟩))) 23 (.int .i64 n6)) 24 (.pointer (some ⟨h1.length, 2, none⟩))) 25 (.int .i64 n8)) 26 (.pointer (some ⟨h1.length, 3, none⟩))) 27 (.int .i64 n10)) 5 (.int .i64 n4)) 6 (.int .i64 n6)) 7 (.int .i64 n8)) 8 (.int .i64 n10)) 28 v11) 29 v12) 30 (.bool b16)) 31 (.bool (!b16))) 33 v20) 34 (.int .i64 n4)) 35 (.int .i64 n23)) 36 v24) 37 (.int .i64 n4)) 38 (.int .i64 n27)) 39 v28) 40 (.int .i64 n4)) 41 (.int .i64 n31)) 42 v32) 43 (.int .i64 n4)) 44 (.int .i64 n35)) 45 v36) 46 (.int .i64 n4)) 47 (.int .i64 n6)) 48 (.int .i64 n39)) 49 v40) 50 (.int .i64 n4)) 51 (.int .i64 n6)) 52 (.int .i64 n43)) 53 v44) 54 (.int .i64 n4)) 55 (.int .i64 n6)) 56 (.int .i64 n47)) 57 v48) 58 (.int .i64 n4)) 59 (.int .i64 n6)) 60 (.int .i64 n51)) 61 v52) 62 (.int .i64 n4)) 63 (.int .i64 n6)) 64 (.int .i64 n55)) 65 v56) 66 (.int .i64 n59)) 67 (.slice (some ⟨h58.length, 0, none⟩) 10 1)) 9 (.slice (some ⟨h58.length, 0, none⟩) 10 1)) 68 (.slice (some ⟨h58.length, 0, none⟩) 10 1)) 69 (.int .i64 n62)) 70 (.int .i64 0)) h60
theorem F7_h0 (rc : Rec) (md : Md) (a0_0 : Int) (a0_1 : Int) (a0_2 : Int) (a1_0 : Int) (a1_1 : Int) (a1_2 : Int) (a1_3 : Int) (h0 : Heap) : callStep0 Try.prog cfg rc md 7 [(.agg #[(.int .i64 a0_0), (.int .i64 a0_1), (.int .i64 a0_2)]), (.agg #[(.int .i64 a1_0), (.int .i64 a1_1), (.int .i64 a1_2), (.int .i64 a1_3)])] h0 = exec Try.prog cfg rc ⟨h0.length, h0.length⟩ 173 (bodyOf Try.prog 7) (retK Try.prog cfg 7 (rsOf Try.prog 7) h0) (args0 [(.agg #[(.int .i64 a0_0), (.int .i64 a0_1), (.int .i64 a0_2)]), (.agg #[(.int .i64 a1_0), (.int .i64 a1_1), (.int .i64 a1_2), (.int .i64 a1_3)])]) h0 := callStep0_run (by kernel_rfl) (by kernel_rfl) (by kernel_rfl)
theorem F7_h1 (rc : Rec) (md : Md) (X : Nat → T → Heap → Option (Value × Heap)) (a0_0 : Int) (a0_1 : Int) (a0_2 : Int) (a1_0 : Int) (a1_1 : Int) (a1_2 : Int) (a1_3 : Int) (h0 : Heap) : execG Try.prog cfg X rc md 173 (replS (bodyOf Try.prog 7) [([1, 1, 1, 1, 0, 1, 0], 0), ([1, 1, 1, 1, 1], 1)]) (retK Try.prog cfg 7 (rsOf Try.prog 7) h0) (args0 [(.agg #[(.int .i64 a0_0), (.int .i64 a0_1), (.int .i64 a0_2)]), (.agg #[(.int .i64 a1_0), (.int .i64 a1_1), (.int .i64 a1_2), (.int .i64 a1_3)])]) h0 = F7H rc md (X 0) a0_0 a0_1 a0_2 a1_0 a1_1 a1_2 a1_3 h0 := by kernel_rfl
theorem F7_h2 (rc : Rec) (md : Md) (a0_0 : Int) (a0_1 : Int) (a0_2 : Int) (a1_0 : Int) (a1_1 : Int) (a1_2 : Int) (a1_3 : Int) (h0 : Heap) : F7H rc md (fun t h => J7_0 rc md h0 (t 2) (t 4) (t 5) (t 6) (t 7) (t 8) (t 9) (t 68) (t 69) (t 70) h) a0_0 a0_1 a0_2 a1_0 a1_1 a1_2 a1_3 h0 = F7 rc md a0_0 a0_1 a0_2 a1_0 a1_1 a1_2 a1_3 h0 := by unfold F7H F7; kernel_rfl
theorem F7_eq0 (rc : Rec) (md : Md) (a0_0 : Int) (a0_1 : Int) (a0_2 : Int) (a1_0 : Int) (a1_1 : Int) (a1_2 : Int) (a1_3 : Int) (h0 : Heap) : callStep0 Try.prog cfg rc md 7 [(.agg #[(.int .i64 a0_0), (.int .i64 a0_1), (.int .i64 a0_2)]), (.agg #[(.int .i64 a1_0), (.int .i64 a1_1), (.int .i64 a1_2), (.int .i64 a1_3)])] h0 = F7 rc ⟨h0.length, h0.length⟩ a0_0 a0_1 a0_2 a1_0 a1_1 a1_2 a1_3 h0 := by
  rw [F7_h0, exec_holes [([1, 1, 1, 1, 0, 1, 0], 0), ([1, 1, 1, 1, 1], 1)] (by kernel_rfl), F7_h1, show (goX Try.prog cfg rc ⟨h0.length, h0.length⟩ 173 (bodyOf Try.prog 7) [([1, 1, 1, 1, 0, 1, 0], 0), ([1, 1, 1, 1, 1], 1)] (retK Try.prog cfg 7 (rsOf Try.prog 7) h0)) 0 = _ from J7_0_cut rc ⟨h0.length, h0.length⟩ h0]
  exact F7_h2 rc _ a0_0 a0_1 a0_2 a1_0 a1_1 a1_2 a1_3 h0
theorem F7_eq (rc : Rec) (md : Md) (a0_0 : Int) (a0_1 : Int) (a0_2 : Int) (a1_0 : Int) (a1_1 : Int) (a1_2 : Int) (a1_3 : Int) (h0 : Heap) : callStep Try.prog cfg rc md 7 [(.agg #[(.int .i64 a0_0), (.int .i64 a0_1), (.int .i64 a0_2)]), (.agg #[(.int .i64 a1_0), (.int .i64 a1_1), (.int .i64 a1_2), (.int .i64 a1_3)])] h0 = alone h0 (F7 rc ⟨0, 0⟩ a0_0 a0_1 a0_2 a1_0 a1_1 a1_2 a1_3 []) := by
  have e : callStep Try.prog cfg rc md 7 [(.agg #[(.int .i64 a0_0), (.int .i64 a0_1), (.int .i64 a0_2)]), (.agg #[(.int .i64 a1_0), (.int .i64 a1_1), (.int .i64 a1_2), (.int .i64 a1_3)])] h0 = alone h0 (callStep0 Try.prog cfg rc ⟨0, 0⟩ 7 [(.agg #[(.int .i64 a0_0), (.int .i64 a0_1), (.int .i64 a0_2)]), (.agg #[(.int .i64 a1_0), (.int .i64 a1_1), (.int .i64 a1_2), (.int .i64 a1_3)])] []) := by kernel_rfl
  rw [e, F7_eq0]; rfl

/-- (tombolo/lay.Lay).Right -/
noncomputable def F12 (rc : Rec) (md : Md) (a0_0 : Int) (a0_1 : Int) (a0_2 : Int) (h0 : Heap) : Option (Value × Heap) :=
  let h1 : Heap := h0 ++ [.own [(.int .i64 a0_0), (.int .i64 a0_1), (.int .i64 a0_2)]]
  ld1 (.pointer (some ⟨h0.length, 0, none⟩)) h1 fun v2 =>
  cIn .i64 v2 fun n3 =>
  cl (rc md 51 [(.int .i64 (IntKind.wrap .i64 (n3 - 1))), (.int .i64 16)] h1) fun v4 h5 =>
  cBn v4 fun b6 =>
  (bif wantV (.bool b6) true then
  some ((.pointer (some ⟨h0.length, 1, none⟩)), h5)
  else some (undef, h5)).bind fun p7 =>
  (bif wantV (.bool b6) true then
  ld1 p7.1 p7.2 fun v8 =>
  cIn .i64 v8 fun n9 =>
  some ((.int .i64 n9), p7.2)
  else some (undef, p7.2)).bind fun p10 =>
  (bif wantV (.bool b6) true then
  cl (rc md 51 [p10.1, (.int .i64 49)] p10.2) fun v11 h12 =>
  cBn v11 fun b13 =>
  some ((.bool b13), h12)
  else some (undef, p10.2)).bind fun p14 =>
  cBn (bif b6 then p14.1 else (.bool false)) fun b15 =>
  (bif wantV (.bool b15) true then
  some ((.pointer (some ⟨h0.length, 2, none⟩)), p14.2)
  else some (undef, p14.2)).bind fun p16 =>
  (bif wantV (.bool b15) true then
  ld1 p16.1 p16.2 fun v17 =>
  cIn .i64 v17 fun n18 =>
  some ((.int .i64 n18), p16.2)
  else some (undef, p16.2)).bind fun p19 =>
  (bif wantV (.bool b15) true then
  aBin Try.prog .sub 3 p19.1 (.int .i64 1) fun v20 =>
  some (v20, p19.2)
  else some (undef, p19.2)).bind fun p21 =>
  (bif wantV (.bool b15) true then
  cl (rc md 51 [p21.1, (.int .i64 8)] p21.2) fun v22 h23 =>
  cBn v22 fun b24 =>
  some ((.bool b24), h23)
  else some (undef, p21.2)).bind fun p25 =>
  cBn (bif b15 then p25.1 else (.bool false)) fun b26 =>
  some ((.bool b26), h0)
theorem F12_eq0 (rc : Rec) (md : Md) (a0_0 : Int) (a0_1 : Int) (a0_2 : Int) (h0 : Heap) : callStep0 Try.prog cfg rc md 12 [(.agg #[(.int .i64 a0_0), (.int .i64 a0_1), (.int .i64 a0_2)])] h0 = F12 rc ⟨h0.length, h0.length⟩ a0_0 a0_1 a0_2 h0 := by kernel_rfl
theorem F12_eq (rc : Rec) (md : Md) (a0_0 : Int) (a0_1 : Int) (a0_2 : Int) (h0 : Heap) : callStep Try.prog cfg rc md 12 [(.agg #[(.int .i64 a0_0), (.int .i64 a0_1), (.int .i64 a0_2)])] h0 = alone h0 (F12 rc ⟨0, 0⟩ a0_0 a0_1 a0_2 []) := by
  have e : callStep Try.prog cfg rc md 12 [(.agg #[(.int .i64 a0_0), (.int .i64 a0_1), (.int .i64 a0_2)])] h0 = alone h0 (callStep0 Try.prog cfg rc ⟨0, 0⟩ 12 [(.agg #[(.int .i64 a0_0), (.int .i64 a0_1), (.int .i64 a0_2)])] []) := by kernel_rfl
  rw [e, F12_eq0]; rfl

/-- tombolo/tomboloref05.Right -/
noncomputable def F13 (rc : Rec) (md : Md) (a0_0 : Int) (a0_1 : Int) (a0_2 : Int) (h0 : Heap) : Option (Value × Heap) :=
  let h1 : Heap := h0 ++ [.own [(.int .i64 a0_0), (.int .i64 a0_1), (.int .i64 a0_2)]]
  ld1 (.pointer (some ⟨h0.length, 0, none⟩)) h1 fun v2 =>
  cIn .i64 v2 fun n3 =>
  (bif wantV (.bool (decide (n3 ≥ 1))) true then
  some ((.pointer (some ⟨h0.length, 0, none⟩)), h1)
  else some (undef, h1)).bind fun p4 =>
  (bif wantV (.bool (decide (n3 ≥ 1))) true then
  ld1 p4.1 p4.2 fun v5 =>
  cIn .i64 v5 fun n6 =>
  some ((.int .i64 n6), p4.2)
  else some (undef, p4.2)).bind fun p7 =>
  (bif wantV (.bool (decide (n3 ≥ 1))) true then
  aBin Try.prog .leq 3 p7.1 (.int .i64 16) fun v8 =>
  some (v8, p7.2)
  else some (undef, p7.2)).bind fun p9 =>
  cBn (bif (decide (n3 ≥ 1)) then p9.1 else (.bool false)) fun b10 =>
  (bif wantV (.bool b10) true then
  some ((.pointer (some ⟨h0.length, 1, none⟩)), p9.2)
  else some (undef, p9.2)).bind fun p11 =>
  (bif wantV (.bool b10) true then
  ld1 p11.1 p11.2 fun v12 =>
  cIn .i64 v12 fun n13 =>
  some ((.int .i64 n13), p11.2)
  else some (undef, p11.2)).bind fun p14 =>
  (bif wantV (.bool b10) true then
  aBin Try.prog .geq 3 p14.1 (.int .i64 0) fun v15 =>
  some (v15, p14.2)
  else some (undef, p14.2)).bind fun p16 =>
  cBn (bif b10 then p16.1 else (.bool false)) fun b17 =>
  (bif wantV (.bool b17) true then
  some ((.pointer (some ⟨h0.length, 1, none⟩)), p16.2)
  else some (undef, p16.2)).bind fun p18 =>
  (bif wantV (.bool b17) true then
  ld1 p18.1 p18.2 fun v19 =>
  cIn .i64 v19 fun n20 =>
  some ((.int .i64 n20), p18.2)
  else some (undef, p18.2)).bind fun p21 =>
  (bif wantV (.bool b17) true then
  aBin Try.prog .leq 3 p21.1 (.int .i64 48) fun v22 =>
  some (v22, p21.2)
  else some (undef, p21.2)).bind fun p23 =>
  cBn (bif b17 then p23.1 else (.bool false)) fun b24 =>
  (bif wantV (.bool b24) true then
  some ((.pointer (some ⟨h0.length, 2, none⟩)), p23.2)
  else some (undef, p23.2)).bind fun p25 =>
  (bif wantV (.bool b24) true then
  ld1 p25.1 p25.2 fun v26 =>
  cIn .i64 v26 fun n27 =>
  some ((.int .i64 n27), p25.2)
  else some (undef, p25.2)).bind fun p28 =>
  (bif wantV (.bool b24) true then
  aBin Try.prog .geq 3 p28.1 (.int .i64 1) fun v29 =>
  some (v29, p28.2)
  else some (undef, p28.2)).bind fun p30 =>
  cBn (bif b24 then p30.1 else (.bool false)) fun b31 =>
  (bif wantV (.bool b31) true then
  some ((.pointer (some ⟨h0.length, 2, none⟩)), p30.2)
  else some (undef, p30.2)).bind fun p32 =>
  (bif wantV (.bool b31) true then
  ld1 p32.1 p32.2 fun v33 =>
  cIn .i64 v33 fun n34 =>
  some ((.int .i64 n34), p32.2)
  else some (undef, p32.2)).bind fun p35 =>
  (bif wantV (.bool b31) true then
  aBin Try.prog .leq 3 p35.1 (.int .i64 8) fun v36 =>
  some (v36, p35.2)
  else some (undef, p35.2)).bind fun p37 =>
  cBn (bif b31 then p37.1 else (.bool false)) fun b38 =>
  some ((.bool b38), h0)
theorem F13_eq0 (rc : Rec) (md : Md) (a0_0 : Int) (a0_1 : Int) (a0_2 : Int) (h0 : Heap) : callStep0 Try.prog cfg rc md 13 [(.agg #[(.int .i64 a0_0), (.int .i64 a0_1), (.int .i64 a0_2)])] h0 = F13 rc ⟨h0.length, h0.length⟩ a0_0 a0_1 a0_2 h0 := by kernel_rfl
theorem F13_eq (rc : Rec) (md : Md) (a0_0 : Int) (a0_1 : Int) (a0_2 : Int) (h0 : Heap) : callStep Try.prog cfg rc md 13 [(.agg #[(.int .i64 a0_0), (.int .i64 a0_1), (.int .i64 a0_2)])] h0 = alone h0 (F13 rc ⟨0, 0⟩ a0_0 a0_1 a0_2 []) := by
  have e : callStep Try.prog cfg rc md 13 [(.agg #[(.int .i64 a0_0), (.int .i64 a0_1), (.int .i64 a0_2)])] h0 = alone h0 (callStep0 Try.prog cfg rc ⟨0, 0⟩ 13 [(.agg #[(.int .i64 a0_0), (.int .i64 a0_1), (.int .i64 a0_2)])] []) := by kernel_rfl
  rw [e, F13_eq0]; rfl

/-- tombolo/tombololaw05.ref -/
noncomputable def F14 (rc : Rec) (md : Md) (a0_0 : Int) (a0_1 : Int) (a0_2 : Int) (h0 : Heap) : Option (Value × Heap) :=
  let h1 : Heap := h0 ++ [.own [(.int .i64 a0_0), (.int .i64 a0_1), (.int .i64 a0_2)]]
  let h2 : Heap := h1 ++ [.own [(.int .i64 0), (.int .i64 0), (.int .i64 0)]]
  ld1 (.pointer (some ⟨h0.length, 0, none⟩)) h2 fun v3 =>
  cIn .i64 v3 fun n4 =>
  ld1 (.pointer (some ⟨h0.length, 1, none⟩)) h2 fun v5 =>
  cIn .i64 v5 fun n6 =>
  ld1 (.pointer (some ⟨h0.length, 2, none⟩)) h2 fun v7 =>
  cIn .i64 v7 fun n8 =>
  st md 3 (.pointer (some ⟨h1.length, 0, none⟩)) (.agg #[(.int .i64 n4), (.int .i64 n6), (.int .i64 n8)]) h2 fun h9 =>
  ldN 3 (.pointer (some ⟨h1.length, 0, none⟩)) h9 fun v10 =>
  fin2 h0 v10
theorem F14_eq0 (rc : Rec) (md : Md) (a0_0 : Int) (a0_1 : Int) (a0_2 : Int) (h0 : Heap) : callStep0 Try.prog cfg rc md 14 [(.agg #[(.int .i64 a0_0), (.int .i64 a0_1), (.int .i64 a0_2)])] h0 = F14 rc ⟨h0.length, h0.length⟩ a0_0 a0_1 a0_2 h0 := by kernel_rfl
theorem F14_eq (rc : Rec) (md : Md) (a0_0 : Int) (a0_1 : Int) (a0_2 : Int) (h0 : Heap) : callStep Try.prog cfg rc md 14 [(.agg #[(.int .i64 a0_0), (.int .i64 a0_1), (.int .i64 a0_2)])] h0 = alone h0 (F14 rc ⟨0, 0⟩ a0_0 a0_1 a0_2 []) := by
  have e : callStep Try.prog cfg rc md 14 [(.agg #[(.int .i64 a0_0), (.int .i64 a0_1), (.int .i64 a0_2)])] h0 = alone h0 (callStep0 Try.prog cfg rc ⟨0, 0⟩ 14 [(.agg #[(.int .i64 a0_0), (.int .i64 a0_1), (.int .i64 a0_2)])] []) := by kernel_rfl
  rw [e, F14_eq0]; rfl

/-- (tombolo/tomboloref05.Lay).Nodes -/
noncomputable def Jk16_2 (rc : Rec) (md : Md) (h0 : Heap) (e : Exit) (s1 : Value) (s2 : Value) (s3 : Value) (s6 : Value) (h : Heap) : Option (Value × Heap) :=
  match e with
  | .normal =>
    some (s3, h)
  | .exit j =>
    bif Nat.beq j 4 then
      some (s3, h)
    else
      none
  | .ret =>
    some (s2, h)
  | .goto l => none
  | .panic ps => none
  | .outgrown => none
theorem Jk16_2_at (rc : Rec) (md : Md) (h0 : Heap) (e : Exit) (t : T) (h : Heap) : kAt Try.prog cfg rc md 48 (bodyOf Try.prog 16) [1, 1, 1, 0, 1, 0] (retK Try.prog cfg 16 (rsOf Try.prog 16) h0) e t h = Jk16_2 rc md h0 e (t 1) (t 2) (t 3) (t 6) h := by cases e <;> kernel_rfl
noncomputable def Jk16_2b0 (rc : Rec) (md : Md) (e : Exit) (s1 : Value) (s2 : Value) (s3 : Value) (s6 : Value) (s7 : Value) (h : Heap) : Option (((Value × Value × Value × Value) × Heap) ⊕ (Exit × (Value × Value × Value × Value) × Heap)) :=
  match e with
  | .normal =>
    aBin Try.prog .add 3 s6 (.int .i64 1) fun v1 =>
    some (.inl ((s1, s2, s3, v1), h))
  | .exit j =>
    bif Nat.beq j 6 then
      aBin Try.prog .add 3 s6 (.int .i64 1) fun v2 =>
      some (.inl ((s1, s2, s3, v2), h))
    else
      bif Nat.beq j 5 then
        aBin Try.prog .add 3 s6 (.int .i64 1) fun v3 =>
        some (.inl ((s1, s2, s3, v3), h))
      else
        some (.inr ((.exit j), (s1, s2, s3, s6), h))
  | .ret =>
    some (.inr (.ret, (s1, s2, s3, s6), h))
  | .goto l => some (.inr ((.goto l), (s1, s2, s3, s6), h))
  | .panic ps => some (.inr ((.panic ps), (s1, s2, s3, s6), h))
  | .outgrown => some (.inr (.outgrown, (s1, s2, s3, s6), h))
theorem Jk16_2b0_at (rc : Rec) (md : Md) (e : Exit) (t : T) (h : Heap) : kAt Try.prog cfg rc md 48 (sub (bodyOf Try.prog 16) [1, 1, 1, 0, 1, 0, 0]) [1, 0, 0, 1, 0] (rndK (fun t => (t 1, t 2, t 3, t 6))) e t h = Jk16_2b0 rc md e (t 1) (t 2) (t 3) (t 6) (t 7) h := by cases e <;> kernel_rfl
/-- a round -/
noncomputable def Jr16_2b0 (rc : Rec) (md : Md) (s1 : Value) (s2 : Value) (s3 : Value) (s6 : Value) (s7 : Value) (h : Heap) : Option (((Value × Value × Value × Value × Value) × Heap) ⊕ (Exit × (Value × Value × Value × Value × Value) × Heap)) :=
  ldN 3 s1 h fun v1 =>
  cl (rc md 18 [v1] h) fun v2 h3 =>
  cIn .i64 v2 fun n4 =>
  aBin Try.prog .lss 3 s7 (.int .i64 n4) fun v5 =>
  cBn v5 fun b6 =>
  bif b6 then
    aBuild Try.prog 32 [(0, (.int .i64 2)), (1, s6), (2, s7), (3, (.int .i64 0))] fun v7 =>
    aBuild Try.prog 32 [(0, (.int .i64 2)), (1, s6), (2, s7), (3, (.int .i64 1))] fun v8 =>
    aBuildSlice Try.prog 28 2 [(0, v7), (1, v8)] h3 fun v9 h10 =>
    aBuiltin Try.prog md .append #[28, 28] [s3, v9] h10 fun v11 h12 =>
    aBin Try.prog .add 3 s7 (.int .i64 1) fun v13 =>
    some (.inl ((s1, s2, v11, s6, v13), h12))
  else
    some (.inr ((.exit 6), (s1, s2, s3, s6, s7), h3))
theorem Jr16_2b0_at (rc : Rec) (md : Md) (t : T) (h : Heap) : exec Try.prog cfg rc md 48 (sub (bodyOf Try.prog 16) [1, 1, 1, 0, 1, 0, 0, 1, 0, 0, 1, 0, 0]) (rndK (fun t => (t 1, t 2, t 3, t 6, t 7))) t h = Jr16_2b0 rc md (t 1) (t 2) (t 3) (t 6) (t 7) h := by kernel_rfl
noncomputable def J16_2b0 (rc : Rec) (md : Md) (s1 : Value) (s2 : Value) (s3 : Value) (s6 : Value) (s7 : Value) (h : Heap) : Option (((Value × Value × Value × Value) × Heap) ⊕ (Exit × (Value × Value × Value × Value) × Heap)) :=
  runL (fun x : (Value × Value × Value × Value × Value) × Heap => Jr16_2b0 rc md x.1.1 x.1.2.1 x.1.2.2.1 x.1.2.2.2.1 x.1.2.2.2.2 x.2) (fun e (s : Value × Value × Value × Value × Value) h => Jk16_2b0 rc md e s.1 s.2.1 s.2.2.1 s.2.2.2.1 s.2.2.2.2 h) (s1, s2, s3, s6, s7) h
theorem J16_2b0_step (rc : Rec) (md : Md) (s1 : Value) (s2 : Value) (s3 : Value) (s6 : Value) (s7 : Value) (h : Heap) : J16_2b0 rc md s1 s2 s3 s6 s7 h = (Jr16_2b0 rc md s1 s2 s3 s6 s7 h).bind fun x => match x with
    | .inl (s, h) => J16_2b0 rc md s.1 s.2.1 s.2.2.1 s.2.2.2.1 s.2.2.2.2 h
    | .inr (e, s, h) => Jk16_2b0 rc md e s.1 s.2.1 s.2.2.1 s.2.2.2.1 s.2.2.2.2 h := by
  unfold J16_2b0
  rw [runL_eq]
  refine congrArg (Option.bind _) (funext fun x => ?_)
  rcases x with ⟨s, h⟩ | ⟨e, s, h⟩ <;> rfl
theorem J16_2b0_cut (rc : Rec) (md : Md) : cut Try.prog cfg rc md 48 (sub (bodyOf Try.prog 16) [1, 1, 1, 0, 1, 0, 0]) [1, 0, 0, 1, 0] (rndK (fun t => (t 1, t 2, t 3, t 6))) = fun t h => J16_2b0 rc md (t 1) (t 2) (t 3) (t 6) (t 7) h := by
  funext t h
  have e : sub (sub (bodyOf Try.prog 16) [1, 1, 1, 0, 1, 0, 0]) [1, 0, 0, 1, 0] = .loop (sub (bodyOf Try.prog 16) [1, 1, 1, 0, 1, 0, 0, 1, 0, 0, 1, 0, 0]) := by kernel_rfl
  unfold cut
  rw [e]
  exact loop_eq (by kernel_rfl) (fun t => (t 1, t 2, t 3, t 6, t 7)) (fun x : (Value × Value × Value × Value × Value) × Heap => Jr16_2b0 rc md x.1.1 x.1.2.1 x.1.2.2.1 x.1.2.2.2.1 x.1.2.2.2.2 x.2) (fun t h => Jr16_2b0_at rc md t h) (fun e (s : Value × Value × Value × Value × Value) h => Jk16_2b0 rc md e s.1 s.2.1 s.2.2.1 s.2.2.2.1 s.2.2.2.2 h) (fun e t h => Jk16_2b0_at rc md e t h) t h
/-- a round -/
noncomputable def Jr16_2 (rc : Rec) (md : Md) (s1 : Value) (s2 : Value) (s3 : Value) (s6 : Value) (h : Heap) : Option (((Value × Value × Value × Value) × Heap) ⊕ (Exit × (Value × Value × Value × Value) × Heap)) :=
  fA 1 s1 fun v1 =>
  ld1 v1 h fun v2 =>
  cIn .i64 v2 fun n3 =>
  aBin Try.prog .lss 3 s6 (.int .i64 n3) fun v4 =>
  cBn v4 fun b5 =>
  bif b5 then
    J16_2b0 rc md s1 s2 s3 s6 (.int .i64 0) h
  else
    some (.inr ((.exit 4), (s1, s2, s3, s6), h))
noncomputable def Jr16_2H (rc : Rec) (md : Md) (X0 : T → Heap → Option (((Value × Value × Value × Value) × Heap) ⊕ (Exit × (Value × Value × Value × Value) × Heap))) (t : T) (h : Heap) : Option (((Value × Value × Value × Value) × Heap) ⊕ (Exit × (Value × Value × Value × Value) × Heap)) :=
  fA 1 (t 1) fun v1 =>
  ld1 v1 h fun v2 =>
  cIn .i64 v2 fun n3 =>
  aBin Try.prog .lss 3 (t 6) (.int .i64 n3) fun v4 =>
  cBn v4 fun b5 =>
  bif b5 then
    X0 (upd (upd (upd (upd (upd t 26 (t 6)) 27 v1) 28 (.int .i64 n3)) 29 v4) 7 (.int .i64 0)) h
  else
    some (.inr ((.exit 4), ((t 1), (t 2), (t 3), (t 6)), h))
theorem Jr16_2_h1 (rc : Rec) (md : Md) (X : Nat → T → Heap → Option (((Value × Value × Value × Value) × Heap) ⊕ (Exit × (Value × Value × Value × Value) × Heap))) (t : T) (h : Heap) : execG Try.prog cfg X rc md 48 (replS (sub (bodyOf Try.prog 16) [1, 1, 1, 0, 1, 0, 0]) [([1, 0, 0, 1, 0], 0)]) (rndK (fun t => (t 1, t 2, t 3, t 6))) t h = Jr16_2H rc md (X 0) t h := by kernel_rfl
theorem Jr16_2_h2 (rc : Rec) (md : Md) (t : T) (h : Heap) : Jr16_2H rc md (fun t h => J16_2b0 rc md (t 1) (t 2) (t 3) (t 6) (t 7) h) t h = Jr16_2 rc md (t 1) (t 2) (t 3) (t 6) h := by unfold Jr16_2H Jr16_2; kernel_rfl
theorem Jr16_2_at (rc : Rec) (md : Md) (t : T) (h : Heap) : exec Try.prog cfg rc md 48 (sub (bodyOf Try.prog 16) [1, 1, 1, 0, 1, 0, 0]) (rndK (fun t => (t 1, t 2, t 3, t 6))) t h = Jr16_2 rc md (t 1) (t 2) (t 3) (t 6) h := by
  rw [exec_holes [([1, 0, 0, 1, 0], 0)] (by kernel_rfl), Jr16_2_h1, show (goX Try.prog cfg rc md 48 (sub (bodyOf Try.prog 16) [1, 1, 1, 0, 1, 0, 0]) [([1, 0, 0, 1, 0], 0)] (rndK (fun t => (t 1, t 2, t 3, t 6)))) 0 = _ from J16_2b0_cut rc md]
  exact Jr16_2_h2 rc md t h
noncomputable def J16_2 (rc : Rec) (md : Md) (h0 : Heap) (s1 : Value) (s2 : Value) (s3 : Value) (s6 : Value) (h : Heap) : Option (Value × Heap) :=
  runL (fun x : (Value × Value × Value × Value) × Heap => Jr16_2 rc md x.1.1 x.1.2.1 x.1.2.2.1 x.1.2.2.2 x.2) (fun e (s : Value × Value × Value × Value) h => Jk16_2 rc md h0 e s.1 s.2.1 s.2.2.1 s.2.2.2 h) (s1, s2, s3, s6) h
theorem J16_2_step (rc : Rec) (md : Md) (h0 : Heap) (s1 : Value) (s2 : Value) (s3 : Value) (s6 : Value) (h : Heap) : J16_2 rc md h0 s1 s2 s3 s6 h = (Jr16_2 rc md s1 s2 s3 s6 h).bind fun x => match x with
    | .inl (s, h) => J16_2 rc md h0 s.1 s.2.1 s.2.2.1 s.2.2.2 h
    | .inr (e, s, h) => Jk16_2 rc md h0 e s.1 s.2.1 s.2.2.1 s.2.2.2 h := by
  unfold J16_2
  rw [runL_eq]
  refine congrArg (Option.bind _) (funext fun x => ?_)
  rcases x with ⟨s, h⟩ | ⟨e, s, h⟩ <;> rfl
theorem J16_2_cut (rc : Rec) (md : Md) (h0 : Heap) : cut Try.prog cfg rc md 48 (bodyOf Try.prog 16) [1, 1, 1, 0, 1, 0] (retK Try.prog cfg 16 (rsOf Try.prog 16) h0) = fun t h => J16_2 rc md h0 (t 1) (t 2) (t 3) (t 6) h := by
  funext t h
  have e : sub (bodyOf Try.prog 16) [1, 1, 1, 0, 1, 0] = .loop (sub (bodyOf Try.prog 16) [1, 1, 1, 0, 1, 0, 0]) := by kernel_rfl
  unfold cut
  rw [e]
  exact loop_eq (by kernel_rfl) (fun t => (t 1, t 2, t 3, t 6)) (fun x : (Value × Value × Value × Value) × Heap => Jr16_2 rc md x.1.1 x.1.2.1 x.1.2.2.1 x.1.2.2.2 x.2) (fun t h => Jr16_2_at rc md t h) (fun e (s : Value × Value × Value × Value) h => Jk16_2 rc md h0 e s.1 s.2.1 s.2.2.1 s.2.2.2 h) (fun e t h => Jk16_2_at rc md h0 e t h) t h
noncomputable def J16_1 (rc : Rec) (md : Md) (h0 : Heap) (s1 : Value) (s2 : Value) (s3 : Value) (h : Heap) : Option (Value × Heap) :=
  J16_2 rc md h0 s1 s2 s3 (.int .i64 0) h
noncomputable def J16_1H (rc : Rec) (md : Md) (h0 : Heap) (X1 : T → Heap → Option (Value × Heap)) (t : T) (h : Heap) : Option (Value × Heap) :=
  X1 (upd t 6 (.int .i64 0)) h
theorem J16_1_h1 (rc : Rec) (md : Md) (h0 : Heap) (X : Nat → T → Heap → Option (Value × Heap)) (t : T) (h : Heap) : execG Try.prog cfg X rc md 48 (sub (replS (bodyOf Try.prog 16) [([1, 1, 0, 1, 0], 0), ([1, 1, 1, 0, 1, 0], 1)]) [1, 1, 1]) (kAtG Try.prog cfg X rc md 48 (replS (bodyOf Try.prog 16) [([1, 1, 0, 1, 0], 0), ([1, 1, 1, 0, 1, 0], 1)]) [1, 1, 1] (retK Try.prog cfg 16 (rsOf Try.prog 16) h0)) t h = J16_1H rc md h0 (X 1) t h := by kernel_rfl
theorem J16_1_h2 (rc : Rec) (md : Md) (h0 : Heap) (t : T) (h : Heap) : J16_1H rc md h0 (fun t h => J16_2 rc md h0 (t 1) (t 2) (t 3) (t 6) h) t h = J16_1 rc md h0 (t 1) (t 2) (t 3) h := by (unfold J16_1H J16_1; kernel_rfl)
theorem J16_1_at (rc : Rec) (md : Md) (h0 : Heap) (t : T) (h : Heap) : cut Try.prog cfg rc md 48 (bodyOf Try.prog 16) [1, 1, 1] (retK Try.prog cfg 16 (rsOf Try.prog 16) h0) t h = J16_1 rc md h0 (t 1) (t 2) (t 3) h := by
  rw [cut_holes [([1, 1, 0, 1, 0], 0), ([1, 1, 1, 0, 1, 0], 1)] [1, 1, 1] (by kernel_rfl), J16_1_h1, show (goX Try.prog cfg rc md 48 (bodyOf Try.prog 16) [([1, 1, 0, 1, 0], 0), ([1, 1, 1, 0, 1, 0], 1)] (retK Try.prog cfg 16 (rsOf Try.prog 16) h0)) 1 = _ from J16_2_cut rc md h0]
  exact J16_1_h2 rc md h0 t h
theorem J16_1_cut (rc : Rec) (md : Md) (h0 : Heap) : cut Try.prog cfg rc md 48 (bodyOf Try.prog 16) [1, 1, 1] (retK Try.prog cfg 16 (rsOf Try.prog 16) h0) = fun t h => J16_1 rc md h0 (t 1) (t 2) (t 3) h := funext fun t => funext fun h => J16_1_at rc md h0 t h
noncomputable def Jk16_0 (rc : Rec) (md : Md) (h0 : Heap) (e : Exit) (s1 : Value) (s2 : Value) (s3 : Value) (s4 : Value) (h : Heap) : Option (Value × Heap) :=
  match e with
  | .normal =>
    J16_1 rc md h0 s1 s2 s3 h
  | .exit j =>
    bif Nat.beq j 0 then
      J16_1 rc md h0 s1 s2 s3 h
    else
      none
  | .ret =>
    some (s2, h)
  | .goto l => none
  | .panic ps => none
  | .outgrown => none
noncomputable def Jk16_0H (rc : Rec) (md : Md) (h0 : Heap) (X2 : T → Heap → Option (Value × Heap)) (e : Exit) (t : T) (h : Heap) : Option (Value × Heap) :=
  match e with
  | .normal =>
    X2 t h
  | .exit j =>
    bif Nat.beq j 0 then
      X2 t h
    else
      none
  | .ret =>
    some ((t 2), h)
  | .goto l => none
  | .panic ps => none
  | .outgrown => none
theorem Jk16_0_h1 (rc : Rec) (md : Md) (h0 : Heap) (X : Nat → T → Heap → Option (Value × Heap)) (e : Exit) (t : T) (h : Heap) : kAtG Try.prog cfg X rc md 48 (replS (bodyOf Try.prog 16) [([1, 1, 1, 0, 1, 0], 1), ([1, 1, 1], 2)]) [1, 1, 0, 1, 0] (retK Try.prog cfg 16 (rsOf Try.prog 16) h0) e t h = Jk16_0H rc md h0 (X 2) e t h := by cases e <;> kernel_rfl
theorem Jk16_0_h2 (rc : Rec) (md : Md) (h0 : Heap) (e : Exit) (t : T) (h : Heap) : Jk16_0H rc md h0 (fun t h => J16_1 rc md h0 (t 1) (t 2) (t 3) h) e t h = Jk16_0 rc md h0 e (t 1) (t 2) (t 3) (t 4) h := by cases e <;> (unfold Jk16_0H Jk16_0; kernel_rfl)
theorem Jk16_0_at (rc : Rec) (md : Md) (h0 : Heap) (e : Exit) (t : T) (h : Heap) : kAt Try.prog cfg rc md 48 (bodyOf Try.prog 16) [1, 1, 0, 1, 0] (retK Try.prog cfg 16 (rsOf Try.prog 16) h0) e t h = Jk16_0 rc md h0 e (t 1) (t 2) (t 3) (t 4) h := by
  rw [kAt_holes [([1, 1, 1, 0, 1, 0], 1), ([1, 1, 1], 2)] [1, 1, 0, 1, 0] (by kernel_rfl), Jk16_0_h1, show (goX Try.prog cfg rc md 48 (bodyOf Try.prog 16) [([1, 1, 1, 0, 1, 0], 1), ([1, 1, 1], 2)] (retK Try.prog cfg 16 (rsOf Try.prog 16) h0)) 2 = _ from J16_1_cut rc md h0]
  exact Jk16_0_h2 rc md h0 e t h
noncomputable def Jk16_0b0 (rc : Rec) (md : Md) (e : Exit) (s1 : Value) (s2 : Value) (s3 : Value) (s4 : Value) (s5 : Value) (h : Heap) : Option (((Value × Value × Value × Value) × Heap) ⊕ (Exit × (Value × Value × Value × Value) × Heap)) :=
  match e with
  | .normal =>
    aBin Try.prog .add 3 s4 (.int .i64 1) fun v1 =>
    some (.inl ((s1, s2, s3, v1), h))
  | .exit j =>
    bif Nat.beq j 2 then
      aBin Try.prog .add 3 s4 (.int .i64 1) fun v2 =>
      some (.inl ((s1, s2, s3, v2), h))
    else
      bif Nat.beq j 1 then
        aBin Try.prog .add 3 s4 (.int .i64 1) fun v3 =>
        some (.inl ((s1, s2, s3, v3), h))
      else
        some (.inr ((.exit j), (s1, s2, s3, s4), h))
  | .ret =>
    some (.inr (.ret, (s1, s2, s3, s4), h))
  | .goto l => some (.inr ((.goto l), (s1, s2, s3, s4), h))
  | .panic ps => some (.inr ((.panic ps), (s1, s2, s3, s4), h))
  | .outgrown => some (.inr (.outgrown, (s1, s2, s3, s4), h))
theorem Jk16_0b0_at (rc : Rec) (md : Md) (e : Exit) (t : T) (h : Heap) : kAt Try.prog cfg rc md 48 (sub (bodyOf Try.prog 16) [1, 1, 0, 1, 0, 0]) [1, 0, 0, 1, 0] (rndK (fun t => (t 1, t 2, t 3, t 4))) e t h = Jk16_0b0 rc md e (t 1) (t 2) (t 3) (t 4) (t 5) h := by cases e <;> kernel_rfl
/-- a round -/
noncomputable def Jr16_0b0 (rc : Rec) (md : Md) (s1 : Value) (s2 : Value) (s3 : Value) (s4 : Value) (s5 : Value) (h : Heap) : Option (((Value × Value × Value × Value × Value) × Heap) ⊕ (Exit × (Value × Value × Value × Value × Value) × Heap)) :=
  fA 0 s1 fun v1 =>
  ld1 v1 h fun v2 =>
  cIn .i64 v2 fun n3 =>
  aBin Try.prog .lss 3 s5 (.int .i64 n3) fun v4 =>
  cBn v4 fun b5 =>
  bif b5 then
    aBuild Try.prog 32 [(0, (.int .i64 1)), (1, s4), (2, s5), (3, (.int .i64 0))] fun v6 =>
    aBuildSlice Try.prog 28 1 [(0, v6)] h fun v7 h8 =>
    aBuiltin Try.prog md .append #[28, 28] [s3, v7] h8 fun v9 h10 =>
    aBin Try.prog .add 3 s5 (.int .i64 1) fun v11 =>
    some (.inl ((s1, s2, v9, s4, v11), h10))
  else
    some (.inr ((.exit 2), (s1, s2, s3, s4, s5), h))
theorem Jr16_0b0_at (rc : Rec) (md : Md) (t : T) (h : Heap) : exec Try.prog cfg rc md 48 (sub (bodyOf Try.prog 16) [1, 1, 0, 1, 0, 0, 1, 0, 0, 1, 0, 0]) (rndK (fun t => (t 1, t 2, t 3, t 4, t 5))) t h = Jr16_0b0 rc md (t 1) (t 2) (t 3) (t 4) (t 5) h := by kernel_rfl
noncomputable def J16_0b0 (rc : Rec) (md : Md) (s1 : Value) (s2 : Value) (s3 : Value) (s4 : Value) (s5 : Value) (h : Heap) : Option (((Value × Value × Value × Value) × Heap) ⊕ (Exit × (Value × Value × Value × Value) × Heap)) :=
  runL (fun x : (Value × Value × Value × Value × Value) × Heap => Jr16_0b0 rc md x.1.1 x.1.2.1 x.1.2.2.1 x.1.2.2.2.1 x.1.2.2.2.2 x.2) (fun e (s : Value × Value × Value × Value × Value) h => Jk16_0b0 rc md e s.1 s.2.1 s.2.2.1 s.2.2.2.1 s.2.2.2.2 h) (s1, s2, s3, s4, s5) h
theorem J16_0b0_step (rc : Rec) (md : Md) (s1 : Value) (s2 : Value) (s3 : Value) (s4 : Value) (s5 : Value) (h : Heap) : J16_0b0 rc md s1 s2 s3 s4 s5 h = (Jr16_0b0 rc md s1 s2 s3 s4 s5 h).bind fun x => match x with
    | .inl (s, h) => J16_0b0 rc md s.1 s.2.1 s.2.2.1 s.2.2.2.1 s.2.2.2.2 h
    | .inr (e, s, h) => Jk16_0b0 rc md e s.1 s.2.1 s.2.2.1 s.2.2.2.1 s.2.2.2.2 h := by
  unfold J16_0b0
  rw [runL_eq]
  refine congrArg (Option.bind _) (funext fun x => ?_)
  rcases x with ⟨s, h⟩ | ⟨e, s, h⟩ <;> rfl
theorem J16_0b0_cut (rc : Rec) (md : Md) : cut Try.prog cfg rc md 48 (sub (bodyOf Try.prog 16) [1, 1, 0, 1, 0, 0]) [1, 0, 0, 1, 0] (rndK (fun t => (t 1, t 2, t 3, t 4))) = fun t h => J16_0b0 rc md (t 1) (t 2) (t 3) (t 4) (t 5) h := by
  funext t h
  have e : sub (sub (bodyOf Try.prog 16) [1, 1, 0, 1, 0, 0]) [1, 0, 0, 1, 0] = .loop (sub (bodyOf Try.prog 16) [1, 1, 0, 1, 0, 0, 1, 0, 0, 1, 0, 0]) := by kernel_rfl
  unfold cut
  rw [e]
  exact loop_eq (by kernel_rfl) (fun t => (t 1, t 2, t 3, t 4, t 5)) (fun x : (Value × Value × Value × Value × Value) × Heap => Jr16_0b0 rc md x.1.1 x.1.2.1 x.1.2.2.1 x.1.2.2.2.1 x.1.2.2.2.2 x.2) (fun t h => Jr16_0b0_at rc md t h) (fun e (s : Value × Value × Value × Value × Value) h => Jk16_0b0 rc md e s.1 s.2.1 s.2.2.1 s.2.2.2.1 s.2.2.2.2 h) (fun e t h => Jk16_0b0_at rc md e t h) t h
/-- a round -/
noncomputable def Jr16_0 (rc : Rec) (md : Md) (s1 : Value) (s2 : Value) (s3 : Value) (s4 : Value) (h : Heap) : Option (((Value × Value × Value × Value) × Heap) ⊕ (Exit × (Value × Value × Value × Value) × Heap)) :=
  ldN 3 s1 h fun v1 =>
  cl (rc md 18 [v1] h) fun v2 h3 =>
  cIn .i64 v2 fun n4 =>
  aBin Try.prog .lss 3 s4 (.int .i64 n4) fun v5 =>
  cBn v5 fun b6 =>
  bif b6 then
    J16_0b0 rc md s1 s2 s3 s4 (.int .i64 0) h3
  else
    some (.inr ((.exit 0), (s1, s2, s3, s4), h3))
noncomputable def Jr16_0H (rc : Rec) (md : Md) (X0 : T → Heap → Option (((Value × Value × Value × Value) × Heap) ⊕ (Exit × (Value × Value × Value × Value) × Heap))) (t : T) (h : Heap) : Option (((Value × Value × Value × Value) × Heap) ⊕ (Exit × (Value × Value × Value × Value) × Heap)) :=
  ldN 3 (t 1) h fun v1 =>
  cl (rc md 18 [v1] h) fun v2 h3 =>
  cIn .i64 v2 fun n4 =>
  aBin Try.prog .lss 3 (t 4) (.int .i64 n4) fun v5 =>
  cBn v5 fun b6 =>
  bif b6 then
    X0 (upd (upd (upd (upd (upd t 8 (t 4)) 9 v1) 10 (.int .i64 n4)) 11 v5) 5 (.int .i64 0)) h3
  else
    some (.inr ((.exit 0), ((t 1), (t 2), (t 3), (t 4)), h3))
theorem Jr16_0_h1 (rc : Rec) (md : Md) (X : Nat → T → Heap → Option (((Value × Value × Value × Value) × Heap) ⊕ (Exit × (Value × Value × Value × Value) × Heap))) (t : T) (h : Heap) : execG Try.prog cfg X rc md 48 (replS (sub (bodyOf Try.prog 16) [1, 1, 0, 1, 0, 0]) [([1, 0, 0, 1, 0], 0)]) (rndK (fun t => (t 1, t 2, t 3, t 4))) t h = Jr16_0H rc md (X 0) t h := by kernel_rfl
theorem Jr16_0_h2 (rc : Rec) (md : Md) (t : T) (h : Heap) : Jr16_0H rc md (fun t h => J16_0b0 rc md (t 1) (t 2) (t 3) (t 4) (t 5) h) t h = Jr16_0 rc md (t 1) (t 2) (t 3) (t 4) h := by unfold Jr16_0H Jr16_0; kernel_rfl
theorem Jr16_0_at (rc : Rec) (md : Md) (t : T) (h : Heap) : exec Try.prog cfg rc md 48 (sub (bodyOf Try.prog 16) [1, 1, 0, 1, 0, 0]) (rndK (fun t => (t 1, t 2, t 3, t 4))) t h = Jr16_0 rc md (t 1) (t 2) (t 3) (t 4) h := by
  rw [exec_holes [([1, 0, 0, 1, 0], 0)] (by kernel_rfl), Jr16_0_h1, show (goX Try.prog cfg rc md 48 (sub (bodyOf Try.prog 16) [1, 1, 0, 1, 0, 0]) [([1, 0, 0, 1, 0], 0)] (rndK (fun t => (t 1, t 2, t 3, t 4)))) 0 = _ from J16_0b0_cut rc md]
  exact Jr16_0_h2 rc md t h
noncomputable def J16_0 (rc : Rec) (md : Md) (h0 : Heap) (s1 : Value) (s2 : Value) (s3 : Value) (s4 : Value) (h : Heap) : Option (Value × Heap) :=
  runL (fun x : (Value × Value × Value × Value) × Heap => Jr16_0 rc md x.1.1 x.1.2.1 x.1.2.2.1 x.1.2.2.2 x.2) (fun e (s : Value × Value × Value × Value) h => Jk16_0 rc md h0 e s.1 s.2.1 s.2.2.1 s.2.2.2 h) (s1, s2, s3, s4) h
theorem J16_0_step (rc : Rec) (md : Md) (h0 : Heap) (s1 : Value) (s2 : Value) (s3 : Value) (s4 : Value) (h : Heap) : J16_0 rc md h0 s1 s2 s3 s4 h = (Jr16_0 rc md s1 s2 s3 s4 h).bind fun x => match x with
    | .inl (s, h) => J16_0 rc md h0 s.1 s.2.1 s.2.2.1 s.2.2.2 h
    | .inr (e, s, h) => Jk16_0 rc md h0 e s.1 s.2.1 s.2.2.1 s.2.2.2 h := by
  unfold J16_0
  rw [runL_eq]
  refine congrArg (Option.bind _) (funext fun x => ?_)
  rcases x with ⟨s, h⟩ | ⟨e, s, h⟩ <;> rfl
theorem J16_0_cut (rc : Rec) (md : Md) (h0 : Heap) : cut Try.prog cfg rc md 48 (bodyOf Try.prog 16) [1, 1, 0, 1, 0] (retK Try.prog cfg 16 (rsOf Try.prog 16) h0) = fun t h => J16_0 rc md h0 (t 1) (t 2) (t 3) (t 4) h := by
  funext t h
  have e : sub (bodyOf Try.prog 16) [1, 1, 0, 1, 0] = .loop (sub (bodyOf Try.prog 16) [1, 1, 0, 1, 0, 0]) := by kernel_rfl
  unfold cut
  rw [e]
  exact loop_eq (by kernel_rfl) (fun t => (t 1, t 2, t 3, t 4)) (fun x : (Value × Value × Value × Value) × Heap => Jr16_0 rc md x.1.1 x.1.2.1 x.1.2.2.1 x.1.2.2.2 x.2) (fun t h => Jr16_0_at rc md t h) (fun e (s : Value × Value × Value × Value) h => Jk16_0 rc md h0 e s.1 s.2.1 s.2.2.1 s.2.2.2 h) (fun e t h => Jk16_0_at rc md h0 e t h) t h
noncomputable def F16 (rc : Rec) (md : Md) (a0_0 : Int) (a0_1 : Int) (a0_2 : Int) (h0 : Heap) : Option (Value × Heap) :=
  let h1 : Heap := h0 ++ [.own [(.int .i64 a0_0), (.int .i64 a0_1), (.int .i64 a0_2)]]
  J16_0 rc md h0 (.pointer (some ⟨h0.length, 0, none⟩)) (.slice none 0 0) (.slice none 0 0) (.int .i64 0) h1
noncomputable def F16H (rc : Rec) (md : Md) (X0 : T → Heap → Option (Value × Heap)) (a0_0 : Int) (a0_1 : Int) (a0_2 : Int) (h0 : Heap) : Option (Value × Heap) :=
  let h1 : Heap := h0 ++ [.own [(.int .i64 a0_0), (.int .i64 a0_1), (.int .i64 a0_2)]]
  X0 (upd (upd (upd (upd (args0 [(.agg #[(.int .i64 a0_0), (.int .i64 a0_1), (.int .i64 a0_2)])]) 1 (.pointer (some ⟨h0.length, 0, none⟩))) 2 (.slice none 0 0)) 3 (.slice none 0 0)) 4 (.int .i64 0)) h1
theorem F16_h0 (rc : Rec) (md : Md) (a0_0 : Int) (a0_1 : Int) (a0_2 : Int) (h0 : Heap) : callStep0 Try.prog cfg rc md 16 [(.agg #[(.int .i64 a0_0), (.int .i64 a0_1), (.int .i64 a0_2)])] h0 = exec Try.prog cfg rc md 48 (bodyOf Try.prog 16) (retK Try.prog cfg 16 (rsOf Try.prog 16) h0) (args0 [(.agg #[(.int .i64 a0_0), (.int .i64 a0_1), (.int .i64 a0_2)])]) h0 := callStep0_run (by kernel_rfl) (by kernel_rfl) (by kernel_rfl)
theorem F16_h1 (rc : Rec) (md : Md) (X : Nat → T → Heap → Option (Value × Heap)) (a0_0 : Int) (a0_1 : Int) (a0_2 : Int) (h0 : Heap) : execG Try.prog cfg X rc md 48 (replS (bodyOf Try.prog 16) [([1, 1, 0, 1, 0], 0), ([1, 1, 1, 0, 1, 0], 1), ([1, 1, 1], 2)]) (retK Try.prog cfg 16 (rsOf Try.prog 16) h0) (args0 [(.agg #[(.int .i64 a0_0), (.int .i64 a0_1), (.int .i64 a0_2)])]) h0 = F16H rc md (X 0) a0_0 a0_1 a0_2 h0 := by kernel_rfl
theorem F16_h2 (rc : Rec) (md : Md) (a0_0 : Int) (a0_1 : Int) (a0_2 : Int) (h0 : Heap) : F16H rc md (fun t h => J16_0 rc md h0 (t 1) (t 2) (t 3) (t 4) h) a0_0 a0_1 a0_2 h0 = F16 rc md a0_0 a0_1 a0_2 h0 := by unfold F16H F16; kernel_rfl
theorem F16_eq0 (rc : Rec) (md : Md) (a0_0 : Int) (a0_1 : Int) (a0_2 : Int) (h0 : Heap) : callStep0 Try.prog cfg rc md 16 [(.agg #[(.int .i64 a0_0), (.int .i64 a0_1), (.int .i64 a0_2)])] h0 = F16 rc md a0_0 a0_1 a0_2 h0 := by
  rw [F16_h0, exec_holes [([1, 1, 0, 1, 0], 0), ([1, 1, 1, 0, 1, 0], 1), ([1, 1, 1], 2)] (by kernel_rfl), F16_h1, show (goX Try.prog cfg rc md 48 (bodyOf Try.prog 16) [([1, 1, 0, 1, 0], 0), ([1, 1, 1, 0, 1, 0], 1), ([1, 1, 1], 2)] (retK Try.prog cfg 16 (rsOf Try.prog 16) h0)) 0 = _ from J16_0_cut rc md h0]
  exact F16_h2 rc _ a0_0 a0_1 a0_2 h0
theorem F16_eq (rc : Rec) (md : Md) (a0_0 : Int) (a0_1 : Int) (a0_2 : Int) (h0 : Heap) : callStep Try.prog cfg rc md 16 [(.agg #[(.int .i64 a0_0), (.int .i64 a0_1), (.int .i64 a0_2)])] h0 = F16 rc md a0_0 a0_1 a0_2 h0 := (callStep_ne (by kernel_rfl)).trans (F16_eq0 rc md a0_0 a0_1 a0_2 h0)

/-- (tombolo/lay.Lay).Levels -/
noncomputable def F17 (rc : Rec) (md : Md) (a0_0 : Int) (a0_1 : Int) (a0_2 : Int) (h0 : Heap) : Option (Value × Heap) :=
  let h1 : Heap := h0 ++ [.own [(.int .i64 a0_0), (.int .i64 a0_1), (.int .i64 a0_2)]]
  ld1 (.pointer (some ⟨h0.length, 0, none⟩)) h1 fun v2 =>
  cIn .i64 v2 fun n3 =>
  cl (rc md 52 [(.int .u64 (IntKind.wrap .u64 n3))] h1) fun v4 h5 =>
  cIn .i64 v4 fun n6 =>
  some ((.int .i64 n6), h0)
theorem F17_eq0 (rc : Rec) (md : Md) (a0_0 : Int) (a0_1 : Int) (a0_2 : Int) (h0 : Heap) : callStep0 Try.prog cfg rc md 17 [(.agg #[(.int .i64 a0_0), (.int .i64 a0_1), (.int .i64 a0_2)])] h0 = F17 rc ⟨h0.length, h0.length⟩ a0_0 a0_1 a0_2 h0 := by kernel_rfl
theorem F17_eq (rc : Rec) (md : Md) (a0_0 : Int) (a0_1 : Int) (a0_2 : Int) (h0 : Heap) : callStep Try.prog cfg rc md 17 [(.agg #[(.int .i64 a0_0), (.int .i64 a0_1), (.int .i64 a0_2)])] h0 = alone h0 (F17 rc ⟨0, 0⟩ a0_0 a0_1 a0_2 []) := by
  have e : callStep Try.prog cfg rc md 17 [(.agg #[(.int .i64 a0_0), (.int .i64 a0_1), (.int .i64 a0_2)])] h0 = alone h0 (callStep0 Try.prog cfg rc ⟨0, 0⟩ 17 [(.agg #[(.int .i64 a0_0), (.int .i64 a0_1), (.int .i64 a0_2)])] []) := by kernel_rfl
  rw [e, F17_eq0]; rfl

/-- (tombolo/tomboloref05.Lay).Levels -/
noncomputable def Jk18_0 (rc : Rec) (md : Md) (h0 : Heap) (e : Exit) (s1 : Value) (s2 : Value) (s3 : Value) (s4 : Value) (h : Heap) : Option (Value × Heap) :=
  match e with
  | .normal =>
    fin2 h0 s3
  | .exit j =>
    bif Nat.beq j 0 then
      fin2 h0 s3
    else
      none
  | .ret =>
    fin2 h0 s2
  | .goto l => none
  | .panic ps => none
  | .outgrown => none
theorem Jk18_0_at (rc : Rec) (md : Md) (h0 : Heap) (e : Exit) (t : T) (h : Heap) : kAt Try.prog cfg rc md 14 (bodyOf Try.prog 18) [1, 1, 0, 1, 0] (retK Try.prog cfg 18 (rsOf Try.prog 18) h0) e t h = Jk18_0 rc md h0 e (t 1) (t 2) (t 3) (t 4) h := by cases e <;> kernel_rfl
/-- a round -/
noncomputable def Jr18_0 (rc : Rec) (md : Md) (s1 : Value) (s2 : Value) (s3 : Value) (s4 : Value) (h : Heap) : Option (((Value × Value × Value × Value) × Heap) ⊕ (Exit × (Value × Value × Value × Value) × Heap)) :=
  fA 0 s1 fun v1 =>
  ld1 v1 h fun v2 =>
  cIn .i64 v2 fun n3 =>
  aBin Try.prog .leq 3 s4 (.int .i64 n3) fun v4 =>
  cBn v4 fun b5 =>
  bif b5 then
    aBin Try.prog .add 3 s3 (.int .i64 1) fun v6 =>
    aBin Try.prog .mul 3 s4 (.int .i64 2) fun v7 =>
    some (.inl ((s1, s2, v6, v7), h))
  else
    some (.inr ((.exit 0), (s1, s2, s3, s4), h))
theorem Jr18_0_at (rc : Rec) (md : Md) (t : T) (h : Heap) : exec Try.prog cfg rc md 14 (sub (bodyOf Try.prog 18) [1, 1, 0, 1, 0, 0]) (rndK (fun t => (t 1, t 2, t 3, t 4))) t h = Jr18_0 rc md (t 1) (t 2) (t 3) (t 4) h := by kernel_rfl
noncomputable def J18_0 (rc : Rec) (md : Md) (h0 : Heap) (s1 : Value) (s2 : Value) (s3 : Value) (s4 : Value) (h : Heap) : Option (Value × Heap) :=
  runL (fun x : (Value × Value × Value × Value) × Heap => Jr18_0 rc md x.1.1 x.1.2.1 x.1.2.2.1 x.1.2.2.2 x.2) (fun e (s : Value × Value × Value × Value) h => Jk18_0 rc md h0 e s.1 s.2.1 s.2.2.1 s.2.2.2 h) (s1, s2, s3, s4) h
theorem J18_0_step (rc : Rec) (md : Md) (h0 : Heap) (s1 : Value) (s2 : Value) (s3 : Value) (s4 : Value) (h : Heap) : J18_0 rc md h0 s1 s2 s3 s4 h = (Jr18_0 rc md s1 s2 s3 s4 h).bind fun x => match x with
    | .inl (s, h) => J18_0 rc md h0 s.1 s.2.1 s.2.2.1 s.2.2.2 h
    | .inr (e, s, h) => Jk18_0 rc md h0 e s.1 s.2.1 s.2.2.1 s.2.2.2 h := by
  unfold J18_0
  rw [runL_eq]
  refine congrArg (Option.bind _) (funext fun x => ?_)
  rcases x with ⟨s, h⟩ | ⟨e, s, h⟩ <;> rfl
theorem J18_0_cut (rc : Rec) (md : Md) (h0 : Heap) : cut Try.prog cfg rc md 14 (bodyOf Try.prog 18) [1, 1, 0, 1, 0] (retK Try.prog cfg 18 (rsOf Try.prog 18) h0) = fun t h => J18_0 rc md h0 (t 1) (t 2) (t 3) (t 4) h := by
  funext t h
  have e : sub (bodyOf Try.prog 18) [1, 1, 0, 1, 0] = .loop (sub (bodyOf Try.prog 18) [1, 1, 0, 1, 0, 0]) := by kernel_rfl
  unfold cut
  rw [e]
  exact loop_eq (by kernel_rfl) (fun t => (t 1, t 2, t 3, t 4)) (fun x : (Value × Value × Value × Value) × Heap => Jr18_0 rc md x.1.1 x.1.2.1 x.1.2.2.1 x.1.2.2.2 x.2) (fun t h => Jr18_0_at rc md t h) (fun e (s : Value × Value × Value × Value) h => Jk18_0 rc md h0 e s.1 s.2.1 s.2.2.1 s.2.2.2 h) (fun e t h => Jk18_0_at rc md h0 e t h) t h
noncomputable def F18 (rc : Rec) (md : Md) (a0_0 : Int) (a0_1 : Int) (a0_2 : Int) (h0 : Heap) : Option (Value × Heap) :=
  let h1 : Heap := h0 ++ [.own [(.int .i64 a0_0), (.int .i64 a0_1), (.int .i64 a0_2)]]
  J18_0 rc md h0 (.pointer (some ⟨h0.length, 0, none⟩)) (.int .i64 0) (.int .i64 0) (.int .i64 1) h1
noncomputable def F18H (rc : Rec) (md : Md) (X0 : T → Heap → Option (Value × Heap)) (a0_0 : Int) (a0_1 : Int) (a0_2 : Int) (h0 : Heap) : Option (Value × Heap) :=
  let h1 : Heap := h0 ++ [.own [(.int .i64 a0_0), (.int .i64 a0_1), (.int .i64 a0_2)]]
  X0 (upd (upd (upd (upd (args0 [(.agg #[(.int .i64 a0_0), (.int .i64 a0_1), (.int .i64 a0_2)])]) 1 (.pointer (some ⟨h0.length, 0, none⟩))) 2 (.int .i64 0)) 3 (.int .i64 0)) 4 (.int .i64 1)) h1
theorem F18_h0 (rc : Rec) (md : Md) (a0_0 : Int) (a0_1 : Int) (a0_2 : Int) (h0 : Heap) : callStep0 Try.prog cfg rc md 18 [(.agg #[(.int .i64 a0_0), (.int .i64 a0_1), (.int .i64 a0_2)])] h0 = exec Try.prog cfg rc ⟨h0.length, h0.length⟩ 14 (bodyOf Try.prog 18) (retK Try.prog cfg 18 (rsOf Try.prog 18) h0) (args0 [(.agg #[(.int .i64 a0_0), (.int .i64 a0_1), (.int .i64 a0_2)])]) h0 := callStep0_run (by kernel_rfl) (by kernel_rfl) (by kernel_rfl)
theorem F18_h1 (rc : Rec) (md : Md) (X : Nat → T → Heap → Option (Value × Heap)) (a0_0 : Int) (a0_1 : Int) (a0_2 : Int) (h0 : Heap) : execG Try.prog cfg X rc md 14 (replS (bodyOf Try.prog 18) [([1, 1, 0, 1, 0], 0)]) (retK Try.prog cfg 18 (rsOf Try.prog 18) h0) (args0 [(.agg #[(.int .i64 a0_0), (.int .i64 a0_1), (.int .i64 a0_2)])]) h0 = F18H rc md (X 0) a0_0 a0_1 a0_2 h0 := by kernel_rfl
theorem F18_h2 (rc : Rec) (md : Md) (a0_0 : Int) (a0_1 : Int) (a0_2 : Int) (h0 : Heap) : F18H rc md (fun t h => J18_0 rc md h0 (t 1) (t 2) (t 3) (t 4) h) a0_0 a0_1 a0_2 h0 = F18 rc md a0_0 a0_1 a0_2 h0 := by unfold F18H F18; kernel_rfl
theorem F18_eq0 (rc : Rec) (md : Md) (a0_0 : Int) (a0_1 : Int) (a0_2 : Int) (h0 : Heap) : callStep0 Try.prog cfg rc md 18 [(.agg #[(.int .i64 a0_0), (.int .i64 a0_1), (.int .i64 a0_2)])] h0 = F18 rc ⟨h0.length, h0.length⟩ a0_0 a0_1 a0_2 h0 := by
  rw [F18_h0, exec_holes [([1, 1, 0, 1, 0], 0)] (by kernel_rfl), F18_h1, show (goX Try.prog cfg rc ⟨h0.length, h0.length⟩ 14 (bodyOf Try.prog 18) [([1, 1, 0, 1, 0], 0)] (retK Try.prog cfg 18 (rsOf Try.prog 18) h0)) 0 = _ from J18_0_cut rc ⟨h0.length, h0.length⟩ h0]
  exact F18_h2 rc _ a0_0 a0_1 a0_2 h0
theorem F18_eq (rc : Rec) (md : Md) (a0_0 : Int) (a0_1 : Int) (a0_2 : Int) (h0 : Heap) : callStep Try.prog cfg rc md 18 [(.agg #[(.int .i64 a0_0), (.int .i64 a0_1), (.int .i64 a0_2)])] h0 = alone h0 (F18 rc ⟨0, 0⟩ a0_0 a0_1 a0_2 []) := by
  have e : callStep Try.prog cfg rc md 18 [(.agg #[(.int .i64 a0_0), (.int .i64 a0_1), (.int .i64 a0_2)])] h0 = alone h0 (callStep0 Try.prog cfg rc ⟨0, 0⟩ 18 [(.agg #[(.int .i64 a0_0), (.int .i64 a0_1), (.int .i64 a0_2)])] []) := by kernel_rfl
  rw [e, F18_eq0]; rfl

/-- (tombolo/lay.Lay).Nodes -/
noncomputable def F19 (rc : Rec) (md : Md) (a0_0 : Int) (a0_1 : Int) (a0_2 : Int) (h0 : Heap) : Option (Value × Heap) :=
  let h1 : Heap := h0 ++ [.own [(.int .i64 a0_0), (.int .i64 a0_1), (.int .i64 a0_2)]]
  ldN 3 (.pointer (some ⟨h0.length, 0, none⟩)) h1 fun v2 =>
  cl (rc md 17 [v2] h1) fun v3 h4 =>
  cIn .i64 v3 fun n5 =>
  ld1 (.pointer (some ⟨h0.length, 0, none⟩)) h4 fun v6 =>
  cIn .i64 v6 fun n7 =>
  ld1 (.pointer (some ⟨h0.length, 1, none⟩)) h4 fun v8 =>
  cIn .i64 v8 fun n9 =>
  ldN 3 (.pointer (some ⟨h0.length, 0, none⟩)) h4 fun v10 =>
  cl (rc md 53 [v10] h4) fun v11 h12 =>
  cIn .i64 v11 fun n13 =>
  some ((.int .i64 (IntKind.wrap .i64 ((IntKind.wrap .i64 (n5 * n7)) + (IntKind.wrap .i64 (n9 * n13))))), h0)
theorem F19_eq0 (rc : Rec) (md : Md) (a0_0 : Int) (a0_1 : Int) (a0_2 : Int) (h0 : Heap) : callStep0 Try.prog cfg rc md 19 [(.agg #[(.int .i64 a0_0), (.int .i64 a0_1), (.int .i64 a0_2)])] h0 = F19 rc ⟨h0.length, h0.length⟩ a0_0 a0_1 a0_2 h0 := by kernel_rfl
theorem F19_eq (rc : Rec) (md : Md) (a0_0 : Int) (a0_1 : Int) (a0_2 : Int) (h0 : Heap) : callStep Try.prog cfg rc md 19 [(.agg #[(.int .i64 a0_0), (.int .i64 a0_1), (.int .i64 a0_2)])] h0 = alone h0 (F19 rc ⟨0, 0⟩ a0_0 a0_1 a0_2 []) := by
  have e : callStep Try.prog cfg rc md 19 [(.agg #[(.int .i64 a0_0), (.int .i64 a0_1), (.int .i64 a0_2)])] h0 = alone h0 (callStep0 Try.prog cfg rc ⟨0, 0⟩ 19 [(.agg #[(.int .i64 a0_0), (.int .i64 a0_1), (.int .i64 a0_2)])] []) := by kernel_rfl
  rw [e, F19_eq0]; rfl

/-- (tombolo/lay.Lay).Node -/
noncomputable def F20 (rc : Rec) (md : Md) (a0_0 : Int) (a0_1 : Int) (a0_2 : Int) (a1 : Int) (h0 : Heap) : Option (Value × Heap) :=
  let h1 : Heap := h0 ++ [.own [(.int .i64 a0_0), (.int .i64 a0_1), (.int .i64 a0_2)]]
  let h2 : Heap := h1 ++ [.own [(.bool false), (.int .i64 0), (.int .i64 0), (.int .i64 0), (.int .i64 0)]]
  ldN 3 (.pointer (some ⟨h0.length, 0, none⟩)) h2 fun v3 =>
  cl (rc md 19 [v3] h2) fun v4 h5 =>
  cIn .i64 v4 fun n6 =>
  cl (rc md 51 [(.int .i64 (IntKind.wrap .i64 (a1 - 1))), (.int .i64 n6)] h5) fun v7 h8 =>
  cBn v7 fun b9 =>
  bif !b9 then
    st md 5 (.pointer (some ⟨h1.length, 0, none⟩)) (.agg #[(.bool false), (.int .i64 0), (.int .i64 0), (.int .i64 0), (.int .i64 0)]) h8 fun h10 =>
    ldN 5 (.pointer (some ⟨h1.length, 0, none⟩)) h10 fun v11 =>
    fin2 h0 (.tuple #[v11, (.bool false)])
  else
    ldN 3 (.pointer (some ⟨h0.length, 0, none⟩)) h8 fun v12 =>
    cl (rc md 17 [v12] h8) fun v13 h14 =>
    cIn .i64 v13 fun n15 =>
    ld1 (.pointer (some ⟨h0.length, 0, none⟩)) h14 fun v16 =>
    cIn .i64 v16 fun n17 =>
    bif (decide ((IntKind.wrap .i64 (a1 - 1)) < (IntKind.wrap .i64 (n15 * n17)))) then
      ld1 (.pointer (some ⟨h0.length, 0, none⟩)) h14 fun v18 =>
      cIn .i64 v18 fun n19 =>
      divI .quo (IntKind.wrap .i64 (a1 - 1)) n19 .i64 fun v20 =>
      ld1 (.pointer (some ⟨h0.length, 0, none⟩)) h14 fun v21 =>
      cIn .i64 v21 fun n22 =>
      divI .rem (IntKind.wrap .i64 (a1 - 1)) n22 .i64 fun v23 =>
      aBuild Try.prog 34 [(1, v20), (2, v23)] fun v24 =>
      st md 5 (.pointer (some ⟨h1.length, 0, none⟩)) v24 h14 fun h25 =>
      ldN 5 (.pointer (some ⟨h1.length, 0, none⟩)) h25 fun v26 =>
      fin2 h0 (.tuple #[v26, (.bool true)])
    else
      ldN 3 (.pointer (some ⟨h0.length, 0, none⟩)) h14 fun v27 =>
      cl (rc md 53 [v27] h14) fun v28 h29 =>
      cIn .i64 v28 fun n30 =>
      divI .quo (IntKind.wrap .i64 ((IntKind.wrap .i64 (a1 - 1)) - (IntKind.wrap .i64 (n15 * n17)))) n30 .i64 fun v31 =>
      ldN 3 (.pointer (some ⟨h0.length, 0, none⟩)) h29 fun v32 =>
      cl (rc md 53 [v32] h29) fun v33 h34 =>
      cIn .i64 v33 fun n35 =>
      divI .rem (IntKind.wrap .i64 ((IntKind.wrap .i64 (a1 - 1)) - (IntKind.wrap .i64 (n15 * n17)))) n35 .i64 fun v36 =>
      aBin Try.prog .quo 3 v36 (.int .i64 2) fun v37 =>
      aBuild Try.prog 34 [(0, (.bool true)), (3, v31), (1, v37), (4, (.int .i64 (Int.tmod (IntKind.wrap .i64 ((IntKind.wrap .i64 (a1 - 1)) - (IntKind.wrap .i64 (n15 * n17)))) 2)))] fun v38 =>
      st md 5 (.pointer (some ⟨h1.length, 0, none⟩)) v38 h34 fun h39 =>
      ldN 5 (.pointer (some ⟨h1.length, 0, none⟩)) h39 fun v40 =>
      fin2 h0 (.tuple #[v40, (.bool true)])
theorem F20_eq0 (rc : Rec) (md : Md) (a0_0 : Int) (a0_1 : Int) (a0_2 : Int) (a1 : Int) (h0 : Heap) : callStep0 Try.prog cfg rc md 20 [(.agg #[(.int .i64 a0_0), (.int .i64 a0_1), (.int .i64 a0_2)]), (.int .i64 a1)] h0 = F20 rc ⟨h0.length, h0.length⟩ a0_0 a0_1 a0_2 a1 h0 := by kernel_rfl
theorem F20_eq (rc : Rec) (md : Md) (a0_0 : Int) (a0_1 : Int) (a0_2 : Int) (a1 : Int) (h0 : Heap) : callStep Try.prog cfg rc md 20 [(.agg #[(.int .i64 a0_0), (.int .i64 a0_1), (.int .i64 a0_2)]), (.int .i64 a1)] h0 = alone h0 (F20 rc ⟨0, 0⟩ a0_0 a0_1 a0_2 a1 []) := by
  have e : callStep Try.prog cfg rc md 20 [(.agg #[(.int .i64 a0_0), (.int .i64 a0_1), (.int .i64 a0_2)]), (.int .i64 a1)] h0 = alone h0 (callStep0 Try.prog cfg rc ⟨0, 0⟩ 20 [(.agg #[(.int .i64 a0_0), (.int .i64 a0_1), (.int .i64 a0_2)]), (.int .i64 a1)] []) := by kernel_rfl
  rw [e, F20_eq0]; rfl

/-- (tombolo/lay.Lay).Vertex -/
noncomputable def F21 (rc : Rec) (md : Md) (a0_0 : Int) (a0_1 : Int) (a0_2 : Int) (a1 : Int) (a2 : Int) (h0 : Heap) : Option (Value × Heap) :=
  let h1 : Heap := h0 ++ [.own [(.int .i64 a0_0), (.int .i64 a0_1), (.int .i64 a0_2)]]
  ldN 3 (.pointer (some ⟨h0.length, 0, none⟩)) h1 fun v2 =>
  cl (rc md 17 [v2] h1) fun v3 h4 =>
  cIn .i64 v3 fun n5 =>
  cl (rc md 51 [(.int .i64 a1), (.int .i64 n5)] h4) fun v6 h7 =>
  cBn v6 fun b8 =>
  (bif wantV (.bool (!b8)) false then
  some ((.int .i64 a2), h7)
  else some (undef, h7)).bind fun p9 =>
  (bif wantV (.bool (!b8)) false then
  some ((.pointer (some ⟨h0.length, 0, none⟩)), p9.2)
  else some (undef, p9.2)).bind fun p10 =>
  (bif wantV (.bool (!b8)) false then
  ld1 p10.1 p10.2 fun v11 =>
  cIn .i64 v11 fun n12 =>
  some ((.int .i64 n12), p10.2)
  else some (undef, p10.2)).bind fun p13 =>
  (bif wantV (.bool (!b8)) false then
  cl (rc md 51 [p9.1, p13.1] p13.2) fun v14 h15 =>
  cBn v14 fun b16 =>
  some ((.bool b16), h15)
  else some (undef, p13.2)).bind fun p17 =>
  (bif wantV (.bool (!b8)) false then
  aUn .not p17.1 fun v18 =>
  some (v18, p17.2)
  else some (undef, p17.2)).bind fun p19 =>
  cBn (bif !b8 then (.bool true) else p19.1) fun b20 =>
  bif b20 then
    some ((.int .i64 0), h0)
  else
    ld1 (.pointer (some ⟨h0.length, 0, none⟩)) p19.2 fun v21 =>
    cIn .i64 v21 fun n22 =>
    some ((.int .i64 (IntKind.wrap .i64 ((IntKind.wrap .i64 (1 + (IntKind.wrap .i64 (a1 * n22)))) + a2))), h0)
theorem F21_eq0 (rc : Rec) (md : Md) (a0_0 : Int) (a0_1 : Int) (a0_2 : Int) (a1 : Int) (a2 : Int) (h0 : Heap) : callStep0 Try.prog cfg rc md 21 [(.agg #[(.int .i64 a0_0), (.int .i64 a0_1), (.int .i64 a0_2)]), (.int .i64 a1), (.int .i64 a2)] h0 = F21 rc ⟨h0.length, h0.length⟩ a0_0 a0_1 a0_2 a1 a2 h0 := by kernel_rfl
theorem F21_eq (rc : Rec) (md : Md) (a0_0 : Int) (a0_1 : Int) (a0_2 : Int) (a1 : Int) (a2 : Int) (h0 : Heap) : callStep Try.prog cfg rc md 21 [(.agg #[(.int .i64 a0_0), (.int .i64 a0_1), (.int .i64 a0_2)]), (.int .i64 a1), (.int .i64 a2)] h0 = alone h0 (F21 rc ⟨0, 0⟩ a0_0 a0_1 a0_2 a1 a2 []) := by
  have e : callStep Try.prog cfg rc md 21 [(.agg #[(.int .i64 a0_0), (.int .i64 a0_1), (.int .i64 a0_2)]), (.int .i64 a1), (.int .i64 a2)] h0 = alone h0 (callStep0 Try.prog cfg rc ⟨0, 0⟩ 21 [(.agg #[(.int .i64 a0_0), (.int .i64 a0_1), (.int .i64 a0_2)]), (.int .i64 a1), (.int .i64 a2)] []) := by kernel_rfl
  rw [e, F21_eq0]; rfl

/-- (tombolo/lay.Lay).Arc -/
noncomputable def F22 (rc : Rec) (md : Md) (a0_0 : Int) (a0_1 : Int) (a0_2 : Int) (a1 : Int) (a2 : Int) (a3 : Int) (h0 : Heap) : Option (Value × Heap) :=
  let h1 : Heap := h0 ++ [.own [(.int .i64 a0_0), (.int .i64 a0_1), (.int .i64 a0_2)]]
  ld1 (.pointer (some ⟨h0.length, 1, none⟩)) h1 fun v2 =>
  cIn .i64 v2 fun n3 =>
  cl (rc md 51 [(.int .i64 a1), (.int .i64 n3)] h1) fun v4 h5 =>
  cBn v4 fun b6 =>
  (bif wantV (.bool (!b6)) false then
  some ((.int .i64 a2), h5)
  else some (undef, h5)).bind fun p7 =>
  (bif wantV (.bool (!b6)) false then
  ldN 3 (.pointer (some ⟨h0.length, 0, none⟩)) p7.2 fun v8 =>
  some (v8, p7.2)
  else some (undef, p7.2)).bind fun p9 =>
  (bif wantV (.bool (!b6)) false then
  cl (rc md 17 [p9.1] p9.2) fun v10 h11 =>
  cIn .i64 v10 fun n12 =>
  some ((.int .i64 n12), h11)
  else some (undef, p9.2)).bind fun p13 =>
  (bif wantV (.bool (!b6)) false then
  cl (rc md 51 [p7.1, p13.1] p13.2) fun v14 h15 =>
  cBn v14 fun b16 =>
  some ((.bool b16), h15)
  else some (undef, p13.2)).bind fun p17 =>
  (bif wantV (.bool (!b6)) false then
  aUn .not p17.1 fun v18 =>
  some (v18, p17.2)
  else some (undef, p17.2)).bind fun p19 =>
  cBn (bif !b6 then (.bool true) else p19.1) fun b20 =>
  (bif wantV (.bool b20) false then
  some ((.int .i64 a3), p19.2)
  else some (undef, p19.2)).bind fun p21 =>
  (bif wantV (.bool b20) false then
  cl (rc md 51 [p21.1, (.int .i64 2)] p21.2) fun v22 h23 =>
  cBn v22 fun b24 =>
  some ((.bool b24), h23)
  else some (undef, p21.2)).bind fun p25 =>
  (bif wantV (.bool b20) false then
  aUn .not p25.1 fun v26 =>
  some (v26, p25.2)
  else some (undef, p25.2)).bind fun p27 =>
  cBn (bif b20 then (.bool true) else p27.1) fun b28 =>
  bif b28 then
    some ((.int .i64 0), h0)
  else
    ldN 3 (.pointer (some ⟨h0.length, 0, none⟩)) p27.2 fun v29 =>
    cl (rc md 17 [v29] p27.2) fun v30 h31 =>
    cIn .i64 v30 fun n32 =>
    ld1 (.pointer (some ⟨h0.length, 0, none⟩)) h31 fun v33 =>
    cIn .i64 v33 fun n34 =>
    ldN 3 (.pointer (some ⟨h0.length, 0, none⟩)) h31 fun v35 =>
    cl (rc md 53 [v35] h31) fun v36 h37 =>
    cIn .i64 v36 fun n38 =>
    some ((.int .i64 (IntKind.wrap .i64 ((IntKind.wrap .i64 ((IntKind.wrap .i64 ((IntKind.wrap .i64 (1 + (IntKind.wrap .i64 (n32 * n34)))) + (IntKind.wrap .i64 (a1 * n38)))) + (IntKind.wrap .i64 (2 * a2)))) + a3))), h0)
theorem F22_eq0 (rc : Rec) (md : Md) (a0_0 : Int) (a0_1 : Int) (a0_2 : Int) (a1 : Int) (a2 : Int) (a3 : Int) (h0 : Heap) : callStep0 Try.prog cfg rc md 22 [(.agg #[(.int .i64 a0_0), (.int .i64 a0_1), (.int .i64 a0_2)]), (.int .i64 a1), (.int .i64 a2), (.int .i64 a3)] h0 = F22 rc ⟨h0.length, h0.length⟩ a0_0 a0_1 a0_2 a1 a2 a3 h0 := by kernel_rfl
theorem F22_eq (rc : Rec) (md : Md) (a0_0 : Int) (a0_1 : Int) (a0_2 : Int) (a1 : Int) (a2 : Int) (a3 : Int) (h0 : Heap) : callStep Try.prog cfg rc md 22 [(.agg #[(.int .i64 a0_0), (.int .i64 a0_1), (.int .i64 a0_2)]), (.int .i64 a1), (.int .i64 a2), (.int .i64 a3)] h0 = alone h0 (F22 rc ⟨0, 0⟩ a0_0 a0_1 a0_2 a1 a2 a3 []) := by
  have e : callStep Try.prog cfg rc md 22 [(.agg #[(.int .i64 a0_0), (.int .i64 a0_1), (.int .i64 a0_2)]), (.int .i64 a1), (.int .i64 a2), (.int .i64 a3)] h0 = alone h0 (callStep0 Try.prog cfg rc ⟨0, 0⟩ 22 [(.agg #[(.int .i64 a0_0), (.int .i64 a0_1), (.int .i64 a0_2)]), (.int .i64 a1), (.int .i64 a2), (.int .i64 a3)] []) := by kernel_rfl
  rw [e, F22_eq0]; rfl

/-- (tombolo/lay.Lay).Cells -/
noncomputable def F23 (rc : Rec) (md : Md) (a0_0 : Int) (a0_1 : Int) (a0_2 : Int) (h0 : Heap) : Option (Value × Heap) :=
  let h1 : Heap := h0 ++ [.own [(.int .i64 a0_0), (.int .i64 a0_1), (.int .i64 a0_2)]]
  ldN 3 (.pointer (some ⟨h0.length, 0, none⟩)) h1 fun v2 =>
  cl (rc md 54 [v2] h1) fun v3 h4 =>
  cIn .i64 v3 fun n5 =>
  ldN 3 (.pointer (some ⟨h0.length, 0, none⟩)) h4 fun v6 =>
  cl (rc md 19 [v6] h4) fun v7 h8 =>
  cIn .i64 v7 fun n9 =>
  some ((.int .i64 (IntKind.wrap .i64 (n5 + (IntKind.wrap .i64 (n9 * 7))))), h0)
theorem F23_eq0 (rc : Rec) (md : Md) (a0_0 : Int) (a0_1 : Int) (a0_2 : Int) (h0 : Heap) : callStep0 Try.prog cfg rc md 23 [(.agg #[(.int .i64 a0_0), (.int .i64 a0_1), (.int .i64 a0_2)])] h0 = F23 rc ⟨h0.length, h0.length⟩ a0_0 a0_1 a0_2 h0 := by kernel_rfl
theorem F23_eq (rc : Rec) (md : Md) (a0_0 : Int) (a0_1 : Int) (a0_2 : Int) (h0 : Heap) : callStep Try.prog cfg rc md 23 [(.agg #[(.int .i64 a0_0), (.int .i64 a0_1), (.int .i64 a0_2)])] h0 = alone h0 (F23 rc ⟨0, 0⟩ a0_0 a0_1 a0_2 []) := by
  have e : callStep Try.prog cfg rc md 23 [(.agg #[(.int .i64 a0_0), (.int .i64 a0_1), (.int .i64 a0_2)])] h0 = alone h0 (callStep0 Try.prog cfg rc ⟨0, 0⟩ 23 [(.agg #[(.int .i64 a0_0), (.int .i64 a0_1), (.int .i64 a0_2)])] []) := by kernel_rfl
  rw [e, F23_eq0]; rfl

/-- (tombolo/tomboloref05.Lay).Cells -/
noncomputable def Jk24_8 (rc : Rec) (md : Md) (h0 : Heap) (e : Exit) (s1 : Value) (s2 : Value) (s3 : Value) (s10 : Value) (h : Heap) : Option (Value × Heap) :=
  match e with
  | .normal =>
    some (s3, h)
  | .exit j =>
    bif Nat.beq j 12 then
      some (s3, h)
    else
      none
  | .ret =>
    some (s2, h)
  | .goto l => none
  | .panic ps => none
  | .outgrown => none
theorem Jk24_8_at (rc : Rec) (md : Md) (h0 : Heap) (e : Exit) (t : T) (h : Heap) : kAt Try.prog cfg rc md 106 (bodyOf Try.prog 24) [1, 1, 1, 1, 1, 1, 1, 0, 1, 0] (retK Try.prog cfg 24 (rsOf Try.prog 24) h0) e t h = Jk24_8 rc md h0 e (t 1) (t 2) (t 3) (t 10) h := by cases e <;> kernel_rfl
noncomputable def Jk24_8b0 (rc : Rec) (md : Md) (e : Exit) (s1 : Value) (s2 : Value) (s3 : Value) (s10 : Value) (s11 : Value) (h : Heap) : Option (((Value × Value × Value × Value) × Heap) ⊕ (Exit × (Value × Value × Value × Value) × Heap)) :=
  match e with
  | .normal =>
    aBin Try.prog .add 3 s10 (.int .i64 1) fun v1 =>
    some (.inl ((s1, s2, s3, v1), h))
  | .exit j =>
    bif Nat.beq j 14 then
      aBin Try.prog .add 3 s10 (.int .i64 1) fun v2 =>
      some (.inl ((s1, s2, s3, v2), h))
    else
      bif Nat.beq j 13 then
        aBin Try.prog .add 3 s10 (.int .i64 1) fun v3 =>
        some (.inl ((s1, s2, s3, v3), h))
      else
        some (.inr ((.exit j), (s1, s2, s3, s10), h))
  | .ret =>
    some (.inr (.ret, (s1, s2, s3, s10), h))
  | .goto l => some (.inr ((.goto l), (s1, s2, s3, s10), h))
  | .panic ps => some (.inr ((.panic ps), (s1, s2, s3, s10), h))
  | .outgrown => some (.inr (.outgrown, (s1, s2, s3, s10), h))
theorem Jk24_8b0_at (rc : Rec) (md : Md) (e : Exit) (t : T) (h : Heap) : kAt Try.prog cfg rc md 106 (sub (bodyOf Try.prog 24) [1, 1, 1, 1, 1, 1, 1, 0, 1, 0, 0]) [1, 0, 0, 1, 0] (rndK (fun t => (t 1, t 2, t 3, t 10))) e t h = Jk24_8b0 rc md e (t 1) (t 2) (t 3) (t 10) (t 11) h := by cases e <;> kernel_rfl
/-- a round -/
noncomputable def Jr24_8b0 (rc : Rec) (md : Md) (s1 : Value) (s2 : Value) (s3 : Value) (s10 : Value) (s11 : Value) (h : Heap) : Option (((Value × Value × Value × Value × Value) × Heap) ⊕ (Exit × (Value × Value × Value × Value × Value) × Heap)) :=
  aBin Try.prog .lss 3 s11 (.int .i64 7) fun v1 =>
  cBn v1 fun b2 =>
  bif b2 then
    aBuild Try.prog 32 [(0, (.int .i64 10)), (1, s10), (2, s11), (3, (.int .i64 0))] fun v3 =>
    aBuildSlice Try.prog 28 1 [(0, v3)] h fun v4 h5 =>
    aBuiltin Try.prog md .append #[28, 28] [s3, v4] h5 fun v6 h7 =>
    aBin Try.prog .add 3 s11 (.int .i64 1) fun v8 =>
    some (.inl ((s1, s2, v6, s10, v8), h7))
  else
    some (.inr ((.exit 14), (s1, s2, s3, s10, s11), h))
theorem Jr24_8b0_at (rc : Rec) (md : Md) (t : T) (h : Heap) : exec Try.prog cfg rc md 106 (sub (bodyOf Try.prog 24) [1, 1, 1, 1, 1, 1, 1, 0, 1, 0, 0, 1, 0, 0, 1, 0, 0]) (rndK (fun t => (t 1, t 2, t 3, t 10, t 11))) t h = Jr24_8b0 rc md (t 1) (t 2) (t 3) (t 10) (t 11) h := by kernel_rfl
noncomputable def J24_8b0 (rc : Rec) (md : Md) (s1 : Value) (s2 : Value) (s3 : Value) (s10 : Value) (s11 : Value) (h : Heap) : Option (((Value × Value × Value × Value) × Heap) ⊕ (Exit × (Value × Value × Value × Value) × Heap)) :=
  runL (fun x : (Value × Value × Value × Value × Value) × Heap => Jr24_8b0 rc md x.1.1 x.1.2.1 x.1.2.2.1 x.1.2.2.2.1 x.1.2.2.2.2 x.2) (fun e (s : Value × Value × Value × Value × Value) h => Jk24_8b0 rc md e s.1 s.2.1 s.2.2.1 s.2.2.2.1 s.2.2.2.2 h) (s1, s2, s3, s10, s11) h
theorem J24_8b0_step (rc : Rec) (md : Md) (s1 : Value) (s2 : Value) (s3 : Value) (s10 : Value) (s11 : Value) (h : Heap) : J24_8b0 rc md s1 s2 s3 s10 s11 h = (Jr24_8b0 rc md s1 s2 s3 s10 s11 h).bind fun x => match x with
    | .inl (s, h) => J24_8b0 rc md s.1 s.2.1 s.2.2.1 s.2.2.2.1 s.2.2.2.2 h
    | .inr (e, s, h) => Jk24_8b0 rc md e s.1 s.2.1 s.2.2.1 s.2.2.2.1 s.2.2.2.2 h := by
  unfold J24_8b0
  rw [runL_eq]
  refine congrArg (Option.bind _) (funext fun x => ?_)
  rcases x with ⟨s, h⟩ | ⟨e, s, h⟩ <;> rfl
theorem J24_8b0_cut (rc : Rec) (md : Md) : cut Try.prog cfg rc md 106 (sub (bodyOf Try.prog 24) [1, 1, 1, 1, 1, 1, 1, 0, 1, 0, 0]) [1, 0, 0, 1, 0] (rndK (fun t => (t 1, t 2, t 3, t 10))) = fun t h => J24_8b0 rc md (t 1) (t 2) (t 3) (t 10) (t 11) h := by
  funext t h
  have e : sub (sub (bodyOf Try.prog 24) [1, 1, 1, 1, 1, 1, 1, 0, 1, 0, 0]) [1, 0, 0, 1, 0] = .loop (sub (bodyOf Try.prog 24) [1, 1, 1, 1, 1, 1, 1, 0, 1, 0, 0, 1, 0, 0, 1, 0, 0]) := by kernel_rfl
  unfold cut
  rw [e]
  exact loop_eq (by kernel_rfl) (fun t => (t 1, t 2, t 3, t 10, t 11)) (fun x : (Value × Value × Value × Value × Value) × Heap => Jr24_8b0 rc md x.1.1 x.1.2.1 x.1.2.2.1 x.1.2.2.2.1 x.1.2.2.2.2 x.2) (fun t h => Jr24_8b0_at rc md t h) (fun e (s : Value × Value × Value × Value × Value) h => Jk24_8b0 rc md e s.1 s.2.1 s.2.2.1 s.2.2.2.1 s.2.2.2.2 h) (fun e t h => Jk24_8b0_at rc md e t h) t h
/-- a round -/
noncomputable def Jr24_8 (rc : Rec) (md : Md) (s1 : Value) (s2 : Value) (s3 : Value) (s10 : Value) (h : Heap) : Option (((Value × Value × Value × Value) × Heap) ⊕ (Exit × (Value × Value × Value × Value) × Heap)) :=
  ldN 3 s1 h fun v1 =>
  cl (rc md 16 [v1] h) fun v2 h3 =>
  lenS v2 fun v4 =>
  cIn .i64 v4 fun n5 =>
  aBin Try.prog .leq 3 s10 (.int .i64 n5) fun v6 =>
  cBn v6 fun b7 =>
  bif b7 then
    J24_8b0 rc md s1 s2 s3 s10 (.int .i64 0) h3
  else
    some (.inr ((.exit 12), (s1, s2, s3, s10), h3))
noncomputable def Jr24_8H (rc : Rec) (md : Md) (X0 : T → Heap → Option (((Value × Value × Value × Value) × Heap) ⊕ (Exit × (Value × Value × Value × Value) × Heap))) (t : T) (h : Heap) : Option (((Value × Value × Value × Value) × Heap) ⊕ (Exit × (Value × Value × Value × Value) × Heap)) :=
  ldN 3 (t 1) h fun v1 =>
  cl (rc md 16 [v1] h) fun v2 h3 =>
  lenS v2 fun v4 =>
  cIn .i64 v4 fun n5 =>
  aBin Try.prog .leq 3 (t 10) (.int .i64 n5) fun v6 =>
  cBn v6 fun b7 =>
  bif b7 then
    X0 (upd (upd (upd (upd (upd (upd t 88 (t 10)) 89 v1) 90 v2) 91 (.int .i64 n5)) 92 v6) 11 (.int .i64 0)) h3
  else
    some (.inr ((.exit 12), ((t 1), (t 2), (t 3), (t 10)), h3))
theorem Jr24_8_h1 (rc : Rec) (md : Md) (X : Nat → T → Heap → Option (((Value × Value × Value × Value) × Heap) ⊕ (Exit × (Value × Value × Value × Value) × Heap))) (t : T) (h : Heap) : execG Try.prog cfg X rc md 106 (replS (sub (bodyOf Try.prog 24) [1, 1, 1, 1, 1, 1, 1, 0, 1, 0, 0]) [([1, 0, 0, 1, 0], 0)]) (rndK (fun t => (t 1, t 2, t 3, t 10))) t h = Jr24_8H rc md (X 0) t h := by kernel_rfl
theorem Jr24_8_h2 (rc : Rec) (md : Md) (t : T) (h : Heap) : Jr24_8H rc md (fun t h => J24_8b0 rc md (t 1) (t 2) (t 3) (t 10) (t 11) h) t h = Jr24_8 rc md (t 1) (t 2) (t 3) (t 10) h := by unfold Jr24_8H Jr24_8; kernel_rfl
theorem Jr24_8_at (rc : Rec) (md : Md) (t : T) (h : Heap) : exec Try.prog cfg rc md 106 (sub (bodyOf Try.prog 24) [1, 1, 1, 1, 1, 1, 1, 0, 1, 0, 0]) (rndK (fun t => (t 1, t 2, t 3, t 10))) t h = Jr24_8 rc md (t 1) (t 2) (t 3) (t 10) h := by
  rw [exec_holes [([1, 0, 0, 1, 0], 0)] (by kernel_rfl), Jr24_8_h1, show (goX Try.prog cfg rc md 106 (sub (bodyOf Try.prog 24) [1, 1, 1, 1, 1, 1, 1, 0, 1, 0, 0]) [([1, 0, 0, 1, 0], 0)] (rndK (fun t => (t 1, t 2, t 3, t 10)))) 0 = _ from J24_8b0_cut rc md]
  exact Jr24_8_h2 rc md t h
noncomputable def J24_8 (rc : Rec) (md : Md) (h0 : Heap) (s1 : Value) (s2 : Value) (s3 : Value) (s10 : Value) (h : Heap) : Option (Value × Heap) :=
  runL (fun x : (Value × Value × Value × Value) × Heap => Jr24_8 rc md x.1.1 x.1.2.1 x.1.2.2.1 x.1.2.2.2 x.2) (fun e (s : Value × Value × Value × Value) h => Jk24_8 rc md h0 e s.1 s.2.1 s.2.2.1 s.2.2.2 h) (s1, s2, s3, s10) h
theorem J24_8_step (rc : Rec) (md : Md) (h0 : Heap) (s1 : Value) (s2 : Value) (s3 : Value) (s10 : Value) (h : Heap) : J24_8 rc md h0 s1 s2 s3 s10 h = (Jr24_8 rc md s1 s2 s3 s10 h).bind fun x => match x with
    | .inl (s, h) => J24_8 rc md h0 s.1 s.2.1 s.2.2.1 s.2.2.2 h
    | .inr (e, s, h) => Jk24_8 rc md h0 e s.1 s.2.1 s.2.2.1 s.2.2.2 h := by
  unfold J24_8
  rw [runL_eq]
  refine congrArg (Option.bind _) (funext fun x => ?_)
  rcases x with ⟨s, h⟩ | ⟨e, s, h⟩ <;> rfl
theorem J24_8_cut (rc : Rec) (md : Md) (h0 : Heap) : cut Try.prog cfg rc md 106 (bodyOf Try.prog 24) [1, 1, 1, 1, 1, 1, 1, 0, 1, 0] (retK Try.prog cfg 24 (rsOf Try.prog 24) h0) = fun t h => J24_8 rc md h0 (t 1) (t 2) (t 3) (t 10) h := by
  funext t h
  have e : sub (bodyOf Try.prog 24) [1, 1, 1, 1, 1, 1, 1, 0, 1, 0] = .loop (sub (bodyOf Try.prog 24) [1, 1, 1, 1, 1, 1, 1, 0, 1, 0, 0]) := by kernel_rfl
  unfold cut
  rw [e]
  exact loop_eq (by kernel_rfl) (fun t => (t 1, t 2, t 3, t 10)) (fun x : (Value × Value × Value × Value) × Heap => Jr24_8 rc md x.1.1 x.1.2.1 x.1.2.2.1 x.1.2.2.2 x.2) (fun t h => Jr24_8_at rc md t h) (fun e (s : Value × Value × Value × Value) h => Jk24_8 rc md h0 e s.1 s.2.1 s.2.2.1 s.2.2.2 h) (fun e t h => Jk24_8_at rc md h0 e t h) t h
noncomputable def J24_7 (rc : Rec) (md : Md) (h0 : Heap) (s1 : Value) (s2 : Value) (s3 : Value) (h : Heap) : Option (Value × Heap) :=
  J24_8 rc md h0 s1 s2 s3 (.int .i64 1) h
noncomputable def J24_7H (rc : Rec) (md : Md) (h0 : Heap) (X4 : T → Heap → Option (Value × Heap)) (t : T) (h : Heap) : Option (Value × Heap) :=
  X4 (upd t 10 (.int .i64 1)) h
theorem J24_7_h1 (rc : Rec) (md : Md) (h0 : Heap) (X : Nat → T → Heap → Option (Value × Heap)) (t : T) (h : Heap) : execG Try.prog cfg X rc md 106 (sub (replS (bodyOf Try.prog 24) [([1, 1, 0, 1, 0], 0), ([1, 1, 1, 1, 0, 1, 0], 1), ([1, 1, 1, 1, 1, 0, 1, 0], 2), ([1, 1, 1, 1, 1, 1, 0, 1, 0], 3), ([1, 1, 1, 1, 1, 1, 1, 0, 1, 0], 4)]) [1, 1, 1, 1, 1, 1, 1]) (kAtG Try.prog cfg X rc md 106 (replS (bodyOf Try.prog 24) [([1, 1, 0, 1, 0], 0), ([1, 1, 1, 1, 0, 1, 0], 1), ([1, 1, 1, 1, 1, 0, 1, 0], 2), ([1, 1, 1, 1, 1, 1, 0, 1, 0], 3), ([1, 1, 1, 1, 1, 1, 1, 0, 1, 0], 4)]) [1, 1, 1, 1, 1, 1, 1] (retK Try.prog cfg 24 (rsOf Try.prog 24) h0)) t h = J24_7H rc md h0 (X 4) t h := by kernel_rfl
theorem J24_7_h2 (rc : Rec) (md : Md) (h0 : Heap) (t : T) (h : Heap) : J24_7H rc md h0 (fun t h => J24_8 rc md h0 (t 1) (t 2) (t 3) (t 10) h) t h = J24_7 rc md h0 (t 1) (t 2) (t 3) h := by (unfold J24_7H J24_7; kernel_rfl)
theorem J24_7_at (rc : Rec) (md : Md) (h0 : Heap) (t : T) (h : Heap) : cut Try.prog cfg rc md 106 (bodyOf Try.prog 24) [1, 1, 1, 1, 1, 1, 1] (retK Try.prog cfg 24 (rsOf Try.prog 24) h0) t h = J24_7 rc md h0 (t 1) (t 2) (t 3) h := by
  rw [cut_holes [([1, 1, 0, 1, 0], 0), ([1, 1, 1, 1, 0, 1, 0], 1), ([1, 1, 1, 1, 1, 0, 1, 0], 2), ([1, 1, 1, 1, 1, 1, 0, 1, 0], 3), ([1, 1, 1, 1, 1, 1, 1, 0, 1, 0], 4)] [1, 1, 1, 1, 1, 1, 1] (by kernel_rfl), J24_7_h1, show (goX Try.prog cfg rc md 106 (bodyOf Try.prog 24) [([1, 1, 0, 1, 0], 0), ([1, 1, 1, 1, 0, 1, 0], 1), ([1, 1, 1, 1, 1, 0, 1, 0], 2), ([1, 1, 1, 1, 1, 1, 0, 1, 0], 3), ([1, 1, 1, 1, 1, 1, 1, 0, 1, 0], 4)] (retK Try.prog cfg 24 (rsOf Try.prog 24) h0)) 4 = _ from J24_8_cut rc md h0]
  exact J24_7_h2 rc md h0 t h
theorem J24_7_cut (rc : Rec) (md : Md) (h0 : Heap) : cut Try.prog cfg rc md 106 (bodyOf Try.prog 24) [1, 1, 1, 1, 1, 1, 1] (retK Try.prog cfg 24 (rsOf Try.prog 24) h0) = fun t h => J24_7 rc md h0 (t 1) (t 2) (t 3) h := funext fun t => funext fun h => J24_7_at rc md h0 t h
noncomputable def Jk24_6 (rc : Rec) (md : Md) (h0 : Heap) (e : Exit) (s1 : Value) (s2 : Value) (s3 : Value) (s8 : Value) (h : Heap) : Option (Value × Heap) :=
  match e with
  | .normal =>
    J24_7 rc md h0 s1 s2 s3 h
  | .exit j =>
    bif Nat.beq j 8 then
      J24_7 rc md h0 s1 s2 s3 h
    else
      none
  | .ret =>
    some (s2, h)
  | .goto l => none
  | .panic ps => none
  | .outgrown => none
noncomputable def Jk24_6H (rc : Rec) (md : Md) (h0 : Heap) (X5 : T → Heap → Option (Value × Heap)) (e : Exit) (t : T) (h : Heap) : Option (Value × Heap) :=
  match e with
  | .normal =>
    X5 t h
  | .exit j =>
    bif Nat.beq j 8 then
      X5 t h
    else
      none
  | .ret =>
    some ((t 2), h)
  | .goto l => none
  | .panic ps => none
  | .outgrown => none
theorem Jk24_6_h1 (rc : Rec) (md : Md) (h0 : Heap) (X : Nat → T → Heap → Option (Value × Heap)) (e : Exit) (t : T) (h : Heap) : kAtG Try.prog cfg X rc md 106 (replS (bodyOf Try.prog 24) [([1, 1, 0, 1, 0], 0), ([1, 1, 1, 1, 0, 1, 0], 1), ([1, 1, 1, 1, 1, 0, 1, 0], 2), ([1, 1, 1, 1, 1, 1, 1, 0, 1, 0], 4), ([1, 1, 1, 1, 1, 1, 1], 5)]) [1, 1, 1, 1, 1, 1, 0, 1, 0] (retK Try.prog cfg 24 (rsOf Try.prog 24) h0) e t h = Jk24_6H rc md h0 (X 5) e t h := by cases e <;> kernel_rfl
theorem Jk24_6_h2 (rc : Rec) (md : Md) (h0 : Heap) (e : Exit) (t : T) (h : Heap) : Jk24_6H rc md h0 (fun t h => J24_7 rc md h0 (t 1) (t 2) (t 3) h) e t h = Jk24_6 rc md h0 e (t 1) (t 2) (t 3) (t 8) h := by cases e <;> (unfold Jk24_6H Jk24_6; kernel_rfl)
theorem Jk24_6_at (rc : Rec) (md : Md) (h0 : Heap) (e : Exit) (t : T) (h : Heap) : kAt Try.prog cfg rc md 106 (bodyOf Try.prog 24) [1, 1, 1, 1, 1, 1, 0, 1, 0] (retK Try.prog cfg 24 (rsOf Try.prog 24) h0) e t h = Jk24_6 rc md h0 e (t 1) (t 2) (t 3) (t 8) h := by
  rw [kAt_holes [([1, 1, 0, 1, 0], 0), ([1, 1, 1, 1, 0, 1, 0], 1), ([1, 1, 1, 1, 1, 0, 1, 0], 2), ([1, 1, 1, 1, 1, 1, 1, 0, 1, 0], 4), ([1, 1, 1, 1, 1, 1, 1], 5)] [1, 1, 1, 1, 1, 1, 0, 1, 0] (by kernel_rfl), Jk24_6_h1, show (goX Try.prog cfg rc md 106 (bodyOf Try.prog 24) [([1, 1, 0, 1, 0], 0), ([1, 1, 1, 1, 0, 1, 0], 1), ([1, 1, 1, 1, 1, 0, 1, 0], 2), ([1, 1, 1, 1, 1, 1, 1, 0, 1, 0], 4), ([1, 1, 1, 1, 1, 1, 1], 5)] (retK Try.prog cfg 24 (rsOf Try.prog 24) h0)) 5 = _ from J24_7_cut rc md h0]
  exact Jk24_6_h2 rc md h0 e t h
noncomputable def Jk24_6b0 (rc : Rec) (md : Md) (e : Exit) (s1 : Value) (s2 : Value) (s3 : Value) (s8 : Value) (s9 : Value) (h : Heap) : Option (((Value × Value × Value × Value) × Heap) ⊕ (Exit × (Value × Value × Value × Value) × Heap)) :=
  match e with
  | .normal =>
    aBin Try.prog .add 3 s8 (.int .i64 1) fun v1 =>
    some (.inl ((s1, s2, s3, v1), h))
  | .exit j =>
    bif Nat.beq j 10 then
      aBin Try.prog .add 3 s8 (.int .i64 1) fun v2 =>
      some (.inl ((s1, s2, s3, v2), h))
    else
      bif Nat.beq j 9 then
        aBin Try.prog .add 3 s8 (.int .i64 1) fun v3 =>
        some (.inl ((s1, s2, s3, v3), h))
      else
        some (.inr ((.exit j), (s1, s2, s3, s8), h))
  | .ret =>
    some (.inr (.ret, (s1, s2, s3, s8), h))
  | .goto l => some (.inr ((.goto l), (s1, s2, s3, s8), h))
  | .panic ps => some (.inr ((.panic ps), (s1, s2, s3, s8), h))
  | .outgrown => some (.inr (.outgrown, (s1, s2, s3, s8), h))
theorem Jk24_6b0_at (rc : Rec) (md : Md) (e : Exit) (t : T) (h : Heap) : kAt Try.prog cfg rc md 106 (sub (bodyOf Try.prog 24) [1, 1, 1, 1, 1, 1, 0, 1, 0, 0]) [1, 0, 0, 1, 0] (rndK (fun t => (t 1, t 2, t 3, t 8))) e t h = Jk24_6b0 rc md e (t 1) (t 2) (t 3) (t 8) (t 9) h := by cases e <;> kernel_rfl
/-- a round -/
noncomputable def Jr24_6b0 (rc : Rec) (md : Md) (s1 : Value) (s2 : Value) (s3 : Value) (s8 : Value) (s9 : Value) (h : Heap) : Option (((Value × Value × Value × Value × Value) × Heap) ⊕ (Exit × (Value × Value × Value × Value × Value) × Heap)) :=
  fA 0 s1 fun v1 =>
  ld1 v1 h fun v2 =>
  cIn .i64 v2 fun n3 =>
  aBin Try.prog .lss 3 s9 (.int .i64 n3) fun v4 =>
  cBn v4 fun b5 =>
  bif b5 then
    aBuild Try.prog 32 [(0, (.int .i64 9)), (1, s8), (2, s9), (3, (.int .i64 0))] fun v6 =>
    aBuildSlice Try.prog 28 1 [(0, v6)] h fun v7 h8 =>
    aBuiltin Try.prog md .append #[28, 28] [s3, v7] h8 fun v9 h10 =>
    aBin Try.prog .add 3 s9 (.int .i64 1) fun v11 =>
    some (.inl ((s1, s2, v9, s8, v11), h10))
  else
    some (.inr ((.exit 10), (s1, s2, s3, s8, s9), h))
theorem Jr24_6b0_at (rc : Rec) (md : Md) (t : T) (h : Heap) : exec Try.prog cfg rc md 106 (sub (bodyOf Try.prog 24) [1, 1, 1, 1, 1, 1, 0, 1, 0, 0, 1, 0, 0, 1, 0, 0]) (rndK (fun t => (t 1, t 2, t 3, t 8, t 9))) t h = Jr24_6b0 rc md (t 1) (t 2) (t 3) (t 8) (t 9) h := by kernel_rfl
noncomputable def J24_6b0 (rc : Rec) (md : Md) (s1 : Value) (s2 : Value) (s3 : Value) (s8 : Value) (s9 : Value) (h : Heap) : Option (((Value × Value × Value × Value) × Heap) ⊕ (Exit × (Value × Value × Value × Value) × Heap)) :=
  runL (fun x : (Value × Value × Value × Value × Value) × Heap => Jr24_6b0 rc md x.1.1 x.1.2.1 x.1.2.2.1 x.1.2.2.2.1 x.1.2.2.2.2 x.2) (fun e (s : Value × Value × Value × Value × Value) h => Jk24_6b0 rc md e s.1 s.2.1 s.2.2.1 s.2.2.2.1 s.2.2.2.2 h) (s1, s2, s3, s8, s9) h
theorem J24_6b0_step (rc : Rec) (md : Md) (s1 : Value) (s2 : Value) (s3 : Value) (s8 : Value) (s9 : Value) (h : Heap) : J24_6b0 rc md s1 s2 s3 s8 s9 h = (Jr24_6b0 rc md s1 s2 s3 s8 s9 h).bind fun x => match x with
    | .inl (s, h) => J24_6b0 rc md s.1 s.2.1 s.2.2.1 s.2.2.2.1 s.2.2.2.2 h
    | .inr (e, s, h) => Jk24_6b0 rc md e s.1 s.2.1 s.2.2.1 s.2.2.2.1 s.2.2.2.2 h := by
  unfold J24_6b0
  rw [runL_eq]
  refine congrArg (Option.bind _) (funext fun x => ?_)
  rcases x with ⟨s, h⟩ | ⟨e, s, h⟩ <;> rfl
theorem J24_6b0_cut (rc : Rec) (md : Md) : cut Try.prog cfg rc md 106 (sub (bodyOf Try.prog 24) [1, 1, 1, 1, 1, 1, 0, 1, 0, 0]) [1, 0, 0, 1, 0] (rndK (fun t => (t 1, t 2, t 3, t 8))) = fun t h => J24_6b0 rc md (t 1) (t 2) (t 3) (t 8) (t 9) h := by
  funext t h
  have e : sub (sub (bodyOf Try.prog 24) [1, 1, 1, 1, 1, 1, 0, 1, 0, 0]) [1, 0, 0, 1, 0] = .loop (sub (bodyOf Try.prog 24) [1, 1, 1, 1, 1, 1, 0, 1, 0, 0, 1, 0, 0, 1, 0, 0]) := by kernel_rfl
  unfold cut
  rw [e]
  exact loop_eq (by kernel_rfl) (fun t => (t 1, t 2, t 3, t 8, t 9)) (fun x : (Value × Value × Value × Value × Value) × Heap => Jr24_6b0 rc md x.1.1 x.1.2.1 x.1.2.2.1 x.1.2.2.2.1 x.1.2.2.2.2 x.2) (fun t h => Jr24_6b0_at rc md t h) (fun e (s : Value × Value × Value × Value × Value) h => Jk24_6b0 rc md e s.1 s.2.1 s.2.2.1 s.2.2.2.1 s.2.2.2.2 h) (fun e t h => Jk24_6b0_at rc md e t h) t h
/-- a round -/
noncomputable def Jr24_6 (rc : Rec) (md : Md) (s1 : Value) (s2 : Value) (s3 : Value) (s8 : Value) (h : Heap) : Option (((Value × Value × Value × Value) × Heap) ⊕ (Exit × (Value × Value × Value × Value) × Heap)) :=
  fA 0 s1 fun v1 =>
  ld1 v1 h fun v2 =>
  cIn .i64 v2 fun n3 =>
  aBin Try.prog .lss 3 s8 (.int .i64 n3) fun v4 =>
  cBn v4 fun b5 =>
  bif b5 then
    aBin Try.prog .add 3 s8 (.int .i64 1) fun v6 =>
    J24_6b0 rc md s1 s2 s3 s8 v6 h
  else
    some (.inr ((.exit 8), (s1, s2, s3, s8), h))
noncomputable def Jr24_6H (rc : Rec) (md : Md) (X0 : T → Heap → Option (((Value × Value × Value × Value) × Heap) ⊕ (Exit × (Value × Value × Value × Value) × Heap))) (t : T) (h : Heap) : Option (((Value × Value × Value × Value) × Heap) ⊕ (Exit × (Value × Value × Value × Value) × Heap)) :=
  fA 0 (t 1) fun v1 =>
  ld1 v1 h fun v2 =>
  cIn .i64 v2 fun n3 =>
  aBin Try.prog .lss 3 (t 8) (.int .i64 n3) fun v4 =>
  cBn v4 fun b5 =>
  bif b5 then
    aBin Try.prog .add 3 (t 8) (.int .i64 1) fun v6 =>
    X0 (upd (upd (upd (upd (upd (upd (upd t 68 (t 8)) 69 v1) 70 (.int .i64 n3)) 71 v4) 74 (t 8)) 75 v6) 9 v6) h
  else
    some (.inr ((.exit 8), ((t 1), (t 2), (t 3), (t 8)), h))
theorem Jr24_6_h1 (rc : Rec) (md : Md) (X : Nat → T → Heap → Option (((Value × Value × Value × Value) × Heap) ⊕ (Exit × (Value × Value × Value × Value) × Heap))) (t : T) (h : Heap) : execG Try.prog cfg X rc md 106 (replS (sub (bodyOf Try.prog 24) [1, 1, 1, 1, 1, 1, 0, 1, 0, 0]) [([1, 0, 0, 1, 0], 0)]) (rndK (fun t => (t 1, t 2, t 3, t 8))) t h = Jr24_6H rc md (X 0) t h := by kernel_rfl
theorem Jr24_6_h2 (rc : Rec) (md : Md) (t : T) (h : Heap) : Jr24_6H rc md (fun t h => J24_6b0 rc md (t 1) (t 2) (t 3) (t 8) (t 9) h) t h = Jr24_6 rc md (t 1) (t 2) (t 3) (t 8) h := by unfold Jr24_6H Jr24_6; kernel_rfl
theorem Jr24_6_at (rc : Rec) (md : Md) (t : T) (h : Heap) : exec Try.prog cfg rc md 106 (sub (bodyOf Try.prog 24) [1, 1, 1, 1, 1, 1, 0, 1, 0, 0]) (rndK (fun t => (t 1, t 2, t 3, t 8))) t h = Jr24_6 rc md (t 1) (t 2) (t 3) (t 8) h := by
  rw [exec_holes [([1, 0, 0, 1, 0], 0)] (by kernel_rfl), Jr24_6_h1, show (goX Try.prog cfg rc md 106 (sub (bodyOf Try.prog 24) [1, 1, 1, 1, 1, 1, 0, 1, 0, 0]) [([1, 0, 0, 1, 0], 0)] (rndK (fun t => (t 1, t 2, t 3, t 8)))) 0 = _ from J24_6b0_cut rc md]
  exact Jr24_6_h2 rc md t h
noncomputable def J24_6 (rc : Rec) (md : Md) (h0 : Heap) (s1 : Value) (s2 : Value) (s3 : Value) (s8 : Value) (h : Heap) : Option (Value × Heap) :=
  runL (fun x : (Value × Value × Value × Value) × Heap => Jr24_6 rc md x.1.1 x.1.2.1 x.1.2.2.1 x.1.2.2.2 x.2) (fun e (s : Value × Value × Value × Value) h => Jk24_6 rc md h0 e s.1 s.2.1 s.2.2.1 s.2.2.2 h) (s1, s2, s3, s8) h
theorem J24_6_step (rc : Rec) (md : Md) (h0 : Heap) (s1 : Value) (s2 : Value) (s3 : Value) (s8 : Value) (h : Heap) : J24_6 rc md h0 s1 s2 s3 s8 h = (Jr24_6 rc md s1 s2 s3 s8 h).bind fun x => match x with
    | .inl (s, h) => J24_6 rc md h0 s.1 s.2.1 s.2.2.1 s.2.2.2 h
    | .inr (e, s, h) => Jk24_6 rc md h0 e s.1 s.2.1 s.2.2.1 s.2.2.2 h := by
  unfold J24_6
  rw [runL_eq]
  refine congrArg (Option.bind _) (funext fun x => ?_)
  rcases x with ⟨s, h⟩ | ⟨e, s, h⟩ <;> rfl
theorem J24_6_cut (rc : Rec) (md : Md) (h0 : Heap) : cut Try.prog cfg rc md 106 (bodyOf Try.prog 24) [1, 1, 1, 1, 1, 1, 0, 1, 0] (retK Try.prog cfg 24 (rsOf Try.prog 24) h0) = fun t h => J24_6 rc md h0 (t 1) (t 2) (t 3) (t 8) h := by
  funext t h
  have e : sub (bodyOf Try.prog 24) [1, 1, 1, 1, 1, 1, 0, 1, 0] = .loop (sub (bodyOf Try.prog 24) [1, 1, 1, 1, 1, 1, 0, 1, 0, 0]) := by kernel_rfl
  unfold cut
  rw [e]
  exact loop_eq (by kernel_rfl) (fun t => (t 1, t 2, t 3, t 8)) (fun x : (Value × Value × Value × Value) × Heap => Jr24_6 rc md x.1.1 x.1.2.1 x.1.2.2.1 x.1.2.2.2 x.2) (fun t h => Jr24_6_at rc md t h) (fun e (s : Value × Value × Value × Value) h => Jk24_6 rc md h0 e s.1 s.2.1 s.2.2.1 s.2.2.2 h) (fun e t h => Jk24_6_at rc md h0 e t h) t h
noncomputable def J24_5 (rc : Rec) (md : Md) (h0 : Heap) (s1 : Value) (s2 : Value) (s3 : Value) (h : Heap) : Option (Value × Heap) :=
  J24_6 rc md h0 s1 s2 s3 (.int .i64 0) h
noncomputable def J24_5H (rc : Rec) (md : Md) (h0 : Heap) (X3 : T → Heap → Option (Value × Heap)) (t : T) (h : Heap) : Option (Value × Heap) :=
  X3 (upd t 8 (.int .i64 0)) h
theorem J24_5_h1 (rc : Rec) (md : Md) (h0 : Heap) (X : Nat → T → Heap → Option (Value × Heap)) (t : T) (h : Heap) : execG Try.prog cfg X rc md 106 (sub (replS (bodyOf Try.prog 24) [([1, 1, 0, 1, 0], 0), ([1, 1, 1, 1, 0, 1, 0], 1), ([1, 1, 1, 1, 1, 0, 1, 0], 2), ([1, 1, 1, 1, 1, 1, 0, 1, 0], 3), ([1, 1, 1, 1, 1, 1, 1, 0, 1, 0], 4), ([1, 1, 1, 1, 1, 1, 1], 5)]) [1, 1, 1, 1, 1, 1]) (kAtG Try.prog cfg X rc md 106 (replS (bodyOf Try.prog 24) [([1, 1, 0, 1, 0], 0), ([1, 1, 1, 1, 0, 1, 0], 1), ([1, 1, 1, 1, 1, 0, 1, 0], 2), ([1, 1, 1, 1, 1, 1, 0, 1, 0], 3), ([1, 1, 1, 1, 1, 1, 1, 0, 1, 0], 4), ([1, 1, 1, 1, 1, 1, 1], 5)]) [1, 1, 1, 1, 1, 1] (retK Try.prog cfg 24 (rsOf Try.prog 24) h0)) t h = J24_5H rc md h0 (X 3) t h := by kernel_rfl
theorem J24_5_h2 (rc : Rec) (md : Md) (h0 : Heap) (t : T) (h : Heap) : J24_5H rc md h0 (fun t h => J24_6 rc md h0 (t 1) (t 2) (t 3) (t 8) h) t h = J24_5 rc md h0 (t 1) (t 2) (t 3) h := by (unfold J24_5H J24_5; kernel_rfl)
theorem J24_5_at (rc : Rec) (md : Md) (h0 : Heap) (t : T) (h : Heap) : cut Try.prog cfg rc md 106 (bodyOf Try.prog 24) [1, 1, 1, 1, 1, 1] (retK Try.prog cfg 24 (rsOf Try.prog 24) h0) t h = J24_5 rc md h0 (t 1) (t 2) (t 3) h := by
  rw [cut_holes [([1, 1, 0, 1, 0], 0), ([1, 1, 1, 1, 0, 1, 0], 1), ([1, 1, 1, 1, 1, 0, 1, 0], 2), ([1, 1, 1, 1, 1, 1, 0, 1, 0], 3), ([1, 1, 1, 1, 1, 1, 1, 0, 1, 0], 4), ([1, 1, 1, 1, 1, 1, 1], 5)] [1, 1, 1, 1, 1, 1] (by kernel_rfl), J24_5_h1, show (goX Try.prog cfg rc md 106 (bodyOf Try.prog 24) [([1, 1, 0, 1, 0], 0), ([1, 1, 1, 1, 0, 1, 0], 1), ([1, 1, 1, 1, 1, 0, 1, 0], 2), ([1, 1, 1, 1, 1, 1, 0, 1, 0], 3), ([1, 1, 1, 1, 1, 1, 1, 0, 1, 0], 4), ([1, 1, 1, 1, 1, 1, 1], 5)] (retK Try.prog cfg 24 (rsOf Try.prog 24) h0)) 3 = _ from J24_6_cut rc md h0]
  exact J24_5_h2 rc md h0 t h
theorem J24_5_cut (rc : Rec) (md : Md) (h0 : Heap) : cut Try.prog cfg rc md 106 (bodyOf Try.prog 24) [1, 1, 1, 1, 1, 1] (retK Try.prog cfg 24 (rsOf Try.prog 24) h0) = fun t h => J24_5 rc md h0 (t 1) (t 2) (t 3) h := funext fun t => funext fun h => J24_5_at rc md h0 t h
noncomputable def Jk24_4 (rc : Rec) (md : Md) (h0 : Heap) (e : Exit) (s1 : Value) (s2 : Value) (s3 : Value) (s6 : Value) (h : Heap) : Option (Value × Heap) :=
  match e with
  | .normal =>
    J24_5 rc md h0 s1 s2 s3 h
  | .exit j =>
    bif Nat.beq j 4 then
      J24_5 rc md h0 s1 s2 s3 h
    else
      none
  | .ret =>
    some (s2, h)
  | .goto l => none
  | .panic ps => none
  | .outgrown => none
noncomputable def Jk24_4H (rc : Rec) (md : Md) (h0 : Heap) (X6 : T → Heap → Option (Value × Heap)) (e : Exit) (t : T) (h : Heap) : Option (Value × Heap) :=
  match e with
  | .normal =>
    X6 t h
  | .exit j =>
    bif Nat.beq j 4 then
      X6 t h
    else
      none
  | .ret =>
    some ((t 2), h)
  | .goto l => none
  | .panic ps => none
  | .outgrown => none
theorem Jk24_4_h1 (rc : Rec) (md : Md) (h0 : Heap) (X : Nat → T → Heap → Option (Value × Heap)) (e : Exit) (t : T) (h : Heap) : kAtG Try.prog cfg X rc md 106 (replS (bodyOf Try.prog 24) [([1, 1, 0, 1, 0], 0), ([1, 1, 1, 1, 0, 1, 0], 1), ([1, 1, 1, 1, 1, 1, 0, 1, 0], 3), ([1, 1, 1, 1, 1, 1, 1, 0, 1, 0], 4), ([1, 1, 1, 1, 1, 1, 1], 5), ([1, 1, 1, 1, 1, 1], 6)]) [1, 1, 1, 1, 1, 0, 1, 0] (retK Try.prog cfg 24 (rsOf Try.prog 24) h0) e t h = Jk24_4H rc md h0 (X 6) e t h := by cases e <;> kernel_rfl
theorem Jk24_4_h2 (rc : Rec) (md : Md) (h0 : Heap) (e : Exit) (t : T) (h : Heap) : Jk24_4H rc md h0 (fun t h => J24_5 rc md h0 (t 1) (t 2) (t 3) h) e t h = Jk24_4 rc md h0 e (t 1) (t 2) (t 3) (t 6) h := by cases e <;> (unfold Jk24_4H Jk24_4; kernel_rfl)
theorem Jk24_4_at (rc : Rec) (md : Md) (h0 : Heap) (e : Exit) (t : T) (h : Heap) : kAt Try.prog cfg rc md 106 (bodyOf Try.prog 24) [1, 1, 1, 1, 1, 0, 1, 0] (retK Try.prog cfg 24 (rsOf Try.prog 24) h0) e t h = Jk24_4 rc md h0 e (t 1) (t 2) (t 3) (t 6) h := by
  rw [kAt_holes [([1, 1, 0, 1, 0], 0), ([1, 1, 1, 1, 0, 1, 0], 1), ([1, 1, 1, 1, 1, 1, 0, 1, 0], 3), ([1, 1, 1, 1, 1, 1, 1, 0, 1, 0], 4), ([1, 1, 1, 1, 1, 1, 1], 5), ([1, 1, 1, 1, 1, 1], 6)] [1, 1, 1, 1, 1, 0, 1, 0] (by kernel_rfl), Jk24_4_h1, show (goX Try.prog cfg rc md 106 (bodyOf Try.prog 24) [([1, 1, 0, 1, 0], 0), ([1, 1, 1, 1, 0, 1, 0], 1), ([1, 1, 1, 1, 1, 1, 0, 1, 0], 3), ([1, 1, 1, 1, 1, 1, 1, 0, 1, 0], 4), ([1, 1, 1, 1, 1, 1, 1], 5), ([1, 1, 1, 1, 1, 1], 6)] (retK Try.prog cfg 24 (rsOf Try.prog 24) h0)) 6 = _ from J24_5_cut rc md h0]
  exact Jk24_4_h2 rc md h0 e t h
noncomputable def Jk24_4b0 (rc : Rec) (md : Md) (e : Exit) (s1 : Value) (s2 : Value) (s3 : Value) (s6 : Value) (s7 : Value) (h : Heap) : Option (((Value × Value × Value × Value) × Heap) ⊕ (Exit × (Value × Value × Value × Value) × Heap)) :=
  match e with
  | .normal =>
    aBin Try.prog .add 3 s6 (.int .i64 1) fun v1 =>
    some (.inl ((s1, s2, s3, v1), h))
  | .exit j =>
    bif Nat.beq j 6 then
      aBin Try.prog .add 3 s6 (.int .i64 1) fun v2 =>
      some (.inl ((s1, s2, s3, v2), h))
    else
      bif Nat.beq j 5 then
        aBin Try.prog .add 3 s6 (.int .i64 1) fun v3 =>
        some (.inl ((s1, s2, s3, v3), h))
      else
        some (.inr ((.exit j), (s1, s2, s3, s6), h))
  | .ret =>
    some (.inr (.ret, (s1, s2, s3, s6), h))
  | .goto l => some (.inr ((.goto l), (s1, s2, s3, s6), h))
  | .panic ps => some (.inr ((.panic ps), (s1, s2, s3, s6), h))
  | .outgrown => some (.inr (.outgrown, (s1, s2, s3, s6), h))
theorem Jk24_4b0_at (rc : Rec) (md : Md) (e : Exit) (t : T) (h : Heap) : kAt Try.prog cfg rc md 106 (sub (bodyOf Try.prog 24) [1, 1, 1, 1, 1, 0, 1, 0, 0]) [1, 0, 0, 1, 0] (rndK (fun t => (t 1, t 2, t 3, t 6))) e t h = Jk24_4b0 rc md e (t 1) (t 2) (t 3) (t 6) (t 7) h := by cases e <;> kernel_rfl
/-- a round -/
noncomputable def Jr24_4b0 (rc : Rec) (md : Md) (s1 : Value) (s2 : Value) (s3 : Value) (s6 : Value) (s7 : Value) (h : Heap) : Option (((Value × Value × Value × Value × Value) × Heap) ⊕ (Exit × (Value × Value × Value × Value × Value) × Heap)) :=
  ldN 3 s1 h fun v1 =>
  cl (rc md 18 [v1] h) fun v2 h3 =>
  cIn .i64 v2 fun n4 =>
  aBin Try.prog .lss 3 s7 (.int .i64 n4) fun v5 =>
  cBn v5 fun b6 =>
  bif b6 then
    aBuild Try.prog 32 [(0, (.int .i64 8)), (1, s6), (2, s7), (3, (.int .i64 0))] fun v7 =>
    aBuildSlice Try.prog 28 1 [(0, v7)] h3 fun v8 h9 =>
    aBuiltin Try.prog md .append #[28, 28] [s3, v8] h9 fun v10 h11 =>
    aBin Try.prog .add 3 s7 (.int .i64 1) fun v12 =>
    some (.inl ((s1, s2, v10, s6, v12), h11))
  else
    some (.inr ((.exit 6), (s1, s2, s3, s6, s7), h3))
theorem Jr24_4b0_at (rc : Rec) (md : Md) (t : T) (h : Heap) : exec Try.prog cfg rc md 106 (sub (bodyOf Try.prog 24) [1, 1, 1, 1, 1, 0, 1, 0, 0, 1, 0, 0, 1, 0, 0]) (rndK (fun t => (t 1, t 2, t 3, t 6, t 7))) t h = Jr24_4b0 rc md (t 1) (t 2) (t 3) (t 6) (t 7) h := by kernel_rfl
noncomputable def J24_4b0 (rc : Rec) (md : Md) (s1 : Value) (s2 : Value) (s3 : Value) (s6 : Value) (s7 : Value) (h : Heap) : Option (((Value × Value × Value × Value) × Heap) ⊕ (Exit × (Value × Value × Value × Value) × Heap)) :=
  runL (fun x : (Value × Value × Value × Value × Value) × Heap => Jr24_4b0 rc md x.1.1 x.1.2.1 x.1.2.2.1 x.1.2.2.2.1 x.1.2.2.2.2 x.2) (fun e (s : Value × Value × Value × Value × Value) h => Jk24_4b0 rc md e s.1 s.2.1 s.2.2.1 s.2.2.2.1 s.2.2.2.2 h) (s1, s2, s3, s6, s7) h
theorem J24_4b0_step (rc : Rec) (md : Md) (s1 : Value) (s2 : Value) (s3 : Value) (s6 : Value) (s7 : Value) (h : Heap) : J24_4b0 rc md s1 s2 s3 s6 s7 h = (Jr24_4b0 rc md s1 s2 s3 s6 s7 h).bind fun x => match x with
    | .inl (s, h) => J24_4b0 rc md s.1 s.2.1 s.2.2.1 s.2.2.2.1 s.2.2.2.2 h
    | .inr (e, s, h) => Jk24_4b0 rc md e s.1 s.2.1 s.2.2.1 s.2.2.2.1 s.2.2.2.2 h := by
  unfold J24_4b0
  rw [runL_eq]
  refine congrArg (Option.bind _) (funext fun x => ?_)
  rcases x with ⟨s, h⟩ | ⟨e, s, h⟩ <;> rfl
theorem J24_4b0_cut (rc : Rec) (md : Md) : cut Try.prog cfg rc md 106 (sub (bodyOf Try.prog 24) [1, 1, 1, 1, 1, 0, 1, 0, 0]) [1, 0, 0, 1, 0] (rndK (fun t => (t 1, t 2, t 3, t 6))) = fun t h => J24_4b0 rc md (t 1) (t 2) (t 3) (t 6) (t 7) h := by
  funext t h
  have e : sub (sub (bodyOf Try.prog 24) [1, 1, 1, 1, 1, 0, 1, 0, 0]) [1, 0, 0, 1, 0] = .loop (sub (bodyOf Try.prog 24) [1, 1, 1, 1, 1, 0, 1, 0, 0, 1, 0, 0, 1, 0, 0]) := by kernel_rfl
  unfold cut
  rw [e]
  exact loop_eq (by kernel_rfl) (fun t => (t 1, t 2, t 3, t 6, t 7)) (fun x : (Value × Value × Value × Value × Value) × Heap => Jr24_4b0 rc md x.1.1 x.1.2.1 x.1.2.2.1 x.1.2.2.2.1 x.1.2.2.2.2 x.2) (fun t h => Jr24_4b0_at rc md t h) (fun e (s : Value × Value × Value × Value × Value) h => Jk24_4b0 rc md e s.1 s.2.1 s.2.2.1 s.2.2.2.1 s.2.2.2.2 h) (fun e t h => Jk24_4b0_at rc md e t h) t h
/-- a round -/
noncomputable def Jr24_4 (rc : Rec) (md : Md) (s1 : Value) (s2 : Value) (s3 : Value) (s6 : Value) (h : Heap) : Option (((Value × Value × Value × Value) × Heap) ⊕ (Exit × (Value × Value × Value × Value) × Heap)) :=
  fA 0 s1 fun v1 =>
  ld1 v1 h fun v2 =>
  cIn .i64 v2 fun n3 =>
  aBin Try.prog .lss 3 s6 (.int .i64 n3) fun v4 =>
  cBn v4 fun b5 =>
  bif b5 then
    J24_4b0 rc md s1 s2 s3 s6 (.int .i64 0) h
  else
    some (.inr ((.exit 4), (s1, s2, s3, s6), h))
noncomputable def Jr24_4H (rc : Rec) (md : Md) (X0 : T → Heap → Option (((Value × Value × Value × Value) × Heap) ⊕ (Exit × (Value × Value × Value × Value) × Heap))) (t : T) (h : Heap) : Option (((Value × Value × Value × Value) × Heap) ⊕ (Exit × (Value × Value × Value × Value) × Heap)) :=
  fA 0 (t 1) fun v1 =>
  ld1 v1 h fun v2 =>
  cIn .i64 v2 fun n3 =>
  aBin Try.prog .lss 3 (t 6) (.int .i64 n3) fun v4 =>
  cBn v4 fun b5 =>
  bif b5 then
    X0 (upd (upd (upd (upd (upd t 50 (t 6)) 51 v1) 52 (.int .i64 n3)) 53 v4) 7 (.int .i64 0)) h
  else
    some (.inr ((.exit 4), ((t 1), (t 2), (t 3), (t 6)), h))
theorem Jr24_4_h1 (rc : Rec) (md : Md) (X : Nat → T → Heap → Option (((Value × Value × Value × Value) × Heap) ⊕ (Exit × (Value × Value × Value × Value) × Heap))) (t : T) (h : Heap) : execG Try.prog cfg X rc md 106 (replS (sub (bodyOf Try.prog 24) [1, 1, 1, 1, 1, 0, 1, 0, 0]) [([1, 0, 0, 1, 0], 0)]) (rndK (fun t => (t 1, t 2, t 3, t 6))) t h = Jr24_4H rc md (X 0) t h := by kernel_rfl
theorem Jr24_4_h2 (rc : Rec) (md : Md) (t : T) (h : Heap) : Jr24_4H rc md (fun t h => J24_4b0 rc md (t 1) (t 2) (t 3) (t 6) (t 7) h) t h = Jr24_4 rc md (t 1) (t 2) (t 3) (t 6) h := by unfold Jr24_4H Jr24_4; kernel_rfl
theorem Jr24_4_at (rc : Rec) (md : Md) (t : T) (h : Heap) : exec Try.prog cfg rc md 106 (sub (bodyOf Try.prog 24) [1, 1, 1, 1, 1, 0, 1, 0, 0]) (rndK (fun t => (t 1, t 2, t 3, t 6))) t h = Jr24_4 rc md (t 1) (t 2) (t 3) (t 6) h := by
  rw [exec_holes [([1, 0, 0, 1, 0], 0)] (by kernel_rfl), Jr24_4_h1, show (goX Try.prog cfg rc md 106 (sub (bodyOf Try.prog 24) [1, 1, 1, 1, 1, 0, 1, 0, 0]) [([1, 0, 0, 1, 0], 0)] (rndK (fun t => (t 1, t 2, t 3, t 6)))) 0 = _ from J24_4b0_cut rc md]
  exact Jr24_4_h2 rc md t h
noncomputable def J24_4 (rc : Rec) (md : Md) (h0 : Heap) (s1 : Value) (s2 : Value) (s3 : Value) (s6 : Value) (h : Heap) : Option (Value × Heap) :=
  runL (fun x : (Value × Value × Value × Value) × Heap => Jr24_4 rc md x.1.1 x.1.2.1 x.1.2.2.1 x.1.2.2.2 x.2) (fun e (s : Value × Value × Value × Value) h => Jk24_4 rc md h0 e s.1 s.2.1 s.2.2.1 s.2.2.2 h) (s1, s2, s3, s6) h
theorem J24_4_step (rc : Rec) (md : Md) (h0 : Heap) (s1 : Value) (s2 : Value) (s3 : Value) (s6 : Value) (h : Heap) : J24_4 rc md h0 s1 s2 s3 s6 h = (Jr24_4 rc md s1 s2 s3 s6 h).bind fun x => match x with
    | .inl (s, h) => J24_4 rc md h0 s.1 s.2.1 s.2.2.1 s.2.2.2 h
    | .inr (e, s, h) => Jk24_4 rc md h0 e s.1 s.2.1 s.2.2.1 s.2.2.2 h := by
  unfold J24_4
  rw [runL_eq]
  refine congrArg (Option.bind _) (funext fun x => ?_)
  rcases x with ⟨s, h⟩ | ⟨e, s, h⟩ <;> rfl
theorem J24_4_cut (rc : Rec) (md : Md) (h0 : Heap) : cut Try.prog cfg rc md 106 (bodyOf Try.prog 24) [1, 1, 1, 1, 1, 0, 1, 0] (retK Try.prog cfg 24 (rsOf Try.prog 24) h0) = fun t h => J24_4 rc md h0 (t 1) (t 2) (t 3) (t 6) h := by
  funext t h
  have e : sub (bodyOf Try.prog 24) [1, 1, 1, 1, 1, 0, 1, 0] = .loop (sub (bodyOf Try.prog 24) [1, 1, 1, 1, 1, 0, 1, 0, 0]) := by kernel_rfl
  unfold cut
  rw [e]
  exact loop_eq (by kernel_rfl) (fun t => (t 1, t 2, t 3, t 6)) (fun x : (Value × Value × Value × Value) × Heap => Jr24_4 rc md x.1.1 x.1.2.1 x.1.2.2.1 x.1.2.2.2 x.2) (fun t h => Jr24_4_at rc md t h) (fun e (s : Value × Value × Value × Value) h => Jk24_4 rc md h0 e s.1 s.2.1 s.2.2.1 s.2.2.2 h) (fun e t h => Jk24_4_at rc md h0 e t h) t h
noncomputable def J24_3 (rc : Rec) (md : Md) (h0 : Heap) (s1 : Value) (s2 : Value) (s3 : Value) (h : Heap) : Option (Value × Heap) :=
  J24_4 rc md h0 s1 s2 s3 (.int .i64 0) h
noncomputable def J24_3H (rc : Rec) (md : Md) (h0 : Heap) (X2 : T → Heap → Option (Value × Heap)) (t : T) (h : Heap) : Option (Value × Heap) :=
  X2 (upd t 6 (.int .i64 0)) h
theorem J24_3_h1 (rc : Rec) (md : Md) (h0 : Heap) (X : Nat → T → Heap → Option (Value × Heap)) (t : T) (h : Heap) : execG Try.prog cfg X rc md 106 (sub (replS (bodyOf Try.prog 24) [([1, 1, 0, 1, 0], 0), ([1, 1, 1, 1, 0, 1, 0], 1), ([1, 1, 1, 1, 1, 0, 1, 0], 2), ([1, 1, 1, 1, 1, 1, 0, 1, 0], 3), ([1, 1, 1, 1, 1, 1, 1, 0, 1, 0], 4), ([1, 1, 1, 1, 1, 1, 1], 5), ([1, 1, 1, 1, 1, 1], 6)]) [1, 1, 1, 1, 1]) (kAtG Try.prog cfg X rc md 106 (replS (bodyOf Try.prog 24) [([1, 1, 0, 1, 0], 0), ([1, 1, 1, 1, 0, 1, 0], 1), ([1, 1, 1, 1, 1, 0, 1, 0], 2), ([1, 1, 1, 1, 1, 1, 0, 1, 0], 3), ([1, 1, 1, 1, 1, 1, 1, 0, 1, 0], 4), ([1, 1, 1, 1, 1, 1, 1], 5), ([1, 1, 1, 1, 1, 1], 6)]) [1, 1, 1, 1, 1] (retK Try.prog cfg 24 (rsOf Try.prog 24) h0)) t h = J24_3H rc md h0 (X 2) t h := by kernel_rfl
theorem J24_3_h2 (rc : Rec) (md : Md) (h0 : Heap) (t : T) (h : Heap) : J24_3H rc md h0 (fun t h => J24_4 rc md h0 (t 1) (t 2) (t 3) (t 6) h) t h = J24_3 rc md h0 (t 1) (t 2) (t 3) h := by (unfold J24_3H J24_3; kernel_rfl)
theorem J24_3_at (rc : Rec) (md : Md) (h0 : Heap) (t : T) (h : Heap) : cut Try.prog cfg rc md 106 (bodyOf Try.prog 24) [1, 1, 1, 1, 1] (retK Try.prog cfg 24 (rsOf Try.prog 24) h0) t h = J24_3 rc md h0 (t 1) (t 2) (t 3) h := by
  rw [cut_holes [([1, 1, 0, 1, 0], 0), ([1, 1, 1, 1, 0, 1, 0], 1), ([1, 1, 1, 1, 1, 0, 1, 0], 2), ([1, 1, 1, 1, 1, 1, 0, 1, 0], 3), ([1, 1, 1, 1, 1, 1, 1, 0, 1, 0], 4), ([1, 1, 1, 1, 1, 1, 1], 5), ([1, 1, 1, 1, 1, 1], 6)] [1, 1, 1, 1, 1] (by kernel_rfl), J24_3_h1, show (goX Try.prog cfg rc md 106 (bodyOf Try.prog 24) [([1, 1, 0, 1, 0], 0), ([1, 1, 1, 1, 0, 1, 0], 1), ([1, 1, 1, 1, 1, 0, 1, 0], 2), ([1, 1, 1, 1, 1, 1, 0, 1, 0], 3), ([1, 1, 1, 1, 1, 1, 1, 0, 1, 0], 4), ([1, 1, 1, 1, 1, 1, 1], 5), ([1, 1, 1, 1, 1, 1], 6)] (retK Try.prog cfg 24 (rsOf Try.prog 24) h0)) 2 = _ from J24_4_cut rc md h0]
  exact J24_3_h2 rc md h0 t h
theorem J24_3_cut (rc : Rec) (md : Md) (h0 : Heap) : cut Try.prog cfg rc md 106 (bodyOf Try.prog 24) [1, 1, 1, 1, 1] (retK Try.prog cfg 24 (rsOf Try.prog 24) h0) = fun t h => J24_3 rc md h0 (t 1) (t 2) (t 3) h := funext fun t => funext fun h => J24_3_at rc md h0 t h
noncomputable def Jk24_2 (rc : Rec) (md : Md) (h0 : Heap) (e : Exit) (s1 : Value) (s2 : Value) (s3 : Value) (s5 : Value) (h : Heap) : Option (Value × Heap) :=
  match e with
  | .normal =>
    J24_3 rc md h0 s1 s2 s3 h
  | .exit j =>
    bif Nat.beq j 2 then
      J24_3 rc md h0 s1 s2 s3 h
    else
      none
  | .ret =>
    some (s2, h)
  | .goto l => none
  | .panic ps => none
  | .outgrown => none
noncomputable def Jk24_2H (rc : Rec) (md : Md) (h0 : Heap) (X7 : T → Heap → Option (Value × Heap)) (e : Exit) (t : T) (h : Heap) : Option (Value × Heap) :=
  match e with
  | .normal =>
    X7 t h
  | .exit j =>
    bif Nat.beq j 2 then
      X7 t h
    else
      none
  | .ret =>
    some ((t 2), h)
  | .goto l => none
  | .panic ps => none
  | .outgrown => none
theorem Jk24_2_h1 (rc : Rec) (md : Md) (h0 : Heap) (X : Nat → T → Heap → Option (Value × Heap)) (e : Exit) (t : T) (h : Heap) : kAtG Try.prog cfg X rc md 106 (replS (bodyOf Try.prog 24) [([1, 1, 0, 1, 0], 0), ([1, 1, 1, 1, 1, 0, 1, 0], 2), ([1, 1, 1, 1, 1, 1, 0, 1, 0], 3), ([1, 1, 1, 1, 1, 1, 1, 0, 1, 0], 4), ([1, 1, 1, 1, 1, 1, 1], 5), ([1, 1, 1, 1, 1, 1], 6), ([1, 1, 1, 1, 1], 7)]) [1, 1, 1, 1, 0, 1, 0] (retK Try.prog cfg 24 (rsOf Try.prog 24) h0) e t h = Jk24_2H rc md h0 (X 7) e t h := by cases e <;> kernel_rfl
theorem Jk24_2_h2 (rc : Rec) (md : Md) (h0 : Heap) (e : Exit) (t : T) (h : Heap) : Jk24_2H rc md h0 (fun t h => J24_3 rc md h0 (t 1) (t 2) (t 3) h) e t h = Jk24_2 rc md h0 e (t 1) (t 2) (t 3) (t 5) h := by cases e <;> (unfold Jk24_2H Jk24_2; kernel_rfl)
theorem Jk24_2_at (rc : Rec) (md : Md) (h0 : Heap) (e : Exit) (t : T) (h : Heap) : kAt Try.prog cfg rc md 106 (bodyOf Try.prog 24) [1, 1, 1, 1, 0, 1, 0] (retK Try.prog cfg 24 (rsOf Try.prog 24) h0) e t h = Jk24_2 rc md h0 e (t 1) (t 2) (t 3) (t 5) h := by
  rw [kAt_holes [([1, 1, 0, 1, 0], 0), ([1, 1, 1, 1, 1, 0, 1, 0], 2), ([1, 1, 1, 1, 1, 1, 0, 1, 0], 3), ([1, 1, 1, 1, 1, 1, 1, 0, 1, 0], 4), ([1, 1, 1, 1, 1, 1, 1], 5), ([1, 1, 1, 1, 1, 1], 6), ([1, 1, 1, 1, 1], 7)] [1, 1, 1, 1, 0, 1, 0] (by kernel_rfl), Jk24_2_h1, show (goX Try.prog cfg rc md 106 (bodyOf Try.prog 24) [([1, 1, 0, 1, 0], 0), ([1, 1, 1, 1, 1, 0, 1, 0], 2), ([1, 1, 1, 1, 1, 1, 0, 1, 0], 3), ([1, 1, 1, 1, 1, 1, 1, 0, 1, 0], 4), ([1, 1, 1, 1, 1, 1, 1], 5), ([1, 1, 1, 1, 1, 1], 6), ([1, 1, 1, 1, 1], 7)] (retK Try.prog cfg 24 (rsOf Try.prog 24) h0)) 7 = _ from J24_3_cut rc md h0]
  exact Jk24_2_h2 rc md h0 e t h
/-- a round -/
noncomputable def Jr24_2 (rc : Rec) (md : Md) (s1 : Value) (s2 : Value) (s3 : Value) (s5 : Value) (h : Heap) : Option (((Value × Value × Value × Value) × Heap) ⊕ (Exit × (Value × Value × Value × Value) × Heap)) :=
  fA 1 s1 fun v1 =>
  ld1 v1 h fun v2 =>
  cIn .i64 v2 fun n3 =>
  aBin Try.prog .lss 3 s5 (.int .i64 n3) fun v4 =>
  cBn v4 fun b5 =>
  bif b5 then
    aBuild Try.prog 32 [(0, (.int .i64 3)), (1, s5), (2, (.int .i64 0)), (3, (.int .i64 0))] fun v6 =>
    aBuild Try.prog 32 [(0, (.int .i64 4)), (1, s5), (2, (.int .i64 0)), (3, (.int .i64 0))] fun v7 =>
    aBuild Try.prog 32 [(0, (.int .i64 5)), (1, s5), (2, (.int .i64 0)), (3, (.int .i64 0))] fun v8 =>
    aBuild Try.prog 32 [(0, (.int .i64 6)), (1, s5), (2, (.int .i64 0)), (3, (.int .i64 0))] fun v9 =>
    aBuild Try.prog 32 [(0, (.int .i64 6)), (1, s5), (2, (.int .i64 1)), (3, (.int .i64 0))] fun v10 =>
    aBuild Try.prog 32 [(0, (.int .i64 7)), (1, s5), (2, (.int .i64 0)), (3, (.int .i64 0))] fun v11 =>
    aBuild Try.prog 32 [(0, (.int .i64 7)), (1, s5), (2, (.int .i64 1)), (3, (.int .i64 0))] fun v12 =>
    aBuildSlice Try.prog 28 7 [(0, v6), (1, v7), (2, v8), (3, v9), (4, v10), (5, v11), (6, v12)] h fun v13 h14 =>
    aBuiltin Try.prog md .append #[28, 28] [s3, v13] h14 fun v15 h16 =>
    aBin Try.prog .add 3 s5 (.int .i64 1) fun v17 =>
    some (.inl ((s1, s2, v15, v17), h16))
  else
    some (.inr ((.exit 2), (s1, s2, s3, s5), h))
theorem Jr24_2_at (rc : Rec) (md : Md) (t : T) (h : Heap) : exec Try.prog cfg rc md 106 (sub (bodyOf Try.prog 24) [1, 1, 1, 1, 0, 1, 0, 0]) (rndK (fun t => (t 1, t 2, t 3, t 5))) t h = Jr24_2 rc md (t 1) (t 2) (t 3) (t 5) h := by kernel_rfl
noncomputable def J24_2 (rc : Rec) (md : Md) (h0 : Heap) (s1 : Value) (s2 : Value) (s3 : Value) (s5 : Value) (h : Heap) : Option (Value × Heap) :=
  runL (fun x : (Value × Value × Value × Value) × Heap => Jr24_2 rc md x.1.1 x.1.2.1 x.1.2.2.1 x.1.2.2.2 x.2) (fun e (s : Value × Value × Value × Value) h => Jk24_2 rc md h0 e s.1 s.2.1 s.2.2.1 s.2.2.2 h) (s1, s2, s3, s5) h
theorem J24_2_step (rc : Rec) (md : Md) (h0 : Heap) (s1 : Value) (s2 : Value) (s3 : Value) (s5 : Value) (h : Heap) : J24_2 rc md h0 s1 s2 s3 s5 h = (Jr24_2 rc md s1 s2 s3 s5 h).bind fun x => match x with
    | .inl (s, h) => J24_2 rc md h0 s.1 s.2.1 s.2.2.1 s.2.2.2 h
    | .inr (e, s, h) => Jk24_2 rc md h0 e s.1 s.2.1 s.2.2.1 s.2.2.2 h := by
  unfold J24_2
  rw [runL_eq]
  refine congrArg (Option.bind _) (funext fun x => ?_)
  rcases x with ⟨s, h⟩ | ⟨e, s, h⟩ <;> rfl
theorem J24_2_cut (rc : Rec) (md : Md) (h0 : Heap) : cut Try.prog cfg rc md 106 (bodyOf Try.prog 24) [1, 1, 1, 1, 0, 1, 0] (retK Try.prog cfg 24 (rsOf Try.prog 24) h0) = fun t h => J24_2 rc md h0 (t 1) (t 2) (t 3) (t 5) h := by
  funext t h
  have e : sub (bodyOf Try.prog 24) [1, 1, 1, 1, 0, 1, 0] = .loop (sub (bodyOf Try.prog 24) [1, 1, 1, 1, 0, 1, 0, 0]) := by kernel_rfl
  unfold cut
  rw [e]
  exact loop_eq (by kernel_rfl) (fun t => (t 1, t 2, t 3, t 5)) (fun x : (Value × Value × Value × Value) × Heap => Jr24_2 rc md x.1.1 x.1.2.1 x.1.2.2.1 x.1.2.2.2 x.2) (fun t h => Jr24_2_at rc md t h) (fun e (s : Value × Value × Value × Value) h => Jk24_2 rc md h0 e s.1 s.2.1 s.2.2.1 s.2.2.2 h) (fun e t h => Jk24_2_at rc md h0 e t h) t h
noncomputable def J24_1 (rc : Rec) (md : Md) (h0 : Heap) (s1 : Value) (s2 : Value) (s3 : Value) (h : Heap) : Option (Value × Heap) :=
  let h1 : Heap := h ++ [.own [(.int .i64 2), (.int .i64 0), (.int .i64 0), (.int .i64 0)]]
  aBuiltin Try.prog md .append #[28, 28] [s3, (.slice (some ⟨h.length, 0, none⟩) 1 4)] h1 fun v2 h3 =>
  J24_2 rc md h0 s1 s2 v2 (.int .i64 0) h3
noncomputable def J24_1H (rc : Rec) (md : Md) (h0 : Heap) (X1 : T → Heap → Option (Value × Heap)) (t : T) (h : Heap) : Option (Value × Heap) :=
  let h1 : Heap := h ++ [.own [(.int .i64 2), (.int .i64 0), (.int .i64 0), (.int .i64 0)]]
  aBuiltin Try.prog md .append #[28, 28] [(t 3), (.slice (some ⟨h.length, 0, none⟩) 1 4)] h1 fun v2 h3 =>
  X1 (upd (upd (upd (upd (upd (upd t 23 (t 3)) 24 (.agg #[(.int .i64 2), (.int .i64 0), (.int .i64 0), (.int .i64 0)])) 25 (.slice (some ⟨h.length, 0, none⟩) 1 4)) 26 v2) 3 v2) 5 (.int .i64 0)) h3
theorem J24_1_h1 (rc : Rec) (md : Md) (h0 : Heap) (X : Nat → T → Heap → Option (Value × Heap)) (t : T) (h : Heap) : execG Try.prog cfg X rc md 106 (sub (replS (bodyOf Try.prog 24) [([1, 1, 0, 1, 0], 0), ([1, 1, 1, 1, 0, 1, 0], 1), ([1, 1, 1, 1, 1, 0, 1, 0], 2), ([1, 1, 1, 1, 1, 1, 0, 1, 0], 3), ([1, 1, 1, 1, 1, 1, 1, 0, 1, 0], 4), ([1, 1, 1, 1, 1, 1, 1], 5), ([1, 1, 1, 1, 1, 1], 6), ([1, 1, 1, 1, 1], 7)]) [1, 1, 1]) (kAtG Try.prog cfg X rc md 106 (replS (bodyOf Try.prog 24) [([1, 1, 0, 1, 0], 0), ([1, 1, 1, 1, 0, 1, 0], 1), ([1, 1, 1, 1, 1, 0, 1, 0], 2), ([1, 1, 1, 1, 1, 1, 0, 1, 0], 3), ([1, 1, 1, 1, 1, 1, 1, 0, 1, 0], 4), ([1, 1, 1, 1, 1, 1, 1], 5), ([1, 1, 1, 1, 1, 1], 6), ([1, 1, 1, 1, 1], 7)]) [1, 1, 1] (retK Try.prog cfg 24 (rsOf Try.prog 24) h0)) t h = J24_1H rc md h0 (X 1) t h := by kernel_rfl
theorem J24_1_h2 (rc : Rec) (md : Md) (h0 : Heap) (t : T) (h : Heap) : J24_1H rc md h0 (fun t h => J24_2 rc md h0 (t 1) (t 2) (t 3) (t 5) h) t h = J24_1 rc md h0 (t 1) (t 2) (t 3) h := by (unfold J24_1H J24_1; kernel_rfl)
theorem J24_1_at (rc : Rec) (md : Md) (h0 : Heap) (t : T) (h : Heap) : cut Try.prog cfg rc md 106 (bodyOf Try.prog 24) [1, 1, 1] (retK Try.prog cfg 24 (rsOf Try.prog 24) h0) t h = J24_1 rc md h0 (t 1) (t 2) (t 3) h := by
  rw [cut_holes [([1, 1, 0, 1, 0], 0), ([1, 1, 1, 1, 0, 1, 0], 1), ([1, 1, 1, 1, 1, 0, 1, 0], 2), ([1, 1, 1, 1, 1, 1, 0, 1, 0], 3), ([1, 1, 1, 1, 1, 1, 1, 0, 1, 0], 4), ([1, 1, 1, 1, 1, 1, 1], 5), ([1, 1, 1, 1, 1, 1], 6), ([1, 1, 1, 1, 1], 7)] [1, 1, 1] (by kernel_rfl), J24_1_h1, show (goX Try.prog cfg rc md 106 (bodyOf Try.prog 24) [([1, 1, 0, 1, 0], 0), ([1, 1, 1, 1, 0, 1, 0], 1), ([1, 1, 1, 1, 1, 0, 1, 0], 2), ([1, 1, 1, 1, 1, 1, 0, 1, 0], 3), ([1, 1, 1, 1, 1, 1, 1, 0, 1, 0], 4), ([1, 1, 1, 1, 1, 1, 1], 5), ([1, 1, 1, 1, 1, 1], 6), ([1, 1, 1, 1, 1], 7)] (retK Try.prog cfg 24 (rsOf Try.prog 24) h0)) 1 = _ from J24_2_cut rc md h0]
  exact J24_1_h2 rc md h0 t h
theorem J24_1_cut (rc : Rec) (md : Md) (h0 : Heap) : cut Try.prog cfg rc md 106 (bodyOf Try.prog 24) [1, 1, 1] (retK Try.prog cfg 24 (rsOf Try.prog 24) h0) = fun t h => J24_1 rc md h0 (t 1) (t 2) (t 3) h := funext fun t => funext fun h => J24_1_at rc md h0 t h
noncomputable def Jk24_0 (rc : Rec) (md : Md) (h0 : Heap) (e : Exit) (s1 : Value) (s2 : Value) (s3 : Value) (s4 : Value) (h : Heap) : Option (Value × Heap) :=
  match e with
  | .normal =>
    J24_1 rc md h0 s1 s2 s3 h
  | .exit j =>
    bif Nat.beq j 0 then
      J24_1 rc md h0 s1 s2 s3 h
    else
      none
  | .ret =>
    some (s2, h)
  | .goto l => none
  | .panic ps => none
  | .outgrown => none
noncomputable def Jk24_0H (rc : Rec) (md : Md) (h0 : Heap) (X8 : T → Heap → Option (Value × Heap)) (e : Exit) (t : T) (h : Heap) : Option (Value × Heap) :=
  match e with
  | .normal =>
    X8 t h
  | .exit j =>
    bif Nat.beq j 0 then
      X8 t h
    else
      none
  | .ret =>
    some ((t 2), h)
  | .goto l => none
  | .panic ps => none
  | .outgrown => none
theorem Jk24_0_h1 (rc : Rec) (md : Md) (h0 : Heap) (X : Nat → T → Heap → Option (Value × Heap)) (e : Exit) (t : T) (h : Heap) : kAtG Try.prog cfg X rc md 106 (replS (bodyOf Try.prog 24) [([1, 1, 1, 1, 0, 1, 0], 1), ([1, 1, 1, 1, 1, 0, 1, 0], 2), ([1, 1, 1, 1, 1, 1, 0, 1, 0], 3), ([1, 1, 1, 1, 1, 1, 1, 0, 1, 0], 4), ([1, 1, 1, 1, 1, 1, 1], 5), ([1, 1, 1, 1, 1, 1], 6), ([1, 1, 1, 1, 1], 7), ([1, 1, 1], 8)]) [1, 1, 0, 1, 0] (retK Try.prog cfg 24 (rsOf Try.prog 24) h0) e t h = Jk24_0H rc md h0 (X 8) e t h := by cases e <;> kernel_rfl
theorem Jk24_0_h2 (rc : Rec) (md : Md) (h0 : Heap) (e : Exit) (t : T) (h : Heap) : Jk24_0H rc md h0 (fun t h => J24_1 rc md h0 (t 1) (t 2) (t 3) h) e t h = Jk24_0 rc md h0 e (t 1) (t 2) (t 3) (t 4) h := by cases e <;> (unfold Jk24_0H Jk24_0; kernel_rfl)
theorem Jk24_0_at (rc : Rec) (md : Md) (h0 : Heap) (e : Exit) (t : T) (h : Heap) : kAt Try.prog cfg rc md 106 (bodyOf Try.prog 24) [1, 1, 0, 1, 0] (retK Try.prog cfg 24 (rsOf Try.prog 24) h0) e t h = Jk24_0 rc md h0 e (t 1) (t 2) (t 3) (t 4) h := by
  rw [kAt_holes [([1, 1, 1, 1, 0, 1, 0], 1), ([1, 1, 1, 1, 1, 0, 1, 0], 2), ([1, 1, 1, 1, 1, 1, 0, 1, 0], 3), ([1, 1, 1, 1, 1, 1, 1, 0, 1, 0], 4), ([1, 1, 1, 1, 1, 1, 1], 5), ([1, 1, 1, 1, 1, 1], 6), ([1, 1, 1, 1, 1], 7), ([1, 1, 1], 8)] [1, 1, 0, 1, 0] (by kernel_rfl), Jk24_0_h1, show (goX Try.prog cfg rc md 106 (bodyOf Try.prog 24) [([1, 1, 1, 1, 0, 1, 0], 1), ([1, 1, 1, 1, 1, 0, 1, 0], 2), ([1, 1, 1, 1, 1, 1, 0, 1, 0], 3), ([1, 1, 1, 1, 1, 1, 1, 0, 1, 0], 4), ([1, 1, 1, 1, 1, 1, 1], 5), ([1, 1, 1, 1, 1, 1], 6), ([1, 1, 1, 1, 1], 7), ([1, 1, 1], 8)] (retK Try.prog cfg 24 (rsOf Try.prog 24) h0)) 8 = _ from J24_1_cut rc md h0]
  exact Jk24_0_h2 rc md h0 e t h
/-- a round -/
noncomputable def Jr24_0 (rc : Rec) (md : Md) (s1 : Value) (s2 : Value) (s3 : Value) (s4 : Value) (h : Heap) : Option (((Value × Value × Value × Value) × Heap) ⊕ (Exit × (Value × Value × Value × Value) × Heap)) :=
  fA 2 s1 fun v1 =>
  ld1 v1 h fun v2 =>
  cIn .i64 v2 fun n3 =>
  aBin Try.prog .leq 3 s4 (.int .i64 n3) fun v4 =>
  cBn v4 fun b5 =>
  bif b5 then
    aBuild Try.prog 32 [(0, (.int .i64 1)), (1, s4), (2, (.int .i64 0)), (3, (.int .i64 0))] fun v6 =>
    aBuildSlice Try.prog 28 1 [(0, v6)] h fun v7 h8 =>
    aBuiltin Try.prog md .append #[28, 28] [s3, v7] h8 fun v9 h10 =>
    aBin Try.prog .add 3 s4 (.int .i64 1) fun v11 =>
    some (.inl ((s1, s2, v9, v11), h10))
  else
    some (.inr ((.exit 0), (s1, s2, s3, s4), h))
theorem Jr24_0_at (rc : Rec) (md : Md) (t : T) (h : Heap) : exec Try.prog cfg rc md 106 (sub (bodyOf Try.prog 24) [1, 1, 0, 1, 0, 0]) (rndK (fun t => (t 1, t 2, t 3, t 4))) t h = Jr24_0 rc md (t 1) (t 2) (t 3) (t 4) h := by kernel_rfl
noncomputable def J24_0 (rc : Rec) (md : Md) (h0 : Heap) (s1 : Value) (s2 : Value) (s3 : Value) (s4 : Value) (h : Heap) : Option (Value × Heap) :=
  runL (fun x : (Value × Value × Value × Value) × Heap => Jr24_0 rc md x.1.1 x.1.2.1 x.1.2.2.1 x.1.2.2.2 x.2) (fun e (s : Value × Value × Value × Value) h => Jk24_0 rc md h0 e s.1 s.2.1 s.2.2.1 s.2.2.2 h) (s1, s2, s3, s4) h
theorem J24_0_step (rc : Rec) (md : Md) (h0 : Heap) (s1 : Value) (s2 : Value) (s3 : Value) (s4 : Value) (h : Heap) : J24_0 rc md h0 s1 s2 s3 s4 h = (Jr24_0 rc md s1 s2 s3 s4 h).bind fun x => match x with
    | .inl (s, h) => J24_0 rc md h0 s.1 s.2.1 s.2.2.1 s.2.2.2 h
    | .inr (e, s, h) => Jk24_0 rc md h0 e s.1 s.2.1 s.2.2.1 s.2.2.2 h := by
  unfold J24_0
  rw [runL_eq]
  refine congrArg (Option.bind _) (funext fun x => ?_)
  rcases x with ⟨s, h⟩ | ⟨e, s, h⟩ <;> rfl
theorem J24_0_cut (rc : Rec) (md : Md) (h0 : Heap) : cut Try.prog cfg rc md 106 (bodyOf Try.prog 24) [1, 1, 0, 1, 0] (retK Try.prog cfg 24 (rsOf Try.prog 24) h0) = fun t h => J24_0 rc md h0 (t 1) (t 2) (t 3) (t 4) h := by
  funext t h
  have e : sub (bodyOf Try.prog 24) [1, 1, 0, 1, 0] = .loop (sub (bodyOf Try.prog 24) [1, 1, 0, 1, 0, 0]) := by kernel_rfl
  unfold cut
  rw [e]
  exact loop_eq (by kernel_rfl) (fun t => (t 1, t 2, t 3, t 4)) (fun x : (Value × Value × Value × Value) × Heap => Jr24_0 rc md x.1.1 x.1.2.1 x.1.2.2.1 x.1.2.2.2 x.2) (fun t h => Jr24_0_at rc md t h) (fun e (s : Value × Value × Value × Value) h => Jk24_0 rc md h0 e s.1 s.2.1 s.2.2.1 s.2.2.2 h) (fun e t h => Jk24_0_at rc md h0 e t h) t h
noncomputable def F24 (rc : Rec) (md : Md) (a0_0 : Int) (a0_1 : Int) (a0_2 : Int) (h0 : Heap) : Option (Value × Heap) :=
  let h1 : Heap := h0 ++ [.own [(.int .i64 a0_0), (.int .i64 a0_1), (.int .i64 a0_2)]]
  J24_0 rc md h0 (.pointer (some ⟨h0.length, 0, none⟩)) (.slice none 0 0) (.slice none 0 0) (.int .i64 1) h1
noncomputable def F24H (rc : Rec) (md : Md) (X0 : T → Heap → Option (Value × Heap)) (a0_0 : Int) (a0_1 : Int) (a0_2 : Int) (h0 : Heap) : Option (Value × Heap) :=
  let h1 : Heap := h0 ++ [.own [(.int .i64 a0_0), (.int .i64 a0_1), (.int .i64 a0_2)]]
  X0 (upd (upd (upd (upd (args0 [(.agg #[(.int .i64 a0_0), (.int .i64 a0_1), (.int .i64 a0_2)])]) 1 (.pointer (some ⟨h0.length, 0, none⟩))) 2 (.slice none 0 0)) 3 (.slice none 0 0)) 4 (.int .i64 1)) h1
theorem F24_h0 (rc : Rec) (md : Md) (a0_0 : Int) (a0_1 : Int) (a0_2 : Int) (h0 : Heap) : callStep0 Try.prog cfg rc md 24 [(.agg #[(.int .i64 a0_0), (.int .i64 a0_1), (.int .i64 a0_2)])] h0 = exec Try.prog cfg rc md 106 (bodyOf Try.prog 24) (retK Try.prog cfg 24 (rsOf Try.prog 24) h0) (args0 [(.agg #[(.int .i64 a0_0), (.int .i64 a0_1), (.int .i64 a0_2)])]) h0 := callStep0_run (by kernel_rfl) (by kernel_rfl) (by kernel_rfl)
theorem F24_h1 (rc : Rec) (md : Md) (X : Nat → T → Heap → Option (Value × Heap)) (a0_0 : Int) (a0_1 : Int) (a0_2 : Int) (h0 : Heap) : execG Try.prog cfg X rc md 106 (replS (bodyOf Try.prog 24) [([1, 1, 0, 1, 0], 0), ([1, 1, 1, 1, 0, 1, 0], 1), ([1, 1, 1, 1, 1, 0, 1, 0], 2), ([1, 1, 1, 1, 1, 1, 0, 1, 0], 3), ([1, 1, 1, 1, 1, 1, 1, 0, 1, 0], 4), ([1, 1, 1, 1, 1, 1, 1], 5), ([1, 1, 1, 1, 1, 1], 6), ([1, 1, 1, 1, 1], 7), ([1, 1, 1], 8)]) (retK Try.prog cfg 24 (rsOf Try.prog 24) h0) (args0 [(.agg #[(.int .i64 a0_0), (.int .i64 a0_1), (.int .i64 a0_2)])]) h0 = F24H rc md (X 0) a0_0 a0_1 a0_2 h0 := by kernel_rfl
theorem F24_h2 (rc : Rec) (md : Md) (a0_0 : Int) (a0_1 : Int) (a0_2 : Int) (h0 : Heap) : F24H rc md (fun t h => J24_0 rc md h0 (t 1) (t 2) (t 3) (t 4) h) a0_0 a0_1 a0_2 h0 = F24 rc md a0_0 a0_1 a0_2 h0 := by unfold F24H F24; kernel_rfl
theorem F24_eq0 (rc : Rec) (md : Md) (a0_0 : Int) (a0_1 : Int) (a0_2 : Int) (h0 : Heap) : callStep0 Try.prog cfg rc md 24 [(.agg #[(.int .i64 a0_0), (.int .i64 a0_1), (.int .i64 a0_2)])] h0 = F24 rc md a0_0 a0_1 a0_2 h0 := by
  rw [F24_h0, exec_holes [([1, 1, 0, 1, 0], 0), ([1, 1, 1, 1, 0, 1, 0], 1), ([1, 1, 1, 1, 1, 0, 1, 0], 2), ([1, 1, 1, 1, 1, 1, 0, 1, 0], 3), ([1, 1, 1, 1, 1, 1, 1, 0, 1, 0], 4), ([1, 1, 1, 1, 1, 1, 1], 5), ([1, 1, 1, 1, 1, 1], 6), ([1, 1, 1, 1, 1], 7), ([1, 1, 1], 8)] (by kernel_rfl), F24_h1, show (goX Try.prog cfg rc md 106 (bodyOf Try.prog 24) [([1, 1, 0, 1, 0], 0), ([1, 1, 1, 1, 0, 1, 0], 1), ([1, 1, 1, 1, 1, 0, 1, 0], 2), ([1, 1, 1, 1, 1, 1, 0, 1, 0], 3), ([1, 1, 1, 1, 1, 1, 1, 0, 1, 0], 4), ([1, 1, 1, 1, 1, 1, 1], 5), ([1, 1, 1, 1, 1, 1], 6), ([1, 1, 1, 1, 1], 7), ([1, 1, 1], 8)] (retK Try.prog cfg 24 (rsOf Try.prog 24) h0)) 0 = _ from J24_0_cut rc md h0]
  exact F24_h2 rc _ a0_0 a0_1 a0_2 h0
theorem F24_eq (rc : Rec) (md : Md) (a0_0 : Int) (a0_1 : Int) (a0_2 : Int) (h0 : Heap) : callStep Try.prog cfg rc md 24 [(.agg #[(.int .i64 a0_0), (.int .i64 a0_1), (.int .i64 a0_2)])] h0 = F24 rc md a0_0 a0_1 a0_2 h0 := (callStep_ne (by kernel_rfl)).trans (F24_eq0 rc md a0_0 a0_1 a0_2 h0)

/-- (tombolo/lay.Lay).State -/
noncomputable def F25 (rc : Rec) (md : Md) (a0_0 : Int) (a0_1 : Int) (a0_2 : Int) (a1 : Int) (h0 : Heap) : Option (Value × Heap) :=
  let h1 : Heap := h0 ++ [.own [(.int .i64 a0_0), (.int .i64 a0_1), (.int .i64 a0_2)]]
  ld1 (.pointer (some ⟨h0.length, 2, none⟩)) h1 fun v2 =>
  cIn .i64 v2 fun n3 =>
  cl (rc md 51 [(.int .i64 (IntKind.wrap .i64 (a1 - 1))), (.int .i64 n3)] h1) fun v4 h5 =>
  cBn v4 fun b6 =>
  bif !b6 then
    some ((.int .i64 (-1)), h0)
  else
    some ((.int .i64 (IntKind.wrap .i64 (a1 - 1))), h0)
theorem F25_eq0 (rc : Rec) (md : Md) (a0_0 : Int) (a0_1 : Int) (a0_2 : Int) (a1 : Int) (h0 : Heap) : callStep0 Try.prog cfg rc md 25 [(.agg #[(.int .i64 a0_0), (.int .i64 a0_1), (.int .i64 a0_2)]), (.int .i64 a1)] h0 = F25 rc ⟨h0.length, h0.length⟩ a0_0 a0_1 a0_2 a1 h0 := by kernel_rfl
theorem F25_eq (rc : Rec) (md : Md) (a0_0 : Int) (a0_1 : Int) (a0_2 : Int) (a1 : Int) (h0 : Heap) : callStep Try.prog cfg rc md 25 [(.agg #[(.int .i64 a0_0), (.int .i64 a0_1), (.int .i64 a0_2)]), (.int .i64 a1)] h0 = alone h0 (F25 rc ⟨0, 0⟩ a0_0 a0_1 a0_2 a1 []) := by
  have e : callStep Try.prog cfg rc md 25 [(.agg #[(.int .i64 a0_0), (.int .i64 a0_1), (.int .i64 a0_2)]), (.int .i64 a1)] h0 = alone h0 (callStep0 Try.prog cfg rc ⟨0, 0⟩ 25 [(.agg #[(.int .i64 a0_0), (.int .i64 a0_1), (.int .i64 a0_2)]), (.int .i64 a1)] []) := by kernel_rfl
  rw [e, F25_eq0]; rfl

/-- (tombolo/lay.Lay).Free -/
noncomputable def F26 (rc : Rec) (md : Md) (a0_0 : Int) (a0_1 : Int) (a0_2 : Int) (h0 : Heap) : Option (Value × Heap) :=
  let h1 : Heap := h0 ++ [.own [(.int .i64 a0_0), (.int .i64 a0_1), (.int .i64 a0_2)]]
  ld1 (.pointer (some ⟨h0.length, 2, none⟩)) h1 fun v2 =>
  cIn .i64 v2 fun n3 =>
  some ((.int .i64 n3), h0)
theorem F26_eq0 (rc : Rec) (md : Md) (a0_0 : Int) (a0_1 : Int) (a0_2 : Int) (h0 : Heap) : callStep0 Try.prog cfg rc md 26 [(.agg #[(.int .i64 a0_0), (.int .i64 a0_1), (.int .i64 a0_2)])] h0 = F26 rc ⟨h0.length, h0.length⟩ a0_0 a0_1 a0_2 h0 := by kernel_rfl
theorem F26_eq (rc : Rec) (md : Md) (a0_0 : Int) (a0_1 : Int) (a0_2 : Int) (h0 : Heap) : callStep Try.prog cfg rc md 26 [(.agg #[(.int .i64 a0_0), (.int .i64 a0_1), (.int .i64 a0_2)])] h0 = alone h0 (F26 rc ⟨0, 0⟩ a0_0 a0_1 a0_2 []) := by
  have e : callStep Try.prog cfg rc md 26 [(.agg #[(.int .i64 a0_0), (.int .i64 a0_1), (.int .i64 a0_2)])] h0 = alone h0 (callStep0 Try.prog cfg rc ⟨0, 0⟩ 26 [(.agg #[(.int .i64 a0_0), (.int .i64 a0_1), (.int .i64 a0_2)])] []) := by kernel_rfl
  rw [e, F26_eq0]; rfl

/-- (tombolo/lay.Lay).NextFree -/
noncomputable def F27 (rc : Rec) (md : Md) (a0_0 : Int) (a0_1 : Int) (a0_2 : Int) (a1 : Int) (h0 : Heap) : Option (Value × Heap) :=
  let h1 : Heap := h0 ++ [.own [(.int .i64 a0_0), (.int .i64 a0_1), (.int .i64 a0_2)]]
  ldN 3 (.pointer (some ⟨h0.length, 0, none⟩)) h1 fun v2 =>
  cl (rc md 55 [v2, (.int .i64 a1), (.int .i64 0)] h1) fun v3 h4 =>
  cIn .i64 v3 fun n5 =>
  some ((.int .i64 n5), h0)
theorem F27_eq0 (rc : Rec) (md : Md) (a0_0 : Int) (a0_1 : Int) (a0_2 : Int) (a1 : Int) (h0 : Heap) : callStep0 Try.prog cfg rc md 27 [(.agg #[(.int .i64 a0_0), (.int .i64 a0_1), (.int .i64 a0_2)]), (.int .i64 a1)] h0 = F27 rc ⟨h0.length, h0.length⟩ a0_0 a0_1 a0_2 a1 h0 := by kernel_rfl
theorem F27_eq (rc : Rec) (md : Md) (a0_0 : Int) (a0_1 : Int) (a0_2 : Int) (a1 : Int) (h0 : Heap) : callStep Try.prog cfg rc md 27 [(.agg #[(.int .i64 a0_0), (.int .i64 a0_1), (.int .i64 a0_2)]), (.int .i64 a1)] h0 = alone h0 (F27 rc ⟨0, 0⟩ a0_0 a0_1 a0_2 a1 []) := by
  have e : callStep Try.prog cfg rc md 27 [(.agg #[(.int .i64 a0_0), (.int .i64 a0_1), (.int .i64 a0_2)]), (.int .i64 a1)] h0 = alone h0 (callStep0 Try.prog cfg rc ⟨0, 0⟩ 27 [(.agg #[(.int .i64 a0_0), (.int .i64 a0_1), (.int .i64 a0_2)]), (.int .i64 a1)] []) := by kernel_rfl
  rw [e, F27_eq0]; rfl

/-- (tombolo/lay.Lay).Ends -/
noncomputable def F28 (rc : Rec) (md : Md) (a0_0 : Int) (a0_1 : Int) (a0_2 : Int) (a1 : Int) (h0 : Heap) : Option (Value × Heap) :=
  let h1 : Heap := h0 ++ [.own [(.int .i64 a0_0), (.int .i64 a0_1), (.int .i64 a0_2)]]
  ldN 3 (.pointer (some ⟨h0.length, 0, none⟩)) h1 fun v2 =>
  cl (rc md 55 [v2, (.int .i64 a1), (.int .i64 1)] h1) fun v3 h4 =>
  cIn .i64 v3 fun n5 =>
  some ((.int .i64 n5), h0)
theorem F28_eq0 (rc : Rec) (md : Md) (a0_0 : Int) (a0_1 : Int) (a0_2 : Int) (a1 : Int) (h0 : Heap) : callStep0 Try.prog cfg rc md 28 [(.agg #[(.int .i64 a0_0), (.int .i64 a0_1), (.int .i64 a0_2)]), (.int .i64 a1)] h0 = F28 rc ⟨h0.length, h0.length⟩ a0_0 a0_1 a0_2 a1 h0 := by kernel_rfl
theorem F28_eq (rc : Rec) (md : Md) (a0_0 : Int) (a0_1 : Int) (a0_2 : Int) (a1 : Int) (h0 : Heap) : callStep Try.prog cfg rc md 28 [(.agg #[(.int .i64 a0_0), (.int .i64 a0_1), (.int .i64 a0_2)]), (.int .i64 a1)] h0 = alone h0 (F28 rc ⟨0, 0⟩ a0_0 a0_1 a0_2 a1 []) := by
  have e : callStep Try.prog cfg rc md 28 [(.agg #[(.int .i64 a0_0), (.int .i64 a0_1), (.int .i64 a0_2)]), (.int .i64 a1)] h0 = alone h0 (callStep0 Try.prog cfg rc ⟨0, 0⟩ 28 [(.agg #[(.int .i64 a0_0), (.int .i64 a0_1), (.int .i64 a0_2)]), (.int .i64 a1)] []) := by kernel_rfl
  rw [e, F28_eq0]; rfl

/-- (tombolo/lay.Lay).Level -/
noncomputable def F29 (rc : Rec) (md : Md) (a0_0 : Int) (a0_1 : Int) (a0_2 : Int) (a1 : Int) (h0 : Heap) : Option (Value × Heap) :=
  let h1 : Heap := h0 ++ [.own [(.int .i64 a0_0), (.int .i64 a0_1), (.int .i64 a0_2)]]
  ldN 3 (.pointer (some ⟨h0.length, 0, none⟩)) h1 fun v2 =>
  cl (rc md 55 [v2, (.int .i64 a1), (.int .i64 2)] h1) fun v3 h4 =>
  cIn .i64 v3 fun n5 =>
  some ((.int .i64 n5), h0)
theorem F29_eq0 (rc : Rec) (md : Md) (a0_0 : Int) (a0_1 : Int) (a0_2 : Int) (a1 : Int) (h0 : Heap) : callStep0 Try.prog cfg rc md 29 [(.agg #[(.int .i64 a0_0), (.int .i64 a0_1), (.int .i64 a0_2)]), (.int .i64 a1)] h0 = F29 rc ⟨h0.length, h0.length⟩ a0_0 a0_1 a0_2 a1 h0 := by kernel_rfl
theorem F29_eq (rc : Rec) (md : Md) (a0_0 : Int) (a0_1 : Int) (a0_2 : Int) (a1 : Int) (h0 : Heap) : callStep Try.prog cfg rc md 29 [(.agg #[(.int .i64 a0_0), (.int .i64 a0_1), (.int .i64 a0_2)]), (.int .i64 a1)] h0 = alone h0 (F29 rc ⟨0, 0⟩ a0_0 a0_1 a0_2 a1 []) := by
  have e : callStep Try.prog cfg rc md 29 [(.agg #[(.int .i64 a0_0), (.int .i64 a0_1), (.int .i64 a0_2)]), (.int .i64 a1)] h0 = alone h0 (callStep0 Try.prog cfg rc ⟨0, 0⟩ 29 [(.agg #[(.int .i64 a0_0), (.int .i64 a0_1), (.int .i64 a0_2)]), (.int .i64 a1)] []) := by kernel_rfl
  rw [e, F29_eq0]; rfl

/-- (tombolo/lay.Lay).Next -/
noncomputable def F30 (rc : Rec) (md : Md) (a0_0 : Int) (a0_1 : Int) (a0_2 : Int) (a1 : Int) (a2 : Int) (h0 : Heap) : Option (Value × Heap) :=
  let h1 : Heap := h0 ++ [.own [(.int .i64 a0_0), (.int .i64 a0_1), (.int .i64 a0_2)]]
  cl (rc md 51 [(.int .i64 a2), (.int .i64 2)] h1) fun v2 h3 =>
  cBn v2 fun b4 =>
  bif !b4 then
    some ((.int .i64 (-1)), h0)
  else
    ldN 3 (.pointer (some ⟨h0.length, 0, none⟩)) h3 fun v5 =>
    cl (rc md 55 [v5, (.int .i64 a1), (.int .i64 (IntKind.wrap .i64 (3 + a2)))] h3) fun v6 h7 =>
    cIn .i64 v6 fun n8 =>
    some ((.int .i64 n8), h0)
theorem F30_eq0 (rc : Rec) (md : Md) (a0_0 : Int) (a0_1 : Int) (a0_2 : Int) (a1 : Int) (a2 : Int) (h0 : Heap) : callStep0 Try.prog cfg rc md 30 [(.agg #[(.int .i64 a0_0), (.int .i64 a0_1), (.int .i64 a0_2)]), (.int .i64 a1), (.int .i64 a2)] h0 = F30 rc ⟨h0.length, h0.length⟩ a0_0 a0_1 a0_2 a1 a2 h0 := by kernel_rfl
theorem F30_eq (rc : Rec) (md : Md) (a0_0 : Int) (a0_1 : Int) (a0_2 : Int) (a1 : Int) (a2 : Int) (h0 : Heap) : callStep Try.prog cfg rc md 30 [(.agg #[(.int .i64 a0_0), (.int .i64 a0_1), (.int .i64 a0_2)]), (.int .i64 a1), (.int .i64 a2)] h0 = alone h0 (F30 rc ⟨0, 0⟩ a0_0 a0_1 a0_2 a1 a2 []) := by
  have e : callStep Try.prog cfg rc md 30 [(.agg #[(.int .i64 a0_0), (.int .i64 a0_1), (.int .i64 a0_2)]), (.int .i64 a1), (.int .i64 a2)] h0 = alone h0 (callStep0 Try.prog cfg rc ⟨0, 0⟩ 30 [(.agg #[(.int .i64 a0_0), (.int .i64 a0_1), (.int .i64 a0_2)]), (.int .i64 a1), (.int .i64 a2)] []) := by kernel_rfl
  rw [e, F30_eq0]; rfl

/-- (tombolo/lay.Lay).Prev -/
noncomputable def F31 (rc : Rec) (md : Md) (a0_0 : Int) (a0_1 : Int) (a0_2 : Int) (a1 : Int) (a2 : Int) (h0 : Heap) : Option (Value × Heap) :=
  let h1 : Heap := h0 ++ [.own [(.int .i64 a0_0), (.int .i64 a0_1), (.int .i64 a0_2)]]
  cl (rc md 51 [(.int .i64 a2), (.int .i64 2)] h1) fun v2 h3 =>
  cBn v2 fun b4 =>
  bif !b4 then
    some ((.int .i64 (-1)), h0)
  else
    ldN 3 (.pointer (some ⟨h0.length, 0, none⟩)) h3 fun v5 =>
    cl (rc md 55 [v5, (.int .i64 a1), (.int .i64 (IntKind.wrap .i64 (5 + a2)))] h3) fun v6 h7 =>
    cIn .i64 v6 fun n8 =>
    some ((.int .i64 n8), h0)
theorem F31_eq0 (rc : Rec) (md : Md) (a0_0 : Int) (a0_1 : Int) (a0_2 : Int) (a1 : Int) (a2 : Int) (h0 : Heap) : callStep0 Try.prog cfg rc md 31 [(.agg #[(.int .i64 a0_0), (.int .i64 a0_1), (.int .i64 a0_2)]), (.int .i64 a1), (.int .i64 a2)] h0 = F31 rc ⟨h0.length, h0.length⟩ a0_0 a0_1 a0_2 a1 a2 h0 := by kernel_rfl
theorem F31_eq (rc : Rec) (md : Md) (a0_0 : Int) (a0_1 : Int) (a0_2 : Int) (a1 : Int) (a2 : Int) (h0 : Heap) : callStep Try.prog cfg rc md 31 [(.agg #[(.int .i64 a0_0), (.int .i64 a0_1), (.int .i64 a0_2)]), (.int .i64 a1), (.int .i64 a2)] h0 = alone h0 (F31 rc ⟨0, 0⟩ a0_0 a0_1 a0_2 a1 a2 []) := by
  have e : callStep Try.prog cfg rc md 31 [(.agg #[(.int .i64 a0_0), (.int .i64 a0_1), (.int .i64 a0_2)]), (.int .i64 a1), (.int .i64 a2)] h0 = alone h0 (callStep0 Try.prog cfg rc ⟨0, 0⟩ 31 [(.agg #[(.int .i64 a0_0), (.int .i64 a0_1), (.int .i64 a0_2)]), (.int .i64 a1), (.int .i64 a2)] []) := by kernel_rfl
  rw [e, F31_eq0]; rfl

/-- (tombolo/lay.Lay).Head -/
noncomputable def F32 (rc : Rec) (md : Md) (a0_0 : Int) (a0_1 : Int) (a0_2 : Int) (a1 : Int) (a2 : Int) (h0 : Heap) : Option (Value × Heap) :=
  let h1 : Heap := h0 ++ [.own [(.int .i64 a0_0), (.int .i64 a0_1), (.int .i64 a0_2)]]
  ld1 (.pointer (some ⟨h0.length, 0, none⟩)) h1 fun v2 =>
  cIn .i64 v2 fun n3 =>
  cl (rc md 51 [(.int .i64 a1), (.int .i64 n3)] h1) fun v4 h5 =>
  cBn v4 fun b6 =>
  (bif wantV (.bool (!b6)) false then
  some ((.int .i64 a2), h5)
  else some (undef, h5)).bind fun p7 =>
  (bif wantV (.bool (!b6)) false then
  ldN 3 (.pointer (some ⟨h0.length, 0, none⟩)) p7.2 fun v8 =>
  some (v8, p7.2)
  else some (undef, p7.2)).bind fun p9 =>
  (bif wantV (.bool (!b6)) false then
  cl (rc md 17 [p9.1] p9.2) fun v10 h11 =>
  cIn .i64 v10 fun n12 =>
  some ((.int .i64 n12), h11)
  else some (undef, p9.2)).bind fun p13 =>
  (bif wantV (.bool (!b6)) false then
  cl (rc md 51 [p7.1, p13.1] p13.2) fun v14 h15 =>
  cBn v14 fun b16 =>
  some ((.bool b16), h15)
  else some (undef, p13.2)).bind fun p17 =>
  (bif wantV (.bool (!b6)) false then
  aUn .not p17.1 fun v18 =>
  some (v18, p17.2)
  else some (undef, p17.2)).bind fun p19 =>
  cBn (bif !b6 then (.bool true) else p19.1) fun b20 =>
  bif b20 then
    some ((.int .i64 (-1)), h0)
  else
    ldN 3 (.pointer (some ⟨h0.length, 0, none⟩)) p19.2 fun v21 =>
    cl (rc md 56 [v21] p19.2) fun v22 h23 =>
    cIn .i64 v22 fun n24 =>
    ldN 3 (.pointer (some ⟨h0.length, 0, none⟩)) h23 fun v25 =>
    cl (rc md 17 [v25] h23) fun v26 h27 =>
    cIn .i64 v26 fun n28 =>
    some ((.int .i64 (IntKind.wrap .i64 ((IntKind.wrap .i64 (n24 + (IntKind.wrap .i64 (a1 * n28)))) + a2))), h0)
theorem F32_eq0 (rc : Rec) (md : Md) (a0_0 : Int) (a0_1 : Int) (a0_2 : Int) (a1 : Int) (a2 : Int) (h0 : Heap) : callStep0 Try.prog cfg rc md 32 [(.agg #[(.int .i64 a0_0), (.int .i64 a0_1), (.int .i64 a0_2)]), (.int .i64 a1), (.int .i64 a2)] h0 = F32 rc ⟨h0.length, h0.length⟩ a0_0 a0_1 a0_2 a1 a2 h0 := by kernel_rfl
theorem F32_eq (rc : Rec) (md : Md) (a0_0 : Int) (a0_1 : Int) (a0_2 : Int) (a1 : Int) (a2 : Int) (h0 : Heap) : callStep Try.prog cfg rc md 32 [(.agg #[(.int .i64 a0_0), (.int .i64 a0_1), (.int .i64 a0_2)]), (.int .i64 a1), (.int .i64 a2)] h0 = alone h0 (F32 rc ⟨0, 0⟩ a0_0 a0_1 a0_2 a1 a2 []) := by
  have e : callStep Try.prog cfg rc md 32 [(.agg #[(.int .i64 a0_0), (.int .i64 a0_1), (.int .i64 a0_2)]), (.int .i64 a1), (.int .i64 a2)] h0 = alone h0 (callStep0 Try.prog cfg rc ⟨0, 0⟩ 32 [(.agg #[(.int .i64 a0_0), (.int .i64 a0_1), (.int .i64 a0_2)]), (.int .i64 a1), (.int .i64 a2)] []) := by kernel_rfl
  rw [e, F32_eq0]; rfl

/-- (tombolo/lay.Lay).Edge -/
noncomputable def F33 (rc : Rec) (md : Md) (a0_0 : Int) (a0_1 : Int) (a0_2 : Int) (a1 : Int) (a2 : Int) (h0 : Heap) : Option (Value × Heap) :=
  let h1 : Heap := h0 ++ [.own [(.int .i64 a0_0), (.int .i64 a0_1), (.int .i64 a0_2)]]
  (bif wantV (.bool ((if a2 < a1 then a2 else a1) == (if a2 > a1 then a2 else a1))) false then
  some ((.int .i64 (if a2 < a1 then a2 else a1)), h1)
  else some (undef, h1)).bind fun p2 =>
  (bif wantV (.bool ((if a2 < a1 then a2 else a1) == (if a2 > a1 then a2 else a1))) false then
  some ((.pointer (some ⟨h0.length, 0, none⟩)), p2.2)
  else some (undef, p2.2)).bind fun p3 =>
  (bif wantV (.bool ((if a2 < a1 then a2 else a1) == (if a2 > a1 then a2 else a1))) false then
  ld1 p3.1 p3.2 fun v4 =>
  cIn .i64 v4 fun n5 =>
  some ((.int .i64 n5), p3.2)
  else some (undef, p3.2)).bind fun p6 =>
  (bif wantV (.bool ((if a2 < a1 then a2 else a1) == (if a2 > a1 then a2 else a1))) false then
  cl (rc md 51 [p2.1, p6.1] p6.2) fun v7 h8 =>
  cBn v7 fun b9 =>
  some ((.bool b9), h8)
  else some (undef, p6.2)).bind fun p10 =>
  (bif wantV (.bool ((if a2 < a1 then a2 else a1) == (if a2 > a1 then a2 else a1))) false then
  aUn .not p10.1 fun v11 =>
  some (v11, p10.2)
  else some (undef, p10.2)).bind fun p12 =>
  cBn (bif ((if a2 < a1 then a2 else a1) == (if a2 > a1 then a2 else a1)) then (.bool true) else p12.1) fun b13 =>
  (bif wantV (.bool b13) false then
  some ((.int .i64 (if a2 > a1 then a2 else a1)), p12.2)
  else some (undef, p12.2)).bind fun p14 =>
  (bif wantV (.bool b13) false then
  some ((.pointer (some ⟨h0.length, 0, none⟩)), p14.2)
  else some (undef, p14.2)).bind fun p15 =>
  (bif wantV (.bool b13) false then
  ld1 p15.1 p15.2 fun v16 =>
  cIn .i64 v16 fun n17 =>
  some ((.int .i64 n17), p15.2)
  else some (undef, p15.2)).bind fun p18 =>
  (bif wantV (.bool b13) false then
  cl (rc md 51 [p14.1, p18.1] p18.2) fun v19 h20 =>
  cBn v19 fun b21 =>
  some ((.bool b21), h20)
  else some (undef, p18.2)).bind fun p22 =>
  (bif wantV (.bool b13) false then
  aUn .not p22.1 fun v23 =>
  some (v23, p22.2)
  else some (undef, p22.2)).bind fun p24 =>
  cBn (bif b13 then (.bool true) else p24.1) fun b25 =>
  bif b25 then
    some ((.int .i64 (-1)), h0)
  else
    ldN 3 (.pointer (some ⟨h0.length, 0, none⟩)) p24.2 fun v26 =>
    cl (rc md 57 [v26] p24.2) fun v27 h28 =>
    cIn .i64 v27 fun n29 =>
    ld1 (.pointer (some ⟨h0.length, 0, none⟩)) h28 fun v30 =>
    cIn .i64 v30 fun n31 =>
    some ((.int .i64 (IntKind.wrap .i64 ((IntKind.wrap .i64 ((IntKind.wrap .i64 ((IntKind.wrap .i64 (n29 + (IntKind.wrap .i64 (Int.tdiv (IntKind.wrap .i64 ((if a2 < a1 then a2 else a1) * (IntKind.wrap .i64 ((IntKind.wrap .i64 ((IntKind.wrap .i64 (2 * n31)) - (if a2 < a1 then a2 else a1))) - 1)))) 2)))) + (if a2 > a1 then a2 else a1))) - (if a2 < a1 then a2 else a1))) - 1))), h0)
theorem F33_eq0 (rc : Rec) (md : Md) (a0_0 : Int) (a0_1 : Int) (a0_2 : Int) (a1 : Int) (a2 : Int) (h0 : Heap) : callStep0 Try.prog cfg rc md 33 [(.agg #[(.int .i64 a0_0), (.int .i64 a0_1), (.int .i64 a0_2)]), (.int .i64 a1), (.int .i64 a2)] h0 = F33 rc ⟨h0.length, h0.length⟩ a0_0 a0_1 a0_2 a1 a2 h0 := by kernel_rfl
theorem F33_eq (rc : Rec) (md : Md) (a0_0 : Int) (a0_1 : Int) (a0_2 : Int) (a1 : Int) (a2 : Int) (h0 : Heap) : callStep Try.prog cfg rc md 33 [(.agg #[(.int .i64 a0_0), (.int .i64 a0_1), (.int .i64 a0_2)]), (.int .i64 a1), (.int .i64 a2)] h0 = alone h0 (F33 rc ⟨0, 0⟩ a0_0 a0_1 a0_2 a1 a2 []) := by
  have e : callStep Try.prog cfg rc md 33 [(.agg #[(.int .i64 a0_0), (.int .i64 a0_1), (.int .i64 a0_2)]), (.int .i64 a1), (.int .i64 a2)] h0 = alone h0 (callStep0 Try.prog cfg rc ⟨0, 0⟩ 33 [(.agg #[(.int .i64 a0_0), (.int .i64 a0_1), (.int .i64 a0_2)]), (.int .i64 a1), (.int .i64 a2)] []) := by kernel_rfl
  rw [e, F33_eq0]; rfl

/-- (tombolo/lay.Lay).Field -/
noncomputable def F34 (rc : Rec) (md : Md) (a0_0 : Int) (a0_1 : Int) (a0_2 : Int) (a1 : Int) (a2 : Int) (h0 : Heap) : Option (Value × Heap) :=
  let h1 : Heap := h0 ++ [.own [(.int .i64 a0_0), (.int .i64 a0_1), (.int .i64 a0_2)]]
  ldN 3 (.pointer (some ⟨h0.length, 0, none⟩)) h1 fun v2 =>
  cl (rc md 19 [v2] h1) fun v3 h4 =>
  cIn .i64 v3 fun n5 =>
  cl (rc md 51 [(.int .i64 (IntKind.wrap .i64 (a1 - 1))), (.int .i64 n5)] h4) fun v6 h7 =>
  cBn v6 fun b8 =>
  (bif wantV (.bool (!b8)) false then
  some ((.int .i64 a2), h7)
  else some (undef, h7)).bind fun p9 =>
  (bif wantV (.bool (!b8)) false then
  cl (rc md 51 [p9.1, (.int .i64 7)] p9.2) fun v10 h11 =>
  cBn v10 fun b12 =>
  some ((.bool b12), h11)
  else some (undef, p9.2)).bind fun p13 =>
  (bif wantV (.bool (!b8)) false then
  aUn .not p13.1 fun v14 =>
  some (v14, p13.2)
  else some (undef, p13.2)).bind fun p15 =>
  cBn (bif !b8 then (.bool true) else p15.1) fun b16 =>
  bif b16 then
    some ((.int .i64 (-1)), h0)
  else
    ldN 3 (.pointer (some ⟨h0.length, 0, none⟩)) p15.2 fun v17 =>
    cl (rc md 54 [v17] p15.2) fun v18 h19 =>
    cIn .i64 v18 fun n20 =>
    some ((.int .i64 (IntKind.wrap .i64 ((IntKind.wrap .i64 (n20 + (IntKind.wrap .i64 ((IntKind.wrap .i64 (a1 - 1)) * 7)))) + a2))), h0)
theorem F34_eq0 (rc : Rec) (md : Md) (a0_0 : Int) (a0_1 : Int) (a0_2 : Int) (a1 : Int) (a2 : Int) (h0 : Heap) : callStep0 Try.prog cfg rc md 34 [(.agg #[(.int .i64 a0_0), (.int .i64 a0_1), (.int .i64 a0_2)]), (.int .i64 a1), (.int .i64 a2)] h0 = F34 rc ⟨h0.length, h0.length⟩ a0_0 a0_1 a0_2 a1 a2 h0 := by kernel_rfl
theorem F34_eq (rc : Rec) (md : Md) (a0_0 : Int) (a0_1 : Int) (a0_2 : Int) (a1 : Int) (a2 : Int) (h0 : Heap) : callStep Try.prog cfg rc md 34 [(.agg #[(.int .i64 a0_0), (.int .i64 a0_1), (.int .i64 a0_2)]), (.int .i64 a1), (.int .i64 a2)] h0 = alone h0 (F34 rc ⟨0, 0⟩ a0_0 a0_1 a0_2 a1 a2 []) := by
  have e : callStep Try.prog cfg rc md 34 [(.agg #[(.int .i64 a0_0), (.int .i64 a0_1), (.int .i64 a0_2)]), (.int .i64 a1), (.int .i64 a2)] h0 = alone h0 (callStep0 Try.prog cfg rc ⟨0, 0⟩ 34 [(.agg #[(.int .i64 a0_0), (.int .i64 a0_1), (.int .i64 a0_2)]), (.int .i64 a1), (.int .i64 a2)] []) := by kernel_rfl
  rw [e, F34_eq0]; rfl

/-- tombolo/tombololaw05.LayNowhere$1 -/
noncomputable def F35 (rc : Rec) (md : Md) (a0 : Int) (c0 : Value) (h0 : Heap) : Option (Value × Heap) :=
  (bif wantV (.bool (decide (a0 ≥ 0))) true then
  some ((.int .i64 a0), h0)
  else some (undef, h0)).bind fun p1 =>
  (bif wantV (.bool (decide (a0 ≥ 0))) true then
  fA 0 c0 fun v2 =>
  some (v2, p1.2)
  else some (undef, p1.2)).bind fun p3 =>
  (bif wantV (.bool (decide (a0 ≥ 0))) true then
  ld1 p3.1 p3.2 fun v4 =>
  cIn .i64 v4 fun n5 =>
  some ((.int .i64 n5), p3.2)
  else some (undef, p3.2)).bind fun p6 =>
  (bif wantV (.bool (decide (a0 ≥ 0))) true then
  aBin Try.prog .lss 3 p1.1 p6.1 fun v7 =>
  some (v7, p6.2)
  else some (undef, p6.2)).bind fun p8 =>
  cBn (bif (decide (a0 ≥ 0)) then p8.1 else (.bool false)) fun b9 =>
  some ((.bool b9), h0)
theorem F35_eq0 (rc : Rec) (md : Md) (a0 : Int) (c0 : Value) (h0 : Heap) : callStep0 Try.prog cfg rc md 35 [(.int .i64 a0), c0] h0 = F35 rc ⟨h0.length, h0.length⟩ a0 c0 h0 := by kernel_rfl
theorem F35_eq (rc : Rec) (md : Md) (a0 : Int) (c0 : Value) (h0 : Heap) : callStep Try.prog cfg rc md 35 [(.int .i64 a0), c0] h0 = F35 rc ⟨h0.length, h0.length⟩ a0 c0 h0 := (callStep_ne (by kernel_rfl)).trans (F35_eq0 rc md a0 c0 h0)

/-- tombolo/tombololaw05.LayNowhere$2 -/
noncomputable def F36 (rc : Rec) (md : Md) (a0 : Int) (c0 : Value) (h0 : Heap) : Option (Value × Heap) :=
  (bif wantV (.bool (decide (a0 ≥ 0))) true then
  some ((.int .i64 a0), h0)
  else some (undef, h0)).bind fun p1 =>
  (bif wantV (.bool (decide (a0 ≥ 0))) true then
  fA 1 c0 fun v2 =>
  some (v2, p1.2)
  else some (undef, p1.2)).bind fun p3 =>
  (bif wantV (.bool (decide (a0 ≥ 0))) true then
  ld1 p3.1 p3.2 fun v4 =>
  cIn .i64 v4 fun n5 =>
  some ((.int .i64 n5), p3.2)
  else some (undef, p3.2)).bind fun p6 =>
  (bif wantV (.bool (decide (a0 ≥ 0))) true then
  aBin Try.prog .lss 3 p1.1 p6.1 fun v7 =>
  some (v7, p6.2)
  else some (undef, p6.2)).bind fun p8 =>
  cBn (bif (decide (a0 ≥ 0)) then p8.1 else (.bool false)) fun b9 =>
  some ((.bool b9), h0)
theorem F36_eq0 (rc : Rec) (md : Md) (a0 : Int) (c0 : Value) (h0 : Heap) : callStep0 Try.prog cfg rc md 36 [(.int .i64 a0), c0] h0 = F36 rc ⟨h0.length, h0.length⟩ a0 c0 h0 := by kernel_rfl
theorem F36_eq (rc : Rec) (md : Md) (a0 : Int) (c0 : Value) (h0 : Heap) : callStep Try.prog cfg rc md 36 [(.int .i64 a0), c0] h0 = F36 rc ⟨h0.length, h0.length⟩ a0 c0 h0 := (callStep_ne (by kernel_rfl)).trans (F36_eq0 rc md a0 c0 h0)

/-- tombolo/tombololaw05.LayNowhere$3 -/
noncomputable def F37 (rc : Rec) (md : Md) (a0 : Int) (c0 : Value) (h0 : Heap) : Option (Value × Heap) :=
  (bif wantV (.bool (decide (a0 ≥ 0))) true then
  some ((.int .i64 a0), h0)
  else some (undef, h0)).bind fun p1 =>
  (bif wantV (.bool (decide (a0 ≥ 0))) true then
  ld1 c0 p1.2 fun v2 =>
  cIn .i64 v2 fun n3 =>
  some ((.int .i64 n3), p1.2)
  else some (undef, p1.2)).bind fun p4 =>
  (bif wantV (.bool (decide (a0 ≥ 0))) true then
  aBin Try.prog .lss 3 p1.1 p4.1 fun v5 =>
  some (v5, p4.2)
  else some (undef, p4.2)).bind fun p6 =>
  cBn (bif (decide (a0 ≥ 0)) then p6.1 else (.bool false)) fun b7 =>
  some ((.bool b7), h0)
theorem F37_eq0 (rc : Rec) (md : Md) (a0 : Int) (c0 : Value) (h0 : Heap) : callStep0 Try.prog cfg rc md 37 [(.int .i64 a0), c0] h0 = F37 rc ⟨h0.length, h0.length⟩ a0 c0 h0 := by kernel_rfl
theorem F37_eq (rc : Rec) (md : Md) (a0 : Int) (c0 : Value) (h0 : Heap) : callStep Try.prog cfg rc md 37 [(.int .i64 a0), c0] h0 = F37 rc ⟨h0.length, h0.length⟩ a0 c0 h0 := (callStep_ne (by kernel_rfl)).trans (F37_eq0 rc md a0 c0 h0)

/-- tombolo/tombololaw05.LayNowhere$4 -/
noncomputable def F38 (rc : Rec) (md : Md) (a0 : Int) (h0 : Heap) : Option (Value × Heap) :=
  (bif wantV (.bool (a0 == 0)) false then
  some ((.int .i64 a0), h0)
  else some (undef, h0)).bind fun p1 =>
  (bif wantV (.bool (a0 == 0)) false then
  aBin Try.prog .eql 3 p1.1 (.int .i64 1) fun v2 =>
  some (v2, p1.2)
  else some (undef, p1.2)).bind fun p3 =>
  cBn (bif (a0 == 0) then (.bool true) else p3.1) fun b4 =>
  some ((.bool b4), h0)
theorem F38_eq0 (rc : Rec) (md : Md) (a0 : Int) (h0 : Heap) : callStep0 Try.prog cfg rc md 38 [(.int .i64 a0)] h0 = F38 rc ⟨h0.length, h0.length⟩ a0 h0 := by kernel_rfl
theorem F38_eq (rc : Rec) (md : Md) (a0 : Int) (h0 : Heap) : callStep Try.prog cfg rc md 38 [(.int .i64 a0)] h0 = F38 rc ⟨h0.length, h0.length⟩ a0 h0 := (callStep_ne (by kernel_rfl)).trans (F38_eq0 rc md a0 h0)

/-- tombolo/tombololaw05.LayNowhere$5 -/
noncomputable def F39 (rc : Rec) (md : Md) (a0 : Int) (a1 : Bool) (c0 : Value) (h0 : Heap) : Option (Value × Heap) :=
  aBin Try.prog .eql 4 (.bool (decide (a0 ≥ 0))) (.bool a1) fun v1 =>
  (bif wantV v1 true then
  some ((.bool a1), h0)
  else some (undef, h0)).bind fun p2 =>
  (bif wantV v1 true then
  some (p2.1, p2.2)
  else some (undef, p2.2)).bind fun p3 =>
  (bif wantV p3.1 false then
  some ((.int .i64 a0), p3.2)
  else some (undef, p3.2)).bind fun p4 =>
  (bif wantV p3.1 false then
  aBin Try.prog .eql 3 p4.1 (.int .i64 (-1)) fun v5 =>
  some (v5, p4.2)
  else some (undef, p4.2)).bind fun p6 =>
  (bif wantV v1 true then
  cBn p3.1 fun q7 =>
  cBn (bif q7 then (.bool true) else p6.1) fun b8 =>
  some ((.bool b8), p6.2)
  else some (undef, p6.2)).bind fun p9 =>
  cBn v1 fun q10 =>
  cBn (bif q10 then p9.1 else (.bool false)) fun b11 =>
  (bif wantV (.bool b11) true then
  some ((.int .i64 a0), p9.2)
  else some (undef, p9.2)).bind fun p12 =>
  (bif wantV (.bool b11) true then
  ldN 3 c0 p12.2 fun v13 =>
  some (v13, p12.2)
  else some (undef, p12.2)).bind fun p14 =>
  (bif wantV (.bool b11) true then
  cl (rc md 23 [p14.1] p14.2) fun v15 h16 =>
  cIn .i64 v15 fun n17 =>
  some ((.int .i64 n17), h16)
  else some (undef, p14.2)).bind fun p18 =>
  (bif wantV (.bool b11) true then
  aBin Try.prog .lss 3 p12.1 p18.1 fun v19 =>
  some (v19, p18.2)
  else some (undef, p18.2)).bind fun p20 =>
  cBn (bif b11 then p20.1 else (.bool false)) fun b21 =>
  some ((.bool b21), h0)
theorem F39_eq0 (rc : Rec) (md : Md) (a0 : Int) (a1 : Bool) (c0 : Value) (h0 : Heap) : callStep0 Try.prog cfg rc md 39 [(.int .i64 a0), (.bool a1), c0] h0 = F39 rc ⟨h0.length, h0.length⟩ a0 a1 c0 h0 := by kernel_rfl
theorem F39_eq (rc : Rec) (md : Md) (a0 : Int) (a1 : Bool) (c0 : Value) (h0 : Heap) : callStep Try.prog cfg rc md 39 [(.int .i64 a0), (.bool a1), c0] h0 = F39 rc ⟨h0.length, h0.length⟩ a0 a1 c0 h0 := (callStep_ne (by kernel_rfl)).trans (F39_eq0 rc md a0 a1 c0 h0)

/-- tombolo/lay.below -/
noncomputable def F51 (rc : Rec) (md : Md) (a0 : Int) (a1 : Int) (h0 : Heap) : Option (Value × Heap) :=
  (bif wantV (.bool (decide (a0 ≥ 0))) true then
  some ((.int .i64 a0), h0)
  else some (undef, h0)).bind fun p1 =>
  (bif wantV (.bool (decide (a0 ≥ 0))) true then
  some ((.int .i64 a1), p1.2)
  else some (undef, p1.2)).bind fun p2 =>
  (bif wantV (.bool (decide (a0 ≥ 0))) true then
  aBin Try.prog .lss 3 p1.1 p2.1 fun v3 =>
  some (v3, p2.2)
  else some (undef, p2.2)).bind fun p4 =>
  cBn (bif (decide (a0 ≥ 0)) then p4.1 else (.bool false)) fun b5 =>
  some ((.bool b5), h0)
theorem F51_eq0 (rc : Rec) (md : Md) (a0 : Int) (a1 : Int) (h0 : Heap) : callStep0 Try.prog cfg rc md 51 [(.int .i64 a0), (.int .i64 a1)] h0 = F51 rc ⟨h0.length, h0.length⟩ a0 a1 h0 := by kernel_rfl
theorem F51_eq (rc : Rec) (md : Md) (a0 : Int) (a1 : Int) (h0 : Heap) : callStep Try.prog cfg rc md 51 [(.int .i64 a0), (.int .i64 a1)] h0 = alone h0 (F51 rc ⟨0, 0⟩ a0 a1 []) := by
  have e : callStep Try.prog cfg rc md 51 [(.int .i64 a0), (.int .i64 a1)] h0 = alone h0 (callStep0 Try.prog cfg rc ⟨0, 0⟩ 51 [(.int .i64 a0), (.int .i64 a1)] []) := by kernel_rfl
  rw [e, F51_eq0]; rfl

/-- math/bits.Len -/
noncomputable def F52 (rc : Rec) (md : Md) (a0 : Int) (h0 : Heap) : Option (Value × Heap) :=
  cl (rc md 66 [(.int .u64 a0)] h0) fun v1 h2 =>
  cIn .i64 v1 fun n3 =>
  some ((.int .i64 n3), h0)
theorem F52_eq0 (rc : Rec) (md : Md) (a0 : Int) (h0 : Heap) : callStep0 Try.prog cfg rc md 52 [(.int .u64 a0)] h0 = F52 rc ⟨h0.length, h0.length⟩ a0 h0 := by kernel_rfl
theorem F52_eq (rc : Rec) (md : Md) (a0 : Int) (h0 : Heap) : callStep Try.prog cfg rc md 52 [(.int .u64 a0)] h0 = alone h0 (F52 rc ⟨0, 0⟩ a0 []) := by
  have e : callStep Try.prog cfg rc md 52 [(.int .u64 a0)] h0 = alone h0 (callStep0 Try.prog cfg rc ⟨0, 0⟩ 52 [(.int .u64 a0)] []) := by kernel_rfl
  rw [e, F52_eq0]; rfl

/-- (tombolo/lay.Lay).arcs -/
noncomputable def F53 (rc : Rec) (md : Md) (a0_0 : Int) (a0_1 : Int) (a0_2 : Int) (h0 : Heap) : Option (Value × Heap) :=
  let h1 : Heap := h0 ++ [.own [(.int .i64 a0_0), (.int .i64 a0_1), (.int .i64 a0_2)]]
  ldN 3 (.pointer (some ⟨h0.length, 0, none⟩)) h1 fun v2 =>
  cl (rc md 17 [v2] h1) fun v3 h4 =>
  cIn .i64 v3 fun n5 =>
  some ((.int .i64 (IntKind.wrap .i64 (2 * n5))), h0)
theorem F53_eq0 (rc : Rec) (md : Md) (a0_0 : Int) (a0_1 : Int) (a0_2 : Int) (h0 : Heap) : callStep0 Try.prog cfg rc md 53 [(.agg #[(.int .i64 a0_0), (.int .i64 a0_1), (.int .i64 a0_2)])] h0 = F53 rc ⟨h0.length, h0.length⟩ a0_0 a0_1 a0_2 h0 := by kernel_rfl
theorem F53_eq (rc : Rec) (md : Md) (a0_0 : Int) (a0_1 : Int) (a0_2 : Int) (h0 : Heap) : callStep Try.prog cfg rc md 53 [(.agg #[(.int .i64 a0_0), (.int .i64 a0_1), (.int .i64 a0_2)])] h0 = alone h0 (F53 rc ⟨0, 0⟩ a0_0 a0_1 a0_2 []) := by
  have e : callStep Try.prog cfg rc md 53 [(.agg #[(.int .i64 a0_0), (.int .i64 a0_1), (.int .i64 a0_2)])] h0 = alone h0 (callStep0 Try.prog cfg rc ⟨0, 0⟩ 53 [(.agg #[(.int .i64 a0_0), (.int .i64 a0_1), (.int .i64 a0_2)])] []) := by kernel_rfl
  rw [e, F53_eq0]; rfl

/-- (tombolo/lay.Lay).nodes -/
noncomputable def F54 (rc : Rec) (md : Md) (a0_0 : Int) (a0_1 : Int) (a0_2 : Int) (h0 : Heap) : Option (Value × Heap) :=
  let h1 : Heap := h0 ++ [.own [(.int .i64 a0_0), (.int .i64 a0_1), (.int .i64 a0_2)]]
  ldN 3 (.pointer (some ⟨h0.length, 0, none⟩)) h1 fun v2 =>
  cl (rc md 57 [v2] h1) fun v3 h4 =>
  cIn .i64 v3 fun n5 =>
  ld1 (.pointer (some ⟨h0.length, 0, none⟩)) h4 fun v6 =>
  cIn .i64 v6 fun n7 =>
  ld1 (.pointer (some ⟨h0.length, 0, none⟩)) h4 fun v8 =>
  cIn .i64 v8 fun n9 =>
  some ((.int .i64 (IntKind.wrap .i64 (n5 + (IntKind.wrap .i64 (Int.tdiv (IntKind.wrap .i64 (n7 * (IntKind.wrap .i64 (n9 - 1)))) 2))))), h0)
theorem F54_eq0 (rc : Rec) (md : Md) (a0_0 : Int) (a0_1 : Int) (a0_2 : Int) (h0 : Heap) : callStep0 Try.prog cfg rc md 54 [(.agg #[(.int .i64 a0_0), (.int .i64 a0_1), (.int .i64 a0_2)])] h0 = F54 rc ⟨h0.length, h0.length⟩ a0_0 a0_1 a0_2 h0 := by kernel_rfl
theorem F54_eq (rc : Rec) (md : Md) (a0_0 : Int) (a0_1 : Int) (a0_2 : Int) (h0 : Heap) : callStep Try.prog cfg rc md 54 [(.agg #[(.int .i64 a0_0), (.int .i64 a0_1), (.int .i64 a0_2)])] h0 = alone h0 (F54 rc ⟨0, 0⟩ a0_0 a0_1 a0_2 []) := by
  have e : callStep Try.prog cfg rc md 54 [(.agg #[(.int .i64 a0_0), (.int .i64 a0_1), (.int .i64 a0_2)])] h0 = alone h0 (callStep0 Try.prog cfg rc ⟨0, 0⟩ 54 [(.agg #[(.int .i64 a0_0), (.int .i64 a0_1), (.int .i64 a0_2)])] []) := by kernel_rfl
  rw [e, F54_eq0]; rfl

/-- (tombolo/lay.Lay).of -/
noncomputable def F55 (rc : Rec) (md : Md) (a0_0 : Int) (a0_1 : Int) (a0_2 : Int) (a1 : Int) (a2 : Int) (h0 : Heap) : Option (Value × Heap) :=
  let h1 : Heap := h0 ++ [.own [(.int .i64 a0_0), (.int .i64 a0_1), (.int .i64 a0_2)]]
  ld1 (.pointer (some ⟨h0.length, 1, none⟩)) h1 fun v2 =>
  cIn .i64 v2 fun n3 =>
  cl (rc md 51 [(.int .i64 a1), (.int .i64 n3)] h1) fun v4 h5 =>
  cBn v4 fun b6 =>
  bif !b6 then
    some ((.int .i64 (-1)), h0)
  else
    ldN 3 (.pointer (some ⟨h0.length, 0, none⟩)) h5 fun v7 =>
    cl (rc md 26 [v7] h5) fun v8 h9 =>
    cIn .i64 v8 fun n10 =>
    some ((.int .i64 (IntKind.wrap .i64 ((IntKind.wrap .i64 ((IntKind.wrap .i64 (n10 + 1)) + (IntKind.wrap .i64 (a1 * 7)))) + a2))), h0)
theorem F55_eq0 (rc : Rec) (md : Md) (a0_0 : Int) (a0_1 : Int) (a0_2 : Int) (a1 : Int) (a2 : Int) (h0 : Heap) : callStep0 Try.prog cfg rc md 55 [(.agg #[(.int .i64 a0_0), (.int .i64 a0_1), (.int .i64 a0_2)]), (.int .i64 a1), (.int .i64 a2)] h0 = F55 rc ⟨h0.length, h0.length⟩ a0_0 a0_1 a0_2 a1 a2 h0 := by kernel_rfl
theorem F55_eq (rc : Rec) (md : Md) (a0_0 : Int) (a0_1 : Int) (a0_2 : Int) (a1 : Int) (a2 : Int) (h0 : Heap) : callStep Try.prog cfg rc md 55 [(.agg #[(.int .i64 a0_0), (.int .i64 a0_1), (.int .i64 a0_2)]), (.int .i64 a1), (.int .i64 a2)] h0 = alone h0 (F55 rc ⟨0, 0⟩ a0_0 a0_1 a0_2 a1 a2 []) := by
  have e : callStep Try.prog cfg rc md 55 [(.agg #[(.int .i64 a0_0), (.int .i64 a0_1), (.int .i64 a0_2)]), (.int .i64 a1), (.int .i64 a2)] h0 = alone h0 (callStep0 Try.prog cfg rc ⟨0, 0⟩ 55 [(.agg #[(.int .i64 a0_0), (.int .i64 a0_1), (.int .i64 a0_2)]), (.int .i64 a1), (.int .i64 a2)] []) := by kernel_rfl
  rw [e, F55_eq0]; rfl

/-- (tombolo/lay.Lay).heads -/
noncomputable def F56 (rc : Rec) (md : Md) (a0_0 : Int) (a0_1 : Int) (a0_2 : Int) (h0 : Heap) : Option (Value × Heap) :=
  let h1 : Heap := h0 ++ [.own [(.int .i64 a0_0), (.int .i64 a0_1), (.int .i64 a0_2)]]
  ldN 3 (.pointer (some ⟨h0.length, 0, none⟩)) h1 fun v2 =>
  cl (rc md 26 [v2] h1) fun v3 h4 =>
  cIn .i64 v3 fun n5 =>
  ld1 (.pointer (some ⟨h0.length, 1, none⟩)) h4 fun v6 =>
  cIn .i64 v6 fun n7 =>
  some ((.int .i64 (IntKind.wrap .i64 ((IntKind.wrap .i64 (n5 + 1)) + (IntKind.wrap .i64 (n7 * 7))))), h0)
theorem F56_eq0 (rc : Rec) (md : Md) (a0_0 : Int) (a0_1 : Int) (a0_2 : Int) (h0 : Heap) : callStep0 Try.prog cfg rc md 56 [(.agg #[(.int .i64 a0_0), (.int .i64 a0_1), (.int .i64 a0_2)])] h0 = F56 rc ⟨h0.length, h0.length⟩ a0_0 a0_1 a0_2 h0 := by kernel_rfl
theorem F56_eq (rc : Rec) (md : Md) (a0_0 : Int) (a0_1 : Int) (a0_2 : Int) (h0 : Heap) : callStep Try.prog cfg rc md 56 [(.agg #[(.int .i64 a0_0), (.int .i64 a0_1), (.int .i64 a0_2)])] h0 = alone h0 (F56 rc ⟨0, 0⟩ a0_0 a0_1 a0_2 []) := by
  have e : callStep Try.prog cfg rc md 56 [(.agg #[(.int .i64 a0_0), (.int .i64 a0_1), (.int .i64 a0_2)])] h0 = alone h0 (callStep0 Try.prog cfg rc ⟨0, 0⟩ 56 [(.agg #[(.int .i64 a0_0), (.int .i64 a0_1), (.int .i64 a0_2)])] []) := by kernel_rfl
  rw [e, F56_eq0]; rfl

/-- (tombolo/lay.Lay).edges -/
noncomputable def F57 (rc : Rec) (md : Md) (a0_0 : Int) (a0_1 : Int) (a0_2 : Int) (h0 : Heap) : Option (Value × Heap) :=
  let h1 : Heap := h0 ++ [.own [(.int .i64 a0_0), (.int .i64 a0_1), (.int .i64 a0_2)]]
  ldN 3 (.pointer (some ⟨h0.length, 0, none⟩)) h1 fun v2 =>
  cl (rc md 56 [v2] h1) fun v3 h4 =>
  cIn .i64 v3 fun n5 =>
  ld1 (.pointer (some ⟨h0.length, 0, none⟩)) h4 fun v6 =>
  cIn .i64 v6 fun n7 =>
  ldN 3 (.pointer (some ⟨h0.length, 0, none⟩)) h4 fun v8 =>
  cl (rc md 17 [v8] h4) fun v9 h10 =>
  cIn .i64 v9 fun n11 =>
  some ((.int .i64 (IntKind.wrap .i64 (n5 + (IntKind.wrap .i64 (n7 * n11))))), h0)
theorem F57_eq0 (rc : Rec) (md : Md) (a0_0 : Int) (a0_1 : Int) (a0_2 : Int) (h0 : Heap) : callStep0 Try.prog cfg rc md 57 [(.agg #[(.int .i64 a0_0), (.int .i64 a0_1), (.int .i64 a0_2)])] h0 = F57 rc ⟨h0.length, h0.length⟩ a0_0 a0_1 a0_2 h0 := by kernel_rfl
theorem F57_eq (rc : Rec) (md : Md) (a0_0 : Int) (a0_1 : Int) (a0_2 : Int) (h0 : Heap) : callStep Try.prog cfg rc md 57 [(.agg #[(.int .i64 a0_0), (.int .i64 a0_1), (.int .i64 a0_2)])] h0 = alone h0 (F57 rc ⟨0, 0⟩ a0_0 a0_1 a0_2 []) := by
  have e : callStep Try.prog cfg rc md 57 [(.agg #[(.int .i64 a0_0), (.int .i64 a0_1), (.int .i64 a0_2)])] h0 = alone h0 (callStep0 Try.prog cfg rc ⟨0, 0⟩ 57 [(.agg #[(.int .i64 a0_0), (.int .i64 a0_1), (.int .i64 a0_2)])] []) := by kernel_rfl
  rw [e, F57_eq0]; rfl

/-- math/bits.Len32 -/
noncomputable def J65_1 (rc : Rec) (md : Md) (h0 : Heap) (s0 : Value) (s2 : Value) (h : Heap) : Option (Value × Heap) :=
  aConv Try.prog 94 5 s0 fun v1 =>
  aIndex Try.prog 9 (.string ⟨#[0, 1, 2, 2, 3, 3, 3, 3, 4, 4, 4, 4, 4, 4, 4, 4, 5, 5, 5, 5, 5, 5, 5, 5, 5, 5, 5, 5, 5, 5, 5, 5, 6, 6, 6, 6, 6, 6, 6, 6, 6, 6, 6, 6, 6, 6, 6, 6, 6, 6, 6, 6, 6, 6, 6, 6, 6, 6, 6, 6, 6, 6, 6, 6, 7, 7, 7, 7, 7, 7, 7, 7, 7, 7, 7, 7, 7, 7, 7, 7, 7, 7, 7, 7, 7, 7, 7, 7, 7, 7, 7, 7, 7, 7, 7, 7, 7, 7, 7, 7, 7, 7, 7, 7, 7, 7, 7, 7, 7, 7, 7, 7, 7, 7, 7, 7, 7, 7, 7, 7, 7, 7, 7, 7, 7, 7, 7, 7, 8, 8, 8, 8, 8, 8, 8, 8, 8, 8, 8, 8, 8, 8, 8, 8, 8, 8, 8, 8, 8, 8, 8, 8, 8, 8, 8, 8, 8, 8, 8, 8, 8, 8, 8, 8, 8, 8, 8, 8, 8, 8, 8, 8, 8, 8, 8, 8, 8, 8, 8, 8, 8, 8, 8, 8, 8, 8, 8, 8, 8, 8, 8, 8, 8, 8, 8, 8, 8, 8, 8, 8, 8, 8, 8, 8, 8, 8, 8, 8, 8, 8, 8, 8, 8, 8, 8, 8, 8, 8, 8, 8, 8, 8, 8, 8, 8, 8, 8, 8, 8, 8, 8, 8, 8, 8, 8, 8, 8, 8, 8, 8, 8, 8, 8, 8, 8, 8, 8, 8, 8, 8, 8, 8, 8, 8, 8, 8]⟩) v1 fun v2 =>
  cIn .u8 v2 fun n3 =>
  aBin Try.prog .add 3 s2 (.int .i64 (IntKind.wrap .i64 n3)) fun v4 =>
  fin2 h0 v4
theorem J65_1_at (rc : Rec) (md : Md) (h0 : Heap) (t : T) (h : Heap) : cut Try.prog cfg rc md 19 (bodyOf Try.prog 65) [1, 1, 1] (retK Try.prog cfg 65 (rsOf Try.prog 65) h0) t h = J65_1 rc md h0 (t 0) (t 2) h := by kernel_rfl
theorem J65_1_cut (rc : Rec) (md : Md) (h0 : Heap) : cut Try.prog cfg rc md 19 (bodyOf Try.prog 65) [1, 1, 1] (retK Try.prog cfg 65 (rsOf Try.prog 65) h0) = fun t h => J65_1 rc md h0 (t 0) (t 2) h := funext fun t => funext fun h => J65_1_at rc md h0 t h
noncomputable def J65_0 (rc : Rec) (md : Md) (h0 : Heap) (s0 : Value) (s2 : Value) (h : Heap) : Option (Value × Heap) :=
  aBin Try.prog .geq 94 s0 (.int .u32 256) fun v1 =>
  cBn v1 fun b2 =>
  bif b2 then
    aBin Try.prog .shr 94 s0 (.int .u64 8) fun v3 =>
    aBin Try.prog .add 3 s2 (.int .i64 8) fun v4 =>
    J65_1 rc md h0 v3 v4 h
  else
    J65_1 rc md h0 s0 s2 h
noncomputable def J65_0H (rc : Rec) (md : Md) (h0 : Heap) (X0 : T → Heap → Option (Value × Heap)) (t : T) (h : Heap) : Option (Value × Heap) :=
  aBin Try.prog .geq 94 (t 0) (.int .u32 256) fun v1 =>
  cBn v1 fun b2 =>
  bif b2 then
    aBin Try.prog .shr 94 (t 0) (.int .u64 8) fun v3 =>
    aBin Try.prog .add 3 (t 2) (.int .i64 8) fun v4 =>
    X0 (upd (upd (upd (upd (upd (upd (upd (upd t 7 (t 0)) 8 v1) 9 (t 0)) 10 v3) 0 v3) 11 (t 2)) 12 v4) 2 v4) h
  else
    X0 (upd (upd t 7 (t 0)) 8 v1) h
theorem J65_0_h1 (rc : Rec) (md : Md) (h0 : Heap) (X : Nat → T → Heap → Option (Value × Heap)) (t : T) (h : Heap) : execG Try.prog cfg X rc md 19 (sub (replS (bodyOf Try.prog 65) [([1, 1, 1], 0)]) [1, 1]) (kAtG Try.prog cfg X rc md 19 (replS (bodyOf Try.prog 65) [([1, 1, 1], 0)]) [1, 1] (retK Try.prog cfg 65 (rsOf Try.prog 65) h0)) t h = J65_0H rc md h0 (X 0) t h := by kernel_rfl
theorem J65_0_h2 (rc : Rec) (md : Md) (h0 : Heap) (t : T) (h : Heap) : J65_0H rc md h0 (fun t h => J65_1 rc md h0 (t 0) (t 2) h) t h = J65_0 rc md h0 (t 0) (t 2) h := by (unfold J65_0H J65_0; kernel_rfl)
theorem J65_0_at (rc : Rec) (md : Md) (h0 : Heap) (t : T) (h : Heap) : cut Try.prog cfg rc md 19 (bodyOf Try.prog 65) [1, 1] (retK Try.prog cfg 65 (rsOf Try.prog 65) h0) t h = J65_0 rc md h0 (t 0) (t 2) h := by
  rw [cut_holes [([1, 1, 1], 0)] [1, 1] (by kernel_rfl), J65_0_h1, show (goX Try.prog cfg rc md 19 (bodyOf Try.prog 65) [([1, 1, 1], 0)] (retK Try.prog cfg 65 (rsOf Try.prog 65) h0)) 0 = _ from J65_1_cut rc md h0]
  exact J65_0_h2 rc md h0 t h
theorem J65_0_cut (rc : Rec) (md : Md) (h0 : Heap) : cut Try.prog cfg rc md 19 (bodyOf Try.prog 65) [1, 1] (retK Try.prog cfg 65 (rsOf Try.prog 65) h0) = fun t h => J65_0 rc md h0 (t 0) (t 2) h := funext fun t => funext fun h => J65_0_at rc md h0 t h
noncomputable def F65 (rc : Rec) (md : Md) (a0 : Int) (h0 : Heap) : Option (Value × Heap) :=
  bif (decide (a0 ≥ 65536)) then
    J65_0 rc md h0 (.int .u32 (Int.fdiv a0 (2 ^ 16))) (.int .i64 16) h0
  else
    J65_0 rc md h0 (.int .u32 a0) (.int .i64 0) h0
noncomputable def F65H (rc : Rec) (md : Md) (X1 : T → Heap → Option (Value × Heap)) (a0 : Int) (h0 : Heap) : Option (Value × Heap) :=
  bif (decide (a0 ≥ 65536)) then
    X1 (upd (upd (upd (upd (upd (upd (upd (args0 [(.int .u32 a0)]) 2 (.int .i64 0)) 3 (.int .u32 a0)) 4 (.bool (decide (a0 ≥ 65536)))) 5 (.int .u32 a0)) 6 (.int .u32 (Int.fdiv a0 (2 ^ 16)))) 0 (.int .u32 (Int.fdiv a0 (2 ^ 16)))) 2 (.int .i64 16)) h0
  else
    X1 (upd (upd (upd (args0 [(.int .u32 a0)]) 2 (.int .i64 0)) 3 (.int .u32 a0)) 4 (.bool (decide (a0 ≥ 65536)))) h0
theorem F65_h0 (rc : Rec) (md : Md) (a0 : Int) (h0 : Heap) : callStep0 Try.prog cfg rc md 65 [(.int .u32 a0)] h0 = exec Try.prog cfg rc ⟨h0.length, h0.length⟩ 19 (bodyOf Try.prog 65) (retK Try.prog cfg 65 (rsOf Try.prog 65) h0) (args0 [(.int .u32 a0)]) h0 := callStep0_run (by kernel_rfl) (by kernel_rfl) (by kernel_rfl)
theorem F65_h1 (rc : Rec) (md : Md) (X : Nat → T → Heap → Option (Value × Heap)) (a0 : Int) (h0 : Heap) : execG Try.prog cfg X rc md 19 (replS (bodyOf Try.prog 65) [([1, 1, 1], 0), ([1, 1], 1)]) (retK Try.prog cfg 65 (rsOf Try.prog 65) h0) (args0 [(.int .u32 a0)]) h0 = F65H rc md (X 1) a0 h0 := by kernel_rfl
theorem F65_h2 (rc : Rec) (md : Md) (a0 : Int) (h0 : Heap) : F65H rc md (fun t h => J65_0 rc md h0 (t 0) (t 2) h) a0 h0 = F65 rc md a0 h0 := by unfold F65H F65; kernel_rfl
theorem F65_eq0 (rc : Rec) (md : Md) (a0 : Int) (h0 : Heap) : callStep0 Try.prog cfg rc md 65 [(.int .u32 a0)] h0 = F65 rc ⟨h0.length, h0.length⟩ a0 h0 := by
  rw [F65_h0, exec_holes [([1, 1, 1], 0), ([1, 1], 1)] (by kernel_rfl), F65_h1, show (goX Try.prog cfg rc ⟨h0.length, h0.length⟩ 19 (bodyOf Try.prog 65) [([1, 1, 1], 0), ([1, 1], 1)] (retK Try.prog cfg 65 (rsOf Try.prog 65) h0)) 1 = _ from J65_0_cut rc ⟨h0.length, h0.length⟩ h0]
  exact F65_h2 rc _ a0 h0
theorem F65_eq (rc : Rec) (md : Md) (a0 : Int) (h0 : Heap) : callStep Try.prog cfg rc md 65 [(.int .u32 a0)] h0 = alone h0 (F65 rc ⟨0, 0⟩ a0 []) := by
  have e : callStep Try.prog cfg rc md 65 [(.int .u32 a0)] h0 = alone h0 (callStep0 Try.prog cfg rc ⟨0, 0⟩ 65 [(.int .u32 a0)] []) := by kernel_rfl
  rw [e, F65_eq0]; rfl

/-- math/bits.Len64 -/
noncomputable def J66_2 (rc : Rec) (md : Md) (h0 : Heap) (s0 : Value) (s2 : Value) (h : Heap) : Option (Value × Heap) :=
  aConv Try.prog 87 5 s0 fun v1 =>
  aIndex Try.prog 9 (.string ⟨#[0, 1, 2, 2, 3, 3, 3, 3, 4, 4, 4, 4, 4, 4, 4, 4, 5, 5, 5, 5, 5, 5, 5, 5, 5, 5, 5, 5, 5, 5, 5, 5, 6, 6, 6, 6, 6, 6, 6, 6, 6, 6, 6, 6, 6, 6, 6, 6, 6, 6, 6, 6, 6, 6, 6, 6, 6, 6, 6, 6, 6, 6, 6, 6, 7, 7, 7, 7, 7, 7, 7, 7, 7, 7, 7, 7, 7, 7, 7, 7, 7, 7, 7, 7, 7, 7, 7, 7, 7, 7, 7, 7, 7, 7, 7, 7, 7, 7, 7, 7, 7, 7, 7, 7, 7, 7, 7, 7, 7, 7, 7, 7, 7, 7, 7, 7, 7, 7, 7, 7, 7, 7, 7, 7, 7, 7, 7, 7, 8, 8, 8, 8, 8, 8, 8, 8, 8, 8, 8, 8, 8, 8, 8, 8, 8, 8, 8, 8, 8, 8, 8, 8, 8, 8, 8, 8, 8, 8, 8, 8, 8, 8, 8, 8, 8, 8, 8, 8, 8, 8, 8, 8, 8, 8, 8, 8, 8, 8, 8, 8, 8, 8, 8, 8, 8, 8, 8, 8, 8, 8, 8, 8, 8, 8, 8, 8, 8, 8, 8, 8, 8, 8, 8, 8, 8, 8, 8, 8, 8, 8, 8, 8, 8, 8, 8, 8, 8, 8, 8, 8, 8, 8, 8, 8, 8, 8, 8, 8, 8, 8, 8, 8, 8, 8, 8, 8, 8, 8, 8, 8, 8, 8, 8, 8, 8, 8, 8, 8, 8, 8, 8, 8, 8, 8, 8, 8]⟩) v1 fun v2 =>
  cIn .u8 v2 fun n3 =>
  aBin Try.prog .add 3 s2 (.int .i64 (IntKind.wrap .i64 n3)) fun v4 =>
  fin2 h0 v4
theorem J66_2_at (rc : Rec) (md : Md) (h0 : Heap) (t : T) (h : Heap) : cut Try.prog cfg rc md 25 (bodyOf Try.prog 66) [1, 1, 1, 1] (retK Try.prog cfg 66 (rsOf Try.prog 66) h0) t h = J66_2 rc md h0 (t 0) (t 2) h := by kernel_rfl
theorem J66_2_cut (rc : Rec) (md : Md) (h0 : Heap) : cut Try.prog cfg rc md 25 (bodyOf Try.prog 66) [1, 1, 1, 1] (retK Try.prog cfg 66 (rsOf Try.prog 66) h0) = fun t h => J66_2 rc md h0 (t 0) (t 2) h := funext fun t => funext fun h => J66_2_at rc md h0 t h
noncomputable def J66_1 (rc : Rec) (md : Md) (h0 : Heap) (s0 : Value) (s2 : Value) (h : Heap) : Option (Value × Heap) :=
  aBin Try.prog .geq 87 s0 (.int .u64 256) fun v1 =>
  cBn v1 fun b2 =>
  bif b2 then
    aBin Try.prog .shr 87 s0 (.int .u64 8) fun v3 =>
    aBin Try.prog .add 3 s2 (.int .i64 8) fun v4 =>
    J66_2 rc md h0 v3 v4 h
  else
    J66_2 rc md h0 s0 s2 h
noncomputable def J66_1H (rc : Rec) (md : Md) (h0 : Heap) (X0 : T → Heap → Option (Value × Heap)) (t : T) (h : Heap) : Option (Value × Heap) :=
  aBin Try.prog .geq 87 (t 0) (.int .u64 256) fun v1 =>
  cBn v1 fun b2 =>
  bif b2 then
    aBin Try.prog .shr 87 (t 0) (.int .u64 8) fun v3 =>
    aBin Try.prog .add 3 (t 2) (.int .i64 8) fun v4 =>
    X0 (upd (upd (upd (upd (upd (upd (upd (upd t 13 (t 0)) 14 v1) 15 (t 0)) 16 v3) 0 v3) 17 (t 2)) 18 v4) 2 v4) h
  else
    X0 (upd (upd t 13 (t 0)) 14 v1) h
theorem J66_1_h1 (rc : Rec) (md : Md) (h0 : Heap) (X : Nat → T → Heap → Option (Value × Heap)) (t : T) (h : Heap) : execG Try.prog cfg X rc md 25 (sub (replS (bodyOf Try.prog 66) [([1, 1, 1, 1], 0)]) [1, 1, 1]) (kAtG Try.prog cfg X rc md 25 (replS (bodyOf Try.prog 66) [([1, 1, 1, 1], 0)]) [1, 1, 1] (retK Try.prog cfg 66 (rsOf Try.prog 66) h0)) t h = J66_1H rc md h0 (X 0) t h := by kernel_rfl
theorem J66_1_h2 (rc : Rec) (md : Md) (h0 : Heap) (t : T) (h : Heap) : J66_1H rc md h0 (fun t h => J66_2 rc md h0 (t 0) (t 2) h) t h = J66_1 rc md h0 (t 0) (t 2) h := by (unfold J66_1H J66_1; kernel_rfl)
theorem J66_1_at (rc : Rec) (md : Md) (h0 : Heap) (t : T) (h : Heap) : cut Try.prog cfg rc md 25 (bodyOf Try.prog 66) [1, 1, 1] (retK Try.prog cfg 66 (rsOf Try.prog 66) h0) t h = J66_1 rc md h0 (t 0) (t 2) h := by
  rw [cut_holes [([1, 1, 1, 1], 0)] [1, 1, 1] (by kernel_rfl), J66_1_h1, show (goX Try.prog cfg rc md 25 (bodyOf Try.prog 66) [([1, 1, 1, 1], 0)] (retK Try.prog cfg 66 (rsOf Try.prog 66) h0)) 0 = _ from J66_2_cut rc md h0]
  exact J66_1_h2 rc md h0 t h
theorem J66_1_cut (rc : Rec) (md : Md) (h0 : Heap) : cut Try.prog cfg rc md 25 (bodyOf Try.prog 66) [1, 1, 1] (retK Try.prog cfg 66 (rsOf Try.prog 66) h0) = fun t h => J66_1 rc md h0 (t 0) (t 2) h := funext fun t => funext fun h => J66_1_at rc md h0 t h
noncomputable def J66_0 (rc : Rec) (md : Md) (h0 : Heap) (s0 : Value) (s2 : Value) (h : Heap) : Option (Value × Heap) :=
  aBin Try.prog .geq 87 s0 (.int .u64 65536) fun v1 =>
  cBn v1 fun b2 =>
  bif b2 then
    aBin Try.prog .shr 87 s0 (.int .u64 16) fun v3 =>
    aBin Try.prog .add 3 s2 (.int .i64 16) fun v4 =>
    J66_1 rc md h0 v3 v4 h
  else
    J66_1 rc md h0 s0 s2 h
noncomputable def J66_0H (rc : Rec) (md : Md) (h0 : Heap) (X1 : T → Heap → Option (Value × Heap)) (t : T) (h : Heap) : Option (Value × Heap) :=
  aBin Try.prog .geq 87 (t 0) (.int .u64 65536) fun v1 =>
  cBn v1 fun b2 =>
  bif b2 then
    aBin Try.prog .shr 87 (t 0) (.int .u64 16) fun v3 =>
    aBin Try.prog .add 3 (t 2) (.int .i64 16) fun v4 =>
    X1 (upd (upd (upd (upd (upd (upd (upd (upd t 7 (t 0)) 8 v1) 9 (t 0)) 10 v3) 0 v3) 11 (t 2)) 12 v4) 2 v4) h
  else
    X1 (upd (upd t 7 (t 0)) 8 v1) h
theorem J66_0_h1 (rc : Rec) (md : Md) (h0 : Heap) (X : Nat → T → Heap → Option (Value × Heap)) (t : T) (h : Heap) : execG Try.prog cfg X rc md 25 (sub (replS (bodyOf Try.prog 66) [([1, 1, 1, 1], 0), ([1, 1, 1], 1)]) [1, 1]) (kAtG Try.prog cfg X rc md 25 (replS (bodyOf Try.prog 66) [([1, 1, 1, 1], 0), ([1, 1, 1], 1)]) [1, 1] (retK Try.prog cfg 66 (rsOf Try.prog 66) h0)) t h = J66_0H rc md h0 (X 1) t h := by kernel_rfl
theorem J66_0_h2 (rc : Rec) (md : Md) (h0 : Heap) (t : T) (h : Heap) : J66_0H rc md h0 (fun t h => J66_1 rc md h0 (t 0) (t 2) h) t h = J66_0 rc md h0 (t 0) (t 2) h := by (unfold J66_0H J66_0; kernel_rfl)
theorem J66_0_at (rc : Rec) (md : Md) (h0 : Heap) (t : T) (h : Heap) : cut Try.prog cfg rc md 25 (bodyOf Try.prog 66) [1, 1] (retK Try.prog cfg 66 (rsOf Try.prog 66) h0) t h = J66_0 rc md h0 (t 0) (t 2) h := by
  rw [cut_holes [([1, 1, 1, 1], 0), ([1, 1, 1], 1)] [1, 1] (by kernel_rfl), J66_0_h1, show (goX Try.prog cfg rc md 25 (bodyOf Try.prog 66) [([1, 1, 1, 1], 0), ([1, 1, 1], 1)] (retK Try.prog cfg 66 (rsOf Try.prog 66) h0)) 1 = _ from J66_1_cut rc md h0]
  exact J66_0_h2 rc md h0 t h
theorem J66_0_cut (rc : Rec) (md : Md) (h0 : Heap) : cut Try.prog cfg rc md 25 (bodyOf Try.prog 66) [1, 1] (retK Try.prog cfg 66 (rsOf Try.prog 66) h0) = fun t h => J66_0 rc md h0 (t 0) (t 2) h := funext fun t => funext fun h => J66_0_at rc md h0 t h
noncomputable def F66 (rc : Rec) (md : Md) (a0 : Int) (h0 : Heap) : Option (Value × Heap) :=
  bif (decide (a0 ≥ 4294967296)) then
    J66_0 rc md h0 (.int .u64 (Int.fdiv a0 (2 ^ 32))) (.int .i64 32) h0
  else
    J66_0 rc md h0 (.int .u64 a0) (.int .i64 0) h0
noncomputable def F66H (rc : Rec) (md : Md) (X2 : T → Heap → Option (Value × Heap)) (a0 : Int) (h0 : Heap) : Option (Value × Heap) :=
  bif (decide (a0 ≥ 4294967296)) then
    X2 (upd (upd (upd (upd (upd (upd (upd (args0 [(.int .u64 a0)]) 2 (.int .i64 0)) 3 (.int .u64 a0)) 4 (.bool (decide (a0 ≥ 4294967296)))) 5 (.int .u64 a0)) 6 (.int .u64 (Int.fdiv a0 (2 ^ 32)))) 0 (.int .u64 (Int.fdiv a0 (2 ^ 32)))) 2 (.int .i64 32)) h0
  else
    X2 (upd (upd (upd (args0 [(.int .u64 a0)]) 2 (.int .i64 0)) 3 (.int .u64 a0)) 4 (.bool (decide (a0 ≥ 4294967296)))) h0
theorem F66_h0 (rc : Rec) (md : Md) (a0 : Int) (h0 : Heap) : callStep0 Try.prog cfg rc md 66 [(.int .u64 a0)] h0 = exec Try.prog cfg rc ⟨h0.length, h0.length⟩ 25 (bodyOf Try.prog 66) (retK Try.prog cfg 66 (rsOf Try.prog 66) h0) (args0 [(.int .u64 a0)]) h0 := callStep0_run (by kernel_rfl) (by kernel_rfl) (by kernel_rfl)
theorem F66_h1 (rc : Rec) (md : Md) (X : Nat → T → Heap → Option (Value × Heap)) (a0 : Int) (h0 : Heap) : execG Try.prog cfg X rc md 25 (replS (bodyOf Try.prog 66) [([1, 1, 1, 1], 0), ([1, 1, 1], 1), ([1, 1], 2)]) (retK Try.prog cfg 66 (rsOf Try.prog 66) h0) (args0 [(.int .u64 a0)]) h0 = F66H rc md (X 2) a0 h0 := by kernel_rfl
theorem F66_h2 (rc : Rec) (md : Md) (a0 : Int) (h0 : Heap) : F66H rc md (fun t h => J66_0 rc md h0 (t 0) (t 2) h) a0 h0 = F66 rc md a0 h0 := by unfold F66H F66; kernel_rfl
theorem F66_eq0 (rc : Rec) (md : Md) (a0 : Int) (h0 : Heap) : callStep0 Try.prog cfg rc md 66 [(.int .u64 a0)] h0 = F66 rc ⟨h0.length, h0.length⟩ a0 h0 := by
  rw [F66_h0, exec_holes [([1, 1, 1, 1], 0), ([1, 1, 1], 1), ([1, 1], 2)] (by kernel_rfl), F66_h1, show (goX Try.prog cfg rc ⟨h0.length, h0.length⟩ 25 (bodyOf Try.prog 66) [([1, 1, 1, 1], 0), ([1, 1, 1], 1), ([1, 1], 2)] (retK Try.prog cfg 66 (rsOf Try.prog 66) h0)) 2 = _ from J66_0_cut rc ⟨h0.length, h0.length⟩ h0]
  exact F66_h2 rc _ a0 h0
theorem F66_eq (rc : Rec) (md : Md) (a0 : Int) (h0 : Heap) : callStep Try.prog cfg rc md 66 [(.int .u64 a0)] h0 = alone h0 (F66 rc ⟨0, 0⟩ a0 []) := by
  have e : callStep Try.prog cfg rc md 66 [(.int .u64 a0)] h0 = alone h0 (callStep0 Try.prog cfg rc ⟨0, 0⟩ 66 [(.int .u64 a0)] []) := by kernel_rfl
  rw [e, F66_eq0]; rfl

end Go.Det.E
