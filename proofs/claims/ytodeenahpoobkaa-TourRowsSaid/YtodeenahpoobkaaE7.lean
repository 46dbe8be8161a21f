/- Printed functions. -/
import Derived.Test.YtodeenahpoobkaaE5
import Derived.Test.YtodeenahpoobkaaDetT
import Derived.Test.YtodeenahpoobkaaDetX
import Derived.Test.YtodeenahpoobkaaProg
set_option autoImplicit false
set_option linter.unusedVariables false
set_option linter.unusedSimpArgs false
namespace Go.Det.E
open Go.Proofs Go.Det

/-- tombolo/tombololaw10.right -/
noncomputable def F31 (rc : Rec) (md : Md) (a0_0 : Int) (a0_1 : Int) (a0_2 : Int) (a0_3 : Value) (a0_4 : Value) (h0 : Heap) : Option (Value × Heap) :=
  let h1 : Heap := h0 ++ [.own [(.int .i64 a0_0), (.int .i64 a0_1), (.int .i64 a0_2), a0_3, a0_4]]
  ldN 3 (.pointer (some ⟨h0.length, 0, none⟩)) h1 fun v2 =>
  let h3 : Heap := h1 ++ [.own [(.int .i64 0), (.int .i64 0), (.int .i64 0)]]
  st md 3 (.pointer (some ⟨h1.length, 0, none⟩)) v2 h3 fun h4 =>
  ld1 (.pointer (some ⟨h1.length, 0, none⟩)) h4 fun v5 =>
  cIn .i64 v5 fun n6 =>
  ld1 (.pointer (some ⟨h1.length, 1, none⟩)) h4 fun v7 =>
  cIn .i64 v7 fun n8 =>
  ld1 (.pointer (some ⟨h1.length, 2, none⟩)) h4 fun v9 =>
  cIn .i64 v9 fun n10 =>
  cl (rc md 50 [(.agg #[(.int .i64 n6), (.int .i64 n8), (.int .i64 n10)])] h4) fun v11 h12 =>
  cBn v11 fun b13 =>
  (bif wantV (.bool b13) true then
  some ((.pointer (some ⟨h1.length, 0, none⟩)), h12)
  else some (undef, h12)).bind fun p14 =>
  (bif wantV (.bool b13) true then
  ld1 p14.1 p14.2 fun v15 =>
  cIn .i64 v15 fun n16 =>
  some ((.int .i64 n16), p14.2)
  else some (undef, p14.2)).bind fun p17 =>
  (bif wantV (.bool b13) true then
  aBin Try.prog .leq 3 p17.1 (.int .i64 8) fun v18 =>
  some (v18, p17.2)
  else some (undef, p17.2)).bind fun p19 =>
  cBn (bif b13 then p19.1 else (.bool false)) fun b20 =>
  (bif wantV (.bool b20) true then
  some ((.pointer (some ⟨h1.length, 1, none⟩)), p19.2)
  else some (undef, p19.2)).bind fun p21 =>
  (bif wantV (.bool b20) true then
  ld1 p21.1 p21.2 fun v22 =>
  cIn .i64 v22 fun n23 =>
  some ((.int .i64 n23), p21.2)
  else some (undef, p21.2)).bind fun p24 =>
  (bif wantV (.bool b20) true then
  aBin Try.prog .leq 3 p24.1 (.int .i64 8) fun v25 =>
  some (v25, p24.2)
  else some (undef, p24.2)).bind fun p26 =>
  cBn (bif b20 then p26.1 else (.bool false)) fun b27 =>
  (bif wantV (.bool b27) true then
  some ((.pointer (some ⟨h0.length, 3, none⟩)), p26.2)
  else some (undef, p26.2)).bind fun p28 =>
  (bif wantV (.bool b27) true then
  ld1 p28.1 p28.2 fun v29 =>
  some (v29, p28.2)
  else some (undef, p28.2)).bind fun p30 =>
  (bif wantV (.bool b27) true then
  lenS p30.1 fun v31 =>
  cIn .i64 v31 fun n32 =>
  some ((.int .i64 n32), p30.2)
  else some (undef, p30.2)).bind fun p33 =>
  (bif wantV (.bool b27) true then
  aBin Try.prog .leq 3 p33.1 (.int .i64 60) fun v34 =>
  some (v34, p33.2)
  else some (undef, p33.2)).bind fun p35 =>
  cBn (bif b27 then p35.1 else (.bool false)) fun b36 =>
  (bif wantV (.bool b36) true then
  some ((.pointer (some ⟨h0.length, 4, none⟩)), p35.2)
  else some (undef, p35.2)).bind fun p37 =>
  (bif wantV (.bool b36) true then
  ld1 p37.1 p37.2 fun v38 =>
  some (v38, p37.2)
  else some (undef, p37.2)).bind fun p39 =>
  (bif wantV (.bool b36) true then
  lenS p39.1 fun v40 =>
  cIn .i64 v40 fun n41 =>
  some ((.int .i64 n41), p39.2)
  else some (undef, p39.2)).bind fun p42 =>
  (bif wantV (.bool b36) true then
  aBin Try.prog .leq 3 p42.1 (.int .i64 60) fun v43 =>
  some (v43, p42.2)
  else some (undef, p42.2)).bind fun p44 =>
  cBn (bif b36 then p44.1 else (.bool false)) fun b45 =>
  some ((.bool b45), h0)
theorem F31_eq0 (rc : Rec) (md : Md) (a0_0 : Int) (a0_1 : Int) (a0_2 : Int) (a0_3 : Value) (a0_4 : Value) (h0 : Heap) : callStep0 Try.prog cfg rc md 31 [(.agg #[(.int .i64 a0_0), (.int .i64 a0_1), (.int .i64 a0_2), a0_3, a0_4])] h0 = F31 rc ⟨h0.length, h0.length⟩ a0_0 a0_1 a0_2 a0_3 a0_4 h0 := by kernel_rfl
theorem F31_eq (rc : Rec) (md : Md) (a0_0 : Int) (a0_1 : Int) (a0_2 : Int) (a0_3 : Value) (a0_4 : Value) (h0 : Heap) : callStep Try.prog cfg rc md 31 [(.agg #[(.int .i64 a0_0), (.int .i64 a0_1), (.int .i64 a0_2), a0_3, a0_4])] h0 = F31 rc ⟨h0.length, h0.length⟩ a0_0 a0_1 a0_2 a0_3 a0_4 h0 := (callStep_ne (by kernel_rfl)).trans (F31_eq0 rc md a0_0 a0_1 a0_2 a0_3 a0_4 h0)

/-- tombolo/tombololaw10.awake -/
noncomputable def F32 (rc : Rec) (md : Md)  (h0 : Heap) : Option (Value × Heap) :=
  cl (rc md 33 [(.agg #[(.int .i64 2), (.int .i64 1), (.int .i64 1), (.slice none 0 0), (.slice none 0 0)])] h0) fun v1 h2 =>
  aBin Try.prog .eql 68 v1 (.pointer none) fun v3 =>
  cBn v3 fun b4 =>
  bif b4 then
    some ((.bool false), List.take h0.length h2)
  else
    bif okNil Try.prog v1 then
    fA 3 v1 fun v5 =>
    ldN 6 v5 h2 fun v6 =>
    cl (rc md 46 [v6, (.int .i64 0), (.int .i64 0), (.int .i64 0), (.int .i64 1)] h2) fun v7 h8 =>
    cIn .i64 v7 fun n9 =>
    bif okNil Try.prog v1 then
    fA 3 v1 fun v10 =>
    fA 0 v10 fun v11 =>
    ldN 6 v11 h8 fun v12 =>
    cl (rc md 20 [v12, (.int .i64 n9)] h8) fun v13 h14 =>
    bif okNil Try.prog v1 then
    fA 3 v1 fun v15 =>
    ldN 6 v15 h14 fun v16 =>
    cLE true (fun hq => ldN 6 v15 hq some) v16 h8 h14 <|
    cl (rc md 38 [v16, (.int .i64 0), (.int .i64 0), (.int .i64 1)] h14) fun v17 h18 =>
    cBn v17 fun b19 =>
    bif okNil Try.prog v1 then
    fA 3 v1 fun v20 =>
    ldN 6 v20 h18 fun v21 =>
    cLE true (fun hq => ldN 6 v20 hq some) v21 h14 h18 <|
    cLE true (fun hq => ldN 6 v20 hq some) v21 h8 h14 <|
    cl (rc md 39 [v21, (.int .i64 0), (.int .i64 1)] h18) fun v22 h23 =>
    cIn .i64 v22 fun n24 =>
    bif okNil Try.prog v1 then
    fA 3 v1 fun v25 =>
    ldN 6 v25 h23 fun v26 =>
    cl (rc md 36 [v26, (.int .i64 0), (.int .i64 0)] h23) fun v27 h28 =>
    cBn v27 fun b29 =>
    bif okNil Try.prog v1 then
    fA 3 v1 fun v30 =>
    ldN 6 v30 h28 fun v31 =>
    cl (rc md 47 [v31, (.int .i64 0), (.int .i64 0)] h28) fun v32 h33 =>
    (bif wantV (.bool b19) true then
    some ((.int .i64 n24), h33)
    else some (undef, h33)).bind fun p34 =>
    (bif wantV (.bool b19) true then
    aBin Try.prog .eql 3 p34.1 (.int .i64 2) fun v35 =>
    some (v35, p34.2)
    else some (undef, p34.2)).bind fun p36 =>
    cBn (bif b19 then p36.1 else (.bool false)) fun b37 =>
    (bif wantV (.bool b37) true then
    some ((.bool b29), p36.2)
    else some (undef, p36.2)).bind fun p38 =>
    cBn (bif b37 then p38.1 else (.bool false)) fun b39 =>
    (bif wantV (.bool b39) true then
    some (v13, p38.2)
    else some (undef, p38.2)).bind fun p40 =>
    (bif wantV (.bool b39) true then
    lenS p40.1 fun v41 =>
    cIn .i64 v41 fun n42 =>
    some ((.int .i64 n42), p40.2)
    else some (undef, p40.2)).bind fun p43 =>
    (bif wantV (.bool b39) true then
    aBin Try.prog .eql 3 p43.1 (.int .i64 4) fun v44 =>
    some (v44, p43.2)
    else some (undef, p43.2)).bind fun p45 =>
    cBn (bif b39 then p45.1 else (.bool false)) fun b46 =>
    (bif wantV (.bool b46) true then
    some (v13, p45.2)
    else some (undef, p45.2)).bind fun p47 =>
    (bif wantV (.bool b46) true then
    ixS 1 p47.1 0 fun v48 =>
    some (v48, p47.2)
    else some (undef, p47.2)).bind fun p49 =>
    (bif wantV (.bool b46) true then
    ld1 p49.1 p49.2 fun v50 =>
    cIn .i64 v50 fun n51 =>
    some ((.int .i64 n51), p49.2)
    else some (undef, p49.2)).bind fun p52 =>
    (bif wantV (.bool b46) true then
    aBin Try.prog .eql 3 p52.1 (.int .i64 1) fun v53 =>
    some (v53, p52.2)
    else some (undef, p52.2)).bind fun p54 =>
    cBn (bif b46 then p54.1 else (.bool false)) fun b55 =>
    (bif wantV (.bool b55) true then
    some (v13, p54.2)
    else some (undef, p54.2)).bind fun p56 =>
    (bif wantV (.bool b55) true then
    ixS 1 p56.1 2 fun v57 =>
    some (v57, p56.2)
    else some (undef, p56.2)).bind fun p58 =>
    (bif wantV (.bool b55) true then
    ld1 p58.1 p58.2 fun v59 =>
    cIn .i64 v59 fun n60 =>
    some ((.int .i64 n60), p58.2)
    else some (undef, p58.2)).bind fun p61 =>
    (bif wantV (.bool b55) true then
    aBin Try.prog .eql 3 p61.1 (.int .i64 2) fun v62 =>
    some (v62, p61.2)
    else some (undef, p61.2)).bind fun p63 =>
    cBn (bif b55 then p63.1 else (.bool false)) fun b64 =>
    (bif wantV (.bool b64) true then
    some (v1, p63.2)
    else some (undef, p63.2)).bind fun p65 =>
    (bif wantV (.bool b64) true then
    bif okNil Try.prog p65.1 then
    some (p65.1, p65.2)
    else none
    else some (undef, p65.2)).bind fun p66 =>
    (bif wantV (.bool b64) true then
    fA 3 p66.1 fun v67 =>
    some (v67, p66.2)
    else some (undef, p66.2)).bind fun p68 =>
    (bif wantV (.bool b64) true then
    ldN 6 p68.1 p68.2 fun v69 =>
    some (v69, p68.2)
    else some (undef, p68.2)).bind fun p70 =>
    (bif wantV (.bool b64) true then
    cl (rc md 38 [p70.1, (.int .i64 0), (.int .i64 0), (.int .i64 1)] p70.2) fun v71 h72 =>
    cBn v71 fun b73 =>
    some ((.bool b73), h72)
    else some (undef, p70.2)).bind fun p74 =>
    (bif wantV (.bool b64) true then
    aUn .not p74.1 fun v75 =>
    some (v75, p74.2)
    else some (undef, p74.2)).bind fun p76 =>
    cBn (bif b64 then p76.1 else (.bool false)) fun b77 =>
    (bif wantV (.bool b77) true then
    some (v1, p76.2)
    else some (undef, p76.2)).bind fun p78 =>
    (bif wantV (.bool b77) true then
    bif okNil Try.prog p78.1 then
    some (p78.1, p78.2)
    else none
    else some (undef, p78.2)).bind fun p79 =>
    (bif wantV (.bool b77) true then
    fA 3 p79.1 fun v80 =>
    some (v80, p79.2)
    else some (undef, p79.2)).bind fun p81 =>
    (bif wantV (.bool b77) true then
    ldN 6 p81.1 p81.2 fun v82 =>
    some (v82, p81.2)
    else some (undef, p81.2)).bind fun p83 =>
    (bif wantV (.bool b77) true then
    cl (rc md 36 [p83.1, (.int .i64 0), (.int .i64 0)] p83.2) fun v84 h85 =>
    cBn v84 fun b86 =>
    some ((.bool b86), h85)
    else some (undef, p83.2)).bind fun p87 =>
    (bif wantV (.bool b77) true then
    aUn .not p87.1 fun v88 =>
    some (v88, p87.2)
    else some (undef, p87.2)).bind fun p89 =>
    cBn (bif b77 then p89.1 else (.bool false)) fun b90 =>
    (bif wantV (.bool b90) true then
    some (v1, p89.2)
    else some (undef, p89.2)).bind fun p91 =>
    (bif wantV (.bool b90) true then
    bif okNil Try.prog p91.1 then
    some (p91.1, p91.2)
    else none
    else some (undef, p91.2)).bind fun p92 =>
    (bif wantV (.bool b90) true then
    fA 3 p92.1 fun v93 =>
    some (v93, p92.2)
    else some (undef, p92.2)).bind fun p94 =>
    (bif wantV (.bool b90) true then
    ldN 6 p94.1 p94.2 fun v95 =>
    some (v95, p94.2)
    else some (undef, p94.2)).bind fun p96 =>
    (bif wantV (.bool b90) true then
    cl (rc md 39 [p96.1, (.int .i64 0), (.int .i64 0)] p96.2) fun v97 h98 =>
    cIn .i64 v97 fun n99 =>
    some ((.int .i64 n99), h98)
    else some (undef, p96.2)).bind fun p100 =>
    (bif wantV (.bool b90) true then
    aBin Try.prog .eql 3 p100.1 (.int .i64 1) fun v101 =>
    some (v101, p100.2)
    else some (undef, p100.2)).bind fun p102 =>
    cBn (bif b90 then p102.1 else (.bool false)) fun b103 =>
    some ((.bool b103), List.take h0.length p102.2)
    else none
    else none
    else none
    else none
    else none
    else none
theorem F32_eq0 (rc : Rec) (md : Md)  (h0 : Heap) : callStep0 Try.prog cfg rc md 32 [] h0 = F32 rc ⟨md.ro, h0.length⟩  h0 := by kernel_rfl
theorem F32_eq (rc : Rec) (md : Md)  (h0 : Heap) : callStep Try.prog cfg rc md 32 [] h0 = F32 rc ⟨md.ro, h0.length⟩  h0 := (callStep_ne (by kernel_rfl)).trans (F32_eq0 rc md  h0)

/-- tombolo/tombololaw10.begun -/
noncomputable def Jk33_2 (rc : Rec) (md : Md) (h0 : Heap) (e : Exit) (s2 : Value) (s3 : Value) (s8 : Value) (s67 : Value) (s68 : Value) (h : Heap) : Option (Value × Heap) :=
  match e with
  | .normal =>
    some (s8, h)
  | .exit j =>
    bif Nat.beq j 2 then
      some (s8, h)
    else
      none
  | .ret =>
    some (s2, h)
  | .goto l => none
  | .panic ps => none
  | .outgrown => none
theorem Jk33_2_at (rc : Rec) (md : Md) (h0 : Heap) (e : Exit) (t : T) (h : Heap) : kAt Try.prog cfg rc md 120 (bodyOf Try.prog 33) [1, 1, 1, 1, 1, 1, 1, 0, 1, 0] (retK Try.prog cfg 33 (rsOf Try.prog 33) h0) e t h = Jk33_2 rc md h0 e (t 2) (t 3) (t 8) (t 67) (t 68) h := by cases e <;> kernel_rfl
noncomputable def J33_2b3 (rc : Rec) (md : Md) (s2 : Value) (s3 : Value) (s8 : Value) (s10 : Value) (s12 : Value) (s67 : Value) (s68 : Value) (h : Heap) : Option (((Value × Value × Value × Value × Value) × Heap) ⊕ (Exit × (Value × Value × Value × Value × Value) × Heap)) :=
  bif okNil Try.prog s8 then
  fA 9 s8 fun v1 =>
  ld1 v1 h fun v2 =>
  aBuildSlice Try.prog 75 1 [(0, s10)] h fun v3 h4 =>
  cLE true (fun hq => ld1 v1 hq some) v2 h h4 <|
  aBuiltin Try.prog md .append #[75, 75] [v2, v3] h4 fun v5 h6 =>
  bif okNil Try.prog s8 then
  fA 10 s8 fun v7 =>
  ld1 v7 h6 fun v8 =>
  cLE true (fun hq => ld1 v7 hq some) v8 h4 h6 <|
  cLE true (fun hq => ld1 v7 hq some) v8 h h4 <|
  aBuildSlice Try.prog 76 1 [(0, s12)] h6 fun v9 h10 =>
  cLE true (fun hq => ld1 v7 hq some) v8 h6 h10 <|
  cLE true (fun hq => ld1 v1 hq some) v2 h6 h10 <|
  aBuiltin Try.prog md .append #[76, 76] [v8, v9] h10 fun v11 h12 =>
  bif okNil Try.prog s8 then
  fA 9 s8 fun v13 =>
  st md 1 v13 v5 h12 fun h14 =>
  bif okNil Try.prog s8 then
  fA 10 s8 fun v15 =>
  st md 1 v15 v11 h14 fun h16 =>
  aBin Try.prog .add 3 s68 (.int .i64 1) fun v17 =>
  some (.inl ((s2, s3, s8, s67, v17), h16))
  else none
  else none
  else none
  else none
theorem J33_2b3_at (rc : Rec) (md : Md) (t : T) (h : Heap) : cut Try.prog cfg rc md 120 (sub (bodyOf Try.prog 33) [1, 1, 1, 1, 1, 1, 1, 0, 1, 0, 0]) [1, 1, 0, 0, 1, 1, 1, 1, 1] (rndK (fun t => (t 2, t 3, t 8, t 67, t 68))) t h = J33_2b3 rc md (t 2) (t 3) (t 8) (t 10) (t 12) (t 67) (t 68) h := by kernel_rfl
theorem J33_2b3_cut (rc : Rec) (md : Md) : cut Try.prog cfg rc md 120 (sub (bodyOf Try.prog 33) [1, 1, 1, 1, 1, 1, 1, 0, 1, 0, 0]) [1, 1, 0, 0, 1, 1, 1, 1, 1] (rndK (fun t => (t 2, t 3, t 8, t 67, t 68))) = fun t h => J33_2b3 rc md (t 2) (t 3) (t 8) (t 10) (t 12) (t 67) (t 68) h := funext fun t => funext fun h => J33_2b3_at rc md t h
noncomputable def Jk33_2b2 (rc : Rec) (md : Md) (e : Exit) (s2 : Value) (s3 : Value) (s8 : Value) (s10 : Value) (s12 : Value) (s67 : Value) (s68 : Value) (s89 : Value) (s90 : Value) (h : Heap) : Option (((Value × Value × Value × Value × Value) × Heap) ⊕ (Exit × (Value × Value × Value × Value × Value) × Heap)) :=
  match e with
  | .normal =>
    J33_2b3 rc md s2 s3 s8 s10 s12 s67 s68 h
  | .exit j =>
    bif Nat.beq j 6 then
      J33_2b3 rc md s2 s3 s8 s10 s12 s67 s68 h
    else
      bif Nat.beq j 3 then
        aBin Try.prog .add 3 s68 (.int .i64 1) fun v1 =>
        some (.inl ((s2, s3, s8, s67, v1), h))
      else
        some (.inr ((.exit j), (s2, s3, s8, s67, s68), h))
  | .ret =>
    some (.inr (.ret, (s2, s3, s8, s67, s68), h))
  | .goto l => some (.inr ((.goto l), (s2, s3, s8, s67, s68), h))
  | .panic ps => some (.inr ((.panic ps), (s2, s3, s8, s67, s68), h))
  | .outgrown => some (.inr (.outgrown, (s2, s3, s8, s67, s68), h))
noncomputable def Jk33_2b2H (rc : Rec) (md : Md) (X2 : T → Heap → Option (((Value × Value × Value × Value × Value) × Heap) ⊕ (Exit × (Value × Value × Value × Value × Value) × Heap))) (e : Exit) (t : T) (h : Heap) : Option (((Value × Value × Value × Value × Value) × Heap) ⊕ (Exit × (Value × Value × Value × Value × Value) × Heap)) :=
  match e with
  | .normal =>
    X2 t h
  | .exit j =>
    bif Nat.beq j 6 then
      X2 t h
    else
      bif Nat.beq j 3 then
        aBin Try.prog .add 3 (t 68) (.int .i64 1) fun v1 =>
        some (.inl (((t 2), (t 3), (t 8), (t 67), v1), h))
      else
        some (.inr ((.exit j), ((t 2), (t 3), (t 8), (t 67), (t 68)), h))
  | .ret =>
    some (.inr (.ret, ((t 2), (t 3), (t 8), (t 67), (t 68)), h))
  | .goto l => some (.inr ((.goto l), ((t 2), (t 3), (t 8), (t 67), (t 68)), h))
  | .panic ps => some (.inr ((.panic ps), ((t 2), (t 3), (t 8), (t 67), (t 68)), h))
  | .outgrown => some (.inr (.outgrown, ((t 2), (t 3), (t 8), (t 67), (t 68)), h))
theorem Jk33_2b2_h1 (rc : Rec) (md : Md) (X : Nat → T → Heap → Option (((Value × Value × Value × Value × Value) × Heap) ⊕ (Exit × (Value × Value × Value × Value × Value) × Heap))) (e : Exit) (t : T) (h : Heap) : kAtG Try.prog cfg X rc md 120 (replS (sub (bodyOf Try.prog 33) [1, 1, 1, 1, 1, 1, 1, 0, 1, 0, 0]) [([1, 1, 0, 0, 1, 1, 0, 1, 0], 0), ([1, 1, 0, 0, 1, 1, 1, 1, 1], 2)]) [1, 1, 0, 0, 1, 1, 1, 1, 0, 1, 0] (rndK (fun t => (t 2, t 3, t 8, t 67, t 68))) e t h = Jk33_2b2H rc md (X 2) e t h := by cases e <;> kernel_rfl
theorem Jk33_2b2_h2 (rc : Rec) (md : Md) (e : Exit) (t : T) (h : Heap) : Jk33_2b2H rc md (fun t h => J33_2b3 rc md (t 2) (t 3) (t 8) (t 10) (t 12) (t 67) (t 68) h) e t h = Jk33_2b2 rc md e (t 2) (t 3) (t 8) (t 10) (t 12) (t 67) (t 68) (t 89) (t 90) h := by cases e <;> (unfold Jk33_2b2H Jk33_2b2; kernel_rfl)
theorem Jk33_2b2_at (rc : Rec) (md : Md) (e : Exit) (t : T) (h : Heap) : kAt Try.prog cfg rc md 120 (sub (bodyOf Try.prog 33) [1, 1, 1, 1, 1, 1, 1, 0, 1, 0, 0]) [1, 1, 0, 0, 1, 1, 1, 1, 0, 1, 0] (rndK (fun t => (t 2, t 3, t 8, t 67, t 68))) e t h = Jk33_2b2 rc md e (t 2) (t 3) (t 8) (t 10) (t 12) (t 67) (t 68) (t 89) (t 90) h := by
  rw [kAt_holes [([1, 1, 0, 0, 1, 1, 0, 1, 0], 0), ([1, 1, 0, 0, 1, 1, 1, 1, 1], 2)] [1, 1, 0, 0, 1, 1, 1, 1, 0, 1, 0] (by kernel_rfl), Jk33_2b2_h1, show (goX Try.prog cfg rc md 120 (sub (bodyOf Try.prog 33) [1, 1, 1, 1, 1, 1, 1, 0, 1, 0, 0]) [([1, 1, 0, 0, 1, 1, 0, 1, 0], 0), ([1, 1, 0, 0, 1, 1, 1, 1, 1], 2)] (rndK (fun t => (t 2, t 3, t 8, t 67, t 68)))) 2 = _ from J33_2b3_cut rc md]
  exact Jk33_2b2_h2 rc md e t h
/-- a round -/
noncomputable def Jr33_2b2 (rc : Rec) (md : Md) (s2 : Value) (s3 : Value) (s8 : Value) (s10 : Value) (s12 : Value) (s67 : Value) (s68 : Value) (s89 : Value) (s90 : Value) (h : Heap) : Option (((Value × Value × Value × Value × Value × Value × Value × Value × Value) × Heap) ⊕ (Exit × (Value × Value × Value × Value × Value × Value × Value × Value × Value) × Heap)) :=
  aBin Try.prog .lss 3 s90 s89 fun v1 =>
  cBn v1 fun b2 =>
  bif b2 then
    ixSV 2 s12 s90 fun v3 =>
    st md 2 v3 (.agg #[(.int .i64 (-1)), (.int .i64 (-1))]) h fun h4 =>
    aBin Try.prog .add 3 s90 (.int .i64 1) fun v5 =>
    some (.inl ((s2, s3, s8, s10, s12, s67, s68, s89, v5), h4))
  else
    some (.inr ((.exit 6), (s2, s3, s8, s10, s12, s67, s68, s89, s90), h))
theorem Jr33_2b2_at (rc : Rec) (md : Md) (t : T) (h : Heap) : exec Try.prog cfg rc md 120 (sub (bodyOf Try.prog 33) [1, 1, 1, 1, 1, 1, 1, 0, 1, 0, 0, 1, 1, 0, 0, 1, 1, 1, 1, 0, 1, 0, 0]) (rndK (fun t => (t 2, t 3, t 8, t 10, t 12, t 67, t 68, t 89, t 90))) t h = Jr33_2b2 rc md (t 2) (t 3) (t 8) (t 10) (t 12) (t 67) (t 68) (t 89) (t 90) h := by kernel_rfl
noncomputable def J33_2b2 (rc : Rec) (md : Md) (s2 : Value) (s3 : Value) (s8 : Value) (s10 : Value) (s12 : Value) (s67 : Value) (s68 : Value) (s89 : Value) (s90 : Value) (h : Heap) : Option (((Value × Value × Value × Value × Value) × Heap) ⊕ (Exit × (Value × Value × Value × Value × Value) × Heap)) :=
  runL (fun x : (Value × Value × Value × Value × Value × Value × Value × Value × Value) × Heap => Jr33_2b2 rc md x.1.1 x.1.2.1 x.1.2.2.1 x.1.2.2.2.1 x.1.2.2.2.2.1 x.1.2.2.2.2.2.1 x.1.2.2.2.2.2.2.1 x.1.2.2.2.2.2.2.2.1 x.1.2.2.2.2.2.2.2.2 x.2) (fun e (s : Value × Value × Value × Value × Value × Value × Value × Value × Value) h => Jk33_2b2 rc md e s.1 s.2.1 s.2.2.1 s.2.2.2.1 s.2.2.2.2.1 s.2.2.2.2.2.1 s.2.2.2.2.2.2.1 s.2.2.2.2.2.2.2.1 s.2.2.2.2.2.2.2.2 h) (s2, s3, s8, s10, s12, s67, s68, s89, s90) h
theorem J33_2b2_step (rc : Rec) (md : Md) (s2 : Value) (s3 : Value) (s8 : Value) (s10 : Value) (s12 : Value) (s67 : Value) (s68 : Value) (s89 : Value) (s90 : Value) (h : Heap) : J33_2b2 rc md s2 s3 s8 s10 s12 s67 s68 s89 s90 h = (Jr33_2b2 rc md s2 s3 s8 s10 s12 s67 s68 s89 s90 h).bind fun x => match x with
    | .inl (s, h) => J33_2b2 rc md s.1 s.2.1 s.2.2.1 s.2.2.2.1 s.2.2.2.2.1 s.2.2.2.2.2.1 s.2.2.2.2.2.2.1 s.2.2.2.2.2.2.2.1 s.2.2.2.2.2.2.2.2 h
    | .inr (e, s, h) => Jk33_2b2 rc md e s.1 s.2.1 s.2.2.1 s.2.2.2.1 s.2.2.2.2.1 s.2.2.2.2.2.1 s.2.2.2.2.2.2.1 s.2.2.2.2.2.2.2.1 s.2.2.2.2.2.2.2.2 h := by
  unfold J33_2b2
  rw [runL_eq]
  refine congrArg (Option.bind _) (funext fun x => ?_)
  rcases x with ⟨s, h⟩ | ⟨e, s, h⟩ <;> rfl
theorem J33_2b2_cut (rc : Rec) (md : Md) : cut Try.prog cfg rc md 120 (sub (bodyOf Try.prog 33) [1, 1, 1, 1, 1, 1, 1, 0, 1, 0, 0]) [1, 1, 0, 0, 1, 1, 1, 1, 0, 1, 0] (rndK (fun t => (t 2, t 3, t 8, t 67, t 68))) = fun t h => J33_2b2 rc md (t 2) (t 3) (t 8) (t 10) (t 12) (t 67) (t 68) (t 89) (t 90) h := by
  funext t h
  have e : sub (sub (bodyOf Try.prog 33) [1, 1, 1, 1, 1, 1, 1, 0, 1, 0, 0]) [1, 1, 0, 0, 1, 1, 1, 1, 0, 1, 0] = .loop (sub (bodyOf Try.prog 33) [1, 1, 1, 1, 1, 1, 1, 0, 1, 0, 0, 1, 1, 0, 0, 1, 1, 1, 1, 0, 1, 0, 0]) := by kernel_rfl
  unfold cut
  rw [e]
  exact loop_eq (by kernel_rfl) (fun t => (t 2, t 3, t 8, t 10, t 12, t 67, t 68, t 89, t 90)) (fun x : (Value × Value × Value × Value × Value × Value × Value × Value × Value) × Heap => Jr33_2b2 rc md x.1.1 x.1.2.1 x.1.2.2.1 x.1.2.2.2.1 x.1.2.2.2.2.1 x.1.2.2.2.2.2.1 x.1.2.2.2.2.2.2.1 x.1.2.2.2.2.2.2.2.1 x.1.2.2.2.2.2.2.2.2 x.2) (fun t h => Jr33_2b2_at rc md t h) (fun e (s : Value × Value × Value × Value × Value × Value × Value × Value × Value) h => Jk33_2b2 rc md e s.1 s.2.1 s.2.2.1 s.2.2.2.1 s.2.2.2.2.1 s.2.2.2.2.2.1 s.2.2.2.2.2.2.1 s.2.2.2.2.2.2.2.1 s.2.2.2.2.2.2.2.2 h) (fun e t h => Jk33_2b2_at rc md e t h) t h
noncomputable def J33_2b1 (rc : Rec) (md : Md) (s2 : Value) (s3 : Value) (s8 : Value) (s10 : Value) (s67 : Value) (s68 : Value) (h : Heap) : Option (((Value × Value × Value × Value × Value) × Heap) ⊕ (Exit × (Value × Value × Value × Value × Value) × Heap)) :=
  fA 1 s3 fun v1 =>
  ld1 v1 h fun v2 =>
  cIn .i64 v2 fun n3 =>
  aMakeSlice Try.prog 81 (.int .i64 n3) (.int .i64 n3) h fun v4 h5 =>
  lenS v4 fun v6 =>
  cIn .i64 v6 fun n7 =>
  J33_2b2 rc md s2 s3 s8 s10 v4 s67 s68 (.int .i64 n7) (.int .i64 0) h5
noncomputable def J33_2b1H (rc : Rec) (md : Md) (X1 : T → Heap → Option (((Value × Value × Value × Value × Value) × Heap) ⊕ (Exit × (Value × Value × Value × Value × Value) × Heap))) (t : T) (h : Heap) : Option (((Value × Value × Value × Value × Value) × Heap) ⊕ (Exit × (Value × Value × Value × Value × Value) × Heap)) :=
  fA 1 (t 3) fun v1 =>
  ld1 v1 h fun v2 =>
  cIn .i64 v2 fun n3 =>
  aMakeSlice Try.prog 81 (.int .i64 n3) (.int .i64 n3) h fun v4 h5 =>
  lenS v4 fun v6 =>
  cIn .i64 v6 fun n7 =>
  X1 (upd (upd (upd (upd (upd (upd (upd t 85 v1) 86 (.int .i64 n3)) 87 v4) 12 v4) 88 v4) 89 (.int .i64 n7)) 90 (.int .i64 0)) h5
theorem J33_2b1_h1 (rc : Rec) (md : Md) (X : Nat → T → Heap → Option (((Value × Value × Value × Value × Value) × Heap) ⊕ (Exit × (Value × Value × Value × Value × Value) × Heap))) (t : T) (h : Heap) : execG Try.prog cfg X rc md 120 (sub (replS (sub (bodyOf Try.prog 33) [1, 1, 1, 1, 1, 1, 1, 0, 1, 0, 0]) [([1, 1, 0, 0, 1, 1, 0, 1, 0], 0), ([1, 1, 0, 0, 1, 1, 1, 1, 0, 1, 0], 1), ([1, 1, 0, 0, 1, 1, 1, 1, 1], 2)]) [1, 1, 0, 0, 1, 1, 1]) (kAtG Try.prog cfg X rc md 120 (replS (sub (bodyOf Try.prog 33) [1, 1, 1, 1, 1, 1, 1, 0, 1, 0, 0]) [([1, 1, 0, 0, 1, 1, 0, 1, 0], 0), ([1, 1, 0, 0, 1, 1, 1, 1, 0, 1, 0], 1), ([1, 1, 0, 0, 1, 1, 1, 1, 1], 2)]) [1, 1, 0, 0, 1, 1, 1] (rndK (fun t => (t 2, t 3, t 8, t 67, t 68)))) t h = J33_2b1H rc md (X 1) t h := by kernel_rfl
theorem J33_2b1_h2 (rc : Rec) (md : Md) (t : T) (h : Heap) : J33_2b1H rc md (fun t h => J33_2b2 rc md (t 2) (t 3) (t 8) (t 10) (t 12) (t 67) (t 68) (t 89) (t 90) h) t h = J33_2b1 rc md (t 2) (t 3) (t 8) (t 10) (t 67) (t 68) h := by (unfold J33_2b1H J33_2b1; kernel_rfl)
theorem J33_2b1_at (rc : Rec) (md : Md) (t : T) (h : Heap) : cut Try.prog cfg rc md 120 (sub (bodyOf Try.prog 33) [1, 1, 1, 1, 1, 1, 1, 0, 1, 0, 0]) [1, 1, 0, 0, 1, 1, 1] (rndK (fun t => (t 2, t 3, t 8, t 67, t 68))) t h = J33_2b1 rc md (t 2) (t 3) (t 8) (t 10) (t 67) (t 68) h := by
  rw [cut_holes [([1, 1, 0, 0, 1, 1, 0, 1, 0], 0), ([1, 1, 0, 0, 1, 1, 1, 1, 0, 1, 0], 1), ([1, 1, 0, 0, 1, 1, 1, 1, 1], 2)] [1, 1, 0, 0, 1, 1, 1] (by kernel_rfl), J33_2b1_h1, show (goX Try.prog cfg rc md 120 (sub (bodyOf Try.prog 33) [1, 1, 1, 1, 1, 1, 1, 0, 1, 0, 0]) [([1, 1, 0, 0, 1, 1, 0, 1, 0], 0), ([1, 1, 0, 0, 1, 1, 1, 1, 0, 1, 0], 1), ([1, 1, 0, 0, 1, 1, 1, 1, 1], 2)] (rndK (fun t => (t 2, t 3, t 8, t 67, t 68)))) 1 = _ from J33_2b2_cut rc md]
  exact J33_2b1_h2 rc md t h
theorem J33_2b1_cut (rc : Rec) (md : Md) : cut Try.prog cfg rc md 120 (sub (bodyOf Try.prog 33) [1, 1, 1, 1, 1, 1, 1, 0, 1, 0, 0]) [1, 1, 0, 0, 1, 1, 1] (rndK (fun t => (t 2, t 3, t 8, t 67, t 68))) = fun t h => J33_2b1 rc md (t 2) (t 3) (t 8) (t 10) (t 67) (t 68) h := funext fun t => funext fun h => J33_2b1_at rc md t h
noncomputable def Jk33_2b0 (rc : Rec) (md : Md) (e : Exit) (s2 : Value) (s3 : Value) (s8 : Value) (s9 : Value) (s10 : Value) (s67 : Value) (s68 : Value) (s72 : Value) (s73 : Value) (h : Heap) : Option (((Value × Value × Value × Value × Value) × Heap) ⊕ (Exit × (Value × Value × Value × Value × Value) × Heap)) :=
  match e with
  | .normal =>
    J33_2b1 rc md s2 s3 s8 s10 s67 s68 h
  | .exit j =>
    bif Nat.beq j 4 then
      J33_2b1 rc md s2 s3 s8 s10 s67 s68 h
    else
      bif Nat.beq j 3 then
        aBin Try.prog .add 3 s68 (.int .i64 1) fun v1 =>
        some (.inl ((s2, s3, s8, s67, v1), h))
      else
        some (.inr ((.exit j), (s2, s3, s8, s67, s68), h))
  | .ret =>
    some (.inr (.ret, (s2, s3, s8, s67, s68), h))
  | .goto l => some (.inr ((.goto l), (s2, s3, s8, s67, s68), h))
  | .panic ps => some (.inr ((.panic ps), (s2, s3, s8, s67, s68), h))
  | .outgrown => some (.inr (.outgrown, (s2, s3, s8, s67, s68), h))
noncomputable def Jk33_2b0H (rc : Rec) (md : Md) (X3 : T → Heap → Option (((Value × Value × Value × Value × Value) × Heap) ⊕ (Exit × (Value × Value × Value × Value × Value) × Heap))) (e : Exit) (t : T) (h : Heap) : Option (((Value × Value × Value × Value × Value) × Heap) ⊕ (Exit × (Value × Value × Value × Value × Value) × Heap)) :=
  match e with
  | .normal =>
    X3 t h
  | .exit j =>
    bif Nat.beq j 4 then
      X3 t h
    else
      bif Nat.beq j 3 then
        aBin Try.prog .add 3 (t 68) (.int .i64 1) fun v1 =>
        some (.inl (((t 2), (t 3), (t 8), (t 67), v1), h))
      else
        some (.inr ((.exit j), ((t 2), (t 3), (t 8), (t 67), (t 68)), h))
  | .ret =>
    some (.inr (.ret, ((t 2), (t 3), (t 8), (t 67), (t 68)), h))
  | .goto l => some (.inr ((.goto l), ((t 2), (t 3), (t 8), (t 67), (t 68)), h))
  | .panic ps => some (.inr ((.panic ps), ((t 2), (t 3), (t 8), (t 67), (t 68)), h))
  | .outgrown => some (.inr (.outgrown, ((t 2), (t 3), (t 8), (t 67), (t 68)), h))
theorem Jk33_2b0_h1 (rc : Rec) (md : Md) (X : Nat → T → Heap → Option (((Value × Value × Value × Value × Value) × Heap) ⊕ (Exit × (Value × Value × Value × Value × Value) × Heap))) (e : Exit) (t : T) (h : Heap) : kAtG Try.prog cfg X rc md 120 (replS (sub (bodyOf Try.prog 33) [1, 1, 1, 1, 1, 1, 1, 0, 1, 0, 0]) [([1, 1, 0, 0, 1, 1, 1, 1, 0, 1, 0], 1), ([1, 1, 0, 0, 1, 1, 1, 1, 1], 2), ([1, 1, 0, 0, 1, 1, 1], 3)]) [1, 1, 0, 0, 1, 1, 0, 1, 0] (rndK (fun t => (t 2, t 3, t 8, t 67, t 68))) e t h = Jk33_2b0H rc md (X 3) e t h := by cases e <;> kernel_rfl
theorem Jk33_2b0_h2 (rc : Rec) (md : Md) (e : Exit) (t : T) (h : Heap) : Jk33_2b0H rc md (fun t h => J33_2b1 rc md (t 2) (t 3) (t 8) (t 10) (t 67) (t 68) h) e t h = Jk33_2b0 rc md e (t 2) (t 3) (t 8) (t 9) (t 10) (t 67) (t 68) (t 72) (t 73) h := by cases e <;> (unfold Jk33_2b0H Jk33_2b0; kernel_rfl)
theorem Jk33_2b0_at (rc : Rec) (md : Md) (e : Exit) (t : T) (h : Heap) : kAt Try.prog cfg rc md 120 (sub (bodyOf Try.prog 33) [1, 1, 1, 1, 1, 1, 1, 0, 1, 0, 0]) [1, 1, 0, 0, 1, 1, 0, 1, 0] (rndK (fun t => (t 2, t 3, t 8, t 67, t 68))) e t h = Jk33_2b0 rc md e (t 2) (t 3) (t 8) (t 9) (t 10) (t 67) (t 68) (t 72) (t 73) h := by
  rw [kAt_holes [([1, 1, 0, 0, 1, 1, 1, 1, 0, 1, 0], 1), ([1, 1, 0, 0, 1, 1, 1, 1, 1], 2), ([1, 1, 0, 0, 1, 1, 1], 3)] [1, 1, 0, 0, 1, 1, 0, 1, 0] (by kernel_rfl), Jk33_2b0_h1, show (goX Try.prog cfg rc md 120 (sub (bodyOf Try.prog 33) [1, 1, 1, 1, 1, 1, 1, 0, 1, 0, 0]) [([1, 1, 0, 0, 1, 1, 1, 1, 0, 1, 0], 1), ([1, 1, 0, 0, 1, 1, 1, 1, 1], 2), ([1, 1, 0, 0, 1, 1, 1], 3)] (rndK (fun t => (t 2, t 3, t 8, t 67, t 68)))) 3 = _ from J33_2b1_cut rc md]
  exact Jk33_2b0_h2 rc md e t h
/-- a round -/
noncomputable def Jr33_2b0 (rc : Rec) (md : Md) (s2 : Value) (s3 : Value) (s8 : Value) (s9 : Value) (s10 : Value) (s67 : Value) (s68 : Value) (s72 : Value) (s73 : Value) (h : Heap) : Option (((Value × Value × Value × Value × Value × Value × Value × Value × Value) × Heap) ⊕ (Exit × (Value × Value × Value × Value × Value × Value × Value × Value × Value) × Heap)) :=
  aBin Try.prog .lss 3 s73 s72 fun v1 =>
  cBn v1 fun b2 =>
  bif b2 then
    ldN 3 s3 h fun v3 =>
    cl (rc md 44 [v3, s9, s73] h) fun v4 h5 =>
    cIn .i64 v4 fun n6 =>
    let h7 : Heap := h5 ++ [.own [(.int .i64 n6)]]
    aBuildSlice Try.prog 43 1 [(0, (.slice (some ⟨h5.length, 0, none⟩) 1 1))] h7 fun v8 h9 =>
    aBuiltin Try.prog md .append #[43, 43] [s10, v8] h9 fun v10 h11 =>
    aBin Try.prog .add 3 s73 (.int .i64 1) fun v12 =>
    some (.inl ((s2, s3, s8, s9, v10, s67, s68, s72, v12), h11))
  else
    some (.inr ((.exit 4), (s2, s3, s8, s9, s10, s67, s68, s72, s73), h))
theorem Jr33_2b0_at (rc : Rec) (md : Md) (t : T) (h : Heap) : exec Try.prog cfg rc md 120 (sub (bodyOf Try.prog 33) [1, 1, 1, 1, 1, 1, 1, 0, 1, 0, 0, 1, 1, 0, 0, 1, 1, 0, 1, 0, 0]) (rndK (fun t => (t 2, t 3, t 8, t 9, t 10, t 67, t 68, t 72, t 73))) t h = Jr33_2b0 rc md (t 2) (t 3) (t 8) (t 9) (t 10) (t 67) (t 68) (t 72) (t 73) h := by kernel_rfl
noncomputable def J33_2b0 (rc : Rec) (md : Md) (s2 : Value) (s3 : Value) (s8 : Value) (s9 : Value) (s10 : Value) (s67 : Value) (s68 : Value) (s72 : Value) (s73 : Value) (h : Heap) : Option (((Value × Value × Value × Value × Value) × Heap) ⊕ (Exit × (Value × Value × Value × Value × Value) × Heap)) :=
  runL (fun x : (Value × Value × Value × Value × Value × Value × Value × Value × Value) × Heap => Jr33_2b0 rc md x.1.1 x.1.2.1 x.1.2.2.1 x.1.2.2.2.1 x.1.2.2.2.2.1 x.1.2.2.2.2.2.1 x.1.2.2.2.2.2.2.1 x.1.2.2.2.2.2.2.2.1 x.1.2.2.2.2.2.2.2.2 x.2) (fun e (s : Value × Value × Value × Value × Value × Value × Value × Value × Value) h => Jk33_2b0 rc md e s.1 s.2.1 s.2.2.1 s.2.2.2.1 s.2.2.2.2.1 s.2.2.2.2.2.1 s.2.2.2.2.2.2.1 s.2.2.2.2.2.2.2.1 s.2.2.2.2.2.2.2.2 h) (s2, s3, s8, s9, s10, s67, s68, s72, s73) h
theorem J33_2b0_step (rc : Rec) (md : Md) (s2 : Value) (s3 : Value) (s8 : Value) (s9 : Value) (s10 : Value) (s67 : Value) (s68 : Value) (s72 : Value) (s73 : Value) (h : Heap) : J33_2b0 rc md s2 s3 s8 s9 s10 s67 s68 s72 s73 h = (Jr33_2b0 rc md s2 s3 s8 s9 s10 s67 s68 s72 s73 h).bind fun x => match x with
    | .inl (s, h) => J33_2b0 rc md s.1 s.2.1 s.2.2.1 s.2.2.2.1 s.2.2.2.2.1 s.2.2.2.2.2.1 s.2.2.2.2.2.2.1 s.2.2.2.2.2.2.2.1 s.2.2.2.2.2.2.2.2 h
    | .inr (e, s, h) => Jk33_2b0 rc md e s.1 s.2.1 s.2.2.1 s.2.2.2.1 s.2.2.2.2.1 s.2.2.2.2.2.1 s.2.2.2.2.2.2.1 s.2.2.2.2.2.2.2.1 s.2.2.2.2.2.2.2.2 h := by
  unfold J33_2b0
  rw [runL_eq]
  refine congrArg (Option.bind _) (funext fun x => ?_)
  rcases x with ⟨s, h⟩ | ⟨e, s, h⟩ <;> rfl
theorem J33_2b0_cut (rc : Rec) (md : Md) : cut Try.prog cfg rc md 120 (sub (bodyOf Try.prog 33) [1, 1, 1, 1, 1, 1, 1, 0, 1, 0, 0]) [1, 1, 0, 0, 1, 1, 0, 1, 0] (rndK (fun t => (t 2, t 3, t 8, t 67, t 68))) = fun t h => J33_2b0 rc md (t 2) (t 3) (t 8) (t 9) (t 10) (t 67) (t 68) (t 72) (t 73) h := by
  funext t h
  have e : sub (sub (bodyOf Try.prog 33) [1, 1, 1, 1, 1, 1, 1, 0, 1, 0, 0]) [1, 1, 0, 0, 1, 1, 0, 1, 0] = .loop (sub (bodyOf Try.prog 33) [1, 1, 1, 1, 1, 1, 1, 0, 1, 0, 0, 1, 1, 0, 0, 1, 1, 0, 1, 0, 0]) := by kernel_rfl
  unfold cut
  rw [e]
  exact loop_eq (by kernel_rfl) (fun t => (t 2, t 3, t 8, t 9, t 10, t 67, t 68, t 72, t 73)) (fun x : (Value × Value × Value × Value × Value × Value × Value × Value × Value) × Heap => Jr33_2b0 rc md x.1.1 x.1.2.1 x.1.2.2.1 x.1.2.2.2.1 x.1.2.2.2.2.1 x.1.2.2.2.2.2.1 x.1.2.2.2.2.2.2.1 x.1.2.2.2.2.2.2.2.1 x.1.2.2.2.2.2.2.2.2 x.2) (fun t h => Jr33_2b0_at rc md t h) (fun e (s : Value × Value × Value × Value × Value × Value × Value × Value × Value) h => Jk33_2b0 rc md e s.1 s.2.1 s.2.2.1 s.2.2.2.1 s.2.2.2.2.1 s.2.2.2.2.2.1 s.2.2.2.2.2.2.1 s.2.2.2.2.2.2.2.1 s.2.2.2.2.2.2.2.2 h) (fun e t h => Jk33_2b0_at rc md e t h) t h
/-- a round -/
noncomputable def Jr33_2 (rc : Rec) (md : Md) (s2 : Value) (s3 : Value) (s8 : Value) (s67 : Value) (s68 : Value) (h : Heap) : Option (((Value × Value × Value × Value × Value) × Heap) ⊕ (Exit × (Value × Value × Value × Value × Value) × Heap)) :=
  aBin Try.prog .lss 3 s68 s67 fun v1 =>
  cBn v1 fun b2 =>
  bif b2 then
    fA 0 s3 fun v3 =>
    ld1 v3 h fun v4 =>
    cIn .i64 v4 fun n5 =>
    J33_2b0 rc md s2 s3 s8 s68 (.slice none 0 0) s67 s68 (.int .i64 n5) (.int .i64 0) h
  else
    some (.inr ((.exit 2), (s2, s3, s8, s67, s68), h))
noncomputable def Jr33_2H (rc : Rec) (md : Md) (X0 : T → Heap → Option (((Value × Value × Value × Value × Value) × Heap) ⊕ (Exit × (Value × Value × Value × Value × Value) × Heap))) (t : T) (h : Heap) : Option (((Value × Value × Value × Value × Value) × Heap) ⊕ (Exit × (Value × Value × Value × Value × Value) × Heap)) :=
  aBin Try.prog .lss 3 (t 68) (t 67) fun v1 =>
  cBn v1 fun b2 =>
  bif b2 then
    fA 0 (t 3) fun v3 =>
    ld1 v3 h fun v4 =>
    cIn .i64 v4 fun n5 =>
    X0 (upd (upd (upd (upd (upd (upd (upd t 69 v1) 70 (t 68)) 9 (t 68)) 10 (.slice none 0 0)) 71 v3) 72 (.int .i64 n5)) 73 (.int .i64 0)) h
  else
    some (.inr ((.exit 2), ((t 2), (t 3), (t 8), (t 67), (t 68)), h))
theorem Jr33_2_h1 (rc : Rec) (md : Md) (X : Nat → T → Heap → Option (((Value × Value × Value × Value × Value) × Heap) ⊕ (Exit × (Value × Value × Value × Value × Value) × Heap))) (t : T) (h : Heap) : execG Try.prog cfg X rc md 120 (replS (sub (bodyOf Try.prog 33) [1, 1, 1, 1, 1, 1, 1, 0, 1, 0, 0]) [([1, 1, 0, 0, 1, 1, 0, 1, 0], 0), ([1, 1, 0, 0, 1, 1, 1, 1, 0, 1, 0], 1), ([1, 1, 0, 0, 1, 1, 1, 1, 1], 2), ([1, 1, 0, 0, 1, 1, 1], 3)]) (rndK (fun t => (t 2, t 3, t 8, t 67, t 68))) t h = Jr33_2H rc md (X 0) t h := by kernel_rfl
theorem Jr33_2_h2 (rc : Rec) (md : Md) (t : T) (h : Heap) : Jr33_2H rc md (fun t h => J33_2b0 rc md (t 2) (t 3) (t 8) (t 9) (t 10) (t 67) (t 68) (t 72) (t 73) h) t h = Jr33_2 rc md (t 2) (t 3) (t 8) (t 67) (t 68) h := by unfold Jr33_2H Jr33_2; kernel_rfl
theorem Jr33_2_at (rc : Rec) (md : Md) (t : T) (h : Heap) : exec Try.prog cfg rc md 120 (sub (bodyOf Try.prog 33) [1, 1, 1, 1, 1, 1, 1, 0, 1, 0, 0]) (rndK (fun t => (t 2, t 3, t 8, t 67, t 68))) t h = Jr33_2 rc md (t 2) (t 3) (t 8) (t 67) (t 68) h := by
  rw [exec_holes [([1, 1, 0, 0, 1, 1, 0, 1, 0], 0), ([1, 1, 0, 0, 1, 1, 1, 1, 0, 1, 0], 1), ([1, 1, 0, 0, 1, 1, 1, 1, 1], 2), ([1, 1, 0, 0, 1, 1, 1], 3)] (by kernel_rfl), Jr33_2_h1, show (goX Try.prog cfg rc md 120 (sub (bodyOf Try.prog 33) [1, 1, 1, 1, 1, 1, 1, 0, 1, 0, 0]) [([1, 1, 0, 0, 1, 1, 0, 1, 0], 0), ([1, 1, 0, 0, 1, 1, 1, 1, 0, 1, 0], 1), ([1, 1, 0, 0, 1, 1, 1, 1, 1], 2), ([1, 1, 0, 0, 1, 1, 1], 3)] (rndK (fun t => (t 2, t 3, t 8, t 67, t 68)))) 0 = _ from J33_2b0_cut rc md]
  exact Jr33_2_h2 rc md t h
noncomputable def J33_2 (rc : Rec) (md : Md) (h0 : Heap) (s2 : Value) (s3 : Value) (s8 : Value) (s67 : Value) (s68 : Value) (h : Heap) : Option (Value × Heap) :=
  runL (fun x : (Value × Value × Value × Value × Value) × Heap => Jr33_2 rc md x.1.1 x.1.2.1 x.1.2.2.1 x.1.2.2.2.1 x.1.2.2.2.2 x.2) (fun e (s : Value × Value × Value × Value × Value) h => Jk33_2 rc md h0 e s.1 s.2.1 s.2.2.1 s.2.2.2.1 s.2.2.2.2 h) (s2, s3, s8, s67, s68) h
theorem J33_2_step (rc : Rec) (md : Md) (h0 : Heap) (s2 : Value) (s3 : Value) (s8 : Value) (s67 : Value) (s68 : Value) (h : Heap) : J33_2 rc md h0 s2 s3 s8 s67 s68 h = (Jr33_2 rc md s2 s3 s8 s67 s68 h).bind fun x => match x with
    | .inl (s, h) => J33_2 rc md h0 s.1 s.2.1 s.2.2.1 s.2.2.2.1 s.2.2.2.2 h
    | .inr (e, s, h) => Jk33_2 rc md h0 e s.1 s.2.1 s.2.2.1 s.2.2.2.1 s.2.2.2.2 h := by
  unfold J33_2
  rw [runL_eq]
  refine congrArg (Option.bind _) (funext fun x => ?_)
  rcases x with ⟨s, h⟩ | ⟨e, s, h⟩ <;> rfl
theorem J33_2_cut (rc : Rec) (md : Md) (h0 : Heap) : cut Try.prog cfg rc md 120 (bodyOf Try.prog 33) [1, 1, 1, 1, 1, 1, 1, 0, 1, 0] (retK Try.prog cfg 33 (rsOf Try.prog 33) h0) = fun t h => J33_2 rc md h0 (t 2) (t 3) (t 8) (t 67) (t 68) h := by
  funext t h
  have e : sub (bodyOf Try.prog 33) [1, 1, 1, 1, 1, 1, 1, 0, 1, 0] = .loop (sub (bodyOf Try.prog 33) [1, 1, 1, 1, 1, 1, 1, 0, 1, 0, 0]) := by kernel_rfl
  unfold cut
  rw [e]
  exact loop_eq (by kernel_rfl) (fun t => (t 2, t 3, t 8, t 67, t 68)) (fun x : (Value × Value × Value × Value × Value) × Heap => Jr33_2 rc md x.1.1 x.1.2.1 x.1.2.2.1 x.1.2.2.2.1 x.1.2.2.2.2 x.2) (fun t h => Jr33_2_at rc md t h) (fun e (s : Value × Value × Value × Value × Value) h => Jk33_2 rc md h0 e s.1 s.2.1 s.2.2.1 s.2.2.2.1 s.2.2.2.2 h) (fun e t h => Jk33_2_at rc md h0 e t h) t h
noncomputable def J33_1 (rc : Rec) (md : Md) (h0 : Heap) (s2 : Value) (s3 : Value) (s6 : Value) (h : Heap) : Option (Value × Heap) :=
  ldN 3 s3 h fun v1 =>
  ldN 6 s6 h fun v2 =>
  aBuild Try.prog 74 [(0, v2)] fun v3 =>
  aBuild Try.prog 78 [(0, v1), (1, v3)] fun v4 =>
  let h5 : Heap := h ++ [.own v4.cells.toList]
  ldN 3 s3 h5 fun v6 =>
  cl (rc md 43 [v6] h5) fun v7 h8 =>
  cIn .i64 v7 fun n9 =>
  J33_2 rc md h0 s2 s3 (.pointer (some ⟨h.length, 0, none⟩)) (.int .i64 n9) (.int .i64 0) h8
noncomputable def J33_1H (rc : Rec) (md : Md) (h0 : Heap) (X1 : T → Heap → Option (Value × Heap)) (t : T) (h : Heap) : Option (Value × Heap) :=
  ldN 3 (t 3) h fun v1 =>
  ldN 6 (t 6) h fun v2 =>
  aBuild Try.prog 74 [(0, v2)] fun v3 =>
  aBuild Try.prog 78 [(0, v1), (1, v3)] fun v4 =>
  let h5 : Heap := h ++ [.own v4.cells.toList]
  ldN 3 (t 3) h5 fun v6 =>
  cl (rc md 43 [v6] h5) fun v7 h8 =>
  cIn .i64 v7 fun n9 =>
  X1 (upd (upd (upd (upd (upd (upd (upd (upd (upd t 61 v1) 62 v2) 63 v3) 64 v4) 65 (.pointer (some ⟨h.length, 0, none⟩))) 8 (.pointer (some ⟨h.length, 0, none⟩))) 66 v6) 67 (.int .i64 n9)) 68 (.int .i64 0)) h8
theorem J33_1_h1 (rc : Rec) (md : Md) (h0 : Heap) (X : Nat → T → Heap → Option (Value × Heap)) (t : T) (h : Heap) : execG Try.prog cfg X rc md 120 (sub (replS (bodyOf Try.prog 33) [([1, 1, 1, 1, 1, 0, 1, 0], 0), ([1, 1, 1, 1, 1, 1, 1, 0, 1, 0], 1)]) [1, 1, 1, 1, 1, 1]) (kAtG Try.prog cfg X rc md 120 (replS (bodyOf Try.prog 33) [([1, 1, 1, 1, 1, 0, 1, 0], 0), ([1, 1, 1, 1, 1, 1, 1, 0, 1, 0], 1)]) [1, 1, 1, 1, 1, 1] (retK Try.prog cfg 33 (rsOf Try.prog 33) h0)) t h = J33_1H rc md h0 (X 1) t h := by kernel_rfl
theorem J33_1_h2 (rc : Rec) (md : Md) (h0 : Heap) (t : T) (h : Heap) : J33_1H rc md h0 (fun t h => J33_2 rc md h0 (t 2) (t 3) (t 8) (t 67) (t 68) h) t h = J33_1 rc md h0 (t 2) (t 3) (t 6) h := by (unfold J33_1H J33_1; kernel_rfl)
theorem J33_1_at (rc : Rec) (md : Md) (h0 : Heap) (t : T) (h : Heap) : cut Try.prog cfg rc md 120 (bodyOf Try.prog 33) [1, 1, 1, 1, 1, 1] (retK Try.prog cfg 33 (rsOf Try.prog 33) h0) t h = J33_1 rc md h0 (t 2) (t 3) (t 6) h := by
  rw [cut_holes [([1, 1, 1, 1, 1, 0, 1, 0], 0), ([1, 1, 1, 1, 1, 1, 1, 0, 1, 0], 1)] [1, 1, 1, 1, 1, 1] (by kernel_rfl), J33_1_h1, show (goX Try.prog cfg rc md 120 (bodyOf Try.prog 33) [([1, 1, 1, 1, 1, 0, 1, 0], 0), ([1, 1, 1, 1, 1, 1, 1, 0, 1, 0], 1)] (retK Try.prog cfg 33 (rsOf Try.prog 33) h0)) 1 = _ from J33_2_cut rc md h0]
  exact J33_1_h2 rc md h0 t h
theorem J33_1_cut (rc : Rec) (md : Md) (h0 : Heap) : cut Try.prog cfg rc md 120 (bodyOf Try.prog 33) [1, 1, 1, 1, 1, 1] (retK Try.prog cfg 33 (rsOf Try.prog 33) h0) = fun t h => J33_1 rc md h0 (t 2) (t 3) (t 6) h := funext fun t => funext fun h => J33_1_at rc md h0 t h
noncomputable def Jk33_0 (rc : Rec) (md : Md) (h0 : Heap) (e : Exit) (s1 : Value) (s2 : Value) (s3 : Value) (s4 : Value) (s6 : Value) (s7 : Value) (h : Heap) : Option (Value × Heap) :=
  match e with
  | .normal =>
    J33_1 rc md h0 s2 s3 s6 h
  | .exit j =>
    bif Nat.beq j 0 then
      J33_1 rc md h0 s2 s3 s6 h
    else
      none
  | .ret =>
    some (s2, h)
  | .goto l => none
  | .panic ps => none
  | .outgrown => none
noncomputable def Jk33_0H (rc : Rec) (md : Md) (h0 : Heap) (X2 : T → Heap → Option (Value × Heap)) (e : Exit) (t : T) (h : Heap) : Option (Value × Heap) :=
  match e with
  | .normal =>
    X2 t h
  | .exit j =>
    bif Nat.beq j 0 then
      X2 t h
    else
      none
  | .ret =>
    some ((t 2), h)
  | .goto l => none
  | .panic ps => none
  | .outgrown => none
theorem Jk33_0_h1 (rc : Rec) (md : Md) (h0 : Heap) (X : Nat → T → Heap → Option (Value × Heap)) (e : Exit) (t : T) (h : Heap) : kAtG Try.prog cfg X rc md 120 (replS (bodyOf Try.prog 33) [([1, 1, 1, 1, 1, 1, 1, 0, 1, 0], 1), ([1, 1, 1, 1, 1, 1], 2)]) [1, 1, 1, 1, 1, 0, 1, 0] (retK Try.prog cfg 33 (rsOf Try.prog 33) h0) e t h = Jk33_0H rc md h0 (X 2) e t h := by cases e <;> kernel_rfl
theorem Jk33_0_h2 (rc : Rec) (md : Md) (h0 : Heap) (e : Exit) (t : T) (h : Heap) : Jk33_0H rc md h0 (fun t h => J33_1 rc md h0 (t 2) (t 3) (t 6) h) e t h = Jk33_0 rc md h0 e (t 1) (t 2) (t 3) (t 4) (t 6) (t 7) h := by cases e <;> (unfold Jk33_0H Jk33_0; kernel_rfl)
theorem Jk33_0_at (rc : Rec) (md : Md) (h0 : Heap) (e : Exit) (t : T) (h : Heap) : kAt Try.prog cfg rc md 120 (bodyOf Try.prog 33) [1, 1, 1, 1, 1, 0, 1, 0] (retK Try.prog cfg 33 (rsOf Try.prog 33) h0) e t h = Jk33_0 rc md h0 e (t 1) (t 2) (t 3) (t 4) (t 6) (t 7) h := by
  rw [kAt_holes [([1, 1, 1, 1, 1, 1, 1, 0, 1, 0], 1), ([1, 1, 1, 1, 1, 1], 2)] [1, 1, 1, 1, 1, 0, 1, 0] (by kernel_rfl), Jk33_0_h1, show (goX Try.prog cfg rc md 120 (bodyOf Try.prog 33) [([1, 1, 1, 1, 1, 1, 1, 0, 1, 0], 1), ([1, 1, 1, 1, 1, 1], 2)] (retK Try.prog cfg 33 (rsOf Try.prog 33) h0)) 2 = _ from J33_1_cut rc md h0]
  exact Jk33_0_h2 rc md h0 e t h
/-- a round -/
noncomputable def Jr33_0 (rc : Rec) (md : Md) (s1 : Value) (s2 : Value) (s3 : Value) (s4 : Value) (s6 : Value) (s7 : Value) (h : Heap) : Option (((Value × Value × Value × Value × Value × Value) × Heap) ⊕ (Exit × (Value × Value × Value × Value × Value × Value) × Heap)) :=
  ldN 3 s3 h fun v1 =>
  cl (rc md 48 [v1] h) fun v2 h3 =>
  cIn .i64 v2 fun n4 =>
  aBin Try.prog .leq 3 s7 (.int .i64 n4) fun v5 =>
  cBn v5 fun b6 =>
  bif b6 then
    fA 3 s1 fun v7 =>
    ld1 v7 h3 fun v8 =>
    lenS v8 fun v9 =>
    cIn .i64 v9 fun n10 =>
    bif (decide (n10 > 0)) then
      ldN 3 s3 h3 fun v11 =>
      cl (rc md 55 [v11, s7, (.int .i64 5)] h3) fun v12 h13 =>
      cIn .i64 v12 fun n14 =>
      fA 3 s1 fun v15 =>
      ld1 v15 h13 fun v16 =>
      fA 3 s1 fun v17 =>
      ld1 v17 h13 fun v18 =>
      lenS v18 fun v19 =>
      cIn .i64 v19 fun n20 =>
      aBin Try.prog .rem 3 s7 (.int .i64 n20) fun v21 =>
      ixSV 1 v16 v21 fun v22 =>
      ld1 v22 h13 fun v23 =>
      cIn .u64 v23 fun n24 =>
      cl (rc md 54 [s4, (.int .i64 n14), (.int .u64 n24)] h13) fun v25 h26 =>
      cIn .i64 v25 fun n27 =>
      ldN 6 s6 h26 fun v28 =>
      cl (rc md 56 [v28, s7] h26) fun v29 h30 =>
      aBin Try.prog .add 3 s7 (.int .i64 1) fun v31 =>
      some (.inl ((s1, s2, s3, s4, s6, v31), h30))
    else
      ldN 6 s6 h3 fun v32 =>
      cl (rc md 56 [v32, s7] h3) fun v33 h34 =>
      aBin Try.prog .add 3 s7 (.int .i64 1) fun v35 =>
      some (.inl ((s1, s2, s3, s4, s6, v35), h34))
  else
    some (.inr ((.exit 0), (s1, s2, s3, s4, s6, s7), h3))
theorem Jr33_0_at (rc : Rec) (md : Md) (t : T) (h : Heap) : exec Try.prog cfg rc md 120 (sub (bodyOf Try.prog 33) [1, 1, 1, 1, 1, 0, 1, 0, 0]) (rndK (fun t => (t 1, t 2, t 3, t 4, t 6, t 7))) t h = Jr33_0 rc md (t 1) (t 2) (t 3) (t 4) (t 6) (t 7) h := by kernel_rfl
noncomputable def J33_0 (rc : Rec) (md : Md) (h0 : Heap) (s1 : Value) (s2 : Value) (s3 : Value) (s4 : Value) (s6 : Value) (s7 : Value) (h : Heap) : Option (Value × Heap) :=
  runL (fun x : (Value × Value × Value × Value × Value × Value) × Heap => Jr33_0 rc md x.1.1 x.1.2.1 x.1.2.2.1 x.1.2.2.2.1 x.1.2.2.2.2.1 x.1.2.2.2.2.2 x.2) (fun e (s : Value × Value × Value × Value × Value × Value) h => Jk33_0 rc md h0 e s.1 s.2.1 s.2.2.1 s.2.2.2.1 s.2.2.2.2.1 s.2.2.2.2.2 h) (s1, s2, s3, s4, s6, s7) h
theorem J33_0_step (rc : Rec) (md : Md) (h0 : Heap) (s1 : Value) (s2 : Value) (s3 : Value) (s4 : Value) (s6 : Value) (s7 : Value) (h : Heap) : J33_0 rc md h0 s1 s2 s3 s4 s6 s7 h = (Jr33_0 rc md s1 s2 s3 s4 s6 s7 h).bind fun x => match x with
    | .inl (s, h) => J33_0 rc md h0 s.1 s.2.1 s.2.2.1 s.2.2.2.1 s.2.2.2.2.1 s.2.2.2.2.2 h
    | .inr (e, s, h) => Jk33_0 rc md h0 e s.1 s.2.1 s.2.2.1 s.2.2.2.1 s.2.2.2.2.1 s.2.2.2.2.2 h := by
  unfold J33_0
  rw [runL_eq]
  refine congrArg (Option.bind _) (funext fun x => ?_)
  rcases x with ⟨s, h⟩ | ⟨e, s, h⟩ <;> rfl
theorem J33_0_cut (rc : Rec) (md : Md) (h0 : Heap) : cut Try.prog cfg rc md 120 (bodyOf Try.prog 33) [1, 1, 1, 1, 1, 0, 1, 0] (retK Try.prog cfg 33 (rsOf Try.prog 33) h0) = fun t h => J33_0 rc md h0 (t 1) (t 2) (t 3) (t 4) (t 6) (t 7) h := by
  funext t h
  have e : sub (bodyOf Try.prog 33) [1, 1, 1, 1, 1, 0, 1, 0] = .loop (sub (bodyOf Try.prog 33) [1, 1, 1, 1, 1, 0, 1, 0, 0]) := by kernel_rfl
  unfold cut
  rw [e]
  exact loop_eq (by kernel_rfl) (fun t => (t 1, t 2, t 3, t 4, t 6, t 7)) (fun x : (Value × Value × Value × Value × Value × Value) × Heap => Jr33_0 rc md x.1.1 x.1.2.1 x.1.2.2.1 x.1.2.2.2.1 x.1.2.2.2.2.1 x.1.2.2.2.2.2 x.2) (fun t h => Jr33_0_at rc md t h) (fun e (s : Value × Value × Value × Value × Value × Value) h => Jk33_0 rc md h0 e s.1 s.2.1 s.2.2.1 s.2.2.2.1 s.2.2.2.2.1 s.2.2.2.2.2 h) (fun e t h => Jk33_0_at rc md h0 e t h) t h
noncomputable def F33 (rc : Rec) (md : Md) (a0_0 : Int) (a0_1 : Int) (a0_2 : Int) (a0_3 : Value) (a0_4 : Value) (h0 : Heap) : Option (Value × Heap) :=
  let h1 : Heap := h0 ++ [.own [(.int .i64 a0_0), (.int .i64 a0_1), (.int .i64 a0_2), a0_3, a0_4]]
  ldN 3 (.pointer (some ⟨h0.length, 0, none⟩)) h1 fun v2 =>
  let h3 : Heap := h1 ++ [.own [(.int .i64 0), (.int .i64 0), (.int .i64 0)]]
  st md 3 (.pointer (some ⟨h1.length, 0, none⟩)) v2 h3 fun h4 =>
  ldN 3 (.pointer (some ⟨h1.length, 0, none⟩)) h4 fun v5 =>
  cl (rc md 52 [v5] h4) fun v6 h7 =>
  cIn .i64 v6 fun n8 =>
  cl (rc md 51 [(.int .i64 n8)] h7) fun v9 h10 =>
  exT v9 0 fun v11 =>
  exT v9 1 fun v12 =>
  cIn .i64 v12 fun n13 =>
  (bif wantV (.bool (n13 != 0)) false then
  some (v11, h10)
  else some (undef, h10)).bind fun p14 =>
  (bif wantV (.bool (n13 != 0)) false then
  aBin Try.prog .eql 36 p14.1 (.pointer none) fun v15 =>
  some (v15, p14.2)
  else some (undef, p14.2)).bind fun p16 =>
  cBn (bif (n13 != 0) then (.bool true) else p16.1) fun b17 =>
  bif b17 then
    some ((.pointer none), p16.2)
  else
    ldN 3 (.pointer (some ⟨h1.length, 0, none⟩)) p16.2 fun v18 =>
    cl (rc md 53 [v11] p16.2) fun v19 h20 =>
    aBuild Try.prog 42 [(0, v18), (1, (.iface 101 v19)), (2, (.agg #[(.int .i64 1), (.int .i64 0)]))] fun v21 =>
    let h22 : Heap := h20 ++ [.own [(.int .i64 0), (.int .i64 0), (.int .i64 0), .nilIface, (.int .i64 0), (.int .i64 0)]]
    cLE true (fun hq => cl (rc md 53 [v11] hq) fun vq _ => some vq) v19 h20 h22 <|
    cLE true (fun hq => ldN 3 (.pointer (some ⟨h1.length, 0, none⟩)) hq some) v18 h20 h22 <|
    st md 6 (.pointer (some ⟨h20.length, 0, none⟩)) v21 h22 fun h23 =>
    J33_0 rc md h0 (.pointer (some ⟨h0.length, 0, none⟩)) (.pointer none) (.pointer (some ⟨h1.length, 0, none⟩)) v11 (.pointer (some ⟨h20.length, 0, none⟩)) (.int .i64 1) h23
noncomputable def F33H (rc : Rec) (md : Md) (X0 : T → Heap → Option (Value × Heap)) (a0_0 : Int) (a0_1 : Int) (a0_2 : Int) (a0_3 : Value) (a0_4 : Value) (h0 : Heap) : Option (Value × Heap) :=
  let h1 : Heap := h0 ++ [.own [(.int .i64 a0_0), (.int .i64 a0_1), (.int .i64 a0_2), a0_3, a0_4]]
  ldN 3 (.pointer (some ⟨h0.length, 0, none⟩)) h1 fun v2 =>
  let h3 : Heap := h1 ++ [.own [(.int .i64 0), (.int .i64 0), (.int .i64 0)]]
  st md 3 (.pointer (some ⟨h1.length, 0, none⟩)) v2 h3 fun h4 =>
  ldN 3 (.pointer (some ⟨h1.length, 0, none⟩)) h4 fun v5 =>
  cl (rc md 52 [v5] h4) fun v6 h7 =>
  cIn .i64 v6 fun n8 =>
  cl (rc md 51 [(.int .i64 n8)] h7) fun v9 h10 =>
  exT v9 0 fun v11 =>
  exT v9 1 fun v12 =>
  cIn .i64 v12 fun n13 =>
  (bif wantV (.bool (n13 != 0)) false then
  some (v11, h10)
  else some (undef, h10)).bind fun p14 =>
  (bif wantV (.bool (n13 != 0)) false then
  aBin Try.prog .eql 36 p14.1 (.pointer none) fun v15 =>
  some (v15, p14.2)
  else some (undef, p14.2)).bind fun p16 =>
  cBn (bif (n13 != 0) then (.bool true) else p16.1) fun b17 =>
  bif b17 then
    some ((.pointer none), p16.2)
  else
    ldN 3 (.pointer (some ⟨h1.length, 0, none⟩)) p16.2 fun v18 =>
    cl (rc md 53 [v11] p16.2) fun v19 h20 =>
    aBuild Try.prog 42 [(0, v18), (1, (.iface 101 v19)), (2, (.agg #[(.int .i64 1), (.int .i64 0)]))] fun v21 =>
    let h22 : Heap := h20 ++ [.own [(.int .i64 0), (.int .i64 0), (.int .i64 0), .nilIface, (.int .i64 0), (.int .i64 0)]]
    cLE true (fun hq => cl (rc md 53 [v11] hq) fun vq _ => some vq) v19 h20 h22 <|
    cLE true (fun hq => ldN 3 (.pointer (some ⟨h1.length, 0, none⟩)) hq some) v18 h20 h22 <|
    st md 6 (.pointer (some ⟨h20.length, 0, none⟩)) v21 h22 fun h23 =>
    X0 (upd (upd (upd (upd (upd (upd (upd (upd (upd (upd (upd (upd (upd (upd (upd (upd (upd (upd (upd (upd (upd (upd (upd (upd (upd (upd (upd (args0 [(.agg #[(.int .i64 a0_0), (.int .i64 a0_1), (.int .i64 a0_2), a0_3, a0_4])]) 1 (.pointer (some ⟨h0.length, 0, none⟩))) 2 (.pointer none)) 14 (.pointer (some ⟨h0.length, 0, none⟩))) 15 v2) 3 (.pointer (some ⟨h1.length, 0, none⟩))) 17 v5) 18 (.int .i64 n8)) 19 v9) 16 v9) 20 v11) 21 (.int .i64 n13)) 4 v11) 5 (.int .i64 n13)) 22 (.int .i64 n13)) 23 (.bool (n13 != 0))) 24 (.bool (n13 != 0))) 25 p14.1) 26 p16.1) 27 (.bool b17)) 28 v18) 29 v11) 30 v19) 31 (.iface 101 v19)) 32 (.agg #[(.int .i64 1), (.int .i64 0)])) 33 v21) 6 (.pointer (some ⟨h20.length, 0, none⟩))) 7 (.int .i64 1)) h23
theorem F33_h0 (rc : Rec) (md : Md) (a0_0 : Int) (a0_1 : Int) (a0_2 : Int) (a0_3 : Value) (a0_4 : Value) (h0 : Heap) : callStep0 Try.prog cfg rc md 33 [(.agg #[(.int .i64 a0_0), (.int .i64 a0_1), (.int .i64 a0_2), a0_3, a0_4])] h0 = exec Try.prog cfg rc md 120 (bodyOf Try.prog 33) (retK Try.prog cfg 33 (rsOf Try.prog 33) h0) (args0 [(.agg #[(.int .i64 a0_0), (.int .i64 a0_1), (.int .i64 a0_2), a0_3, a0_4])]) h0 := callStep0_run (by kernel_rfl) (by kernel_rfl) (by kernel_rfl)
theorem F33_h1 (rc : Rec) (md : Md) (X : Nat → T → Heap → Option (Value × Heap)) (a0_0 : Int) (a0_1 : Int) (a0_2 : Int) (a0_3 : Value) (a0_4 : Value) (h0 : Heap) : execG Try.prog cfg X rc md 120 (replS (bodyOf Try.prog 33) [([1, 1, 1, 1, 1, 0, 1, 0], 0), ([1, 1, 1, 1, 1, 1, 1, 0, 1, 0], 1), ([1, 1, 1, 1, 1, 1], 2)]) (retK Try.prog cfg 33 (rsOf Try.prog 33) h0) (args0 [(.agg #[(.int .i64 a0_0), (.int .i64 a0_1), (.int .i64 a0_2), a0_3, a0_4])]) h0 = F33H rc md (X 0) a0_0 a0_1 a0_2 a0_3 a0_4 h0 := by kernel_rfl
theorem F33_h2 (rc : Rec) (md : Md) (a0_0 : Int) (a0_1 : Int) (a0_2 : Int) (a0_3 : Value) (a0_4 : Value) (h0 : Heap) : F33H rc md (fun t h => J33_0 rc md h0 (t 1) (t 2) (t 3) (t 4) (t 6) (t 7) h) a0_0 a0_1 a0_2 a0_3 a0_4 h0 = F33 rc md a0_0 a0_1 a0_2 a0_3 a0_4 h0 := by unfold F33H F33; kernel_rfl
theorem F33_eq0 (rc : Rec) (md : Md) (a0_0 : Int) (a0_1 : Int) (a0_2 : Int) (a0_3 : Value) (a0_4 : Value) (h0 : Heap) : callStep0 Try.prog cfg rc md 33 [(.agg #[(.int .i64 a0_0), (.int .i64 a0_1), (.int .i64 a0_2), a0_3, a0_4])] h0 = F33 rc md a0_0 a0_1 a0_2 a0_3 a0_4 h0 := by
  rw [F33_h0, exec_holes [([1, 1, 1, 1, 1, 0, 1, 0], 0), ([1, 1, 1, 1, 1, 1, 1, 0, 1, 0], 1), ([1, 1, 1, 1, 1, 1], 2)] (by kernel_rfl), F33_h1, show (goX Try.prog cfg rc md 120 (bodyOf Try.prog 33) [([1, 1, 1, 1, 1, 0, 1, 0], 0), ([1, 1, 1, 1, 1, 1, 1, 0, 1, 0], 1), ([1, 1, 1, 1, 1, 1], 2)] (retK Try.prog cfg 33 (rsOf Try.prog 33) h0)) 0 = _ from J33_0_cut rc md h0]
  exact F33_h2 rc _ a0_0 a0_1 a0_2 a0_3 a0_4 h0
theorem F33_eq (rc : Rec) (md : Md) (a0_0 : Int) (a0_1 : Int) (a0_2 : Int) (a0_3 : Value) (a0_4 : Value) (h0 : Heap) : callStep Try.prog cfg rc md 33 [(.agg #[(.int .i64 a0_0), (.int .i64 a0_1), (.int .i64 a0_2), a0_3, a0_4])] h0 = F33 rc md a0_0 a0_1 a0_2 a0_3 a0_4 h0 := (callStep_ne (by kernel_rfl)).trans (F33_eq0 rc md a0_0 a0_1 a0_2 a0_3 a0_4 h0)

/-- (*tombolo/tombololaw10.play).step -/
noncomputable def F34 (rc : Rec) (md : Md) (a0 : Value) (a1_0 : Int) (a1_1 : Int) (a1_2 : Int) (a1_3 : Int) (a1_4 : Int) (h0 : Heap) : Option (Value × Heap) :=
  let h1 : Heap := h0 ++ [.own [(.int .i64 a1_0), (.int .i64 a1_1), (.int .i64 a1_2), (.int .i64 a1_3), (.int .i64 a1_4)]]
  bif okNil Try.prog a0 then
  fA 0 a0 fun v2 =>
  ldN 3 v2 h1 fun v3 =>
  let h4 : Heap := h1 ++ [.own [(.int .i64 0), (.int .i64 0), (.int .i64 0)]]
  st md 3 (.pointer (some ⟨h1.length, 0, none⟩)) v3 h4 fun h5 =>
  ld1 (.pointer (some ⟨h0.length, 1, none⟩)) h5 fun v6 =>
  cIn .i64 v6 fun n7 =>
  (bif wantV (.bool (decide (n7 < 0))) false then
  some ((.pointer (some ⟨h0.length, 1, none⟩)), h5)
  else some (undef, h5)).bind fun p8 =>
  (bif wantV (.bool (decide (n7 < 0))) false then
  ld1 p8.1 p8.2 fun v9 =>
  cIn .i64 v9 fun n10 =>
  some ((.int .i64 n10), p8.2)
  else some (undef, p8.2)).bind fun p11 =>
  (bif wantV (.bool (decide (n7 < 0))) false then
  ldN 3 (.pointer (some ⟨h1.length, 0, none⟩)) p11.2 fun v12 =>
  some (v12, p11.2)
  else some (undef, p11.2)).bind fun p13 =>
  (bif wantV (.bool (decide (n7 < 0))) false then
  cl (rc md 43 [p13.1] p13.2) fun v14 h15 =>
  cIn .i64 v14 fun n16 =>
  some ((.int .i64 n16), h15)
  else some (undef, p13.2)).bind fun p17 =>
  (bif wantV (.bool (decide (n7 < 0))) false then
  aBin Try.prog .geq 3 p11.1 p17.1 fun v18 =>
  some (v18, p17.2)
  else some (undef, p17.2)).bind fun p19 =>
  cBn (bif (decide (n7 < 0)) then (.bool true) else p19.1) fun b20 =>
  (bif wantV (.bool b20) false then
  some ((.pointer (some ⟨h0.length, 2, none⟩)), p19.2)
  else some (undef, p19.2)).bind fun p21 =>
  (bif wantV (.bool b20) false then
  ld1 p21.1 p21.2 fun v22 =>
  cIn .i64 v22 fun n23 =>
  some ((.int .i64 n23), p21.2)
  else some (undef, p21.2)).bind fun p24 =>
  (bif wantV (.bool b20) false then
  aBin Try.prog .lss 3 p24.1 (.int .i64 0) fun v25 =>
  some (v25, p24.2)
  else some (undef, p24.2)).bind fun p26 =>
  cBn (bif b20 then (.bool true) else p26.1) fun b27 =>
  (bif wantV (.bool b27) false then
  some ((.pointer (some ⟨h0.length, 2, none⟩)), p26.2)
  else some (undef, p26.2)).bind fun p28 =>
  (bif wantV (.bool b27) false then
  ld1 p28.1 p28.2 fun v29 =>
  cIn .i64 v29 fun n30 =>
  some ((.int .i64 n30), p28.2)
  else some (undef, p28.2)).bind fun p31 =>
  (bif wantV (.bool b27) false then
  some ((.pointer (some ⟨h1.length, 1, none⟩)), p31.2)
  else some (undef, p31.2)).bind fun p32 =>
  (bif wantV (.bool b27) false then
  ld1 p32.1 p32.2 fun v33 =>
  cIn .i64 v33 fun n34 =>
  some ((.int .i64 n34), p32.2)
  else some (undef, p32.2)).bind fun p35 =>
  (bif wantV (.bool b27) false then
  aBin Try.prog .geq 3 p31.1 p35.1 fun v36 =>
  some (v36, p35.2)
  else some (undef, p35.2)).bind fun p37 =>
  cBn (bif b27 then (.bool true) else p37.1) fun b38 =>
  (bif wantV (.bool b38) false then
  some ((.pointer (some ⟨h0.length, 3, none⟩)), p37.2)
  else some (undef, p37.2)).bind fun p39 =>
  (bif wantV (.bool b38) false then
  ld1 p39.1 p39.2 fun v40 =>
  cIn .i64 v40 fun n41 =>
  some ((.int .i64 n41), p39.2)
  else some (undef, p39.2)).bind fun p42 =>
  (bif wantV (.bool b38) false then
  aBin Try.prog .lss 3 p42.1 (.int .i64 0) fun v43 =>
  some (v43, p42.2)
  else some (undef, p42.2)).bind fun p44 =>
  cBn (bif b38 then (.bool true) else p44.1) fun b45 =>
  (bif wantV (.bool b45) false then
  some ((.pointer (some ⟨h0.length, 3, none⟩)), p44.2)
  else some (undef, p44.2)).bind fun p46 =>
  (bif wantV (.bool b45) false then
  ld1 p46.1 p46.2 fun v47 =>
  cIn .i64 v47 fun n48 =>
  some ((.int .i64 n48), p46.2)
  else some (undef, p46.2)).bind fun p49 =>
  (bif wantV (.bool b45) false then
  some ((.pointer (some ⟨h1.length, 0, none⟩)), p49.2)
  else some (undef, p49.2)).bind fun p50 =>
  (bif wantV (.bool b45) false then
  ld1 p50.1 p50.2 fun v51 =>
  cIn .i64 v51 fun n52 =>
  some ((.int .i64 n52), p50.2)
  else some (undef, p50.2)).bind fun p53 =>
  (bif wantV (.bool b45) false then
  aBin Try.prog .geq 3 p49.1 p53.1 fun v54 =>
  some (v54, p53.2)
  else some (undef, p53.2)).bind fun p55 =>
  cBn (bif b45 then (.bool true) else p55.1) fun b56 =>
  (bif wantV (.bool b56) false then
  some ((.pointer (some ⟨h0.length, 4, none⟩)), p55.2)
  else some (undef, p55.2)).bind fun p57 =>
  (bif wantV (.bool b56) false then
  ld1 p57.1 p57.2 fun v58 =>
  cIn .i64 v58 fun n59 =>
  some ((.int .i64 n59), p57.2)
  else some (undef, p57.2)).bind fun p60 =>
  (bif wantV (.bool b56) false then
  aBin Try.prog .lss 3 p60.1 (.int .i64 0) fun v61 =>
  some (v61, p60.2)
  else some (undef, p60.2)).bind fun p62 =>
  cBn (bif b56 then (.bool true) else p62.1) fun b63 =>
  (bif wantV (.bool b63) false then
  some ((.pointer (some ⟨h0.length, 4, none⟩)), p62.2)
  else some (undef, p62.2)).bind fun p64 =>
  (bif wantV (.bool b63) false then
  ld1 p64.1 p64.2 fun v65 =>
  cIn .i64 v65 fun n66 =>
  some ((.int .i64 n66), p64.2)
  else some (undef, p64.2)).bind fun p67 =>
  (bif wantV (.bool b63) false then
  some ((.pointer (some ⟨h1.length, 0, none⟩)), p67.2)
  else some (undef, p67.2)).bind fun p68 =>
  (bif wantV (.bool b63) false then
  ld1 p68.1 p68.2 fun v69 =>
  cIn .i64 v69 fun n70 =>
  some ((.int .i64 n70), p68.2)
  else some (undef, p68.2)).bind fun p71 =>
  (bif wantV (.bool b63) false then
  aBin Try.prog .geq 3 p67.1 p71.1 fun v72 =>
  some (v72, p71.2)
  else some (undef, p71.2)).bind fun p73 =>
  cBn (bif b63 then (.bool true) else p73.1) fun b74 =>
  bif b74 then
    some ((.bool true), p73.2)
  else
    ldN 3 (.pointer (some ⟨h1.length, 0, none⟩)) p73.2 fun v75 =>
    ld1 (.pointer (some ⟨h0.length, 1, none⟩)) p73.2 fun v76 =>
    cIn .i64 v76 fun n77 =>
    ld1 (.pointer (some ⟨h0.length, 3, none⟩)) p73.2 fun v78 =>
    cIn .i64 v78 fun n79 =>
    cl (rc md 44 [v75, (.int .i64 n77), (.int .i64 n79)] p73.2) fun v80 h81 =>
    cIn .i64 v80 fun n82 =>
    ldN 3 (.pointer (some ⟨h1.length, 0, none⟩)) h81 fun v83 =>
    ld1 (.pointer (some ⟨h0.length, 1, none⟩)) h81 fun v84 =>
    cIn .i64 v84 fun n85 =>
    ld1 (.pointer (some ⟨h0.length, 4, none⟩)) h81 fun v86 =>
    cIn .i64 v86 fun n87 =>
    cl (rc md 44 [v83, (.int .i64 n85), (.int .i64 n87)] h81) fun v88 h89 =>
    cIn .i64 v88 fun n90 =>
    ldN 3 (.pointer (some ⟨h1.length, 0, none⟩)) h89 fun v91 =>
    ld1 (.pointer (some ⟨h0.length, 2, none⟩)) h89 fun v92 =>
    cIn .i64 v92 fun n93 =>
    ld1 (.pointer (some ⟨h0.length, 1, none⟩)) h89 fun v94 =>
    cIn .i64 v94 fun n95 =>
    cl (rc md 40 [v91, (.int .i64 n93), (.int .i64 n95), (.int .i64 0)] h89) fun v96 h97 =>
    cIn .i64 v96 fun n98 =>
    ldN 3 (.pointer (some ⟨h1.length, 0, none⟩)) h97 fun v99 =>
    ld1 (.pointer (some ⟨h0.length, 2, none⟩)) h97 fun v100 =>
    cIn .i64 v100 fun n101 =>
    ld1 (.pointer (some ⟨h0.length, 1, none⟩)) h97 fun v102 =>
    cIn .i64 v102 fun n103 =>
    cl (rc md 40 [v99, (.int .i64 n101), (.int .i64 n103), (.int .i64 1)] h97) fun v104 h105 =>
    cIn .i64 v104 fun n106 =>
    ld1 (.pointer (some ⟨h0.length, 1, none⟩)) h105 fun v107 =>
    cIn .i64 v107 fun n108 =>
    cl (rc md 72 [a0, (.int .i64 n108), (.int .i64 n82)] h105) fun v109 h110 =>
    cIn .i64 v109 fun n111 =>
    ld1 (.pointer (some ⟨h0.length, 1, none⟩)) h110 fun v112 =>
    cIn .i64 v112 fun n113 =>
    cl (rc md 72 [a0, (.int .i64 n113), (.int .i64 n90)] h110) fun v114 h115 =>
    cIn .i64 v114 fun n116 =>
    bif okNil Try.prog a0 then
    fA 10 a0 fun v117 =>
    ld1 v117 h115 fun v118 =>
    ld1 (.pointer (some ⟨h0.length, 1, none⟩)) h115 fun v119 =>
    cIn .i64 v119 fun n120 =>
    ixS 1 v118 n120 fun v121 =>
    ld1 v121 h115 fun v122 =>
    ld1 (.pointer (some ⟨h0.length, 2, none⟩)) h115 fun v123 =>
    cIn .i64 v123 fun n124 =>
    ixS 2 v122 n124 fun v125 =>
    ixA 2 1 v125 0 fun v126 =>
    ld1 v126 h115 fun v127 =>
    cIn .i64 v127 fun n128 =>
    ld1 (.pointer (some ⟨h0.length, 0, none⟩)) h115 fun v129 =>
    cIn .i64 v129 fun n130 =>
    bif (n130 == 1) then
      (bif wantV (.bool (n111 == n116)) false then
      some ((.bool (decide (n128 ≥ 0))), h115)
      else some (undef, h115)).bind fun p131 =>
      cBn (bif (n111 == n116) then (.bool true) else p131.1) fun b132 =>
      bif b132 then
        some ((.bool true), p131.2)
      else
        bif okNil Try.prog a0 then
        fA 9 a0 fun v133 =>
        ld1 v133 p131.2 fun v134 =>
        ld1 (.pointer (some ⟨h0.length, 1, none⟩)) p131.2 fun v135 =>
        cIn .i64 v135 fun n136 =>
        ixS 1 v134 n136 fun v137 =>
        ld1 v137 p131.2 fun v138 =>
        ixS 1 v138 n111 fun v139 =>
        ld1 v139 p131.2 fun v140 =>
        bif okNil Try.prog a0 then
        fA 9 a0 fun v141 =>
        ld1 v141 p131.2 fun v142 =>
        ld1 (.pointer (some ⟨h0.length, 1, none⟩)) p131.2 fun v143 =>
        cIn .i64 v143 fun n144 =>
        ixS 1 v142 n144 fun v145 =>
        ld1 v145 p131.2 fun v146 =>
        ixS 1 v146 n116 fun v147 =>
        ld1 v147 p131.2 fun v148 =>
        cl (rc md 73 [v140, v148, (.int .i64 n82), (.int .i64 n90), (.int .i64 n98), (.int .i64 n106)] p131.2) fun v149 h150 =>
        bif okNil Try.prog a0 then
        fA 9 a0 fun v151 =>
        ld1 v151 h150 fun v152 =>
        ld1 (.pointer (some ⟨h0.length, 1, none⟩)) h150 fun v153 =>
        cIn .i64 v153 fun n154 =>
        ld1 (.pointer (some ⟨h0.length, 1, none⟩)) h150 fun v155 =>
        cIn .i64 v155 fun n156 =>
        cl (rc md 74 [a0, (.int .i64 n156), (.int .i64 n111), (.int .i64 n116)] h150) fun v157 h158 =>
        cLE true (fun hq => ld1 (.pointer (some ⟨h0.length, 1, none⟩)) hq some) (.int .i64 n154) h150 h158 <|
        cLE true (fun hq => ld1 v151 hq some) v152 h150 h158 <|
        aBuildSlice Try.prog 43 1 [(0, v149)] h158 fun v159 h160 =>
        cLE true (fun hq => ld1 (.pointer (some ⟨h0.length, 1, none⟩)) hq some) (.int .i64 n156) h158 h160 <|
        cLE true (fun hq => ld1 (.pointer (some ⟨h0.length, 1, none⟩)) hq some) (.int .i64 n154) h158 h160 <|
        cLE true (fun hq => ld1 v151 hq some) v152 h158 h160 <|
        aBuiltin Try.prog md .append #[43, 43] [v157, v159] h160 fun v161 h162 =>
        cLE true (fun hq => ld1 (.pointer (some ⟨h0.length, 1, none⟩)) hq some) (.int .i64 n154) h160 h162 <|
        cLE true (fun hq => ld1 v151 hq some) v152 h160 h162 <|
        ixS 1 v152 n154 fun v163 =>
        st md 1 v163 v161 h162 fun h164 =>
        bif okNil Try.prog a0 then
        fA 10 a0 fun v165 =>
        ld1 v165 h164 fun v166 =>
        ld1 (.pointer (some ⟨h0.length, 1, none⟩)) h164 fun v167 =>
        cIn .i64 v167 fun n168 =>
        ixS 1 v166 n168 fun v169 =>
        ld1 v169 h164 fun v170 =>
        ld1 (.pointer (some ⟨h0.length, 2, none⟩)) h164 fun v171 =>
        cIn .i64 v171 fun n172 =>
        ld1 (.pointer (some ⟨h0.length, 3, none⟩)) h164 fun v173 =>
        cIn .i64 v173 fun n174 =>
        ld1 (.pointer (some ⟨h0.length, 4, none⟩)) h164 fun v175 =>
        cIn .i64 v175 fun n176 =>
        ixS 2 v170 n172 fun v177 =>
        st md 2 v177 (.agg #[(.int .i64 n174), (.int .i64 n176)]) h164 fun h178 =>
        bif okNil Try.prog a0 then
        fA 3 a0 fun v179 =>
        fA 0 v179 fun v180 =>
        ldN 6 v180 h178 fun v181 =>
        bif okNil Try.prog a0 then
        fA 3 a0 fun v182 =>
        ldN 6 v182 h178 fun v183 =>
        ld1 (.pointer (some ⟨h0.length, 1, none⟩)) h178 fun v184 =>
        cIn .i64 v184 fun n185 =>
        ld1 (.pointer (some ⟨h0.length, 2, none⟩)) h178 fun v186 =>
        cIn .i64 v186 fun n187 =>
        ld1 (.pointer (some ⟨h0.length, 3, none⟩)) h178 fun v188 =>
        cIn .i64 v188 fun n189 =>
        ld1 (.pointer (some ⟨h0.length, 4, none⟩)) h178 fun v190 =>
        cIn .i64 v190 fun n191 =>
        cl (rc md 46 [v183, (.int .i64 n185), (.int .i64 n187), (.int .i64 n189), (.int .i64 n191)] h178) fun v192 h193 =>
        cIn .i64 v192 fun n194 =>
        cLE true (fun hq => ldN 6 v180 hq some) v181 h178 h193 <|
        cl (rc md 20 [v181, (.int .i64 n194)] h193) fun v195 h196 =>
        cl (rc md 35 [v195, v149] h196) fun v197 h198 =>
        cBn v197 fun b199 =>
        some ((.bool b199), h198)
        else none
        else none
        else none
        else none
        else none
        else none
    else
      bif (n130 == 2) then
        bif !(decide (n128 ≥ 0)) then
          some ((.bool true), h115)
        else
          ld1 (.pointer (some ⟨h0.length, 1, none⟩)) h115 fun v200 =>
          cIn .i64 v200 fun n201 =>
          cl (rc md 72 [a0, (.int .i64 n201), (.int .i64 n98)] h115) fun v202 h203 =>
          cIn .i64 v202 fun n204 =>
          bif okNil Try.prog a0 then
          fA 9 a0 fun v205 =>
          ld1 v205 h203 fun v206 =>
          ld1 (.pointer (some ⟨h0.length, 1, none⟩)) h203 fun v207 =>
          cIn .i64 v207 fun n208 =>
          ixS 1 v206 n208 fun v209 =>
          ld1 v209 h203 fun v210 =>
          ixS 1 v210 n204 fun v211 =>
          ld1 v211 h203 fun v212 =>
          cl (rc md 41 [v212, (.int .i64 n98), (.int .i64 n106)] h203) fun v213 h214 =>
          exT v213 0 fun v215 =>
          exT v213 1 fun v216 =>
          bif okNil Try.prog a0 then
          fA 9 a0 fun v217 =>
          ld1 v217 h214 fun v218 =>
          ld1 (.pointer (some ⟨h0.length, 1, none⟩)) h214 fun v219 =>
          cIn .i64 v219 fun n220 =>
          ld1 (.pointer (some ⟨h0.length, 1, none⟩)) h214 fun v221 =>
          cIn .i64 v221 fun n222 =>
          cl (rc md 74 [a0, (.int .i64 n222), (.int .i64 n204), (.int .i64 n204)] h214) fun v223 h224 =>
          cLE true (fun hq => ld1 (.pointer (some ⟨h0.length, 1, none⟩)) hq some) (.int .i64 n220) h214 h224 <|
          cLE true (fun hq => ld1 v217 hq some) v218 h214 h224 <|
          aBuildSlice Try.prog 43 2 [(0, v215), (1, v216)] h224 fun v225 h226 =>
          cLE true (fun hq => ld1 (.pointer (some ⟨h0.length, 1, none⟩)) hq some) (.int .i64 n222) h224 h226 <|
          cLE true (fun hq => ld1 (.pointer (some ⟨h0.length, 1, none⟩)) hq some) (.int .i64 n220) h224 h226 <|
          cLE true (fun hq => ld1 v217 hq some) v218 h224 h226 <|
          aBuiltin Try.prog md .append #[43, 43] [v223, v225] h226 fun v227 h228 =>
          cLE true (fun hq => ld1 (.pointer (some ⟨h0.length, 1, none⟩)) hq some) (.int .i64 n220) h226 h228 <|
          cLE true (fun hq => ld1 v217 hq some) v218 h226 h228 <|
          ixS 1 v218 n220 fun v229 =>
          st md 1 v229 v227 h228 fun h230 =>
          bif okNil Try.prog a0 then
          fA 10 a0 fun v231 =>
          ld1 v231 h230 fun v232 =>
          ld1 (.pointer (some ⟨h0.length, 1, none⟩)) h230 fun v233 =>
          cIn .i64 v233 fun n234 =>
          ixS 1 v232 n234 fun v235 =>
          ld1 v235 h230 fun v236 =>
          ld1 (.pointer (some ⟨h0.length, 2, none⟩)) h230 fun v237 =>
          cIn .i64 v237 fun n238 =>
          ixS 2 v236 n238 fun v239 =>
          st md 2 v239 (.agg #[(.int .i64 (-1)), (.int .i64 (-1))]) h230 fun h240 =>
          bif okNil Try.prog a0 then
          fA 3 a0 fun v241 =>
          ldN 6 v241 h240 fun v242 =>
          ld1 (.pointer (some ⟨h0.length, 1, none⟩)) h240 fun v243 =>
          cIn .i64 v243 fun n244 =>
          ld1 (.pointer (some ⟨h0.length, 2, none⟩)) h240 fun v245 =>
          cIn .i64 v245 fun n246 =>
          cl (rc md 47 [v242, (.int .i64 n244), (.int .i64 n246)] h240) fun v247 h248 =>
          exT v247 0 fun v249 =>
          cIn .i64 v249 fun n250 =>
          exT v247 1 fun v251 =>
          cIn .i64 v251 fun n252 =>
          bif okNil Try.prog a0 then
          fA 3 a0 fun v253 =>
          fA 0 v253 fun v254 =>
          ldN 6 v254 h248 fun v255 =>
          cl (rc md 20 [v255, (.int .i64 n250)] h248) fun v256 h257 =>
          cl (rc md 35 [v256, v215] h257) fun v258 h259 =>
          cBn v258 fun b260 =>
          (bif wantV (.bool b260) true then
          some (a0, h259)
          else some (undef, h259)).bind fun p261 =>
          (bif wantV (.bool b260) true then
          bif okNil Try.prog p261.1 then
          some (p261.1, p261.2)
          else none
          else some (undef, p261.2)).bind fun p262 =>
          (bif wantV (.bool b260) true then
          fA 3 p262.1 fun v263 =>
          some (v263, p262.2)
          else some (undef, p262.2)).bind fun p264 =>
          (bif wantV (.bool b260) true then
          fA 0 p264.1 fun v265 =>
          some (v265, p264.2)
          else some (undef, p264.2)).bind fun p266 =>
          (bif wantV (.bool b260) true then
          ldN 6 p266.1 p266.2 fun v267 =>
          some (v267, p266.2)
          else some (undef, p266.2)).bind fun p268 =>
          (bif wantV (.bool b260) true then
          some ((.int .i64 n252), p268.2)
          else some (undef, p268.2)).bind fun p269 =>
          (bif wantV (.bool b260) true then
          cl (rc md 20 [p268.1, p269.1] p269.2) fun v270 h271 =>
          some (v270, h271)
          else some (undef, p269.2)).bind fun p272 =>
          (bif wantV (.bool b260) true then
          some (v216, p272.2)
          else some (undef, p272.2)).bind fun p273 =>
          (bif wantV (.bool b260) true then
          cl (rc md 35 [p272.1, p273.1] p273.2) fun v274 h275 =>
          cBn v274 fun b276 =>
          some ((.bool b276), h275)
          else some (undef, p273.2)).bind fun p277 =>
          cBn (bif b260 then p277.1 else (.bool false)) fun b278 =>
          some ((.bool b278), p277.2)
          else none
          else none
          else none
          else none
          else none
      else
        bif (n130 == 3) then
          bif okNil Try.prog a0 then
          fA 9 a0 fun v279 =>
          ld1 v279 h115 fun v280 =>
          ld1 (.pointer (some ⟨h0.length, 1, none⟩)) h115 fun v281 =>
          cIn .i64 v281 fun n282 =>
          ixS 1 v280 n282 fun v283 =>
          ld1 v283 h115 fun v284 =>
          ixS 1 v284 n111 fun v285 =>
          ld1 v285 h115 fun v286 =>
          cl (rc md 49 [v286, (.int .i64 n82)] h115) fun v287 h288 =>
          let h289 : Heap := h288 ++ [.own []]
          bif okNil Try.prog a0 then
          fA 9 a0 fun v290 =>
          ld1 v290 h289 fun v291 =>
          cLE true (fun hq => ld1 v290 hq some) v291 h288 h289 <|
          ld1 (.pointer (some ⟨h0.length, 1, none⟩)) h289 fun v292 =>
          cIn .i64 v292 fun n293 =>
          cLE true (fun hq => ld1 (.pointer (some ⟨h0.length, 1, none⟩)) hq some) (.int .i64 n293) h288 h289 <|
          ixS 1 v291 n293 fun v294 =>
          ld1 v294 h289 fun v295 =>
          cLE true (fun hq => ld1 v294 hq some) v295 h288 h289 <|
          aBuiltin Try.prog md .append #[43, 43] [(.slice (some ⟨h288.length, 0, none⟩) 0 1), v295] h289 fun v296 h297 =>
          ixS 1 v296 n111 fun v298 =>
          st md 1 v298 v287 h297 fun h299 =>
          bif okNil Try.prog a0 then
          fA 9 a0 fun v300 =>
          ld1 v300 h299 fun v301 =>
          ld1 (.pointer (some ⟨h0.length, 1, none⟩)) h299 fun v302 =>
          cIn .i64 v302 fun n303 =>
          ixS 1 v301 n303 fun v304 =>
          st md 1 v304 v296 h299 fun h305 =>
          bif okNil Try.prog a0 then
          fA 3 a0 fun v306 =>
          fA 0 v306 fun v307 =>
          ldN 6 v307 h305 fun v308 =>
          bif okNil Try.prog a0 then
          fA 3 a0 fun v309 =>
          ldN 6 v309 h305 fun v310 =>
          ld1 (.pointer (some ⟨h0.length, 1, none⟩)) h305 fun v311 =>
          cIn .i64 v311 fun n312 =>
          ld1 (.pointer (some ⟨h0.length, 3, none⟩)) h305 fun v313 =>
          cIn .i64 v313 fun n314 =>
          cl (rc md 45 [v310, (.int .i64 n312), (.int .i64 n314)] h305) fun v315 h316 =>
          cIn .i64 v315 fun n317 =>
          cLE true (fun hq => ldN 6 v307 hq some) v308 h305 h316 <|
          cl (rc md 20 [v308, (.int .i64 n317)] h316) fun v318 h319 =>
          cl (rc md 35 [v318, v287] h319) fun v320 h321 =>
          cBn v320 fun b322 =>
          some ((.bool b322), h321)
          else none
          else none
          else none
          else none
          else none
        else
          some ((.bool true), h115)
    else none
  else none
theorem F34_eq0 (rc : Rec) (md : Md) (a0 : Value) (a1_0 : Int) (a1_1 : Int) (a1_2 : Int) (a1_3 : Int) (a1_4 : Int) (h0 : Heap) : callStep0 Try.prog cfg rc md 34 [a0, (.agg #[(.int .i64 a1_0), (.int .i64 a1_1), (.int .i64 a1_2), (.int .i64 a1_3), (.int .i64 a1_4)])] h0 = F34 rc md a0 a1_0 a1_1 a1_2 a1_3 a1_4 h0 := by kernel_rfl
theorem F34_eq (rc : Rec) (md : Md) (a0 : Value) (a1_0 : Int) (a1_1 : Int) (a1_2 : Int) (a1_3 : Int) (a1_4 : Int) (h0 : Heap) : callStep Try.prog cfg rc md 34 [a0, (.agg #[(.int .i64 a1_0), (.int .i64 a1_1), (.int .i64 a1_2), (.int .i64 a1_3), (.int .i64 a1_4)])] h0 = F34 rc md a0 a1_0 a1_1 a1_2 a1_3 a1_4 h0 := (callStep_ne (by kernel_rfl)).trans (F34_eq0 rc md a0 a1_0 a1_1 a1_2 a1_3 a1_4 h0)

/-- tombolo/tombololaw10.same -/
noncomputable def Jk35_0 (rc : Rec) (md : Md) (h0 : Heap) (e : Exit) (s0 : Value) (s1 : Value) (s4 : Value) (s12 : Value) (s13 : Value) (h : Heap) : Option (Value × Heap) :=
  match e with
  | .normal =>
    some ((.bool true), h0)
  | .exit j =>
    bif Nat.beq j 0 then
      some ((.bool true), h0)
    else
      none
  | .ret =>
    fin2 h0 s4
  | .goto l => none
  | .panic ps => none
  | .outgrown => none
theorem Jk35_0_at (rc : Rec) (md : Md) (h0 : Heap) (e : Exit) (t : T) (h : Heap) : kAt Try.prog cfg rc md 26 (bodyOf Try.prog 35) [1, 1, 0, 1, 0] (retK Try.prog cfg 35 (rsOf Try.prog 35) h0) e t h = Jk35_0 rc md h0 e (t 0) (t 1) (t 4) (t 12) (t 13) h := by cases e <;> kernel_rfl
/-- a round -/
noncomputable def Jr35_0 (rc : Rec) (md : Md) (s0 : Value) (s1 : Value) (s4 : Value) (s12 : Value) (s13 : Value) (h : Heap) : Option (((Value × Value × Value × Value × Value) × Heap) ⊕ (Exit × (Value × Value × Value × Value × Value) × Heap)) :=
  aBin Try.prog .lss 3 s13 s12 fun v1 =>
  cBn v1 fun b2 =>
  bif b2 then
    ixSV 1 s0 s13 fun v3 =>
    ld1 v3 h fun v4 =>
    cIn .i64 v4 fun n5 =>
    ixSV 1 s1 s13 fun v6 =>
    ld1 v6 h fun v7 =>
    cIn .i64 v7 fun n8 =>
    bif (n5 != n8) then
      some (.inr (.ret, (s0, s1, (.bool false), s12, s13), h))
    else
      aBin Try.prog .add 3 s13 (.int .i64 1) fun v9 =>
      some (.inl ((s0, s1, s4, s12, v9), h))
  else
    some (.inr ((.exit 0), (s0, s1, s4, s12, s13), h))
theorem Jr35_0_at (rc : Rec) (md : Md) (t : T) (h : Heap) : exec Try.prog cfg rc md 26 (sub (bodyOf Try.prog 35) [1, 1, 0, 1, 0, 0]) (rndK (fun t => (t 0, t 1, t 4, t 12, t 13))) t h = Jr35_0 rc md (t 0) (t 1) (t 4) (t 12) (t 13) h := by kernel_rfl
noncomputable def J35_0 (rc : Rec) (md : Md) (h0 : Heap) (s0 : Value) (s1 : Value) (s4 : Value) (s12 : Value) (s13 : Value) (h : Heap) : Option (Value × Heap) :=
  runL (fun x : (Value × Value × Value × Value × Value) × Heap => Jr35_0 rc md x.1.1 x.1.2.1 x.1.2.2.1 x.1.2.2.2.1 x.1.2.2.2.2 x.2) (fun e (s : Value × Value × Value × Value × Value) h => Jk35_0 rc md h0 e s.1 s.2.1 s.2.2.1 s.2.2.2.1 s.2.2.2.2 h) (s0, s1, s4, s12, s13) h
theorem J35_0_step (rc : Rec) (md : Md) (h0 : Heap) (s0 : Value) (s1 : Value) (s4 : Value) (s12 : Value) (s13 : Value) (h : Heap) : J35_0 rc md h0 s0 s1 s4 s12 s13 h = (Jr35_0 rc md s0 s1 s4 s12 s13 h).bind fun x => match x with
    | .inl (s, h) => J35_0 rc md h0 s.1 s.2.1 s.2.2.1 s.2.2.2.1 s.2.2.2.2 h
    | .inr (e, s, h) => Jk35_0 rc md h0 e s.1 s.2.1 s.2.2.1 s.2.2.2.1 s.2.2.2.2 h := by
  unfold J35_0
  rw [runL_eq]
  refine congrArg (Option.bind _) (funext fun x => ?_)
  rcases x with ⟨s, h⟩ | ⟨e, s, h⟩ <;> rfl
theorem J35_0_cut (rc : Rec) (md : Md) (h0 : Heap) : cut Try.prog cfg rc md 26 (bodyOf Try.prog 35) [1, 1, 0, 1, 0] (retK Try.prog cfg 35 (rsOf Try.prog 35) h0) = fun t h => J35_0 rc md h0 (t 0) (t 1) (t 4) (t 12) (t 13) h := by
  funext t h
  have e : sub (bodyOf Try.prog 35) [1, 1, 0, 1, 0] = .loop (sub (bodyOf Try.prog 35) [1, 1, 0, 1, 0, 0]) := by kernel_rfl
  unfold cut
  rw [e]
  exact loop_eq (by kernel_rfl) (fun t => (t 0, t 1, t 4, t 12, t 13)) (fun x : (Value × Value × Value × Value × Value) × Heap => Jr35_0 rc md x.1.1 x.1.2.1 x.1.2.2.1 x.1.2.2.2.1 x.1.2.2.2.2 x.2) (fun t h => Jr35_0_at rc md t h) (fun e (s : Value × Value × Value × Value × Value) h => Jk35_0 rc md h0 e s.1 s.2.1 s.2.2.1 s.2.2.2.1 s.2.2.2.2 h) (fun e t h => Jk35_0_at rc md h0 e t h) t h
noncomputable def F35 (rc : Rec) (md : Md) (a0 : Value) (a1 : Value) (h0 : Heap) : Option (Value × Heap) :=
  lenS a0 fun v1 =>
  cIn .i64 v1 fun n2 =>
  lenS a1 fun v3 =>
  cIn .i64 v3 fun n4 =>
  bif (n2 != n4) then
    some ((.bool false), h0)
  else
    lenS a0 fun v5 =>
    cIn .i64 v5 fun n6 =>
    J35_0 rc md h0 a0 a1 (.bool false) (.int .i64 n6) (.int .i64 0) h0
noncomputable def F35H (rc : Rec) (md : Md) (X0 : T → Heap → Option (Value × Heap)) (a0 : Value) (a1 : Value) (h0 : Heap) : Option (Value × Heap) :=
  lenS a0 fun v1 =>
  cIn .i64 v1 fun n2 =>
  lenS a1 fun v3 =>
  cIn .i64 v3 fun n4 =>
  bif (n2 != n4) then
    some ((.bool false), h0)
  else
    lenS a0 fun v5 =>
    cIn .i64 v5 fun n6 =>
    X0 (upd (upd (upd (upd (upd (upd (upd (upd (upd (args0 [a0, a1]) 4 (.bool false)) 6 a0) 7 (.int .i64 n2)) 8 a1) 9 (.int .i64 n4)) 10 (.bool (n2 != n4))) 11 a0) 12 (.int .i64 n6)) 13 (.int .i64 0)) h0
theorem F35_h0 (rc : Rec) (md : Md) (a0 : Value) (a1 : Value) (h0 : Heap) : callStep0 Try.prog cfg rc md 35 [a0, a1] h0 = exec Try.prog cfg rc ⟨h0.length, h0.length⟩ 26 (bodyOf Try.prog 35) (retK Try.prog cfg 35 (rsOf Try.prog 35) h0) (args0 [a0, a1]) h0 := callStep0_run (by kernel_rfl) (by kernel_rfl) (by kernel_rfl)
theorem F35_h1 (rc : Rec) (md : Md) (X : Nat → T → Heap → Option (Value × Heap)) (a0 : Value) (a1 : Value) (h0 : Heap) : execG Try.prog cfg X rc md 26 (replS (bodyOf Try.prog 35) [([1, 1, 0, 1, 0], 0)]) (retK Try.prog cfg 35 (rsOf Try.prog 35) h0) (args0 [a0, a1]) h0 = F35H rc md (X 0) a0 a1 h0 := by kernel_rfl
theorem F35_h2 (rc : Rec) (md : Md) (a0 : Value) (a1 : Value) (h0 : Heap) : F35H rc md (fun t h => J35_0 rc md h0 (t 0) (t 1) (t 4) (t 12) (t 13) h) a0 a1 h0 = F35 rc md a0 a1 h0 := by unfold F35H F35; kernel_rfl
theorem F35_eq0 (rc : Rec) (md : Md) (a0 : Value) (a1 : Value) (h0 : Heap) : callStep0 Try.prog cfg rc md 35 [a0, a1] h0 = F35 rc ⟨h0.length, h0.length⟩ a0 a1 h0 := by
  rw [F35_h0, exec_holes [([1, 1, 0, 1, 0], 0)] (by kernel_rfl), F35_h1, show (goX Try.prog cfg rc ⟨h0.length, h0.length⟩ 26 (bodyOf Try.prog 35) [([1, 1, 0, 1, 0], 0)] (retK Try.prog cfg 35 (rsOf Try.prog 35) h0)) 0 = _ from J35_0_cut rc ⟨h0.length, h0.length⟩ h0]
  exact F35_h2 rc _ a0 a1 h0
theorem F35_eq (rc : Rec) (md : Md) (a0 : Value) (a1 : Value) (h0 : Heap) : callStep Try.prog cfg rc md 35 [a0, a1] h0 = F35 rc ⟨h0.length, h0.length⟩ a0 a1 h0 := (callStep_ne (by kernel_rfl)).trans (F35_eq0 rc md a0 a1 h0)

/-- (tombolo/tour.Tours).Linked -/
noncomputable def F36 (rc : Rec) (md : Md) (a0_0 : Int) (a0_1 : Int) (a0_2 : Int) (a0_3 : Value) (a0_4 : Int) (a0_5 : Int) (a1 : Int) (a2 : Int) (h0 : Heap) : Option (Value × Heap) :=
  let h1 : Heap := h0 ++ [.own [(.int .i64 a0_0), (.int .i64 a0_1), (.int .i64 a0_2), a0_3, (.int .i64 a0_4), (.int .i64 a0_5)]]
  ldN 6 (.pointer (some ⟨h0.length, 0, none⟩)) h1 fun v2 =>
  cl (rc md 75 [v2, (.int .i64 a1), (.int .i64 a2)] h1) fun v3 h4 =>
  exT v3 0 fun v5 =>
  cIn .i64 v5 fun n6 =>
  exT v3 1 fun v7 =>
  cIn .i64 v7 fun n8 =>
  ldN 6 (.pointer (some ⟨h0.length, 0, none⟩)) h4 fun v9 =>
  cl (rc md 21 [v9, (.int .i64 n6)] h4) fun v10 h11 =>
  cIn .i64 v10 fun n12 =>
  ldN 6 (.pointer (some ⟨h0.length, 0, none⟩)) h11 fun v13 =>
  cLE true (fun hq => ldN 6 (.pointer (some ⟨h0.length, 0, none⟩)) hq some) v13 h4 h11 <|
  cl (rc md 21 [v13, (.int .i64 n8)] h11) fun v14 h15 =>
  cIn .i64 v14 fun n16 =>
  some ((.bool (n12 == n16)), List.take h0.length h15)
theorem F36_eq0 (rc : Rec) (md : Md) (a0_0 : Int) (a0_1 : Int) (a0_2 : Int) (a0_3 : Value) (a0_4 : Int) (a0_5 : Int) (a1 : Int) (a2 : Int) (h0 : Heap) : callStep0 Try.prog cfg rc md 36 [(.agg #[(.int .i64 a0_0), (.int .i64 a0_1), (.int .i64 a0_2), a0_3, (.int .i64 a0_4), (.int .i64 a0_5)]), (.int .i64 a1), (.int .i64 a2)] h0 = F36 rc ⟨md.ro, h0.length⟩ a0_0 a0_1 a0_2 a0_3 a0_4 a0_5 a1 a2 h0 := by kernel_rfl
theorem F36_eq (rc : Rec) (md : Md) (a0_0 : Int) (a0_1 : Int) (a0_2 : Int) (a0_3 : Value) (a0_4 : Int) (a0_5 : Int) (a1 : Int) (a2 : Int) (h0 : Heap) : callStep Try.prog cfg rc md 36 [(.agg #[(.int .i64 a0_0), (.int .i64 a0_1), (.int .i64 a0_2), a0_3, (.int .i64 a0_4), (.int .i64 a0_5)]), (.int .i64 a1), (.int .i64 a2)] h0 = F36 rc ⟨md.ro, h0.length⟩ a0_0 a0_1 a0_2 a0_3 a0_4 a0_5 a1 a2 h0 := (callStep_ne (by kernel_rfl)).trans (F36_eq0 rc md a0_0 a0_1 a0_2 a0_3 a0_4 a0_5 a1 a2 h0)

/-- (tombolo/tomboloref10.Graph).Joined -/
noncomputable def J37_1 (rc : Rec) (md : Md) (h0 : Heap) (s2 : Value) (s7 : Value) (h : Heap) : Option (Value × Heap) :=
  cl (rc md 76 [s7, s2] h) fun v1 h2 =>
  cBn v1 fun b3 =>
  some ((.bool b3), h0)
theorem J37_1_at (rc : Rec) (md : Md) (h0 : Heap) (t : T) (h : Heap) : cut Try.prog cfg rc md 73 (bodyOf Try.prog 37) [1, 1, 1] (retK Try.prog cfg 37 (rsOf Try.prog 37) h0) t h = J37_1 rc md h0 (t 2) (t 7) h := by kernel_rfl
theorem J37_1_cut (rc : Rec) (md : Md) (h0 : Heap) : cut Try.prog cfg rc md 73 (bodyOf Try.prog 37) [1, 1, 1] (retK Try.prog cfg 37 (rsOf Try.prog 37) h0) = fun t h => J37_1 rc md h0 (t 2) (t 7) h := funext fun t => funext fun h => J37_1_at rc md h0 t h
noncomputable def Jk37_0 (rc : Rec) (md : Md) (h0 : Heap) (e : Exit) (s0 : Value) (s2 : Value) (s6 : Value) (s7 : Value) (s8 : Value) (h : Heap) : Option (Value × Heap) :=
  match e with
  | .normal =>
    J37_1 rc md h0 s2 s7 h
  | .exit j =>
    bif Nat.beq j 0 then
      J37_1 rc md h0 s2 s7 h
    else
      none
  | .ret =>
    fin2 h0 s6
  | .goto l => none
  | .panic ps => none
  | .outgrown => none
noncomputable def Jk37_0H (rc : Rec) (md : Md) (h0 : Heap) (X1 : T → Heap → Option (Value × Heap)) (e : Exit) (t : T) (h : Heap) : Option (Value × Heap) :=
  match e with
  | .normal =>
    X1 t h
  | .exit j =>
    bif Nat.beq j 0 then
      X1 t h
    else
      none
  | .ret =>
    fin2 h0 (t 6)
  | .goto l => none
  | .panic ps => none
  | .outgrown => none
theorem Jk37_0_h1 (rc : Rec) (md : Md) (h0 : Heap) (X : Nat → T → Heap → Option (Value × Heap)) (e : Exit) (t : T) (h : Heap) : kAtG Try.prog cfg X rc md 73 (replS (bodyOf Try.prog 37) [([1, 1, 1], 1)]) [1, 1, 0, 1, 0] (retK Try.prog cfg 37 (rsOf Try.prog 37) h0) e t h = Jk37_0H rc md h0 (X 1) e t h := by cases e <;> kernel_rfl
theorem Jk37_0_h2 (rc : Rec) (md : Md) (h0 : Heap) (e : Exit) (t : T) (h : Heap) : Jk37_0H rc md h0 (fun t h => J37_1 rc md h0 (t 2) (t 7) h) e t h = Jk37_0 rc md h0 e (t 0) (t 2) (t 6) (t 7) (t 8) h := by cases e <;> (unfold Jk37_0H Jk37_0; kernel_rfl)
theorem Jk37_0_at (rc : Rec) (md : Md) (h0 : Heap) (e : Exit) (t : T) (h : Heap) : kAt Try.prog cfg rc md 73 (bodyOf Try.prog 37) [1, 1, 0, 1, 0] (retK Try.prog cfg 37 (rsOf Try.prog 37) h0) e t h = Jk37_0 rc md h0 e (t 0) (t 2) (t 6) (t 7) (t 8) h := by
  rw [kAt_holes [([1, 1, 1], 1)] [1, 1, 0, 1, 0] (by kernel_rfl), Jk37_0_h1, show (goX Try.prog cfg rc md 73 (bodyOf Try.prog 37) [([1, 1, 1], 1)] (retK Try.prog cfg 37 (rsOf Try.prog 37) h0)) 1 = _ from J37_1_cut rc md h0]
  exact Jk37_0_h2 rc md h0 e t h
noncomputable def Jk37_0b0 (rc : Rec) (md : Md) (e : Exit) (s0 : Value) (s2 : Value) (s6 : Value) (s7 : Value) (s8 : Value) (s9 : Value) (h : Heap) : Option (((Value × Value × Value × Value × Value) × Heap) ⊕ (Exit × (Value × Value × Value × Value × Value) × Heap)) :=
  match e with
  | .normal =>
    aBin Try.prog .add 3 s8 (.int .i64 1) fun v1 =>
    some (.inl ((s0, s2, s6, s7, v1), h))
  | .exit j =>
    bif Nat.beq j 2 then
      aBin Try.prog .add 3 s8 (.int .i64 1) fun v2 =>
      some (.inl ((s0, s2, s6, s7, v2), h))
    else
      bif Nat.beq j 1 then
        aBin Try.prog .add 3 s8 (.int .i64 1) fun v3 =>
        some (.inl ((s0, s2, s6, s7, v3), h))
      else
        some (.inr ((.exit j), (s0, s2, s6, s7, s8), h))
  | .ret =>
    some (.inr (.ret, (s0, s2, s6, s7, s8), h))
  | .goto l => some (.inr ((.goto l), (s0, s2, s6, s7, s8), h))
  | .panic ps => some (.inr ((.panic ps), (s0, s2, s6, s7, s8), h))
  | .outgrown => some (.inr (.outgrown, (s0, s2, s6, s7, s8), h))
theorem Jk37_0b0_at (rc : Rec) (md : Md) (e : Exit) (t : T) (h : Heap) : kAt Try.prog cfg rc md 73 (sub (bodyOf Try.prog 37) [1, 1, 0, 1, 0, 0]) [1, 0, 0, 1, 0] (rndK (fun t => (t 0, t 2, t 6, t 7, t 8))) e t h = Jk37_0b0 rc md e (t 0) (t 2) (t 6) (t 7) (t 8) (t 9) h := by cases e <;> kernel_rfl
noncomputable def J37_0b0b0 (rc : Rec) (md : Md) (s0 : Value) (s2 : Value) (s6 : Value) (s7 : Value) (s8 : Value) (s9 : Value) (s10 : Value) (s11 : Value) (h : Heap) : Option (((Value × Value × Value × Value × Value × Value) × Heap) ⊕ (Exit × (Value × Value × Value × Value × Value × Value) × Heap)) :=
  ixSV 1 s7 s8 fun v1 =>
  ld1 v1 h fun v2 =>
  cIn .i64 v2 fun n3 =>
  aBin Try.prog .eql 3 s11 (.int .i64 n3) fun v4 =>
  (bif wantV v4 true then
  some (s7, h)
  else some (undef, h)).bind fun p5 =>
  (bif wantV v4 true then
  some (s10, p5.2)
  else some (undef, p5.2)).bind fun p6 =>
  (bif wantV v4 true then
  cl (rc md 76 [p5.1, p6.1] p6.2) fun v7 h8 =>
  cBn v7 fun b9 =>
  some ((.bool b9), h8)
  else some (undef, p6.2)).bind fun p10 =>
  (bif wantV v4 true then
  aUn .not p10.1 fun v11 =>
  some (v11, p10.2)
  else some (undef, p10.2)).bind fun p12 =>
  cBn v4 fun q13 =>
  cBn (bif q13 then p12.1 else (.bool false)) fun b14 =>
  bif b14 then
    aBuildSlice Try.prog 44 1 [(0, s10)] p12.2 fun v15 h16 =>
    aBuiltin Try.prog md .append #[44, 44] [s7, v15] h16 fun v17 h18 =>
    aBin Try.prog .add 3 s9 (.int .i64 1) fun v19 =>
    some (.inl ((s0, s2, s6, v17, s8, v19), h18))
  else
    aBin Try.prog .add 3 s9 (.int .i64 1) fun v20 =>
    some (.inl ((s0, s2, s6, s7, s8, v20), p12.2))
theorem J37_0b0b0_at (rc : Rec) (md : Md) (t : T) (h : Heap) : cut Try.prog cfg rc md 73 (sub (bodyOf Try.prog 37) [1, 1, 0, 1, 0, 0, 1, 0, 0, 1, 0, 0]) [1, 0, 0, 1, 1, 1] (rndK (fun t => (t 0, t 2, t 6, t 7, t 8, t 9))) t h = J37_0b0b0 rc md (t 0) (t 2) (t 6) (t 7) (t 8) (t 9) (t 10) (t 11) h := by kernel_rfl
theorem J37_0b0b0_cut (rc : Rec) (md : Md) : cut Try.prog cfg rc md 73 (sub (bodyOf Try.prog 37) [1, 1, 0, 1, 0, 0, 1, 0, 0, 1, 0, 0]) [1, 0, 0, 1, 1, 1] (rndK (fun t => (t 0, t 2, t 6, t 7, t 8, t 9))) = fun t h => J37_0b0b0 rc md (t 0) (t 2) (t 6) (t 7) (t 8) (t 9) (t 10) (t 11) h := funext fun t => funext fun h => J37_0b0b0_at rc md t h
/-- a round -/
noncomputable def Jr37_0b0 (rc : Rec) (md : Md) (s0 : Value) (s2 : Value) (s6 : Value) (s7 : Value) (s8 : Value) (s9 : Value) (h : Heap) : Option (((Value × Value × Value × Value × Value × Value) × Heap) ⊕ (Exit × (Value × Value × Value × Value × Value × Value) × Heap)) :=
  lenS s0 fun v1 =>
  cIn .i64 v1 fun n2 =>
  aBin Try.prog .lss 3 s9 (.int .i64 n2) fun v3 =>
  cBn v3 fun b4 =>
  bif b4 then
    ixSV 2 s0 s9 fun v5 =>
    ixA 2 1 v5 0 fun v6 =>
    ld1 v6 h fun v7 =>
    cIn .i64 v7 fun n8 =>
    ixSV 2 s0 s9 fun v9 =>
    ixA 2 1 v9 1 fun v10 =>
    ld1 v10 h fun v11 =>
    cIn .i64 v11 fun n12 =>
    bif (decide (n8 < 0)) then
      aBin Try.prog .add 3 s9 (.int .i64 1) fun v13 =>
      some (.inl ((s0, s2, s6, s7, s8, v13), h))
    else
      ixSV 1 s7 s8 fun v14 =>
      ld1 v14 h fun v15 =>
      cIn .i64 v15 fun n16 =>
      (bif wantV (.bool (n8 == n16)) true then
      some (s7, h)
      else some (undef, h)).bind fun p17 =>
      (bif wantV (.bool (n8 == n16)) true then
      some ((.int .i64 n12), p17.2)
      else some (undef, p17.2)).bind fun p18 =>
      (bif wantV (.bool (n8 == n16)) true then
      cl (rc md 76 [p17.1, p18.1] p18.2) fun v19 h20 =>
      cBn v19 fun b21 =>
      some ((.bool b21), h20)
      else some (undef, p18.2)).bind fun p22 =>
      (bif wantV (.bool (n8 == n16)) true then
      aUn .not p22.1 fun v23 =>
      some (v23, p22.2)
      else some (undef, p22.2)).bind fun p24 =>
      cBn (bif (n8 == n16) then p24.1 else (.bool false)) fun b25 =>
      bif b25 then
        let h26 : Heap := p24.2 ++ [.own [(.int .i64 n12)]]
        aBuiltin Try.prog md .append #[44, 44] [s7, (.slice (some ⟨p24.2.length, 0, none⟩) 1 1)] h26 fun v27 h28 =>
        J37_0b0b0 rc md s0 s2 s6 v27 s8 s9 (.int .i64 n8) (.int .i64 n12) h28
      else
        J37_0b0b0 rc md s0 s2 s6 s7 s8 s9 (.int .i64 n8) (.int .i64 n12) p24.2
  else
    some (.inr ((.exit 2), (s0, s2, s6, s7, s8, s9), h))
noncomputable def Jr37_0b0H (rc : Rec) (md : Md) (X0 : T → Heap → Option (((Value × Value × Value × Value × Value × Value) × Heap) ⊕ (Exit × (Value × Value × Value × Value × Value × Value) × Heap))) (t : T) (h : Heap) : Option (((Value × Value × Value × Value × Value × Value) × Heap) ⊕ (Exit × (Value × Value × Value × Value × Value × Value) × Heap)) :=
  lenS (t 0) fun v1 =>
  cIn .i64 v1 fun n2 =>
  aBin Try.prog .lss 3 (t 9) (.int .i64 n2) fun v3 =>
  cBn v3 fun b4 =>
  bif b4 then
    ixSV 2 (t 0) (t 9) fun v5 =>
    ixA 2 1 v5 0 fun v6 =>
    ld1 v6 h fun v7 =>
    cIn .i64 v7 fun n8 =>
    ixSV 2 (t 0) (t 9) fun v9 =>
    ixA 2 1 v9 1 fun v10 =>
    ld1 v10 h fun v11 =>
    cIn .i64 v11 fun n12 =>
    bif (decide (n8 < 0)) then
      aBin Try.prog .add 3 (t 9) (.int .i64 1) fun v13 =>
      some (.inl (((t 0), (t 2), (t 6), (t 7), (t 8), v13), h))
    else
      ixSV 1 (t 7) (t 8) fun v14 =>
      ld1 v14 h fun v15 =>
      cIn .i64 v15 fun n16 =>
      (bif wantV (.bool (n8 == n16)) true then
      some ((t 7), h)
      else some (undef, h)).bind fun p17 =>
      (bif wantV (.bool (n8 == n16)) true then
      some ((.int .i64 n12), p17.2)
      else some (undef, p17.2)).bind fun p18 =>
      (bif wantV (.bool (n8 == n16)) true then
      cl (rc md 76 [p17.1, p18.1] p18.2) fun v19 h20 =>
      cBn v19 fun b21 =>
      some ((.bool b21), h20)
      else some (undef, p18.2)).bind fun p22 =>
      (bif wantV (.bool (n8 == n16)) true then
      aUn .not p22.1 fun v23 =>
      some (v23, p22.2)
      else some (undef, p22.2)).bind fun p24 =>
      cBn (bif (n8 == n16) then p24.1 else (.bool false)) fun b25 =>
      bif b25 then
        let h26 : Heap := p24.2 ++ [.own [(.int .i64 n12)]]
        aBuiltin Try.prog md .append #[44, 44] [(t 7), (.slice (some ⟨p24.2.length, 0, none⟩) 1 1)] h26 fun v27 h28 =>
        X0 (upd (upd (upd (upd (upd (upd (upd (upd (upd (upd (upd (upd (upd (upd (upd (upd (upd (upd (upd (upd (upd (upd (upd (upd (upd (upd (upd (upd (upd (upd (upd (upd (upd (upd (upd t 20 (t 9)) 21 (t 0)) 22 (.int .i64 n2)) 23 v3) 26 (t 0)) 27 (t 9)) 28 v5) 29 v6) 30 (.int .i64 n8)) 31 (t 0)) 32 (t 9)) 33 v9) 34 v10) 35 (.int .i64 n12)) 10 (.int .i64 n8)) 11 (.int .i64 n12)) 36 (.int .i64 n8)) 37 (.bool (decide (n8 < 0)))) 38 (.int .i64 n8)) 39 (t 7)) 40 (t 8)) 41 v14) 42 (.int .i64 n16)) 43 (.bool (n8 == n16))) 44 (.bool (n8 == n16))) 45 p17.1) 46 p18.1) 47 p22.1) 48 p24.1) 49 (.bool b25)) 50 (t 7)) 51 (.int .i64 n12)) 52 (.slice (some ⟨p24.2.length, 0, none⟩) 1 1)) 53 v27) 7 v27) h28
      else
        X0 (upd (upd (upd (upd (upd (upd (upd (upd (upd (upd (upd (upd (upd (upd (upd (upd (upd (upd (upd (upd (upd (upd (upd (upd (upd (upd (upd (upd (upd (upd t 20 (t 9)) 21 (t 0)) 22 (.int .i64 n2)) 23 v3) 26 (t 0)) 27 (t 9)) 28 v5) 29 v6) 30 (.int .i64 n8)) 31 (t 0)) 32 (t 9)) 33 v9) 34 v10) 35 (.int .i64 n12)) 10 (.int .i64 n8)) 11 (.int .i64 n12)) 36 (.int .i64 n8)) 37 (.bool (decide (n8 < 0)))) 38 (.int .i64 n8)) 39 (t 7)) 40 (t 8)) 41 v14) 42 (.int .i64 n16)) 43 (.bool (n8 == n16))) 44 (.bool (n8 == n16))) 45 p17.1) 46 p18.1) 47 p22.1) 48 p24.1) 49 (.bool b25)) p24.2
  else
    some (.inr ((.exit 2), ((t 0), (t 2), (t 6), (t 7), (t 8), (t 9)), h))
theorem Jr37_0b0_h1 (rc : Rec) (md : Md) (X : Nat → T → Heap → Option (((Value × Value × Value × Value × Value × Value) × Heap) ⊕ (Exit × (Value × Value × Value × Value × Value × Value) × Heap))) (t : T) (h : Heap) : execG Try.prog cfg X rc md 73 (replS (sub (bodyOf Try.prog 37) [1, 1, 0, 1, 0, 0, 1, 0, 0, 1, 0, 0]) [([1, 0, 0, 1, 1, 1], 0)]) (rndK (fun t => (t 0, t 2, t 6, t 7, t 8, t 9))) t h = Jr37_0b0H rc md (X 0) t h := by kernel_rfl
theorem Jr37_0b0_h2 (rc : Rec) (md : Md) (t : T) (h : Heap) : Jr37_0b0H rc md (fun t h => J37_0b0b0 rc md (t 0) (t 2) (t 6) (t 7) (t 8) (t 9) (t 10) (t 11) h) t h = Jr37_0b0 rc md (t 0) (t 2) (t 6) (t 7) (t 8) (t 9) h := by unfold Jr37_0b0H Jr37_0b0; kernel_rfl
theorem Jr37_0b0_at (rc : Rec) (md : Md) (t : T) (h : Heap) : exec Try.prog cfg rc md 73 (sub (bodyOf Try.prog 37) [1, 1, 0, 1, 0, 0, 1, 0, 0, 1, 0, 0]) (rndK (fun t => (t 0, t 2, t 6, t 7, t 8, t 9))) t h = Jr37_0b0 rc md (t 0) (t 2) (t 6) (t 7) (t 8) (t 9) h := by
  rw [exec_holes [([1, 0, 0, 1, 1, 1], 0)] (by kernel_rfl), Jr37_0b0_h1, show (goX Try.prog cfg rc md 73 (sub (bodyOf Try.prog 37) [1, 1, 0, 1, 0, 0, 1, 0, 0, 1, 0, 0]) [([1, 0, 0, 1, 1, 1], 0)] (rndK (fun t => (t 0, t 2, t 6, t 7, t 8, t 9)))) 0 = _ from J37_0b0b0_cut rc md]
  exact Jr37_0b0_h2 rc md t h
noncomputable def J37_0b0 (rc : Rec) (md : Md) (s0 : Value) (s2 : Value) (s6 : Value) (s7 : Value) (s8 : Value) (s9 : Value) (h : Heap) : Option (((Value × Value × Value × Value × Value) × Heap) ⊕ (Exit × (Value × Value × Value × Value × Value) × Heap)) :=
  runL (fun x : (Value × Value × Value × Value × Value × Value) × Heap => Jr37_0b0 rc md x.1.1 x.1.2.1 x.1.2.2.1 x.1.2.2.2.1 x.1.2.2.2.2.1 x.1.2.2.2.2.2 x.2) (fun e (s : Value × Value × Value × Value × Value × Value) h => Jk37_0b0 rc md e s.1 s.2.1 s.2.2.1 s.2.2.2.1 s.2.2.2.2.1 s.2.2.2.2.2 h) (s0, s2, s6, s7, s8, s9) h
theorem J37_0b0_step (rc : Rec) (md : Md) (s0 : Value) (s2 : Value) (s6 : Value) (s7 : Value) (s8 : Value) (s9 : Value) (h : Heap) : J37_0b0 rc md s0 s2 s6 s7 s8 s9 h = (Jr37_0b0 rc md s0 s2 s6 s7 s8 s9 h).bind fun x => match x with
    | .inl (s, h) => J37_0b0 rc md s.1 s.2.1 s.2.2.1 s.2.2.2.1 s.2.2.2.2.1 s.2.2.2.2.2 h
    | .inr (e, s, h) => Jk37_0b0 rc md e s.1 s.2.1 s.2.2.1 s.2.2.2.1 s.2.2.2.2.1 s.2.2.2.2.2 h := by
  unfold J37_0b0
  rw [runL_eq]
  refine congrArg (Option.bind _) (funext fun x => ?_)
  rcases x with ⟨s, h⟩ | ⟨e, s, h⟩ <;> rfl
theorem J37_0b0_cut (rc : Rec) (md : Md) : cut Try.prog cfg rc md 73 (sub (bodyOf Try.prog 37) [1, 1, 0, 1, 0, 0]) [1, 0, 0, 1, 0] (rndK (fun t => (t 0, t 2, t 6, t 7, t 8))) = fun t h => J37_0b0 rc md (t 0) (t 2) (t 6) (t 7) (t 8) (t 9) h := by
  funext t h
  have e : sub (sub (bodyOf Try.prog 37) [1, 1, 0, 1, 0, 0]) [1, 0, 0, 1, 0] = .loop (sub (bodyOf Try.prog 37) [1, 1, 0, 1, 0, 0, 1, 0, 0, 1, 0, 0]) := by kernel_rfl
  unfold cut
  rw [e]
  exact loop_eq (by kernel_rfl) (fun t => (t 0, t 2, t 6, t 7, t 8, t 9)) (fun x : (Value × Value × Value × Value × Value × Value) × Heap => Jr37_0b0 rc md x.1.1 x.1.2.1 x.1.2.2.1 x.1.2.2.2.1 x.1.2.2.2.2.1 x.1.2.2.2.2.2 x.2) (fun t h => Jr37_0b0_at rc md t h) (fun e (s : Value × Value × Value × Value × Value × Value) h => Jk37_0b0 rc md e s.1 s.2.1 s.2.2.1 s.2.2.2.1 s.2.2.2.2.1 s.2.2.2.2.2 h) (fun e t h => Jk37_0b0_at rc md e t h) t h
/-- a round -/
noncomputable def Jr37_0 (rc : Rec) (md : Md) (s0 : Value) (s2 : Value) (s6 : Value) (s7 : Value) (s8 : Value) (h : Heap) : Option (((Value × Value × Value × Value × Value) × Heap) ⊕ (Exit × (Value × Value × Value × Value × Value) × Heap)) :=
  lenS s7 fun v1 =>
  cIn .i64 v1 fun n2 =>
  aBin Try.prog .lss 3 s8 (.int .i64 n2) fun v3 =>
  cBn v3 fun b4 =>
  bif b4 then
    J37_0b0 rc md s0 s2 s6 s7 s8 (.int .i64 0) h
  else
    some (.inr ((.exit 0), (s0, s2, s6, s7, s8), h))
noncomputable def Jr37_0H (rc : Rec) (md : Md) (X0 : T → Heap → Option (((Value × Value × Value × Value × Value) × Heap) ⊕ (Exit × (Value × Value × Value × Value × Value) × Heap))) (t : T) (h : Heap) : Option (((Value × Value × Value × Value × Value) × Heap) ⊕ (Exit × (Value × Value × Value × Value × Value) × Heap)) :=
  lenS (t 7) fun v1 =>
  cIn .i64 v1 fun n2 =>
  aBin Try.prog .lss 3 (t 8) (.int .i64 n2) fun v3 =>
  cBn v3 fun b4 =>
  bif b4 then
    X0 (upd (upd (upd (upd (upd t 14 (t 8)) 15 (t 7)) 16 (.int .i64 n2)) 17 v3) 9 (.int .i64 0)) h
  else
    some (.inr ((.exit 0), ((t 0), (t 2), (t 6), (t 7), (t 8)), h))
theorem Jr37_0_h1 (rc : Rec) (md : Md) (X : Nat → T → Heap → Option (((Value × Value × Value × Value × Value) × Heap) ⊕ (Exit × (Value × Value × Value × Value × Value) × Heap))) (t : T) (h : Heap) : execG Try.prog cfg X rc md 73 (replS (sub (bodyOf Try.prog 37) [1, 1, 0, 1, 0, 0]) [([1, 0, 0, 1, 0], 0)]) (rndK (fun t => (t 0, t 2, t 6, t 7, t 8))) t h = Jr37_0H rc md (X 0) t h := by kernel_rfl
theorem Jr37_0_h2 (rc : Rec) (md : Md) (t : T) (h : Heap) : Jr37_0H rc md (fun t h => J37_0b0 rc md (t 0) (t 2) (t 6) (t 7) (t 8) (t 9) h) t h = Jr37_0 rc md (t 0) (t 2) (t 6) (t 7) (t 8) h := by unfold Jr37_0H Jr37_0; kernel_rfl
theorem Jr37_0_at (rc : Rec) (md : Md) (t : T) (h : Heap) : exec Try.prog cfg rc md 73 (sub (bodyOf Try.prog 37) [1, 1, 0, 1, 0, 0]) (rndK (fun t => (t 0, t 2, t 6, t 7, t 8))) t h = Jr37_0 rc md (t 0) (t 2) (t 6) (t 7) (t 8) h := by
  rw [exec_holes [([1, 0, 0, 1, 0], 0)] (by kernel_rfl), Jr37_0_h1, show (goX Try.prog cfg rc md 73 (sub (bodyOf Try.prog 37) [1, 1, 0, 1, 0, 0]) [([1, 0, 0, 1, 0], 0)] (rndK (fun t => (t 0, t 2, t 6, t 7, t 8)))) 0 = _ from J37_0b0_cut rc md]
  exact Jr37_0_h2 rc md t h
noncomputable def J37_0 (rc : Rec) (md : Md) (h0 : Heap) (s0 : Value) (s2 : Value) (s6 : Value) (s7 : Value) (s8 : Value) (h : Heap) : Option (Value × Heap) :=
  runL (fun x : (Value × Value × Value × Value × Value) × Heap => Jr37_0 rc md x.1.1 x.1.2.1 x.1.2.2.1 x.1.2.2.2.1 x.1.2.2.2.2 x.2) (fun e (s : Value × Value × Value × Value × Value) h => Jk37_0 rc md h0 e s.1 s.2.1 s.2.2.1 s.2.2.2.1 s.2.2.2.2 h) (s0, s2, s6, s7, s8) h
theorem J37_0_step (rc : Rec) (md : Md) (h0 : Heap) (s0 : Value) (s2 : Value) (s6 : Value) (s7 : Value) (s8 : Value) (h : Heap) : J37_0 rc md h0 s0 s2 s6 s7 s8 h = (Jr37_0 rc md s0 s2 s6 s7 s8 h).bind fun x => match x with
    | .inl (s, h) => J37_0 rc md h0 s.1 s.2.1 s.2.2.1 s.2.2.2.1 s.2.2.2.2 h
    | .inr (e, s, h) => Jk37_0 rc md h0 e s.1 s.2.1 s.2.2.1 s.2.2.2.1 s.2.2.2.2 h := by
  unfold J37_0
  rw [runL_eq]
  refine congrArg (Option.bind _) (funext fun x => ?_)
  rcases x with ⟨s, h⟩ | ⟨e, s, h⟩ <;> rfl
theorem J37_0_cut (rc : Rec) (md : Md) (h0 : Heap) : cut Try.prog cfg rc md 73 (bodyOf Try.prog 37) [1, 1, 0, 1, 0] (retK Try.prog cfg 37 (rsOf Try.prog 37) h0) = fun t h => J37_0 rc md h0 (t 0) (t 2) (t 6) (t 7) (t 8) h := by
  funext t h
  have e : sub (bodyOf Try.prog 37) [1, 1, 0, 1, 0] = .loop (sub (bodyOf Try.prog 37) [1, 1, 0, 1, 0, 0]) := by kernel_rfl
  unfold cut
  rw [e]
  exact loop_eq (by kernel_rfl) (fun t => (t 0, t 2, t 6, t 7, t 8)) (fun x : (Value × Value × Value × Value × Value) × Heap => Jr37_0 rc md x.1.1 x.1.2.1 x.1.2.2.1 x.1.2.2.2.1 x.1.2.2.2.2 x.2) (fun t h => Jr37_0_at rc md t h) (fun e (s : Value × Value × Value × Value × Value) h => Jk37_0 rc md h0 e s.1 s.2.1 s.2.2.1 s.2.2.2.1 s.2.2.2.2 h) (fun e t h => Jk37_0_at rc md h0 e t h) t h
noncomputable def F37 (rc : Rec) (md : Md) (a0 : Value) (a1 : Int) (a2 : Int) (h0 : Heap) : Option (Value × Heap) :=
  let h1 : Heap := h0 ++ [.own [(.int .i64 a1)]]
  J37_0 rc md h0 a0 (.int .i64 a2) (.bool false) (.slice (some ⟨h0.length, 0, none⟩) 1 1) (.int .i64 0) h1
noncomputable def F37H (rc : Rec) (md : Md) (X0 : T → Heap → Option (Value × Heap)) (a0 : Value) (a1 : Int) (a2 : Int) (h0 : Heap) : Option (Value × Heap) :=
  let h1 : Heap := h0 ++ [.own [(.int .i64 a1)]]
  X0 (upd (upd (upd (upd (upd (args0 [a0, (.int .i64 a1), (.int .i64 a2)]) 6 (.bool false)) 12 (.int .i64 a1)) 13 (.slice (some ⟨h0.length, 0, none⟩) 1 1)) 7 (.slice (some ⟨h0.length, 0, none⟩) 1 1)) 8 (.int .i64 0)) h1
theorem F37_h0 (rc : Rec) (md : Md) (a0 : Value) (a1 : Int) (a2 : Int) (h0 : Heap) : callStep0 Try.prog cfg rc md 37 [a0, (.int .i64 a1), (.int .i64 a2)] h0 = exec Try.prog cfg rc ⟨h0.length, h0.length⟩ 73 (bodyOf Try.prog 37) (retK Try.prog cfg 37 (rsOf Try.prog 37) h0) (args0 [a0, (.int .i64 a1), (.int .i64 a2)]) h0 := callStep0_run (by kernel_rfl) (by kernel_rfl) (by kernel_rfl)
theorem F37_h1 (rc : Rec) (md : Md) (X : Nat → T → Heap → Option (Value × Heap)) (a0 : Value) (a1 : Int) (a2 : Int) (h0 : Heap) : execG Try.prog cfg X rc md 73 (replS (bodyOf Try.prog 37) [([1, 1, 0, 1, 0], 0), ([1, 1, 1], 1)]) (retK Try.prog cfg 37 (rsOf Try.prog 37) h0) (args0 [a0, (.int .i64 a1), (.int .i64 a2)]) h0 = F37H rc md (X 0) a0 a1 a2 h0 := by kernel_rfl
theorem F37_h2 (rc : Rec) (md : Md) (a0 : Value) (a1 : Int) (a2 : Int) (h0 : Heap) : F37H rc md (fun t h => J37_0 rc md h0 (t 0) (t 2) (t 6) (t 7) (t 8) h) a0 a1 a2 h0 = F37 rc md a0 a1 a2 h0 := by unfold F37H F37; kernel_rfl
theorem F37_eq0 (rc : Rec) (md : Md) (a0 : Value) (a1 : Int) (a2 : Int) (h0 : Heap) : callStep0 Try.prog cfg rc md 37 [a0, (.int .i64 a1), (.int .i64 a2)] h0 = F37 rc ⟨h0.length, h0.length⟩ a0 a1 a2 h0 := by
  rw [F37_h0, exec_holes [([1, 1, 0, 1, 0], 0), ([1, 1, 1], 1)] (by kernel_rfl), F37_h1, show (goX Try.prog cfg rc ⟨h0.length, h0.length⟩ 73 (bodyOf Try.prog 37) [([1, 1, 0, 1, 0], 0), ([1, 1, 1], 1)] (retK Try.prog cfg 37 (rsOf Try.prog 37) h0)) 0 = _ from J37_0_cut rc ⟨h0.length, h0.length⟩ h0]
  exact F37_h2 rc _ a0 a1 a2 h0
theorem F37_eq (rc : Rec) (md : Md) (a0 : Value) (a1 : Int) (a2 : Int) (h0 : Heap) : callStep Try.prog cfg rc md 37 [a0, (.int .i64 a1), (.int .i64 a2)] h0 = F37 rc ⟨h0.length, h0.length⟩ a0 a1 a2 h0 := (callStep_ne (by kernel_rfl)).trans (F37_eq0 rc md a0 a1 a2 h0)

/-- (tombolo/tour.Tours).Same -/
noncomputable def F38 (rc : Rec) (md : Md) (a0_0 : Int) (a0_1 : Int) (a0_2 : Int) (a0_3 : Value) (a0_4 : Int) (a0_5 : Int) (a1 : Int) (a2 : Int) (a3 : Int) (h0 : Heap) : Option (Value × Heap) :=
  let h1 : Heap := h0 ++ [.own [(.int .i64 a0_0), (.int .i64 a0_1), (.int .i64 a0_2), a0_3, (.int .i64 a0_4), (.int .i64 a0_5)]]
  ldN 6 (.pointer (some ⟨h0.length, 0, none⟩)) h1 fun v2 =>
  ldN 3 (.pointer (some ⟨h0.length, 0, none⟩)) h1 fun v3 =>
  cl (rc md 44 [v3, (.int .i64 a1), (.int .i64 a2)] h1) fun v4 h5 =>
  cIn .i64 v4 fun n6 =>
  cl (rc md 21 [v2, (.int .i64 n6)] h5) fun v7 h8 =>
  cIn .i64 v7 fun n9 =>
  ldN 6 (.pointer (some ⟨h0.length, 0, none⟩)) h8 fun v10 =>
  cLE true (fun hq => ldN 6 (.pointer (some ⟨h0.length, 0, none⟩)) hq some) v10 h5 h8 <|
  ldN 3 (.pointer (some ⟨h0.length, 0, none⟩)) h8 fun v11 =>
  cLE true (fun hq => ldN 3 (.pointer (some ⟨h0.length, 0, none⟩)) hq some) v11 h5 h8 <|
  cl (rc md 44 [v11, (.int .i64 a1), (.int .i64 a3)] h8) fun v12 h13 =>
  cIn .i64 v12 fun n14 =>
  cl (rc md 21 [v10, (.int .i64 n14)] h13) fun v15 h16 =>
  cIn .i64 v15 fun n17 =>
  some ((.bool (n9 == n17)), List.take h0.length h16)
theorem F38_eq0 (rc : Rec) (md : Md) (a0_0 : Int) (a0_1 : Int) (a0_2 : Int) (a0_3 : Value) (a0_4 : Int) (a0_5 : Int) (a1 : Int) (a2 : Int) (a3 : Int) (h0 : Heap) : callStep0 Try.prog cfg rc md 38 [(.agg #[(.int .i64 a0_0), (.int .i64 a0_1), (.int .i64 a0_2), a0_3, (.int .i64 a0_4), (.int .i64 a0_5)]), (.int .i64 a1), (.int .i64 a2), (.int .i64 a3)] h0 = F38 rc ⟨md.ro, h0.length⟩ a0_0 a0_1 a0_2 a0_3 a0_4 a0_5 a1 a2 a3 h0 := by kernel_rfl
theorem F38_eq (rc : Rec) (md : Md) (a0_0 : Int) (a0_1 : Int) (a0_2 : Int) (a0_3 : Value) (a0_4 : Int) (a0_5 : Int) (a1 : Int) (a2 : Int) (a3 : Int) (h0 : Heap) : callStep Try.prog cfg rc md 38 [(.agg #[(.int .i64 a0_0), (.int .i64 a0_1), (.int .i64 a0_2), a0_3, (.int .i64 a0_4), (.int .i64 a0_5)]), (.int .i64 a1), (.int .i64 a2), (.int .i64 a3)] h0 = F38 rc ⟨md.ro, h0.length⟩ a0_0 a0_1 a0_2 a0_3 a0_4 a0_5 a1 a2 a3 h0 := (callStep_ne (by kernel_rfl)).trans (F38_eq0 rc md a0_0 a0_1 a0_2 a0_3 a0_4 a0_5 a1 a2 a3 h0)

/-- (tombolo/tour.Tours).Count -/
noncomputable def F39 (rc : Rec) (md : Md) (a0_0 : Int) (a0_1 : Int) (a0_2 : Int) (a0_3 : Value) (a0_4 : Int) (a0_5 : Int) (a1 : Int) (a2 : Int) (h0 : Heap) : Option (Value × Heap) :=
  let h1 : Heap := h0 ++ [.own [(.int .i64 a0_0), (.int .i64 a0_1), (.int .i64 a0_2), a0_3, (.int .i64 a0_4), (.int .i64 a0_5)]]
  ldN 6 (.pointer (some ⟨h0.length, 0, none⟩)) h1 fun v2 =>
  ldN 6 (.pointer (some ⟨h0.length, 0, none⟩)) h1 fun v3 =>
  ldN 3 (.pointer (some ⟨h0.length, 0, none⟩)) h1 fun v4 =>
  cl (rc md 44 [v4, (.int .i64 a1), (.int .i64 a2)] h1) fun v5 h6 =>
  cIn .i64 v5 fun n7 =>
  cl (rc md 21 [v3, (.int .i64 n7)] h6) fun v8 h9 =>
  cIn .i64 v8 fun n10 =>
  cLE true (fun hq => ldN 6 (.pointer (some ⟨h0.length, 0, none⟩)) hq some) v2 h6 h9 <|
  cl (rc md 24 [v2, (.int .i64 n10)] h9) fun v11 h12 =>
  cIn .i64 v11 fun n13 =>
  some ((.int .i64 n13), List.take h0.length h12)
theorem F39_eq0 (rc : Rec) (md : Md) (a0_0 : Int) (a0_1 : Int) (a0_2 : Int) (a0_3 : Value) (a0_4 : Int) (a0_5 : Int) (a1 : Int) (a2 : Int) (h0 : Heap) : callStep0 Try.prog cfg rc md 39 [(.agg #[(.int .i64 a0_0), (.int .i64 a0_1), (.int .i64 a0_2), a0_3, (.int .i64 a0_4), (.int .i64 a0_5)]), (.int .i64 a1), (.int .i64 a2)] h0 = F39 rc ⟨md.ro, h0.length⟩ a0_0 a0_1 a0_2 a0_3 a0_4 a0_5 a1 a2 h0 := by kernel_rfl
theorem F39_eq (rc : Rec) (md : Md) (a0_0 : Int) (a0_1 : Int) (a0_2 : Int) (a0_3 : Value) (a0_4 : Int) (a0_5 : Int) (a1 : Int) (a2 : Int) (h0 : Heap) : callStep Try.prog cfg rc md 39 [(.agg #[(.int .i64 a0_0), (.int .i64 a0_1), (.int .i64 a0_2), a0_3, (.int .i64 a0_4), (.int .i64 a0_5)]), (.int .i64 a1), (.int .i64 a2)] h0 = F39 rc ⟨md.ro, h0.length⟩ a0_0 a0_1 a0_2 a0_3 a0_4 a0_5 a1 a2 h0 := (callStep_ne (by kernel_rfl)).trans (F39_eq0 rc md a0_0 a0_1 a0_2 a0_3 a0_4 a0_5 a1 a2 h0)

/-- tombolo/tomboloref10.Cut -/
noncomputable def J41_1 (rc : Rec) (md : Md) (h0 : Heap) (s8 : Value) (s9 : Value) (h : Heap) : Option (Value × Heap) :=
  some ((.tuple #[s8, s9]), h)
theorem J41_1_at (rc : Rec) (md : Md) (h0 : Heap) (t : T) (h : Heap) : cut Try.prog cfg rc md 52 (bodyOf Try.prog 41) [1, 1, 1, 1] (retK Try.prog cfg 41 (rsOf Try.prog 41) h0) t h = J41_1 rc md h0 (t 8) (t 9) h := by kernel_rfl
theorem J41_1_cut (rc : Rec) (md : Md) (h0 : Heap) : cut Try.prog cfg rc md 52 (bodyOf Try.prog 41) [1, 1, 1, 1] (retK Try.prog cfg 41 (rsOf Try.prog 41) h0) = fun t h => J41_1 rc md h0 (t 8) (t 9) h := funext fun t => funext fun h => J41_1_at rc md h0 t h
noncomputable def Jk41_0 (rc : Rec) (md : Md) (h0 : Heap) (e : Exit) (s0 : Value) (s1 : Value) (s2 : Value) (s6 : Value) (s7 : Value) (s8 : Value) (s9 : Value) (s10 : Value) (s11 : Value) (h : Heap) : Option (Value × Heap) :=
  match e with
  | .normal =>
    J41_1 rc md h0 s8 s9 h
  | .exit j =>
    bif Nat.beq j 0 then
      J41_1 rc md h0 s8 s9 h
    else
      none
  | .ret =>
    some ((.tuple #[s6, s7]), h)
  | .goto l => none
  | .panic ps => none
  | .outgrown => none
noncomputable def Jk41_0H (rc : Rec) (md : Md) (h0 : Heap) (X1 : T → Heap → Option (Value × Heap)) (e : Exit) (t : T) (h : Heap) : Option (Value × Heap) :=
  match e with
  | .normal =>
    X1 t h
  | .exit j =>
    bif Nat.beq j 0 then
      X1 t h
    else
      none
  | .ret =>
    some ((.tuple #[(t 6), (t 7)]), h)
  | .goto l => none
  | .panic ps => none
  | .outgrown => none
theorem Jk41_0_h1 (rc : Rec) (md : Md) (h0 : Heap) (X : Nat → T → Heap → Option (Value × Heap)) (e : Exit) (t : T) (h : Heap) : kAtG Try.prog cfg X rc md 52 (replS (bodyOf Try.prog 41) [([1, 1, 1, 1], 1)]) [1, 1, 1, 0, 1, 0] (retK Try.prog cfg 41 (rsOf Try.prog 41) h0) e t h = Jk41_0H rc md h0 (X 1) e t h := by cases e <;> kernel_rfl
theorem Jk41_0_h2 (rc : Rec) (md : Md) (h0 : Heap) (e : Exit) (t : T) (h : Heap) : Jk41_0H rc md h0 (fun t h => J41_1 rc md h0 (t 8) (t 9) h) e t h = Jk41_0 rc md h0 e (t 0) (t 1) (t 2) (t 6) (t 7) (t 8) (t 9) (t 10) (t 11) h := by cases e <;> (unfold Jk41_0H Jk41_0; kernel_rfl)
theorem Jk41_0_at (rc : Rec) (md : Md) (h0 : Heap) (e : Exit) (t : T) (h : Heap) : kAt Try.prog cfg rc md 52 (bodyOf Try.prog 41) [1, 1, 1, 0, 1, 0] (retK Try.prog cfg 41 (rsOf Try.prog 41) h0) e t h = Jk41_0 rc md h0 e (t 0) (t 1) (t 2) (t 6) (t 7) (t 8) (t 9) (t 10) (t 11) h := by
  rw [kAt_holes [([1, 1, 1, 1], 1)] [1, 1, 1, 0, 1, 0] (by kernel_rfl), Jk41_0_h1, show (goX Try.prog cfg rc md 52 (bodyOf Try.prog 41) [([1, 1, 1, 1], 1)] (retK Try.prog cfg 41 (rsOf Try.prog 41) h0)) 1 = _ from J41_1_cut rc md h0]
  exact Jk41_0_h2 rc md h0 e t h
/-- a round -/
noncomputable def Jr41_0 (rc : Rec) (md : Md) (s0 : Value) (s1 : Value) (s2 : Value) (s6 : Value) (s7 : Value) (s8 : Value) (s9 : Value) (s10 : Value) (s11 : Value) (h : Heap) : Option (((Value × Value × Value × Value × Value × Value × Value × Value × Value) × Heap) ⊕ (Exit × (Value × Value × Value × Value × Value × Value × Value × Value × Value) × Heap)) :=
  lenS s0 fun v1 =>
  cIn .i64 v1 fun n2 =>
  aBin Try.prog .lss 3 s11 (.int .i64 n2) fun v3 =>
  cBn v3 fun b4 =>
  bif b4 then
    ixSV 1 s0 s11 fun v5 =>
    ld1 v5 h fun v6 =>
    cIn .i64 v6 fun n7 =>
    aBin Try.prog .eql 3 (.int .i64 n7) s1 fun v8 =>
    (bif wantV v8 false then
    some (s0, h)
    else some (undef, h)).bind fun p9 =>
    (bif wantV v8 false then
    some (s11, p9.2)
    else some (undef, p9.2)).bind fun p10 =>
    (bif wantV v8 false then
    ixSV 1 p9.1 p10.1 fun v11 =>
    some (v11, p10.2)
    else some (undef, p10.2)).bind fun p12 =>
    (bif wantV v8 false then
    ld1 p12.1 p12.2 fun v13 =>
    cIn .i64 v13 fun n14 =>
    some ((.int .i64 n14), p12.2)
    else some (undef, p12.2)).bind fun p15 =>
    (bif wantV v8 false then
    some (s2, p15.2)
    else some (undef, p15.2)).bind fun p16 =>
    (bif wantV v8 false then
    aBin Try.prog .eql 3 p15.1 p16.1 fun v17 =>
    some (v17, p16.2)
    else some (undef, p16.2)).bind fun p18 =>
    cBn v8 fun q19 =>
    cBn (bif q19 then (.bool true) else p18.1) fun b20 =>
    bif b20 then
      aBin Try.prog .add 3 s10 (.int .i64 1) fun v21 =>
      aBin Try.prog .add 3 s11 (.int .i64 1) fun v22 =>
      some (.inl ((s0, s1, s2, s6, s7, s8, s9, v21, v22), p18.2))
    else
      aBin Try.prog .eql 3 s10 (.int .i64 1) fun v23 =>
      cBn v23 fun b24 =>
      bif b24 then
        ixSV 1 s0 s11 fun v25 =>
        ld1 v25 p18.2 fun v26 =>
        cIn .i64 v26 fun n27 =>
        let h28 : Heap := p18.2 ++ [.own [(.int .i64 n27)]]
        aBuiltin Try.prog md .append #[44, 44] [s8, (.slice (some ⟨p18.2.length, 0, none⟩) 1 1)] h28 fun v29 h30 =>
        aBin Try.prog .add 3 s11 (.int .i64 1) fun v31 =>
        some (.inl ((s0, s1, s2, s6, s7, v29, s9, s10, v31), h30))
      else
        ixSV 1 s0 s11 fun v32 =>
        ld1 v32 p18.2 fun v33 =>
        cIn .i64 v33 fun n34 =>
        let h35 : Heap := p18.2 ++ [.own [(.int .i64 n34)]]
        aBuiltin Try.prog md .append #[44, 44] [s9, (.slice (some ⟨p18.2.length, 0, none⟩) 1 1)] h35 fun v36 h37 =>
        aBin Try.prog .add 3 s11 (.int .i64 1) fun v38 =>
        some (.inl ((s0, s1, s2, s6, s7, s8, v36, s10, v38), h37))
  else
    some (.inr ((.exit 0), (s0, s1, s2, s6, s7, s8, s9, s10, s11), h))
theorem Jr41_0_at (rc : Rec) (md : Md) (t : T) (h : Heap) : exec Try.prog cfg rc md 52 (sub (bodyOf Try.prog 41) [1, 1, 1, 0, 1, 0, 0]) (rndK (fun t => (t 0, t 1, t 2, t 6, t 7, t 8, t 9, t 10, t 11))) t h = Jr41_0 rc md (t 0) (t 1) (t 2) (t 6) (t 7) (t 8) (t 9) (t 10) (t 11) h := by kernel_rfl
noncomputable def J41_0 (rc : Rec) (md : Md) (h0 : Heap) (s0 : Value) (s1 : Value) (s2 : Value) (s6 : Value) (s7 : Value) (s8 : Value) (s9 : Value) (s10 : Value) (s11 : Value) (h : Heap) : Option (Value × Heap) :=
  runL (fun x : (Value × Value × Value × Value × Value × Value × Value × Value × Value) × Heap => Jr41_0 rc md x.1.1 x.1.2.1 x.1.2.2.1 x.1.2.2.2.1 x.1.2.2.2.2.1 x.1.2.2.2.2.2.1 x.1.2.2.2.2.2.2.1 x.1.2.2.2.2.2.2.2.1 x.1.2.2.2.2.2.2.2.2 x.2) (fun e (s : Value × Value × Value × Value × Value × Value × Value × Value × Value) h => Jk41_0 rc md h0 e s.1 s.2.1 s.2.2.1 s.2.2.2.1 s.2.2.2.2.1 s.2.2.2.2.2.1 s.2.2.2.2.2.2.1 s.2.2.2.2.2.2.2.1 s.2.2.2.2.2.2.2.2 h) (s0, s1, s2, s6, s7, s8, s9, s10, s11) h
theorem J41_0_step (rc : Rec) (md : Md) (h0 : Heap) (s0 : Value) (s1 : Value) (s2 : Value) (s6 : Value) (s7 : Value) (s8 : Value) (s9 : Value) (s10 : Value) (s11 : Value) (h : Heap) : J41_0 rc md h0 s0 s1 s2 s6 s7 s8 s9 s10 s11 h = (Jr41_0 rc md s0 s1 s2 s6 s7 s8 s9 s10 s11 h).bind fun x => match x with
    | .inl (s, h) => J41_0 rc md h0 s.1 s.2.1 s.2.2.1 s.2.2.2.1 s.2.2.2.2.1 s.2.2.2.2.2.1 s.2.2.2.2.2.2.1 s.2.2.2.2.2.2.2.1 s.2.2.2.2.2.2.2.2 h
    | .inr (e, s, h) => Jk41_0 rc md h0 e s.1 s.2.1 s.2.2.1 s.2.2.2.1 s.2.2.2.2.1 s.2.2.2.2.2.1 s.2.2.2.2.2.2.1 s.2.2.2.2.2.2.2.1 s.2.2.2.2.2.2.2.2 h := by
  unfold J41_0
  rw [runL_eq]
  refine congrArg (Option.bind _) (funext fun x => ?_)
  rcases x with ⟨s, h⟩ | ⟨e, s, h⟩ <;> rfl
theorem J41_0_cut (rc : Rec) (md : Md) (h0 : Heap) : cut Try.prog cfg rc md 52 (bodyOf Try.prog 41) [1, 1, 1, 0, 1, 0] (retK Try.prog cfg 41 (rsOf Try.prog 41) h0) = fun t h => J41_0 rc md h0 (t 0) (t 1) (t 2) (t 6) (t 7) (t 8) (t 9) (t 10) (t 11) h := by
  funext t h
  have e : sub (bodyOf Try.prog 41) [1, 1, 1, 0, 1, 0] = .loop (sub (bodyOf Try.prog 41) [1, 1, 1, 0, 1, 0, 0]) := by kernel_rfl
  unfold cut
  rw [e]
  exact loop_eq (by kernel_rfl) (fun t => (t 0, t 1, t 2, t 6, t 7, t 8, t 9, t 10, t 11)) (fun x : (Value × Value × Value × Value × Value × Value × Value × Value × Value) × Heap => Jr41_0 rc md x.1.1 x.1.2.1 x.1.2.2.1 x.1.2.2.2.1 x.1.2.2.2.2.1 x.1.2.2.2.2.2.1 x.1.2.2.2.2.2.2.1 x.1.2.2.2.2.2.2.2.1 x.1.2.2.2.2.2.2.2.2 x.2) (fun t h => Jr41_0_at rc md t h) (fun e (s : Value × Value × Value × Value × Value × Value × Value × Value × Value) h => Jk41_0 rc md h0 e s.1 s.2.1 s.2.2.1 s.2.2.2.1 s.2.2.2.2.1 s.2.2.2.2.2.1 s.2.2.2.2.2.2.1 s.2.2.2.2.2.2.2.1 s.2.2.2.2.2.2.2.2 h) (fun e t h => Jk41_0_at rc md h0 e t h) t h
noncomputable def F41 (rc : Rec) (md : Md) (a0 : Value) (a1 : Int) (a2 : Int) (h0 : Heap) : Option (Value × Heap) :=
  J41_0 rc md h0 a0 (.int .i64 a1) (.int .i64 a2) (.slice none 0 0) (.slice none 0 0) (.slice none 0 0) (.slice none 0 0) (.int .i64 0) (.int .i64 0) h0
noncomputable def F41H (rc : Rec) (md : Md) (X0 : T → Heap → Option (Value × Heap)) (a0 : Value) (a1 : Int) (a2 : Int) (h0 : Heap) : Option (Value × Heap) :=
  X0 (upd (upd (upd (upd (upd (upd (args0 [a0, (.int .i64 a1), (.int .i64 a2)]) 6 (.slice none 0 0)) 7 (.slice none 0 0)) 8 (.slice none 0 0)) 9 (.slice none 0 0)) 10 (.int .i64 0)) 11 (.int .i64 0)) h0
theorem F41_h0 (rc : Rec) (md : Md) (a0 : Value) (a1 : Int) (a2 : Int) (h0 : Heap) : callStep0 Try.prog cfg rc md 41 [a0, (.int .i64 a1), (.int .i64 a2)] h0 = exec Try.prog cfg rc md 52 (bodyOf Try.prog 41) (retK Try.prog cfg 41 (rsOf Try.prog 41) h0) (args0 [a0, (.int .i64 a1), (.int .i64 a2)]) h0 := callStep0_run (by kernel_rfl) (by kernel_rfl) (by kernel_rfl)
theorem F41_h1 (rc : Rec) (md : Md) (X : Nat → T → Heap → Option (Value × Heap)) (a0 : Value) (a1 : Int) (a2 : Int) (h0 : Heap) : execG Try.prog cfg X rc md 52 (replS (bodyOf Try.prog 41) [([1, 1, 1, 0, 1, 0], 0), ([1, 1, 1, 1], 1)]) (retK Try.prog cfg 41 (rsOf Try.prog 41) h0) (args0 [a0, (.int .i64 a1), (.int .i64 a2)]) h0 = F41H rc md (X 0) a0 a1 a2 h0 := by kernel_rfl
theorem F41_h2 (rc : Rec) (md : Md) (a0 : Value) (a1 : Int) (a2 : Int) (h0 : Heap) : F41H rc md (fun t h => J41_0 rc md h0 (t 0) (t 1) (t 2) (t 6) (t 7) (t 8) (t 9) (t 10) (t 11) h) a0 a1 a2 h0 = F41 rc md a0 a1 a2 h0 := by unfold F41H F41; kernel_rfl
theorem F41_eq0 (rc : Rec) (md : Md) (a0 : Value) (a1 : Int) (a2 : Int) (h0 : Heap) : callStep0 Try.prog cfg rc md 41 [a0, (.int .i64 a1), (.int .i64 a2)] h0 = F41 rc md a0 a1 a2 h0 := by
  rw [F41_h0, exec_holes [([1, 1, 1, 0, 1, 0], 0), ([1, 1, 1, 1], 1)] (by kernel_rfl), F41_h1, show (goX Try.prog cfg rc md 52 (bodyOf Try.prog 41) [([1, 1, 1, 0, 1, 0], 0), ([1, 1, 1, 1], 1)] (retK Try.prog cfg 41 (rsOf Try.prog 41) h0)) 0 = _ from J41_0_cut rc md h0]
  exact F41_h2 rc _ a0 a1 a2 h0
theorem F41_eq (rc : Rec) (md : Md) (a0 : Value) (a1 : Int) (a2 : Int) (h0 : Heap) : callStep Try.prog cfg rc md 41 [a0, (.int .i64 a1), (.int .i64 a2)] h0 = F41 rc md a0 a1 a2 h0 := (callStep_ne (by kernel_rfl)).trans (F41_eq0 rc md a0 a1 a2 h0)

/-- (tombolo/tour.Tours).Begin -/
noncomputable def F45 (rc : Rec) (md : Md) (a0_0 : Int) (a0_1 : Int) (a0_2 : Int) (a0_3 : Value) (a0_4 : Int) (a0_5 : Int) (a1 : Int) (a2 : Int) (h0 : Heap) : Option (Value × Heap) :=
  let h1 : Heap := h0 ++ [.own [(.int .i64 a0_0), (.int .i64 a0_1), (.int .i64 a0_2), a0_3, (.int .i64 a0_4), (.int .i64 a0_5)]]
  ldN 3 (.pointer (some ⟨h0.length, 0, none⟩)) h1 fun v2 =>
  cl (rc md 44 [v2, (.int .i64 a1), (.int .i64 a2)] h1) fun v3 h4 =>
  cIn .i64 v3 fun n5 =>
  ldN 6 (.pointer (some ⟨h0.length, 0, none⟩)) h4 fun v6 =>
  ldN 6 (.pointer (some ⟨h0.length, 0, none⟩)) h4 fun v7 =>
  cl (rc md 21 [v7, (.int .i64 n5)] h4) fun v8 h9 =>
  cIn .i64 v8 fun n10 =>
  cLE true (fun hq => ldN 6 (.pointer (some ⟨h0.length, 0, none⟩)) hq some) v6 h4 h9 <|
  ldN 6 (.pointer (some ⟨h0.length, 0, none⟩)) h9 fun v11 =>
  cLE true (fun hq => ldN 6 (.pointer (some ⟨h0.length, 0, none⟩)) hq some) v11 h4 h9 <|
  cl (rc md 22 [v11, (.int .i64 n5)] h9) fun v12 h13 =>
  cIn .i64 v12 fun n14 =>
  cLE true (fun hq => ldN 6 (.pointer (some ⟨h0.length, 0, none⟩)) hq some) v6 h9 h13 <|
  cl (rc md 28 [v6, (.int .i64 n10), (.int .i64 n14)] h13) fun v15 h16 =>
  exT v15 0 fun v17 =>
  cIn .i64 v17 fun n18 =>
  exT v15 1 fun v19 =>
  cIn .i64 v19 fun n20 =>
  ldN 6 (.pointer (some ⟨h0.length, 0, none⟩)) h16 fun v21 =>
  cl (rc md 29 [v21, (.int .i64 n20), (.int .i64 n18)] h16) fun v22 h23 =>
  cIn .i64 v22 fun n24 =>
  some ((.int .i64 n24), List.take h0.length h23)
theorem F45_eq0 (rc : Rec) (md : Md) (a0_0 : Int) (a0_1 : Int) (a0_2 : Int) (a0_3 : Value) (a0_4 : Int) (a0_5 : Int) (a1 : Int) (a2 : Int) (h0 : Heap) : callStep0 Try.prog cfg rc md 45 [(.agg #[(.int .i64 a0_0), (.int .i64 a0_1), (.int .i64 a0_2), a0_3, (.int .i64 a0_4), (.int .i64 a0_5)]), (.int .i64 a1), (.int .i64 a2)] h0 = F45 rc ⟨md.ro, h0.length⟩ a0_0 a0_1 a0_2 a0_3 a0_4 a0_5 a1 a2 h0 := by kernel_rfl
theorem F45_eq (rc : Rec) (md : Md) (a0_0 : Int) (a0_1 : Int) (a0_2 : Int) (a0_3 : Value) (a0_4 : Int) (a0_5 : Int) (a1 : Int) (a2 : Int) (h0 : Heap) : callStep Try.prog cfg rc md 45 [(.agg #[(.int .i64 a0_0), (.int .i64 a0_1), (.int .i64 a0_2), a0_3, (.int .i64 a0_4), (.int .i64 a0_5)]), (.int .i64 a1), (.int .i64 a2)] h0 = F45 rc ⟨md.ro, h0.length⟩ a0_0 a0_1 a0_2 a0_3 a0_4 a0_5 a1 a2 h0 := (callStep_ne (by kernel_rfl)).trans (F45_eq0 rc md a0_0 a0_1 a0_2 a0_3 a0_4 a0_5 a1 a2 h0)

/-- (tombolo/tour.Tours).Link -/
noncomputable def F46 (rc : Rec) (md : Md) (a0_0 : Int) (a0_1 : Int) (a0_2 : Int) (a0_3 : Value) (a0_4 : Int) (a0_5 : Int) (a1 : Int) (a2 : Int) (a3 : Int) (a4 : Int) (h0 : Heap) : Option (Value × Heap) :=
  let h1 : Heap := h0 ++ [.own [(.int .i64 a0_0), (.int .i64 a0_1), (.int .i64 a0_2), a0_3, (.int .i64 a0_4), (.int .i64 a0_5)]]
  ldN 6 (.pointer (some ⟨h0.length, 0, none⟩)) h1 fun v2 =>
  cl (rc md 75 [v2, (.int .i64 a1), (.int .i64 a2)] h1) fun v3 h4 =>
  exT v3 0 fun v5 =>
  cIn .i64 v5 fun n6 =>
  exT v3 1 fun v7 =>
  cIn .i64 v7 fun n8 =>
  ldN 6 (.pointer (some ⟨h0.length, 0, none⟩)) h4 fun v9 =>
  ldN 6 (.pointer (some ⟨h0.length, 0, none⟩)) h4 fun v10 =>
  cl (rc md 45 [v10, (.int .i64 a1), (.int .i64 a3)] h4) fun v11 h12 =>
  cIn .i64 v11 fun n13 =>
  cLE true (fun hq => ldN 6 (.pointer (some ⟨h0.length, 0, none⟩)) hq some) v9 h4 h12 <|
  cl (rc md 29 [v9, (.int .i64 n13), (.int .i64 n6)] h12) fun v14 h15 =>
  cIn .i64 v14 fun n16 =>
  ldN 6 (.pointer (some ⟨h0.length, 0, none⟩)) h15 fun v17 =>
  ldN 6 (.pointer (some ⟨h0.length, 0, none⟩)) h15 fun v18 =>
  cl (rc md 45 [v18, (.int .i64 a1), (.int .i64 a4)] h15) fun v19 h20 =>
  cIn .i64 v19 fun n21 =>
  cLE true (fun hq => ldN 6 (.pointer (some ⟨h0.length, 0, none⟩)) hq some) v17 h15 h20 <|
  cl (rc md 29 [v17, (.int .i64 n16), (.int .i64 n21)] h20) fun v22 h23 =>
  cIn .i64 v22 fun n24 =>
  ldN 6 (.pointer (some ⟨h0.length, 0, none⟩)) h23 fun v25 =>
  cl (rc md 29 [v25, (.int .i64 n24), (.int .i64 n8)] h23) fun v26 h27 =>
  cIn .i64 v26 fun n28 =>
  some ((.int .i64 n28), List.take h0.length h27)
theorem F46_eq0 (rc : Rec) (md : Md) (a0_0 : Int) (a0_1 : Int) (a0_2 : Int) (a0_3 : Value) (a0_4 : Int) (a0_5 : Int) (a1 : Int) (a2 : Int) (a3 : Int) (a4 : Int) (h0 : Heap) : callStep0 Try.prog cfg rc md 46 [(.agg #[(.int .i64 a0_0), (.int .i64 a0_1), (.int .i64 a0_2), a0_3, (.int .i64 a0_4), (.int .i64 a0_5)]), (.int .i64 a1), (.int .i64 a2), (.int .i64 a3), (.int .i64 a4)] h0 = F46 rc ⟨md.ro, h0.length⟩ a0_0 a0_1 a0_2 a0_3 a0_4 a0_5 a1 a2 a3 a4 h0 := by kernel_rfl
theorem F46_eq (rc : Rec) (md : Md) (a0_0 : Int) (a0_1 : Int) (a0_2 : Int) (a0_3 : Value) (a0_4 : Int) (a0_5 : Int) (a1 : Int) (a2 : Int) (a3 : Int) (a4 : Int) (h0 : Heap) : callStep Try.prog cfg rc md 46 [(.agg #[(.int .i64 a0_0), (.int .i64 a0_1), (.int .i64 a0_2), a0_3, (.int .i64 a0_4), (.int .i64 a0_5)]), (.int .i64 a1), (.int .i64 a2), (.int .i64 a3), (.int .i64 a4)] h0 = F46 rc ⟨md.ro, h0.length⟩ a0_0 a0_1 a0_2 a0_3 a0_4 a0_5 a1 a2 a3 a4 h0 := (callStep_ne (by kernel_rfl)).trans (F46_eq0 rc md a0_0 a0_1 a0_2 a0_3 a0_4 a0_5 a1 a2 a3 a4 h0)

/-- (tombolo/tour.Tours).Cut -/
noncomputable def J47_0 (rc : Rec) (md : Md) (h0 : Heap) (s3 : Value) (s8 : Value) (s9 : Value) (s10 : Value) (s11 : Value) (h : Heap) : Option (Value × Heap) :=
  fA 0 s3 fun v1 =>
  ldN 6 v1 h fun v2 =>
  fA 0 s3 fun v3 =>
  ldN 6 v3 h fun v4 =>
  cl (rc md 21 [v4, s8] h) fun v5 h6 =>
  cIn .i64 v5 fun n7 =>
  cLE true (fun hq => ldN 6 v1 hq some) v2 h h6 <|
  cl (rc md 28 [v2, (.int .i64 n7), s11] h6) fun v8 h9 =>
  exT v8 0 fun v10 =>
  cIn .i64 v10 fun n11 =>
  exT v8 1 fun v12 =>
  cIn .i64 v12 fun n13 =>
  fA 0 s3 fun v14 =>
  ldN 6 v14 h9 fun v15 =>
  cl (rc md 28 [v15, (.int .i64 n13), (.int .i64 1)] h9) fun v16 h17 =>
  exT v16 0 fun v18 =>
  cIn .i64 v18 fun n19 =>
  exT v16 1 fun v20 =>
  cIn .i64 v20 fun n21 =>
  fA 0 s3 fun v22 =>
  ldN 6 v22 h17 fun v23 =>
  cl (rc md 28 [v23, (.int .i64 n11), s10] h17) fun v24 h25 =>
  exT v24 0 fun v26 =>
  cIn .i64 v26 fun n27 =>
  exT v24 1 fun v28 =>
  cIn .i64 v28 fun n29 =>
  fA 0 s3 fun v30 =>
  ldN 6 v30 h25 fun v31 =>
  cl (rc md 28 [v31, (.int .i64 n29), (.int .i64 1)] h25) fun v32 h33 =>
  exT v32 0 fun v34 =>
  cIn .i64 v34 fun n35 =>
  exT v32 1 fun v36 =>
  cIn .i64 v36 fun n37 =>
  fA 0 s3 fun v38 =>
  ldN 6 v38 h33 fun v39 =>
  cl (rc md 56 [v39, s8] h33) fun v40 h41 =>
  fA 0 s3 fun v42 =>
  ldN 6 v42 h41 fun v43 =>
  cl (rc md 56 [v43, s9] h41) fun v44 h45 =>
  fA 0 s3 fun v46 =>
  ldN 6 v46 h45 fun v47 =>
  cl (rc md 29 [v47, (.int .i64 n27), (.int .i64 n21)] h45) fun v48 h49 =>
  cIn .i64 v48 fun n50 =>
  some ((.tuple #[(.int .i64 n37), (.int .i64 n50)]), List.take h0.length h49)
theorem J47_0_at (rc : Rec) (md : Md) (h0 : Heap) (t : T) (h : Heap) : cut Try.prog cfg rc md 82 (bodyOf Try.prog 47) [1, 1, 1, 1] (retK Try.prog cfg 47 (rsOf Try.prog 47) h0) t h = J47_0 rc md h0 (t 3) (t 8) (t 9) (t 10) (t 11) h := by kernel_rfl
theorem J47_0_cut (rc : Rec) (md : Md) (h0 : Heap) : cut Try.prog cfg rc md 82 (bodyOf Try.prog 47) [1, 1, 1, 1] (retK Try.prog cfg 47 (rsOf Try.prog 47) h0) = fun t h => J47_0 rc md h0 (t 3) (t 8) (t 9) (t 10) (t 11) h := funext fun t => funext fun h => J47_0_at rc md h0 t h
noncomputable def F47 (rc : Rec) (md : Md) (a0_0 : Int) (a0_1 : Int) (a0_2 : Int) (a0_3 : Value) (a0_4 : Int) (a0_5 : Int) (a1 : Int) (a2 : Int) (h0 : Heap) : Option (Value × Heap) :=
  let h1 : Heap := h0 ++ [.own [(.int .i64 a0_0), (.int .i64 a0_1), (.int .i64 a0_2), a0_3, (.int .i64 a0_4), (.int .i64 a0_5)]]
  ldN 6 (.pointer (some ⟨h0.length, 0, none⟩)) h1 fun v2 =>
  cl (rc md 75 [v2, (.int .i64 a1), (.int .i64 a2)] h1) fun v3 h4 =>
  exT v3 0 fun v5 =>
  cIn .i64 v5 fun n6 =>
  exT v3 1 fun v7 =>
  cIn .i64 v7 fun n8 =>
  ldN 6 (.pointer (some ⟨h0.length, 0, none⟩)) h4 fun v9 =>
  cl (rc md 22 [v9, (.int .i64 n6)] h4) fun v10 h11 =>
  cIn .i64 v10 fun n12 =>
  ldN 6 (.pointer (some ⟨h0.length, 0, none⟩)) h11 fun v13 =>
  cLE true (fun hq => ldN 6 (.pointer (some ⟨h0.length, 0, none⟩)) hq some) v13 h4 h11 <|
  cl (rc md 22 [v13, (.int .i64 n8)] h11) fun v14 h15 =>
  cIn .i64 v14 fun n16 =>
  bif (decide (n12 > n16)) then
    J47_0 rc md h0 (.pointer (some ⟨h0.length, 0, none⟩)) (.int .i64 n6) (.int .i64 n8) (.int .i64 n16) (.int .i64 n12) h15
  else
    J47_0 rc md h0 (.pointer (some ⟨h0.length, 0, none⟩)) (.int .i64 n6) (.int .i64 n8) (.int .i64 n12) (.int .i64 n16) h15
noncomputable def F47H (rc : Rec) (md : Md) (X0 : T → Heap → Option (Value × Heap)) (a0_0 : Int) (a0_1 : Int) (a0_2 : Int) (a0_3 : Value) (a0_4 : Int) (a0_5 : Int) (a1 : Int) (a2 : Int) (h0 : Heap) : Option (Value × Heap) :=
  let h1 : Heap := h0 ++ [.own [(.int .i64 a0_0), (.int .i64 a0_1), (.int .i64 a0_2), a0_3, (.int .i64 a0_4), (.int .i64 a0_5)]]
  ldN 6 (.pointer (some ⟨h0.length, 0, none⟩)) h1 fun v2 =>
  cl (rc md 75 [v2, (.int .i64 a1), (.int .i64 a2)] h1) fun v3 h4 =>
  exT v3 0 fun v5 =>
  cIn .i64 v5 fun n6 =>
  exT v3 1 fun v7 =>
  cIn .i64 v7 fun n8 =>
  ldN 6 (.pointer (some ⟨h0.length, 0, none⟩)) h4 fun v9 =>
  cl (rc md 22 [v9, (.int .i64 n6)] h4) fun v10 h11 =>
  cIn .i64 v10 fun n12 =>
  ldN 6 (.pointer (some ⟨h0.length, 0, none⟩)) h11 fun v13 =>
  cLE true (fun hq => ldN 6 (.pointer (some ⟨h0.length, 0, none⟩)) hq some) v13 h4 h11 <|
  cl (rc md 22 [v13, (.int .i64 n8)] h11) fun v14 h15 =>
  cIn .i64 v14 fun n16 =>
  bif (decide (n12 > n16)) then
    X0 (upd (upd (upd (upd (upd (upd (upd (upd (upd (upd (upd (upd (upd (upd (upd (upd (upd (upd (upd (upd (upd (upd (upd (upd (upd (upd (upd (upd (upd (args0 [(.agg #[(.int .i64 a0_0), (.int .i64 a0_1), (.int .i64 a0_2), a0_3, (.int .i64 a0_4), (.int .i64 a0_5)]), (.int .i64 a1), (.int .i64 a2)]) 3 (.pointer (some ⟨h0.length, 0, none⟩))) 6 (.int .i64 0)) 7 (.int .i64 0)) 16 v2) 17 (.int .i64 a1)) 18 (.int .i64 a2)) 19 v3) 15 v3) 20 (.int .i64 n6)) 21 (.int .i64 n8)) 8 (.int .i64 n6)) 9 (.int .i64 n8)) 22 (.pointer (some ⟨h0.length, 0, none⟩))) 23 v9) 24 (.int .i64 n6)) 25 (.int .i64 n12)) 26 (.pointer (some ⟨h0.length, 0, none⟩))) 27 v13) 28 (.int .i64 n8)) 29 (.int .i64 n16)) 10 (.int .i64 n12)) 11 (.int .i64 n16)) 30 (.int .i64 n12)) 31 (.int .i64 n16)) 32 (.bool (decide (n12 > n16)))) 33 (.int .i64 n16)) 34 (.int .i64 n12)) 10 (.int .i64 n16)) 11 (.int .i64 n12)) h15
  else
    X0 (upd (upd (upd (upd (upd (upd (upd (upd (upd (upd (upd (upd (upd (upd (upd (upd (upd (upd (upd (upd (upd (upd (upd (upd (upd (args0 [(.agg #[(.int .i64 a0_0), (.int .i64 a0_1), (.int .i64 a0_2), a0_3, (.int .i64 a0_4), (.int .i64 a0_5)]), (.int .i64 a1), (.int .i64 a2)]) 3 (.pointer (some ⟨h0.length, 0, none⟩))) 6 (.int .i64 0)) 7 (.int .i64 0)) 16 v2) 17 (.int .i64 a1)) 18 (.int .i64 a2)) 19 v3) 15 v3) 20 (.int .i64 n6)) 21 (.int .i64 n8)) 8 (.int .i64 n6)) 9 (.int .i64 n8)) 22 (.pointer (some ⟨h0.length, 0, none⟩))) 23 v9) 24 (.int .i64 n6)) 25 (.int .i64 n12)) 26 (.pointer (some ⟨h0.length, 0, none⟩))) 27 v13) 28 (.int .i64 n8)) 29 (.int .i64 n16)) 10 (.int .i64 n12)) 11 (.int .i64 n16)) 30 (.int .i64 n12)) 31 (.int .i64 n16)) 32 (.bool (decide (n12 > n16)))) h15
theorem F47_h0 (rc : Rec) (md : Md) (a0_0 : Int) (a0_1 : Int) (a0_2 : Int) (a0_3 : Value) (a0_4 : Int) (a0_5 : Int) (a1 : Int) (a2 : Int) (h0 : Heap) : callStep0 Try.prog cfg rc md 47 [(.agg #[(.int .i64 a0_0), (.int .i64 a0_1), (.int .i64 a0_2), a0_3, (.int .i64 a0_4), (.int .i64 a0_5)]), (.int .i64 a1), (.int .i64 a2)] h0 = exec Try.prog cfg rc ⟨md.ro, h0.length⟩ 82 (bodyOf Try.prog 47) (retK Try.prog cfg 47 (rsOf Try.prog 47) h0) (args0 [(.agg #[(.int .i64 a0_0), (.int .i64 a0_1), (.int .i64 a0_2), a0_3, (.int .i64 a0_4), (.int .i64 a0_5)]), (.int .i64 a1), (.int .i64 a2)]) h0 := callStep0_run (by kernel_rfl) (by kernel_rfl) (by kernel_rfl)
theorem F47_h1 (rc : Rec) (md : Md) (X : Nat → T → Heap → Option (Value × Heap)) (a0_0 : Int) (a0_1 : Int) (a0_2 : Int) (a0_3 : Value) (a0_4 : Int) (a0_5 : Int) (a1 : Int) (a2 : Int) (h0 : Heap) : execG Try.prog cfg X rc md 82 (replS (bodyOf Try.prog 47) [([1, 1, 1, 1], 0)]) (retK Try.prog cfg 47 (rsOf Try.prog 47) h0) (args0 [(.agg #[(.int .i64 a0_0), (.int .i64 a0_1), (.int .i64 a0_2), a0_3, (.int .i64 a0_4), (.int .i64 a0_5)]), (.int .i64 a1), (.int .i64 a2)]) h0 = F47H rc md (X 0) a0_0 a0_1 a0_2 a0_3 a0_4 a0_5 a1 a2 h0 := by kernel_rfl
theorem F47_h2 (rc : Rec) (md : Md) (a0_0 : Int) (a0_1 : Int) (a0_2 : Int) (a0_3 : Value) (a0_4 : Int) (a0_5 : Int) (a1 : Int) (a2 : Int) (h0 : Heap) : F47H rc md (fun t h => J47_0 rc md h0 (t 3) (t 8) (t 9) (t 10) (t 11) h) a0_0 a0_1 a0_2 a0_3 a0_4 a0_5 a1 a2 h0 = F47 rc md a0_0 a0_1 a0_2 a0_3 a0_4 a0_5 a1 a2 h0 := by unfold F47H F47; kernel_rfl
theorem F47_eq0 (rc : Rec) (md : Md) (a0_0 : Int) (a0_1 : Int) (a0_2 : Int) (a0_3 : Value) (a0_4 : Int) (a0_5 : Int) (a1 : Int) (a2 : Int) (h0 : Heap) : callStep0 Try.prog cfg rc md 47 [(.agg #[(.int .i64 a0_0), (.int .i64 a0_1), (.int .i64 a0_2), a0_3, (.int .i64 a0_4), (.int .i64 a0_5)]), (.int .i64 a1), (.int .i64 a2)] h0 = F47 rc ⟨md.ro, h0.length⟩ a0_0 a0_1 a0_2 a0_3 a0_4 a0_5 a1 a2 h0 := by
  rw [F47_h0, exec_holes [([1, 1, 1, 1], 0)] (by kernel_rfl), F47_h1, show (goX Try.prog cfg rc ⟨md.ro, h0.length⟩ 82 (bodyOf Try.prog 47) [([1, 1, 1, 1], 0)] (retK Try.prog cfg 47 (rsOf Try.prog 47) h0)) 0 = _ from J47_0_cut rc ⟨md.ro, h0.length⟩ h0]
  exact F47_h2 rc _ a0_0 a0_1 a0_2 a0_3 a0_4 a0_5 a1 a2 h0
theorem F47_eq (rc : Rec) (md : Md) (a0_0 : Int) (a0_1 : Int) (a0_2 : Int) (a0_3 : Value) (a0_4 : Int) (a0_5 : Int) (a1 : Int) (a2 : Int) (h0 : Heap) : callStep Try.prog cfg rc md 47 [(.agg #[(.int .i64 a0_0), (.int .i64 a0_1), (.int .i64 a0_2), a0_3, (.int .i64 a0_4), (.int .i64 a0_5)]), (.int .i64 a1), (.int .i64 a2)] h0 = F47 rc ⟨md.ro, h0.length⟩ a0_0 a0_1 a0_2 a0_3 a0_4 a0_5 a1 a2 h0 := (callStep_ne (by kernel_rfl)).trans (F47_eq0 rc md a0_0 a0_1 a0_2 a0_3 a0_4 a0_5 a1 a2 h0)

/-- tombolo/tomboloref10.Begun -/
noncomputable def J49_1 (rc : Rec) (md : Md) (h0 : Heap) (s0 : Value) (s5 : Value) (h : Heap) : Option (Value × Heap) :=
  aSlice Try.prog 44 s0 (some s5) none none fun v1 =>
  aBuiltin Try.prog md .append #[44, 44] [(.slice none 0 0), v1] h fun v2 h3 =>
  aSlice Try.prog 44 s0 none (some s5) none fun v4 =>
  aBuiltin Try.prog md .append #[44, 44] [v2, v4] h3 fun v5 h6 =>
  some (v5, h6)
theorem J49_1_at (rc : Rec) (md : Md) (h0 : Heap) (t : T) (h : Heap) : cut Try.prog cfg rc md 31 (bodyOf Try.prog 49) [1, 1, 1] (retK Try.prog cfg 49 (rsOf Try.prog 49) h0) t h = J49_1 rc md h0 (t 0) (t 5) h := by kernel_rfl
theorem J49_1_cut (rc : Rec) (md : Md) (h0 : Heap) : cut Try.prog cfg rc md 31 (bodyOf Try.prog 49) [1, 1, 1] (retK Try.prog cfg 49 (rsOf Try.prog 49) h0) = fun t h => J49_1 rc md h0 (t 0) (t 5) h := funext fun t => funext fun h => J49_1_at rc md h0 t h
noncomputable def Jk49_0 (rc : Rec) (md : Md) (h0 : Heap) (e : Exit) (s0 : Value) (s1 : Value) (s4 : Value) (s5 : Value) (s6 : Value) (h : Heap) : Option (Value × Heap) :=
  match e with
  | .normal =>
    J49_1 rc md h0 s0 s5 h
  | .exit j =>
    bif Nat.beq j 0 then
      J49_1 rc md h0 s0 s5 h
    else
      none
  | .ret =>
    some (s4, h)
  | .goto l => none
  | .panic ps => none
  | .outgrown => none
noncomputable def Jk49_0H (rc : Rec) (md : Md) (h0 : Heap) (X1 : T → Heap → Option (Value × Heap)) (e : Exit) (t : T) (h : Heap) : Option (Value × Heap) :=
  match e with
  | .normal =>
    X1 t h
  | .exit j =>
    bif Nat.beq j 0 then
      X1 t h
    else
      none
  | .ret =>
    some ((t 4), h)
  | .goto l => none
  | .panic ps => none
  | .outgrown => none
theorem Jk49_0_h1 (rc : Rec) (md : Md) (h0 : Heap) (X : Nat → T → Heap → Option (Value × Heap)) (e : Exit) (t : T) (h : Heap) : kAtG Try.prog cfg X rc md 31 (replS (bodyOf Try.prog 49) [([1, 1, 1], 1)]) [1, 1, 0, 1, 0] (retK Try.prog cfg 49 (rsOf Try.prog 49) h0) e t h = Jk49_0H rc md h0 (X 1) e t h := by cases e <;> kernel_rfl
theorem Jk49_0_h2 (rc : Rec) (md : Md) (h0 : Heap) (e : Exit) (t : T) (h : Heap) : Jk49_0H rc md h0 (fun t h => J49_1 rc md h0 (t 0) (t 5) h) e t h = Jk49_0 rc md h0 e (t 0) (t 1) (t 4) (t 5) (t 6) h := by cases e <;> (unfold Jk49_0H Jk49_0; kernel_rfl)
theorem Jk49_0_at (rc : Rec) (md : Md) (h0 : Heap) (e : Exit) (t : T) (h : Heap) : kAt Try.prog cfg rc md 31 (bodyOf Try.prog 49) [1, 1, 0, 1, 0] (retK Try.prog cfg 49 (rsOf Try.prog 49) h0) e t h = Jk49_0 rc md h0 e (t 0) (t 1) (t 4) (t 5) (t 6) h := by
  rw [kAt_holes [([1, 1, 1], 1)] [1, 1, 0, 1, 0] (by kernel_rfl), Jk49_0_h1, show (goX Try.prog cfg rc md 31 (bodyOf Try.prog 49) [([1, 1, 1], 1)] (retK Try.prog cfg 49 (rsOf Try.prog 49) h0)) 1 = _ from J49_1_cut rc md h0]
  exact Jk49_0_h2 rc md h0 e t h
/-- a round -/
noncomputable def Jr49_0 (rc : Rec) (md : Md) (s0 : Value) (s1 : Value) (s4 : Value) (s5 : Value) (s6 : Value) (h : Heap) : Option (((Value × Value × Value × Value × Value) × Heap) ⊕ (Exit × (Value × Value × Value × Value × Value) × Heap)) :=
  lenS s0 fun v1 =>
  cIn .i64 v1 fun n2 =>
  aBin Try.prog .lss 3 s6 (.int .i64 n2) fun v3 =>
  cBn v3 fun b4 =>
  bif b4 then
    ixSV 1 s0 s6 fun v5 =>
    ld1 v5 h fun v6 =>
    cIn .i64 v6 fun n7 =>
    aBin Try.prog .eql 3 (.int .i64 n7) s1 fun v8 =>
    cBn v8 fun b9 =>
    bif b9 then
      aBin Try.prog .add 3 s6 (.int .i64 1) fun v10 =>
      some (.inl ((s0, s1, s4, s6, v10), h))
    else
      aBin Try.prog .add 3 s6 (.int .i64 1) fun v11 =>
      some (.inl ((s0, s1, s4, s5, v11), h))
  else
    some (.inr ((.exit 0), (s0, s1, s4, s5, s6), h))
theorem Jr49_0_at (rc : Rec) (md : Md) (t : T) (h : Heap) : exec Try.prog cfg rc md 31 (sub (bodyOf Try.prog 49) [1, 1, 0, 1, 0, 0]) (rndK (fun t => (t 0, t 1, t 4, t 5, t 6))) t h = Jr49_0 rc md (t 0) (t 1) (t 4) (t 5) (t 6) h := by kernel_rfl
noncomputable def J49_0 (rc : Rec) (md : Md) (h0 : Heap) (s0 : Value) (s1 : Value) (s4 : Value) (s5 : Value) (s6 : Value) (h : Heap) : Option (Value × Heap) :=
  runL (fun x : (Value × Value × Value × Value × Value) × Heap => Jr49_0 rc md x.1.1 x.1.2.1 x.1.2.2.1 x.1.2.2.2.1 x.1.2.2.2.2 x.2) (fun e (s : Value × Value × Value × Value × Value) h => Jk49_0 rc md h0 e s.1 s.2.1 s.2.2.1 s.2.2.2.1 s.2.2.2.2 h) (s0, s1, s4, s5, s6) h
theorem J49_0_step (rc : Rec) (md : Md) (h0 : Heap) (s0 : Value) (s1 : Value) (s4 : Value) (s5 : Value) (s6 : Value) (h : Heap) : J49_0 rc md h0 s0 s1 s4 s5 s6 h = (Jr49_0 rc md s0 s1 s4 s5 s6 h).bind fun x => match x with
    | .inl (s, h) => J49_0 rc md h0 s.1 s.2.1 s.2.2.1 s.2.2.2.1 s.2.2.2.2 h
    | .inr (e, s, h) => Jk49_0 rc md h0 e s.1 s.2.1 s.2.2.1 s.2.2.2.1 s.2.2.2.2 h := by
  unfold J49_0
  rw [runL_eq]
  refine congrArg (Option.bind _) (funext fun x => ?_)
  rcases x with ⟨s, h⟩ | ⟨e, s, h⟩ <;> rfl
theorem J49_0_cut (rc : Rec) (md : Md) (h0 : Heap) : cut Try.prog cfg rc md 31 (bodyOf Try.prog 49) [1, 1, 0, 1, 0] (retK Try.prog cfg 49 (rsOf Try.prog 49) h0) = fun t h => J49_0 rc md h0 (t 0) (t 1) (t 4) (t 5) (t 6) h := by
  funext t h
  have e : sub (bodyOf Try.prog 49) [1, 1, 0, 1, 0] = .loop (sub (bodyOf Try.prog 49) [1, 1, 0, 1, 0, 0]) := by kernel_rfl
  unfold cut
  rw [e]
  exact loop_eq (by kernel_rfl) (fun t => (t 0, t 1, t 4, t 5, t 6)) (fun x : (Value × Value × Value × Value × Value) × Heap => Jr49_0 rc md x.1.1 x.1.2.1 x.1.2.2.1 x.1.2.2.2.1 x.1.2.2.2.2 x.2) (fun t h => Jr49_0_at rc md t h) (fun e (s : Value × Value × Value × Value × Value) h => Jk49_0 rc md h0 e s.1 s.2.1 s.2.2.1 s.2.2.2.1 s.2.2.2.2 h) (fun e t h => Jk49_0_at rc md h0 e t h) t h
noncomputable def F49 (rc : Rec) (md : Md) (a0 : Value) (a1 : Int) (h0 : Heap) : Option (Value × Heap) :=
  J49_0 rc md h0 a0 (.int .i64 a1) (.slice none 0 0) (.int .i64 0) (.int .i64 0) h0
noncomputable def F49H (rc : Rec) (md : Md) (X0 : T → Heap → Option (Value × Heap)) (a0 : Value) (a1 : Int) (h0 : Heap) : Option (Value × Heap) :=
  X0 (upd (upd (upd (args0 [a0, (.int .i64 a1)]) 4 (.slice none 0 0)) 5 (.int .i64 0)) 6 (.int .i64 0)) h0
theorem F49_h0 (rc : Rec) (md : Md) (a0 : Value) (a1 : Int) (h0 : Heap) : callStep0 Try.prog cfg rc md 49 [a0, (.int .i64 a1)] h0 = exec Try.prog cfg rc md 31 (bodyOf Try.prog 49) (retK Try.prog cfg 49 (rsOf Try.prog 49) h0) (args0 [a0, (.int .i64 a1)]) h0 := callStep0_run (by kernel_rfl) (by kernel_rfl) (by kernel_rfl)
theorem F49_h1 (rc : Rec) (md : Md) (X : Nat → T → Heap → Option (Value × Heap)) (a0 : Value) (a1 : Int) (h0 : Heap) : execG Try.prog cfg X rc md 31 (replS (bodyOf Try.prog 49) [([1, 1, 0, 1, 0], 0), ([1, 1, 1], 1)]) (retK Try.prog cfg 49 (rsOf Try.prog 49) h0) (args0 [a0, (.int .i64 a1)]) h0 = F49H rc md (X 0) a0 a1 h0 := by kernel_rfl
theorem F49_h2 (rc : Rec) (md : Md) (a0 : Value) (a1 : Int) (h0 : Heap) : F49H rc md (fun t h => J49_0 rc md h0 (t 0) (t 1) (t 4) (t 5) (t 6) h) a0 a1 h0 = F49 rc md a0 a1 h0 := by unfold F49H F49; kernel_rfl
theorem F49_eq0 (rc : Rec) (md : Md) (a0 : Value) (a1 : Int) (h0 : Heap) : callStep0 Try.prog cfg rc md 49 [a0, (.int .i64 a1)] h0 = F49 rc md a0 a1 h0 := by
  rw [F49_h0, exec_holes [([1, 1, 0, 1, 0], 0), ([1, 1, 1], 1)] (by kernel_rfl), F49_h1, show (goX Try.prog cfg rc md 31 (bodyOf Try.prog 49) [([1, 1, 0, 1, 0], 0), ([1, 1, 1], 1)] (retK Try.prog cfg 49 (rsOf Try.prog 49) h0)) 0 = _ from J49_0_cut rc md h0]
  exact F49_h2 rc _ a0 a1 h0
theorem F49_eq (rc : Rec) (md : Md) (a0 : Value) (a1 : Int) (h0 : Heap) : callStep Try.prog cfg rc md 49 [a0, (.int .i64 a1)] h0 = F49 rc md a0 a1 h0 := (callStep_ne (by kernel_rfl)).trans (F49_eq0 rc md a0 a1 h0)

/-- (*tombolo/tombololaw10.play).row -/
noncomputable def Jk72_0 (rc : Rec) (md : Md) (h0 : Heap) (e : Exit) (s2 : Value) (s6 : Value) (s17 : Value) (s18 : Value) (s19 : Value) (h : Heap) : Option (Value × Heap) :=
  match e with
  | .normal =>
    some ((.int .i64 (-1)), h0)
  | .exit j =>
    bif Nat.beq j 0 then
      some ((.int .i64 (-1)), h0)
    else
      none
  | .ret =>
    fin2 h0 s6
  | .goto l => none
  | .panic ps => none
  | .outgrown => none
theorem Jk72_0_at (rc : Rec) (md : Md) (h0 : Heap) (e : Exit) (t : T) (h : Heap) : kAt Try.prog cfg rc md 36 (bodyOf Try.prog 72) [1, 0, 1, 0] (retK Try.prog cfg 72 (rsOf Try.prog 72) h0) e t h = Jk72_0 rc md h0 e (t 2) (t 6) (t 17) (t 18) (t 19) h := by cases e <;> kernel_rfl
noncomputable def Jk72_0b0 (rc : Rec) (md : Md) (e : Exit) (s2 : Value) (s6 : Value) (s7 : Value) (s17 : Value) (s18 : Value) (s19 : Value) (s24 : Value) (s25 : Value) (s26 : Value) (h : Heap) : Option (((Value × Value × Value × Value × Value) × Heap) ⊕ (Exit × (Value × Value × Value × Value × Value) × Heap)) :=
  match e with
  | .normal =>
    aBin Try.prog .add 3 s19 (.int .i64 1) fun v1 =>
    some (.inl ((s2, s6, s17, s18, v1), h))
  | .exit j =>
    bif Nat.beq j 2 then
      aBin Try.prog .add 3 s19 (.int .i64 1) fun v2 =>
      some (.inl ((s2, s6, s17, s18, v2), h))
    else
      bif Nat.beq j 1 then
        aBin Try.prog .add 3 s19 (.int .i64 1) fun v3 =>
        some (.inl ((s2, s6, s17, s18, v3), h))
      else
        some (.inr ((.exit j), (s2, s6, s17, s18, s19), h))
  | .ret =>
    some (.inr (.ret, (s2, s6, s17, s18, s19), h))
  | .goto l => some (.inr ((.goto l), (s2, s6, s17, s18, s19), h))
  | .panic ps => some (.inr ((.panic ps), (s2, s6, s17, s18, s19), h))
  | .outgrown => some (.inr (.outgrown, (s2, s6, s17, s18, s19), h))
theorem Jk72_0b0_at (rc : Rec) (md : Md) (e : Exit) (t : T) (h : Heap) : kAt Try.prog cfg rc md 36 (sub (bodyOf Try.prog 72) [1, 0, 1, 0, 0]) [1, 1, 0, 0, 1, 1, 0] (rndK (fun t => (t 2, t 6, t 17, t 18, t 19))) e t h = Jk72_0b0 rc md e (t 2) (t 6) (t 7) (t 17) (t 18) (t 19) (t 24) (t 25) (t 26) h := by cases e <;> kernel_rfl
/-- a round -/
noncomputable def Jr72_0b0 (rc : Rec) (md : Md) (s2 : Value) (s6 : Value) (s7 : Value) (s17 : Value) (s18 : Value) (s19 : Value) (s24 : Value) (s25 : Value) (s26 : Value) (h : Heap) : Option (((Value × Value × Value × Value × Value × Value × Value × Value × Value) × Heap) ⊕ (Exit × (Value × Value × Value × Value × Value × Value × Value × Value × Value) × Heap)) :=
  aBin Try.prog .lss 3 s26 s25 fun v1 =>
  cBn v1 fun b2 =>
  bif b2 then
    ixSV 1 s24 s26 fun v3 =>
    ld1 v3 h fun v4 =>
    cIn .i64 v4 fun n5 =>
    aBin Try.prog .eql 3 s2 (.int .i64 n5) fun v6 =>
    cBn v6 fun b7 =>
    bif b7 then
      some (.inr (.ret, (s2, s7, s7, s17, s18, s19, s24, s25, s26), h))
    else
      aBin Try.prog .add 3 s26 (.int .i64 1) fun v8 =>
      some (.inl ((s2, s6, s7, s17, s18, s19, s24, s25, v8), h))
  else
    some (.inr ((.exit 2), (s2, s6, s7, s17, s18, s19, s24, s25, s26), h))
theorem Jr72_0b0_at (rc : Rec) (md : Md) (t : T) (h : Heap) : exec Try.prog cfg rc md 36 (sub (bodyOf Try.prog 72) [1, 0, 1, 0, 0, 1, 1, 0, 0, 1, 1, 0, 0]) (rndK (fun t => (t 2, t 6, t 7, t 17, t 18, t 19, t 24, t 25, t 26))) t h = Jr72_0b0 rc md (t 2) (t 6) (t 7) (t 17) (t 18) (t 19) (t 24) (t 25) (t 26) h := by kernel_rfl
noncomputable def J72_0b0 (rc : Rec) (md : Md) (s2 : Value) (s6 : Value) (s7 : Value) (s17 : Value) (s18 : Value) (s19 : Value) (s24 : Value) (s25 : Value) (s26 : Value) (h : Heap) : Option (((Value × Value × Value × Value × Value) × Heap) ⊕ (Exit × (Value × Value × Value × Value × Value) × Heap)) :=
  runL (fun x : (Value × Value × Value × Value × Value × Value × Value × Value × Value) × Heap => Jr72_0b0 rc md x.1.1 x.1.2.1 x.1.2.2.1 x.1.2.2.2.1 x.1.2.2.2.2.1 x.1.2.2.2.2.2.1 x.1.2.2.2.2.2.2.1 x.1.2.2.2.2.2.2.2.1 x.1.2.2.2.2.2.2.2.2 x.2) (fun e (s : Value × Value × Value × Value × Value × Value × Value × Value × Value) h => Jk72_0b0 rc md e s.1 s.2.1 s.2.2.1 s.2.2.2.1 s.2.2.2.2.1 s.2.2.2.2.2.1 s.2.2.2.2.2.2.1 s.2.2.2.2.2.2.2.1 s.2.2.2.2.2.2.2.2 h) (s2, s6, s7, s17, s18, s19, s24, s25, s26) h
theorem J72_0b0_step (rc : Rec) (md : Md) (s2 : Value) (s6 : Value) (s7 : Value) (s17 : Value) (s18 : Value) (s19 : Value) (s24 : Value) (s25 : Value) (s26 : Value) (h : Heap) : J72_0b0 rc md s2 s6 s7 s17 s18 s19 s24 s25 s26 h = (Jr72_0b0 rc md s2 s6 s7 s17 s18 s19 s24 s25 s26 h).bind fun x => match x with
    | .inl (s, h) => J72_0b0 rc md s.1 s.2.1 s.2.2.1 s.2.2.2.1 s.2.2.2.2.1 s.2.2.2.2.2.1 s.2.2.2.2.2.2.1 s.2.2.2.2.2.2.2.1 s.2.2.2.2.2.2.2.2 h
    | .inr (e, s, h) => Jk72_0b0 rc md e s.1 s.2.1 s.2.2.1 s.2.2.2.1 s.2.2.2.2.1 s.2.2.2.2.2.1 s.2.2.2.2.2.2.1 s.2.2.2.2.2.2.2.1 s.2.2.2.2.2.2.2.2 h := by
  unfold J72_0b0
  rw [runL_eq]
  refine congrArg (Option.bind _) (funext fun x => ?_)
  rcases x with ⟨s, h⟩ | ⟨e, s, h⟩ <;> rfl
theorem J72_0b0_cut (rc : Rec) (md : Md) : cut Try.prog cfg rc md 36 (sub (bodyOf Try.prog 72) [1, 0, 1, 0, 0]) [1, 1, 0, 0, 1, 1, 0] (rndK (fun t => (t 2, t 6, t 17, t 18, t 19))) = fun t h => J72_0b0 rc md (t 2) (t 6) (t 7) (t 17) (t 18) (t 19) (t 24) (t 25) (t 26) h := by
  funext t h
  have e : sub (sub (bodyOf Try.prog 72) [1, 0, 1, 0, 0]) [1, 1, 0, 0, 1, 1, 0] = .loop (sub (bodyOf Try.prog 72) [1, 0, 1, 0, 0, 1, 1, 0, 0, 1, 1, 0, 0]) := by kernel_rfl
  unfold cut
  rw [e]
  exact loop_eq (by kernel_rfl) (fun t => (t 2, t 6, t 7, t 17, t 18, t 19, t 24, t 25, t 26)) (fun x : (Value × Value × Value × Value × Value × Value × Value × Value × Value) × Heap => Jr72_0b0 rc md x.1.1 x.1.2.1 x.1.2.2.1 x.1.2.2.2.1 x.1.2.2.2.2.1 x.1.2.2.2.2.2.1 x.1.2.2.2.2.2.2.1 x.1.2.2.2.2.2.2.2.1 x.1.2.2.2.2.2.2.2.2 x.2) (fun t h => Jr72_0b0_at rc md t h) (fun e (s : Value × Value × Value × Value × Value × Value × Value × Value × Value) h => Jk72_0b0 rc md e s.1 s.2.1 s.2.2.1 s.2.2.2.1 s.2.2.2.2.1 s.2.2.2.2.2.1 s.2.2.2.2.2.2.1 s.2.2.2.2.2.2.2.1 s.2.2.2.2.2.2.2.2 h) (fun e t h => Jk72_0b0_at rc md e t h) t h
/-- a round -/
noncomputable def Jr72_0 (rc : Rec) (md : Md) (s2 : Value) (s6 : Value) (s17 : Value) (s18 : Value) (s19 : Value) (h : Heap) : Option (((Value × Value × Value × Value × Value) × Heap) ⊕ (Exit × (Value × Value × Value × Value × Value) × Heap)) :=
  aBin Try.prog .lss 3 s19 s18 fun v1 =>
  cBn v1 fun b2 =>
  bif b2 then
    ixSV 1 s17 s19 fun v3 =>
    ld1 v3 h fun v4 =>
    lenS v4 fun v5 =>
    cIn .i64 v5 fun n6 =>
    J72_0b0 rc md s2 s6 s19 s17 s18 s19 v4 (.int .i64 n6) (.int .i64 0) h
  else
    some (.inr ((.exit 0), (s2, s6, s17, s18, s19), h))
noncomputable def Jr72_0H (rc : Rec) (md : Md) (X0 : T → Heap → Option (((Value × Value × Value × Value × Value) × Heap) ⊕ (Exit × (Value × Value × Value × Value × Value) × Heap))) (t : T) (h : Heap) : Option (((Value × Value × Value × Value × Value) × Heap) ⊕ (Exit × (Value × Value × Value × Value × Value) × Heap)) :=
  aBin Try.prog .lss 3 (t 19) (t 18) fun v1 =>
  cBn v1 fun b2 =>
  bif b2 then
    ixSV 1 (t 17) (t 19) fun v3 =>
    ld1 v3 h fun v4 =>
    lenS v4 fun v5 =>
    cIn .i64 v5 fun n6 =>
    X0 (upd (upd (upd (upd (upd (upd (upd (upd (upd t 20 v1) 21 (t 19)) 22 v3) 23 v4) 7 (t 19)) 8 v4) 24 v4) 25 (.int .i64 n6)) 26 (.int .i64 0)) h
  else
    some (.inr ((.exit 0), ((t 2), (t 6), (t 17), (t 18), (t 19)), h))
theorem Jr72_0_h1 (rc : Rec) (md : Md) (X : Nat → T → Heap → Option (((Value × Value × Value × Value × Value) × Heap) ⊕ (Exit × (Value × Value × Value × Value × Value) × Heap))) (t : T) (h : Heap) : execG Try.prog cfg X rc md 36 (replS (sub (bodyOf Try.prog 72) [1, 0, 1, 0, 0]) [([1, 1, 0, 0, 1, 1, 0], 0)]) (rndK (fun t => (t 2, t 6, t 17, t 18, t 19))) t h = Jr72_0H rc md (X 0) t h := by kernel_rfl
theorem Jr72_0_h2 (rc : Rec) (md : Md) (t : T) (h : Heap) : Jr72_0H rc md (fun t h => J72_0b0 rc md (t 2) (t 6) (t 7) (t 17) (t 18) (t 19) (t 24) (t 25) (t 26) h) t h = Jr72_0 rc md (t 2) (t 6) (t 17) (t 18) (t 19) h := by unfold Jr72_0H Jr72_0; kernel_rfl
theorem Jr72_0_at (rc : Rec) (md : Md) (t : T) (h : Heap) : exec Try.prog cfg rc md 36 (sub (bodyOf Try.prog 72) [1, 0, 1, 0, 0]) (rndK (fun t => (t 2, t 6, t 17, t 18, t 19))) t h = Jr72_0 rc md (t 2) (t 6) (t 17) (t 18) (t 19) h := by
  rw [exec_holes [([1, 1, 0, 0, 1, 1, 0], 0)] (by kernel_rfl), Jr72_0_h1, show (goX Try.prog cfg rc md 36 (sub (bodyOf Try.prog 72) [1, 0, 1, 0, 0]) [([1, 1, 0, 0, 1, 1, 0], 0)] (rndK (fun t => (t 2, t 6, t 17, t 18, t 19)))) 0 = _ from J72_0b0_cut rc md]
  exact Jr72_0_h2 rc md t h
noncomputable def J72_0 (rc : Rec) (md : Md) (h0 : Heap) (s2 : Value) (s6 : Value) (s17 : Value) (s18 : Value) (s19 : Value) (h : Heap) : Option (Value × Heap) :=
  runL (fun x : (Value × Value × Value × Value × Value) × Heap => Jr72_0 rc md x.1.1 x.1.2.1 x.1.2.2.1 x.1.2.2.2.1 x.1.2.2.2.2 x.2) (fun e (s : Value × Value × Value × Value × Value) h => Jk72_0 rc md h0 e s.1 s.2.1 s.2.2.1 s.2.2.2.1 s.2.2.2.2 h) (s2, s6, s17, s18, s19) h
theorem J72_0_step (rc : Rec) (md : Md) (h0 : Heap) (s2 : Value) (s6 : Value) (s17 : Value) (s18 : Value) (s19 : Value) (h : Heap) : J72_0 rc md h0 s2 s6 s17 s18 s19 h = (Jr72_0 rc md s2 s6 s17 s18 s19 h).bind fun x => match x with
    | .inl (s, h) => J72_0 rc md h0 s.1 s.2.1 s.2.2.1 s.2.2.2.1 s.2.2.2.2 h
    | .inr (e, s, h) => Jk72_0 rc md h0 e s.1 s.2.1 s.2.2.1 s.2.2.2.1 s.2.2.2.2 h := by
  unfold J72_0
  rw [runL_eq]
  refine congrArg (Option.bind _) (funext fun x => ?_)
  rcases x with ⟨s, h⟩ | ⟨e, s, h⟩ <;> rfl
theorem J72_0_cut (rc : Rec) (md : Md) (h0 : Heap) : cut Try.prog cfg rc md 36 (bodyOf Try.prog 72) [1, 0, 1, 0] (retK Try.prog cfg 72 (rsOf Try.prog 72) h0) = fun t h => J72_0 rc md h0 (t 2) (t 6) (t 17) (t 18) (t 19) h := by
  funext t h
  have e : sub (bodyOf Try.prog 72) [1, 0, 1, 0] = .loop (sub (bodyOf Try.prog 72) [1, 0, 1, 0, 0]) := by kernel_rfl
  unfold cut
  rw [e]
  exact loop_eq (by kernel_rfl) (fun t => (t 2, t 6, t 17, t 18, t 19)) (fun x : (Value × Value × Value × Value × Value) × Heap => Jr72_0 rc md x.1.1 x.1.2.1 x.1.2.2.1 x.1.2.2.2.1 x.1.2.2.2.2 x.2) (fun t h => Jr72_0_at rc md t h) (fun e (s : Value × Value × Value × Value × Value) h => Jk72_0 rc md h0 e s.1 s.2.1 s.2.2.1 s.2.2.2.1 s.2.2.2.2 h) (fun e t h => Jk72_0_at rc md h0 e t h) t h
noncomputable def F72 (rc : Rec) (md : Md) (a0 : Value) (a1 : Int) (a2 : Int) (h0 : Heap) : Option (Value × Heap) :=
  bif okNil Try.prog a0 then
  fA 9 a0 fun v1 =>
  ld1 v1 h0 fun v2 =>
  ixS 1 v2 a1 fun v3 =>
  ld1 v3 h0 fun v4 =>
  lenS v4 fun v5 =>
  cIn .i64 v5 fun n6 =>
  J72_0 rc md h0 (.int .i64 a2) (.int .i64 0) v4 (.int .i64 n6) (.int .i64 0) h0
  else none
noncomputable def F72H (rc : Rec) (md : Md) (X0 : T → Heap → Option (Value × Heap)) (a0 : Value) (a1 : Int) (a2 : Int) (h0 : Heap) : Option (Value × Heap) :=
  bif okNil Try.prog a0 then
  fA 9 a0 fun v1 =>
  ld1 v1 h0 fun v2 =>
  ixS 1 v2 a1 fun v3 =>
  ld1 v3 h0 fun v4 =>
  lenS v4 fun v5 =>
  cIn .i64 v5 fun n6 =>
  X0 (upd (upd (upd (upd (upd (upd (upd (upd (upd (upd (args0 [a0, (.int .i64 a1), (.int .i64 a2)]) 6 (.int .i64 0)) 11 a0) 12 a0) 13 v1) 14 v2) 15 (.int .i64 a1)) 16 v3) 17 v4) 18 (.int .i64 n6)) 19 (.int .i64 0)) h0
  else none
theorem F72_h0 (rc : Rec) (md : Md) (a0 : Value) (a1 : Int) (a2 : Int) (h0 : Heap) : callStep0 Try.prog cfg rc md 72 [a0, (.int .i64 a1), (.int .i64 a2)] h0 = exec Try.prog cfg rc ⟨h0.length, h0.length⟩ 36 (bodyOf Try.prog 72) (retK Try.prog cfg 72 (rsOf Try.prog 72) h0) (args0 [a0, (.int .i64 a1), (.int .i64 a2)]) h0 := callStep0_run (by kernel_rfl) (by kernel_rfl) (by kernel_rfl)
theorem F72_h1 (rc : Rec) (md : Md) (X : Nat → T → Heap → Option (Value × Heap)) (a0 : Value) (a1 : Int) (a2 : Int) (h0 : Heap) : execG Try.prog cfg X rc md 36 (replS (bodyOf Try.prog 72) [([1, 0, 1, 0], 0)]) (retK Try.prog cfg 72 (rsOf Try.prog 72) h0) (args0 [a0, (.int .i64 a1), (.int .i64 a2)]) h0 = F72H rc md (X 0) a0 a1 a2 h0 := by kernel_rfl
theorem F72_h2 (rc : Rec) (md : Md) (a0 : Value) (a1 : Int) (a2 : Int) (h0 : Heap) : F72H rc md (fun t h => J72_0 rc md h0 (t 2) (t 6) (t 17) (t 18) (t 19) h) a0 a1 a2 h0 = F72 rc md a0 a1 a2 h0 := by unfold F72H F72; kernel_rfl
theorem F72_eq0 (rc : Rec) (md : Md) (a0 : Value) (a1 : Int) (a2 : Int) (h0 : Heap) : callStep0 Try.prog cfg rc md 72 [a0, (.int .i64 a1), (.int .i64 a2)] h0 = F72 rc ⟨h0.length, h0.length⟩ a0 a1 a2 h0 := by
  rw [F72_h0, exec_holes [([1, 0, 1, 0], 0)] (by kernel_rfl), F72_h1, show (goX Try.prog cfg rc ⟨h0.length, h0.length⟩ 36 (bodyOf Try.prog 72) [([1, 0, 1, 0], 0)] (retK Try.prog cfg 72 (rsOf Try.prog 72) h0)) 0 = _ from J72_0_cut rc ⟨h0.length, h0.length⟩ h0]
  exact F72_h2 rc _ a0 a1 a2 h0
theorem F72_eq (rc : Rec) (md : Md) (a0 : Value) (a1 : Int) (a2 : Int) (h0 : Heap) : callStep Try.prog cfg rc md 72 [a0, (.int .i64 a1), (.int .i64 a2)] h0 = F72 rc ⟨h0.length, h0.length⟩ a0 a1 a2 h0 := (callStep_ne (by kernel_rfl)).trans (F72_eq0 rc md a0 a1 a2 h0)

/-- tombolo/tomboloref10.Linked -/
noncomputable def F73 (rc : Rec) (md : Md) (a0 : Value) (a1 : Value) (a2 : Int) (a3 : Int) (a4 : Int) (a5 : Int) (h0 : Heap) : Option (Value × Heap) :=
  cl (rc md 49 [a0, (.int .i64 a2)] h0) fun v1 h2 =>
  aBuiltin Try.prog md .append #[44, 44] [(.slice none 0 0), v1] h2 fun v3 h4 =>
  let h5 : Heap := h4 ++ [.own [(.int .i64 a4)]]
  aBuiltin Try.prog md .append #[44, 44] [v3, (.slice (some ⟨h4.length, 0, none⟩) 1 1)] h5 fun v6 h7 =>
  cl (rc md 49 [a1, (.int .i64 a3)] h7) fun v8 h9 =>
  aBuiltin Try.prog md .append #[44, 44] [v6, v8] h9 fun v10 h11 =>
  let h12 : Heap := h11 ++ [.own [(.int .i64 a5)]]
  aBuiltin Try.prog md .append #[44, 44] [v10, (.slice (some ⟨h11.length, 0, none⟩) 1 1)] h12 fun v13 h14 =>
  some (v13, h14)
theorem F73_eq0 (rc : Rec) (md : Md) (a0 : Value) (a1 : Value) (a2 : Int) (a3 : Int) (a4 : Int) (a5 : Int) (h0 : Heap) : callStep0 Try.prog cfg rc md 73 [a0, a1, (.int .i64 a2), (.int .i64 a3), (.int .i64 a4), (.int .i64 a5)] h0 = F73 rc md a0 a1 a2 a3 a4 a5 h0 := by kernel_rfl
theorem F73_eq (rc : Rec) (md : Md) (a0 : Value) (a1 : Value) (a2 : Int) (a3 : Int) (a4 : Int) (a5 : Int) (h0 : Heap) : callStep Try.prog cfg rc md 73 [a0, a1, (.int .i64 a2), (.int .i64 a3), (.int .i64 a4), (.int .i64 a5)] h0 = F73 rc md a0 a1 a2 a3 a4 a5 h0 := (callStep_ne (by kernel_rfl)).trans (F73_eq0 rc md a0 a1 a2 a3 a4 a5 h0)

/-- (*tombolo/tombololaw10.play).without -/
noncomputable def Jk74_0 (rc : Rec) (md : Md) (h0 : Heap) (e : Exit) (s2 : Value) (s3 : Value) (s8 : Value) (s9 : Value) (s18 : Value) (s19 : Value) (s20 : Value) (h : Heap) : Option (Value × Heap) :=
  match e with
  | .normal =>
    some (s9, h)
  | .exit j =>
    bif Nat.beq j 0 then
      some (s9, h)
    else
      none
  | .ret =>
    some (s8, h)
  | .goto l => none
  | .panic ps => none
  | .outgrown => none
theorem Jk74_0_at (rc : Rec) (md : Md) (h0 : Heap) (e : Exit) (t : T) (h : Heap) : kAt Try.prog cfg rc md 39 (bodyOf Try.prog 74) [1, 1, 0, 1, 0] (retK Try.prog cfg 74 (rsOf Try.prog 74) h0) e t h = Jk74_0 rc md h0 e (t 2) (t 3) (t 8) (t 9) (t 18) (t 19) (t 20) h := by cases e <;> kernel_rfl
/-- a round -/
noncomputable def Jr74_0 (rc : Rec) (md : Md) (s2 : Value) (s3 : Value) (s8 : Value) (s9 : Value) (s18 : Value) (s19 : Value) (s20 : Value) (h : Heap) : Option (((Value × Value × Value × Value × Value × Value × Value) × Heap) ⊕ (Exit × (Value × Value × Value × Value × Value × Value × Value) × Heap)) :=
  aBin Try.prog .lss 3 s20 s19 fun v1 =>
  cBn v1 fun b2 =>
  bif b2 then
    ixSV 1 s18 s20 fun v3 =>
    ld1 v3 h fun v4 =>
    aBin Try.prog .neq 3 s20 s2 fun v5 =>
    (bif wantV v5 true then
    some (s20, h)
    else some (undef, h)).bind fun p6 =>
    (bif wantV v5 true then
    some (s3, p6.2)
    else some (undef, p6.2)).bind fun p7 =>
    (bif wantV v5 true then
    aBin Try.prog .neq 3 p6.1 p7.1 fun v8 =>
    some (v8, p7.2)
    else some (undef, p7.2)).bind fun p9 =>
    cBn v5 fun q10 =>
    cBn (bif q10 then p9.1 else (.bool false)) fun b11 =>
    bif b11 then
      aBuildSlice Try.prog 43 1 [(0, v4)] p9.2 fun v12 h13 =>
      aBuiltin Try.prog md .append #[43, 43] [s9, v12] h13 fun v14 h15 =>
      aBin Try.prog .add 3 s20 (.int .i64 1) fun v16 =>
      some (.inl ((s2, s3, s8, v14, s18, s19, v16), h15))
    else
      aBin Try.prog .add 3 s20 (.int .i64 1) fun v17 =>
      some (.inl ((s2, s3, s8, s9, s18, s19, v17), p9.2))
  else
    some (.inr ((.exit 0), (s2, s3, s8, s9, s18, s19, s20), h))
theorem Jr74_0_at (rc : Rec) (md : Md) (t : T) (h : Heap) : exec Try.prog cfg rc md 39 (sub (bodyOf Try.prog 74) [1, 1, 0, 1, 0, 0]) (rndK (fun t => (t 2, t 3, t 8, t 9, t 18, t 19, t 20))) t h = Jr74_0 rc md (t 2) (t 3) (t 8) (t 9) (t 18) (t 19) (t 20) h := by kernel_rfl
noncomputable def J74_0 (rc : Rec) (md : Md) (h0 : Heap) (s2 : Value) (s3 : Value) (s8 : Value) (s9 : Value) (s18 : Value) (s19 : Value) (s20 : Value) (h : Heap) : Option (Value × Heap) :=
  runL (fun x : (Value × Value × Value × Value × Value × Value × Value) × Heap => Jr74_0 rc md x.1.1 x.1.2.1 x.1.2.2.1 x.1.2.2.2.1 x.1.2.2.2.2.1 x.1.2.2.2.2.2.1 x.1.2.2.2.2.2.2 x.2) (fun e (s : Value × Value × Value × Value × Value × Value × Value) h => Jk74_0 rc md h0 e s.1 s.2.1 s.2.2.1 s.2.2.2.1 s.2.2.2.2.1 s.2.2.2.2.2.1 s.2.2.2.2.2.2 h) (s2, s3, s8, s9, s18, s19, s20) h
theorem J74_0_step (rc : Rec) (md : Md) (h0 : Heap) (s2 : Value) (s3 : Value) (s8 : Value) (s9 : Value) (s18 : Value) (s19 : Value) (s20 : Value) (h : Heap) : J74_0 rc md h0 s2 s3 s8 s9 s18 s19 s20 h = (Jr74_0 rc md s2 s3 s8 s9 s18 s19 s20 h).bind fun x => match x with
    | .inl (s, h) => J74_0 rc md h0 s.1 s.2.1 s.2.2.1 s.2.2.2.1 s.2.2.2.2.1 s.2.2.2.2.2.1 s.2.2.2.2.2.2 h
    | .inr (e, s, h) => Jk74_0 rc md h0 e s.1 s.2.1 s.2.2.1 s.2.2.2.1 s.2.2.2.2.1 s.2.2.2.2.2.1 s.2.2.2.2.2.2 h := by
  unfold J74_0
  rw [runL_eq]
  refine congrArg (Option.bind _) (funext fun x => ?_)
  rcases x with ⟨s, h⟩ | ⟨e, s, h⟩ <;> rfl
theorem J74_0_cut (rc : Rec) (md : Md) (h0 : Heap) : cut Try.prog cfg rc md 39 (bodyOf Try.prog 74) [1, 1, 0, 1, 0] (retK Try.prog cfg 74 (rsOf Try.prog 74) h0) = fun t h => J74_0 rc md h0 (t 2) (t 3) (t 8) (t 9) (t 18) (t 19) (t 20) h := by
  funext t h
  have e : sub (bodyOf Try.prog 74) [1, 1, 0, 1, 0] = .loop (sub (bodyOf Try.prog 74) [1, 1, 0, 1, 0, 0]) := by kernel_rfl
  unfold cut
  rw [e]
  exact loop_eq (by kernel_rfl) (fun t => (t 2, t 3, t 8, t 9, t 18, t 19, t 20)) (fun x : (Value × Value × Value × Value × Value × Value × Value) × Heap => Jr74_0 rc md x.1.1 x.1.2.1 x.1.2.2.1 x.1.2.2.2.1 x.1.2.2.2.2.1 x.1.2.2.2.2.2.1 x.1.2.2.2.2.2.2 x.2) (fun t h => Jr74_0_at rc md t h) (fun e (s : Value × Value × Value × Value × Value × Value × Value) h => Jk74_0 rc md h0 e s.1 s.2.1 s.2.2.1 s.2.2.2.1 s.2.2.2.2.1 s.2.2.2.2.2.1 s.2.2.2.2.2.2 h) (fun e t h => Jk74_0_at rc md h0 e t h) t h
noncomputable def F74 (rc : Rec) (md : Md) (a0 : Value) (a1 : Int) (a2 : Int) (a3 : Int) (h0 : Heap) : Option (Value × Heap) :=
  bif okNil Try.prog a0 then
  fA 9 a0 fun v1 =>
  ld1 v1 h0 fun v2 =>
  ixS 1 v2 a1 fun v3 =>
  ld1 v3 h0 fun v4 =>
  lenS v4 fun v5 =>
  cIn .i64 v5 fun n6 =>
  J74_0 rc md h0 (.int .i64 a2) (.int .i64 a3) (.slice none 0 0) (.slice none 0 0) v4 (.int .i64 n6) (.int .i64 0) h0
  else none
noncomputable def F74H (rc : Rec) (md : Md) (X0 : T → Heap → Option (Value × Heap)) (a0 : Value) (a1 : Int) (a2 : Int) (a3 : Int) (h0 : Heap) : Option (Value × Heap) :=
  bif okNil Try.prog a0 then
  fA 9 a0 fun v1 =>
  ld1 v1 h0 fun v2 =>
  ixS 1 v2 a1 fun v3 =>
  ld1 v3 h0 fun v4 =>
  lenS v4 fun v5 =>
  cIn .i64 v5 fun n6 =>
  X0 (upd (upd (upd (upd (upd (upd (upd (upd (upd (upd (upd (args0 [a0, (.int .i64 a1), (.int .i64 a2), (.int .i64 a3)]) 8 (.slice none 0 0)) 9 (.slice none 0 0)) 12 a0) 13 a0) 14 v1) 15 v2) 16 (.int .i64 a1)) 17 v3) 18 v4) 19 (.int .i64 n6)) 20 (.int .i64 0)) h0
  else none
theorem F74_h0 (rc : Rec) (md : Md) (a0 : Value) (a1 : Int) (a2 : Int) (a3 : Int) (h0 : Heap) : callStep0 Try.prog cfg rc md 74 [a0, (.int .i64 a1), (.int .i64 a2), (.int .i64 a3)] h0 = exec Try.prog cfg rc md 39 (bodyOf Try.prog 74) (retK Try.prog cfg 74 (rsOf Try.prog 74) h0) (args0 [a0, (.int .i64 a1), (.int .i64 a2), (.int .i64 a3)]) h0 := callStep0_run (by kernel_rfl) (by kernel_rfl) (by kernel_rfl)
theorem F74_h1 (rc : Rec) (md : Md) (X : Nat → T → Heap → Option (Value × Heap)) (a0 : Value) (a1 : Int) (a2 : Int) (a3 : Int) (h0 : Heap) : execG Try.prog cfg X rc md 39 (replS (bodyOf Try.prog 74) [([1, 1, 0, 1, 0], 0)]) (retK Try.prog cfg 74 (rsOf Try.prog 74) h0) (args0 [a0, (.int .i64 a1), (.int .i64 a2), (.int .i64 a3)]) h0 = F74H rc md (X 0) a0 a1 a2 a3 h0 := by kernel_rfl
theorem F74_h2 (rc : Rec) (md : Md) (a0 : Value) (a1 : Int) (a2 : Int) (a3 : Int) (h0 : Heap) : F74H rc md (fun t h => J74_0 rc md h0 (t 2) (t 3) (t 8) (t 9) (t 18) (t 19) (t 20) h) a0 a1 a2 a3 h0 = F74 rc md a0 a1 a2 a3 h0 := by unfold F74H F74; kernel_rfl
theorem F74_eq0 (rc : Rec) (md : Md) (a0 : Value) (a1 : Int) (a2 : Int) (a3 : Int) (h0 : Heap) : callStep0 Try.prog cfg rc md 74 [a0, (.int .i64 a1), (.int .i64 a2), (.int .i64 a3)] h0 = F74 rc md a0 a1 a2 a3 h0 := by
  rw [F74_h0, exec_holes [([1, 1, 0, 1, 0], 0)] (by kernel_rfl), F74_h1, show (goX Try.prog cfg rc md 39 (bodyOf Try.prog 74) [([1, 1, 0, 1, 0], 0)] (retK Try.prog cfg 74 (rsOf Try.prog 74) h0)) 0 = _ from J74_0_cut rc md h0]
  exact F74_h2 rc _ a0 a1 a2 a3 h0
theorem F74_eq (rc : Rec) (md : Md) (a0 : Value) (a1 : Int) (a2 : Int) (a3 : Int) (h0 : Heap) : callStep Try.prog cfg rc md 74 [a0, (.int .i64 a1), (.int .i64 a2), (.int .i64 a3)] h0 = F74 rc md a0 a1 a2 a3 h0 := (callStep_ne (by kernel_rfl)).trans (F74_eq0 rc md a0 a1 a2 a3 h0)

/-- (tombolo/tour.Tours).arcs -/
noncomputable def F75 (rc : Rec) (md : Md) (a0_0 : Int) (a0_1 : Int) (a0_2 : Int) (a0_3 : Value) (a0_4 : Int) (a0_5 : Int) (a1 : Int) (a2 : Int) (h0 : Heap) : Option (Value × Heap) :=
  let h1 : Heap := h0 ++ [.own [(.int .i64 a0_0), (.int .i64 a0_1), (.int .i64 a0_2), a0_3, (.int .i64 a0_4), (.int .i64 a0_5)]]
  ldN 3 (.pointer (some ⟨h0.length, 0, none⟩)) h1 fun v2 =>
  cl (rc md 40 [v2, (.int .i64 a2), (.int .i64 a1), (.int .i64 0)] h1) fun v3 h4 =>
  cIn .i64 v3 fun n5 =>
  ldN 3 (.pointer (some ⟨h0.length, 0, none⟩)) h4 fun v6 =>
  cl (rc md 40 [v6, (.int .i64 a2), (.int .i64 a1), (.int .i64 1)] h4) fun v7 h8 =>
  cIn .i64 v7 fun n9 =>
  some ((.tuple #[(.int .i64 n5), (.int .i64 n9)]), h0)
theorem F75_eq0 (rc : Rec) (md : Md) (a0_0 : Int) (a0_1 : Int) (a0_2 : Int) (a0_3 : Value) (a0_4 : Int) (a0_5 : Int) (a1 : Int) (a2 : Int) (h0 : Heap) : callStep0 Try.prog cfg rc md 75 [(.agg #[(.int .i64 a0_0), (.int .i64 a0_1), (.int .i64 a0_2), a0_3, (.int .i64 a0_4), (.int .i64 a0_5)]), (.int .i64 a1), (.int .i64 a2)] h0 = F75 rc ⟨h0.length, h0.length⟩ a0_0 a0_1 a0_2 a0_3 a0_4 a0_5 a1 a2 h0 := by kernel_rfl
theorem F75_eq (rc : Rec) (md : Md) (a0_0 : Int) (a0_1 : Int) (a0_2 : Int) (a0_3 : Value) (a0_4 : Int) (a0_5 : Int) (a1 : Int) (a2 : Int) (h0 : Heap) : callStep Try.prog cfg rc md 75 [(.agg #[(.int .i64 a0_0), (.int .i64 a0_1), (.int .i64 a0_2), a0_3, (.int .i64 a0_4), (.int .i64 a0_5)]), (.int .i64 a1), (.int .i64 a2)] h0 = F75 rc ⟨h0.length, h0.length⟩ a0_0 a0_1 a0_2 a0_3 a0_4 a0_5 a1 a2 h0 := (callStep_ne (by kernel_rfl)).trans (F75_eq0 rc md a0_0 a0_1 a0_2 a0_3 a0_4 a0_5 a1 a2 h0)

/-- tombolo/tomboloref10.has -/
noncomputable def Jk76_0 (rc : Rec) (md : Md) (h0 : Heap) (e : Exit) (s0 : Value) (s1 : Value) (s4 : Value) (s5 : Value) (h : Heap) : Option (Value × Heap) :=
  match e with
  | .normal =>
    some ((.bool false), h0)
  | .exit j =>
    bif Nat.beq j 0 then
      some ((.bool false), h0)
    else
      none
  | .ret =>
    fin2 h0 s4
  | .goto l => none
  | .panic ps => none
  | .outgrown => none
theorem Jk76_0_at (rc : Rec) (md : Md) (h0 : Heap) (e : Exit) (t : T) (h : Heap) : kAt Try.prog cfg rc md 18 (bodyOf Try.prog 76) [1, 0, 1, 0] (retK Try.prog cfg 76 (rsOf Try.prog 76) h0) e t h = Jk76_0 rc md h0 e (t 0) (t 1) (t 4) (t 5) h := by cases e <;> kernel_rfl
/-- a round -/
noncomputable def Jr76_0 (rc : Rec) (md : Md) (s0 : Value) (s1 : Value) (s4 : Value) (s5 : Value) (h : Heap) : Option (((Value × Value × Value × Value) × Heap) ⊕ (Exit × (Value × Value × Value × Value) × Heap)) :=
  lenS s0 fun v1 =>
  cIn .i64 v1 fun n2 =>
  aBin Try.prog .lss 3 s5 (.int .i64 n2) fun v3 =>
  cBn v3 fun b4 =>
  bif b4 then
    ixSV 1 s0 s5 fun v5 =>
    ld1 v5 h fun v6 =>
    cIn .i64 v6 fun n7 =>
    aBin Try.prog .eql 3 (.int .i64 n7) s1 fun v8 =>
    cBn v8 fun b9 =>
    bif b9 then
      some (.inr (.ret, (s0, s1, (.bool true), s5), h))
    else
      aBin Try.prog .add 3 s5 (.int .i64 1) fun v10 =>
      some (.inl ((s0, s1, s4, v10), h))
  else
    some (.inr ((.exit 0), (s0, s1, s4, s5), h))
theorem Jr76_0_at (rc : Rec) (md : Md) (t : T) (h : Heap) : exec Try.prog cfg rc md 18 (sub (bodyOf Try.prog 76) [1, 0, 1, 0, 0]) (rndK (fun t => (t 0, t 1, t 4, t 5))) t h = Jr76_0 rc md (t 0) (t 1) (t 4) (t 5) h := by kernel_rfl
noncomputable def J76_0 (rc : Rec) (md : Md) (h0 : Heap) (s0 : Value) (s1 : Value) (s4 : Value) (s5 : Value) (h : Heap) : Option (Value × Heap) :=
  runL (fun x : (Value × Value × Value × Value) × Heap => Jr76_0 rc md x.1.1 x.1.2.1 x.1.2.2.1 x.1.2.2.2 x.2) (fun e (s : Value × Value × Value × Value) h => Jk76_0 rc md h0 e s.1 s.2.1 s.2.2.1 s.2.2.2 h) (s0, s1, s4, s5) h
theorem J76_0_step (rc : Rec) (md : Md) (h0 : Heap) (s0 : Value) (s1 : Value) (s4 : Value) (s5 : Value) (h : Heap) : J76_0 rc md h0 s0 s1 s4 s5 h = (Jr76_0 rc md s0 s1 s4 s5 h).bind fun x => match x with
    | .inl (s, h) => J76_0 rc md h0 s.1 s.2.1 s.2.2.1 s.2.2.2 h
    | .inr (e, s, h) => Jk76_0 rc md h0 e s.1 s.2.1 s.2.2.1 s.2.2.2 h := by
  unfold J76_0
  rw [runL_eq]
  refine congrArg (Option.bind _) (funext fun x => ?_)
  rcases x with ⟨s, h⟩ | ⟨e, s, h⟩ <;> rfl
theorem J76_0_cut (rc : Rec) (md : Md) (h0 : Heap) : cut Try.prog cfg rc md 18 (bodyOf Try.prog 76) [1, 0, 1, 0] (retK Try.prog cfg 76 (rsOf Try.prog 76) h0) = fun t h => J76_0 rc md h0 (t 0) (t 1) (t 4) (t 5) h := by
  funext t h
  have e : sub (bodyOf Try.prog 76) [1, 0, 1, 0] = .loop (sub (bodyOf Try.prog 76) [1, 0, 1, 0, 0]) := by kernel_rfl
  unfold cut
  rw [e]
  exact loop_eq (by kernel_rfl) (fun t => (t 0, t 1, t 4, t 5)) (fun x : (Value × Value × Value × Value) × Heap => Jr76_0 rc md x.1.1 x.1.2.1 x.1.2.2.1 x.1.2.2.2 x.2) (fun t h => Jr76_0_at rc md t h) (fun e (s : Value × Value × Value × Value) h => Jk76_0 rc md h0 e s.1 s.2.1 s.2.2.1 s.2.2.2 h) (fun e t h => Jk76_0_at rc md h0 e t h) t h
noncomputable def F76 (rc : Rec) (md : Md) (a0 : Value) (a1 : Int) (h0 : Heap) : Option (Value × Heap) :=
  J76_0 rc md h0 a0 (.int .i64 a1) (.bool false) (.int .i64 0) h0
noncomputable def F76H (rc : Rec) (md : Md) (X0 : T → Heap → Option (Value × Heap)) (a0 : Value) (a1 : Int) (h0 : Heap) : Option (Value × Heap) :=
  X0 (upd (upd (args0 [a0, (.int .i64 a1)]) 4 (.bool false)) 5 (.int .i64 0)) h0
theorem F76_h0 (rc : Rec) (md : Md) (a0 : Value) (a1 : Int) (h0 : Heap) : callStep0 Try.prog cfg rc md 76 [a0, (.int .i64 a1)] h0 = exec Try.prog cfg rc ⟨h0.length, h0.length⟩ 18 (bodyOf Try.prog 76) (retK Try.prog cfg 76 (rsOf Try.prog 76) h0) (args0 [a0, (.int .i64 a1)]) h0 := callStep0_run (by kernel_rfl) (by kernel_rfl) (by kernel_rfl)
theorem F76_h1 (rc : Rec) (md : Md) (X : Nat → T → Heap → Option (Value × Heap)) (a0 : Value) (a1 : Int) (h0 : Heap) : execG Try.prog cfg X rc md 18 (replS (bodyOf Try.prog 76) [([1, 0, 1, 0], 0)]) (retK Try.prog cfg 76 (rsOf Try.prog 76) h0) (args0 [a0, (.int .i64 a1)]) h0 = F76H rc md (X 0) a0 a1 h0 := by kernel_rfl
theorem F76_h2 (rc : Rec) (md : Md) (a0 : Value) (a1 : Int) (h0 : Heap) : F76H rc md (fun t h => J76_0 rc md h0 (t 0) (t 1) (t 4) (t 5) h) a0 a1 h0 = F76 rc md a0 a1 h0 := by unfold F76H F76; kernel_rfl
theorem F76_eq0 (rc : Rec) (md : Md) (a0 : Value) (a1 : Int) (h0 : Heap) : callStep0 Try.prog cfg rc md 76 [a0, (.int .i64 a1)] h0 = F76 rc ⟨h0.length, h0.length⟩ a0 a1 h0 := by
  rw [F76_h0, exec_holes [([1, 0, 1, 0], 0)] (by kernel_rfl), F76_h1, show (goX Try.prog cfg rc ⟨h0.length, h0.length⟩ 18 (bodyOf Try.prog 76) [([1, 0, 1, 0], 0)] (retK Try.prog cfg 76 (rsOf Try.prog 76) h0)) 0 = _ from J76_0_cut rc ⟨h0.length, h0.length⟩ h0]
  exact F76_h2 rc _ a0 a1 h0
theorem F76_eq (rc : Rec) (md : Md) (a0 : Value) (a1 : Int) (h0 : Heap) : callStep Try.prog cfg rc md 76 [a0, (.int .i64 a1)] h0 = F76 rc ⟨h0.length, h0.length⟩ a0 a1 h0 := (callStep_ne (by kernel_rfl)).trans (F76_eq0 rc md a0 a1 h0)

end Go.Det.E
