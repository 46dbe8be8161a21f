/- Printed functions of the law of one change. -/
import Derived.Test.YtplfaagompkfcaaW1
import Derived.Test.YtplfaagompkfcaaDetT
set_option autoImplicit false
set_option linter.unusedVariables false
set_option linter.unusedSimpArgs false
namespace Go.Det
open Go.Proofs
/-- tombolo/tombololaw01.WordOnce -/
noncomputable def Jk7_0 (rc : Rec) (md : Md) (h0 : Heap) (e : Exit) (s2 : Value) (s4 : Value) (s5 : Value) (s6 : Value) (s20 : Value) (s21 : Value) (s22 : Value) (h : Heap) : Option (Value × Heap) :=
  match e with
  | .normal =>
    cl (rc md 18 [] h) fun v1 h2 =>
    cBn v1 fun b3 =>
    some ((.bool b3), h0)
  | .exit j =>
    bif Nat.beq j 0 then
      cl (rc md 18 [] h) fun v4 h5 =>
      cBn v4 fun b6 =>
      some ((.bool b6), h0)
    else
      none
  | .ret =>
    fin2 h0 s4
  | .goto l => none
  | .panic ps => none
  | .outgrown => none
theorem Jk7_0_at (rc : Rec) (md : Md) (h0 : Heap) (e : Exit) (t : T) (h : Heap) : kAt Try.prog rc md 93 (bodyOf Try.prog 7) [1, 1, 1, 0, 1, 0] (retK Try.prog cfg 7 (rsOf Try.prog 7) h0) e t h = Jk7_0 rc md h0 e (t 2) (t 4) (t 5) (t 6) (t 20) (t 21) (t 22) h := by cases e <;> kernel_rfl
noncomputable def J7_0b0 (rc : Rec) (md : Md) (s2 : Value) (s4 : Value) (s5 : Value) (s6 : Value) (s9 : Value) (s20 : Value) (s21 : Value) (s22 : Value) (h : Heap) : Option (((Value × Value × Value × Value × Value × Value × Value) × Heap) ⊕ (Exit × (Value × Value × Value × Value × Value × Value × Value) × Heap)) :=
  (bif wantV s6 true then
  some (s9, h)
  else some (undef, h)).bind fun p1 =>
  (bif wantV s6 true then
  fA 1 s2 fun v2 =>
  some (v2, p1.2)
  else some (undef, p1.2)).bind fun p3 =>
  (bif wantV s6 true then
  ld1 p3.1 p3.2 fun v4 =>
  cIn .i64 v4 fun n5 =>
  some ((.int .i64 n5), p3.2)
  else some (undef, p3.2)).bind fun p6 =>
  (bif wantV s6 true then
  aBin Try.prog .neq 3 p1.1 p6.1 fun v7 =>
  some (v7, p6.2)
  else some (undef, p6.2)).bind fun p8 =>
  cBn s6 fun q9 =>
  cBn (bif q9 then p8.1 else (.bool false)) fun b10 =>
  (bif wantV (.bool b10) false then
  some (s6, p8.2)
  else some (undef, p8.2)).bind fun p11 =>
  (bif wantV (.bool b10) false then
  aUn .not p11.1 fun v12 =>
  some (v12, p11.2)
  else some (undef, p11.2)).bind fun p13 =>
  (bif wantV (.bool b10) false then
  some (p13.1, p13.2)
  else some (undef, p13.2)).bind fun p14 =>
  (bif wantV p14.1 true then
  some (s9, p14.2)
  else some (undef, p14.2)).bind fun p15 =>
  (bif wantV p14.1 true then
  fA 0 s2 fun v16 =>
  some (v16, p15.2)
  else some (undef, p15.2)).bind fun p17 =>
  (bif wantV p14.1 true then
  ld1 p17.1 p17.2 fun v18 =>
  cIn .i64 v18 fun n19 =>
  some ((.int .i64 n19), p17.2)
  else some (undef, p17.2)).bind fun p20 =>
  (bif wantV p14.1 true then
  aBin Try.prog .neq 3 p15.1 p20.1 fun v21 =>
  some (v21, p20.2)
  else some (undef, p20.2)).bind fun p22 =>
  (bif wantV (.bool b10) false then
  cBn p14.1 fun q23 =>
  cBn (bif q23 then p22.1 else (.bool false)) fun b24 =>
  some ((.bool b24), p22.2)
  else some (undef, p22.2)).bind fun p25 =>
  cBn (bif b10 then (.bool true) else p25.1) fun b26 =>
  bif b26 then
    some (.inr (.ret, (s2, (.bool false), s5, s6, s20, s21, s22), p25.2))
  else
    aBin Try.prog .add 3 s22 (.int .i64 1) fun v27 =>
    some (.inl ((s2, s4, s5, s6, s20, s21, v27), p25.2))
theorem J7_0b0_at (rc : Rec) (md : Md) (t : T) (h : Heap) : cut Try.prog rc md 93 (sub (bodyOf Try.prog 7) [1, 1, 1, 0, 1, 0, 0]) [1, 1, 0, 0, 1, 1, 1, 1, 1, 1] (rndK (fun t => (t 2, t 4, t 5, t 6, t 20, t 21, t 22))) t h = J7_0b0 rc md (t 2) (t 4) (t 5) (t 6) (t 9) (t 20) (t 21) (t 22) h := by kernel_rfl
theorem J7_0b0_cut (rc : Rec) (md : Md) : cut Try.prog rc md 93 (sub (bodyOf Try.prog 7) [1, 1, 1, 0, 1, 0, 0]) [1, 1, 0, 0, 1, 1, 1, 1, 1, 1] (rndK (fun t => (t 2, t 4, t 5, t 6, t 20, t 21, t 22))) = fun t h => J7_0b0 rc md (t 2) (t 4) (t 5) (t 6) (t 9) (t 20) (t 21) (t 22) h := funext fun t => funext fun h => J7_0b0_at rc md t h
/-- a round -/
noncomputable def Jr7_0 (rc : Rec) (md : Md) (s2 : Value) (s4 : Value) (s5 : Value) (s6 : Value) (s20 : Value) (s21 : Value) (s22 : Value) (h : Heap) : Option (((Value × Value × Value × Value × Value × Value × Value) × Heap) ⊕ (Exit × (Value × Value × Value × Value × Value × Value × Value) × Heap)) :=
  aBin Try.prog .lss 3 s22 s21 fun v1 =>
  cBn v1 fun b2 =>
  bif b2 then
    ixSV 1 s20 s22 fun v3 =>
    ld1 v3 h fun v4 =>
    cIn .i64 v4 fun n5 =>
    (bif wantV (.bool (decide (n5 < 0))) false then
    some ((.int .i64 n5), h)
    else some (undef, h)).bind fun p6 =>
    (bif wantV (.bool (decide (n5 < 0))) false then
    aBin Try.prog .gtr 3 p6.1 (.int .i64 33554431) fun v7 =>
    some (v7, p6.2)
    else some (undef, p6.2)).bind fun p8 =>
    cBn (bif (decide (n5 < 0)) then (.bool true) else p8.1) fun b9 =>
    (bif wantV (.bool b9) false then
    some ((.int .i64 n5), p8.2)
    else some (undef, p8.2)).bind fun p10 =>
    (bif wantV (.bool b9) false then
    some (s5, p10.2)
    else some (undef, p10.2)).bind fun p11 =>
    (bif wantV (.bool b9) false then
    aBin Try.prog .lss 3 p10.1 p11.1 fun v12 =>
    some (v12, p11.2)
    else some (undef, p11.2)).bind fun p13 =>
    cBn (bif b9 then (.bool true) else p13.1) fun b14 =>
    bif b14 then
      aBin Try.prog .add 3 s22 (.int .i64 1) fun v15 =>
      some (.inl ((s2, s4, s5, s6, s20, s21, v15), p13.2))
    else
      ldN 4 s2 p13.2 fun v16 =>
      cl (rc md 26 [v16, (.int .i64 (IntKind.wrap .i64 (Int.tdiv n5 2))), (.bool ((Int.tmod n5 2) == 1))] p13.2) fun v17 h18 =>
      cIn .i64 v17 fun n19 =>
      (bif wantV s6 true then
      some ((.int .i64 n19), h18)
      else some (undef, h18)).bind fun p20 =>
      (bif wantV s6 true then
      fA 1 s2 fun v21 =>
      some (v21, p20.2)
      else some (undef, p20.2)).bind fun p22 =>
      (bif wantV s6 true then
      ld1 p22.1 p22.2 fun v23 =>
      cIn .i64 v23 fun n24 =>
      some ((.int .i64 n24), p22.2)
      else some (undef, p22.2)).bind fun p25 =>
      (bif wantV s6 true then
      aBin Try.prog .neq 3 p20.1 p25.1 fun v26 =>
      some (v26, p25.2)
      else some (undef, p25.2)).bind fun p27 =>
      cBn s6 fun q28 =>
      cBn (bif q28 then p27.1 else (.bool false)) fun b29 =>
      bif b29 then
        some (.inr (.ret, (s2, (.bool false), (.int .i64 n5), s6, s20, s21, s22), p27.2))
      else
        fA 3 s2 fun v30 =>
        ld1 v30 p27.2 fun v31 =>
        cIn .i64 v31 fun n32 =>
        (bif wantV (.bool (decide ((IntKind.wrap .i64 (Int.tdiv n5 2)) > n32))) false then
        some ((.int .i64 n5), p27.2)
        else some (undef, p27.2)).bind fun p33 =>
        (bif wantV (.bool (decide ((IntKind.wrap .i64 (Int.tdiv n5 2)) > n32))) false then
        aBin Try.prog .quo 3 p33.1 (.int .i64 2) fun v34 =>
        some (v34, p33.2)
        else some (undef, p33.2)).bind fun p35 =>
        (bif wantV (.bool (decide ((IntKind.wrap .i64 (Int.tdiv n5 2)) > n32))) false then
        fA 3 s2 fun v36 =>
        some (v36, p35.2)
        else some (undef, p35.2)).bind fun p37 =>
        (bif wantV (.bool (decide ((IntKind.wrap .i64 (Int.tdiv n5 2)) > n32))) false then
        ld1 p37.1 p37.2 fun v38 =>
        cIn .i64 v38 fun n39 =>
        some ((.int .i64 n39), p37.2)
        else some (undef, p37.2)).bind fun p40 =>
        (bif wantV (.bool (decide ((IntKind.wrap .i64 (Int.tdiv n5 2)) > n32))) false then
        aBin Try.prog .eql 3 p35.1 p40.1 fun v41 =>
        some (v41, p40.2)
        else some (undef, p40.2)).bind fun p42 =>
        (bif wantV (.bool (decide ((IntKind.wrap .i64 (Int.tdiv n5 2)) > n32))) false then
        some (p42.1, p42.2)
        else some (undef, p42.2)).bind fun p43 =>
        (bif wantV p43.1 true then
        some ((.int .i64 n5), p43.2)
        else some (undef, p43.2)).bind fun p44 =>
        (bif wantV p43.1 true then
        aBin Try.prog .rem 3 p44.1 (.int .i64 2) fun v45 =>
        some (v45, p44.2)
        else some (undef, p44.2)).bind fun p46 =>
        (bif wantV p43.1 true then
        aBin Try.prog .eql 3 p46.1 (.int .i64 1) fun v47 =>
        some (v47, p46.2)
        else some (undef, p46.2)).bind fun p48 =>
        (bif wantV (.bool (decide ((IntKind.wrap .i64 (Int.tdiv n5 2)) > n32))) false then
        cBn p43.1 fun q49 =>
        cBn (bif q49 then p48.1 else (.bool false)) fun b50 =>
        some ((.bool b50), p48.2)
        else some (undef, p48.2)).bind fun p51 =>
        cBn (bif (decide ((IntKind.wrap .i64 (Int.tdiv n5 2)) > n32)) then (.bool true) else p51.1) fun b52 =>
        (bif wantV (.bool b52) false then
        fA 2 s2 fun v53 =>
        some (v53, p51.2)
        else some (undef, p51.2)).bind fun p54 =>
        (bif wantV (.bool b52) false then
        ld1 p54.1 p54.2 fun v55 =>
        cIn .i64 v55 fun n56 =>
        some ((.int .i64 n56), p54.2)
        else some (undef, p54.2)).bind fun p57 =>
        (bif wantV (.bool b52) false then
        aBin Try.prog .eql 3 p57.1 (.int .i64 0) fun v58 =>
        some (v58, p57.2)
        else some (undef, p57.2)).bind fun p59 =>
        cBn (bif b52 then (.bool true) else p59.1) fun b60 =>
        bif b60 then
          J7_0b0 rc md s2 s4 (.int .i64 n5) (.bool true) (.int .i64 n19) s20 s21 s22 p59.2
        else
          J7_0b0 rc md s2 s4 (.int .i64 n5) s6 (.int .i64 n19) s20 s21 s22 p59.2
  else
    some (.inr ((.exit 0), (s2, s4, s5, s6, s20, s21, s22), h))
noncomputable def Jr7_0H (rc : Rec) (md : Md) (X0 : T → Heap → Option (((Value × Value × Value × Value × Value × Value × Value) × Heap) ⊕ (Exit × (Value × Value × Value × Value × Value × Value × Value) × Heap))) (t : T) (h : Heap) : Option (((Value × Value × Value × Value × Value × Value × Value) × Heap) ⊕ (Exit × (Value × Value × Value × Value × Value × Value × Value) × Heap)) :=
  aBin Try.prog .lss 3 (t 22) (t 21) fun v1 =>
  cBn v1 fun b2 =>
  bif b2 then
    ixSV 1 (t 20) (t 22) fun v3 =>
    ld1 v3 h fun v4 =>
    cIn .i64 v4 fun n5 =>
    (bif wantV (.bool (decide (n5 < 0))) false then
    some ((.int .i64 n5), h)
    else some (undef, h)).bind fun p6 =>
    (bif wantV (.bool (decide (n5 < 0))) false then
    aBin Try.prog .gtr 3 p6.1 (.int .i64 33554431) fun v7 =>
    some (v7, p6.2)
    else some (undef, p6.2)).bind fun p8 =>
    cBn (bif (decide (n5 < 0)) then (.bool true) else p8.1) fun b9 =>
    (bif wantV (.bool b9) false then
    some ((.int .i64 n5), p8.2)
    else some (undef, p8.2)).bind fun p10 =>
    (bif wantV (.bool b9) false then
    some ((t 5), p10.2)
    else some (undef, p10.2)).bind fun p11 =>
    (bif wantV (.bool b9) false then
    aBin Try.prog .lss 3 p10.1 p11.1 fun v12 =>
    some (v12, p11.2)
    else some (undef, p11.2)).bind fun p13 =>
    cBn (bif b9 then (.bool true) else p13.1) fun b14 =>
    bif b14 then
      aBin Try.prog .add 3 (t 22) (.int .i64 1) fun v15 =>
      some (.inl (((t 2), (t 4), (t 5), (t 6), (t 20), (t 21), v15), p13.2))
    else
      ldN 4 (t 2) p13.2 fun v16 =>
      cl (rc md 26 [v16, (.int .i64 (IntKind.wrap .i64 (Int.tdiv n5 2))), (.bool ((Int.tmod n5 2) == 1))] p13.2) fun v17 h18 =>
      cIn .i64 v17 fun n19 =>
      (bif wantV (t 6) true then
      some ((.int .i64 n19), h18)
      else some (undef, h18)).bind fun p20 =>
      (bif wantV (t 6) true then
      fA 1 (t 2) fun v21 =>
      some (v21, p20.2)
      else some (undef, p20.2)).bind fun p22 =>
      (bif wantV (t 6) true then
      ld1 p22.1 p22.2 fun v23 =>
      cIn .i64 v23 fun n24 =>
      some ((.int .i64 n24), p22.2)
      else some (undef, p22.2)).bind fun p25 =>
      (bif wantV (t 6) true then
      aBin Try.prog .neq 3 p20.1 p25.1 fun v26 =>
      some (v26, p25.2)
      else some (undef, p25.2)).bind fun p27 =>
      cBn (t 6) fun q28 =>
      cBn (bif q28 then p27.1 else (.bool false)) fun b29 =>
      bif b29 then
        some (.inr (.ret, ((t 2), (.bool false), (.int .i64 n5), (t 6), (t 20), (t 21), (t 22)), p27.2))
      else
        fA 3 (t 2) fun v30 =>
        ld1 v30 p27.2 fun v31 =>
        cIn .i64 v31 fun n32 =>
        (bif wantV (.bool (decide ((IntKind.wrap .i64 (Int.tdiv n5 2)) > n32))) false then
        some ((.int .i64 n5), p27.2)
        else some (undef, p27.2)).bind fun p33 =>
        (bif wantV (.bool (decide ((IntKind.wrap .i64 (Int.tdiv n5 2)) > n32))) false then
        aBin Try.prog .quo 3 p33.1 (.int .i64 2) fun v34 =>
        some (v34, p33.2)
        else some (undef, p33.2)).bind fun p35 =>
        (bif wantV (.bool (decide ((IntKind.wrap .i64 (Int.tdiv n5 2)) > n32))) false then
        fA 3 (t 2) fun v36 =>
        some (v36, p35.2)
        else some (undef, p35.2)).bind fun p37 =>
        (bif wantV (.bool (decide ((IntKind.wrap .i64 (Int.tdiv n5 2)) > n32))) false then
        ld1 p37.1 p37.2 fun v38 =>
        cIn .i64 v38 fun n39 =>
        some ((.int .i64 n39), p37.2)
        else some (undef, p37.2)).bind fun p40 =>
        (bif wantV (.bool (decide ((IntKind.wrap .i64 (Int.tdiv n5 2)) > n32))) false then
        aBin Try.prog .eql 3 p35.1 p40.1 fun v41 =>
        some (v41, p40.2)
        else some (undef, p40.2)).bind fun p42 =>
        (bif wantV (.bool (decide ((IntKind.wrap .i64 (Int.tdiv n5 2)) > n32))) false then
        some (p42.1, p42.2)
        else some (undef, p42.2)).bind fun p43 =>
        (bif wantV p43.1 true then
        some ((.int .i64 n5), p43.2)
        else some (undef, p43.2)).bind fun p44 =>
        (bif wantV p43.1 true then
        aBin Try.prog .rem 3 p44.1 (.int .i64 2) fun v45 =>
        some (v45, p44.2)
        else some (undef, p44.2)).bind fun p46 =>
        (bif wantV p43.1 true then
        aBin Try.prog .eql 3 p46.1 (.int .i64 1) fun v47 =>
        some (v47, p46.2)
        else some (undef, p46.2)).bind fun p48 =>
        (bif wantV (.bool (decide ((IntKind.wrap .i64 (Int.tdiv n5 2)) > n32))) false then
        cBn p43.1 fun q49 =>
        cBn (bif q49 then p48.1 else (.bool false)) fun b50 =>
        some ((.bool b50), p48.2)
        else some (undef, p48.2)).bind fun p51 =>
        cBn (bif (decide ((IntKind.wrap .i64 (Int.tdiv n5 2)) > n32)) then (.bool true) else p51.1) fun b52 =>
        (bif wantV (.bool b52) false then
        fA 2 (t 2) fun v53 =>
        some (v53, p51.2)
        else some (undef, p51.2)).bind fun p54 =>
        (bif wantV (.bool b52) false then
        ld1 p54.1 p54.2 fun v55 =>
        cIn .i64 v55 fun n56 =>
        some ((.int .i64 n56), p54.2)
        else some (undef, p54.2)).bind fun p57 =>
        (bif wantV (.bool b52) false then
        aBin Try.prog .eql 3 p57.1 (.int .i64 0) fun v58 =>
        some (v58, p57.2)
        else some (undef, p57.2)).bind fun p59 =>
        cBn (bif b52 then (.bool true) else p59.1) fun b60 =>
        bif b60 then
          X0 (upd (upd (upd (upd (upd (upd (upd (upd (upd (upd (upd (upd (upd (upd (upd (upd (upd (upd (upd (upd (upd (upd (upd (upd (upd (upd (upd (upd (upd (upd (upd (upd (upd (upd (upd (upd (upd (upd (upd (upd (upd (upd (upd (upd (upd (upd (upd (upd (upd (upd (upd (upd (upd (upd (upd t 23 v1) 24 v3) 25 (.int .i64 n5)) 8 (.int .i64 n5)) 26 (.int .i64 n5)) 27 (.bool (decide (n5 < 0)))) 28 (.bool (decide (n5 < 0)))) 29 p6.1) 30 p8.1) 31 (.bool b9)) 32 (.bool b9)) 33 p10.1) 34 p11.1) 35 p13.1) 36 (.bool b14)) 37 (.int .i64 n5)) 5 (.int .i64 n5)) 38 v16) 39 (.int .i64 n5)) 40 (.int .i64 (IntKind.wrap .i64 (Int.tdiv n5 2)))) 41 (.int .i64 n5)) 42 (.int .i64 (Int.tmod n5 2))) 43 (.bool ((Int.tmod n5 2) == 1))) 44 (.int .i64 n19)) 9 (.int .i64 n19)) 45 (t 6)) 46 (t 6)) 47 p20.1) 48 p22.1) 49 p25.1) 50 p27.1) 51 (.bool b29)) 52 (.int .i64 n5)) 53 (.int .i64 (IntKind.wrap .i64 (Int.tdiv n5 2)))) 54 v30) 55 (.int .i64 n32)) 56 (.bool (decide ((IntKind.wrap .i64 (Int.tdiv n5 2)) > n32)))) 57 (.bool (decide ((IntKind.wrap .i64 (Int.tdiv n5 2)) > n32)))) 58 p33.1) 59 p35.1) 60 p37.1) 61 p40.1) 62 p42.1) 63 p43.1) 64 p44.1) 65 p46.1) 66 p48.1) 67 p51.1) 68 (.bool b52)) 69 (.bool b52)) 70 p54.1) 71 p57.1) 72 p59.1) 73 (.bool b60)) 6 (.bool true)) p59.2
        else
          X0 (upd (upd (upd (upd (upd (upd (upd (upd (upd (upd (upd (upd (upd (upd (upd (upd (upd (upd (upd (upd (upd (upd (upd (upd (upd (upd (upd (upd (upd (upd (upd (upd (upd (upd (upd (upd (upd (upd (upd (upd (upd (upd (upd (upd (upd (upd (upd (upd (upd (upd (upd (upd (upd (upd t 23 v1) 24 v3) 25 (.int .i64 n5)) 8 (.int .i64 n5)) 26 (.int .i64 n5)) 27 (.bool (decide (n5 < 0)))) 28 (.bool (decide (n5 < 0)))) 29 p6.1) 30 p8.1) 31 (.bool b9)) 32 (.bool b9)) 33 p10.1) 34 p11.1) 35 p13.1) 36 (.bool b14)) 37 (.int .i64 n5)) 5 (.int .i64 n5)) 38 v16) 39 (.int .i64 n5)) 40 (.int .i64 (IntKind.wrap .i64 (Int.tdiv n5 2)))) 41 (.int .i64 n5)) 42 (.int .i64 (Int.tmod n5 2))) 43 (.bool ((Int.tmod n5 2) == 1))) 44 (.int .i64 n19)) 9 (.int .i64 n19)) 45 (t 6)) 46 (t 6)) 47 p20.1) 48 p22.1) 49 p25.1) 50 p27.1) 51 (.bool b29)) 52 (.int .i64 n5)) 53 (.int .i64 (IntKind.wrap .i64 (Int.tdiv n5 2)))) 54 v30) 55 (.int .i64 n32)) 56 (.bool (decide ((IntKind.wrap .i64 (Int.tdiv n5 2)) > n32)))) 57 (.bool (decide ((IntKind.wrap .i64 (Int.tdiv n5 2)) > n32)))) 58 p33.1) 59 p35.1) 60 p37.1) 61 p40.1) 62 p42.1) 63 p43.1) 64 p44.1) 65 p46.1) 66 p48.1) 67 p51.1) 68 (.bool b52)) 69 (.bool b52)) 70 p54.1) 71 p57.1) 72 p59.1) 73 (.bool b60)) p59.2
  else
    some (.inr ((.exit 0), ((t 2), (t 4), (t 5), (t 6), (t 20), (t 21), (t 22)), h))
theorem Jr7_0_h1 (rc : Rec) (md : Md) (X : Nat → T → Heap → Option (((Value × Value × Value × Value × Value × Value × Value) × Heap) ⊕ (Exit × (Value × Value × Value × Value × Value × Value × Value) × Heap))) (t : T) (h : Heap) : execG Try.prog X rc md 93 (replS (sub (bodyOf Try.prog 7) [1, 1, 1, 0, 1, 0, 0]) [([1, 1, 0, 0, 1, 1, 1, 1, 1, 1], 0)]) (rndK (fun t => (t 2, t 4, t 5, t 6, t 20, t 21, t 22))) t h = Jr7_0H rc md (X 0) t h := by kernel_rfl
theorem Jr7_0_h2 (rc : Rec) (md : Md) (t : T) (h : Heap) : Jr7_0H rc md (fun t h => J7_0b0 rc md (t 2) (t 4) (t 5) (t 6) (t 9) (t 20) (t 21) (t 22) h) t h = Jr7_0 rc md (t 2) (t 4) (t 5) (t 6) (t 20) (t 21) (t 22) h := by unfold Jr7_0H Jr7_0; kernel_rfl
theorem Jr7_0_at (rc : Rec) (md : Md) (t : T) (h : Heap) : exec Try.prog rc md 93 (sub (bodyOf Try.prog 7) [1, 1, 1, 0, 1, 0, 0]) (rndK (fun t => (t 2, t 4, t 5, t 6, t 20, t 21, t 22))) t h = Jr7_0 rc md (t 2) (t 4) (t 5) (t 6) (t 20) (t 21) (t 22) h := by
  rw [exec_holes [([1, 1, 0, 0, 1, 1, 1, 1, 1, 1], 0)] (by kernel_rfl), Jr7_0_h1, show (goX Try.prog rc md 93 (sub (bodyOf Try.prog 7) [1, 1, 1, 0, 1, 0, 0]) [([1, 1, 0, 0, 1, 1, 1, 1, 1, 1], 0)] (rndK (fun t => (t 2, t 4, t 5, t 6, t 20, t 21, t 22)))) 0 = _ from J7_0b0_cut rc md]
  exact Jr7_0_h2 rc md t h
noncomputable def J7_0 (rc : Rec) (md : Md) (h0 : Heap) (s2 : Value) (s4 : Value) (s5 : Value) (s6 : Value) (s20 : Value) (s21 : Value) (s22 : Value) (h : Heap) : Option (Value × Heap) :=
  runL (fun x : (Value × Value × Value × Value × Value × Value × Value) × Heap => Jr7_0 rc md x.1.1 x.1.2.1 x.1.2.2.1 x.1.2.2.2.1 x.1.2.2.2.2.1 x.1.2.2.2.2.2.1 x.1.2.2.2.2.2.2 x.2) (fun e (s : Value × Value × Value × Value × Value × Value × Value) h => Jk7_0 rc md h0 e s.1 s.2.1 s.2.2.1 s.2.2.2.1 s.2.2.2.2.1 s.2.2.2.2.2.1 s.2.2.2.2.2.2 h) (s2, s4, s5, s6, s20, s21, s22) h
theorem J7_0_step (rc : Rec) (md : Md) (h0 : Heap) (s2 : Value) (s4 : Value) (s5 : Value) (s6 : Value) (s20 : Value) (s21 : Value) (s22 : Value) (h : Heap) : J7_0 rc md h0 s2 s4 s5 s6 s20 s21 s22 h = (Jr7_0 rc md s2 s4 s5 s6 s20 s21 s22 h).bind fun x => match x with
    | .inl (s, h) => J7_0 rc md h0 s.1 s.2.1 s.2.2.1 s.2.2.2.1 s.2.2.2.2.1 s.2.2.2.2.2.1 s.2.2.2.2.2.2 h
    | .inr (e, s, h) => Jk7_0 rc md h0 e s.1 s.2.1 s.2.2.1 s.2.2.2.1 s.2.2.2.2.1 s.2.2.2.2.2.1 s.2.2.2.2.2.2 h := by
  unfold J7_0
  rw [runL_eq]
  refine congrArg (Option.bind _) (funext fun x => ?_)
  rcases x with ⟨s, h⟩ | ⟨e, s, h⟩ <;> rfl
theorem J7_0_cut (rc : Rec) (md : Md) (h0 : Heap) : cut Try.prog rc md 93 (bodyOf Try.prog 7) [1, 1, 1, 0, 1, 0] (retK Try.prog cfg 7 (rsOf Try.prog 7) h0) = fun t h => J7_0 rc md h0 (t 2) (t 4) (t 5) (t 6) (t 20) (t 21) (t 22) h := by
  funext t h
  have e : sub (bodyOf Try.prog 7) [1, 1, 1, 0, 1, 0] = .loop (sub (bodyOf Try.prog 7) [1, 1, 1, 0, 1, 0, 0]) := by kernel_rfl
  unfold cut
  rw [e]
  exact loop_eq (fun t => (t 2, t 4, t 5, t 6, t 20, t 21, t 22)) (fun x : (Value × Value × Value × Value × Value × Value × Value) × Heap => Jr7_0 rc md x.1.1 x.1.2.1 x.1.2.2.1 x.1.2.2.2.1 x.1.2.2.2.2.1 x.1.2.2.2.2.2.1 x.1.2.2.2.2.2.2 x.2) (fun t h => Jr7_0_at rc md t h) (fun e (s : Value × Value × Value × Value × Value × Value × Value) h => Jk7_0 rc md h0 e s.1 s.2.1 s.2.2.1 s.2.2.2.1 s.2.2.2.2.1 s.2.2.2.2.2.1 s.2.2.2.2.2.2 h) (fun e t h => Jk7_0_at rc md h0 e t h) t h
noncomputable def F7 (rc : Rec) (md : Md) (a0_0 : Int) (a0_1 : Int) (a0_2 : Int) (a0_3 : Int) (a1 : Value) (h0 : Heap) : Option (Value × Heap) :=
  let h1 : Heap := h0 ++ [.own [(.int .i64 a0_0), (.int .i64 a0_1), (.int .i64 a0_2), (.int .i64 a0_3)]]
  ldN 4 (.pointer (some ⟨h0.length, 0, none⟩)) h1 fun v2 =>
  cl (rc md 16 [v2] h1) fun v3 h4 =>
  cl (rc md 15 [v3] h4) fun v5 h6 =>
  cBn v5 fun b7 =>
  (bif wantV (.bool (!b7)) false then
  some (a1, h6)
  else some (undef, h6)).bind fun p8 =>
  (bif wantV (.bool (!b7)) false then
  lenS p8.1 fun v9 =>
  cIn .i64 v9 fun n10 =>
  some ((.int .i64 n10), p8.2)
  else some (undef, p8.2)).bind fun p11 =>
  (bif wantV (.bool (!b7)) false then
  aBin Try.prog .gtr 3 p11.1 (.int .i64 60) fun v12 =>
  some (v12, p11.2)
  else some (undef, p11.2)).bind fun p13 =>
  cBn (bif !b7 then (.bool true) else p13.1) fun b14 =>
  bif b14 then
    cl (rc md 18 [] p13.2) fun v15 h16 =>
    cBn v15 fun b17 =>
    some ((.bool b17), h0)
  else
    lenS a1 fun v18 =>
    cIn .i64 v18 fun n19 =>
    J7_0 rc md h0 (.pointer (some ⟨h0.length, 0, none⟩)) (.bool false) (.int .i64 (-1)) (.bool false) a1 (.int .i64 n19) (.int .i64 0) p13.2
noncomputable def F7H (rc : Rec) (md : Md) (X0 : T → Heap → Option (Value × Heap)) (a0_0 : Int) (a0_1 : Int) (a0_2 : Int) (a0_3 : Int) (a1 : Value) (h0 : Heap) : Option (Value × Heap) :=
  let h1 : Heap := h0 ++ [.own [(.int .i64 a0_0), (.int .i64 a0_1), (.int .i64 a0_2), (.int .i64 a0_3)]]
  ldN 4 (.pointer (some ⟨h0.length, 0, none⟩)) h1 fun v2 =>
  cl (rc md 16 [v2] h1) fun v3 h4 =>
  cl (rc md 15 [v3] h4) fun v5 h6 =>
  cBn v5 fun b7 =>
  (bif wantV (.bool (!b7)) false then
  some (a1, h6)
  else some (undef, h6)).bind fun p8 =>
  (bif wantV (.bool (!b7)) false then
  lenS p8.1 fun v9 =>
  cIn .i64 v9 fun n10 =>
  some ((.int .i64 n10), p8.2)
  else some (undef, p8.2)).bind fun p11 =>
  (bif wantV (.bool (!b7)) false then
  aBin Try.prog .gtr 3 p11.1 (.int .i64 60) fun v12 =>
  some (v12, p11.2)
  else some (undef, p11.2)).bind fun p13 =>
  cBn (bif !b7 then (.bool true) else p13.1) fun b14 =>
  bif b14 then
    cl (rc md 18 [] p13.2) fun v15 h16 =>
    cBn v15 fun b17 =>
    some ((.bool b17), h0)
  else
    lenS a1 fun v18 =>
    cIn .i64 v18 fun n19 =>
    X0 (upd (upd (upd (upd (upd (upd (upd (upd (upd (upd (upd (upd (upd (upd (upd (upd (args0 [(.agg #[(.int .i64 a0_0), (.int .i64 a0_1), (.int .i64 a0_2), (.int .i64 a0_3)]), a1]) 2 (.pointer (some ⟨h0.length, 0, none⟩))) 4 (.bool false)) 10 v2) 11 v3) 12 (.bool b7)) 13 (.bool (!b7))) 14 (.bool (!b7))) 15 p8.1) 16 p11.1) 17 p13.1) 18 (.bool b14)) 5 (.int .i64 (-1))) 6 (.bool false)) 20 a1) 21 (.int .i64 n19)) 22 (.int .i64 0)) p13.2
theorem F7_h0 (rc : Rec) (md : Md) (a0_0 : Int) (a0_1 : Int) (a0_2 : Int) (a0_3 : Int) (a1 : Value) (h0 : Heap) : callStep Try.prog cfg rc md 7 [(.agg #[(.int .i64 a0_0), (.int .i64 a0_1), (.int .i64 a0_2), (.int .i64 a0_3)]), a1] h0 = exec Try.prog rc ⟨h0.length, h0.length⟩ 93 (bodyOf Try.prog 7) (retK Try.prog cfg 7 (rsOf Try.prog 7) h0) (args0 [(.agg #[(.int .i64 a0_0), (.int .i64 a0_1), (.int .i64 a0_2), (.int .i64 a0_3)]), a1]) h0 := by kernel_rfl
theorem F7_h1 (rc : Rec) (md : Md) (X : Nat → T → Heap → Option (Value × Heap)) (a0_0 : Int) (a0_1 : Int) (a0_2 : Int) (a0_3 : Int) (a1 : Value) (h0 : Heap) : execG Try.prog X rc md 93 (replS (bodyOf Try.prog 7) [([1, 1, 1, 0, 1, 0], 0)]) (retK Try.prog cfg 7 (rsOf Try.prog 7) h0) (args0 [(.agg #[(.int .i64 a0_0), (.int .i64 a0_1), (.int .i64 a0_2), (.int .i64 a0_3)]), a1]) h0 = F7H rc md (X 0) a0_0 a0_1 a0_2 a0_3 a1 h0 := by kernel_rfl
theorem F7_h2 (rc : Rec) (md : Md) (a0_0 : Int) (a0_1 : Int) (a0_2 : Int) (a0_3 : Int) (a1 : Value) (h0 : Heap) : F7H rc md (fun t h => J7_0 rc md h0 (t 2) (t 4) (t 5) (t 6) (t 20) (t 21) (t 22) h) a0_0 a0_1 a0_2 a0_3 a1 h0 = F7 rc md a0_0 a0_1 a0_2 a0_3 a1 h0 := by unfold F7H F7; kernel_rfl
theorem F7_eq (rc : Rec) (md : Md) (a0_0 : Int) (a0_1 : Int) (a0_2 : Int) (a0_3 : Int) (a1 : Value) (h0 : Heap) : callStep Try.prog cfg rc md 7 [(.agg #[(.int .i64 a0_0), (.int .i64 a0_1), (.int .i64 a0_2), (.int .i64 a0_3)]), a1] h0 = F7 rc ⟨h0.length, h0.length⟩ a0_0 a0_1 a0_2 a0_3 a1 h0 := by
  rw [F7_h0, exec_holes [([1, 1, 1, 0, 1, 0], 0)] (by kernel_rfl), F7_h1, show (goX Try.prog rc ⟨h0.length, h0.length⟩ 93 (bodyOf Try.prog 7) [([1, 1, 1, 0, 1, 0], 0)] (retK Try.prog cfg 7 (rsOf Try.prog 7) h0)) 0 = _ from J7_0_cut rc ⟨h0.length, h0.length⟩ h0]
  exact F7_h2 rc _ a0_0 a0_1 a0_2 a0_3 a1 h0

end Go.Det
