/- Printed functions. -/
import Derived.Test.YtfckdafeeoibhaaDetR
import Derived.Test.YtfckdafeeoibhaaDetT
import Derived.Test.YtfckdafeeoibhaaDetX
import Derived.Test.YtfckdafeeoibhaaProg
set_option autoImplicit false
set_option linter.unusedVariables false
set_option linter.unusedSimpArgs false
namespace Go.Det.E
open Go.Proofs Go.Det

def cfg : FuncId → Nat := fun f => bif Nat.beq f 17 || Nat.beq f 19 || Nat.beq f 25 || Nat.beq f 29 || Nat.beq f 46 || Nat.beq f 50 || Nat.beq f 52 || Nat.beq f 65 || Nat.ble 67 f && Nat.ble f 68 || Nat.ble 81 f && Nat.ble f 82 || Nat.beq f 90 then 2 else bif Nat.ble 3 f && Nat.ble f 14 || Nat.beq f 21 || Nat.beq f 24 || Nat.beq f 28 || Nat.beq f 33 || Nat.ble 36 f && Nat.ble f 43 || Nat.beq f 45 || Nat.beq f 53 || Nat.ble 62 f && Nat.ble f 63 || Nat.beq f 71 || Nat.beq f 75 || Nat.beq f 77 || Nat.ble 79 f && Nat.ble f 80 || Nat.ble 91 f && Nat.ble f 92 || Nat.beq f 102 || Nat.ble 108 f && Nat.ble f 113 || Nat.ble 115 f && Nat.ble f 116 || Nat.beq f 120 || Nat.ble 122 f && Nat.ble f 124 || Nat.beq f 126 || Nat.beq f 143 then 1 else bif Nat.beq f 2 || Nat.beq f 15 || Nat.beq f 26 || Nat.beq f 30 || Nat.beq f 32 || Nat.ble 34 f && Nat.ble f 35 || Nat.ble 47 f && Nat.ble f 49 || Nat.beq f 51 || Nat.ble 54 f && Nat.ble f 56 || Nat.beq f 70 || Nat.ble 72 f && Nat.ble f 74 || Nat.beq f 76 || Nat.beq f 78 || Nat.ble 83 f && Nat.ble f 87 || Nat.ble 93 f && Nat.ble f 101 || Nat.ble 103 f && Nat.ble f 107 || Nat.beq f 114 || Nat.ble 117 f && Nat.ble f 119 || Nat.beq f 121 || Nat.beq f 125 then 3 else 0

noncomputable abbrev C := call Try.prog cfg
/-- tombolo/tombololaw08.PtrLooks -/
noncomputable def J9_1 (rc : Rec) (md : Md) (h0 : Heap) (s1 : Value) (s7 : Value) (s10 : Value) (s11 : Value) (s12 : Value) (s13 : Value) (h : Heap) : Option (Value × Heap) :=
  cl (rc md 29 [s7] h) fun v1 h2 =>
  let h3 : Heap := h2 ++ [.own [(.int .i64 0), (.int .i64 0), (.int .i64 0), (.int .i64 0), (.int .i64 0)]]
  st md 5 (.pointer (some ⟨h2.length, 0, none⟩)) v1 h3 fun h4 =>
  cl (rc md 52 [s13] h4) fun v5 h6 =>
  cBn v5 fun b7 =>
  (bif wantV (.bool b7) true then
  some (s13, h6)
  else some (undef, h6)).bind fun p8 =>
  (bif wantV (.bool b7) true then
  some (s7, p8.2)
  else some (undef, p8.2)).bind fun p9 =>
  (bif wantV (.bool b7) true then
  cl (rc md 45 [p8.1, p9.1] p9.2) fun v10 h11 =>
  cBn v10 fun b12 =>
  some ((.bool b12), h11)
  else some (undef, p9.2)).bind fun p13 =>
  cBn (bif b7 then p13.1 else (.bool false)) fun b14 =>
  (bif wantV (.bool b14) true then
  some (s7, p13.2)
  else some (undef, p13.2)).bind fun p15 =>
  (bif wantV (.bool b14) true then
  cl (rc md 29 [p15.1] p15.2) fun v16 h17 =>
  some (v16, h17)
  else some (undef, p15.2)).bind fun p18 =>
  (bif wantV (.bool b14) true then
  ldN 5 (.pointer (some ⟨h2.length, 0, none⟩)) p18.2 fun v19 =>
  some (v19, p18.2)
  else some (undef, p18.2)).bind fun p20 =>
  (bif wantV (.bool b14) true then
  aBin Try.prog .eql 54 p18.1 p20.1 fun v21 =>
  some (v21, p20.2)
  else some (undef, p20.2)).bind fun p22 =>
  cBn (bif b14 then p22.1 else (.bool false)) fun b23 =>
  (bif wantV (.bool b23) true then
  fA 2 s10 fun v24 =>
  some (v24, p22.2)
  else some (undef, p22.2)).bind fun p25 =>
  (bif wantV (.bool b23) true then
  ld1 p25.1 p25.2 fun v26 =>
  cIn .i64 v26 fun n27 =>
  some ((.int .i64 n27), p25.2)
  else some (undef, p25.2)).bind fun p28 =>
  (bif wantV (.bool b23) true then
  aBin Try.prog .gtr 3 p28.1 (.int .i64 0) fun v29 =>
  some (v29, p28.2)
  else some (undef, p28.2)).bind fun p30 =>
  (bif wantV (.bool b23) true then
  some (p30.1, p30.2)
  else some (undef, p30.2)).bind fun p31 =>
  (bif wantV p31.1 true then
  ld1 s11 p31.2 fun v32 =>
  cBn v32 fun b33 =>
  some ((.bool b33), p31.2)
  else some (undef, p31.2)).bind fun p34 =>
  (bif wantV (.bool b23) true then
  cBn p31.1 fun q35 =>
  cBn (bif q35 then p34.1 else (.bool false)) fun b36 =>
  some ((.bool b36), p34.2)
  else some (undef, p34.2)).bind fun p37 =>
  (bif wantV (.bool b23) true then
  some (p37.1, p37.2)
  else some (undef, p37.2)).bind fun p38 =>
  (bif wantV p38.1 false then
  some (s13, p38.2)
  else some (undef, p38.2)).bind fun p39 =>
  (bif wantV p38.1 false then
  cl (rc md 46 [p39.1] p39.2) fun v40 h41 =>
  cIn .i64 v40 fun n42 =>
  some ((.int .i64 n42), h41)
  else some (undef, p39.2)).bind fun p43 =>
  (bif wantV p38.1 false then
  some (s12, p43.2)
  else some (undef, p43.2)).bind fun p44 =>
  (bif wantV p38.1 false then
  some (s1, p44.2)
  else some (undef, p44.2)).bind fun p45 =>
  (bif wantV p38.1 false then
  clV rc md p44.1 [p45.1] p45.2 fun v46 h47 =>
  cIn .i64 v46 fun n48 =>
  some ((.int .i64 n48), h47)
  else some (undef, p45.2)).bind fun p49 =>
  (bif wantV p38.1 false then
  aBin Try.prog .eql 3 p43.1 p49.1 fun v50 =>
  some (v50, p49.2)
  else some (undef, p49.2)).bind fun p51 =>
  (bif wantV (.bool b23) true then
  cBn p38.1 fun q52 =>
  cBn (bif q52 then (.bool true) else p51.1) fun b53 =>
  some ((.bool b53), p51.2)
  else some (undef, p51.2)).bind fun p54 =>
  cBn (bif b23 then p54.1 else (.bool false)) fun b55 =>
  (bif wantV (.bool b55) true then
  cl (rc md 30 [] p54.2) fun v56 h57 =>
  cBn v56 fun b58 =>
  some ((.bool b58), h57)
  else some (undef, p54.2)).bind fun p59 =>
  cBn (bif b55 then p59.1 else (.bool false)) fun b60 =>
  some ((.bool b60), List.take h0.length p59.2)
theorem J9_1_at (rc : Rec) (md : Md) (h0 : Heap) (t : T) (h : Heap) : cut Try.prog cfg rc md 138 (bodyOf Try.prog 9) [1, 1, 1, 1, 1, 1, 1, 1, 1, 1, 1, 1, 1] (retK Try.prog cfg 9 (rsOf Try.prog 9) h0) t h = J9_1 rc md h0 (t 1) (t 7) (t 10) (t 11) (t 12) (t 13) h := by kernel_rfl
theorem J9_1_cut (rc : Rec) (md : Md) (h0 : Heap) : cut Try.prog cfg rc md 138 (bodyOf Try.prog 9) [1, 1, 1, 1, 1, 1, 1, 1, 1, 1, 1, 1, 1] (retK Try.prog cfg 9 (rsOf Try.prog 9) h0) = fun t h => J9_1 rc md h0 (t 1) (t 7) (t 10) (t 11) (t 12) (t 13) h := funext fun t => funext fun h => J9_1_at rc md h0 t h
noncomputable def J9_0 (rc : Rec) (md : Md) (h0 : Heap) (s1 : Value) (s2 : Value) (s3 : Value) (s7 : Value) (s8 : Value) (s9 : Value) (s10 : Value) (s11 : Value) (h : Heap) : Option (Value × Heap) :=
  ldN 3 s9 h fun v1 =>
  cl (rc md 34 [(.int .i64 0)] h) fun v2 h3 =>
  cIn .i64 v2 fun n4 =>
  cl (rc md 44 [v1, (.int .i64 n4)] h3) fun v5 h6 =>
  aBin Try.prog .eql 87 v5 (.pointer none) fun v7 =>
  (bif wantV v7 false then
  some (v5, h6)
  else some (undef, h6)).bind fun p8 =>
  (bif wantV v7 false then
  cl (rc md 52 [p8.1] p8.2) fun v9 h10 =>
  cBn v9 fun b11 =>
  some ((.bool b11), h10)
  else some (undef, p8.2)).bind fun p12 =>
  cBn v7 fun q13 =>
  cBn (bif q13 then (.bool true) else p12.1) fun b14 =>
  (bif wantV (.bool b14) false then
  some (v5, p12.2)
  else some (undef, p12.2)).bind fun p15 =>
  (bif wantV (.bool b14) false then
  cl (rc md 46 [p15.1] p15.2) fun v16 h17 =>
  cIn .i64 v16 fun n18 =>
  some ((.int .i64 n18), h17)
  else some (undef, p15.2)).bind fun p19 =>
  (bif wantV (.bool b14) false then
  aBin Try.prog .neq 3 p19.1 (.int .i64 0) fun v20 =>
  some (v20, p19.2)
  else some (undef, p19.2)).bind fun p21 =>
  cBn (bif b14 then (.bool true) else p21.1) fun b22 =>
  (bif wantV (.bool b22) false then
  ldN 1 s8 p21.2 fun v23 =>
  some (v23, p21.2)
  else some (undef, p21.2)).bind fun p24 =>
  (bif wantV (.bool b22) false then
  some ((.iface 31 p24.1), p24.2)
  else some (undef, p24.2)).bind fun p25 =>
  (bif wantV (.bool b22) false then
  ldN 3 s9 p25.2 fun v26 =>
  some (v26, p25.2)
  else some (undef, p25.2)).bind fun p27 =>
  (bif wantV (.bool b22) false then
  cl (rc md 34 [(.int .i64 0)] p27.2) fun v28 h29 =>
  cIn .i64 v28 fun n30 =>
  some ((.int .i64 n30), h29)
  else some (undef, p27.2)).bind fun p31 =>
  (bif wantV (.bool b22) false then
  cl (rc md 41 [p25.1, p27.1, p31.1] p31.2) fun v32 h33 =>
  cIn .i64 v32 fun n34 =>
  some ((.int .i64 n34), h33)
  else some (undef, p31.2)).bind fun p35 =>
  (bif wantV (.bool b22) false then
  some ((.func (.func 50) #[] #[s11, s10, s3]), p35.2)
  else some (undef, p35.2)).bind fun p36 =>
  (bif wantV (.bool b22) false then
  some (s1, p36.2)
  else some (undef, p36.2)).bind fun p37 =>
  (bif wantV (.bool b22) false then
  clV rc md p36.1 [p37.1] p37.2 fun v38 h39 =>
  cIn .i64 v38 fun n40 =>
  some ((.int .i64 n40), h39)
  else some (undef, p37.2)).bind fun p41 =>
  (bif wantV (.bool b22) false then
  aBin Try.prog .neq 3 p35.1 p41.1 fun v42 =>
  some (v42, p41.2)
  else some (undef, p41.2)).bind fun p43 =>
  cBn (bif b22 then (.bool true) else p43.1) fun b44 =>
  bif b44 then
    some ((.bool false), List.take h0.length p43.2)
  else
    cl (rc md 45 [v5, s7] p43.2) fun v45 h46 =>
    cBn v45 fun b47 =>
    ld1 s11 h46 fun v48 =>
    cBn v48 fun b49 =>
    cLE true (fun hq => ld1 s11 hq some) (.bool b49) p43.2 h46 <|
    (bif wantV (.bool (!b49)) false then
    fA 2 s10 fun v50 =>
    some (v50, h46)
    else some (undef, h46)).bind fun p51 =>
    (bif wantV (.bool (!b49)) false then
    ld1 p51.1 p51.2 fun v52 =>
    cIn .i64 v52 fun n53 =>
    some ((.int .i64 n53), p51.2)
    else some (undef, p51.2)).bind fun p54 =>
    (bif wantV (.bool (!b49)) false then
    aBin Try.prog .eql 3 p54.1 (.int .i64 0) fun v55 =>
    some (v55, p54.2)
    else some (undef, p54.2)).bind fun p56 =>
    cBn (bif !b49 then (.bool true) else p56.1) fun b57 =>
    aBin Try.prog .neq 4 (.bool b47) (.bool b57) fun v58 =>
    cBn v58 fun b59 =>
    bif b59 then
      some ((.bool false), List.take h0.length p56.2)
    else
      ld1 s11 p56.2 fun v60 =>
      cBn v60 fun b61 =>
      (bif wantV (.bool b61) true then
      fA 2 s10 fun v62 =>
      some (v62, p56.2)
      else some (undef, p56.2)).bind fun p63 =>
      (bif wantV (.bool b61) true then
      ld1 p63.1 p63.2 fun v64 =>
      cIn .i64 v64 fun n65 =>
      some ((.int .i64 n65), p63.2)
      else some (undef, p63.2)).bind fun p66 =>
      (bif wantV (.bool b61) true then
      aBin Try.prog .gtr 3 p66.1 (.int .i64 0) fun v67 =>
      some (v67, p66.2)
      else some (undef, p66.2)).bind fun p68 =>
      cBn (bif b61 then p68.1 else (.bool false)) fun b69 =>
      bif b69 then
        ldN 3 s9 p68.2 fun v70 =>
        fA 2 s10 fun v71 =>
        ld1 v71 p68.2 fun v72 =>
        cIn .i64 v72 fun n73 =>
        cl (rc md 49 [v70, (.int .i64 n73)] p68.2) fun v74 h75 =>
        cIn .i64 v74 fun n76 =>
        cl (rc md 33 [s7, (.int .i64 n76), s2] h75) fun v77 h78 =>
        cIn .i64 v77 fun n79 =>
        cl (rc md 45 [v5, s7] h78) fun v80 h81 =>
        cBn v80 fun b82 =>
        (bif wantV (.bool (!b82)) false then
        some (v5, h81)
        else some (undef, h81)).bind fun p83 =>
        (bif wantV (.bool (!b82)) false then
        cl (rc md 46 [p83.1] p83.2) fun v84 h85 =>
        cIn .i64 v84 fun n86 =>
        some ((.int .i64 n86), h85)
        else some (undef, p83.2)).bind fun p87 =>
        (bif wantV (.bool (!b82)) false then
        some ((.func (.func 50) #[] #[s11, s10, s3]), p87.2)
        else some (undef, p87.2)).bind fun p88 =>
        (bif wantV (.bool (!b82)) false then
        some (s2, p88.2)
        else some (undef, p88.2)).bind fun p89 =>
        (bif wantV (.bool (!b82)) false then
        clV rc md p88.1 [p89.1] p89.2 fun v90 h91 =>
        cIn .i64 v90 fun n92 =>
        some ((.int .i64 n92), h91)
        else some (undef, p89.2)).bind fun p93 =>
        (bif wantV (.bool (!b82)) false then
        aBin Try.prog .neq 3 p87.1 p93.1 fun v94 =>
        some (v94, p93.2)
        else some (undef, p93.2)).bind fun p95 =>
        cBn (bif !b82 then (.bool true) else p95.1) fun b96 =>
        bif b96 then
          some ((.bool false), List.take h0.length p95.2)
        else
          J9_1 rc md h0 s1 s7 s10 s11 (.func (.func 50) #[] #[s11, s10, s3]) v5 p95.2
      else
        J9_1 rc md h0 s1 s7 s10 s11 (.func (.func 50) #[] #[s11, s10, s3]) v5 p68.2
noncomputable def J9_0H (rc : Rec) (md : Md) (h0 : Heap) (X0 : T → Heap → Option (Value × Heap)) (t : T) (h : Heap) : Option (Value × Heap) :=
  ldN 3 (t 9) h fun v1 =>
  cl (rc md 34 [(.int .i64 0)] h) fun v2 h3 =>
  cIn .i64 v2 fun n4 =>
  cl (rc md 44 [v1, (.int .i64 n4)] h3) fun v5 h6 =>
  aBin Try.prog .eql 87 v5 (.pointer none) fun v7 =>
  (bif wantV v7 false then
  some (v5, h6)
  else some (undef, h6)).bind fun p8 =>
  (bif wantV v7 false then
  cl (rc md 52 [p8.1] p8.2) fun v9 h10 =>
  cBn v9 fun b11 =>
  some ((.bool b11), h10)
  else some (undef, p8.2)).bind fun p12 =>
  cBn v7 fun q13 =>
  cBn (bif q13 then (.bool true) else p12.1) fun b14 =>
  (bif wantV (.bool b14) false then
  some (v5, p12.2)
  else some (undef, p12.2)).bind fun p15 =>
  (bif wantV (.bool b14) false then
  cl (rc md 46 [p15.1] p15.2) fun v16 h17 =>
  cIn .i64 v16 fun n18 =>
  some ((.int .i64 n18), h17)
  else some (undef, p15.2)).bind fun p19 =>
  (bif wantV (.bool b14) false then
  aBin Try.prog .neq 3 p19.1 (.int .i64 0) fun v20 =>
  some (v20, p19.2)
  else some (undef, p19.2)).bind fun p21 =>
  cBn (bif b14 then (.bool true) else p21.1) fun b22 =>
  (bif wantV (.bool b22) false then
  ldN 1 (t 8) p21.2 fun v23 =>
  some (v23, p21.2)
  else some (undef, p21.2)).bind fun p24 =>
  (bif wantV (.bool b22) false then
  some ((.iface 31 p24.1), p24.2)
  else some (undef, p24.2)).bind fun p25 =>
  (bif wantV (.bool b22) false then
  ldN 3 (t 9) p25.2 fun v26 =>
  some (v26, p25.2)
  else some (undef, p25.2)).bind fun p27 =>
  (bif wantV (.bool b22) false then
  cl (rc md 34 [(.int .i64 0)] p27.2) fun v28 h29 =>
  cIn .i64 v28 fun n30 =>
  some ((.int .i64 n30), h29)
  else some (undef, p27.2)).bind fun p31 =>
  (bif wantV (.bool b22) false then
  cl (rc md 41 [p25.1, p27.1, p31.1] p31.2) fun v32 h33 =>
  cIn .i64 v32 fun n34 =>
  some ((.int .i64 n34), h33)
  else some (undef, p31.2)).bind fun p35 =>
  (bif wantV (.bool b22) false then
  some ((.func (.func 50) #[] #[(t 11), (t 10), (t 3)]), p35.2)
  else some (undef, p35.2)).bind fun p36 =>
  (bif wantV (.bool b22) false then
  some ((t 1), p36.2)
  else some (undef, p36.2)).bind fun p37 =>
  (bif wantV (.bool b22) false then
  clV rc md p36.1 [p37.1] p37.2 fun v38 h39 =>
  cIn .i64 v38 fun n40 =>
  some ((.int .i64 n40), h39)
  else some (undef, p37.2)).bind fun p41 =>
  (bif wantV (.bool b22) false then
  aBin Try.prog .neq 3 p35.1 p41.1 fun v42 =>
  some (v42, p41.2)
  else some (undef, p41.2)).bind fun p43 =>
  cBn (bif b22 then (.bool true) else p43.1) fun b44 =>
  bif b44 then
    some ((.bool false), List.take h0.length p43.2)
  else
    cl (rc md 45 [v5, (t 7)] p43.2) fun v45 h46 =>
    cBn v45 fun b47 =>
    ld1 (t 11) h46 fun v48 =>
    cBn v48 fun b49 =>
    cLE true (fun hq => ld1 (t 11) hq some) (.bool b49) p43.2 h46 <|
    (bif wantV (.bool (!b49)) false then
    fA 2 (t 10) fun v50 =>
    some (v50, h46)
    else some (undef, h46)).bind fun p51 =>
    (bif wantV (.bool (!b49)) false then
    ld1 p51.1 p51.2 fun v52 =>
    cIn .i64 v52 fun n53 =>
    some ((.int .i64 n53), p51.2)
    else some (undef, p51.2)).bind fun p54 =>
    (bif wantV (.bool (!b49)) false then
    aBin Try.prog .eql 3 p54.1 (.int .i64 0) fun v55 =>
    some (v55, p54.2)
    else some (undef, p54.2)).bind fun p56 =>
    cBn (bif !b49 then (.bool true) else p56.1) fun b57 =>
    aBin Try.prog .neq 4 (.bool b47) (.bool b57) fun v58 =>
    cBn v58 fun b59 =>
    bif b59 then
      some ((.bool false), List.take h0.length p56.2)
    else
      ld1 (t 11) p56.2 fun v60 =>
      cBn v60 fun b61 =>
      (bif wantV (.bool b61) true then
      fA 2 (t 10) fun v62 =>
      some (v62, p56.2)
      else some (undef, p56.2)).bind fun p63 =>
      (bif wantV (.bool b61) true then
      ld1 p63.1 p63.2 fun v64 =>
      cIn .i64 v64 fun n65 =>
      some ((.int .i64 n65), p63.2)
      else some (undef, p63.2)).bind fun p66 =>
      (bif wantV (.bool b61) true then
      aBin Try.prog .gtr 3 p66.1 (.int .i64 0) fun v67 =>
      some (v67, p66.2)
      else some (undef, p66.2)).bind fun p68 =>
      cBn (bif b61 then p68.1 else (.bool false)) fun b69 =>
      bif b69 then
        ldN 3 (t 9) p68.2 fun v70 =>
        fA 2 (t 10) fun v71 =>
        ld1 v71 p68.2 fun v72 =>
        cIn .i64 v72 fun n73 =>
        cl (rc md 49 [v70, (.int .i64 n73)] p68.2) fun v74 h75 =>
        cIn .i64 v74 fun n76 =>
        cl (rc md 33 [(t 7), (.int .i64 n76), (t 2)] h75) fun v77 h78 =>
        cIn .i64 v77 fun n79 =>
        cl (rc md 45 [v5, (t 7)] h78) fun v80 h81 =>
        cBn v80 fun b82 =>
        (bif wantV (.bool (!b82)) false then
        some (v5, h81)
        else some (undef, h81)).bind fun p83 =>
        (bif wantV (.bool (!b82)) false then
        cl (rc md 46 [p83.1] p83.2) fun v84 h85 =>
        cIn .i64 v84 fun n86 =>
        some ((.int .i64 n86), h85)
        else some (undef, p83.2)).bind fun p87 =>
        (bif wantV (.bool (!b82)) false then
        some ((.func (.func 50) #[] #[(t 11), (t 10), (t 3)]), p87.2)
        else some (undef, p87.2)).bind fun p88 =>
        (bif wantV (.bool (!b82)) false then
        some ((t 2), p88.2)
        else some (undef, p88.2)).bind fun p89 =>
        (bif wantV (.bool (!b82)) false then
        clV rc md p88.1 [p89.1] p89.2 fun v90 h91 =>
        cIn .i64 v90 fun n92 =>
        some ((.int .i64 n92), h91)
        else some (undef, p89.2)).bind fun p93 =>
        (bif wantV (.bool (!b82)) false then
        aBin Try.prog .neq 3 p87.1 p93.1 fun v94 =>
        some (v94, p93.2)
        else some (undef, p93.2)).bind fun p95 =>
        cBn (bif !b82 then (.bool true) else p95.1) fun b96 =>
        bif b96 then
          some ((.bool false), List.take h0.length p95.2)
        else
          X0 (upd (upd (upd (upd (upd (upd (upd (upd (upd (upd (upd (upd (upd (upd (upd (upd (upd (upd (upd (upd (upd (upd (upd (upd (upd (upd (upd (upd (upd (upd (upd (upd (upd (upd (upd (upd (upd (upd (upd (upd (upd (upd (upd (upd (upd (upd (upd (upd (upd (upd (upd (upd (upd (upd (upd (upd (upd (upd (upd (upd (upd (upd (upd (upd t 42 (.func (.func 50) #[] #[(t 11), (t 10), (t 3)])) 12 (.func (.func 50) #[] #[(t 11), (t 10), (t 3)])) 43 v1) 44 (.int .i64 n4)) 45 v5) 13 v5) 46 v5) 47 v7) 48 v7) 49 p8.1) 50 p12.1) 51 (.bool b14)) 52 (.bool b14)) 53 p15.1) 54 p19.1) 55 p21.1) 56 (.bool b22)) 57 (.bool b22)) 58 p24.1) 59 p25.1) 60 p27.1) 61 p31.1) 62 p35.1) 63 p36.1) 64 p37.1) 65 p41.1) 66 p43.1) 67 (.bool b44)) 68 v5) 69 (t 7)) 70 (.bool b47)) 71 (.bool b49)) 72 (.bool (!b49))) 73 (.bool (!b49))) 74 p51.1) 75 p54.1) 76 p56.1) 77 (.bool b57)) 78 v58) 79 (.bool b61)) 80 (.bool b61)) 81 p63.1) 82 p66.1) 83 p68.1) 84 (.bool b69)) 85 (t 7)) 86 v70) 87 v71) 88 (.int .i64 n73)) 89 (.int .i64 n76)) 90 (t 2)) 91 (.int .i64 n79)) 92 v5) 93 (t 7)) 94 (.bool b82)) 95 (.bool (!b82))) 96 (.bool (!b82))) 97 p83.1) 98 p87.1) 99 p88.1) 100 p89.1) 101 p93.1) 102 p95.1) 103 (.bool b96)) p95.2
      else
        X0 (upd (upd (upd (upd (upd (upd (upd (upd (upd (upd (upd (upd (upd (upd (upd (upd (upd (upd (upd (upd (upd (upd (upd (upd (upd (upd (upd (upd (upd (upd (upd (upd (upd (upd (upd (upd (upd (upd (upd (upd (upd (upd (upd (upd (upd t 42 (.func (.func 50) #[] #[(t 11), (t 10), (t 3)])) 12 (.func (.func 50) #[] #[(t 11), (t 10), (t 3)])) 43 v1) 44 (.int .i64 n4)) 45 v5) 13 v5) 46 v5) 47 v7) 48 v7) 49 p8.1) 50 p12.1) 51 (.bool b14)) 52 (.bool b14)) 53 p15.1) 54 p19.1) 55 p21.1) 56 (.bool b22)) 57 (.bool b22)) 58 p24.1) 59 p25.1) 60 p27.1) 61 p31.1) 62 p35.1) 63 p36.1) 64 p37.1) 65 p41.1) 66 p43.1) 67 (.bool b44)) 68 v5) 69 (t 7)) 70 (.bool b47)) 71 (.bool b49)) 72 (.bool (!b49))) 73 (.bool (!b49))) 74 p51.1) 75 p54.1) 76 p56.1) 77 (.bool b57)) 78 v58) 79 (.bool b61)) 80 (.bool b61)) 81 p63.1) 82 p66.1) 83 p68.1) 84 (.bool b69)) p68.2
theorem J9_0_h1 (rc : Rec) (md : Md) (h0 : Heap) (X : Nat → T → Heap → Option (Value × Heap)) (t : T) (h : Heap) : execG Try.prog cfg X rc md 138 (sub (replS (bodyOf Try.prog 9) [([1, 1, 1, 1, 1, 1, 1, 1, 1, 1, 1, 1, 1], 0)]) [1, 1, 1, 1, 1, 1, 1, 1]) (kAtG Try.prog cfg X rc md 138 (replS (bodyOf Try.prog 9) [([1, 1, 1, 1, 1, 1, 1, 1, 1, 1, 1, 1, 1], 0)]) [1, 1, 1, 1, 1, 1, 1, 1] (retK Try.prog cfg 9 (rsOf Try.prog 9) h0)) t h = J9_0H rc md h0 (X 0) t h := by kernel_rfl
theorem J9_0_h2 (rc : Rec) (md : Md) (h0 : Heap) (t : T) (h : Heap) : J9_0H rc md h0 (fun t h => J9_1 rc md h0 (t 1) (t 7) (t 10) (t 11) (t 12) (t 13) h) t h = J9_0 rc md h0 (t 1) (t 2) (t 3) (t 7) (t 8) (t 9) (t 10) (t 11) h := by (unfold J9_0H J9_0; kernel_rfl)
theorem J9_0_at (rc : Rec) (md : Md) (h0 : Heap) (t : T) (h : Heap) : cut Try.prog cfg rc md 138 (bodyOf Try.prog 9) [1, 1, 1, 1, 1, 1, 1, 1] (retK Try.prog cfg 9 (rsOf Try.prog 9) h0) t h = J9_0 rc md h0 (t 1) (t 2) (t 3) (t 7) (t 8) (t 9) (t 10) (t 11) h := by
  rw [cut_holes [([1, 1, 1, 1, 1, 1, 1, 1, 1, 1, 1, 1, 1], 0)] [1, 1, 1, 1, 1, 1, 1, 1] (by kernel_rfl), J9_0_h1, show (goX Try.prog cfg rc md 138 (bodyOf Try.prog 9) [([1, 1, 1, 1, 1, 1, 1, 1, 1, 1, 1, 1, 1], 0)] (retK Try.prog cfg 9 (rsOf Try.prog 9) h0)) 0 = _ from J9_1_cut rc md h0]
  exact J9_0_h2 rc md h0 t h
theorem J9_0_cut (rc : Rec) (md : Md) (h0 : Heap) : cut Try.prog cfg rc md 138 (bodyOf Try.prog 9) [1, 1, 1, 1, 1, 1, 1, 1] (retK Try.prog cfg 9 (rsOf Try.prog 9) h0) = fun t h => J9_0 rc md h0 (t 1) (t 2) (t 3) (t 7) (t 8) (t 9) (t 10) (t 11) h := funext fun t => funext fun h => J9_0_at rc md h0 t h
noncomputable def F9 (rc : Rec) (md : Md) (a0 : Int) (a1 : Int) (a2 : Int) (h0 : Heap) : Option (Value × Heap) :=
  let h1 : Heap := h0 ++ [.own [(.int .u64 a0)]]
  cl (rc md 31 [] h1) fun v2 h3 =>
  aBin Try.prog .eql 26 v2 (.pointer none) fun v4 =>
  cBn v4 fun b5 =>
  bif b5 then
    some ((.bool false), List.take h0.length h3)
  else
    cl (rc md 19 [v2] h3) fun v6 h7 =>
    cl (rc md 32 [] h7) fun v8 h9 =>
    let h10 : Heap := h9 ++ [.own [(.pointer none)]]
    let h11 : Heap := h10 ++ [.own [(.int .i64 0), (.int .i64 0), (.int .i64 0)]]
    st md 1 (.pointer (some ⟨h9.length, 0, none⟩)) v6 h11 fun h12 =>
    st md 3 (.pointer (some ⟨h10.length, 0, none⟩)) v8 h12 fun h13 =>
    cl (rc md 34 [(.int .i64 0)] h13) fun v14 h15 =>
    cIn .i64 v14 fun n16 =>
    ld1 (.pointer (some ⟨h0.length, 0, none⟩)) h15 fun v17 =>
    cIn .u64 v17 fun n18 =>
    cl (rc md 33 [v2, (.int .i64 n16), (.int .u64 n18)] h15) fun v19 h20 =>
    cIn .i64 v19 fun n21 =>
    ld1 (.pointer (some ⟨h0.length, 0, none⟩)) h20 fun v22 =>
    cIn .u64 v22 fun n23 =>
    cl (rc md 47 [(.int .u64 n23)] h20) fun v24 h25 =>
    let h26 : Heap := h25 ++ [.own [(.int .i64 0), (.int .i64 0), (.int .i64 0), (.int .i64 0)]]
    st md 4 (.pointer (some ⟨h25.length, 0, none⟩)) v24 h26 fun h27 =>
    ldN 4 (.pointer (some ⟨h25.length, 0, none⟩)) h27 fun v28 =>
    cl (rc md 48 [v28] h27) fun v29 h30 =>
    cBn v29 fun b31 =>
    let h32 : Heap := h30 ++ [.own [(.bool false)]]
    st md 1 (.pointer (some ⟨h30.length, 0, none⟩)) (.bool b31) h32 fun h33 =>
    ld1 (.pointer (some ⟨h30.length, 0, none⟩)) h33 fun v34 =>
    cBn v34 fun b35 =>
    (bif wantV (.bool b35) true then
    some ((.pointer (some ⟨h25.length, 2, none⟩)), h33)
    else some (undef, h33)).bind fun p36 =>
    (bif wantV (.bool b35) true then
    ld1 p36.1 p36.2 fun v37 =>
    cIn .i64 v37 fun n38 =>
    some ((.int .i64 n38), p36.2)
    else some (undef, p36.2)).bind fun p39 =>
    (bif wantV (.bool b35) true then
    aBin Try.prog .gtr 3 p39.1 (.int .i64 0) fun v40 =>
    some (v40, p39.2)
    else some (undef, p39.2)).bind fun p41 =>
    cBn (bif b35 then p41.1 else (.bool false)) fun b42 =>
    bif b42 then
      ldN 3 (.pointer (some ⟨h10.length, 0, none⟩)) p41.2 fun v43 =>
      ld1 (.pointer (some ⟨h25.length, 2, none⟩)) p41.2 fun v44 =>
      cIn .i64 v44 fun n45 =>
      cl (rc md 49 [v43, (.int .i64 n45)] p41.2) fun v46 h47 =>
      cIn .i64 v46 fun n48 =>
      cl (rc md 33 [v2, (.int .i64 n48), (.int .u64 a1)] h47) fun v49 h50 =>
      cIn .i64 v49 fun n51 =>
      J9_0 rc md h0 (.int .u64 a1) (.int .u64 a2) (.pointer (some ⟨h0.length, 0, none⟩)) v2 (.pointer (some ⟨h9.length, 0, none⟩)) (.pointer (some ⟨h10.length, 0, none⟩)) (.pointer (some ⟨h25.length, 0, none⟩)) (.pointer (some ⟨h30.length, 0, none⟩)) h50
    else
      J9_0 rc md h0 (.int .u64 a1) (.int .u64 a2) (.pointer (some ⟨h0.length, 0, none⟩)) v2 (.pointer (some ⟨h9.length, 0, none⟩)) (.pointer (some ⟨h10.length, 0, none⟩)) (.pointer (some ⟨h25.length, 0, none⟩)) (.pointer (some ⟨h30.length, 0, none⟩)) p41.2
noncomputable def F9H (rc : Rec) (md : Md) (X1 : T → Heap → Option (Value × Heap)) (a0 : Int) (a1 : Int) (a2 : Int) (h0 : Heap) : Option (Value × Heap) :=
  let h1 : Heap := h0 ++ [.own [(.int .u64 a0)]]
  cl (rc md 31 [] h1) fun v2 h3 =>
  aBin Try.prog .eql 26 v2 (.pointer none) fun v4 =>
  cBn v4 fun b5 =>
  bif b5 then
    some ((.bool false), List.take h0.length h3)
  else
    cl (rc md 19 [v2] h3) fun v6 h7 =>
    cl (rc md 32 [] h7) fun v8 h9 =>
    let h10 : Heap := h9 ++ [.own [(.pointer none)]]
    let h11 : Heap := h10 ++ [.own [(.int .i64 0), (.int .i64 0), (.int .i64 0)]]
    st md 1 (.pointer (some ⟨h9.length, 0, none⟩)) v6 h11 fun h12 =>
    st md 3 (.pointer (some ⟨h10.length, 0, none⟩)) v8 h12 fun h13 =>
    cl (rc md 34 [(.int .i64 0)] h13) fun v14 h15 =>
    cIn .i64 v14 fun n16 =>
    ld1 (.pointer (some ⟨h0.length, 0, none⟩)) h15 fun v17 =>
    cIn .u64 v17 fun n18 =>
    cl (rc md 33 [v2, (.int .i64 n16), (.int .u64 n18)] h15) fun v19 h20 =>
    cIn .i64 v19 fun n21 =>
    ld1 (.pointer (some ⟨h0.length, 0, none⟩)) h20 fun v22 =>
    cIn .u64 v22 fun n23 =>
    cl (rc md 47 [(.int .u64 n23)] h20) fun v24 h25 =>
    let h26 : Heap := h25 ++ [.own [(.int .i64 0), (.int .i64 0), (.int .i64 0), (.int .i64 0)]]
    st md 4 (.pointer (some ⟨h25.length, 0, none⟩)) v24 h26 fun h27 =>
    ldN 4 (.pointer (some ⟨h25.length, 0, none⟩)) h27 fun v28 =>
    cl (rc md 48 [v28] h27) fun v29 h30 =>
    cBn v29 fun b31 =>
    let h32 : Heap := h30 ++ [.own [(.bool false)]]
    st md 1 (.pointer (some ⟨h30.length, 0, none⟩)) (.bool b31) h32 fun h33 =>
    ld1 (.pointer (some ⟨h30.length, 0, none⟩)) h33 fun v34 =>
    cBn v34 fun b35 =>
    (bif wantV (.bool b35) true then
    some ((.pointer (some ⟨h25.length, 2, none⟩)), h33)
    else some (undef, h33)).bind fun p36 =>
    (bif wantV (.bool b35) true then
    ld1 p36.1 p36.2 fun v37 =>
    cIn .i64 v37 fun n38 =>
    some ((.int .i64 n38), p36.2)
    else some (undef, p36.2)).bind fun p39 =>
    (bif wantV (.bool b35) true then
    aBin Try.prog .gtr 3 p39.1 (.int .i64 0) fun v40 =>
    some (v40, p39.2)
    else some (undef, p39.2)).bind fun p41 =>
    cBn (bif b35 then p41.1 else (.bool false)) fun b42 =>
    bif b42 then
      ldN 3 (.pointer (some ⟨h10.length, 0, none⟩)) p41.2 fun v43 =>
      ld1 (.pointer (some ⟨h25.length, 2, none⟩)) p41.2 fun v44 =>
      cIn .i64 v44 fun n45 =>
      cl (rc md 49 [v43, (.int .i64 n45)] p41.2) fun v46 h47 =>
      cIn .i64 v46 fun n48 =>
      cl (rc md 33 [v2, (.int .i64 n48), (.int .u64 a1)] h47) fun v49 h50 =>
      cIn .i64 v49 fun n51 =>
      X1 (upd (upd (upd (upd (upd (upd (upd (upd (upd (upd (upd (upd (upd (upd (upd (upd (upd (upd (upd (upd (upd (upd (upd (upd (upd (upd (upd (upd (upd (upd (upd (upd (upd (upd (args0 [(.int .u64 a0), (.int .u64 a1), (.int .u64 a2)]) 3 (.pointer (some ⟨h0.length, 0, none⟩))) 6 (.bool false)) 15 v2) 7 v2) 16 v2) 17 v4) 18 v2) 19 v6) 20 v8) 8 (.pointer (some ⟨h9.length, 0, none⟩))) 9 (.pointer (some ⟨h10.length, 0, none⟩))) 21 v2) 22 (.int .i64 n16)) 23 (.int .u64 n18)) 24 (.int .i64 n21)) 25 (.int .u64 n23)) 26 v24) 10 (.pointer (some ⟨h25.length, 0, none⟩))) 27 v28) 28 (.bool b31)) 11 (.pointer (some ⟨h30.length, 0, none⟩))) 29 (.bool b35)) 30 (.bool b35)) 31 p36.1) 32 p39.1) 33 p41.1) 34 (.bool b42)) 35 v2) 36 v43) 37 (.pointer (some ⟨h25.length, 2, none⟩))) 38 (.int .i64 n45)) 39 (.int .i64 n48)) 40 (.int .u64 a1)) 41 (.int .i64 n51)) h50
    else
      X1 (upd (upd (upd (upd (upd (upd (upd (upd (upd (upd (upd (upd (upd (upd (upd (upd (upd (upd (upd (upd (upd (upd (upd (upd (upd (upd (upd (args0 [(.int .u64 a0), (.int .u64 a1), (.int .u64 a2)]) 3 (.pointer (some ⟨h0.length, 0, none⟩))) 6 (.bool false)) 15 v2) 7 v2) 16 v2) 17 v4) 18 v2) 19 v6) 20 v8) 8 (.pointer (some ⟨h9.length, 0, none⟩))) 9 (.pointer (some ⟨h10.length, 0, none⟩))) 21 v2) 22 (.int .i64 n16)) 23 (.int .u64 n18)) 24 (.int .i64 n21)) 25 (.int .u64 n23)) 26 v24) 10 (.pointer (some ⟨h25.length, 0, none⟩))) 27 v28) 28 (.bool b31)) 11 (.pointer (some ⟨h30.length, 0, none⟩))) 29 (.bool b35)) 30 (.bool b35)) 31 p36.1) 32 p39.1) 33 p41.1) 34 (.bool b42)) p41.2
theorem F9_h0 (rc : Rec) (md : Md) (a0 : Int) (a1 : Int) (a2 : Int) (h0 : Heap) : callStep0 Try.prog cfg rc md 9 [(.int .u64 a0), (.int .u64 a1), (.int .u64 a2)] h0 = exec Try.prog cfg rc ⟨md.ro, h0.length⟩ 138 (bodyOf Try.prog 9) (retK Try.prog cfg 9 (rsOf Try.prog 9) h0) (args0 [(.int .u64 a0), (.int .u64 a1), (.int .u64 a2)]) h0 := callStep0_run (by kernel_rfl) (by kernel_rfl) (by kernel_rfl)
theorem F9_h1 (rc : Rec) (md : Md) (X : Nat → T → Heap → Option (Value × Heap)) (a0 : Int) (a1 : Int) (a2 : Int) (h0 : Heap) : execG Try.prog cfg X rc md 138 (replS (bodyOf Try.prog 9) [([1, 1, 1, 1, 1, 1, 1, 1, 1, 1, 1, 1, 1], 0), ([1, 1, 1, 1, 1, 1, 1, 1], 1)]) (retK Try.prog cfg 9 (rsOf Try.prog 9) h0) (args0 [(.int .u64 a0), (.int .u64 a1), (.int .u64 a2)]) h0 = F9H rc md (X 1) a0 a1 a2 h0 := by kernel_rfl
theorem F9_h2 (rc : Rec) (md : Md) (a0 : Int) (a1 : Int) (a2 : Int) (h0 : Heap) : F9H rc md (fun t h => J9_0 rc md h0 (t 1) (t 2) (t 3) (t 7) (t 8) (t 9) (t 10) (t 11) h) a0 a1 a2 h0 = F9 rc md a0 a1 a2 h0 := by unfold F9H F9; kernel_rfl
theorem F9_eq0 (rc : Rec) (md : Md) (a0 : Int) (a1 : Int) (a2 : Int) (h0 : Heap) : callStep0 Try.prog cfg rc md 9 [(.int .u64 a0), (.int .u64 a1), (.int .u64 a2)] h0 = F9 rc ⟨md.ro, h0.length⟩ a0 a1 a2 h0 := by
  rw [F9_h0, exec_holes [([1, 1, 1, 1, 1, 1, 1, 1, 1, 1, 1, 1, 1], 0), ([1, 1, 1, 1, 1, 1, 1, 1], 1)] (by kernel_rfl), F9_h1, show (goX Try.prog cfg rc ⟨md.ro, h0.length⟩ 138 (bodyOf Try.prog 9) [([1, 1, 1, 1, 1, 1, 1, 1, 1, 1, 1, 1, 1], 0), ([1, 1, 1, 1, 1, 1, 1, 1], 1)] (retK Try.prog cfg 9 (rsOf Try.prog 9) h0)) 1 = _ from J9_0_cut rc ⟨md.ro, h0.length⟩ h0]
  exact F9_h2 rc _ a0 a1 a2 h0
theorem F9_eq (rc : Rec) (md : Md) (a0 : Int) (a1 : Int) (a2 : Int) (h0 : Heap) : callStep Try.prog cfg rc md 9 [(.int .u64 a0), (.int .u64 a1), (.int .u64 a2)] h0 = F9 rc ⟨md.ro, h0.length⟩ a0 a1 a2 h0 := (callStep_ne (by kernel_rfl)).trans (F9_eq0 rc md a0 a1 a2 h0)

/-- tombolo/tombololaw08.PtrWrites -/
noncomputable def J10_0 (rc : Rec) (md : Md) (h0 : Heap) (s1 : Value) (s2 : Value) (s7 : Value) (s8 : Value) (s9 : Value) (s10 : Value) (s12 : Value) (s13 : Value) (s16 : Value) (h : Heap) : Option (Value × Heap) :=
  aBuild Try.prog 92 [(0, s16), (1, s1), (2, (.int .i64 3)), (3, s2)] fun v1 =>
  cl (rc md 54 [v1] h) fun v2 h3 =>
  cIn .u64 v2 fun n4 =>
  aBin Try.prog .neq 64 s13 (.int .u64 n4) fun v5 =>
  cBn v5 fun b6 =>
  bif b6 then
    some ((.bool false), List.take h0.length h3)
  else
    ldN 2 s10 h3 fun v7 =>
    ldN 1 s8 h3 fun v8 =>
    cl (rc md 34 [(.int .i64 1)] h3) fun v9 h10 =>
    cIn .i64 v9 fun n11 =>
    cl (rc md 39 [v7, (.iface 31 v8), (.int .i64 n11)] h10) fun v12 h13 =>
    ldN 2 s10 h13 fun v14 =>
    ldN 1 s8 h13 fun v15 =>
    ldN 3 s9 h13 fun v16 =>
    cl (rc md 36 [v14, (.iface 31 v15), v16] h13) fun v17 h18 =>
    ldN 3 s9 h18 fun v19 =>
    cl (rc md 49 [v19, (.int .i64 3)] h18) fun v20 h21 =>
    cIn .i64 v20 fun n22 =>
    cl (rc md 53 [s7, (.int .i64 n22)] h21) fun v23 h24 =>
    exT v23 0 fun v25 =>
    cIn .u64 v25 fun n26 =>
    exT v23 1 fun v27 =>
    cIn .i64 v27 fun n28 =>
    ldN 2 s10 h24 fun v29 =>
    ldN 1 s8 h24 fun v30 =>
    ldN 3 s9 h24 fun v31 =>
    cl (rc md 38 [v29, (.iface 31 v30), v31] h24) fun v32 h33 =>
    ldN 3 s9 h33 fun v34 =>
    cl (rc md 49 [v34, (.int .i64 3)] h33) fun v35 h36 =>
    cIn .i64 v35 fun n37 =>
    cl (rc md 53 [s7, (.int .i64 n37)] h36) fun v38 h39 =>
    exT v38 0 fun v40 =>
    cIn .u64 v40 fun n41 =>
    exT v38 1 fun v42 =>
    cIn .i64 v42 fun n43 =>
    ldN 2 s10 h39 fun v44 =>
    ldN 1 s8 h39 fun v45 =>
    ldN 3 s9 h39 fun v46 =>
    cl (rc md 40 [v44, (.iface 31 v45), v46] h39) fun v47 h48 =>
    ldN 3 s9 h48 fun v49 =>
    cl (rc md 49 [v49, (.int .i64 3)] h48) fun v50 h51 =>
    cIn .i64 v50 fun n52 =>
    cl (rc md 53 [s7, (.int .i64 n52)] h51) fun v53 h54 =>
    exT v53 0 fun v55 =>
    cIn .u64 v55 fun n56 =>
    exT v53 1 fun v57 =>
    cIn .i64 v57 fun n58 =>
    cl (rc md 34 [(.int .i64 1)] h54) fun v59 h60 =>
    cIn .i64 v59 fun n61 =>
    cl (rc md 53 [s7, (.int .i64 n61)] h60) fun v62 h63 =>
    exT v62 0 fun v64 =>
    cIn .u64 v64 fun n65 =>
    exT v62 1 fun v66 =>
    cIn .i64 v66 fun n67 =>
    cl (rc md 29 [s7] h63) fun v68 h69 =>
    let h70 : Heap := h69 ++ [.own [(.int .i64 0), (.int .i64 0), (.int .i64 0), (.int .i64 0), (.int .i64 0)]]
    st md 5 (.pointer (some ⟨h69.length, 0, none⟩)) v68 h70 fun h71 =>
    cl (rc md 35 [s1] h71) fun v72 h73 =>
    cIn .u64 v72 fun n74 =>
    (bif wantV (.bool (n65 == n74)) true then
    some ((.int .u64 n26), h73)
    else some (undef, h73)).bind fun p75 =>
    (bif wantV (.bool (n65 == n74)) true then
    some (s2, p75.2)
    else some (undef, p75.2)).bind fun p76 =>
    (bif wantV (.bool (n65 == n74)) true then
    cl (rc md 55 [p76.1, (.bool false)] p76.2) fun v77 h78 =>
    cIn .u64 v77 fun n79 =>
    some ((.int .u64 n79), h78)
    else some (undef, p76.2)).bind fun p80 =>
    (bif wantV (.bool (n65 == n74)) true then
    aBin Try.prog .eql 64 p75.1 p80.1 fun v81 =>
    some (v81, p80.2)
    else some (undef, p80.2)).bind fun p82 =>
    cBn (bif (n65 == n74) then p82.1 else (.bool false)) fun b83 =>
    (bif wantV (.bool b83) true then
    some ((.int .u64 n41), p82.2)
    else some (undef, p82.2)).bind fun p84 =>
    (bif wantV (.bool b83) true then
    some (s2, p84.2)
    else some (undef, p84.2)).bind fun p85 =>
    (bif wantV (.bool b83) true then
    cl (rc md 55 [p85.1, (.bool true)] p85.2) fun v86 h87 =>
    cIn .u64 v86 fun n88 =>
    some ((.int .u64 n88), h87)
    else some (undef, p85.2)).bind fun p89 =>
    (bif wantV (.bool b83) true then
    aBin Try.prog .eql 64 p84.1 p89.1 fun v90 =>
    some (v90, p89.2)
    else some (undef, p89.2)).bind fun p91 =>
    cBn (bif b83 then p91.1 else (.bool false)) fun b92 =>
    (bif wantV (.bool b92) true then
    some ((.int .u64 n56), p91.2)
    else some (undef, p91.2)).bind fun p93 =>
    (bif wantV (.bool b92) true then
    some (s2, p93.2)
    else some (undef, p93.2)).bind fun p94 =>
    (bif wantV (.bool b92) true then
    aBin Try.prog .add 3 p94.1 (.int .i64 1) fun v95 =>
    some (v95, p94.2)
    else some (undef, p94.2)).bind fun p96 =>
    (bif wantV (.bool b92) true then
    cl (rc md 55 [p96.1, (.bool false)] p96.2) fun v97 h98 =>
    cIn .u64 v97 fun n99 =>
    some ((.int .u64 n99), h98)
    else some (undef, p96.2)).bind fun p100 =>
    (bif wantV (.bool b92) true then
    aBin Try.prog .eql 64 p93.1 p100.1 fun v101 =>
    some (v101, p100.2)
    else some (undef, p100.2)).bind fun p102 =>
    cBn (bif b92 then p102.1 else (.bool false)) fun b103 =>
    (bif wantV (.bool b103) true then
    some ((.pointer (some ⟨h69.length, 1, none⟩)), p102.2)
    else some (undef, p102.2)).bind fun p104 =>
    (bif wantV (.bool b103) true then
    ld1 p104.1 p104.2 fun v105 =>
    cIn .i64 v105 fun n106 =>
    some ((.int .i64 n106), p104.2)
    else some (undef, p104.2)).bind fun p107 =>
    (bif wantV (.bool b103) true then
    fA 1 s12 fun v108 =>
    some (v108, p107.2)
    else some (undef, p107.2)).bind fun p109 =>
    (bif wantV (.bool b103) true then
    ld1 p109.1 p109.2 fun v110 =>
    cIn .i64 v110 fun n111 =>
    some ((.int .i64 n111), p109.2)
    else some (undef, p109.2)).bind fun p112 =>
    (bif wantV (.bool b103) true then
    aBin Try.prog .add 3 p112.1 (.int .i64 5) fun v113 =>
    some (v113, p112.2)
    else some (undef, p112.2)).bind fun p114 =>
    (bif wantV (.bool b103) true then
    aBin Try.prog .eql 3 p107.1 p114.1 fun v115 =>
    some (v115, p114.2)
    else some (undef, p114.2)).bind fun p116 =>
    cBn (bif b103 then p116.1 else (.bool false)) fun b117 =>
    (bif wantV (.bool b117) true then
    cl (rc md 30 [] p116.2) fun v118 h119 =>
    cBn v118 fun b120 =>
    some ((.bool b120), h119)
    else some (undef, p116.2)).bind fun p121 =>
    cBn (bif b117 then p121.1 else (.bool false)) fun b122 =>
    some ((.bool b122), List.take h0.length p121.2)
theorem J10_0_at (rc : Rec) (md : Md) (h0 : Heap) (t : T) (h : Heap) : cut Try.prog cfg rc md 196 (bodyOf Try.prog 10) [1, 1, 1, 1, 1, 1, 1, 1, 1, 1, 1, 1, 1] (retK Try.prog cfg 10 (rsOf Try.prog 10) h0) t h = J10_0 rc md h0 (t 1) (t 2) (t 7) (t 8) (t 9) (t 10) (t 12) (t 13) (t 16) h := by kernel_rfl
theorem J10_0_cut (rc : Rec) (md : Md) (h0 : Heap) : cut Try.prog cfg rc md 196 (bodyOf Try.prog 10) [1, 1, 1, 1, 1, 1, 1, 1, 1, 1, 1, 1, 1] (retK Try.prog cfg 10 (rsOf Try.prog 10) h0) = fun t h => J10_0 rc md h0 (t 1) (t 2) (t 7) (t 8) (t 9) (t 10) (t 12) (t 13) (t 16) h := funext fun t => funext fun h => J10_0_at rc md h0 t h
noncomputable def F10 (rc : Rec) (md : Md) (a0 : Int) (a1 : Int) (a2 : Int) (h0 : Heap) : Option (Value × Heap) :=
  (bif wantV (.bool (decide (a1 < 0))) false then
  some ((.int .i64 a1), h0)
  else some (undef, h0)).bind fun p1 =>
  (bif wantV (.bool (decide (a1 < 0))) false then
  aBin Try.prog .gtr 3 p1.1 (.int .i64 65535) fun v2 =>
  some (v2, p1.2)
  else some (undef, p1.2)).bind fun p3 =>
  cBn (bif (decide (a1 < 0)) then (.bool true) else p3.1) fun b4 =>
  (bif wantV (.bool b4) false then
  some ((.int .i64 a2), p3.2)
  else some (undef, p3.2)).bind fun p5 =>
  (bif wantV (.bool b4) false then
  aBin Try.prog .lss 3 p5.1 (.int .i64 0) fun v6 =>
  some (v6, p5.2)
  else some (undef, p5.2)).bind fun p7 =>
  cBn (bif b4 then (.bool true) else p7.1) fun b8 =>
  (bif wantV (.bool b8) false then
  some ((.int .i64 a2), p7.2)
  else some (undef, p7.2)).bind fun p9 =>
  (bif wantV (.bool b8) false then
  aBin Try.prog .geq 3 p9.1 (.int .i64 16777215) fun v10 =>
  some (v10, p9.2)
  else some (undef, p9.2)).bind fun p11 =>
  cBn (bif b8 then (.bool true) else p11.1) fun b12 =>
  bif b12 then
    cl (rc md 30 [] p11.2) fun v13 h14 =>
    cBn v13 fun b15 =>
    some ((.bool b15), List.take h0.length h14)
  else
    cl (rc md 31 [] p11.2) fun v16 h17 =>
    aBin Try.prog .eql 26 v16 (.pointer none) fun v18 =>
    cBn v18 fun b19 =>
    bif b19 then
      some ((.bool false), List.take h0.length h17)
    else
      cl (rc md 19 [v16] h17) fun v20 h21 =>
      cl (rc md 32 [] h21) fun v22 h23 =>
      let h24 : Heap := h23 ++ [.own [(.pointer none)]]
      let h25 : Heap := h24 ++ [.own [(.int .i64 0), (.int .i64 0), (.int .i64 0)]]
      let h26 : Heap := h25 ++ [.own [(.int .i64 0), (.int .i64 0)]]
      st md 1 (.pointer (some ⟨h23.length, 0, none⟩)) v20 h26 fun h27 =>
      st md 3 (.pointer (some ⟨h24.length, 0, none⟩)) v22 h27 fun h28 =>
      st md 2 (.pointer (some ⟨h25.length, 0, none⟩)) (.agg #[(.int .i64 3), (.int .i64 a2)]) h28 fun h29 =>
      cl (rc md 34 [(.int .i64 1)] h29) fun v30 h31 =>
      cIn .i64 v30 fun n32 =>
      cl (rc md 33 [v16, (.int .i64 n32), (.int .u64 a0)] h31) fun v33 h34 =>
      cIn .i64 v33 fun n35 =>
      cl (rc md 47 [(.int .u64 a0)] h34) fun v36 h37 =>
      let h38 : Heap := h37 ++ [.own [(.int .i64 0), (.int .i64 0), (.int .i64 0), (.int .i64 0)]]
      st md 4 (.pointer (some ⟨h37.length, 0, none⟩)) v36 h38 fun h39 =>
      cl (rc md 29 [v16] h39) fun v40 h41 =>
      let h42 : Heap := h41 ++ [.own [(.int .i64 0), (.int .i64 0), (.int .i64 0), (.int .i64 0), (.int .i64 0)]]
      st md 5 (.pointer (some ⟨h41.length, 0, none⟩)) v40 h42 fun h43 =>
      ldN 2 (.pointer (some ⟨h25.length, 0, none⟩)) h43 fun v44 =>
      ldN 1 (.pointer (some ⟨h23.length, 0, none⟩)) h43 fun v45 =>
      cl (rc md 34 [(.int .i64 1)] h43) fun v46 h47 =>
      cIn .i64 v46 fun n48 =>
      cl (rc md 37 [v44, (.iface 31 v45), (.int .i64 n48), (.int .i64 a1)] h47) fun v49 h50 =>
      cl (rc md 34 [(.int .i64 1)] h50) fun v51 h52 =>
      cIn .i64 v51 fun n53 =>
      cl (rc md 53 [v16, (.int .i64 n53)] h52) fun v54 h55 =>
      exT v54 0 fun v56 =>
      cIn .u64 v56 fun n57 =>
      exT v54 1 fun v58 =>
      cIn .i64 v58 fun n59 =>
      ldN 4 (.pointer (some ⟨h37.length, 0, none⟩)) h55 fun v60 =>
      cl (rc md 48 [v60] h55) fun v61 h62 =>
      cBn v61 fun b63 =>
      bif !b63 then
        cl (rc md 29 [v16] h62) fun v64 h65 =>
        let h66 : Heap := h65 ++ [.own [(.int .i64 0), (.int .i64 0), (.int .i64 0), (.int .i64 0), (.int .i64 0)]]
        st md 5 (.pointer (some ⟨h65.length, 0, none⟩)) v64 h66 fun h67 =>
        (bif wantV (.bool (n57 == a0)) true then
        some ((.pointer (some ⟨h65.length, 1, none⟩)), h67)
        else some (undef, h67)).bind fun p68 =>
        (bif wantV (.bool (n57 == a0)) true then
        ld1 p68.1 p68.2 fun v69 =>
        cIn .i64 v69 fun n70 =>
        some ((.int .i64 n70), p68.2)
        else some (undef, p68.2)).bind fun p71 =>
        (bif wantV (.bool (n57 == a0)) true then
        some ((.pointer (some ⟨h41.length, 1, none⟩)), p71.2)
        else some (undef, p71.2)).bind fun p72 =>
        (bif wantV (.bool (n57 == a0)) true then
        ld1 p72.1 p72.2 fun v73 =>
        cIn .i64 v73 fun n74 =>
        some ((.int .i64 n74), p72.2)
        else some (undef, p72.2)).bind fun p75 =>
        (bif wantV (.bool (n57 == a0)) true then
        aBin Try.prog .eql 3 p71.1 p75.1 fun v76 =>
        some (v76, p75.2)
        else some (undef, p75.2)).bind fun p77 =>
        cBn (bif (n57 == a0) then p77.1 else (.bool false)) fun b78 =>
        (bif wantV (.bool b78) true then
        some ((.pointer (some ⟨h65.length, 0, none⟩)), p77.2)
        else some (undef, p77.2)).bind fun p79 =>
        (bif wantV (.bool b78) true then
        ld1 p79.1 p79.2 fun v80 =>
        cIn .i64 v80 fun n81 =>
        some ((.int .i64 n81), p79.2)
        else some (undef, p79.2)).bind fun p82 =>
        (bif wantV (.bool b78) true then
        some ((.pointer (some ⟨h41.length, 0, none⟩)), p82.2)
        else some (undef, p82.2)).bind fun p83 =>
        (bif wantV (.bool b78) true then
        ld1 p83.1 p83.2 fun v84 =>
        cIn .i64 v84 fun n85 =>
        some ((.int .i64 n85), p83.2)
        else some (undef, p83.2)).bind fun p86 =>
        (bif wantV (.bool b78) true then
        aBin Try.prog .add 3 p86.1 (.int .i64 2) fun v87 =>
        some (v87, p86.2)
        else some (undef, p86.2)).bind fun p88 =>
        (bif wantV (.bool b78) true then
        aBin Try.prog .eql 3 p82.1 p88.1 fun v89 =>
        some (v89, p88.2)
        else some (undef, p88.2)).bind fun p90 =>
        cBn (bif b78 then p90.1 else (.bool false)) fun b91 =>
        (bif wantV (.bool b91) true then
        cl (rc md 30 [] p90.2) fun v92 h93 =>
        cBn v92 fun b94 =>
        some ((.bool b94), h93)
        else some (undef, p90.2)).bind fun p95 =>
        cBn (bif b91 then p95.1 else (.bool false)) fun b96 =>
        some ((.bool b96), List.take h0.length p95.2)
      else
        ld1 (.pointer (some ⟨h37.length, 1, none⟩)) h62 fun v97 =>
        cIn .i64 v97 fun n98 =>
        ld1 (.pointer (some ⟨h37.length, 2, none⟩)) h62 fun v99 =>
        cIn .i64 v99 fun n100 =>
        (bif wantV (.bool (n100 == 3)) true then
        some ((.pointer (some ⟨h37.length, 3, none⟩)), h62)
        else some (undef, h62)).bind fun p101 =>
        (bif wantV (.bool (n100 == 3)) true then
        ld1 p101.1 p101.2 fun v102 =>
        cIn .i64 v102 fun n103 =>
        some ((.int .i64 n103), p101.2)
        else some (undef, p101.2)).bind fun p104 =>
        (bif wantV (.bool (n100 == 3)) true then
        some ((.int .i64 a2), p104.2)
        else some (undef, p104.2)).bind fun p105 =>
        (bif wantV (.bool (n100 == 3)) true then
        aBin Try.prog .eql 3 p104.1 p105.1 fun v106 =>
        some (v106, p105.2)
        else some (undef, p105.2)).bind fun p107 =>
        cBn (bif (n100 == 3) then p107.1 else (.bool false)) fun b108 =>
        bif b108 then
          ld1 (.pointer (some ⟨h37.length, 0, none⟩)) p107.2 fun v109 =>
          cIn .i64 v109 fun n110 =>
          J10_0 rc md h0 (.int .i64 a1) (.int .i64 a2) v16 (.pointer (some ⟨h23.length, 0, none⟩)) (.pointer (some ⟨h24.length, 0, none⟩)) (.pointer (some ⟨h25.length, 0, none⟩)) (.pointer (some ⟨h41.length, 0, none⟩)) (.int .u64 n57) (.int .i64 n110) p107.2
        else
          J10_0 rc md h0 (.int .i64 a1) (.int .i64 a2) v16 (.pointer (some ⟨h23.length, 0, none⟩)) (.pointer (some ⟨h24.length, 0, none⟩)) (.pointer (some ⟨h25.length, 0, none⟩)) (.pointer (some ⟨h41.length, 0, none⟩)) (.int .u64 n57) (.int .i64 n98) p107.2
noncomputable def F10H (rc : Rec) (md : Md) (X0 : T → Heap → Option (Value × Heap)) (a0 : Int) (a1 : Int) (a2 : Int) (h0 : Heap) : Option (Value × Heap) :=
  (bif wantV (.bool (decide (a1 < 0))) false then
  some ((.int .i64 a1), h0)
  else some (undef, h0)).bind fun p1 =>
  (bif wantV (.bool (decide (a1 < 0))) false then
  aBin Try.prog .gtr 3 p1.1 (.int .i64 65535) fun v2 =>
  some (v2, p1.2)
  else some (undef, p1.2)).bind fun p3 =>
  cBn (bif (decide (a1 < 0)) then (.bool true) else p3.1) fun b4 =>
  (bif wantV (.bool b4) false then
  some ((.int .i64 a2), p3.2)
  else some (undef, p3.2)).bind fun p5 =>
  (bif wantV (.bool b4) false then
  aBin Try.prog .lss 3 p5.1 (.int .i64 0) fun v6 =>
  some (v6, p5.2)
  else some (undef, p5.2)).bind fun p7 =>
  cBn (bif b4 then (.bool true) else p7.1) fun b8 =>
  (bif wantV (.bool b8) false then
  some ((.int .i64 a2), p7.2)
  else some (undef, p7.2)).bind fun p9 =>
  (bif wantV (.bool b8) false then
  aBin Try.prog .geq 3 p9.1 (.int .i64 16777215) fun v10 =>
  some (v10, p9.2)
  else some (undef, p9.2)).bind fun p11 =>
  cBn (bif b8 then (.bool true) else p11.1) fun b12 =>
  bif b12 then
    cl (rc md 30 [] p11.2) fun v13 h14 =>
    cBn v13 fun b15 =>
    some ((.bool b15), List.take h0.length h14)
  else
    cl (rc md 31 [] p11.2) fun v16 h17 =>
    aBin Try.prog .eql 26 v16 (.pointer none) fun v18 =>
    cBn v18 fun b19 =>
    bif b19 then
      some ((.bool false), List.take h0.length h17)
    else
      cl (rc md 19 [v16] h17) fun v20 h21 =>
      cl (rc md 32 [] h21) fun v22 h23 =>
      let h24 : Heap := h23 ++ [.own [(.pointer none)]]
      let h25 : Heap := h24 ++ [.own [(.int .i64 0), (.int .i64 0), (.int .i64 0)]]
      let h26 : Heap := h25 ++ [.own [(.int .i64 0), (.int .i64 0)]]
      st md 1 (.pointer (some ⟨h23.length, 0, none⟩)) v20 h26 fun h27 =>
      st md 3 (.pointer (some ⟨h24.length, 0, none⟩)) v22 h27 fun h28 =>
      st md 2 (.pointer (some ⟨h25.length, 0, none⟩)) (.agg #[(.int .i64 3), (.int .i64 a2)]) h28 fun h29 =>
      cl (rc md 34 [(.int .i64 1)] h29) fun v30 h31 =>
      cIn .i64 v30 fun n32 =>
      cl (rc md 33 [v16, (.int .i64 n32), (.int .u64 a0)] h31) fun v33 h34 =>
      cIn .i64 v33 fun n35 =>
      cl (rc md 47 [(.int .u64 a0)] h34) fun v36 h37 =>
      let h38 : Heap := h37 ++ [.own [(.int .i64 0), (.int .i64 0), (.int .i64 0), (.int .i64 0)]]
      st md 4 (.pointer (some ⟨h37.length, 0, none⟩)) v36 h38 fun h39 =>
      cl (rc md 29 [v16] h39) fun v40 h41 =>
      let h42 : Heap := h41 ++ [.own [(.int .i64 0), (.int .i64 0), (.int .i64 0), (.int .i64 0), (.int .i64 0)]]
      st md 5 (.pointer (some ⟨h41.length, 0, none⟩)) v40 h42 fun h43 =>
      ldN 2 (.pointer (some ⟨h25.length, 0, none⟩)) h43 fun v44 =>
      ldN 1 (.pointer (some ⟨h23.length, 0, none⟩)) h43 fun v45 =>
      cl (rc md 34 [(.int .i64 1)] h43) fun v46 h47 =>
      cIn .i64 v46 fun n48 =>
      cl (rc md 37 [v44, (.iface 31 v45), (.int .i64 n48), (.int .i64 a1)] h47) fun v49 h50 =>
      cl (rc md 34 [(.int .i64 1)] h50) fun v51 h52 =>
      cIn .i64 v51 fun n53 =>
      cl (rc md 53 [v16, (.int .i64 n53)] h52) fun v54 h55 =>
      exT v54 0 fun v56 =>
      cIn .u64 v56 fun n57 =>
      exT v54 1 fun v58 =>
      cIn .i64 v58 fun n59 =>
      ldN 4 (.pointer (some ⟨h37.length, 0, none⟩)) h55 fun v60 =>
      cl (rc md 48 [v60] h55) fun v61 h62 =>
      cBn v61 fun b63 =>
      bif !b63 then
        cl (rc md 29 [v16] h62) fun v64 h65 =>
        let h66 : Heap := h65 ++ [.own [(.int .i64 0), (.int .i64 0), (.int .i64 0), (.int .i64 0), (.int .i64 0)]]
        st md 5 (.pointer (some ⟨h65.length, 0, none⟩)) v64 h66 fun h67 =>
        (bif wantV (.bool (n57 == a0)) true then
        some ((.pointer (some ⟨h65.length, 1, none⟩)), h67)
        else some (undef, h67)).bind fun p68 =>
        (bif wantV (.bool (n57 == a0)) true then
        ld1 p68.1 p68.2 fun v69 =>
        cIn .i64 v69 fun n70 =>
        some ((.int .i64 n70), p68.2)
        else some (undef, p68.2)).bind fun p71 =>
        (bif wantV (.bool (n57 == a0)) true then
        some ((.pointer (some ⟨h41.length, 1, none⟩)), p71.2)
        else some (undef, p71.2)).bind fun p72 =>
        (bif wantV (.bool (n57 == a0)) true then
        ld1 p72.1 p72.2 fun v73 =>
        cIn .i64 v73 fun n74 =>
        some ((.int .i64 n74), p72.2)
        else some (undef, p72.2)).bind fun p75 =>
        (bif wantV (.bool (n57 == a0)) true then
        aBin Try.prog .eql 3 p71.1 p75.1 fun v76 =>
        some (v76, p75.2)
        else some (undef, p75.2)).bind fun p77 =>
        cBn (bif (n57 == a0) then p77.1 else (.bool false)) fun b78 =>
        (bif wantV (.bool b78) true then
        some ((.pointer (some ⟨h65.length, 0, none⟩)), p77.2)
        else some (undef, p77.2)).bind fun p79 =>
        (bif wantV (.bool b78) true then
        ld1 p79.1 p79.2 fun v80 =>
        cIn .i64 v80 fun n81 =>
        some ((.int .i64 n81), p79.2)
        else some (undef, p79.2)).bind fun p82 =>
        (bif wantV (.bool b78) true then
        some ((.pointer (some ⟨h41.length, 0, none⟩)), p82.2)
        else some (undef, p82.2)).bind fun p83 =>
        (bif wantV (.bool b78) true then
        ld1 p83.1 p83.2 fun v84 =>
        cIn .i64 v84 fun n85 =>
        some ((.int .i64 n85), p83.2)
        else some (undef, p83.2)).bind fun p86 =>
        (bif wantV (.bool b78) true then
        aBin Try.prog .add 3 p86.1 (.int .i64 2) fun v87 =>
        some (v87, p86.2)
        else some (undef, p86.2)).bind fun p88 =>
        (bif wantV (.bool b78) true then
        aBin Try.prog .eql 3 p82.1 p88.1 fun v89 =>
        some (v89, p88.2)
        else some (undef, p88.2)).bind fun p90 =>
        cBn (bif b78 then p90.1 else (.bool false)) fun b91 =>
        (bif wantV (.bool b91) true then
        cl (rc md 30 [] p90.2) fun v92 h93 =>
        cBn v92 fun b94 =>
        some ((.bool b94), h93)
        else some (undef, p90.2)).bind fun p95 =>
        cBn (bif b91 then p95.1 else (.bool false)) fun b96 =>
        some ((.bool b96), List.take h0.length p95.2)
      else
        ld1 (.pointer (some ⟨h37.length, 1, none⟩)) h62 fun v97 =>
        cIn .i64 v97 fun n98 =>
        ld1 (.pointer (some ⟨h37.length, 2, none⟩)) h62 fun v99 =>
        cIn .i64 v99 fun n100 =>
        (bif wantV (.bool (n100 == 3)) true then
        some ((.pointer (some ⟨h37.length, 3, none⟩)), h62)
        else some (undef, h62)).bind fun p101 =>
        (bif wantV (.bool (n100 == 3)) true then
        ld1 p101.1 p101.2 fun v102 =>
        cIn .i64 v102 fun n103 =>
        some ((.int .i64 n103), p101.2)
        else some (undef, p101.2)).bind fun p104 =>
        (bif wantV (.bool (n100 == 3)) true then
        some ((.int .i64 a2), p104.2)
        else some (undef, p104.2)).bind fun p105 =>
        (bif wantV (.bool (n100 == 3)) true then
        aBin Try.prog .eql 3 p104.1 p105.1 fun v106 =>
        some (v106, p105.2)
        else some (undef, p105.2)).bind fun p107 =>
        cBn (bif (n100 == 3) then p107.1 else (.bool false)) fun b108 =>
        bif b108 then
          ld1 (.pointer (some ⟨h37.length, 0, none⟩)) p107.2 fun v109 =>
          cIn .i64 v109 fun n110 =>
          X0 (upd (upd (upd (upd (upd (upd (upd (upd (upd (upd (upd (upd (upd (upd (upd (upd (upd (upd (upd (upd (upd (upd (upd (upd (upd (upd (upd (upd (upd (upd (upd (upd (upd (upd (upd (upd (upd (upd (upd (upd (upd (upd (upd (upd (upd (upd (upd (upd (upd (upd (upd (upd (upd (upd (upd (upd (upd (upd (upd (upd (upd (upd (upd (upd (upd (upd (upd (upd (upd (args0 [(.int .u64 a0), (.int .i64 a1), (.int .i64 a2)]) 6 (.bool false)) 24 (.int .i64 a1)) 25 (.bool (decide (a1 < 0)))) 26 (.bool (decide (a1 < 0)))) 27 p1.1) 28 p3.1) 29 (.bool b4)) 30 (.bool b4)) 31 p5.1) 32 p7.1) 33 (.bool b8)) 34 (.bool b8)) 35 p9.1) 36 p11.1) 37 (.bool b12)) 39 v16) 7 v16) 40 v16) 41 v18) 42 v16) 43 v20) 44 v22) 45 (.int .i64 a2)) 46 (.agg #[(.int .i64 3), (.int .i64 a2)])) 8 (.pointer (some ⟨h23.length, 0, none⟩))) 9 (.pointer (some ⟨h24.length, 0, none⟩))) 10 (.pointer (some ⟨h25.length, 0, none⟩))) 47 v16) 48 (.int .i64 n32)) 49 (.int .u64 a0)) 50 (.int .i64 n35)) 51 (.int .u64 a0)) 52 v36) 11 (.pointer (some ⟨h37.length, 0, none⟩))) 53 v16) 54 v40) 12 (.pointer (some ⟨h41.length, 0, none⟩))) 55 v44) 56 v45) 57 (.iface 31 v45)) 58 (.int .i64 n48)) 59 (.int .i64 a1)) 60 v49) 62 v16) 63 (.int .i64 n53)) 64 v54) 61 v54) 65 (.int .u64 n57)) 66 (.int .i64 n59)) 13 (.int .u64 n57)) 14 (.int .i64 n59)) 67 v60) 68 (.bool b63)) 69 (.bool (!b63))) 93 (.pointer (some ⟨h37.length, 1, none⟩))) 94 (.int .i64 n98)) 16 (.int .i64 n98)) 95 (.pointer (some ⟨h37.length, 2, none⟩))) 96 (.int .i64 n100)) 97 (.bool (n100 == 3))) 98 (.bool (n100 == 3))) 99 p101.1) 100 p104.1) 101 p105.1) 102 p107.1) 103 (.bool b108)) 104 (.pointer (some ⟨h37.length, 0, none⟩))) 105 (.int .i64 n110)) 16 (.int .i64 n110)) p107.2
        else
          X0 (upd (upd (upd (upd (upd (upd (upd (upd (upd (upd (upd (upd (upd (upd (upd (upd (upd (upd (upd (upd (upd (upd (upd (upd (upd (upd (upd (upd (upd (upd (upd (upd (upd (upd (upd (upd (upd (upd (upd (upd (upd (upd (upd (upd (upd (upd (upd (upd (upd (upd (upd (upd (upd (upd (upd (upd (upd (upd (upd (upd (upd (upd (upd (upd (upd (upd (args0 [(.int .u64 a0), (.int .i64 a1), (.int .i64 a2)]) 6 (.bool false)) 24 (.int .i64 a1)) 25 (.bool (decide (a1 < 0)))) 26 (.bool (decide (a1 < 0)))) 27 p1.1) 28 p3.1) 29 (.bool b4)) 30 (.bool b4)) 31 p5.1) 32 p7.1) 33 (.bool b8)) 34 (.bool b8)) 35 p9.1) 36 p11.1) 37 (.bool b12)) 39 v16) 7 v16) 40 v16) 41 v18) 42 v16) 43 v20) 44 v22) 45 (.int .i64 a2)) 46 (.agg #[(.int .i64 3), (.int .i64 a2)])) 8 (.pointer (some ⟨h23.length, 0, none⟩))) 9 (.pointer (some ⟨h24.length, 0, none⟩))) 10 (.pointer (some ⟨h25.length, 0, none⟩))) 47 v16) 48 (.int .i64 n32)) 49 (.int .u64 a0)) 50 (.int .i64 n35)) 51 (.int .u64 a0)) 52 v36) 11 (.pointer (some ⟨h37.length, 0, none⟩))) 53 v16) 54 v40) 12 (.pointer (some ⟨h41.length, 0, none⟩))) 55 v44) 56 v45) 57 (.iface 31 v45)) 58 (.int .i64 n48)) 59 (.int .i64 a1)) 60 v49) 62 v16) 63 (.int .i64 n53)) 64 v54) 61 v54) 65 (.int .u64 n57)) 66 (.int .i64 n59)) 13 (.int .u64 n57)) 14 (.int .i64 n59)) 67 v60) 68 (.bool b63)) 69 (.bool (!b63))) 93 (.pointer (some ⟨h37.length, 1, none⟩))) 94 (.int .i64 n98)) 16 (.int .i64 n98)) 95 (.pointer (some ⟨h37.length, 2, none⟩))) 96 (.int .i64 n100)) 97 (.bool (n100 == 3))) 98 (.bool (n100 == 3))) 99 p101.1) 100 p104.1) 101 p105.1) 102 p107.1) 103 (.bool b108)) p107.2
theorem F10_h0 (rc : Rec) (md : Md) (a0 : Int) (a1 : Int) (a2 : Int) (h0 : Heap) : callStep0 Try.prog cfg rc md 10 [(.int .u64 a0), (.int .i64 a1), (.int .i64 a2)] h0 = exec Try.prog cfg rc ⟨md.ro, h0.length⟩ 196 (bodyOf Try.prog 10) (retK Try.prog cfg 10 (rsOf Try.prog 10) h0) (args0 [(.int .u64 a0), (.int .i64 a1), (.int .i64 a2)]) h0 := callStep0_run (by kernel_rfl) (by kernel_rfl) (by kernel_rfl)
theorem F10_h1 (rc : Rec) (md : Md) (X : Nat → T → Heap → Option (Value × Heap)) (a0 : Int) (a1 : Int) (a2 : Int) (h0 : Heap) : execG Try.prog cfg X rc md 196 (replS (bodyOf Try.prog 10) [([1, 1, 1, 1, 1, 1, 1, 1, 1, 1, 1, 1, 1], 0)]) (retK Try.prog cfg 10 (rsOf Try.prog 10) h0) (args0 [(.int .u64 a0), (.int .i64 a1), (.int .i64 a2)]) h0 = F10H rc md (X 0) a0 a1 a2 h0 := by kernel_rfl
theorem F10_h2 (rc : Rec) (md : Md) (a0 : Int) (a1 : Int) (a2 : Int) (h0 : Heap) : F10H rc md (fun t h => J10_0 rc md h0 (t 1) (t 2) (t 7) (t 8) (t 9) (t 10) (t 12) (t 13) (t 16) h) a0 a1 a2 h0 = F10 rc md a0 a1 a2 h0 := by unfold F10H F10; kernel_rfl
theorem F10_eq0 (rc : Rec) (md : Md) (a0 : Int) (a1 : Int) (a2 : Int) (h0 : Heap) : callStep0 Try.prog cfg rc md 10 [(.int .u64 a0), (.int .i64 a1), (.int .i64 a2)] h0 = F10 rc ⟨md.ro, h0.length⟩ a0 a1 a2 h0 := by
  rw [F10_h0, exec_holes [([1, 1, 1, 1, 1, 1, 1, 1, 1, 1, 1, 1, 1], 0)] (by kernel_rfl), F10_h1, show (goX Try.prog cfg rc ⟨md.ro, h0.length⟩ 196 (bodyOf Try.prog 10) [([1, 1, 1, 1, 1, 1, 1, 1, 1, 1, 1, 1, 1], 0)] (retK Try.prog cfg 10 (rsOf Try.prog 10) h0)) 0 = _ from J10_0_cut rc ⟨md.ro, h0.length⟩ h0]
  exact F10_h2 rc _ a0 a1 a2 h0
theorem F10_eq (rc : Rec) (md : Md) (a0 : Int) (a1 : Int) (a2 : Int) (h0 : Heap) : callStep Try.prog cfg rc md 10 [(.int .u64 a0), (.int .i64 a1), (.int .i64 a2)] h0 = F10 rc ⟨md.ro, h0.length⟩ a0 a1 a2 h0 := (callStep_ne (by kernel_rfl)).trans (F10_eq0 rc md a0 a1 a2 h0)

/-- tombolo/mem.Of -/
noncomputable def F19 (rc : Rec) (md : Md) (a0 : Value) (h0 : Heap) : Option (Value × Heap) :=
  let h1 : Heap := h0 ++ [.own [(.pointer none)]]
  aBuild Try.prog 31 [(0, a0)] fun v2 =>
  st md 1 (.pointer (some ⟨h0.length, 0, none⟩)) v2 h1 fun h3 =>
  ldN 1 (.pointer (some ⟨h0.length, 0, none⟩)) h3 fun v4 =>
  fin2 h0 v4
theorem F19_eq0 (rc : Rec) (md : Md) (a0 : Value) (h0 : Heap) : callStep0 Try.prog cfg rc md 19 [a0] h0 = F19 rc ⟨h0.length, h0.length⟩ a0 h0 := by kernel_rfl
theorem F19_eq (rc : Rec) (md : Md) (a0 : Value) (h0 : Heap) : callStep Try.prog cfg rc md 19 [a0] h0 = F19 rc ⟨h0.length, h0.length⟩ a0 h0 := (callStep_ne (by kernel_rfl)).trans (F19_eq0 rc md a0 h0)

/-- tombolo/tomboloref05.Right -/
noncomputable def F26 (rc : Rec) (md : Md) (a0_0 : Int) (a0_1 : Int) (a0_2 : Int) (h0 : Heap) : Option (Value × Heap) :=
  let h1 : Heap := h0 ++ [.own [(.int .i64 a0_0), (.int .i64 a0_1), (.int .i64 a0_2)]]
  ld1 (.pointer (some ⟨h0.length, 0, none⟩)) h1 fun v2 =>
  cIn .i64 v2 fun n3 =>
  (bif wantV (.bool (decide (n3 ≥ 1))) true then
  some ((.pointer (some ⟨h0.length, 0, none⟩)), h1)
  else some (undef, h1)).bind fun p4 =>
  (bif wantV (.bool (decide (n3 ≥ 1))) true then
  ld1 p4.1 p4.2 fun v5 =>
  cIn .i64 v5 fun n6 =>
  some ((.int .i64 n6), p4.2)
  else some (undef, p4.2)).bind fun p7 =>
  (bif wantV (.bool (decide (n3 ≥ 1))) true then
  aBin Try.prog .leq 3 p7.1 (.int .i64 16) fun v8 =>
  some (v8, p7.2)
  else some (undef, p7.2)).bind fun p9 =>
  cBn (bif (decide (n3 ≥ 1)) then p9.1 else (.bool false)) fun b10 =>
  (bif wantV (.bool b10) true then
  some ((.pointer (some ⟨h0.length, 1, none⟩)), p9.2)
  else some (undef, p9.2)).bind fun p11 =>
  (bif wantV (.bool b10) true then
  ld1 p11.1 p11.2 fun v12 =>
  cIn .i64 v12 fun n13 =>
  some ((.int .i64 n13), p11.2)
  else some (undef, p11.2)).bind fun p14 =>
  (bif wantV (.bool b10) true then
  aBin Try.prog .geq 3 p14.1 (.int .i64 0) fun v15 =>
  some (v15, p14.2)
  else some (undef, p14.2)).bind fun p16 =>
  cBn (bif b10 then p16.1 else (.bool false)) fun b17 =>
  (bif wantV (.bool b17) true then
  some ((.pointer (some ⟨h0.length, 1, none⟩)), p16.2)
  else some (undef, p16.2)).bind fun p18 =>
  (bif wantV (.bool b17) true then
  ld1 p18.1 p18.2 fun v19 =>
  cIn .i64 v19 fun n20 =>
  some ((.int .i64 n20), p18.2)
  else some (undef, p18.2)).bind fun p21 =>
  (bif wantV (.bool b17) true then
  aBin Try.prog .leq 3 p21.1 (.int .i64 48) fun v22 =>
  some (v22, p21.2)
  else some (undef, p21.2)).bind fun p23 =>
  cBn (bif b17 then p23.1 else (.bool false)) fun b24 =>
  (bif wantV (.bool b24) true then
  some ((.pointer (some ⟨h0.length, 2, none⟩)), p23.2)
  else some (undef, p23.2)).bind fun p25 =>
  (bif wantV (.bool b24) true then
  ld1 p25.1 p25.2 fun v26 =>
  cIn .i64 v26 fun n27 =>
  some ((.int .i64 n27), p25.2)
  else some (undef, p25.2)).bind fun p28 =>
  (bif wantV (.bool b24) true then
  aBin Try.prog .geq 3 p28.1 (.int .i64 1) fun v29 =>
  some (v29, p28.2)
  else some (undef, p28.2)).bind fun p30 =>
  cBn (bif b24 then p30.1 else (.bool false)) fun b31 =>
  (bif wantV (.bool b31) true then
  some ((.pointer (some ⟨h0.length, 2, none⟩)), p30.2)
  else some (undef, p30.2)).bind fun p32 =>
  (bif wantV (.bool b31) true then
  ld1 p32.1 p32.2 fun v33 =>
  cIn .i64 v33 fun n34 =>
  some ((.int .i64 n34), p32.2)
  else some (undef, p32.2)).bind fun p35 =>
  (bif wantV (.bool b31) true then
  aBin Try.prog .leq 3 p35.1 (.int .i64 8) fun v36 =>
  some (v36, p35.2)
  else some (undef, p35.2)).bind fun p37 =>
  cBn (bif b31 then p37.1 else (.bool false)) fun b38 =>
  some ((.bool b38), h0)
theorem F26_eq0 (rc : Rec) (md : Md) (a0_0 : Int) (a0_1 : Int) (a0_2 : Int) (h0 : Heap) : callStep0 Try.prog cfg rc md 26 [(.agg #[(.int .i64 a0_0), (.int .i64 a0_1), (.int .i64 a0_2)])] h0 = F26 rc ⟨h0.length, h0.length⟩ a0_0 a0_1 a0_2 h0 := by kernel_rfl
theorem F26_eq (rc : Rec) (md : Md) (a0_0 : Int) (a0_1 : Int) (a0_2 : Int) (h0 : Heap) : callStep Try.prog cfg rc md 26 [(.agg #[(.int .i64 a0_0), (.int .i64 a0_1), (.int .i64 a0_2)])] h0 = alone h0 (F26 rc ⟨0, 0⟩ a0_0 a0_1 a0_2 []) := by
  have e : callStep Try.prog cfg rc md 26 [(.agg #[(.int .i64 a0_0), (.int .i64 a0_1), (.int .i64 a0_2)])] h0 = alone h0 (callStep0 Try.prog cfg rc ⟨0, 0⟩ 26 [(.agg #[(.int .i64 a0_0), (.int .i64 a0_1), (.int .i64 a0_2)])] []) := by kernel_rfl
  rw [e, F26_eq0]; rfl

/-- (*tombolo/cell.Arena).Counts -/
noncomputable def F29 (rc : Rec) (md : Md) (a0 : Value) (h0 : Heap) : Option (Value × Heap) :=
  let h1 : Heap := h0 ++ [.own [(.int .i64 0), (.int .i64 0), (.int .i64 0), (.int .i64 0), (.int .i64 0)]]
  bif okNil Try.prog a0 then
  fA 1 a0 fun v2 =>
  ldN 5 v2 h1 fun v3 =>
  st md 5 (.pointer (some ⟨h0.length, 0, none⟩)) v3 h1 fun h4 =>
  ldN 5 (.pointer (some ⟨h0.length, 0, none⟩)) h4 fun v5 =>
  fin2 h0 v5
  else none
theorem F29_eq0 (rc : Rec) (md : Md) (a0 : Value) (h0 : Heap) : callStep0 Try.prog cfg rc md 29 [a0] h0 = F29 rc ⟨h0.length, h0.length⟩ a0 h0 := by kernel_rfl
theorem F29_eq (rc : Rec) (md : Md) (a0 : Value) (h0 : Heap) : callStep Try.prog cfg rc md 29 [a0] h0 = F29 rc ⟨h0.length, h0.length⟩ a0 h0 := (callStep_ne (by kernel_rfl)).trans (F29_eq0 rc md a0 h0)

/-- tombolo/tombololaw08.begun -/
noncomputable def F31 (rc : Rec) (md : Md)  (h0 : Heap) : Option (Value × Heap) :=
  cl (rc md 32 [] h0) fun v1 h2 =>
  cl (rc md 70 [v1] h2) fun v3 h4 =>
  cIn .i64 v3 fun n5 =>
  cl (rc md 69 [(.int .i64 n5)] h4) fun v6 h7 =>
  exT v6 0 fun v8 =>
  exT v6 1 fun v9 =>
  cIn .i64 v9 fun n10 =>
  bif (n10 != 0) then
    some ((.pointer none), h7)
  else
    some (v8, h7)
theorem F31_eq0 (rc : Rec) (md : Md)  (h0 : Heap) : callStep0 Try.prog cfg rc md 31 [] h0 = F31 rc md  h0 := by kernel_rfl
theorem F31_eq (rc : Rec) (md : Md)  (h0 : Heap) : callStep Try.prog cfg rc md 31 [] h0 = F31 rc md  h0 := (callStep_ne (by kernel_rfl)).trans (F31_eq0 rc md  h0)

/-- tombolo/tombololaw08.small -/
noncomputable def F32 (rc : Rec) (md : Md)  (h0 : Heap) : Option (Value × Heap) :=
  let h1 : Heap := h0 ++ [.own [(.int .i64 0), (.int .i64 0), (.int .i64 0)]]
  st md 3 (.pointer (some ⟨h0.length, 0, none⟩)) (.agg #[(.int .i64 2), (.int .i64 0), (.int .i64 8)]) h1 fun h2 =>
  ldN 3 (.pointer (some ⟨h0.length, 0, none⟩)) h2 fun v3 =>
  fin2 h0 v3
theorem F32_eq0 (rc : Rec) (md : Md)  (h0 : Heap) : callStep0 Try.prog cfg rc md 32 [] h0 = F32 rc ⟨h0.length, h0.length⟩  h0 := by kernel_rfl
theorem F32_eq (rc : Rec) (md : Md)  (h0 : Heap) : callStep Try.prog cfg rc md 32 [] h0 = alone h0 (F32 rc ⟨0, 0⟩  []) := by
  have e : callStep Try.prog cfg rc md 32 [] h0 = alone h0 (callStep0 Try.prog cfg rc ⟨0, 0⟩ 32 [] []) := by kernel_rfl
  rw [e, F32_eq0]; rfl

/-- (*tombolo/cell.Arena).Store -/
noncomputable def F33 (rc : Rec) (md : Md) (a0 : Value) (a1 : Int) (a2 : Int) (h0 : Heap) : Option (Value × Heap) :=
  bif okNil Try.prog a0 then
  fA 1 a0 fun v1 =>
  fA 1 v1 fun v2 =>
  cl (rc md 77 [a0, (.int .i64 a1), v2] h0) fun v3 h4 =>
  aBin Try.prog .eql 134 v3 (.pointer none) fun v5 =>
  cBn v5 fun b6 =>
  bif b6 then
    some ((.int .i64 20), List.take h0.length h4)
  else
    bif okNil Try.prog v3 then
    st md 1 v3 (.int .u64 a2) h4 fun h7 =>
    some ((.int .i64 0), List.take h0.length h7)
    else none
  else none
theorem F33_eq0 (rc : Rec) (md : Md) (a0 : Value) (a1 : Int) (a2 : Int) (h0 : Heap) : callStep0 Try.prog cfg rc md 33 [a0, (.int .i64 a1), (.int .u64 a2)] h0 = F33 rc ⟨md.ro, h0.length⟩ a0 a1 a2 h0 := by kernel_rfl
theorem F33_eq (rc : Rec) (md : Md) (a0 : Value) (a1 : Int) (a2 : Int) (h0 : Heap) : callStep Try.prog cfg rc md 33 [a0, (.int .i64 a1), (.int .u64 a2)] h0 = F33 rc ⟨md.ro, h0.length⟩ a0 a1 a2 h0 := (callStep_ne (by kernel_rfl)).trans (F33_eq0 rc md a0 a1 a2 h0)

/-- tombolo/tombololaw08.at -/
noncomputable def F34 (rc : Rec) (md : Md) (a0 : Int) (h0 : Heap) : Option (Value × Heap) :=
  cl (rc md 32 [] h0) fun v1 h2 =>
  cl (rc md 78 [v1, (.int .i64 (IntKind.wrap .i64 (a0 + 1))), (.int .i64 2)] h2) fun v3 h4 =>
  cIn .i64 v3 fun n5 =>
  some ((.int .i64 n5), h0)
theorem F34_eq0 (rc : Rec) (md : Md) (a0 : Int) (h0 : Heap) : callStep0 Try.prog cfg rc md 34 [(.int .i64 a0)] h0 = F34 rc ⟨h0.length, h0.length⟩ a0 h0 := by kernel_rfl
theorem F34_eq (rc : Rec) (md : Md) (a0 : Int) (h0 : Heap) : callStep Try.prog cfg rc md 34 [(.int .i64 a0)] h0 = alone h0 (F34 rc ⟨0, 0⟩ a0 []) := by
  have e : callStep Try.prog cfg rc md 34 [(.int .i64 a0)] h0 = alone h0 (callStep0 Try.prog cfg rc ⟨0, 0⟩ 34 [(.int .i64 a0)] []) := by kernel_rfl
  rw [e, F34_eq0]; rfl

/-- tombolo/tomboloref01.Plain -/
noncomputable def F35 (rc : Rec) (md : Md) (a0 : Int) (h0 : Heap) : Option (Value × Heap) :=
  some ((.int .u64 (IntKind.wrap .u64 ((IntKind.wrap .u64 a0) * 65537))), h0)
theorem F35_eq0 (rc : Rec) (md : Md) (a0 : Int) (h0 : Heap) : callStep0 Try.prog cfg rc md 35 [(.int .i64 a0)] h0 = F35 rc ⟨h0.length, h0.length⟩ a0 h0 := by kernel_rfl
theorem F35_eq (rc : Rec) (md : Md) (a0 : Int) (h0 : Heap) : callStep Try.prog cfg rc md 35 [(.int .i64 a0)] h0 = alone h0 (F35 rc ⟨0, 0⟩ a0 []) := by
  have e : callStep Try.prog cfg rc md 35 [(.int .i64 a0)] h0 = alone h0 (callStep0 Try.prog cfg rc ⟨0, 0⟩ 35 [(.int .i64 a0)] []) := by kernel_rfl
  rw [e, F35_eq0]; rfl

/-- (tombolo/ptr.Pen).Begin -/
noncomputable def F36 (rc : Rec) (md : Md) (a0_0 : Int) (a0_1 : Int) (a1 : Value) (a2_0 : Int) (a2_1 : Int) (a2_2 : Int) (h0 : Heap) : Option (Value × Heap) :=
  let h1 : Heap := h0 ++ [.own [(.int .i64 a0_0), (.int .i64 a0_1)]]
  let h2 : Heap := h1 ++ [.own [(.int .i64 a2_0), (.int .i64 a2_1), (.int .i64 a2_2)]]
  ldN 2 (.pointer (some ⟨h0.length, 0, none⟩)) h2 fun v3 =>
  ldN 3 (.pointer (some ⟨h1.length, 0, none⟩)) h2 fun v4 =>
  ld1 (.pointer (some ⟨h0.length, 1, none⟩)) h2 fun v5 =>
  cIn .i64 v5 fun n6 =>
  cl (rc md 79 [v3, a1, v4, (.int .i64 n6), (.bool false)] h2) fun v7 h8 =>
  some ((.tuple #[]), List.take h0.length h8)
theorem F36_eq0 (rc : Rec) (md : Md) (a0_0 : Int) (a0_1 : Int) (a1 : Value) (a2_0 : Int) (a2_1 : Int) (a2_2 : Int) (h0 : Heap) : callStep0 Try.prog cfg rc md 36 [(.agg #[(.int .i64 a0_0), (.int .i64 a0_1)]), a1, (.agg #[(.int .i64 a2_0), (.int .i64 a2_1), (.int .i64 a2_2)])] h0 = F36 rc ⟨md.ro, h0.length⟩ a0_0 a0_1 a1 a2_0 a2_1 a2_2 h0 := by kernel_rfl
theorem F36_eq (rc : Rec) (md : Md) (a0_0 : Int) (a0_1 : Int) (a1 : Value) (a2_0 : Int) (a2_1 : Int) (a2_2 : Int) (h0 : Heap) : callStep Try.prog cfg rc md 36 [(.agg #[(.int .i64 a0_0), (.int .i64 a0_1)]), a1, (.agg #[(.int .i64 a2_0), (.int .i64 a2_1), (.int .i64 a2_2)])] h0 = F36 rc ⟨md.ro, h0.length⟩ a0_0 a0_1 a1 a2_0 a2_1 a2_2 h0 := (callStep_ne (by kernel_rfl)).trans (F36_eq0 rc md a0_0 a0_1 a1 a2_0 a2_1 a2_2 h0)

/-- (tombolo/ptr.Pen).Write -/
noncomputable def F37 (rc : Rec) (md : Md) (a0_0 : Int) (a0_1 : Int) (a1 : Value) (a2 : Int) (a3 : Int) (h0 : Heap) : Option (Value × Heap) :=
  let h1 : Heap := h0 ++ [.own [(.int .i64 a0_0), (.int .i64 a0_1)]]
  let h2 : Heap := h1 ++ [.own [(.int .i64 a3)]]
  cl (rc md 80 [a1, (.int .i64 a2), (.func (.func 81) #[] #[(.pointer (some ⟨h0.length, 0, none⟩)), (.pointer (some ⟨h1.length, 0, none⟩))])] h2) fun v3 h4 =>
  some ((.tuple #[]), List.take h0.length h4)
theorem F37_eq0 (rc : Rec) (md : Md) (a0_0 : Int) (a0_1 : Int) (a1 : Value) (a2 : Int) (a3 : Int) (h0 : Heap) : callStep0 Try.prog cfg rc md 37 [(.agg #[(.int .i64 a0_0), (.int .i64 a0_1)]), a1, (.int .i64 a2), (.int .i64 a3)] h0 = F37 rc ⟨md.ro, h0.length⟩ a0_0 a0_1 a1 a2 a3 h0 := by kernel_rfl
theorem F37_eq (rc : Rec) (md : Md) (a0_0 : Int) (a0_1 : Int) (a1 : Value) (a2 : Int) (a3 : Int) (h0 : Heap) : callStep Try.prog cfg rc md 37 [(.agg #[(.int .i64 a0_0), (.int .i64 a0_1)]), a1, (.int .i64 a2), (.int .i64 a3)] h0 = F37 rc ⟨md.ro, h0.length⟩ a0_0 a0_1 a1 a2 a3 h0 := (callStep_ne (by kernel_rfl)).trans (F37_eq0 rc md a0_0 a0_1 a1 a2 a3 h0)

/-- (tombolo/ptr.Pen).Commit -/
noncomputable def F38 (rc : Rec) (md : Md) (a0_0 : Int) (a0_1 : Int) (a1 : Value) (a2_0 : Int) (a2_1 : Int) (a2_2 : Int) (h0 : Heap) : Option (Value × Heap) :=
  let h1 : Heap := h0 ++ [.own [(.int .i64 a0_0), (.int .i64 a0_1)]]
  let h2 : Heap := h1 ++ [.own [(.int .i64 a2_0), (.int .i64 a2_1), (.int .i64 a2_2)]]
  ldN 2 (.pointer (some ⟨h0.length, 0, none⟩)) h2 fun v3 =>
  ldN 3 (.pointer (some ⟨h1.length, 0, none⟩)) h2 fun v4 =>
  ld1 (.pointer (some ⟨h0.length, 1, none⟩)) h2 fun v5 =>
  cIn .i64 v5 fun n6 =>
  cl (rc md 79 [v3, a1, v4, (.int .i64 n6), (.bool true)] h2) fun v7 h8 =>
  some ((.tuple #[]), List.take h0.length h8)
theorem F38_eq0 (rc : Rec) (md : Md) (a0_0 : Int) (a0_1 : Int) (a1 : Value) (a2_0 : Int) (a2_1 : Int) (a2_2 : Int) (h0 : Heap) : callStep0 Try.prog cfg rc md 38 [(.agg #[(.int .i64 a0_0), (.int .i64 a0_1)]), a1, (.agg #[(.int .i64 a2_0), (.int .i64 a2_1), (.int .i64 a2_2)])] h0 = F38 rc ⟨md.ro, h0.length⟩ a0_0 a0_1 a1 a2_0 a2_1 a2_2 h0 := by kernel_rfl
theorem F38_eq (rc : Rec) (md : Md) (a0_0 : Int) (a0_1 : Int) (a1 : Value) (a2_0 : Int) (a2_1 : Int) (a2_2 : Int) (h0 : Heap) : callStep Try.prog cfg rc md 38 [(.agg #[(.int .i64 a0_0), (.int .i64 a0_1)]), a1, (.agg #[(.int .i64 a2_0), (.int .i64 a2_1), (.int .i64 a2_2)])] h0 = F38 rc ⟨md.ro, h0.length⟩ a0_0 a0_1 a1 a2_0 a2_1 a2_2 h0 := (callStep_ne (by kernel_rfl)).trans (F38_eq0 rc md a0_0 a0_1 a1 a2_0 a2_1 a2_2 h0)

/-- (tombolo/ptr.Pen).Clean -/
noncomputable def F39 (rc : Rec) (md : Md) (a0_0 : Int) (a0_1 : Int) (a1 : Value) (a2 : Int) (h0 : Heap) : Option (Value × Heap) :=
  let h1 : Heap := h0 ++ [.own [(.int .i64 a0_0), (.int .i64 a0_1)]]
  cl (rc md 80 [a1, (.int .i64 a2), (.func (.func 82) #[] #[])] h1) fun v2 h3 =>
  some ((.tuple #[]), List.take h0.length h3)
theorem F39_eq0 (rc : Rec) (md : Md) (a0_0 : Int) (a0_1 : Int) (a1 : Value) (a2 : Int) (h0 : Heap) : callStep0 Try.prog cfg rc md 39 [(.agg #[(.int .i64 a0_0), (.int .i64 a0_1)]), a1, (.int .i64 a2)] h0 = F39 rc ⟨md.ro, h0.length⟩ a0_0 a0_1 a1 a2 h0 := by kernel_rfl
theorem F39_eq (rc : Rec) (md : Md) (a0_0 : Int) (a0_1 : Int) (a1 : Value) (a2 : Int) (h0 : Heap) : callStep Try.prog cfg rc md 39 [(.agg #[(.int .i64 a0_0), (.int .i64 a0_1)]), a1, (.int .i64 a2)] h0 = F39 rc ⟨md.ro, h0.length⟩ a0_0 a0_1 a1 a2 h0 := (callStep_ne (by kernel_rfl)).trans (F39_eq0 rc md a0_0 a0_1 a1 a2 h0)

/-- (tombolo/ptr.Pen).End -/
noncomputable def F40 (rc : Rec) (md : Md) (a0_0 : Int) (a0_1 : Int) (a1 : Value) (a2_0 : Int) (a2_1 : Int) (a2_2 : Int) (h0 : Heap) : Option (Value × Heap) :=
  let h1 : Heap := h0 ++ [.own [(.int .i64 a0_0), (.int .i64 a0_1)]]
  let h2 : Heap := h1 ++ [.own [(.int .i64 a2_0), (.int .i64 a2_1), (.int .i64 a2_2)]]
  ldN 2 (.pointer (some ⟨h0.length, 0, none⟩)) h2 fun v3 =>
  ldN 3 (.pointer (some ⟨h1.length, 0, none⟩)) h2 fun v4 =>
  ld1 (.pointer (some ⟨h0.length, 1, none⟩)) h2 fun v5 =>
  cIn .i64 v5 fun n6 =>
  cl (rc md 79 [v3, a1, v4, (.int .i64 (IntKind.wrap .i64 (n6 + 1))), (.bool false)] h2) fun v7 h8 =>
  some ((.tuple #[]), List.take h0.length h8)
theorem F40_eq0 (rc : Rec) (md : Md) (a0_0 : Int) (a0_1 : Int) (a1 : Value) (a2_0 : Int) (a2_1 : Int) (a2_2 : Int) (h0 : Heap) : callStep0 Try.prog cfg rc md 40 [(.agg #[(.int .i64 a0_0), (.int .i64 a0_1)]), a1, (.agg #[(.int .i64 a2_0), (.int .i64 a2_1), (.int .i64 a2_2)])] h0 = F40 rc ⟨md.ro, h0.length⟩ a0_0 a0_1 a1 a2_0 a2_1 a2_2 h0 := by kernel_rfl
theorem F40_eq (rc : Rec) (md : Md) (a0_0 : Int) (a0_1 : Int) (a1 : Value) (a2_0 : Int) (a2_1 : Int) (a2_2 : Int) (h0 : Heap) : callStep Try.prog cfg rc md 40 [(.agg #[(.int .i64 a0_0), (.int .i64 a0_1)]), a1, (.agg #[(.int .i64 a2_0), (.int .i64 a2_1), (.int .i64 a2_2)])] h0 = F40 rc ⟨md.ro, h0.length⟩ a0_0 a0_1 a1 a2_0 a2_1 a2_2 h0 := (callStep_ne (by kernel_rfl)).trans (F40_eq0 rc md a0_0 a0_1 a1 a2_0 a2_1 a2_2 h0)

/-- tombolo/ptr.Means -/
noncomputable def F41 (rc : Rec) (md : Md) (a0 : Value) (a1_0 : Int) (a1_1 : Int) (a1_2 : Int) (a2 : Int) (h0 : Heap) : Option (Value × Heap) :=
  let h1 : Heap := h0 ++ [.own [(.int .i64 a1_0), (.int .i64 a1_1), (.int .i64 a1_2)]]
  clI Try.prog rc md a0 "Load" [(.int .i64 a2)] h1 fun v2 h3 =>
  cIn .u64 v2 fun n4 =>
  cl (rc md 84 [(.int .u64 n4)] h3) fun v5 h6 =>
  exT v5 0 fun v7 =>
  exT v5 1 fun v8 =>
  cIn .i64 v8 fun n9 =>
  let h10 : Heap := h6 ++ [.own [(.int .i64 0), (.int .i64 0), (.int .i64 0), (.int .i64 0)]]
  st md 4 (.pointer (some ⟨h6.length, 0, none⟩)) v7 h10 fun h11 =>
  (bif wantV (.bool (n9 != 0)) false then
  ldN 4 (.pointer (some ⟨h6.length, 0, none⟩)) h11 fun v12 =>
  some (v12, h11)
  else some (undef, h11)).bind fun p13 =>
  (bif wantV (.bool (n9 != 0)) false then
  cl (rc md 85 [p13.1] p13.2) fun v14 h15 =>
  cBn v14 fun b16 =>
  some ((.bool b16), h15)
  else some (undef, p13.2)).bind fun p17 =>
  cBn (bif (n9 != 0) then (.bool true) else p17.1) fun b18 =>
  bif b18 then
    ld1 (.pointer (some ⟨h6.length, 1, none⟩)) p17.2 fun v19 =>
    cIn .i64 v19 fun n20 =>
    some ((.int .i64 n20), List.take h0.length p17.2)
  else
    ldN 4 (.pointer (some ⟨h6.length, 0, none⟩)) p17.2 fun v21 =>
    ldN 3 (.pointer (some ⟨h0.length, 0, none⟩)) p17.2 fun v22 =>
    ld1 (.pointer (some ⟨h6.length, 2, none⟩)) p17.2 fun v23 =>
    cIn .i64 v23 fun n24 =>
    cl (rc md 49 [v22, (.int .i64 n24)] p17.2) fun v25 h26 =>
    cIn .i64 v25 fun n27 =>
    bif okNil Try.prog (.func (.method "Load") #[a0] #[]) then
    clI Try.prog rc md a0 "Load" [(.int .i64 n27)] h26 fun v28 h29 =>
    cIn .u64 v28 fun n30 =>
    cLE true (fun hq => ldN 4 (.pointer (some ⟨h6.length, 0, none⟩)) hq some) v21 h26 h29 <|
    cl (rc md 86 [v21, (.int .u64 n30)] h29) fun v31 h32 =>
    cIn .i64 v31 fun n33 =>
    some ((.int .i64 n33), List.take h0.length h32)
    else none
theorem F41_eq0 (rc : Rec) (md : Md) (a0 : Value) (a1_0 : Int) (a1_1 : Int) (a1_2 : Int) (a2 : Int) (h0 : Heap) : callStep0 Try.prog cfg rc md 41 [a0, (.agg #[(.int .i64 a1_0), (.int .i64 a1_1), (.int .i64 a1_2)]), (.int .i64 a2)] h0 = F41 rc ⟨md.ro, h0.length⟩ a0 a1_0 a1_1 a1_2 a2 h0 := by kernel_rfl
theorem F41_eq (rc : Rec) (md : Md) (a0 : Value) (a1_0 : Int) (a1_1 : Int) (a1_2 : Int) (a2 : Int) (h0 : Heap) : callStep Try.prog cfg rc md 41 [a0, (.agg #[(.int .i64 a1_0), (.int .i64 a1_1), (.int .i64 a1_2)]), (.int .i64 a2)] h0 = F41 rc ⟨md.ro, h0.length⟩ a0 a1_0 a1_1 a1_2 a2 h0 := (callStep_ne (by kernel_rfl)).trans (F41_eq0 rc md a0 a1_0 a1_1 a1_2 a2 h0)

/-- tombolo/ptr.New -/
noncomputable def F42 (rc : Rec) (md : Md) (a0 : Value) (a1 : Int) (h0 : Heap) : Option (Value × Heap) :=
  clI Try.prog rc md a0 "Load" [(.int .i64 a1)] h0 fun v1 h2 =>
  cIn .u64 v1 fun n3 =>
  cl (rc md 84 [(.int .u64 n3)] h2) fun v4 h5 =>
  exT v4 0 fun v6 =>
  exT v4 1 fun v7 =>
  cIn .i64 v7 fun n8 =>
  let h9 : Heap := h5 ++ [.own [(.int .i64 0), (.int .i64 0), (.int .i64 0), (.int .i64 0)]]
  st md 4 (.pointer (some ⟨h5.length, 0, none⟩)) v6 h9 fun h10 =>
  ld1 (.pointer (some ⟨h5.length, 1, none⟩)) h10 fun v11 =>
  cIn .i64 v11 fun n12 =>
  some ((.int .i64 n12), List.take h0.length h10)
theorem F42_eq0 (rc : Rec) (md : Md) (a0 : Value) (a1 : Int) (h0 : Heap) : callStep0 Try.prog cfg rc md 42 [a0, (.int .i64 a1)] h0 = F42 rc ⟨md.ro, h0.length⟩ a0 a1 h0 := by kernel_rfl
theorem F42_eq (rc : Rec) (md : Md) (a0 : Value) (a1 : Int) (h0 : Heap) : callStep Try.prog cfg rc md 42 [a0, (.int .i64 a1)] h0 = F42 rc ⟨md.ro, h0.length⟩ a0 a1 h0 := (callStep_ne (by kernel_rfl)).trans (F42_eq0 rc md a0 a1 h0)

/-- tombolo/tombololaw08.PtrSeen$1 -/
noncomputable def J43_1 (rc : Rec) (md : Md) (h0 : Heap) (s1 : Value) (s2 : Value) (s3 : Value) (s5 : Value) (s7 : Value) (s8 : Value) (h : Heap) : Option (Value × Heap) :=
  ldN 2 s8 h fun v1 =>
  ldN 1 s3 h fun v2 =>
  ldN 3 s5 h fun v3 =>
  cl (rc md 40 [v1, (.iface 31 v2), v3] h) fun v4 h5 =>
  ixAV 2 1 s1 s7 fun v6 =>
  ld1 v6 h5 fun v7 =>
  cIn .i64 v7 fun n8 =>
  ixAV 2 1 s1 s7 fun v9 =>
  st md 1 v9 (.int .i64 (IntKind.wrap .i64 (n8 + 1))) h5 fun h10 =>
  ixAV 2 1 s2 s7 fun v11 =>
  st md 1 v11 (.bool false) h10 fun h12 =>
  some ((.tuple #[]), List.take h0.length h12)
theorem J43_1_at (rc : Rec) (md : Md) (h0 : Heap) (t : T) (h : Heap) : cut Try.prog cfg rc md 108 (bodyOf Try.prog 43) [1, 1, 1, 0, 1, 1, 1, 1, 1, 0, 1] (retK Try.prog cfg 43 (rsOf Try.prog 43) h0) t h = J43_1 rc md h0 (t 1) (t 2) (t 3) (t 5) (t 7) (t 8) h := by kernel_rfl
theorem J43_1_cut (rc : Rec) (md : Md) (h0 : Heap) : cut Try.prog cfg rc md 108 (bodyOf Try.prog 43) [1, 1, 1, 0, 1, 1, 1, 1, 1, 0, 1] (retK Try.prog cfg 43 (rsOf Try.prog 43) h0) = fun t h => J43_1 rc md h0 (t 1) (t 2) (t 3) (t 5) (t 7) (t 8) h := funext fun t => funext fun h => J43_1_at rc md h0 t h
noncomputable def Jk43_0 (rc : Rec) (md : Md) (h0 : Heap) (e : Exit) (s1 : Value) (s2 : Value) (s3 : Value) (s4 : Value) (s5 : Value) (s7 : Value) (s8 : Value) (s10 : Value) (h : Heap) : Option (Value × Heap) :=
  match e with
  | .normal =>
    J43_1 rc md h0 s1 s2 s3 s5 s7 s8 h
  | .exit j =>
    bif Nat.beq j 1 then
      J43_1 rc md h0 s1 s2 s3 s5 s7 s8 h
    else
      bif Nat.beq j 0 then
        some ((.tuple #[]), List.take h0.length h)
      else
        none
  | .ret =>
    some ((.tuple #[]), List.take h0.length h)
  | .goto l => none
  | .panic ps => none
  | .outgrown => none
noncomputable def Jk43_0H (rc : Rec) (md : Md) (h0 : Heap) (X1 : T → Heap → Option (Value × Heap)) (e : Exit) (t : T) (h : Heap) : Option (Value × Heap) :=
  match e with
  | .normal =>
    X1 t h
  | .exit j =>
    bif Nat.beq j 1 then
      X1 t h
    else
      bif Nat.beq j 0 then
        some ((.tuple #[]), List.take h0.length h)
      else
        none
  | .ret =>
    some ((.tuple #[]), List.take h0.length h)
  | .goto l => none
  | .panic ps => none
  | .outgrown => none
theorem Jk43_0_h1 (rc : Rec) (md : Md) (h0 : Heap) (X : Nat → T → Heap → Option (Value × Heap)) (e : Exit) (t : T) (h : Heap) : kAtG Try.prog cfg X rc md 108 (replS (bodyOf Try.prog 43) [([1, 1, 1, 0, 1, 1, 1, 1, 1, 0, 1], 1)]) [1, 1, 1, 0, 1, 1, 1, 1, 1, 0, 0, 1, 0] (retK Try.prog cfg 43 (rsOf Try.prog 43) h0) e t h = Jk43_0H rc md h0 (X 1) e t h := by cases e <;> kernel_rfl
theorem Jk43_0_h2 (rc : Rec) (md : Md) (h0 : Heap) (e : Exit) (t : T) (h : Heap) : Jk43_0H rc md h0 (fun t h => J43_1 rc md h0 (t 1) (t 2) (t 3) (t 5) (t 7) (t 8) h) e t h = Jk43_0 rc md h0 e (t 1) (t 2) (t 3) (t 4) (t 5) (t 7) (t 8) (t 10) h := by cases e <;> (unfold Jk43_0H Jk43_0; kernel_rfl)
theorem Jk43_0_at (rc : Rec) (md : Md) (h0 : Heap) (e : Exit) (t : T) (h : Heap) : kAt Try.prog cfg rc md 108 (bodyOf Try.prog 43) [1, 1, 1, 0, 1, 1, 1, 1, 1, 0, 0, 1, 0] (retK Try.prog cfg 43 (rsOf Try.prog 43) h0) e t h = Jk43_0 rc md h0 e (t 1) (t 2) (t 3) (t 4) (t 5) (t 7) (t 8) (t 10) h := by
  rw [kAt_holes [([1, 1, 1, 0, 1, 1, 1, 1, 1, 0, 1], 1)] [1, 1, 1, 0, 1, 1, 1, 1, 1, 0, 0, 1, 0] (by kernel_rfl), Jk43_0_h1, show (goX Try.prog cfg rc md 108 (bodyOf Try.prog 43) [([1, 1, 1, 0, 1, 1, 1, 1, 1, 0, 1], 1)] (retK Try.prog cfg 43 (rsOf Try.prog 43) h0)) 1 = _ from J43_1_cut rc md h0]
  exact Jk43_0_h2 rc md h0 e t h
/-- a round -/
noncomputable def Jr43_0 (rc : Rec) (md : Md) (s1 : Value) (s2 : Value) (s3 : Value) (s4 : Value) (s5 : Value) (s7 : Value) (s8 : Value) (s10 : Value) (h : Heap) : Option (((Value × Value × Value × Value × Value × Value × Value × Value) × Heap) ⊕ (Exit × (Value × Value × Value × Value × Value × Value × Value × Value) × Heap)) :=
  aBin Try.prog .mul 3 (.int .i64 2) s7 fun v1 =>
  aBin Try.prog .add 3 v1 (.int .i64 2) fun v2 =>
  aBin Try.prog .lss 3 s10 v2 fun v3 =>
  cBn v3 fun b4 =>
  bif b4 then
    ixAV 4 1 s4 s10 fun v5 =>
    ld1 v5 h fun v6 =>
    cBn v6 fun b7 =>
    bif b7 then
      ldN 2 s8 h fun v8 =>
      ldN 1 s3 h fun v9 =>
      cl (rc md 34 [s10] h) fun v10 h11 =>
      cIn .i64 v10 fun n12 =>
      cl (rc md 39 [v8, (.iface 31 v9), (.int .i64 n12)] h11) fun v13 h14 =>
      ixAV 4 1 s4 s10 fun v15 =>
      st md 1 v15 (.bool false) h14 fun h16 =>
      aBin Try.prog .add 3 s10 (.int .i64 1) fun v17 =>
      some (.inl ((s1, s2, s3, s4, s5, s7, s8, v17), h16))
    else
      ixAV 4 1 s4 s10 fun v18 =>
      st md 1 v18 (.bool false) h fun h19 =>
      aBin Try.prog .add 3 s10 (.int .i64 1) fun v20 =>
      some (.inl ((s1, s2, s3, s4, s5, s7, s8, v20), h19))
  else
    some (.inr ((.exit 1), (s1, s2, s3, s4, s5, s7, s8, s10), h))
theorem Jr43_0_at (rc : Rec) (md : Md) (t : T) (h : Heap) : exec Try.prog cfg rc md 108 (sub (bodyOf Try.prog 43) [1, 1, 1, 0, 1, 1, 1, 1, 1, 0, 0, 1, 0, 0]) (rndK (fun t => (t 1, t 2, t 3, t 4, t 5, t 7, t 8, t 10))) t h = Jr43_0 rc md (t 1) (t 2) (t 3) (t 4) (t 5) (t 7) (t 8) (t 10) h := by kernel_rfl
noncomputable def J43_0 (rc : Rec) (md : Md) (h0 : Heap) (s1 : Value) (s2 : Value) (s3 : Value) (s4 : Value) (s5 : Value) (s7 : Value) (s8 : Value) (s10 : Value) (h : Heap) : Option (Value × Heap) :=
  runL (fun x : (Value × Value × Value × Value × Value × Value × Value × Value) × Heap => Jr43_0 rc md x.1.1 x.1.2.1 x.1.2.2.1 x.1.2.2.2.1 x.1.2.2.2.2.1 x.1.2.2.2.2.2.1 x.1.2.2.2.2.2.2.1 x.1.2.2.2.2.2.2.2 x.2) (fun e (s : Value × Value × Value × Value × Value × Value × Value × Value) h => Jk43_0 rc md h0 e s.1 s.2.1 s.2.2.1 s.2.2.2.1 s.2.2.2.2.1 s.2.2.2.2.2.1 s.2.2.2.2.2.2.1 s.2.2.2.2.2.2.2 h) (s1, s2, s3, s4, s5, s7, s8, s10) h
theorem J43_0_step (rc : Rec) (md : Md) (h0 : Heap) (s1 : Value) (s2 : Value) (s3 : Value) (s4 : Value) (s5 : Value) (s7 : Value) (s8 : Value) (s10 : Value) (h : Heap) : J43_0 rc md h0 s1 s2 s3 s4 s5 s7 s8 s10 h = (Jr43_0 rc md s1 s2 s3 s4 s5 s7 s8 s10 h).bind fun x => match x with
    | .inl (s, h) => J43_0 rc md h0 s.1 s.2.1 s.2.2.1 s.2.2.2.1 s.2.2.2.2.1 s.2.2.2.2.2.1 s.2.2.2.2.2.2.1 s.2.2.2.2.2.2.2 h
    | .inr (e, s, h) => Jk43_0 rc md h0 e s.1 s.2.1 s.2.2.1 s.2.2.2.1 s.2.2.2.2.1 s.2.2.2.2.2.1 s.2.2.2.2.2.2.1 s.2.2.2.2.2.2.2 h := by
  unfold J43_0
  rw [runL_eq]
  refine congrArg (Option.bind _) (funext fun x => ?_)
  rcases x with ⟨s, h⟩ | ⟨e, s, h⟩ <;> rfl
theorem J43_0_cut (rc : Rec) (md : Md) (h0 : Heap) : cut Try.prog cfg rc md 108 (bodyOf Try.prog 43) [1, 1, 1, 0, 1, 1, 1, 1, 1, 0, 0, 1, 0] (retK Try.prog cfg 43 (rsOf Try.prog 43) h0) = fun t h => J43_0 rc md h0 (t 1) (t 2) (t 3) (t 4) (t 5) (t 7) (t 8) (t 10) h := by
  funext t h
  have e : sub (bodyOf Try.prog 43) [1, 1, 1, 0, 1, 1, 1, 1, 1, 0, 0, 1, 0] = .loop (sub (bodyOf Try.prog 43) [1, 1, 1, 0, 1, 1, 1, 1, 1, 0, 0, 1, 0, 0]) := by kernel_rfl
  unfold cut
  rw [e]
  exact loop_eq (by kernel_rfl) (fun t => (t 1, t 2, t 3, t 4, t 5, t 7, t 8, t 10)) (fun x : (Value × Value × Value × Value × Value × Value × Value × Value) × Heap => Jr43_0 rc md x.1.1 x.1.2.1 x.1.2.2.1 x.1.2.2.2.1 x.1.2.2.2.2.1 x.1.2.2.2.2.2.1 x.1.2.2.2.2.2.2.1 x.1.2.2.2.2.2.2.2 x.2) (fun t h => Jr43_0_at rc md t h) (fun e (s : Value × Value × Value × Value × Value × Value × Value × Value) h => Jk43_0 rc md h0 e s.1 s.2.1 s.2.2.1 s.2.2.2.1 s.2.2.2.2.1 s.2.2.2.2.2.1 s.2.2.2.2.2.2.1 s.2.2.2.2.2.2.2 h) (fun e t h => Jk43_0_at rc md h0 e t h) t h
noncomputable def F43 (rc : Rec) (md : Md) (a0_0 : Int) (a0_1 : Int) (a0_2 : Int) (a0_3 : Int) (c0 : Value) (c1 : Value) (c2 : Value) (c3 : Value) (c4 : Value) (h0 : Heap) : Option (Value × Heap) :=
  let h1 : Heap := h0 ++ [.own [(.int .i64 a0_0), (.int .i64 a0_1), (.int .i64 a0_2), (.int .i64 a0_3)]]
  ld1 (.pointer (some ⟨h0.length, 1, none⟩)) h1 fun v2 =>
  cIn .i64 v2 fun n3 =>
  ixA 2 1 c0 (bAnd .i64 n3 1) fun v4 =>
  ld1 v4 h1 fun v5 =>
  cIn .i64 v5 fun n6 =>
  let h7 : Heap := h1 ++ [.own [(.int .i64 0), (.int .i64 0)]]
  st md 2 (.pointer (some ⟨h1.length, 0, none⟩)) (.agg #[(.int .i64 (IntKind.wrap .i64 ((bAnd .i64 n3 1) + 1))), (.int .i64 n6)]) h7 fun h8 =>
  ld1 (.pointer (some ⟨h0.length, 0, none⟩)) h8 fun v9 =>
  cIn .i64 v9 fun n10 =>
  (bif wantV (.bool (n10 == 1)) true then
  some ((.int .i64 (bAnd .i64 n3 1)), h8)
  else some (undef, h8)).bind fun p11 =>
  (bif wantV (.bool (n10 == 1)) true then
  ixAV 2 1 c1 p11.1 fun v12 =>
  some (v12, p11.2)
  else some (undef, p11.2)).bind fun p13 =>
  (bif wantV (.bool (n10 == 1)) true then
  ld1 p13.1 p13.2 fun v14 =>
  cBn v14 fun b15 =>
  some ((.bool b15), p13.2)
  else some (undef, p13.2)).bind fun p16 =>
  (bif wantV (.bool (n10 == 1)) true then
  aUn .not p16.1 fun v17 =>
  some (v17, p16.2)
  else some (undef, p16.2)).bind fun p18 =>
  cBn (bif (n10 == 1) then p18.1 else (.bool false)) fun b19 =>
  (bif wantV (.bool b19) true then
  some ((.pointer (some ⟨h0.length, 3, none⟩)), p18.2)
  else some (undef, p18.2)).bind fun p20 =>
  (bif wantV (.bool b19) true then
  ld1 p20.1 p20.2 fun v21 =>
  cIn .i64 v21 fun n22 =>
  some ((.int .i64 n22), p20.2)
  else some (undef, p20.2)).bind fun p23 =>
  (bif wantV (.bool b19) true then
  aBin Try.prog .geq 3 p23.1 (.int .i64 0) fun v24 =>
  some (v24, p23.2)
  else some (undef, p23.2)).bind fun p25 =>
  cBn (bif b19 then p25.1 else (.bool false)) fun b26 =>
  (bif wantV (.bool b26) true then
  some ((.pointer (some ⟨h0.length, 3, none⟩)), p25.2)
  else some (undef, p25.2)).bind fun p27 =>
  (bif wantV (.bool b26) true then
  ld1 p27.1 p27.2 fun v28 =>
  cIn .i64 v28 fun n29 =>
  some ((.int .i64 n29), p27.2)
  else some (undef, p27.2)).bind fun p30 =>
  (bif wantV (.bool b26) true then
  aBin Try.prog .leq 3 p30.1 (.int .i64 65535) fun v31 =>
  some (v31, p30.2)
  else some (undef, p30.2)).bind fun p32 =>
  cBn (bif b26 then p32.1 else (.bool false)) fun b33 =>
  bif b33 then
    ld1 (.pointer (some ⟨h0.length, 2, none⟩)) p32.2 fun v34 =>
    cIn .i64 v34 fun n35 =>
    ldN 2 (.pointer (some ⟨h1.length, 0, none⟩)) p32.2 fun v36 =>
    ldN 1 c2 p32.2 fun v37 =>
    cl (rc md 34 [(.int .i64 (IntKind.wrap .i64 ((IntKind.wrap .i64 (2 * (bAnd .i64 n3 1))) + (bAnd .i64 n35 1))))] p32.2) fun v38 h39 =>
    cIn .i64 v38 fun n40 =>
    ld1 (.pointer (some ⟨h0.length, 3, none⟩)) h39 fun v41 =>
    cIn .i64 v41 fun n42 =>
    cl (rc md 37 [v36, (.iface 31 v37), (.int .i64 n40), (.int .i64 n42)] h39) fun v43 h44 =>
    ixA 4 1 c3 (IntKind.wrap .i64 ((IntKind.wrap .i64 (2 * (bAnd .i64 n3 1))) + (bAnd .i64 n35 1))) fun v45 =>
    st md 1 v45 (.bool true) h44 fun h46 =>
    some ((.tuple #[]), List.take h0.length h46)
  else
    ld1 (.pointer (some ⟨h0.length, 0, none⟩)) p32.2 fun v47 =>
    cIn .i64 v47 fun n48 =>
    bif (n48 == 2) then
      ldN 2 (.pointer (some ⟨h1.length, 0, none⟩)) p32.2 fun v49 =>
      ldN 1 c2 p32.2 fun v50 =>
      ldN 3 c4 p32.2 fun v51 =>
      cl (rc md 38 [v49, (.iface 31 v50), v51] p32.2) fun v52 h53 =>
      ixA 2 1 c1 (bAnd .i64 n3 1) fun v54 =>
      st md 1 v54 (.bool true) h53 fun h55 =>
      some ((.tuple #[]), List.take h0.length h55)
    else
      ld1 (.pointer (some ⟨h0.length, 0, none⟩)) p32.2 fun v56 =>
      cIn .i64 v56 fun n57 =>
      (bif wantV (.bool (n57 == 3)) true then
      some ((.int .i64 (bAnd .i64 n3 1)), p32.2)
      else some (undef, p32.2)).bind fun p58 =>
      (bif wantV (.bool (n57 == 3)) true then
      ixAV 2 1 c1 p58.1 fun v59 =>
      some (v59, p58.2)
      else some (undef, p58.2)).bind fun p60 =>
      (bif wantV (.bool (n57 == 3)) true then
      ld1 p60.1 p60.2 fun v61 =>
      cBn v61 fun b62 =>
      some ((.bool b62), p60.2)
      else some (undef, p60.2)).bind fun p63 =>
      cBn (bif (n57 == 3) then p63.1 else (.bool false)) fun b64 =>
      bif b64 then
        J43_0 rc md h0 c0 c1 c2 c3 c4 (.int .i64 (bAnd .i64 n3 1)) (.pointer (some ⟨h1.length, 0, none⟩)) (.int .i64 (IntKind.wrap .i64 (2 * (bAnd .i64 n3 1)))) p63.2
      else
        some ((.tuple #[]), List.take h0.length p63.2)
noncomputable def F43H (rc : Rec) (md : Md) (X0 : T → Heap → Option (Value × Heap)) (a0_0 : Int) (a0_1 : Int) (a0_2 : Int) (a0_3 : Int) (c0 : Value) (c1 : Value) (c2 : Value) (c3 : Value) (c4 : Value) (h0 : Heap) : Option (Value × Heap) :=
  let h1 : Heap := h0 ++ [.own [(.int .i64 a0_0), (.int .i64 a0_1), (.int .i64 a0_2), (.int .i64 a0_3)]]
  ld1 (.pointer (some ⟨h0.length, 1, none⟩)) h1 fun v2 =>
  cIn .i64 v2 fun n3 =>
  ixA 2 1 c0 (bAnd .i64 n3 1) fun v4 =>
  ld1 v4 h1 fun v5 =>
  cIn .i64 v5 fun n6 =>
  let h7 : Heap := h1 ++ [.own [(.int .i64 0), (.int .i64 0)]]
  st md 2 (.pointer (some ⟨h1.length, 0, none⟩)) (.agg #[(.int .i64 (IntKind.wrap .i64 ((bAnd .i64 n3 1) + 1))), (.int .i64 n6)]) h7 fun h8 =>
  ld1 (.pointer (some ⟨h0.length, 0, none⟩)) h8 fun v9 =>
  cIn .i64 v9 fun n10 =>
  (bif wantV (.bool (n10 == 1)) true then
  some ((.int .i64 (bAnd .i64 n3 1)), h8)
  else some (undef, h8)).bind fun p11 =>
  (bif wantV (.bool (n10 == 1)) true then
  ixAV 2 1 c1 p11.1 fun v12 =>
  some (v12, p11.2)
  else some (undef, p11.2)).bind fun p13 =>
  (bif wantV (.bool (n10 == 1)) true then
  ld1 p13.1 p13.2 fun v14 =>
  cBn v14 fun b15 =>
  some ((.bool b15), p13.2)
  else some (undef, p13.2)).bind fun p16 =>
  (bif wantV (.bool (n10 == 1)) true then
  aUn .not p16.1 fun v17 =>
  some (v17, p16.2)
  else some (undef, p16.2)).bind fun p18 =>
  cBn (bif (n10 == 1) then p18.1 else (.bool false)) fun b19 =>
  (bif wantV (.bool b19) true then
  some ((.pointer (some ⟨h0.length, 3, none⟩)), p18.2)
  else some (undef, p18.2)).bind fun p20 =>
  (bif wantV (.bool b19) true then
  ld1 p20.1 p20.2 fun v21 =>
  cIn .i64 v21 fun n22 =>
  some ((.int .i64 n22), p20.2)
  else some (undef, p20.2)).bind fun p23 =>
  (bif wantV (.bool b19) true then
  aBin Try.prog .geq 3 p23.1 (.int .i64 0) fun v24 =>
  some (v24, p23.2)
  else some (undef, p23.2)).bind fun p25 =>
  cBn (bif b19 then p25.1 else (.bool false)) fun b26 =>
  (bif wantV (.bool b26) true then
  some ((.pointer (some ⟨h0.length, 3, none⟩)), p25.2)
  else some (undef, p25.2)).bind fun p27 =>
  (bif wantV (.bool b26) true then
  ld1 p27.1 p27.2 fun v28 =>
  cIn .i64 v28 fun n29 =>
  some ((.int .i64 n29), p27.2)
  else some (undef, p27.2)).bind fun p30 =>
  (bif wantV (.bool b26) true then
  aBin Try.prog .leq 3 p30.1 (.int .i64 65535) fun v31 =>
  some (v31, p30.2)
  else some (undef, p30.2)).bind fun p32 =>
  cBn (bif b26 then p32.1 else (.bool false)) fun b33 =>
  bif b33 then
    ld1 (.pointer (some ⟨h0.length, 2, none⟩)) p32.2 fun v34 =>
    cIn .i64 v34 fun n35 =>
    ldN 2 (.pointer (some ⟨h1.length, 0, none⟩)) p32.2 fun v36 =>
    ldN 1 c2 p32.2 fun v37 =>
    cl (rc md 34 [(.int .i64 (IntKind.wrap .i64 ((IntKind.wrap .i64 (2 * (bAnd .i64 n3 1))) + (bAnd .i64 n35 1))))] p32.2) fun v38 h39 =>
    cIn .i64 v38 fun n40 =>
    ld1 (.pointer (some ⟨h0.length, 3, none⟩)) h39 fun v41 =>
    cIn .i64 v41 fun n42 =>
    cl (rc md 37 [v36, (.iface 31 v37), (.int .i64 n40), (.int .i64 n42)] h39) fun v43 h44 =>
    ixA 4 1 c3 (IntKind.wrap .i64 ((IntKind.wrap .i64 (2 * (bAnd .i64 n3 1))) + (bAnd .i64 n35 1))) fun v45 =>
    st md 1 v45 (.bool true) h44 fun h46 =>
    some ((.tuple #[]), List.take h0.length h46)
  else
    ld1 (.pointer (some ⟨h0.length, 0, none⟩)) p32.2 fun v47 =>
    cIn .i64 v47 fun n48 =>
    bif (n48 == 2) then
      ldN 2 (.pointer (some ⟨h1.length, 0, none⟩)) p32.2 fun v49 =>
      ldN 1 c2 p32.2 fun v50 =>
      ldN 3 c4 p32.2 fun v51 =>
      cl (rc md 38 [v49, (.iface 31 v50), v51] p32.2) fun v52 h53 =>
      ixA 2 1 c1 (bAnd .i64 n3 1) fun v54 =>
      st md 1 v54 (.bool true) h53 fun h55 =>
      some ((.tuple #[]), List.take h0.length h55)
    else
      ld1 (.pointer (some ⟨h0.length, 0, none⟩)) p32.2 fun v56 =>
      cIn .i64 v56 fun n57 =>
      (bif wantV (.bool (n57 == 3)) true then
      some ((.int .i64 (bAnd .i64 n3 1)), p32.2)
      else some (undef, p32.2)).bind fun p58 =>
      (bif wantV (.bool (n57 == 3)) true then
      ixAV 2 1 c1 p58.1 fun v59 =>
      some (v59, p58.2)
      else some (undef, p58.2)).bind fun p60 =>
      (bif wantV (.bool (n57 == 3)) true then
      ld1 p60.1 p60.2 fun v61 =>
      cBn v61 fun b62 =>
      some ((.bool b62), p60.2)
      else some (undef, p60.2)).bind fun p63 =>
      cBn (bif (n57 == 3) then p63.1 else (.bool false)) fun b64 =>
      bif b64 then
        X0 (upd (upd (upd (upd (upd (upd (upd (upd (upd (upd (upd (upd (upd (upd (upd (upd (upd (upd (upd (upd (upd (upd (upd (upd (upd (upd (upd (upd (upd (upd (upd (upd (upd (upd (upd (upd (upd (upd (upd (upd (upd (upd (upd (upd (upd (upd (upd (upd (args0 [(.agg #[(.int .i64 a0_0), (.int .i64 a0_1), (.int .i64 a0_2), (.int .i64 a0_3)]), c0, c1, c2, c3, c4]) 6 (.pointer (some ⟨h0.length, 0, none⟩))) 11 (.pointer (some ⟨h0.length, 1, none⟩))) 12 (.int .i64 n3)) 13 (.int .i64 (bAnd .i64 n3 1))) 7 (.int .i64 (bAnd .i64 n3 1))) 14 (.int .i64 (bAnd .i64 n3 1))) 15 (.int .i64 (IntKind.wrap .i64 ((bAnd .i64 n3 1) + 1)))) 16 (.int .i64 (bAnd .i64 n3 1))) 17 v4) 18 (.int .i64 n6)) 19 (.agg #[(.int .i64 (IntKind.wrap .i64 ((bAnd .i64 n3 1) + 1))), (.int .i64 n6)])) 8 (.pointer (some ⟨h1.length, 0, none⟩))) 21 (.pointer (some ⟨h0.length, 0, none⟩))) 22 (.int .i64 n10)) 23 (.bool (n10 == 1))) 24 (.bool (n10 == 1))) 25 p11.1) 26 p13.1) 27 p16.1) 28 p18.1) 29 (.bool b19)) 30 (.bool b19)) 31 p20.1) 32 p23.1) 33 p25.1) 34 (.bool b26)) 35 (.bool b26)) 36 p27.1) 37 p30.1) 38 p32.1) 39 (.bool b33)) 20 (.bool b33)) 57 (.pointer (some ⟨h0.length, 0, none⟩))) 58 (.int .i64 n48)) 59 (.bool (n48 == 2))) 56 (.bool (n48 == 2))) 68 (.pointer (some ⟨h0.length, 0, none⟩))) 69 (.int .i64 n57)) 70 (.bool (n57 == 3))) 71 (.bool (n57 == 3))) 72 p58.1) 73 p60.1) 74 p63.1) 75 (.bool b64)) 67 (.bool b64)) 76 (.int .i64 (bAnd .i64 n3 1))) 77 (.int .i64 (IntKind.wrap .i64 (2 * (bAnd .i64 n3 1))))) 10 (.int .i64 (IntKind.wrap .i64 (2 * (bAnd .i64 n3 1))))) p63.2
      else
        some ((.tuple #[]), List.take h0.length p63.2)
theorem F43_h0 (rc : Rec) (md : Md) (a0_0 : Int) (a0_1 : Int) (a0_2 : Int) (a0_3 : Int) (c0 : Value) (c1 : Value) (c2 : Value) (c3 : Value) (c4 : Value) (h0 : Heap) : callStep0 Try.prog cfg rc md 43 [(.agg #[(.int .i64 a0_0), (.int .i64 a0_1), (.int .i64 a0_2), (.int .i64 a0_3)]), c0, c1, c2, c3, c4] h0 = exec Try.prog cfg rc ⟨md.ro, h0.length⟩ 108 (bodyOf Try.prog 43) (retK Try.prog cfg 43 (rsOf Try.prog 43) h0) (args0 [(.agg #[(.int .i64 a0_0), (.int .i64 a0_1), (.int .i64 a0_2), (.int .i64 a0_3)]), c0, c1, c2, c3, c4]) h0 := callStep0_run (by kernel_rfl) (by kernel_rfl) (by kernel_rfl)
theorem F43_h1 (rc : Rec) (md : Md) (X : Nat → T → Heap → Option (Value × Heap)) (a0_0 : Int) (a0_1 : Int) (a0_2 : Int) (a0_3 : Int) (c0 : Value) (c1 : Value) (c2 : Value) (c3 : Value) (c4 : Value) (h0 : Heap) : execG Try.prog cfg X rc md 108 (replS (bodyOf Try.prog 43) [([1, 1, 1, 0, 1, 1, 1, 1, 1, 0, 0, 1, 0], 0), ([1, 1, 1, 0, 1, 1, 1, 1, 1, 0, 1], 1)]) (retK Try.prog cfg 43 (rsOf Try.prog 43) h0) (args0 [(.agg #[(.int .i64 a0_0), (.int .i64 a0_1), (.int .i64 a0_2), (.int .i64 a0_3)]), c0, c1, c2, c3, c4]) h0 = F43H rc md (X 0) a0_0 a0_1 a0_2 a0_3 c0 c1 c2 c3 c4 h0 := by kernel_rfl
theorem F43_h2 (rc : Rec) (md : Md) (a0_0 : Int) (a0_1 : Int) (a0_2 : Int) (a0_3 : Int) (c0 : Value) (c1 : Value) (c2 : Value) (c3 : Value) (c4 : Value) (h0 : Heap) : F43H rc md (fun t h => J43_0 rc md h0 (t 1) (t 2) (t 3) (t 4) (t 5) (t 7) (t 8) (t 10) h) a0_0 a0_1 a0_2 a0_3 c0 c1 c2 c3 c4 h0 = F43 rc md a0_0 a0_1 a0_2 a0_3 c0 c1 c2 c3 c4 h0 := by unfold F43H F43; kernel_rfl
theorem F43_eq0 (rc : Rec) (md : Md) (a0_0 : Int) (a0_1 : Int) (a0_2 : Int) (a0_3 : Int) (c0 : Value) (c1 : Value) (c2 : Value) (c3 : Value) (c4 : Value) (h0 : Heap) : callStep0 Try.prog cfg rc md 43 [(.agg #[(.int .i64 a0_0), (.int .i64 a0_1), (.int .i64 a0_2), (.int .i64 a0_3)]), c0, c1, c2, c3, c4] h0 = F43 rc ⟨md.ro, h0.length⟩ a0_0 a0_1 a0_2 a0_3 c0 c1 c2 c3 c4 h0 := by
  rw [F43_h0, exec_holes [([1, 1, 1, 0, 1, 1, 1, 1, 1, 0, 0, 1, 0], 0), ([1, 1, 1, 0, 1, 1, 1, 1, 1, 0, 1], 1)] (by kernel_rfl), F43_h1, show (goX Try.prog cfg rc ⟨md.ro, h0.length⟩ 108 (bodyOf Try.prog 43) [([1, 1, 1, 0, 1, 1, 1, 1, 1, 0, 0, 1, 0], 0), ([1, 1, 1, 0, 1, 1, 1, 1, 1, 0, 1], 1)] (retK Try.prog cfg 43 (rsOf Try.prog 43) h0)) 0 = _ from J43_0_cut rc ⟨md.ro, h0.length⟩ h0]
  exact F43_h2 rc _ a0_0 a0_1 a0_2 a0_3 c0 c1 c2 c3 c4 h0
theorem F43_eq (rc : Rec) (md : Md) (a0_0 : Int) (a0_1 : Int) (a0_2 : Int) (a0_3 : Int) (c0 : Value) (c1 : Value) (c2 : Value) (c3 : Value) (c4 : Value) (h0 : Heap) : callStep Try.prog cfg rc md 43 [(.agg #[(.int .i64 a0_0), (.int .i64 a0_1), (.int .i64 a0_2), (.int .i64 a0_3)]), c0, c1, c2, c3, c4] h0 = F43 rc ⟨md.ro, h0.length⟩ a0_0 a0_1 a0_2 a0_3 c0 c1 c2 c3 c4 h0 := (callStep_ne (by kernel_rfl)).trans (F43_eq0 rc md a0_0 a0_1 a0_2 a0_3 c0 c1 c2 c3 c4 h0)

/-- tombolo/ptr.NewLook -/
noncomputable def F44 (rc : Rec) (md : Md) (a0_0 : Int) (a0_1 : Int) (a0_2 : Int) (a1 : Int) (h0 : Heap) : Option (Value × Heap) :=
  let h1 : Heap := h0 ++ [.own [(.int .i64 a0_0), (.int .i64 a0_1), (.int .i64 a0_2)]]
  ldN 3 (.pointer (some ⟨h0.length, 0, none⟩)) h1 fun v2 =>
  aBuild Try.prog 147 [(0, v2), (1, (.int .i64 a1))] fun v3 =>
  let h4 : Heap := h1 ++ [.own v3.cells.toList]
  some ((.pointer (some ⟨h1.length, 0, none⟩)), h4)
theorem F44_eq0 (rc : Rec) (md : Md) (a0_0 : Int) (a0_1 : Int) (a0_2 : Int) (a1 : Int) (h0 : Heap) : callStep0 Try.prog cfg rc md 44 [(.agg #[(.int .i64 a0_0), (.int .i64 a0_1), (.int .i64 a0_2)]), (.int .i64 a1)] h0 = F44 rc md a0_0 a0_1 a0_2 a1 h0 := by kernel_rfl
theorem F44_eq (rc : Rec) (md : Md) (a0_0 : Int) (a0_1 : Int) (a0_2 : Int) (a1 : Int) (h0 : Heap) : callStep Try.prog cfg rc md 44 [(.agg #[(.int .i64 a0_0), (.int .i64 a0_1), (.int .i64 a0_2)]), (.int .i64 a1)] h0 = F44 rc md a0_0 a0_1 a0_2 a1 h0 := (callStep_ne (by kernel_rfl)).trans (F44_eq0 rc md a0_0 a0_1 a0_2 a1 h0)

/-- (*tombolo/ptr.Look).Step -/
noncomputable def J45_0 (rc : Rec) (md : Md) (h0 : Heap) (s0 : Value) (h : Heap) : Option (Value × Heap) :=
  bif okNil Try.prog s0 then
  fA 9 s0 fun v1 =>
  ld1 v1 h fun v2 =>
  cBn v2 fun b3 =>
  some ((.bool b3), List.take h0.length h)
  else none
theorem J45_0_at (rc : Rec) (md : Md) (h0 : Heap) (t : T) (h : Heap) : cut Try.prog cfg rc md 87 (bodyOf Try.prog 45) [1, 1] (retK Try.prog cfg 45 (rsOf Try.prog 45) h0) t h = J45_0 rc md h0 (t 0) h := by kernel_rfl
theorem J45_0_cut (rc : Rec) (md : Md) (h0 : Heap) : cut Try.prog cfg rc md 87 (bodyOf Try.prog 45) [1, 1] (retK Try.prog cfg 45 (rsOf Try.prog 45) h0) = fun t h => J45_0 rc md h0 (t 0) h := funext fun t => funext fun h => J45_0_at rc md h0 t h
noncomputable def F45 (rc : Rec) (md : Md) (a0 : Value) (a1 : Value) (h0 : Heap) : Option (Value × Heap) :=
  bif okNil Try.prog a0 then
  fA 9 a0 fun v1 =>
  ld1 v1 h0 fun v2 =>
  cBn v2 fun b3 =>
  bif b3 then
    J45_0 rc md h0 a0 h0
  else
    bif okNil Try.prog a0 then
    fA 8 a0 fun v4 =>
    ld1 v4 h0 fun v5 =>
    cBn v5 fun b6 =>
    bif b6 then
      bif okNil Try.prog a0 then
      fA 0 a0 fun v7 =>
      ldN 3 v7 h0 fun v8 =>
      bif okNil Try.prog a0 then
      fA 4 a0 fun v9 =>
      fA 2 v9 fun v10 =>
      ld1 v10 h0 fun v11 =>
      cIn .i64 v11 fun n12 =>
      cl (rc md 49 [v8, (.int .i64 n12)] h0) fun v13 h14 =>
      cIn .i64 v13 fun n15 =>
      cl (rc md 53 [a1, (.int .i64 n15)] h14) fun v16 h17 =>
      exT v16 0 fun v18 =>
      cIn .u64 v18 fun n19 =>
      exT v16 1 fun v20 =>
      cIn .i64 v20 fun n21 =>
      bif okNil Try.prog a0 then
      fA 4 a0 fun v22 =>
      ldN 4 v22 h17 fun v23 =>
      cl (rc md 86 [v23, (.int .u64 n19)] h17) fun v24 h25 =>
      cIn .i64 v24 fun n26 =>
      bif okNil Try.prog a0 then
      fA 10 a0 fun v27 =>
      st md 1 v27 (.int .i64 n26) h25 fun h28 =>
      bif okNil Try.prog a0 then
      fA 9 a0 fun v29 =>
      st md 1 v29 (.bool true) h28 fun h30 =>
      J45_0 rc md h0 a0 h30
      else none
      else none
      else none
      else none
      else none
    else
      bif okNil Try.prog a0 then
      fA 3 a0 fun v31 =>
      ld1 v31 h0 fun v32 =>
      cIn .i64 v32 fun n33 =>
      cl (rc md 53 [a1, (.int .i64 n33)] h0) fun v34 h35 =>
      exT v34 0 fun v36 =>
      cIn .u64 v36 fun n37 =>
      exT v34 1 fun v38 =>
      cIn .i64 v38 fun n39 =>
      cl (rc md 84 [(.int .u64 n37)] h35) fun v40 h41 =>
      exT v40 0 fun v42 =>
      exT v40 1 fun v43 =>
      cIn .i64 v43 fun n44 =>
      let h45 : Heap := h41 ++ [.own [(.int .i64 0), (.int .i64 0), (.int .i64 0), (.int .i64 0)]]
      st md 4 (.pointer (some ⟨h41.length, 0, none⟩)) v42 h45 fun h46 =>
      ldN 4 (.pointer (some ⟨h41.length, 0, none⟩)) h46 fun v47 =>
      bif okNil Try.prog a0 then
      fA 4 a0 fun v48 =>
      st md 4 v48 v47 h46 fun h49 =>
      bif okNil Try.prog a0 then
      fA 8 a0 fun v50 =>
      st md 1 v50 (.bool true) h49 fun h51 =>
      (bif wantV (.bool (n44 != 0)) false then
      ldN 4 (.pointer (some ⟨h41.length, 0, none⟩)) h51 fun v52 =>
      some (v52, h51)
      else some (undef, h51)).bind fun p53 =>
      (bif wantV (.bool (n44 != 0)) false then
      cl (rc md 85 [p53.1] p53.2) fun v54 h55 =>
      cBn v54 fun b56 =>
      some ((.bool b56), h55)
      else some (undef, p53.2)).bind fun p57 =>
      cBn (bif (n44 != 0) then (.bool true) else p57.1) fun b58 =>
      bif b58 then
        ld1 (.pointer (some ⟨h41.length, 1, none⟩)) p57.2 fun v59 =>
        cIn .i64 v59 fun n60 =>
        bif okNil Try.prog a0 then
        fA 10 a0 fun v61 =>
        st md 1 v61 (.int .i64 n60) p57.2 fun h62 =>
        bif okNil Try.prog a0 then
        fA 9 a0 fun v63 =>
        st md 1 v63 (.bool true) h62 fun h64 =>
        J45_0 rc md h0 a0 h64
        else none
        else none
      else
        J45_0 rc md h0 a0 p57.2
      else none
      else none
      else none
    else none
  else none
noncomputable def F45H (rc : Rec) (md : Md) (X0 : T → Heap → Option (Value × Heap)) (a0 : Value) (a1 : Value) (h0 : Heap) : Option (Value × Heap) :=
  bif okNil Try.prog a0 then
  fA 9 a0 fun v1 =>
  ld1 v1 h0 fun v2 =>
  cBn v2 fun b3 =>
  bif b3 then
    X0 (upd (upd (upd (upd (upd (upd (args0 [a0, a1]) 4 (.bool false)) 47 a0) 48 a0) 49 v1) 50 (.bool b3)) 46 (.bool b3)) h0
  else
    bif okNil Try.prog a0 then
    fA 8 a0 fun v4 =>
    ld1 v4 h0 fun v5 =>
    cBn v5 fun b6 =>
    bif b6 then
      bif okNil Try.prog a0 then
      fA 0 a0 fun v7 =>
      ldN 3 v7 h0 fun v8 =>
      bif okNil Try.prog a0 then
      fA 4 a0 fun v9 =>
      fA 2 v9 fun v10 =>
      ld1 v10 h0 fun v11 =>
      cIn .i64 v11 fun n12 =>
      cl (rc md 49 [v8, (.int .i64 n12)] h0) fun v13 h14 =>
      cIn .i64 v13 fun n15 =>
      cl (rc md 53 [a1, (.int .i64 n15)] h14) fun v16 h17 =>
      exT v16 0 fun v18 =>
      cIn .u64 v18 fun n19 =>
      exT v16 1 fun v20 =>
      cIn .i64 v20 fun n21 =>
      bif okNil Try.prog a0 then
      fA 4 a0 fun v22 =>
      ldN 4 v22 h17 fun v23 =>
      cl (rc md 86 [v23, (.int .u64 n19)] h17) fun v24 h25 =>
      cIn .i64 v24 fun n26 =>
      bif okNil Try.prog a0 then
      fA 10 a0 fun v27 =>
      st md 1 v27 (.int .i64 n26) h25 fun h28 =>
      bif okNil Try.prog a0 then
      fA 9 a0 fun v29 =>
      st md 1 v29 (.bool true) h28 fun h30 =>
      X0 (upd (upd (upd (upd (upd (upd (upd (upd (upd (upd (upd (upd (upd (upd (upd (upd (upd (upd (upd (upd (upd (upd (upd (upd (upd (upd (upd (upd (upd (upd (upd (upd (upd (upd (upd (upd (upd (upd (upd (upd (args0 [a0, a1]) 4 (.bool false)) 47 a0) 48 a0) 49 v1) 50 (.bool b3)) 46 (.bool b3)) 52 a0) 53 a0) 54 v4) 55 (.bool b6)) 51 (.bool b6)) 57 a1) 58 a0) 59 a0) 60 v7) 61 v8) 62 a0) 63 a0) 64 v9) 65 v10) 66 (.int .i64 n12)) 67 (.int .i64 n15)) 68 v16) 56 v16) 69 (.int .u64 n19)) 70 (.int .i64 n21)) 5 (.int .u64 n19)) 6 (.int .i64 n21)) 71 a0) 72 a0) 73 a0) 74 a0) 75 v22) 76 v23) 77 (.int .u64 n19)) 78 (.int .i64 n26)) 79 a0) 80 v27) 81 a0) 82 v29) h30
      else none
      else none
      else none
      else none
      else none
    else
      bif okNil Try.prog a0 then
      fA 3 a0 fun v31 =>
      ld1 v31 h0 fun v32 =>
      cIn .i64 v32 fun n33 =>
      cl (rc md 53 [a1, (.int .i64 n33)] h0) fun v34 h35 =>
      exT v34 0 fun v36 =>
      cIn .u64 v36 fun n37 =>
      exT v34 1 fun v38 =>
      cIn .i64 v38 fun n39 =>
      cl (rc md 84 [(.int .u64 n37)] h35) fun v40 h41 =>
      exT v40 0 fun v42 =>
      exT v40 1 fun v43 =>
      cIn .i64 v43 fun n44 =>
      let h45 : Heap := h41 ++ [.own [(.int .i64 0), (.int .i64 0), (.int .i64 0), (.int .i64 0)]]
      st md 4 (.pointer (some ⟨h41.length, 0, none⟩)) v42 h45 fun h46 =>
      ldN 4 (.pointer (some ⟨h41.length, 0, none⟩)) h46 fun v47 =>
      bif okNil Try.prog a0 then
      fA 4 a0 fun v48 =>
      st md 4 v48 v47 h46 fun h49 =>
      bif okNil Try.prog a0 then
      fA 8 a0 fun v50 =>
      st md 1 v50 (.bool true) h49 fun h51 =>
      (bif wantV (.bool (n44 != 0)) false then
      ldN 4 (.pointer (some ⟨h41.length, 0, none⟩)) h51 fun v52 =>
      some (v52, h51)
      else some (undef, h51)).bind fun p53 =>
      (bif wantV (.bool (n44 != 0)) false then
      cl (rc md 85 [p53.1] p53.2) fun v54 h55 =>
      cBn v54 fun b56 =>
      some ((.bool b56), h55)
      else some (undef, p53.2)).bind fun p57 =>
      cBn (bif (n44 != 0) then (.bool true) else p57.1) fun b58 =>
      bif b58 then
        ld1 (.pointer (some ⟨h41.length, 1, none⟩)) p57.2 fun v59 =>
        cIn .i64 v59 fun n60 =>
        bif okNil Try.prog a0 then
        fA 10 a0 fun v61 =>
        st md 1 v61 (.int .i64 n60) p57.2 fun h62 =>
        bif okNil Try.prog a0 then
        fA 9 a0 fun v63 =>
        st md 1 v63 (.bool true) h62 fun h64 =>
        X0 (upd (upd (upd (upd (upd (upd (upd (upd (upd (upd (upd (upd (upd (upd (upd (upd (upd (upd (upd (upd (upd (upd (upd (upd (upd (upd (upd (upd (upd (upd (upd (upd (upd (upd (upd (upd (upd (upd (upd (upd (upd (upd (upd (upd (upd (upd (upd (upd (upd (upd (args0 [a0, a1]) 4 (.bool false)) 47 a0) 48 a0) 49 v1) 50 (.bool b3)) 46 (.bool b3)) 52 a0) 53 a0) 54 v4) 55 (.bool b6)) 51 (.bool b6)) 12 a1) 13 a0) 14 a0) 15 v31) 16 (.int .i64 n33)) 17 v34) 11 v34) 18 (.int .u64 n37)) 19 (.int .i64 n39)) 7 (.int .u64 n37)) 8 (.int .i64 n39)) 21 (.int .u64 n37)) 22 v40) 20 v40) 23 v42) 24 (.int .i64 n44)) 9 (.pointer (some ⟨h41.length, 0, none⟩))) 10 (.int .i64 n44)) 25 a0) 26 a0) 27 v47) 28 a0) 29 v48) 30 a0) 31 v50) 32 (.int .i64 n44)) 33 (.bool (n44 != 0))) 34 (.bool (n44 != 0))) 35 p53.1) 36 p57.1) 37 (.bool b58)) 38 a0) 39 a0) 40 (.pointer (some ⟨h41.length, 1, none⟩))) 41 (.int .i64 n60)) 42 a0) 43 v61) 44 a0) 45 v63) h64
        else none
        else none
      else
        X0 (upd (upd (upd (upd (upd (upd (upd (upd (upd (upd (upd (upd (upd (upd (upd (upd (upd (upd (upd (upd (upd (upd (upd (upd (upd (upd (upd (upd (upd (upd (upd (upd (upd (upd (upd (upd (upd (upd (upd (upd (upd (upd (args0 [a0, a1]) 4 (.bool false)) 47 a0) 48 a0) 49 v1) 50 (.bool b3)) 46 (.bool b3)) 52 a0) 53 a0) 54 v4) 55 (.bool b6)) 51 (.bool b6)) 12 a1) 13 a0) 14 a0) 15 v31) 16 (.int .i64 n33)) 17 v34) 11 v34) 18 (.int .u64 n37)) 19 (.int .i64 n39)) 7 (.int .u64 n37)) 8 (.int .i64 n39)) 21 (.int .u64 n37)) 22 v40) 20 v40) 23 v42) 24 (.int .i64 n44)) 9 (.pointer (some ⟨h41.length, 0, none⟩))) 10 (.int .i64 n44)) 25 a0) 26 a0) 27 v47) 28 a0) 29 v48) 30 a0) 31 v50) 32 (.int .i64 n44)) 33 (.bool (n44 != 0))) 34 (.bool (n44 != 0))) 35 p53.1) 36 p57.1) 37 (.bool b58)) p57.2
      else none
      else none
      else none
    else none
  else none
theorem F45_h0 (rc : Rec) (md : Md) (a0 : Value) (a1 : Value) (h0 : Heap) : callStep0 Try.prog cfg rc md 45 [a0, a1] h0 = exec Try.prog cfg rc ⟨md.ro, h0.length⟩ 87 (bodyOf Try.prog 45) (retK Try.prog cfg 45 (rsOf Try.prog 45) h0) (args0 [a0, a1]) h0 := callStep0_run (by kernel_rfl) (by kernel_rfl) (by kernel_rfl)
theorem F45_h1 (rc : Rec) (md : Md) (X : Nat → T → Heap → Option (Value × Heap)) (a0 : Value) (a1 : Value) (h0 : Heap) : execG Try.prog cfg X rc md 87 (replS (bodyOf Try.prog 45) [([1, 1], 0)]) (retK Try.prog cfg 45 (rsOf Try.prog 45) h0) (args0 [a0, a1]) h0 = F45H rc md (X 0) a0 a1 h0 := by kernel_rfl
theorem F45_h2 (rc : Rec) (md : Md) (a0 : Value) (a1 : Value) (h0 : Heap) : F45H rc md (fun t h => J45_0 rc md h0 (t 0) h) a0 a1 h0 = F45 rc md a0 a1 h0 := by unfold F45H F45; kernel_rfl
theorem F45_eq0 (rc : Rec) (md : Md) (a0 : Value) (a1 : Value) (h0 : Heap) : callStep0 Try.prog cfg rc md 45 [a0, a1] h0 = F45 rc ⟨md.ro, h0.length⟩ a0 a1 h0 := by
  rw [F45_h0, exec_holes [([1, 1], 0)] (by kernel_rfl), F45_h1, show (goX Try.prog cfg rc ⟨md.ro, h0.length⟩ 87 (bodyOf Try.prog 45) [([1, 1], 0)] (retK Try.prog cfg 45 (rsOf Try.prog 45) h0)) 0 = _ from J45_0_cut rc ⟨md.ro, h0.length⟩ h0]
  exact F45_h2 rc _ a0 a1 h0
theorem F45_eq (rc : Rec) (md : Md) (a0 : Value) (a1 : Value) (h0 : Heap) : callStep Try.prog cfg rc md 45 [a0, a1] h0 = F45 rc ⟨md.ro, h0.length⟩ a0 a1 h0 := (callStep_ne (by kernel_rfl)).trans (F45_eq0 rc md a0 a1 h0)

/-- (*tombolo/ptr.Look).Value -/
noncomputable def F46 (rc : Rec) (md : Md) (a0 : Value) (h0 : Heap) : Option (Value × Heap) :=
  bif okNil Try.prog a0 then
  fA 10 a0 fun v1 =>
  ld1 v1 h0 fun v2 =>
  cIn .i64 v2 fun n3 =>
  some ((.int .i64 n3), h0)
  else none
theorem F46_eq0 (rc : Rec) (md : Md) (a0 : Value) (h0 : Heap) : callStep0 Try.prog cfg rc md 46 [a0] h0 = F46 rc ⟨h0.length, h0.length⟩ a0 h0 := by kernel_rfl
theorem F46_eq (rc : Rec) (md : Md) (a0 : Value) (h0 : Heap) : callStep Try.prog cfg rc md 46 [a0] h0 = F46 rc ⟨h0.length, h0.length⟩ a0 h0 := (callStep_ne (by kernel_rfl)).trans (F46_eq0 rc md a0 h0)

/-- tombolo/tomboloref01.Parts -/
noncomputable def F47 (rc : Rec) (md : Md) (a0 : Int) (h0 : Heap) : Option (Value × Heap) :=
  let h1 : Heap := h0 ++ [.own [(.int .i64 0), (.int .i64 0), (.int .i64 0), (.int .i64 0)]]
  let h2 : Heap := h1 ++ [.own [(.int .i64 0), (.int .i64 0), (.int .i64 0), (.int .i64 0)]]
  st md 4 (.pointer (some ⟨h1.length, 0, none⟩)) (.agg #[(.int .i64 0), (.int .i64 (IntKind.wrap .i64 (Int.tmod a0 65536))), (.int .i64 0), (.int .i64 0)]) h2 fun h3 =>
  st md 1 (.pointer (some ⟨h1.length, 0, none⟩)) (.int .i64 (IntKind.wrap .i64 (Int.tmod (IntKind.wrap .u64 (Int.tdiv a0 65536)) 65536))) h3 fun h4 =>
  st md 1 (.pointer (some ⟨h1.length, 2, none⟩)) (.int .i64 (IntKind.wrap .i64 (Int.tmod (IntKind.wrap .u64 (Int.tdiv (IntKind.wrap .u64 (Int.tdiv a0 65536)) 65536)) 256))) h4 fun h5 =>
  st md 1 (.pointer (some ⟨h1.length, 3, none⟩)) (.int .i64 (IntKind.wrap .i64 (IntKind.wrap .u64 (Int.tdiv (IntKind.wrap .u64 (Int.tdiv (IntKind.wrap .u64 (Int.tdiv a0 65536)) 65536)) 256)))) h5 fun h6 =>
  ldN 4 (.pointer (some ⟨h1.length, 0, none⟩)) h6 fun v7 =>
  st md 4 (.pointer (some ⟨h0.length, 0, none⟩)) v7 h6 fun h8 =>
  ldN 4 (.pointer (some ⟨h0.length, 0, none⟩)) h8 fun v9 =>
  fin2 h0 v9
theorem F47_eq0 (rc : Rec) (md : Md) (a0 : Int) (h0 : Heap) : callStep0 Try.prog cfg rc md 47 [(.int .u64 a0)] h0 = F47 rc ⟨h0.length, h0.length⟩ a0 h0 := by kernel_rfl
theorem F47_eq (rc : Rec) (md : Md) (a0 : Int) (h0 : Heap) : callStep Try.prog cfg rc md 47 [(.int .u64 a0)] h0 = alone h0 (F47 rc ⟨0, 0⟩ a0 []) := by
  have e : callStep Try.prog cfg rc md 47 [(.int .u64 a0)] h0 = alone h0 (callStep0 Try.prog cfg rc ⟨0, 0⟩ 47 [(.int .u64 a0)] []) := by kernel_rfl
  rw [e, F47_eq0]; rfl

/-- tombolo/tomboloref01.Right -/
noncomputable def F48 (rc : Rec) (md : Md) (a0_0 : Int) (a0_1 : Int) (a0_2 : Int) (a0_3 : Int) (h0 : Heap) : Option (Value × Heap) :=
  let h1 : Heap := h0 ++ [.own [(.int .i64 a0_0), (.int .i64 a0_1), (.int .i64 a0_2), (.int .i64 a0_3)]]
  ld1 (.pointer (some ⟨h0.length, 0, none⟩)) h1 fun v2 =>
  cIn .i64 v2 fun n3 =>
  (bif wantV (.bool (decide (n3 < 0))) false then
  some ((.pointer (some ⟨h0.length, 0, none⟩)), h1)
  else some (undef, h1)).bind fun p4 =>
  (bif wantV (.bool (decide (n3 < 0))) false then
  ld1 p4.1 p4.2 fun v5 =>
  cIn .i64 v5 fun n6 =>
  some ((.int .i64 n6), p4.2)
  else some (undef, p4.2)).bind fun p7 =>
  (bif wantV (.bool (decide (n3 < 0))) false then
  aBin Try.prog .gtr 3 p7.1 (.int .i64 65535) fun v8 =>
  some (v8, p7.2)
  else some (undef, p7.2)).bind fun p9 =>
  cBn (bif (decide (n3 < 0)) then (.bool true) else p9.1) fun b10 =>
  (bif wantV (.bool b10) false then
  some ((.pointer (some ⟨h0.length, 1, none⟩)), p9.2)
  else some (undef, p9.2)).bind fun p11 =>
  (bif wantV (.bool b10) false then
  ld1 p11.1 p11.2 fun v12 =>
  cIn .i64 v12 fun n13 =>
  some ((.int .i64 n13), p11.2)
  else some (undef, p11.2)).bind fun p14 =>
  (bif wantV (.bool b10) false then
  aBin Try.prog .lss 3 p14.1 (.int .i64 0) fun v15 =>
  some (v15, p14.2)
  else some (undef, p14.2)).bind fun p16 =>
  cBn (bif b10 then (.bool true) else p16.1) fun b17 =>
  (bif wantV (.bool b17) false then
  some ((.pointer (some ⟨h0.length, 1, none⟩)), p16.2)
  else some (undef, p16.2)).bind fun p18 =>
  (bif wantV (.bool b17) false then
  ld1 p18.1 p18.2 fun v19 =>
  cIn .i64 v19 fun n20 =>
  some ((.int .i64 n20), p18.2)
  else some (undef, p18.2)).bind fun p21 =>
  (bif wantV (.bool b17) false then
  aBin Try.prog .gtr 3 p21.1 (.int .i64 65535) fun v22 =>
  some (v22, p21.2)
  else some (undef, p21.2)).bind fun p23 =>
  cBn (bif b17 then (.bool true) else p23.1) fun b24 =>
  (bif wantV (.bool b24) false then
  some ((.pointer (some ⟨h0.length, 2, none⟩)), p23.2)
  else some (undef, p23.2)).bind fun p25 =>
  (bif wantV (.bool b24) false then
  ld1 p25.1 p25.2 fun v26 =>
  cIn .i64 v26 fun n27 =>
  some ((.int .i64 n27), p25.2)
  else some (undef, p25.2)).bind fun p28 =>
  (bif wantV (.bool b24) false then
  aBin Try.prog .lss 3 p28.1 (.int .i64 0) fun v29 =>
  some (v29, p28.2)
  else some (undef, p28.2)).bind fun p30 =>
  cBn (bif b24 then (.bool true) else p30.1) fun b31 =>
  (bif wantV (.bool b31) false then
  some ((.pointer (some ⟨h0.length, 2, none⟩)), p30.2)
  else some (undef, p30.2)).bind fun p32 =>
  (bif wantV (.bool b31) false then
  ld1 p32.1 p32.2 fun v33 =>
  cIn .i64 v33 fun n34 =>
  some ((.int .i64 n34), p32.2)
  else some (undef, p32.2)).bind fun p35 =>
  (bif wantV (.bool b31) false then
  aBin Try.prog .gtr 3 p35.1 (.int .i64 8) fun v36 =>
  some (v36, p35.2)
  else some (undef, p35.2)).bind fun p37 =>
  cBn (bif b31 then (.bool true) else p37.1) fun b38 =>
  (bif wantV (.bool b38) false then
  some ((.pointer (some ⟨h0.length, 3, none⟩)), p37.2)
  else some (undef, p37.2)).bind fun p39 =>
  (bif wantV (.bool b38) false then
  ld1 p39.1 p39.2 fun v40 =>
  cIn .i64 v40 fun n41 =>
  some ((.int .i64 n41), p39.2)
  else some (undef, p39.2)).bind fun p42 =>
  (bif wantV (.bool b38) false then
  aBin Try.prog .lss 3 p42.1 (.int .i64 0) fun v43 =>
  some (v43, p42.2)
  else some (undef, p42.2)).bind fun p44 =>
  cBn (bif b38 then (.bool true) else p44.1) fun b45 =>
  (bif wantV (.bool b45) false then
  some ((.pointer (some ⟨h0.length, 3, none⟩)), p44.2)
  else some (undef, p44.2)).bind fun p46 =>
  (bif wantV (.bool b45) false then
  ld1 p46.1 p46.2 fun v47 =>
  cIn .i64 v47 fun n48 =>
  some ((.int .i64 n48), p46.2)
  else some (undef, p46.2)).bind fun p49 =>
  (bif wantV (.bool b45) false then
  aBin Try.prog .gtr 3 p49.1 (.int .i64 16777215) fun v50 =>
  some (v50, p49.2)
  else some (undef, p49.2)).bind fun p51 =>
  cBn (bif b45 then (.bool true) else p51.1) fun b52 =>
  bif b52 then
    some ((.bool false), h0)
  else
    ld1 (.pointer (some ⟨h0.length, 2, none⟩)) p51.2 fun v53 =>
    cIn .i64 v53 fun n54 =>
    (bif wantV (.bool (n54 != 0)) false then
    some ((.pointer (some ⟨h0.length, 0, none⟩)), p51.2)
    else some (undef, p51.2)).bind fun p55 =>
    (bif wantV (.bool (n54 != 0)) false then
    ld1 p55.1 p55.2 fun v56 =>
    cIn .i64 v56 fun n57 =>
    some ((.int .i64 n57), p55.2)
    else some (undef, p55.2)).bind fun p58 =>
    (bif wantV (.bool (n54 != 0)) false then
    some ((.pointer (some ⟨h0.length, 1, none⟩)), p58.2)
    else some (undef, p58.2)).bind fun p59 =>
    (bif wantV (.bool (n54 != 0)) false then
    ld1 p59.1 p59.2 fun v60 =>
    cIn .i64 v60 fun n61 =>
    some ((.int .i64 n61), p59.2)
    else some (undef, p59.2)).bind fun p62 =>
    (bif wantV (.bool (n54 != 0)) false then
    aBin Try.prog .eql 3 p58.1 p62.1 fun v63 =>
    some (v63, p62.2)
    else some (undef, p62.2)).bind fun p64 =>
    (bif wantV (.bool (n54 != 0)) false then
    some (p64.1, p64.2)
    else some (undef, p64.2)).bind fun p65 =>
    (bif wantV p65.1 true then
    some ((.pointer (some ⟨h0.length, 3, none⟩)), p65.2)
    else some (undef, p65.2)).bind fun p66 =>
    (bif wantV p65.1 true then
    ld1 p66.1 p66.2 fun v67 =>
    cIn .i64 v67 fun n68 =>
    some ((.int .i64 n68), p66.2)
    else some (undef, p66.2)).bind fun p69 =>
    (bif wantV p65.1 true then
    aBin Try.prog .eql 3 p69.1 (.int .i64 0) fun v70 =>
    some (v70, p69.2)
    else some (undef, p69.2)).bind fun p71 =>
    (bif wantV (.bool (n54 != 0)) false then
    cBn p65.1 fun q72 =>
    cBn (bif q72 then p71.1 else (.bool false)) fun b73 =>
    some ((.bool b73), p71.2)
    else some (undef, p71.2)).bind fun p74 =>
    cBn (bif (n54 != 0) then (.bool true) else p74.1) fun b75 =>
    some ((.bool b75), h0)
theorem F48_eq0 (rc : Rec) (md : Md) (a0_0 : Int) (a0_1 : Int) (a0_2 : Int) (a0_3 : Int) (h0 : Heap) : callStep0 Try.prog cfg rc md 48 [(.agg #[(.int .i64 a0_0), (.int .i64 a0_1), (.int .i64 a0_2), (.int .i64 a0_3)])] h0 = F48 rc ⟨h0.length, h0.length⟩ a0_0 a0_1 a0_2 a0_3 h0 := by kernel_rfl
theorem F48_eq (rc : Rec) (md : Md) (a0_0 : Int) (a0_1 : Int) (a0_2 : Int) (a0_3 : Int) (h0 : Heap) : callStep Try.prog cfg rc md 48 [(.agg #[(.int .i64 a0_0), (.int .i64 a0_1), (.int .i64 a0_2), (.int .i64 a0_3)])] h0 = alone h0 (F48 rc ⟨0, 0⟩ a0_0 a0_1 a0_2 a0_3 []) := by
  have e : callStep Try.prog cfg rc md 48 [(.agg #[(.int .i64 a0_0), (.int .i64 a0_1), (.int .i64 a0_2), (.int .i64 a0_3)])] h0 = alone h0 (callStep0 Try.prog cfg rc ⟨0, 0⟩ 48 [(.agg #[(.int .i64 a0_0), (.int .i64 a0_1), (.int .i64 a0_2), (.int .i64 a0_3)])] []) := by kernel_rfl
  rw [e, F48_eq0]; rfl

/-- (tombolo/lay.Lay).State -/
noncomputable def F49 (rc : Rec) (md : Md) (a0_0 : Int) (a0_1 : Int) (a0_2 : Int) (a1 : Int) (h0 : Heap) : Option (Value × Heap) :=
  let h1 : Heap := h0 ++ [.own [(.int .i64 a0_0), (.int .i64 a0_1), (.int .i64 a0_2)]]
  ld1 (.pointer (some ⟨h0.length, 2, none⟩)) h1 fun v2 =>
  cIn .i64 v2 fun n3 =>
  cl (rc md 87 [(.int .i64 (IntKind.wrap .i64 (a1 - 1))), (.int .i64 n3)] h1) fun v4 h5 =>
  cBn v4 fun b6 =>
  bif !b6 then
    some ((.int .i64 (-1)), h0)
  else
    some ((.int .i64 (IntKind.wrap .i64 (a1 - 1))), h0)
theorem F49_eq0 (rc : Rec) (md : Md) (a0_0 : Int) (a0_1 : Int) (a0_2 : Int) (a1 : Int) (h0 : Heap) : callStep0 Try.prog cfg rc md 49 [(.agg #[(.int .i64 a0_0), (.int .i64 a0_1), (.int .i64 a0_2)]), (.int .i64 a1)] h0 = F49 rc ⟨h0.length, h0.length⟩ a0_0 a0_1 a0_2 a1 h0 := by kernel_rfl
theorem F49_eq (rc : Rec) (md : Md) (a0_0 : Int) (a0_1 : Int) (a0_2 : Int) (a1 : Int) (h0 : Heap) : callStep Try.prog cfg rc md 49 [(.agg #[(.int .i64 a0_0), (.int .i64 a0_1), (.int .i64 a0_2)]), (.int .i64 a1)] h0 = alone h0 (F49 rc ⟨0, 0⟩ a0_0 a0_1 a0_2 a1 []) := by
  have e : callStep Try.prog cfg rc md 49 [(.agg #[(.int .i64 a0_0), (.int .i64 a0_1), (.int .i64 a0_2)]), (.int .i64 a1)] h0 = alone h0 (callStep0 Try.prog cfg rc ⟨0, 0⟩ 49 [(.agg #[(.int .i64 a0_0), (.int .i64 a0_1), (.int .i64 a0_2)]), (.int .i64 a1)] []) := by kernel_rfl
  rw [e, F49_eq0]; rfl

/-- tombolo/tombololaw08.PtrLooks$1 -/
noncomputable def F50 (rc : Rec) (md : Md) (a0 : Int) (c0 : Value) (c1 : Value) (c2 : Value) (h0 : Heap) : Option (Value × Heap) :=
  ld1 c0 h0 fun v1 =>
  cBn v1 fun b2 =>
  (bif wantV (.bool (!b2)) false then
  fA 2 c1 fun v3 =>
  some (v3, h0)
  else some (undef, h0)).bind fun p4 =>
  (bif wantV (.bool (!b2)) false then
  ld1 p4.1 p4.2 fun v5 =>
  cIn .i64 v5 fun n6 =>
  some ((.int .i64 n6), p4.2)
  else some (undef, p4.2)).bind fun p7 =>
  (bif wantV (.bool (!b2)) false then
  aBin Try.prog .gtr 3 p7.1 (.int .i64 0) fun v8 =>
  some (v8, p7.2)
  else some (undef, p7.2)).bind fun p9 =>
  (bif wantV (.bool (!b2)) false then
  some (p9.1, p9.2)
  else some (undef, p9.2)).bind fun p10 =>
  (bif wantV p10.1 true then
  some ((.int .u64 a0), p10.2)
  else some (undef, p10.2)).bind fun p11 =>
  (bif wantV p10.1 true then
  aBin Try.prog .geq 64 p11.1 (.int .u64 33554432) fun v12 =>
  some (v12, p11.2)
  else some (undef, p11.2)).bind fun p13 =>
  (bif wantV (.bool (!b2)) false then
  cBn p10.1 fun q14 =>
  cBn (bif q14 then p13.1 else (.bool false)) fun b15 =>
  some ((.bool b15), p13.2)
  else some (undef, p13.2)).bind fun p16 =>
  cBn (bif !b2 then (.bool true) else p16.1) fun b17 =>
  bif b17 then
    some ((.int .i64 0), h0)
  else
    ld1 c2 p16.2 fun v18 =>
    cIn .u64 v18 fun n19 =>
    cl (rc md 51 [(.int .u64 n19), (.int .u64 a0)] p16.2) fun v20 h21 =>
    cIn .i64 v20 fun n22 =>
    some ((.int .i64 n22), h0)
theorem F50_eq0 (rc : Rec) (md : Md) (a0 : Int) (c0 : Value) (c1 : Value) (c2 : Value) (h0 : Heap) : callStep0 Try.prog cfg rc md 50 [(.int .u64 a0), c0, c1, c2] h0 = F50 rc ⟨h0.length, h0.length⟩ a0 c0 c1 c2 h0 := by kernel_rfl
theorem F50_eq (rc : Rec) (md : Md) (a0 : Int) (c0 : Value) (c1 : Value) (c2 : Value) (h0 : Heap) : callStep Try.prog cfg rc md 50 [(.int .u64 a0), c0, c1, c2] h0 = F50 rc ⟨h0.length, h0.length⟩ a0 c0 c1 c2 h0 := (callStep_ne (by kernel_rfl)).trans (F50_eq0 rc md a0 c0 c1 c2 h0)

/-- tombolo/tomboloref01.Means -/
noncomputable def F51 (rc : Rec) (md : Md) (a0 : Int) (a1 : Int) (h0 : Heap) : Option (Value × Heap) :=
  cl (rc md 47 [(.int .u64 a0)] h0) fun v1 h2 =>
  let h3 : Heap := h2 ++ [.own [(.int .i64 0), (.int .i64 0), (.int .i64 0), (.int .i64 0)]]
  st md 4 (.pointer (some ⟨h2.length, 0, none⟩)) v1 h3 fun h4 =>
  ld1 (.pointer (some ⟨h2.length, 2, none⟩)) h4 fun v5 =>
  cIn .i64 v5 fun n6 =>
  (bif wantV (.bool (n6 == 0)) false then
  some ((.int .u64 a1), h4)
  else some (undef, h4)).bind fun p7 =>
  (bif wantV (.bool (n6 == 0)) false then
  aBin Try.prog .quo 64 p7.1 (.int .u64 2) fun v8 =>
  some (v8, p7.2)
  else some (undef, p7.2)).bind fun p9 =>
  (bif wantV (.bool (n6 == 0)) false then
  aConv Try.prog 64 3 p9.1 fun v10 =>
  some (v10, p9.2)
  else some (undef, p9.2)).bind fun p11 =>
  (bif wantV (.bool (n6 == 0)) false then
  some ((.pointer (some ⟨h2.length, 3, none⟩)), p11.2)
  else some (undef, p11.2)).bind fun p12 =>
  (bif wantV (.bool (n6 == 0)) false then
  ld1 p12.1 p12.2 fun v13 =>
  cIn .i64 v13 fun n14 =>
  some ((.int .i64 n14), p12.2)
  else some (undef, p12.2)).bind fun p15 =>
  (bif wantV (.bool (n6 == 0)) false then
  aBin Try.prog .gtr 3 p11.1 p15.1 fun v16 =>
  some (v16, p15.2)
  else some (undef, p15.2)).bind fun p17 =>
  cBn (bif (n6 == 0) then (.bool true) else p17.1) fun b18 =>
  (bif wantV (.bool b18) false then
  some ((.int .u64 a1), p17.2)
  else some (undef, p17.2)).bind fun p19 =>
  (bif wantV (.bool b18) false then
  aBin Try.prog .quo 64 p19.1 (.int .u64 2) fun v20 =>
  some (v20, p19.2)
  else some (undef, p19.2)).bind fun p21 =>
  (bif wantV (.bool b18) false then
  aConv Try.prog 64 3 p21.1 fun v22 =>
  some (v22, p21.2)
  else some (undef, p21.2)).bind fun p23 =>
  (bif wantV (.bool b18) false then
  some ((.pointer (some ⟨h2.length, 3, none⟩)), p23.2)
  else some (undef, p23.2)).bind fun p24 =>
  (bif wantV (.bool b18) false then
  ld1 p24.1 p24.2 fun v25 =>
  cIn .i64 v25 fun n26 =>
  some ((.int .i64 n26), p24.2)
  else some (undef, p24.2)).bind fun p27 =>
  (bif wantV (.bool b18) false then
  aBin Try.prog .eql 3 p23.1 p27.1 fun v28 =>
  some (v28, p27.2)
  else some (undef, p27.2)).bind fun p29 =>
  (bif wantV (.bool b18) false then
  some (p29.1, p29.2)
  else some (undef, p29.2)).bind fun p30 =>
  (bif wantV p30.1 true then
  some ((.int .u64 a1), p30.2)
  else some (undef, p30.2)).bind fun p31 =>
  (bif wantV p30.1 true then
  aBin Try.prog .rem 64 p31.1 (.int .u64 2) fun v32 =>
  some (v32, p31.2)
  else some (undef, p31.2)).bind fun p33 =>
  (bif wantV p30.1 true then
  aBin Try.prog .eql 64 p33.1 (.int .u64 1) fun v34 =>
  some (v34, p33.2)
  else some (undef, p33.2)).bind fun p35 =>
  (bif wantV (.bool b18) false then
  cBn p30.1 fun q36 =>
  cBn (bif q36 then p35.1 else (.bool false)) fun b37 =>
  some ((.bool b37), p35.2)
  else some (undef, p35.2)).bind fun p38 =>
  cBn (bif b18 then (.bool true) else p38.1) fun b39 =>
  bif b39 then
    ld1 (.pointer (some ⟨h2.length, 1, none⟩)) p38.2 fun v40 =>
    cIn .i64 v40 fun n41 =>
    some ((.int .i64 n41), h0)
  else
    ld1 (.pointer (some ⟨h2.length, 0, none⟩)) p38.2 fun v42 =>
    cIn .i64 v42 fun n43 =>
    some ((.int .i64 n43), h0)
theorem F51_eq0 (rc : Rec) (md : Md) (a0 : Int) (a1 : Int) (h0 : Heap) : callStep0 Try.prog cfg rc md 51 [(.int .u64 a0), (.int .u64 a1)] h0 = F51 rc ⟨h0.length, h0.length⟩ a0 a1 h0 := by kernel_rfl
theorem F51_eq (rc : Rec) (md : Md) (a0 : Int) (a1 : Int) (h0 : Heap) : callStep Try.prog cfg rc md 51 [(.int .u64 a0), (.int .u64 a1)] h0 = alone h0 (F51 rc ⟨0, 0⟩ a0 a1 []) := by
  have e : callStep Try.prog cfg rc md 51 [(.int .u64 a0), (.int .u64 a1)] h0 = alone h0 (callStep0 Try.prog cfg rc ⟨0, 0⟩ 51 [(.int .u64 a0), (.int .u64 a1)] []) := by kernel_rfl
  rw [e, F51_eq0]; rfl

/-- (*tombolo/ptr.Look).Done -/
noncomputable def F52 (rc : Rec) (md : Md) (a0 : Value) (h0 : Heap) : Option (Value × Heap) :=
  bif okNil Try.prog a0 then
  fA 9 a0 fun v1 =>
  ld1 v1 h0 fun v2 =>
  cBn v2 fun b3 =>
  some ((.bool b3), h0)
  else none
theorem F52_eq0 (rc : Rec) (md : Md) (a0 : Value) (h0 : Heap) : callStep0 Try.prog cfg rc md 52 [a0] h0 = F52 rc ⟨h0.length, h0.length⟩ a0 h0 := by kernel_rfl
theorem F52_eq (rc : Rec) (md : Md) (a0 : Value) (h0 : Heap) : callStep Try.prog cfg rc md 52 [a0] h0 = F52 rc ⟨h0.length, h0.length⟩ a0 h0 := (callStep_ne (by kernel_rfl)).trans (F52_eq0 rc md a0 h0)

/-- (*tombolo/cell.Arena).Load -/
noncomputable def F53 (rc : Rec) (md : Md) (a0 : Value) (a1 : Int) (h0 : Heap) : Option (Value × Heap) :=
  bif okNil Try.prog a0 then
  fA 1 a0 fun v1 =>
  fA 0 v1 fun v2 =>
  cl (rc md 77 [a0, (.int .i64 a1), v2] h0) fun v3 h4 =>
  aBin Try.prog .eql 134 v3 (.pointer none) fun v5 =>
  cBn v5 fun b6 =>
  bif b6 then
    some ((.tuple #[(.int .u64 0), (.int .i64 20)]), List.take h0.length h4)
  else
    bif okNil Try.prog v3 then
    ld1 v3 h4 fun v7 =>
    cIn .u64 v7 fun n8 =>
    some ((.tuple #[(.int .u64 n8), (.int .i64 0)]), List.take h0.length h4)
    else none
  else none
theorem F53_eq0 (rc : Rec) (md : Md) (a0 : Value) (a1 : Int) (h0 : Heap) : callStep0 Try.prog cfg rc md 53 [a0, (.int .i64 a1)] h0 = F53 rc ⟨md.ro, h0.length⟩ a0 a1 h0 := by kernel_rfl
theorem F53_eq (rc : Rec) (md : Md) (a0 : Value) (a1 : Int) (h0 : Heap) : callStep Try.prog cfg rc md 53 [a0, (.int .i64 a1)] h0 = F53 rc ⟨md.ro, h0.length⟩ a0 a1 h0 := (callStep_ne (by kernel_rfl)).trans (F53_eq0 rc md a0 a1 h0)

/-- tombolo/tomboloref01.Bits -/
noncomputable def F54 (rc : Rec) (md : Md) (a0_0 : Int) (a0_1 : Int) (a0_2 : Int) (a0_3 : Int) (h0 : Heap) : Option (Value × Heap) :=
  let h1 : Heap := h0 ++ [.own [(.int .i64 a0_0), (.int .i64 a0_1), (.int .i64 a0_2), (.int .i64 a0_3)]]
  ld1 (.pointer (some ⟨h0.length, 3, none⟩)) h1 fun v2 =>
  cIn .i64 v2 fun n3 =>
  ld1 (.pointer (some ⟨h0.length, 2, none⟩)) h1 fun v4 =>
  cIn .i64 v4 fun n5 =>
  ld1 (.pointer (some ⟨h0.length, 0, none⟩)) h1 fun v6 =>
  cIn .i64 v6 fun n7 =>
  ld1 (.pointer (some ⟨h0.length, 1, none⟩)) h1 fun v8 =>
  cIn .i64 v8 fun n9 =>
  some ((.int .u64 (IntKind.wrap .u64 ((IntKind.wrap .u64 ((IntKind.wrap .u64 ((IntKind.wrap .u64 ((IntKind.wrap .u64 ((IntKind.wrap .u64 ((IntKind.wrap .u64 n3) * 256)) + (IntKind.wrap .u64 n5))) * 65536)) + (IntKind.wrap .u64 n7))) * 65536)) + (IntKind.wrap .u64 n9)))), h0)
theorem F54_eq0 (rc : Rec) (md : Md) (a0_0 : Int) (a0_1 : Int) (a0_2 : Int) (a0_3 : Int) (h0 : Heap) : callStep0 Try.prog cfg rc md 54 [(.agg #[(.int .i64 a0_0), (.int .i64 a0_1), (.int .i64 a0_2), (.int .i64 a0_3)])] h0 = F54 rc ⟨h0.length, h0.length⟩ a0_0 a0_1 a0_2 a0_3 h0 := by kernel_rfl
theorem F54_eq (rc : Rec) (md : Md) (a0_0 : Int) (a0_1 : Int) (a0_2 : Int) (a0_3 : Int) (h0 : Heap) : callStep Try.prog cfg rc md 54 [(.agg #[(.int .i64 a0_0), (.int .i64 a0_1), (.int .i64 a0_2), (.int .i64 a0_3)])] h0 = alone h0 (F54 rc ⟨0, 0⟩ a0_0 a0_1 a0_2 a0_3 []) := by
  have e : callStep Try.prog cfg rc md 54 [(.agg #[(.int .i64 a0_0), (.int .i64 a0_1), (.int .i64 a0_2), (.int .i64 a0_3)])] h0 = alone h0 (callStep0 Try.prog cfg rc ⟨0, 0⟩ 54 [(.agg #[(.int .i64 a0_0), (.int .i64 a0_1), (.int .i64 a0_2), (.int .i64 a0_3)])] []) := by kernel_rfl
  rw [e, F54_eq0]; rfl

/-- tombolo/tomboloref01.State -/
noncomputable def F55 (rc : Rec) (md : Md) (a0 : Int) (a1 : Bool) (h0 : Heap) : Option (Value × Heap) :=
  bif a1 then
    some ((.int .u64 (IntKind.wrap .u64 ((IntKind.wrap .u64 (2 * (IntKind.wrap .u64 a0))) + 1))), h0)
  else
    some ((.int .u64 (IntKind.wrap .u64 (2 * (IntKind.wrap .u64 a0)))), h0)
theorem F55_eq0 (rc : Rec) (md : Md) (a0 : Int) (a1 : Bool) (h0 : Heap) : callStep0 Try.prog cfg rc md 55 [(.int .i64 a0), (.bool a1)] h0 = F55 rc ⟨h0.length, h0.length⟩ a0 a1 h0 := by kernel_rfl
theorem F55_eq (rc : Rec) (md : Md) (a0 : Int) (a1 : Bool) (h0 : Heap) : callStep Try.prog cfg rc md 55 [(.int .i64 a0), (.bool a1)] h0 = alone h0 (F55 rc ⟨0, 0⟩ a0 a1 []) := by
  have e : callStep Try.prog cfg rc md 55 [(.int .i64 a0), (.bool a1)] h0 = alone h0 (callStep0 Try.prog cfg rc ⟨0, 0⟩ 55 [(.int .i64 a0), (.bool a1)] []) := by kernel_rfl
  rw [e, F55_eq0]; rfl

/-- (tombolo/mem.Plain).Load -/
noncomputable def F63 (rc : Rec) (md : Md) (a0_0 : Value) (a1 : Int) (h0 : Heap) : Option (Value × Heap) :=
  let h1 : Heap := h0 ++ [.own [a0_0]]
  ld1 (.pointer (some ⟨h0.length, 0, none⟩)) h1 fun v2 =>
  cl (rc md 53 [v2, (.int .i64 a1)] h1) fun v3 h4 =>
  exT v3 0 fun v5 =>
  cIn .u64 v5 fun n6 =>
  exT v3 1 fun v7 =>
  cIn .i64 v7 fun n8 =>
  some ((.int .u64 n6), List.take h0.length h4)
theorem F63_eq0 (rc : Rec) (md : Md) (a0_0 : Value) (a1 : Int) (h0 : Heap) : callStep0 Try.prog cfg rc md 63 [(.agg #[a0_0]), (.int .i64 a1)] h0 = F63 rc ⟨md.ro, h0.length⟩ a0_0 a1 h0 := by kernel_rfl
theorem F63_eq (rc : Rec) (md : Md) (a0_0 : Value) (a1 : Int) (h0 : Heap) : callStep Try.prog cfg rc md 63 [(.agg #[a0_0]), (.int .i64 a1)] h0 = F63 rc ⟨md.ro, h0.length⟩ a0_0 a1 h0 := (callStep_ne (by kernel_rfl)).trans (F63_eq0 rc md a0_0 a1 h0)

/-- (*tombolo/cell.Arena).Copy -/
noncomputable def F64 (rc : Rec) (md : Md) (a0 : Value) (h0 : Heap) : Option (Value × Heap) :=
  bif okNil Try.prog a0 then
  fA 0 a0 fun v1 =>
  ld1 v1 h0 fun v2 =>
  cl (rc md 89 [v2] h0) fun v3 h4 =>
  bif okNil Try.prog a0 then
  fA 1 a0 fun v5 =>
  ldN 5 v5 h4 fun v6 =>
  cLE true (fun hq => ldN 5 v5 hq some) v6 h0 h4 <|
  aBuild Try.prog 133 [(0, v3), (1, v6)] fun v7 =>
  let h8 : Heap := h4 ++ [.own v7.cells.toList]
  some ((.pointer (some ⟨h4.length, 0, none⟩)), h8)
  else none
  else none
theorem F64_eq0 (rc : Rec) (md : Md) (a0 : Value) (h0 : Heap) : callStep0 Try.prog cfg rc md 64 [a0] h0 = F64 rc md a0 h0 := by kernel_rfl
theorem F64_eq (rc : Rec) (md : Md) (a0 : Value) (h0 : Heap) : callStep Try.prog cfg rc md 64 [a0] h0 = F64 rc md a0 h0 := (callStep_ne (by kernel_rfl)).trans (F64_eq0 rc md a0 h0)

/-- (*tombolo/cell.Arena).Equal -/
noncomputable def F65 (rc : Rec) (md : Md) (a0 : Value) (a1 : Value) (h0 : Heap) : Option (Value × Heap) :=
  bif okNil Try.prog a0 then
  fA 0 a0 fun v1 =>
  ld1 v1 h0 fun v2 =>
  bif okNil Try.prog a1 then
  fA 0 a1 fun v3 =>
  ld1 v3 h0 fun v4 =>
  cl (rc md 90 [v2, v4] h0) fun v5 h6 =>
  cBn v5 fun b7 =>
  some ((.bool b7), h0)
  else none
  else none
theorem F65_eq0 (rc : Rec) (md : Md) (a0 : Value) (a1 : Value) (h0 : Heap) : callStep0 Try.prog cfg rc md 65 [a0, a1] h0 = F65 rc ⟨h0.length, h0.length⟩ a0 a1 h0 := by kernel_rfl
theorem F65_eq (rc : Rec) (md : Md) (a0 : Value) (a1 : Value) (h0 : Heap) : callStep Try.prog cfg rc md 65 [a0, a1] h0 = F65 rc ⟨h0.length, h0.length⟩ a0 a1 h0 := (callStep_ne (by kernel_rfl)).trans (F65_eq0 rc md a0 a1 h0)

/-- tombolo/cell.New -/
noncomputable def F69 (rc : Rec) (md : Md) (a0 : Int) (h0 : Heap) : Option (Value × Heap) :=
  (bif wantV (.bool (decide (a0 < 0))) false then
  some ((.int .i64 a0), h0)
  else some (undef, h0)).bind fun p1 =>
  (bif wantV (.bool (decide (a0 < 0))) false then
  aBin Try.prog .gtr 3 p1.1 (.int .i64 16384) fun v2 =>
  some (v2, p1.2)
  else some (undef, p1.2)).bind fun p3 =>
  cBn (bif (decide (a0 < 0)) then (.bool true) else p3.1) fun b4 =>
  bif b4 then
    some ((.tuple #[(.pointer none), (.int .i64 11)]), p3.2)
  else
    aMakeSlice Try.prog 103 (.int .i64 a0) (.int .i64 a0) p3.2 fun v5 h6 =>
    aBuild Try.prog 133 [(0, v5)] fun v7 =>
    let h8 : Heap := h6 ++ [.own v7.cells.toList]
    some ((.tuple #[(.pointer (some ⟨h6.length, 0, none⟩)), (.int .i64 0)]), h8)
theorem F69_eq0 (rc : Rec) (md : Md) (a0 : Int) (h0 : Heap) : callStep0 Try.prog cfg rc md 69 [(.int .i64 a0)] h0 = F69 rc md a0 h0 := by kernel_rfl
theorem F69_eq (rc : Rec) (md : Md) (a0 : Int) (h0 : Heap) : callStep Try.prog cfg rc md 69 [(.int .i64 a0)] h0 = F69 rc md a0 h0 := (callStep_ne (by kernel_rfl)).trans (F69_eq0 rc md a0 h0)

/-- (tombolo/lay.Lay).Cells -/
noncomputable def F70 (rc : Rec) (md : Md) (a0_0 : Int) (a0_1 : Int) (a0_2 : Int) (h0 : Heap) : Option (Value × Heap) :=
  let h1 : Heap := h0 ++ [.own [(.int .i64 a0_0), (.int .i64 a0_1), (.int .i64 a0_2)]]
  ldN 3 (.pointer (some ⟨h0.length, 0, none⟩)) h1 fun v2 =>
  cl (rc md 93 [v2] h1) fun v3 h4 =>
  cIn .i64 v3 fun n5 =>
  ldN 3 (.pointer (some ⟨h0.length, 0, none⟩)) h4 fun v6 =>
  cl (rc md 94 [v6] h4) fun v7 h8 =>
  cIn .i64 v7 fun n9 =>
  some ((.int .i64 (IntKind.wrap .i64 (n5 + (IntKind.wrap .i64 (n9 * 7))))), h0)
theorem F70_eq0 (rc : Rec) (md : Md) (a0_0 : Int) (a0_1 : Int) (a0_2 : Int) (h0 : Heap) : callStep0 Try.prog cfg rc md 70 [(.agg #[(.int .i64 a0_0), (.int .i64 a0_1), (.int .i64 a0_2)])] h0 = F70 rc ⟨h0.length, h0.length⟩ a0_0 a0_1 a0_2 h0 := by kernel_rfl
theorem F70_eq (rc : Rec) (md : Md) (a0_0 : Int) (a0_1 : Int) (a0_2 : Int) (h0 : Heap) : callStep Try.prog cfg rc md 70 [(.agg #[(.int .i64 a0_0), (.int .i64 a0_1), (.int .i64 a0_2)])] h0 = alone h0 (F70 rc ⟨0, 0⟩ a0_0 a0_1 a0_2 []) := by
  have e : callStep Try.prog cfg rc md 70 [(.agg #[(.int .i64 a0_0), (.int .i64 a0_1), (.int .i64 a0_2)])] h0 = alone h0 (callStep0 Try.prog cfg rc ⟨0, 0⟩ 70 [(.agg #[(.int .i64 a0_0), (.int .i64 a0_1), (.int .i64 a0_2)])] []) := by kernel_rfl
  rw [e, F70_eq0]; rfl

/-- (tombolo/lay.Lay).Free -/
noncomputable def F73 (rc : Rec) (md : Md) (a0_0 : Int) (a0_1 : Int) (a0_2 : Int) (h0 : Heap) : Option (Value × Heap) :=
  let h1 : Heap := h0 ++ [.own [(.int .i64 a0_0), (.int .i64 a0_1), (.int .i64 a0_2)]]
  ld1 (.pointer (some ⟨h0.length, 2, none⟩)) h1 fun v2 =>
  cIn .i64 v2 fun n3 =>
  some ((.int .i64 n3), h0)
theorem F73_eq0 (rc : Rec) (md : Md) (a0_0 : Int) (a0_1 : Int) (a0_2 : Int) (h0 : Heap) : callStep0 Try.prog cfg rc md 73 [(.agg #[(.int .i64 a0_0), (.int .i64 a0_1), (.int .i64 a0_2)])] h0 = F73 rc ⟨h0.length, h0.length⟩ a0_0 a0_1 a0_2 h0 := by kernel_rfl
theorem F73_eq (rc : Rec) (md : Md) (a0_0 : Int) (a0_1 : Int) (a0_2 : Int) (h0 : Heap) : callStep Try.prog cfg rc md 73 [(.agg #[(.int .i64 a0_0), (.int .i64 a0_1), (.int .i64 a0_2)])] h0 = alone h0 (F73 rc ⟨0, 0⟩ a0_0 a0_1 a0_2 []) := by
  have e : callStep Try.prog cfg rc md 73 [(.agg #[(.int .i64 a0_0), (.int .i64 a0_1), (.int .i64 a0_2)])] h0 = alone h0 (callStep0 Try.prog cfg rc ⟨0, 0⟩ 73 [(.agg #[(.int .i64 a0_0), (.int .i64 a0_1), (.int .i64 a0_2)])] []) := by kernel_rfl
  rw [e, F73_eq0]; rfl

/-- (tombolo/lay.Lay).NextFree -/
noncomputable def F74 (rc : Rec) (md : Md) (a0_0 : Int) (a0_1 : Int) (a0_2 : Int) (a1 : Int) (h0 : Heap) : Option (Value × Heap) :=
  let h1 : Heap := h0 ++ [.own [(.int .i64 a0_0), (.int .i64 a0_1), (.int .i64 a0_2)]]
  ldN 3 (.pointer (some ⟨h0.length, 0, none⟩)) h1 fun v2 =>
  cl (rc md 95 [v2, (.int .i64 a1), (.int .i64 0)] h1) fun v3 h4 =>
  cIn .i64 v3 fun n5 =>
  some ((.int .i64 n5), h0)
theorem F74_eq0 (rc : Rec) (md : Md) (a0_0 : Int) (a0_1 : Int) (a0_2 : Int) (a1 : Int) (h0 : Heap) : callStep0 Try.prog cfg rc md 74 [(.agg #[(.int .i64 a0_0), (.int .i64 a0_1), (.int .i64 a0_2)]), (.int .i64 a1)] h0 = F74 rc ⟨h0.length, h0.length⟩ a0_0 a0_1 a0_2 a1 h0 := by kernel_rfl
theorem F74_eq (rc : Rec) (md : Md) (a0_0 : Int) (a0_1 : Int) (a0_2 : Int) (a1 : Int) (h0 : Heap) : callStep Try.prog cfg rc md 74 [(.agg #[(.int .i64 a0_0), (.int .i64 a0_1), (.int .i64 a0_2)]), (.int .i64 a1)] h0 = alone h0 (F74 rc ⟨0, 0⟩ a0_0 a0_1 a0_2 a1 []) := by
  have e : callStep Try.prog cfg rc md 74 [(.agg #[(.int .i64 a0_0), (.int .i64 a0_1), (.int .i64 a0_2)]), (.int .i64 a1)] h0 = alone h0 (callStep0 Try.prog cfg rc ⟨0, 0⟩ 74 [(.agg #[(.int .i64 a0_0), (.int .i64 a0_1), (.int .i64 a0_2)]), (.int .i64 a1)] []) := by kernel_rfl
  rw [e, F74_eq0]; rfl

/-- (*tombolo/cell.Arena).Swap -/
noncomputable def J75_0 (rc : Rec) (md : Md) (h0 : Heap) (s0 : Value) (s1 : Value) (s2 : Value) (s3 : Value) (s10 : Value) (h : Heap) : Option (Value × Heap) :=
  cl (rc md 77 [s0, s1, s10] h) fun v1 h2 =>
  aBin Try.prog .eql 134 v1 (.pointer none) fun v3 =>
  cBn v3 fun b4 =>
  bif b4 then
    some ((.tuple #[(.bool false), (.int .i64 20)]), List.take h0.length h2)
  else
    bif okNil Try.prog v1 then
    ld1 v1 h2 fun v5 =>
    cIn .u64 v5 fun n6 =>
    aBin Try.prog .neq 64 (.int .u64 n6) s2 fun v7 =>
    cBn v7 fun b8 =>
    bif b8 then
      some ((.tuple #[(.bool false), (.int .i64 0)]), List.take h0.length h2)
    else
      bif okNil Try.prog v1 then
      st md 1 v1 s3 h2 fun h9 =>
      some ((.tuple #[(.bool true), (.int .i64 0)]), List.take h0.length h9)
      else none
    else none
theorem J75_0_at (rc : Rec) (md : Md) (h0 : Heap) (t : T) (h : Heap) : cut Try.prog cfg rc md 56 (bodyOf Try.prog 75) [1, 1, 1] (retK Try.prog cfg 75 (rsOf Try.prog 75) h0) t h = J75_0 rc md h0 (t 0) (t 1) (t 2) (t 3) (t 10) h := by kernel_rfl
theorem J75_0_cut (rc : Rec) (md : Md) (h0 : Heap) : cut Try.prog cfg rc md 56 (bodyOf Try.prog 75) [1, 1, 1] (retK Try.prog cfg 75 (rsOf Try.prog 75) h0) = fun t h => J75_0 rc md h0 (t 0) (t 1) (t 2) (t 3) (t 10) h := funext fun t => funext fun h => J75_0_at rc md h0 t h
noncomputable def F75 (rc : Rec) (md : Md) (a0 : Value) (a1 : Int) (a2 : Int) (a3 : Int) (h0 : Heap) : Option (Value × Heap) :=
  bif okNil Try.prog a0 then
  fA 1 a0 fun v1 =>
  fA 3 v1 fun v2 =>
  (bif wantV (.bool (decide (a1 ≥ 0))) true then
  some ((.int .i64 a1), h0)
  else some (undef, h0)).bind fun p3 =>
  (bif wantV (.bool (decide (a1 ≥ 0))) true then
  some (a0, p3.2)
  else some (undef, p3.2)).bind fun p4 =>
  (bif wantV (.bool (decide (a1 ≥ 0))) true then
  bif okNil Try.prog p4.1 then
  some (p4.1, p4.2)
  else none
  else some (undef, p4.2)).bind fun p5 =>
  (bif wantV (.bool (decide (a1 ≥ 0))) true then
  fA 0 p5.1 fun v6 =>
  some (v6, p5.2)
  else some (undef, p5.2)).bind fun p7 =>
  (bif wantV (.bool (decide (a1 ≥ 0))) true then
  ld1 p7.1 p7.2 fun v8 =>
  some (v8, p7.2)
  else some (undef, p7.2)).bind fun p9 =>
  (bif wantV (.bool (decide (a1 ≥ 0))) true then
  lenS p9.1 fun v10 =>
  cIn .i64 v10 fun n11 =>
  some ((.int .i64 n11), p9.2)
  else some (undef, p9.2)).bind fun p12 =>
  (bif wantV (.bool (decide (a1 ≥ 0))) true then
  aBin Try.prog .lss 3 p3.1 p12.1 fun v13 =>
  some (v13, p12.2)
  else some (undef, p12.2)).bind fun p14 =>
  cBn (bif (decide (a1 ≥ 0)) then p14.1 else (.bool false)) fun b15 =>
  (bif wantV (.bool b15) true then
  some (a0, p14.2)
  else some (undef, p14.2)).bind fun p16 =>
  (bif wantV (.bool b15) true then
  bif okNil Try.prog p16.1 then
  some (p16.1, p16.2)
  else none
  else some (undef, p16.2)).bind fun p17 =>
  (bif wantV (.bool b15) true then
  fA 0 p17.1 fun v18 =>
  some (v18, p17.2)
  else some (undef, p17.2)).bind fun p19 =>
  (bif wantV (.bool b15) true then
  ld1 p19.1 p19.2 fun v20 =>
  some (v20, p19.2)
  else some (undef, p19.2)).bind fun p21 =>
  (bif wantV (.bool b15) true then
  some ((.int .i64 a1), p21.2)
  else some (undef, p21.2)).bind fun p22 =>
  (bif wantV (.bool b15) true then
  ixSV 1 p21.1 p22.1 fun v23 =>
  some (v23, p22.2)
  else some (undef, p22.2)).bind fun p24 =>
  (bif wantV (.bool b15) true then
  ld1 p24.1 p24.2 fun v25 =>
  cIn .u64 v25 fun n26 =>
  some ((.int .u64 n26), p24.2)
  else some (undef, p24.2)).bind fun p27 =>
  (bif wantV (.bool b15) true then
  some ((.int .u64 a2), p27.2)
  else some (undef, p27.2)).bind fun p28 =>
  (bif wantV (.bool b15) true then
  aBin Try.prog .eql 64 p27.1 p28.1 fun v29 =>
  some (v29, p28.2)
  else some (undef, p28.2)).bind fun p30 =>
  cBn (bif b15 then p30.1 else (.bool false)) fun b31 =>
  bif b31 then
    bif okNil Try.prog a0 then
    fA 1 a0 fun v32 =>
    fA 2 v32 fun v33 =>
    J75_0 rc md h0 a0 (.int .i64 a1) (.int .u64 a2) (.int .u64 a3) v33 p30.2
    else none
  else
    J75_0 rc md h0 a0 (.int .i64 a1) (.int .u64 a2) (.int .u64 a3) v2 p30.2
  else none
noncomputable def F75H (rc : Rec) (md : Md) (X0 : T → Heap → Option (Value × Heap)) (a0 : Value) (a1 : Int) (a2 : Int) (a3 : Int) (h0 : Heap) : Option (Value × Heap) :=
  bif okNil Try.prog a0 then
  fA 1 a0 fun v1 =>
  fA 3 v1 fun v2 =>
  (bif wantV (.bool (decide (a1 ≥ 0))) true then
  some ((.int .i64 a1), h0)
  else some (undef, h0)).bind fun p3 =>
  (bif wantV (.bool (decide (a1 ≥ 0))) true then
  some (a0, p3.2)
  else some (undef, p3.2)).bind fun p4 =>
  (bif wantV (.bool (decide (a1 ≥ 0))) true then
  bif okNil Try.prog p4.1 then
  some (p4.1, p4.2)
  else none
  else some (undef, p4.2)).bind fun p5 =>
  (bif wantV (.bool (decide (a1 ≥ 0))) true then
  fA 0 p5.1 fun v6 =>
  some (v6, p5.2)
  else some (undef, p5.2)).bind fun p7 =>
  (bif wantV (.bool (decide (a1 ≥ 0))) true then
  ld1 p7.1 p7.2 fun v8 =>
  some (v8, p7.2)
  else some (undef, p7.2)).bind fun p9 =>
  (bif wantV (.bool (decide (a1 ≥ 0))) true then
  lenS p9.1 fun v10 =>
  cIn .i64 v10 fun n11 =>
  some ((.int .i64 n11), p9.2)
  else some (undef, p9.2)).bind fun p12 =>
  (bif wantV (.bool (decide (a1 ≥ 0))) true then
  aBin Try.prog .lss 3 p3.1 p12.1 fun v13 =>
  some (v13, p12.2)
  else some (undef, p12.2)).bind fun p14 =>
  cBn (bif (decide (a1 ≥ 0)) then p14.1 else (.bool false)) fun b15 =>
  (bif wantV (.bool b15) true then
  some (a0, p14.2)
  else some (undef, p14.2)).bind fun p16 =>
  (bif wantV (.bool b15) true then
  bif okNil Try.prog p16.1 then
  some (p16.1, p16.2)
  else none
  else some (undef, p16.2)).bind fun p17 =>
  (bif wantV (.bool b15) true then
  fA 0 p17.1 fun v18 =>
  some (v18, p17.2)
  else some (undef, p17.2)).bind fun p19 =>
  (bif wantV (.bool b15) true then
  ld1 p19.1 p19.2 fun v20 =>
  some (v20, p19.2)
  else some (undef, p19.2)).bind fun p21 =>
  (bif wantV (.bool b15) true then
  some ((.int .i64 a1), p21.2)
  else some (undef, p21.2)).bind fun p22 =>
  (bif wantV (.bool b15) true then
  ixSV 1 p21.1 p22.1 fun v23 =>
  some (v23, p22.2)
  else some (undef, p22.2)).bind fun p24 =>
  (bif wantV (.bool b15) true then
  ld1 p24.1 p24.2 fun v25 =>
  cIn .u64 v25 fun n26 =>
  some ((.int .u64 n26), p24.2)
  else some (undef, p24.2)).bind fun p27 =>
  (bif wantV (.bool b15) true then
  some ((.int .u64 a2), p27.2)
  else some (undef, p27.2)).bind fun p28 =>
  (bif wantV (.bool b15) true then
  aBin Try.prog .eql 64 p27.1 p28.1 fun v29 =>
  some (v29, p28.2)
  else some (undef, p28.2)).bind fun p30 =>
  cBn (bif b15 then p30.1 else (.bool false)) fun b31 =>
  bif b31 then
    bif okNil Try.prog a0 then
    fA 1 a0 fun v32 =>
    fA 2 v32 fun v33 =>
    X0 (upd (upd (upd (upd (upd (upd (upd (upd (upd (upd (upd (upd (upd (upd (upd (upd (upd (upd (upd (upd (upd (upd (upd (upd (upd (upd (upd (upd (upd (upd (upd (upd (upd (upd (args0 [a0, (.int .i64 a1), (.int .u64 a2), (.int .u64 a3)]) 8 (.bool false)) 9 (.int .i64 0)) 12 a0) 13 a0) 14 v1) 15 v2) 10 v2) 16 (.int .i64 a1)) 17 (.bool (decide (a1 ≥ 0)))) 18 (.bool (decide (a1 ≥ 0)))) 19 p3.1) 20 p4.1) 21 p5.1) 22 p7.1) 23 p9.1) 24 p12.1) 25 p14.1) 26 (.bool b15)) 27 (.bool b15)) 28 p16.1) 29 p17.1) 30 p19.1) 31 p21.1) 32 p22.1) 33 p24.1) 34 p27.1) 35 p28.1) 36 p30.1) 37 (.bool b31)) 38 a0) 39 a0) 40 v32) 41 v33) 10 v33) p30.2
    else none
  else
    X0 (upd (upd (upd (upd (upd (upd (upd (upd (upd (upd (upd (upd (upd (upd (upd (upd (upd (upd (upd (upd (upd (upd (upd (upd (upd (upd (upd (upd (upd (args0 [a0, (.int .i64 a1), (.int .u64 a2), (.int .u64 a3)]) 8 (.bool false)) 9 (.int .i64 0)) 12 a0) 13 a0) 14 v1) 15 v2) 10 v2) 16 (.int .i64 a1)) 17 (.bool (decide (a1 ≥ 0)))) 18 (.bool (decide (a1 ≥ 0)))) 19 p3.1) 20 p4.1) 21 p5.1) 22 p7.1) 23 p9.1) 24 p12.1) 25 p14.1) 26 (.bool b15)) 27 (.bool b15)) 28 p16.1) 29 p17.1) 30 p19.1) 31 p21.1) 32 p22.1) 33 p24.1) 34 p27.1) 35 p28.1) 36 p30.1) 37 (.bool b31)) p30.2
  else none
theorem F75_h0 (rc : Rec) (md : Md) (a0 : Value) (a1 : Int) (a2 : Int) (a3 : Int) (h0 : Heap) : callStep0 Try.prog cfg rc md 75 [a0, (.int .i64 a1), (.int .u64 a2), (.int .u64 a3)] h0 = exec Try.prog cfg rc ⟨md.ro, h0.length⟩ 56 (bodyOf Try.prog 75) (retK Try.prog cfg 75 (rsOf Try.prog 75) h0) (args0 [a0, (.int .i64 a1), (.int .u64 a2), (.int .u64 a3)]) h0 := callStep0_run (by kernel_rfl) (by kernel_rfl) (by kernel_rfl)
theorem F75_h1 (rc : Rec) (md : Md) (X : Nat → T → Heap → Option (Value × Heap)) (a0 : Value) (a1 : Int) (a2 : Int) (a3 : Int) (h0 : Heap) : execG Try.prog cfg X rc md 56 (replS (bodyOf Try.prog 75) [([1, 1, 1], 0)]) (retK Try.prog cfg 75 (rsOf Try.prog 75) h0) (args0 [a0, (.int .i64 a1), (.int .u64 a2), (.int .u64 a3)]) h0 = F75H rc md (X 0) a0 a1 a2 a3 h0 := by kernel_rfl
theorem F75_h2 (rc : Rec) (md : Md) (a0 : Value) (a1 : Int) (a2 : Int) (a3 : Int) (h0 : Heap) : F75H rc md (fun t h => J75_0 rc md h0 (t 0) (t 1) (t 2) (t 3) (t 10) h) a0 a1 a2 a3 h0 = F75 rc md a0 a1 a2 a3 h0 := by unfold F75H F75; kernel_rfl
theorem F75_eq0 (rc : Rec) (md : Md) (a0 : Value) (a1 : Int) (a2 : Int) (a3 : Int) (h0 : Heap) : callStep0 Try.prog cfg rc md 75 [a0, (.int .i64 a1), (.int .u64 a2), (.int .u64 a3)] h0 = F75 rc ⟨md.ro, h0.length⟩ a0 a1 a2 a3 h0 := by
  rw [F75_h0, exec_holes [([1, 1, 1], 0)] (by kernel_rfl), F75_h1, show (goX Try.prog cfg rc ⟨md.ro, h0.length⟩ 56 (bodyOf Try.prog 75) [([1, 1, 1], 0)] (retK Try.prog cfg 75 (rsOf Try.prog 75) h0)) 0 = _ from J75_0_cut rc ⟨md.ro, h0.length⟩ h0]
  exact F75_h2 rc _ a0 a1 a2 a3 h0
theorem F75_eq (rc : Rec) (md : Md) (a0 : Value) (a1 : Int) (a2 : Int) (a3 : Int) (h0 : Heap) : callStep Try.prog cfg rc md 75 [a0, (.int .i64 a1), (.int .u64 a2), (.int .u64 a3)] h0 = F75 rc ⟨md.ro, h0.length⟩ a0 a1 a2 a3 h0 := (callStep_ne (by kernel_rfl)).trans (F75_eq0 rc md a0 a1 a2 a3 h0)

/-- (*tombolo/cell.Arena).at -/
noncomputable def F77 (rc : Rec) (md : Md) (a0 : Value) (a1 : Int) (a2 : Value) (h0 : Heap) : Option (Value × Heap) :=
  (bif wantV (.bool (decide (a1 < 0))) false then
  some ((.int .i64 a1), h0)
  else some (undef, h0)).bind fun p1 =>
  (bif wantV (.bool (decide (a1 < 0))) false then
  some (a0, p1.2)
  else some (undef, p1.2)).bind fun p2 =>
  (bif wantV (.bool (decide (a1 < 0))) false then
  bif okNil Try.prog p2.1 then
  some (p2.1, p2.2)
  else none
  else some (undef, p2.2)).bind fun p3 =>
  (bif wantV (.bool (decide (a1 < 0))) false then
  fA 0 p3.1 fun v4 =>
  some (v4, p3.2)
  else some (undef, p3.2)).bind fun p5 =>
  (bif wantV (.bool (decide (a1 < 0))) false then
  ld1 p5.1 p5.2 fun v6 =>
  some (v6, p5.2)
  else some (undef, p5.2)).bind fun p7 =>
  (bif wantV (.bool (decide (a1 < 0))) false then
  lenS p7.1 fun v8 =>
  cIn .i64 v8 fun n9 =>
  some ((.int .i64 n9), p7.2)
  else some (undef, p7.2)).bind fun p10 =>
  (bif wantV (.bool (decide (a1 < 0))) false then
  aBin Try.prog .geq 3 p1.1 p10.1 fun v11 =>
  some (v11, p10.2)
  else some (undef, p10.2)).bind fun p12 =>
  cBn (bif (decide (a1 < 0)) then (.bool true) else p12.1) fun b13 =>
  bif b13 then
    some ((.pointer none), List.take h0.length p12.2)
  else
    bif okNil Try.prog a2 then
    ld1 a2 p12.2 fun v14 =>
    cIn .i64 v14 fun n15 =>
    bif okNil Try.prog a2 then
    st md 1 a2 (.int .i64 (IntKind.wrap .i64 (n15 + 1))) p12.2 fun h16 =>
    bif okNil Try.prog a0 then
    fA 0 a0 fun v17 =>
    ld1 v17 h16 fun v18 =>
    ixS 1 v18 a1 fun v19 =>
    fin1 h0 v19 h16
    else none
    else none
    else none
theorem F77_eq0 (rc : Rec) (md : Md) (a0 : Value) (a1 : Int) (a2 : Value) (h0 : Heap) : callStep0 Try.prog cfg rc md 77 [a0, (.int .i64 a1), a2] h0 = F77 rc ⟨md.ro, h0.length⟩ a0 a1 a2 h0 := by kernel_rfl
theorem F77_eq (rc : Rec) (md : Md) (a0 : Value) (a1 : Int) (a2 : Value) (h0 : Heap) : callStep Try.prog cfg rc md 77 [a0, (.int .i64 a1), a2] h0 = F77 rc ⟨md.ro, h0.length⟩ a0 a1 a2 h0 := (callStep_ne (by kernel_rfl)).trans (F77_eq0 rc md a0 a1 a2 h0)

/-- (tombolo/lay.Lay).Field -/
noncomputable def F78 (rc : Rec) (md : Md) (a0_0 : Int) (a0_1 : Int) (a0_2 : Int) (a1 : Int) (a2 : Int) (h0 : Heap) : Option (Value × Heap) :=
  let h1 : Heap := h0 ++ [.own [(.int .i64 a0_0), (.int .i64 a0_1), (.int .i64 a0_2)]]
  ldN 3 (.pointer (some ⟨h0.length, 0, none⟩)) h1 fun v2 =>
  cl (rc md 94 [v2] h1) fun v3 h4 =>
  cIn .i64 v3 fun n5 =>
  cl (rc md 87 [(.int .i64 (IntKind.wrap .i64 (a1 - 1))), (.int .i64 n5)] h4) fun v6 h7 =>
  cBn v6 fun b8 =>
  (bif wantV (.bool (!b8)) false then
  some ((.int .i64 a2), h7)
  else some (undef, h7)).bind fun p9 =>
  (bif wantV (.bool (!b8)) false then
  cl (rc md 87 [p9.1, (.int .i64 7)] p9.2) fun v10 h11 =>
  cBn v10 fun b12 =>
  some ((.bool b12), h11)
  else some (undef, p9.2)).bind fun p13 =>
  (bif wantV (.bool (!b8)) false then
  aUn .not p13.1 fun v14 =>
  some (v14, p13.2)
  else some (undef, p13.2)).bind fun p15 =>
  cBn (bif !b8 then (.bool true) else p15.1) fun b16 =>
  bif b16 then
    some ((.int .i64 (-1)), h0)
  else
    ldN 3 (.pointer (some ⟨h0.length, 0, none⟩)) p15.2 fun v17 =>
    cl (rc md 93 [v17] p15.2) fun v18 h19 =>
    cIn .i64 v18 fun n20 =>
    some ((.int .i64 (IntKind.wrap .i64 ((IntKind.wrap .i64 (n20 + (IntKind.wrap .i64 ((IntKind.wrap .i64 (a1 - 1)) * 7)))) + a2))), h0)
theorem F78_eq0 (rc : Rec) (md : Md) (a0_0 : Int) (a0_1 : Int) (a0_2 : Int) (a1 : Int) (a2 : Int) (h0 : Heap) : callStep0 Try.prog cfg rc md 78 [(.agg #[(.int .i64 a0_0), (.int .i64 a0_1), (.int .i64 a0_2)]), (.int .i64 a1), (.int .i64 a2)] h0 = F78 rc ⟨h0.length, h0.length⟩ a0_0 a0_1 a0_2 a1 a2 h0 := by kernel_rfl
theorem F78_eq (rc : Rec) (md : Md) (a0_0 : Int) (a0_1 : Int) (a0_2 : Int) (a1 : Int) (a2 : Int) (h0 : Heap) : callStep Try.prog cfg rc md 78 [(.agg #[(.int .i64 a0_0), (.int .i64 a0_1), (.int .i64 a0_2)]), (.int .i64 a1), (.int .i64 a2)] h0 = alone h0 (F78 rc ⟨0, 0⟩ a0_0 a0_1 a0_2 a1 a2 []) := by
  have e : callStep Try.prog cfg rc md 78 [(.agg #[(.int .i64 a0_0), (.int .i64 a0_1), (.int .i64 a0_2)]), (.int .i64 a1), (.int .i64 a2)] h0 = alone h0 (callStep0 Try.prog cfg rc ⟨0, 0⟩ 78 [(.agg #[(.int .i64 a0_0), (.int .i64 a0_1), (.int .i64 a0_2)]), (.int .i64 a1), (.int .i64 a2)] []) := by kernel_rfl
  rw [e, F78_eq0]; rfl

/-- (tombolo/ptr.Pen).state -/
noncomputable def F79 (rc : Rec) (md : Md) (a0_0 : Int) (a0_1 : Int) (a1 : Value) (a2_0 : Int) (a2_1 : Int) (a2_2 : Int) (a3 : Int) (a4 : Bool) (h0 : Heap) : Option (Value × Heap) :=
  let h1 : Heap := h0 ++ [.own [(.int .i64 a0_0), (.int .i64 a0_1)]]
  let h2 : Heap := h1 ++ [.own [(.int .i64 a2_0), (.int .i64 a2_1), (.int .i64 a2_2)]]
  cl (rc md 96 [(.int .i64 a3), (.bool a4)] h2) fun v3 h4 =>
  exT v3 0 fun v5 =>
  cIn .u64 v5 fun n6 =>
  exT v3 1 fun v7 =>
  cIn .i64 v7 fun n8 =>
  bif (n8 == 0) then
    ldN 3 (.pointer (some ⟨h1.length, 0, none⟩)) h4 fun v9 =>
    ld1 (.pointer (some ⟨h0.length, 0, none⟩)) h4 fun v10 =>
    cIn .i64 v10 fun n11 =>
    cl (rc md 49 [v9, (.int .i64 n11)] h4) fun v12 h13 =>
    cIn .i64 v12 fun n14 =>
    bif okNil Try.prog (.func (.method "Store") #[a1] #[]) then
    clI Try.prog rc md a1 "Store" [(.int .i64 n14), (.int .u64 n6)] h13 fun v15 h16 =>
    some ((.tuple #[]), List.take h0.length h16)
    else none
  else
    some ((.tuple #[]), List.take h0.length h4)
theorem F79_eq0 (rc : Rec) (md : Md) (a0_0 : Int) (a0_1 : Int) (a1 : Value) (a2_0 : Int) (a2_1 : Int) (a2_2 : Int) (a3 : Int) (a4 : Bool) (h0 : Heap) : callStep0 Try.prog cfg rc md 79 [(.agg #[(.int .i64 a0_0), (.int .i64 a0_1)]), a1, (.agg #[(.int .i64 a2_0), (.int .i64 a2_1), (.int .i64 a2_2)]), (.int .i64 a3), (.bool a4)] h0 = F79 rc ⟨md.ro, h0.length⟩ a0_0 a0_1 a1 a2_0 a2_1 a2_2 a3 a4 h0 := by kernel_rfl
theorem F79_eq (rc : Rec) (md : Md) (a0_0 : Int) (a0_1 : Int) (a1 : Value) (a2_0 : Int) (a2_1 : Int) (a2_2 : Int) (a3 : Int) (a4 : Bool) (h0 : Heap) : callStep Try.prog cfg rc md 79 [(.agg #[(.int .i64 a0_0), (.int .i64 a0_1)]), a1, (.agg #[(.int .i64 a2_0), (.int .i64 a2_1), (.int .i64 a2_2)]), (.int .i64 a3), (.bool a4)] h0 = F79 rc ⟨md.ro, h0.length⟩ a0_0 a0_1 a1 a2_0 a2_1 a2_2 a3 a4 h0 := (callStep_ne (by kernel_rfl)).trans (F79_eq0 rc md a0_0 a0_1 a1 a2_0 a2_1 a2_2 a3 a4 h0)

/-- tombolo/ptr.change -/
noncomputable def F80 (rc : Rec) (md : Md) (a0 : Value) (a1 : Int) (a2 : Value) (h0 : Heap) : Option (Value × Heap) :=
  clI Try.prog rc md a0 "Load" [(.int .i64 a1)] h0 fun v1 h2 =>
  cIn .u64 v1 fun n3 =>
  cl (rc md 84 [(.int .u64 n3)] h2) fun v4 h5 =>
  exT v4 0 fun v6 =>
  exT v4 1 fun v7 =>
  cIn .i64 v7 fun n8 =>
  let h9 : Heap := h5 ++ [.own [(.int .i64 0), (.int .i64 0), (.int .i64 0), (.int .i64 0)]]
  st md 4 (.pointer (some ⟨h5.length, 0, none⟩)) v6 h9 fun h10 =>
  bif (n8 != 0) then
    some ((.tuple #[]), List.take h0.length h10)
  else
    ldN 4 (.pointer (some ⟨h5.length, 0, none⟩)) h10 fun v11 =>
    clV rc md a2 [v11] h10 fun v12 h13 =>
    cl (rc md 97 [v12] h13) fun v14 h15 =>
    exT v14 0 fun v16 =>
    cIn .u64 v16 fun n17 =>
    exT v14 1 fun v18 =>
    cIn .i64 v18 fun n19 =>
    bif (n19 == 0) then
      clI Try.prog rc md a0 "Store" [(.int .i64 a1), (.int .u64 n17)] h15 fun v20 h21 =>
      some ((.tuple #[]), List.take h0.length h21)
    else
      some ((.tuple #[]), List.take h0.length h15)
theorem F80_eq0 (rc : Rec) (md : Md) (a0 : Value) (a1 : Int) (a2 : Value) (h0 : Heap) : callStep0 Try.prog cfg rc md 80 [a0, (.int .i64 a1), a2] h0 = F80 rc ⟨md.ro, h0.length⟩ a0 a1 a2 h0 := by kernel_rfl
theorem F80_eq (rc : Rec) (md : Md) (a0 : Value) (a1 : Int) (a2 : Value) (h0 : Heap) : callStep Try.prog cfg rc md 80 [a0, (.int .i64 a1), a2] h0 = F80 rc ⟨md.ro, h0.length⟩ a0 a1 a2 h0 := (callStep_ne (by kernel_rfl)).trans (F80_eq0 rc md a0 a1 a2 h0)

/-- (tombolo/ptr.Pen).Write$1 -/
noncomputable def J81_0 (rc : Rec) (md : Md) (h0 : Heap) (s1 : Value) (s2 : Value) (s3 : Value) (s4 : Value) (h : Heap) : Option (Value × Heap) :=
  fA 0 s3 fun v1 =>
  ld1 v1 h fun v2 =>
  cIn .i64 v2 fun n3 =>
  ld1 s2 h fun v4 =>
  cIn .i64 v4 fun n5 =>
  fA 0 s1 fun v6 =>
  ld1 v6 h fun v7 =>
  cIn .i64 v7 fun n8 =>
  fA 1 s1 fun v9 =>
  ld1 v9 h fun v10 =>
  cIn .i64 v10 fun n11 =>
  st md 4 s4 (.agg #[(.int .i64 n3), (.int .i64 n5), (.int .i64 n8), (.int .i64 n11)]) h fun h12 =>
  ldN 4 s4 h12 fun v13 =>
  fin2 h0 v13
theorem J81_0_at (rc : Rec) (md : Md) (h0 : Heap) (t : T) (h : Heap) : cut Try.prog cfg rc md 28 (bodyOf Try.prog 81) [1, 1] (retK Try.prog cfg 81 (rsOf Try.prog 81) h0) t h = J81_0 rc md h0 (t 1) (t 2) (t 3) (t 4) h := by kernel_rfl
theorem J81_0_cut (rc : Rec) (md : Md) (h0 : Heap) : cut Try.prog cfg rc md 28 (bodyOf Try.prog 81) [1, 1] (retK Try.prog cfg 81 (rsOf Try.prog 81) h0) = fun t h => J81_0 rc md h0 (t 1) (t 2) (t 3) (t 4) h := funext fun t => funext fun h => J81_0_at rc md h0 t h
noncomputable def F81 (rc : Rec) (md : Md) (a0_0 : Int) (a0_1 : Int) (a0_2 : Int) (a0_3 : Int) (c0 : Value) (c1 : Value) (h0 : Heap) : Option (Value × Heap) :=
  let h1 : Heap := h0 ++ [.own [(.int .i64 a0_0), (.int .i64 a0_1), (.int .i64 a0_2), (.int .i64 a0_3)]]
  let h2 : Heap := h1 ++ [.own [(.int .i64 0), (.int .i64 0), (.int .i64 0), (.int .i64 0)]]
  ld1 (.pointer (some ⟨h0.length, 2, none⟩)) h2 fun v3 =>
  cIn .i64 v3 fun n4 =>
  fA 0 c0 fun v5 =>
  ld1 v5 h2 fun v6 =>
  cIn .i64 v6 fun n7 =>
  (bif wantV (.bool (n4 != n7)) false then
  some ((.pointer (some ⟨h0.length, 3, none⟩)), h2)
  else some (undef, h2)).bind fun p8 =>
  (bif wantV (.bool (n4 != n7)) false then
  ld1 p8.1 p8.2 fun v9 =>
  cIn .i64 v9 fun n10 =>
  some ((.int .i64 n10), p8.2)
  else some (undef, p8.2)).bind fun p11 =>
  (bif wantV (.bool (n4 != n7)) false then
  fA 1 c0 fun v12 =>
  some (v12, p11.2)
  else some (undef, p11.2)).bind fun p13 =>
  (bif wantV (.bool (n4 != n7)) false then
  ld1 p13.1 p13.2 fun v14 =>
  cIn .i64 v14 fun n15 =>
  some ((.int .i64 n15), p13.2)
  else some (undef, p13.2)).bind fun p16 =>
  (bif wantV (.bool (n4 != n7)) false then
  aBin Try.prog .neq 3 p11.1 p16.1 fun v17 =>
  some (v17, p16.2)
  else some (undef, p16.2)).bind fun p18 =>
  cBn (bif (n4 != n7) then (.bool true) else p18.1) fun b19 =>
  bif b19 then
    ld1 (.pointer (some ⟨h0.length, 1, none⟩)) p18.2 fun v20 =>
    cIn .i64 v20 fun n21 =>
    st md 1 (.pointer (some ⟨h0.length, 0, none⟩)) (.int .i64 n21) p18.2 fun h22 =>
    J81_0 rc md h0 c0 c1 (.pointer (some ⟨h0.length, 0, none⟩)) (.pointer (some ⟨h1.length, 0, none⟩)) h22
  else
    J81_0 rc md h0 c0 c1 (.pointer (some ⟨h0.length, 0, none⟩)) (.pointer (some ⟨h1.length, 0, none⟩)) p18.2
noncomputable def F81H (rc : Rec) (md : Md) (X0 : T → Heap → Option (Value × Heap)) (a0_0 : Int) (a0_1 : Int) (a0_2 : Int) (a0_3 : Int) (c0 : Value) (c1 : Value) (h0 : Heap) : Option (Value × Heap) :=
  let h1 : Heap := h0 ++ [.own [(.int .i64 a0_0), (.int .i64 a0_1), (.int .i64 a0_2), (.int .i64 a0_3)]]
  let h2 : Heap := h1 ++ [.own [(.int .i64 0), (.int .i64 0), (.int .i64 0), (.int .i64 0)]]
  ld1 (.pointer (some ⟨h0.length, 2, none⟩)) h2 fun v3 =>
  cIn .i64 v3 fun n4 =>
  fA 0 c0 fun v5 =>
  ld1 v5 h2 fun v6 =>
  cIn .i64 v6 fun n7 =>
  (bif wantV (.bool (n4 != n7)) false then
  some ((.pointer (some ⟨h0.length, 3, none⟩)), h2)
  else some (undef, h2)).bind fun p8 =>
  (bif wantV (.bool (n4 != n7)) false then
  ld1 p8.1 p8.2 fun v9 =>
  cIn .i64 v9 fun n10 =>
  some ((.int .i64 n10), p8.2)
  else some (undef, p8.2)).bind fun p11 =>
  (bif wantV (.bool (n4 != n7)) false then
  fA 1 c0 fun v12 =>
  some (v12, p11.2)
  else some (undef, p11.2)).bind fun p13 =>
  (bif wantV (.bool (n4 != n7)) false then
  ld1 p13.1 p13.2 fun v14 =>
  cIn .i64 v14 fun n15 =>
  some ((.int .i64 n15), p13.2)
  else some (undef, p13.2)).bind fun p16 =>
  (bif wantV (.bool (n4 != n7)) false then
  aBin Try.prog .neq 3 p11.1 p16.1 fun v17 =>
  some (v17, p16.2)
  else some (undef, p16.2)).bind fun p18 =>
  cBn (bif (n4 != n7) then (.bool true) else p18.1) fun b19 =>
  bif b19 then
    ld1 (.pointer (some ⟨h0.length, 1, none⟩)) p18.2 fun v20 =>
    cIn .i64 v20 fun n21 =>
    st md 1 (.pointer (some ⟨h0.length, 0, none⟩)) (.int .i64 n21) p18.2 fun h22 =>
    X0 (upd (upd (upd (upd (upd (upd (upd (upd (upd (upd (upd (upd (upd (upd (upd (upd (upd (args0 [(.agg #[(.int .i64 a0_0), (.int .i64 a0_1), (.int .i64 a0_2), (.int .i64 a0_3)]), c0, c1]) 3 (.pointer (some ⟨h0.length, 0, none⟩))) 4 (.pointer (some ⟨h1.length, 0, none⟩))) 5 (.pointer (some ⟨h0.length, 2, none⟩))) 6 (.int .i64 n4)) 7 v5) 8 (.int .i64 n7)) 9 (.bool (n4 != n7))) 10 (.bool (n4 != n7))) 11 p8.1) 12 p11.1) 13 p13.1) 14 p16.1) 15 p18.1) 16 (.bool b19)) 17 (.pointer (some ⟨h0.length, 1, none⟩))) 18 (.int .i64 n21)) 19 (.pointer (some ⟨h0.length, 0, none⟩))) h22
  else
    X0 (upd (upd (upd (upd (upd (upd (upd (upd (upd (upd (upd (upd (upd (upd (args0 [(.agg #[(.int .i64 a0_0), (.int .i64 a0_1), (.int .i64 a0_2), (.int .i64 a0_3)]), c0, c1]) 3 (.pointer (some ⟨h0.length, 0, none⟩))) 4 (.pointer (some ⟨h1.length, 0, none⟩))) 5 (.pointer (some ⟨h0.length, 2, none⟩))) 6 (.int .i64 n4)) 7 v5) 8 (.int .i64 n7)) 9 (.bool (n4 != n7))) 10 (.bool (n4 != n7))) 11 p8.1) 12 p11.1) 13 p13.1) 14 p16.1) 15 p18.1) 16 (.bool b19)) p18.2
theorem F81_h0 (rc : Rec) (md : Md) (a0_0 : Int) (a0_1 : Int) (a0_2 : Int) (a0_3 : Int) (c0 : Value) (c1 : Value) (h0 : Heap) : callStep0 Try.prog cfg rc md 81 [(.agg #[(.int .i64 a0_0), (.int .i64 a0_1), (.int .i64 a0_2), (.int .i64 a0_3)]), c0, c1] h0 = exec Try.prog cfg rc ⟨h0.length, h0.length⟩ 28 (bodyOf Try.prog 81) (retK Try.prog cfg 81 (rsOf Try.prog 81) h0) (args0 [(.agg #[(.int .i64 a0_0), (.int .i64 a0_1), (.int .i64 a0_2), (.int .i64 a0_3)]), c0, c1]) h0 := callStep0_run (by kernel_rfl) (by kernel_rfl) (by kernel_rfl)
theorem F81_h1 (rc : Rec) (md : Md) (X : Nat → T → Heap → Option (Value × Heap)) (a0_0 : Int) (a0_1 : Int) (a0_2 : Int) (a0_3 : Int) (c0 : Value) (c1 : Value) (h0 : Heap) : execG Try.prog cfg X rc md 28 (replS (bodyOf Try.prog 81) [([1, 1], 0)]) (retK Try.prog cfg 81 (rsOf Try.prog 81) h0) (args0 [(.agg #[(.int .i64 a0_0), (.int .i64 a0_1), (.int .i64 a0_2), (.int .i64 a0_3)]), c0, c1]) h0 = F81H rc md (X 0) a0_0 a0_1 a0_2 a0_3 c0 c1 h0 := by kernel_rfl
theorem F81_h2 (rc : Rec) (md : Md) (a0_0 : Int) (a0_1 : Int) (a0_2 : Int) (a0_3 : Int) (c0 : Value) (c1 : Value) (h0 : Heap) : F81H rc md (fun t h => J81_0 rc md h0 (t 1) (t 2) (t 3) (t 4) h) a0_0 a0_1 a0_2 a0_3 c0 c1 h0 = F81 rc md a0_0 a0_1 a0_2 a0_3 c0 c1 h0 := by unfold F81H F81; kernel_rfl
theorem F81_eq0 (rc : Rec) (md : Md) (a0_0 : Int) (a0_1 : Int) (a0_2 : Int) (a0_3 : Int) (c0 : Value) (c1 : Value) (h0 : Heap) : callStep0 Try.prog cfg rc md 81 [(.agg #[(.int .i64 a0_0), (.int .i64 a0_1), (.int .i64 a0_2), (.int .i64 a0_3)]), c0, c1] h0 = F81 rc ⟨h0.length, h0.length⟩ a0_0 a0_1 a0_2 a0_3 c0 c1 h0 := by
  rw [F81_h0, exec_holes [([1, 1], 0)] (by kernel_rfl), F81_h1, show (goX Try.prog cfg rc ⟨h0.length, h0.length⟩ 28 (bodyOf Try.prog 81) [([1, 1], 0)] (retK Try.prog cfg 81 (rsOf Try.prog 81) h0)) 0 = _ from J81_0_cut rc ⟨h0.length, h0.length⟩ h0]
  exact F81_h2 rc _ a0_0 a0_1 a0_2 a0_3 c0 c1 h0
theorem F81_eq (rc : Rec) (md : Md) (a0_0 : Int) (a0_1 : Int) (a0_2 : Int) (a0_3 : Int) (c0 : Value) (c1 : Value) (h0 : Heap) : callStep Try.prog cfg rc md 81 [(.agg #[(.int .i64 a0_0), (.int .i64 a0_1), (.int .i64 a0_2), (.int .i64 a0_3)]), c0, c1] h0 = F81 rc ⟨h0.length, h0.length⟩ a0_0 a0_1 a0_2 a0_3 c0 c1 h0 := (callStep_ne (by kernel_rfl)).trans (F81_eq0 rc md a0_0 a0_1 a0_2 a0_3 c0 c1 h0)

/-- (tombolo/ptr.Pen).Clean$1 -/
noncomputable def F82 (rc : Rec) (md : Md) (a0_0 : Int) (a0_1 : Int) (a0_2 : Int) (a0_3 : Int) (h0 : Heap) : Option (Value × Heap) :=
  let h1 : Heap := h0 ++ [.own [(.int .i64 a0_0), (.int .i64 a0_1), (.int .i64 a0_2), (.int .i64 a0_3)]]
  let h2 : Heap := h1 ++ [.own [(.int .i64 0), (.int .i64 0), (.int .i64 0), (.int .i64 0)]]
  ld1 (.pointer (some ⟨h0.length, 1, none⟩)) h2 fun v3 =>
  cIn .i64 v3 fun n4 =>
  cl (rc md 83 [(.int .i64 n4)] h2) fun v5 h6 =>
  st md 4 (.pointer (some ⟨h1.length, 0, none⟩)) v5 h6 fun h7 =>
  ldN 4 (.pointer (some ⟨h1.length, 0, none⟩)) h7 fun v8 =>
  fin2 h0 v8
theorem F82_eq0 (rc : Rec) (md : Md) (a0_0 : Int) (a0_1 : Int) (a0_2 : Int) (a0_3 : Int) (h0 : Heap) : callStep0 Try.prog cfg rc md 82 [(.agg #[(.int .i64 a0_0), (.int .i64 a0_1), (.int .i64 a0_2), (.int .i64 a0_3)])] h0 = F82 rc ⟨h0.length, h0.length⟩ a0_0 a0_1 a0_2 a0_3 h0 := by kernel_rfl
theorem F82_eq (rc : Rec) (md : Md) (a0_0 : Int) (a0_1 : Int) (a0_2 : Int) (a0_3 : Int) (h0 : Heap) : callStep Try.prog cfg rc md 82 [(.agg #[(.int .i64 a0_0), (.int .i64 a0_1), (.int .i64 a0_2), (.int .i64 a0_3)])] h0 = F82 rc ⟨h0.length, h0.length⟩ a0_0 a0_1 a0_2 a0_3 h0 := (callStep_ne (by kernel_rfl)).trans (F82_eq0 rc md a0_0 a0_1 a0_2 a0_3 h0)

/-- tombolo/word.Of -/
noncomputable def F83 (rc : Rec) (md : Md) (a0 : Int) (h0 : Heap) : Option (Value × Heap) :=
  let h1 : Heap := h0 ++ [.own [(.int .i64 0), (.int .i64 0), (.int .i64 0), (.int .i64 0)]]
  st md 4 (.pointer (some ⟨h0.length, 0, none⟩)) (.agg #[(.int .i64 (if 65535 < (if 0 > a0 then 0 else a0) then 65535 else (if 0 > a0 then 0 else a0))), (.int .i64 (if 65535 < (if 0 > a0 then 0 else a0) then 65535 else (if 0 > a0 then 0 else a0))), (.int .i64 0), (.int .i64 0)]) h1 fun h2 =>
  ldN 4 (.pointer (some ⟨h0.length, 0, none⟩)) h2 fun v3 =>
  fin2 h0 v3
theorem F83_eq0 (rc : Rec) (md : Md) (a0 : Int) (h0 : Heap) : callStep0 Try.prog cfg rc md 83 [(.int .i64 a0)] h0 = F83 rc ⟨h0.length, h0.length⟩ a0 h0 := by kernel_rfl
theorem F83_eq (rc : Rec) (md : Md) (a0 : Int) (h0 : Heap) : callStep Try.prog cfg rc md 83 [(.int .i64 a0)] h0 = alone h0 (F83 rc ⟨0, 0⟩ a0 []) := by
  have e : callStep Try.prog cfg rc md 83 [(.int .i64 a0)] h0 = alone h0 (callStep0 Try.prog cfg rc ⟨0, 0⟩ 83 [(.int .i64 a0)] []) := by kernel_rfl
  rw [e, F83_eq0]; rfl

/-- tombolo/word.Unpack -/
noncomputable def F84 (rc : Rec) (md : Md) (a0 : Int) (h0 : Heap) : Option (Value × Heap) :=
  let h1 : Heap := h0 ++ [.own [(.int .i64 0), (.int .i64 0), (.int .i64 0), (.int .i64 0)]]
  cl (rc md 98 [(.int .u64 a0), (.int .i64 0), (.int .i64 16)] h1) fun v2 h3 =>
  cIn .i64 v2 fun n4 =>
  cl (rc md 98 [(.int .u64 a0), (.int .i64 16), (.int .i64 16)] h3) fun v5 h6 =>
  cIn .i64 v5 fun n7 =>
  cl (rc md 98 [(.int .u64 a0), (.int .i64 32), (.int .i64 8)] h6) fun v8 h9 =>
  cIn .i64 v8 fun n10 =>
  let h11 : Heap := h9 ++ [.own [(.int .i64 0), (.int .i64 0), (.int .i64 0), (.int .i64 0)]]
  st md 4 (.pointer (some ⟨h9.length, 0, none⟩)) (.agg #[(.int .i64 n7), (.int .i64 n4), (.int .i64 n10), (.int .i64 (IntKind.wrap .i64 (Int.fdiv a0 (2 ^ 40))))]) h11 fun h12 =>
  ldN 4 (.pointer (some ⟨h9.length, 0, none⟩)) h12 fun v13 =>
  cl (rc md 99 [v13] h12) fun v14 h15 =>
  cBn v14 fun b16 =>
  bif !b16 then
    st md 4 (.pointer (some ⟨h0.length, 0, none⟩)) (.agg #[(.int .i64 0), (.int .i64 0), (.int .i64 0), (.int .i64 0)]) h15 fun h17 =>
    ldN 4 (.pointer (some ⟨h0.length, 0, none⟩)) h17 fun v18 =>
    fin2 h0 (.tuple #[v18, (.int .i64 21)])
  else
    ldN 4 (.pointer (some ⟨h9.length, 0, none⟩)) h15 fun v19 =>
    st md 4 (.pointer (some ⟨h0.length, 0, none⟩)) v19 h15 fun h20 =>
    ldN 4 (.pointer (some ⟨h0.length, 0, none⟩)) h20 fun v21 =>
    fin2 h0 (.tuple #[v21, (.int .i64 0)])
theorem F84_eq0 (rc : Rec) (md : Md) (a0 : Int) (h0 : Heap) : callStep0 Try.prog cfg rc md 84 [(.int .u64 a0)] h0 = F84 rc ⟨h0.length, h0.length⟩ a0 h0 := by kernel_rfl
theorem F84_eq (rc : Rec) (md : Md) (a0 : Int) (h0 : Heap) : callStep Try.prog cfg rc md 84 [(.int .u64 a0)] h0 = alone h0 (F84 rc ⟨0, 0⟩ a0 []) := by
  have e : callStep Try.prog cfg rc md 84 [(.int .u64 a0)] h0 = alone h0 (callStep0 Try.prog cfg rc ⟨0, 0⟩ 84 [(.int .u64 a0)] []) := by kernel_rfl
  rw [e, F84_eq0]; rfl

/-- (tombolo/word.Word).Plain -/
noncomputable def F85 (rc : Rec) (md : Md) (a0_0 : Int) (a0_1 : Int) (a0_2 : Int) (a0_3 : Int) (h0 : Heap) : Option (Value × Heap) :=
  let h1 : Heap := h0 ++ [.own [(.int .i64 a0_0), (.int .i64 a0_1), (.int .i64 a0_2), (.int .i64 a0_3)]]
  ld1 (.pointer (some ⟨h0.length, 2, none⟩)) h1 fun v2 =>
  cIn .i64 v2 fun n3 =>
  some ((.bool (n3 == 0)), h0)
theorem F85_eq0 (rc : Rec) (md : Md) (a0_0 : Int) (a0_1 : Int) (a0_2 : Int) (a0_3 : Int) (h0 : Heap) : callStep0 Try.prog cfg rc md 85 [(.agg #[(.int .i64 a0_0), (.int .i64 a0_1), (.int .i64 a0_2), (.int .i64 a0_3)])] h0 = F85 rc ⟨h0.length, h0.length⟩ a0_0 a0_1 a0_2 a0_3 h0 := by kernel_rfl
theorem F85_eq (rc : Rec) (md : Md) (a0_0 : Int) (a0_1 : Int) (a0_2 : Int) (a0_3 : Int) (h0 : Heap) : callStep Try.prog cfg rc md 85 [(.agg #[(.int .i64 a0_0), (.int .i64 a0_1), (.int .i64 a0_2), (.int .i64 a0_3)])] h0 = alone h0 (F85 rc ⟨0, 0⟩ a0_0 a0_1 a0_2 a0_3 []) := by
  have e : callStep Try.prog cfg rc md 85 [(.agg #[(.int .i64 a0_0), (.int .i64 a0_1), (.int .i64 a0_2), (.int .i64 a0_3)])] h0 = alone h0 (callStep0 Try.prog cfg rc ⟨0, 0⟩ 85 [(.agg #[(.int .i64 a0_0), (.int .i64 a0_1), (.int .i64 a0_2), (.int .i64 a0_3)])] []) := by kernel_rfl
  rw [e, F85_eq0]; rfl

/-- tombolo/ptr.means -/
noncomputable def F86 (rc : Rec) (md : Md) (a0_0 : Int) (a0_1 : Int) (a0_2 : Int) (a0_3 : Int) (a1 : Int) (h0 : Heap) : Option (Value × Heap) :=
  let h1 : Heap := h0 ++ [.own [(.int .i64 a0_0), (.int .i64 a0_1), (.int .i64 a0_2), (.int .i64 a0_3)]]
  cl (rc md 100 [(.int .u64 a1)] h1) fun v2 h3 =>
  exT v2 0 fun v4 =>
  cIn .i64 v4 fun n5 =>
  exT v2 1 fun v6 =>
  cBn v6 fun b7 =>
  exT v2 2 fun v8 =>
  cIn .i64 v8 fun n9 =>
  bif (n9 != 0) then
    some ((.int .i64 0), h0)
  else
    ldN 4 (.pointer (some ⟨h0.length, 0, none⟩)) h3 fun v10 =>
    cl (rc md 101 [v10, (.int .i64 n5), (.bool b7)] h3) fun v11 h12 =>
    cIn .i64 v11 fun n13 =>
    some ((.int .i64 n13), h0)
theorem F86_eq0 (rc : Rec) (md : Md) (a0_0 : Int) (a0_1 : Int) (a0_2 : Int) (a0_3 : Int) (a1 : Int) (h0 : Heap) : callStep0 Try.prog cfg rc md 86 [(.agg #[(.int .i64 a0_0), (.int .i64 a0_1), (.int .i64 a0_2), (.int .i64 a0_3)]), (.int .u64 a1)] h0 = F86 rc ⟨h0.length, h0.length⟩ a0_0 a0_1 a0_2 a0_3 a1 h0 := by kernel_rfl
theorem F86_eq (rc : Rec) (md : Md) (a0_0 : Int) (a0_1 : Int) (a0_2 : Int) (a0_3 : Int) (a1 : Int) (h0 : Heap) : callStep Try.prog cfg rc md 86 [(.agg #[(.int .i64 a0_0), (.int .i64 a0_1), (.int .i64 a0_2), (.int .i64 a0_3)]), (.int .u64 a1)] h0 = alone h0 (F86 rc ⟨0, 0⟩ a0_0 a0_1 a0_2 a0_3 a1 []) := by
  have e : callStep Try.prog cfg rc md 86 [(.agg #[(.int .i64 a0_0), (.int .i64 a0_1), (.int .i64 a0_2), (.int .i64 a0_3)]), (.int .u64 a1)] h0 = alone h0 (callStep0 Try.prog cfg rc ⟨0, 0⟩ 86 [(.agg #[(.int .i64 a0_0), (.int .i64 a0_1), (.int .i64 a0_2), (.int .i64 a0_3)]), (.int .u64 a1)] []) := by kernel_rfl
  rw [e, F86_eq0]; rfl

/-- tombolo/lay.below -/
noncomputable def F87 (rc : Rec) (md : Md) (a0 : Int) (a1 : Int) (h0 : Heap) : Option (Value × Heap) :=
  (bif wantV (.bool (decide (a0 ≥ 0))) true then
  some ((.int .i64 a0), h0)
  else some (undef, h0)).bind fun p1 =>
  (bif wantV (.bool (decide (a0 ≥ 0))) true then
  some ((.int .i64 a1), p1.2)
  else some (undef, p1.2)).bind fun p2 =>
  (bif wantV (.bool (decide (a0 ≥ 0))) true then
  aBin Try.prog .lss 3 p1.1 p2.1 fun v3 =>
  some (v3, p2.2)
  else some (undef, p2.2)).bind fun p4 =>
  cBn (bif (decide (a0 ≥ 0)) then p4.1 else (.bool false)) fun b5 =>
  some ((.bool b5), h0)
theorem F87_eq0 (rc : Rec) (md : Md) (a0 : Int) (a1 : Int) (h0 : Heap) : callStep0 Try.prog cfg rc md 87 [(.int .i64 a0), (.int .i64 a1)] h0 = F87 rc ⟨h0.length, h0.length⟩ a0 a1 h0 := by kernel_rfl
theorem F87_eq (rc : Rec) (md : Md) (a0 : Int) (a1 : Int) (h0 : Heap) : callStep Try.prog cfg rc md 87 [(.int .i64 a0), (.int .i64 a1)] h0 = alone h0 (F87 rc ⟨0, 0⟩ a0 a1 []) := by
  have e : callStep Try.prog cfg rc md 87 [(.int .i64 a0), (.int .i64 a1)] h0 = alone h0 (callStep0 Try.prog cfg rc ⟨0, 0⟩ 87 [(.int .i64 a0), (.int .i64 a1)] []) := by kernel_rfl
  rw [e, F87_eq0]; rfl

/-- (tombolo/lay.Lay).nodes -/
noncomputable def F93 (rc : Rec) (md : Md) (a0_0 : Int) (a0_1 : Int) (a0_2 : Int) (h0 : Heap) : Option (Value × Heap) :=
  let h1 : Heap := h0 ++ [.own [(.int .i64 a0_0), (.int .i64 a0_1), (.int .i64 a0_2)]]
  ldN 3 (.pointer (some ⟨h0.length, 0, none⟩)) h1 fun v2 =>
  cl (rc md 104 [v2] h1) fun v3 h4 =>
  cIn .i64 v3 fun n5 =>
  ld1 (.pointer (some ⟨h0.length, 0, none⟩)) h4 fun v6 =>
  cIn .i64 v6 fun n7 =>
  ld1 (.pointer (some ⟨h0.length, 0, none⟩)) h4 fun v8 =>
  cIn .i64 v8 fun n9 =>
  some ((.int .i64 (IntKind.wrap .i64 (n5 + (IntKind.wrap .i64 (Int.tdiv (IntKind.wrap .i64 (n7 * (IntKind.wrap .i64 (n9 - 1)))) 2))))), h0)
theorem F93_eq0 (rc : Rec) (md : Md) (a0_0 : Int) (a0_1 : Int) (a0_2 : Int) (h0 : Heap) : callStep0 Try.prog cfg rc md 93 [(.agg #[(.int .i64 a0_0), (.int .i64 a0_1), (.int .i64 a0_2)])] h0 = F93 rc ⟨h0.length, h0.length⟩ a0_0 a0_1 a0_2 h0 := by kernel_rfl
theorem F93_eq (rc : Rec) (md : Md) (a0_0 : Int) (a0_1 : Int) (a0_2 : Int) (h0 : Heap) : callStep Try.prog cfg rc md 93 [(.agg #[(.int .i64 a0_0), (.int .i64 a0_1), (.int .i64 a0_2)])] h0 = alone h0 (F93 rc ⟨0, 0⟩ a0_0 a0_1 a0_2 []) := by
  have e : callStep Try.prog cfg rc md 93 [(.agg #[(.int .i64 a0_0), (.int .i64 a0_1), (.int .i64 a0_2)])] h0 = alone h0 (callStep0 Try.prog cfg rc ⟨0, 0⟩ 93 [(.agg #[(.int .i64 a0_0), (.int .i64 a0_1), (.int .i64 a0_2)])] []) := by kernel_rfl
  rw [e, F93_eq0]; rfl

/-- (tombolo/lay.Lay).Nodes -/
noncomputable def F94 (rc : Rec) (md : Md) (a0_0 : Int) (a0_1 : Int) (a0_2 : Int) (h0 : Heap) : Option (Value × Heap) :=
  let h1 : Heap := h0 ++ [.own [(.int .i64 a0_0), (.int .i64 a0_1), (.int .i64 a0_2)]]
  ldN 3 (.pointer (some ⟨h0.length, 0, none⟩)) h1 fun v2 =>
  cl (rc md 105 [v2] h1) fun v3 h4 =>
  cIn .i64 v3 fun n5 =>
  ld1 (.pointer (some ⟨h0.length, 0, none⟩)) h4 fun v6 =>
  cIn .i64 v6 fun n7 =>
  ld1 (.pointer (some ⟨h0.length, 1, none⟩)) h4 fun v8 =>
  cIn .i64 v8 fun n9 =>
  ldN 3 (.pointer (some ⟨h0.length, 0, none⟩)) h4 fun v10 =>
  cl (rc md 106 [v10] h4) fun v11 h12 =>
  cIn .i64 v11 fun n13 =>
  some ((.int .i64 (IntKind.wrap .i64 ((IntKind.wrap .i64 (n5 * n7)) + (IntKind.wrap .i64 (n9 * n13))))), h0)
theorem F94_eq0 (rc : Rec) (md : Md) (a0_0 : Int) (a0_1 : Int) (a0_2 : Int) (h0 : Heap) : callStep0 Try.prog cfg rc md 94 [(.agg #[(.int .i64 a0_0), (.int .i64 a0_1), (.int .i64 a0_2)])] h0 = F94 rc ⟨h0.length, h0.length⟩ a0_0 a0_1 a0_2 h0 := by kernel_rfl
theorem F94_eq (rc : Rec) (md : Md) (a0_0 : Int) (a0_1 : Int) (a0_2 : Int) (h0 : Heap) : callStep Try.prog cfg rc md 94 [(.agg #[(.int .i64 a0_0), (.int .i64 a0_1), (.int .i64 a0_2)])] h0 = alone h0 (F94 rc ⟨0, 0⟩ a0_0 a0_1 a0_2 []) := by
  have e : callStep Try.prog cfg rc md 94 [(.agg #[(.int .i64 a0_0), (.int .i64 a0_1), (.int .i64 a0_2)])] h0 = alone h0 (callStep0 Try.prog cfg rc ⟨0, 0⟩ 94 [(.agg #[(.int .i64 a0_0), (.int .i64 a0_1), (.int .i64 a0_2)])] []) := by kernel_rfl
  rw [e, F94_eq0]; rfl

/-- (tombolo/lay.Lay).of -/
noncomputable def F95 (rc : Rec) (md : Md) (a0_0 : Int) (a0_1 : Int) (a0_2 : Int) (a1 : Int) (a2 : Int) (h0 : Heap) : Option (Value × Heap) :=
  let h1 : Heap := h0 ++ [.own [(.int .i64 a0_0), (.int .i64 a0_1), (.int .i64 a0_2)]]
  ld1 (.pointer (some ⟨h0.length, 1, none⟩)) h1 fun v2 =>
  cIn .i64 v2 fun n3 =>
  cl (rc md 87 [(.int .i64 a1), (.int .i64 n3)] h1) fun v4 h5 =>
  cBn v4 fun b6 =>
  bif !b6 then
    some ((.int .i64 (-1)), h0)
  else
    ldN 3 (.pointer (some ⟨h0.length, 0, none⟩)) h5 fun v7 =>
    cl (rc md 73 [v7] h5) fun v8 h9 =>
    cIn .i64 v8 fun n10 =>
    some ((.int .i64 (IntKind.wrap .i64 ((IntKind.wrap .i64 ((IntKind.wrap .i64 (n10 + 1)) + (IntKind.wrap .i64 (a1 * 7)))) + a2))), h0)
theorem F95_eq0 (rc : Rec) (md : Md) (a0_0 : Int) (a0_1 : Int) (a0_2 : Int) (a1 : Int) (a2 : Int) (h0 : Heap) : callStep0 Try.prog cfg rc md 95 [(.agg #[(.int .i64 a0_0), (.int .i64 a0_1), (.int .i64 a0_2)]), (.int .i64 a1), (.int .i64 a2)] h0 = F95 rc ⟨h0.length, h0.length⟩ a0_0 a0_1 a0_2 a1 a2 h0 := by kernel_rfl
theorem F95_eq (rc : Rec) (md : Md) (a0_0 : Int) (a0_1 : Int) (a0_2 : Int) (a1 : Int) (a2 : Int) (h0 : Heap) : callStep Try.prog cfg rc md 95 [(.agg #[(.int .i64 a0_0), (.int .i64 a0_1), (.int .i64 a0_2)]), (.int .i64 a1), (.int .i64 a2)] h0 = alone h0 (F95 rc ⟨0, 0⟩ a0_0 a0_1 a0_2 a1 a2 []) := by
  have e : callStep Try.prog cfg rc md 95 [(.agg #[(.int .i64 a0_0), (.int .i64 a0_1), (.int .i64 a0_2)]), (.int .i64 a1), (.int .i64 a2)] h0 = alone h0 (callStep0 Try.prog cfg rc ⟨0, 0⟩ 95 [(.agg #[(.int .i64 a0_0), (.int .i64 a0_1), (.int .i64 a0_2)]), (.int .i64 a1), (.int .i64 a2)] []) := by kernel_rfl
  rw [e, F95_eq0]; rfl

/-- tombolo/word.State -/
noncomputable def F96 (rc : Rec) (md : Md) (a0 : Int) (a1 : Bool) (h0 : Heap) : Option (Value × Heap) :=
  cl (rc md 107 [(.int .i64 a0), (.int .i64 16777215)] h0) fun v1 h2 =>
  cBn v1 fun b3 =>
  bif !b3 then
    some ((.tuple #[(.int .u64 0), (.int .i64 11)]), h0)
  else
    bif a1 then
      some ((.tuple #[(.int .u64 (bOr .u64 (IntKind.wrap .u64 ((IntKind.wrap .u64 a0) * 2 ^ 1)) 1)), (.int .i64 0)]), h0)
    else
      some ((.tuple #[(.int .u64 (IntKind.wrap .u64 ((IntKind.wrap .u64 a0) * 2 ^ 1))), (.int .i64 0)]), h0)
theorem F96_eq0 (rc : Rec) (md : Md) (a0 : Int) (a1 : Bool) (h0 : Heap) : callStep0 Try.prog cfg rc md 96 [(.int .i64 a0), (.bool a1)] h0 = F96 rc ⟨h0.length, h0.length⟩ a0 a1 h0 := by kernel_rfl
theorem F96_eq (rc : Rec) (md : Md) (a0 : Int) (a1 : Bool) (h0 : Heap) : callStep Try.prog cfg rc md 96 [(.int .i64 a0), (.bool a1)] h0 = alone h0 (F96 rc ⟨0, 0⟩ a0 a1 []) := by
  have e : callStep Try.prog cfg rc md 96 [(.int .i64 a0), (.bool a1)] h0 = alone h0 (callStep0 Try.prog cfg rc ⟨0, 0⟩ 96 [(.int .i64 a0), (.bool a1)] []) := by kernel_rfl
  rw [e, F96_eq0]; rfl

/-- tombolo/word.Pack -/
noncomputable def F97 (rc : Rec) (md : Md) (a0_0 : Int) (a0_1 : Int) (a0_2 : Int) (a0_3 : Int) (h0 : Heap) : Option (Value × Heap) :=
  let h1 : Heap := h0 ++ [.own [(.int .i64 a0_0), (.int .i64 a0_1), (.int .i64 a0_2), (.int .i64 a0_3)]]
  ldN 4 (.pointer (some ⟨h0.length, 0, none⟩)) h1 fun v2 =>
  cl (rc md 99 [v2] h1) fun v3 h4 =>
  cBn v3 fun b5 =>
  bif !b5 then
    some ((.tuple #[(.int .u64 0), (.int .i64 11)]), h0)
  else
    ld1 (.pointer (some ⟨h0.length, 1, none⟩)) h4 fun v6 =>
    cIn .i64 v6 fun n7 =>
    ld1 (.pointer (some ⟨h0.length, 0, none⟩)) h4 fun v8 =>
    cIn .i64 v8 fun n9 =>
    ld1 (.pointer (some ⟨h0.length, 2, none⟩)) h4 fun v10 =>
    cIn .i64 v10 fun n11 =>
    ld1 (.pointer (some ⟨h0.length, 3, none⟩)) h4 fun v12 =>
    cIn .i64 v12 fun n13 =>
    some ((.tuple #[(.int .u64 (bOr .u64 (bOr .u64 (bOr .u64 (IntKind.wrap .u64 n7) (IntKind.wrap .u64 ((IntKind.wrap .u64 n9) * 2 ^ 16))) (IntKind.wrap .u64 ((IntKind.wrap .u64 n11) * 2 ^ 32))) (IntKind.wrap .u64 ((IntKind.wrap .u64 n13) * 2 ^ 40)))), (.int .i64 0)]), h0)
theorem F97_eq0 (rc : Rec) (md : Md) (a0_0 : Int) (a0_1 : Int) (a0_2 : Int) (a0_3 : Int) (h0 : Heap) : callStep0 Try.prog cfg rc md 97 [(.agg #[(.int .i64 a0_0), (.int .i64 a0_1), (.int .i64 a0_2), (.int .i64 a0_3)])] h0 = F97 rc ⟨h0.length, h0.length⟩ a0_0 a0_1 a0_2 a0_3 h0 := by kernel_rfl
theorem F97_eq (rc : Rec) (md : Md) (a0_0 : Int) (a0_1 : Int) (a0_2 : Int) (a0_3 : Int) (h0 : Heap) : callStep Try.prog cfg rc md 97 [(.agg #[(.int .i64 a0_0), (.int .i64 a0_1), (.int .i64 a0_2), (.int .i64 a0_3)])] h0 = alone h0 (F97 rc ⟨0, 0⟩ a0_0 a0_1 a0_2 a0_3 []) := by
  have e : callStep Try.prog cfg rc md 97 [(.agg #[(.int .i64 a0_0), (.int .i64 a0_1), (.int .i64 a0_2), (.int .i64 a0_3)])] h0 = alone h0 (callStep0 Try.prog cfg rc ⟨0, 0⟩ 97 [(.agg #[(.int .i64 a0_0), (.int .i64 a0_1), (.int .i64 a0_2), (.int .i64 a0_3)])] []) := by kernel_rfl
  rw [e, F97_eq0]; rfl

/-- tombolo/word.bits -/
noncomputable def F98 (rc : Rec) (md : Md) (a0 : Int) (a1 : Int) (a2 : Int) (h0 : Heap) : Option (Value × Heap) :=
  shI .shr a0 a1 .u64 fun v1 =>
  shI .shl 1 a2 .u64 fun v3 =>
  aBin Try.prog .sub 64 v3 (.int .u64 1) fun v5 =>
  aBin Try.prog .and 64 v1 v5 fun v6 =>
  aConv Try.prog 64 3 v6 fun v7 =>
  fin2 h0 v7
theorem F98_eq0 (rc : Rec) (md : Md) (a0 : Int) (a1 : Int) (a2 : Int) (h0 : Heap) : callStep0 Try.prog cfg rc md 98 [(.int .u64 a0), (.int .i64 a1), (.int .i64 a2)] h0 = F98 rc ⟨h0.length, h0.length⟩ a0 a1 a2 h0 := by kernel_rfl
theorem F98_eq (rc : Rec) (md : Md) (a0 : Int) (a1 : Int) (a2 : Int) (h0 : Heap) : callStep Try.prog cfg rc md 98 [(.int .u64 a0), (.int .i64 a1), (.int .i64 a2)] h0 = alone h0 (F98 rc ⟨0, 0⟩ a0 a1 a2 []) := by
  have e : callStep Try.prog cfg rc md 98 [(.int .u64 a0), (.int .i64 a1), (.int .i64 a2)] h0 = alone h0 (callStep0 Try.prog cfg rc ⟨0, 0⟩ 98 [(.int .u64 a0), (.int .i64 a1), (.int .i64 a2)] []) := by kernel_rfl
  rw [e, F98_eq0]; rfl

/-- (tombolo/word.Word).Right -/
noncomputable def F99 (rc : Rec) (md : Md) (a0_0 : Int) (a0_1 : Int) (a0_2 : Int) (a0_3 : Int) (h0 : Heap) : Option (Value × Heap) :=
  let h1 : Heap := h0 ++ [.own [(.int .i64 a0_0), (.int .i64 a0_1), (.int .i64 a0_2), (.int .i64 a0_3)]]
  ld1 (.pointer (some ⟨h0.length, 0, none⟩)) h1 fun v2 =>
  cIn .i64 v2 fun n3 =>
  cl (rc md 107 [(.int .i64 n3), (.int .i64 65535)] h1) fun v4 h5 =>
  cBn v4 fun b6 =>
  (bif wantV (.bool (!b6)) false then
  some ((.pointer (some ⟨h0.length, 1, none⟩)), h5)
  else some (undef, h5)).bind fun p7 =>
  (bif wantV (.bool (!b6)) false then
  ld1 p7.1 p7.2 fun v8 =>
  cIn .i64 v8 fun n9 =>
  some ((.int .i64 n9), p7.2)
  else some (undef, p7.2)).bind fun p10 =>
  (bif wantV (.bool (!b6)) false then
  cl (rc md 107 [p10.1, (.int .i64 65535)] p10.2) fun v11 h12 =>
  cBn v11 fun b13 =>
  some ((.bool b13), h12)
  else some (undef, p10.2)).bind fun p14 =>
  (bif wantV (.bool (!b6)) false then
  aUn .not p14.1 fun v15 =>
  some (v15, p14.2)
  else some (undef, p14.2)).bind fun p16 =>
  cBn (bif !b6 then (.bool true) else p16.1) fun b17 =>
  (bif wantV (.bool b17) false then
  some ((.pointer (some ⟨h0.length, 2, none⟩)), p16.2)
  else some (undef, p16.2)).bind fun p18 =>
  (bif wantV (.bool b17) false then
  ld1 p18.1 p18.2 fun v19 =>
  cIn .i64 v19 fun n20 =>
  some ((.int .i64 n20), p18.2)
  else some (undef, p18.2)).bind fun p21 =>
  (bif wantV (.bool b17) false then
  cl (rc md 107 [p21.1, (.int .i64 8)] p21.2) fun v22 h23 =>
  cBn v22 fun b24 =>
  some ((.bool b24), h23)
  else some (undef, p21.2)).bind fun p25 =>
  (bif wantV (.bool b17) false then
  aUn .not p25.1 fun v26 =>
  some (v26, p25.2)
  else some (undef, p25.2)).bind fun p27 =>
  cBn (bif b17 then (.bool true) else p27.1) fun b28 =>
  (bif wantV (.bool b28) false then
  some ((.pointer (some ⟨h0.length, 3, none⟩)), p27.2)
  else some (undef, p27.2)).bind fun p29 =>
  (bif wantV (.bool b28) false then
  ld1 p29.1 p29.2 fun v30 =>
  cIn .i64 v30 fun n31 =>
  some ((.int .i64 n31), p29.2)
  else some (undef, p29.2)).bind fun p32 =>
  (bif wantV (.bool b28) false then
  cl (rc md 107 [p32.1, (.int .i64 16777215)] p32.2) fun v33 h34 =>
  cBn v33 fun b35 =>
  some ((.bool b35), h34)
  else some (undef, p32.2)).bind fun p36 =>
  (bif wantV (.bool b28) false then
  aUn .not p36.1 fun v37 =>
  some (v37, p36.2)
  else some (undef, p36.2)).bind fun p38 =>
  cBn (bif b28 then (.bool true) else p38.1) fun b39 =>
  bif b39 then
    some ((.bool false), h0)
  else
    ldN 4 (.pointer (some ⟨h0.length, 0, none⟩)) p38.2 fun v40 =>
    cl (rc md 85 [v40] p38.2) fun v41 h42 =>
    cBn v41 fun b43 =>
    (bif wantV (.bool (!b43)) false then
    some ((.pointer (some ⟨h0.length, 0, none⟩)), h42)
    else some (undef, h42)).bind fun p44 =>
    (bif wantV (.bool (!b43)) false then
    ld1 p44.1 p44.2 fun v45 =>
    cIn .i64 v45 fun n46 =>
    some ((.int .i64 n46), p44.2)
    else some (undef, p44.2)).bind fun p47 =>
    (bif wantV (.bool (!b43)) false then
    some ((.pointer (some ⟨h0.length, 1, none⟩)), p47.2)
    else some (undef, p47.2)).bind fun p48 =>
    (bif wantV (.bool (!b43)) false then
    ld1 p48.1 p48.2 fun v49 =>
    cIn .i64 v49 fun n50 =>
    some ((.int .i64 n50), p48.2)
    else some (undef, p48.2)).bind fun p51 =>
    (bif wantV (.bool (!b43)) false then
    aBin Try.prog .eql 3 p47.1 p51.1 fun v52 =>
    some (v52, p51.2)
    else some (undef, p51.2)).bind fun p53 =>
    (bif wantV (.bool (!b43)) false then
    some (p53.1, p53.2)
    else some (undef, p53.2)).bind fun p54 =>
    (bif wantV p54.1 true then
    some ((.pointer (some ⟨h0.length, 3, none⟩)), p54.2)
    else some (undef, p54.2)).bind fun p55 =>
    (bif wantV p54.1 true then
    ld1 p55.1 p55.2 fun v56 =>
    cIn .i64 v56 fun n57 =>
    some ((.int .i64 n57), p55.2)
    else some (undef, p55.2)).bind fun p58 =>
    (bif wantV p54.1 true then
    aBin Try.prog .eql 3 p58.1 (.int .i64 0) fun v59 =>
    some (v59, p58.2)
    else some (undef, p58.2)).bind fun p60 =>
    (bif wantV (.bool (!b43)) false then
    cBn p54.1 fun q61 =>
    cBn (bif q61 then p60.1 else (.bool false)) fun b62 =>
    some ((.bool b62), p60.2)
    else some (undef, p60.2)).bind fun p63 =>
    cBn (bif !b43 then (.bool true) else p63.1) fun b64 =>
    some ((.bool b64), h0)
theorem F99_eq0 (rc : Rec) (md : Md) (a0_0 : Int) (a0_1 : Int) (a0_2 : Int) (a0_3 : Int) (h0 : Heap) : callStep0 Try.prog cfg rc md 99 [(.agg #[(.int .i64 a0_0), (.int .i64 a0_1), (.int .i64 a0_2), (.int .i64 a0_3)])] h0 = F99 rc ⟨h0.length, h0.length⟩ a0_0 a0_1 a0_2 a0_3 h0 := by kernel_rfl
theorem F99_eq (rc : Rec) (md : Md) (a0_0 : Int) (a0_1 : Int) (a0_2 : Int) (a0_3 : Int) (h0 : Heap) : callStep Try.prog cfg rc md 99 [(.agg #[(.int .i64 a0_0), (.int .i64 a0_1), (.int .i64 a0_2), (.int .i64 a0_3)])] h0 = alone h0 (F99 rc ⟨0, 0⟩ a0_0 a0_1 a0_2 a0_3 []) := by
  have e : callStep Try.prog cfg rc md 99 [(.agg #[(.int .i64 a0_0), (.int .i64 a0_1), (.int .i64 a0_2), (.int .i64 a0_3)])] h0 = alone h0 (callStep0 Try.prog cfg rc ⟨0, 0⟩ 99 [(.agg #[(.int .i64 a0_0), (.int .i64 a0_1), (.int .i64 a0_2), (.int .i64 a0_3)])] []) := by kernel_rfl
  rw [e, F99_eq0]; rfl

/-- tombolo/word.Tag -/
noncomputable def F100 (rc : Rec) (md : Md) (a0 : Int) (h0 : Heap) : Option (Value × Heap) :=
  bif (decide ((Int.fdiv a0 (2 ^ 1)) > 16777215)) then
    some ((.tuple #[(.int .i64 0), (.bool false), (.int .i64 21)]), h0)
  else
    some ((.tuple #[(.int .i64 (IntKind.wrap .i64 (Int.fdiv a0 (2 ^ 1)))), (.bool ((bAnd .u64 a0 1) == 1)), (.int .i64 0)]), h0)
theorem F100_eq0 (rc : Rec) (md : Md) (a0 : Int) (h0 : Heap) : callStep0 Try.prog cfg rc md 100 [(.int .u64 a0)] h0 = F100 rc ⟨h0.length, h0.length⟩ a0 h0 := by kernel_rfl
theorem F100_eq (rc : Rec) (md : Md) (a0 : Int) (h0 : Heap) : callStep Try.prog cfg rc md 100 [(.int .u64 a0)] h0 = alone h0 (F100 rc ⟨0, 0⟩ a0 []) := by
  have e : callStep Try.prog cfg rc md 100 [(.int .u64 a0)] h0 = alone h0 (callStep0 Try.prog cfg rc ⟨0, 0⟩ 100 [(.int .u64 a0)] []) := by kernel_rfl
  rw [e, F100_eq0]; rfl

/-- tombolo/word.Means -/
noncomputable def F101 (rc : Rec) (md : Md) (a0_0 : Int) (a0_1 : Int) (a0_2 : Int) (a0_3 : Int) (a1 : Int) (a2 : Bool) (h0 : Heap) : Option (Value × Heap) :=
  let h1 : Heap := h0 ++ [.own [(.int .i64 a0_0), (.int .i64 a0_1), (.int .i64 a0_2), (.int .i64 a0_3)]]
  ldN 4 (.pointer (some ⟨h0.length, 0, none⟩)) h1 fun v2 =>
  cl (rc md 85 [v2] h1) fun v3 h4 =>
  cBn v3 fun b5 =>
  (bif wantV (.bool b5) false then
  some ((.int .i64 a1), h4)
  else some (undef, h4)).bind fun p6 =>
  (bif wantV (.bool b5) false then
  some ((.pointer (some ⟨h0.length, 3, none⟩)), p6.2)
  else some (undef, p6.2)).bind fun p7 =>
  (bif wantV (.bool b5) false then
  ld1 p7.1 p7.2 fun v8 =>
  cIn .i64 v8 fun n9 =>
  some ((.int .i64 n9), p7.2)
  else some (undef, p7.2)).bind fun p10 =>
  (bif wantV (.bool b5) false then
  aBin Try.prog .gtr 3 p6.1 p10.1 fun v11 =>
  some (v11, p10.2)
  else some (undef, p10.2)).bind fun p12 =>
  cBn (bif b5 then (.bool true) else p12.1) fun b13 =>
  (bif wantV (.bool b13) false then
  some ((.int .i64 a1), p12.2)
  else some (undef, p12.2)).bind fun p14 =>
  (bif wantV (.bool b13) false then
  some ((.pointer (some ⟨h0.length, 3, none⟩)), p14.2)
  else some (undef, p14.2)).bind fun p15 =>
  (bif wantV (.bool b13) false then
  ld1 p15.1 p15.2 fun v16 =>
  cIn .i64 v16 fun n17 =>
  some ((.int .i64 n17), p15.2)
  else some (undef, p15.2)).bind fun p18 =>
  (bif wantV (.bool b13) false then
  aBin Try.prog .eql 3 p14.1 p18.1 fun v19 =>
  some (v19, p18.2)
  else some (undef, p18.2)).bind fun p20 =>
  (bif wantV (.bool b13) false then
  some (p20.1, p20.2)
  else some (undef, p20.2)).bind fun p21 =>
  (bif wantV p21.1 true then
  some ((.bool a2), p21.2)
  else some (undef, p21.2)).bind fun p22 =>
  (bif wantV (.bool b13) false then
  cBn p21.1 fun q23 =>
  cBn (bif q23 then p22.1 else (.bool false)) fun b24 =>
  some ((.bool b24), p22.2)
  else some (undef, p22.2)).bind fun p25 =>
  cBn (bif b13 then (.bool true) else p25.1) fun b26 =>
  bif b26 then
    ld1 (.pointer (some ⟨h0.length, 1, none⟩)) p25.2 fun v27 =>
    cIn .i64 v27 fun n28 =>
    some ((.int .i64 n28), h0)
  else
    ld1 (.pointer (some ⟨h0.length, 0, none⟩)) p25.2 fun v29 =>
    cIn .i64 v29 fun n30 =>
    some ((.int .i64 n30), h0)
theorem F101_eq0 (rc : Rec) (md : Md) (a0_0 : Int) (a0_1 : Int) (a0_2 : Int) (a0_3 : Int) (a1 : Int) (a2 : Bool) (h0 : Heap) : callStep0 Try.prog cfg rc md 101 [(.agg #[(.int .i64 a0_0), (.int .i64 a0_1), (.int .i64 a0_2), (.int .i64 a0_3)]), (.int .i64 a1), (.bool a2)] h0 = F101 rc ⟨h0.length, h0.length⟩ a0_0 a0_1 a0_2 a0_3 a1 a2 h0 := by kernel_rfl
theorem F101_eq (rc : Rec) (md : Md) (a0_0 : Int) (a0_1 : Int) (a0_2 : Int) (a0_3 : Int) (a1 : Int) (a2 : Bool) (h0 : Heap) : callStep Try.prog cfg rc md 101 [(.agg #[(.int .i64 a0_0), (.int .i64 a0_1), (.int .i64 a0_2), (.int .i64 a0_3)]), (.int .i64 a1), (.bool a2)] h0 = alone h0 (F101 rc ⟨0, 0⟩ a0_0 a0_1 a0_2 a0_3 a1 a2 []) := by
  have e : callStep Try.prog cfg rc md 101 [(.agg #[(.int .i64 a0_0), (.int .i64 a0_1), (.int .i64 a0_2), (.int .i64 a0_3)]), (.int .i64 a1), (.bool a2)] h0 = alone h0 (callStep0 Try.prog cfg rc ⟨0, 0⟩ 101 [(.agg #[(.int .i64 a0_0), (.int .i64 a0_1), (.int .i64 a0_2), (.int .i64 a0_3)]), (.int .i64 a1), (.bool a2)] []) := by kernel_rfl
  rw [e, F101_eq0]; rfl

/-- (tombolo/lay.Lay).edges -/
noncomputable def F104 (rc : Rec) (md : Md) (a0_0 : Int) (a0_1 : Int) (a0_2 : Int) (h0 : Heap) : Option (Value × Heap) :=
  let h1 : Heap := h0 ++ [.own [(.int .i64 a0_0), (.int .i64 a0_1), (.int .i64 a0_2)]]
  ldN 3 (.pointer (some ⟨h0.length, 0, none⟩)) h1 fun v2 =>
  cl (rc md 119 [v2] h1) fun v3 h4 =>
  cIn .i64 v3 fun n5 =>
  ld1 (.pointer (some ⟨h0.length, 0, none⟩)) h4 fun v6 =>
  cIn .i64 v6 fun n7 =>
  ldN 3 (.pointer (some ⟨h0.length, 0, none⟩)) h4 fun v8 =>
  cl (rc md 105 [v8] h4) fun v9 h10 =>
  cIn .i64 v9 fun n11 =>
  some ((.int .i64 (IntKind.wrap .i64 (n5 + (IntKind.wrap .i64 (n7 * n11))))), h0)
theorem F104_eq0 (rc : Rec) (md : Md) (a0_0 : Int) (a0_1 : Int) (a0_2 : Int) (h0 : Heap) : callStep0 Try.prog cfg rc md 104 [(.agg #[(.int .i64 a0_0), (.int .i64 a0_1), (.int .i64 a0_2)])] h0 = F104 rc ⟨h0.length, h0.length⟩ a0_0 a0_1 a0_2 h0 := by kernel_rfl
theorem F104_eq (rc : Rec) (md : Md) (a0_0 : Int) (a0_1 : Int) (a0_2 : Int) (h0 : Heap) : callStep Try.prog cfg rc md 104 [(.agg #[(.int .i64 a0_0), (.int .i64 a0_1), (.int .i64 a0_2)])] h0 = alone h0 (F104 rc ⟨0, 0⟩ a0_0 a0_1 a0_2 []) := by
  have e : callStep Try.prog cfg rc md 104 [(.agg #[(.int .i64 a0_0), (.int .i64 a0_1), (.int .i64 a0_2)])] h0 = alone h0 (callStep0 Try.prog cfg rc ⟨0, 0⟩ 104 [(.agg #[(.int .i64 a0_0), (.int .i64 a0_1), (.int .i64 a0_2)])] []) := by kernel_rfl
  rw [e, F104_eq0]; rfl

/-- (tombolo/lay.Lay).Levels -/
noncomputable def F105 (rc : Rec) (md : Md) (a0_0 : Int) (a0_1 : Int) (a0_2 : Int) (h0 : Heap) : Option (Value × Heap) :=
  let h1 : Heap := h0 ++ [.own [(.int .i64 a0_0), (.int .i64 a0_1), (.int .i64 a0_2)]]
  ld1 (.pointer (some ⟨h0.length, 0, none⟩)) h1 fun v2 =>
  cIn .i64 v2 fun n3 =>
  cl (rc md 103 [(.int .u64 (IntKind.wrap .u64 n3))] h1) fun v4 h5 =>
  cIn .i64 v4 fun n6 =>
  some ((.int .i64 n6), h0)
theorem F105_eq0 (rc : Rec) (md : Md) (a0_0 : Int) (a0_1 : Int) (a0_2 : Int) (h0 : Heap) : callStep0 Try.prog cfg rc md 105 [(.agg #[(.int .i64 a0_0), (.int .i64 a0_1), (.int .i64 a0_2)])] h0 = F105 rc ⟨h0.length, h0.length⟩ a0_0 a0_1 a0_2 h0 := by kernel_rfl
theorem F105_eq (rc : Rec) (md : Md) (a0_0 : Int) (a0_1 : Int) (a0_2 : Int) (h0 : Heap) : callStep Try.prog cfg rc md 105 [(.agg #[(.int .i64 a0_0), (.int .i64 a0_1), (.int .i64 a0_2)])] h0 = alone h0 (F105 rc ⟨0, 0⟩ a0_0 a0_1 a0_2 []) := by
  have e : callStep Try.prog cfg rc md 105 [(.agg #[(.int .i64 a0_0), (.int .i64 a0_1), (.int .i64 a0_2)])] h0 = alone h0 (callStep0 Try.prog cfg rc ⟨0, 0⟩ 105 [(.agg #[(.int .i64 a0_0), (.int .i64 a0_1), (.int .i64 a0_2)])] []) := by kernel_rfl
  rw [e, F105_eq0]; rfl

/-- (tombolo/lay.Lay).arcs -/
noncomputable def F106 (rc : Rec) (md : Md) (a0_0 : Int) (a0_1 : Int) (a0_2 : Int) (h0 : Heap) : Option (Value × Heap) :=
  let h1 : Heap := h0 ++ [.own [(.int .i64 a0_0), (.int .i64 a0_1), (.int .i64 a0_2)]]
  ldN 3 (.pointer (some ⟨h0.length, 0, none⟩)) h1 fun v2 =>
  cl (rc md 105 [v2] h1) fun v3 h4 =>
  cIn .i64 v3 fun n5 =>
  some ((.int .i64 (IntKind.wrap .i64 (2 * n5))), h0)
theorem F106_eq0 (rc : Rec) (md : Md) (a0_0 : Int) (a0_1 : Int) (a0_2 : Int) (h0 : Heap) : callStep0 Try.prog cfg rc md 106 [(.agg #[(.int .i64 a0_0), (.int .i64 a0_1), (.int .i64 a0_2)])] h0 = F106 rc ⟨h0.length, h0.length⟩ a0_0 a0_1 a0_2 h0 := by kernel_rfl
theorem F106_eq (rc : Rec) (md : Md) (a0_0 : Int) (a0_1 : Int) (a0_2 : Int) (h0 : Heap) : callStep Try.prog cfg rc md 106 [(.agg #[(.int .i64 a0_0), (.int .i64 a0_1), (.int .i64 a0_2)])] h0 = alone h0 (F106 rc ⟨0, 0⟩ a0_0 a0_1 a0_2 []) := by
  have e : callStep Try.prog cfg rc md 106 [(.agg #[(.int .i64 a0_0), (.int .i64 a0_1), (.int .i64 a0_2)])] h0 = alone h0 (callStep0 Try.prog cfg rc ⟨0, 0⟩ 106 [(.agg #[(.int .i64 a0_0), (.int .i64 a0_1), (.int .i64 a0_2)])] []) := by kernel_rfl
  rw [e, F106_eq0]; rfl

/-- tombolo/word.within -/
noncomputable def F107 (rc : Rec) (md : Md) (a0 : Int) (a1 : Int) (h0 : Heap) : Option (Value × Heap) :=
  (bif wantV (.bool (decide (a0 ≥ 0))) true then
  some ((.int .i64 a0), h0)
  else some (undef, h0)).bind fun p1 =>
  (bif wantV (.bool (decide (a0 ≥ 0))) true then
  some ((.int .i64 a1), p1.2)
  else some (undef, p1.2)).bind fun p2 =>
  (bif wantV (.bool (decide (a0 ≥ 0))) true then
  aBin Try.prog .leq 3 p1.1 p2.1 fun v3 =>
  some (v3, p2.2)
  else some (undef, p2.2)).bind fun p4 =>
  cBn (bif (decide (a0 ≥ 0)) then p4.1 else (.bool false)) fun b5 =>
  some ((.bool b5), h0)
theorem F107_eq0 (rc : Rec) (md : Md) (a0 : Int) (a1 : Int) (h0 : Heap) : callStep0 Try.prog cfg rc md 107 [(.int .i64 a0), (.int .i64 a1)] h0 = F107 rc ⟨h0.length, h0.length⟩ a0 a1 h0 := by kernel_rfl
theorem F107_eq (rc : Rec) (md : Md) (a0 : Int) (a1 : Int) (h0 : Heap) : callStep Try.prog cfg rc md 107 [(.int .i64 a0), (.int .i64 a1)] h0 = alone h0 (F107 rc ⟨0, 0⟩ a0 a1 []) := by
  have e : callStep Try.prog cfg rc md 107 [(.int .i64 a0), (.int .i64 a1)] h0 = alone h0 (callStep0 Try.prog cfg rc ⟨0, 0⟩ 107 [(.int .i64 a0), (.int .i64 a1)] []) := by kernel_rfl
  rw [e, F107_eq0]; rfl

/-- (tombolo/lay.Lay).heads -/
noncomputable def F119 (rc : Rec) (md : Md) (a0_0 : Int) (a0_1 : Int) (a0_2 : Int) (h0 : Heap) : Option (Value × Heap) :=
  let h1 : Heap := h0 ++ [.own [(.int .i64 a0_0), (.int .i64 a0_1), (.int .i64 a0_2)]]
  ldN 3 (.pointer (some ⟨h0.length, 0, none⟩)) h1 fun v2 =>
  cl (rc md 73 [v2] h1) fun v3 h4 =>
  cIn .i64 v3 fun n5 =>
  ld1 (.pointer (some ⟨h0.length, 1, none⟩)) h4 fun v6 =>
  cIn .i64 v6 fun n7 =>
  some ((.int .i64 (IntKind.wrap .i64 ((IntKind.wrap .i64 (n5 + 1)) + (IntKind.wrap .i64 (n7 * 7))))), h0)
theorem F119_eq0 (rc : Rec) (md : Md) (a0_0 : Int) (a0_1 : Int) (a0_2 : Int) (h0 : Heap) : callStep0 Try.prog cfg rc md 119 [(.agg #[(.int .i64 a0_0), (.int .i64 a0_1), (.int .i64 a0_2)])] h0 = F119 rc ⟨h0.length, h0.length⟩ a0_0 a0_1 a0_2 h0 := by kernel_rfl
theorem F119_eq (rc : Rec) (md : Md) (a0_0 : Int) (a0_1 : Int) (a0_2 : Int) (h0 : Heap) : callStep Try.prog cfg rc md 119 [(.agg #[(.int .i64 a0_0), (.int .i64 a0_1), (.int .i64 a0_2)])] h0 = alone h0 (F119 rc ⟨0, 0⟩ a0_0 a0_1 a0_2 []) := by
  have e : callStep Try.prog cfg rc md 119 [(.agg #[(.int .i64 a0_0), (.int .i64 a0_1), (.int .i64 a0_2)])] h0 = alone h0 (callStep0 Try.prog cfg rc ⟨0, 0⟩ 119 [(.agg #[(.int .i64 a0_0), (.int .i64 a0_1), (.int .i64 a0_2)])] []) := by kernel_rfl
  rw [e, F119_eq0]; rfl

/-- (tombolo/mem.Plain).Store -/
noncomputable def F143 (rc : Rec) (md : Md) (a0_0 : Value) (a1 : Int) (a2 : Int) (h0 : Heap) : Option (Value × Heap) :=
  let h1 : Heap := h0 ++ [.own [a0_0]]
  ld1 (.pointer (some ⟨h0.length, 0, none⟩)) h1 fun v2 =>
  cl (rc md 33 [v2, (.int .i64 a1), (.int .u64 a2)] h1) fun v3 h4 =>
  cIn .i64 v3 fun n5 =>
  some ((.tuple #[]), List.take h0.length h4)
theorem F143_eq0 (rc : Rec) (md : Md) (a0_0 : Value) (a1 : Int) (a2 : Int) (h0 : Heap) : callStep0 Try.prog cfg rc md 143 [(.agg #[a0_0]), (.int .i64 a1), (.int .u64 a2)] h0 = F143 rc ⟨md.ro, h0.length⟩ a0_0 a1 a2 h0 := by kernel_rfl
theorem F143_eq (rc : Rec) (md : Md) (a0_0 : Value) (a1 : Int) (a2 : Int) (h0 : Heap) : callStep Try.prog cfg rc md 143 [(.agg #[a0_0]), (.int .i64 a1), (.int .u64 a2)] h0 = F143 rc ⟨md.ro, h0.length⟩ a0_0 a1 a2 h0 := (callStep_ne (by kernel_rfl)).trans (F143_eq0 rc md a0_0 a1 a2 h0)

end Go.Det.E
