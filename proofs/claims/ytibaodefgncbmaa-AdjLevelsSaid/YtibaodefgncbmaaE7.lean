/- Printed functions. -/
import Derived.Test.YtibaodefgncbmaaE5
import Derived.Test.YtibaodefgncbmaaDetT
import Derived.Test.YtibaodefgncbmaaDetX
import Derived.Test.YtibaodefgncbmaaProg
set_option autoImplicit false
set_option linter.unusedVariables false
set_option linter.unusedSimpArgs false
namespace Go.Det.E
open Go.Proofs Go.Det
/-- tombolo/tombololaw12.right -/
noncomputable def F7 (rc : Rec) (md : Md) (a0_0 : Int) (a0_1 : Int) (a0_2 : Int) (h0 : Heap) : Option (Value × Heap) :=
  let h1 : Heap := h0 ++ [.own [(.int .i64 a0_0), (.int .i64 a0_1), (.int .i64 a0_2)]]
  ld1 (.pointer (some ⟨h0.length, 0, none⟩)) h1 fun v2 =>
  cIn .i64 v2 fun n3 =>
  ld1 (.pointer (some ⟨h0.length, 1, none⟩)) h1 fun v4 =>
  cIn .i64 v4 fun n5 =>
  ld1 (.pointer (some ⟨h0.length, 2, none⟩)) h1 fun v6 =>
  cIn .i64 v6 fun n7 =>
  cl (rc md 18 [(.agg #[(.int .i64 n3), (.int .i64 n5), (.int .i64 n7)])] h1) fun v8 h9 =>
  cBn v8 fun b10 =>
  (bif wantV (.bool b10) true then
  some ((.pointer (some ⟨h0.length, 0, none⟩)), h9)
  else some (undef, h9)).bind fun p11 =>
  (bif wantV (.bool b10) true then
  ld1 p11.1 p11.2 fun v12 =>
  cIn .i64 v12 fun n13 =>
  some ((.int .i64 n13), p11.2)
  else some (undef, p11.2)).bind fun p14 =>
  (bif wantV (.bool b10) true then
  aBin Try.prog .leq 3 p14.1 (.int .i64 8) fun v15 =>
  some (v15, p14.2)
  else some (undef, p14.2)).bind fun p16 =>
  cBn (bif b10 then p16.1 else (.bool false)) fun b17 =>
  some ((.bool b17), h0)
theorem F7_eq0 (rc : Rec) (md : Md) (a0_0 : Int) (a0_1 : Int) (a0_2 : Int) (h0 : Heap) : callStep0 Try.prog cfg rc md 7 [(.agg #[(.int .i64 a0_0), (.int .i64 a0_1), (.int .i64 a0_2)])] h0 = F7 rc ⟨h0.length, h0.length⟩ a0_0 a0_1 a0_2 h0 := by kernel_rfl
theorem F7_eq (rc : Rec) (md : Md) (a0_0 : Int) (a0_1 : Int) (a0_2 : Int) (h0 : Heap) : callStep Try.prog cfg rc md 7 [(.agg #[(.int .i64 a0_0), (.int .i64 a0_1), (.int .i64 a0_2)])] h0 = alone h0 (F7 rc ⟨0, 0⟩ a0_0 a0_1 a0_2 []) := by
  have e : callStep Try.prog cfg rc md 7 [(.agg #[(.int .i64 a0_0), (.int .i64 a0_1), (.int .i64 a0_2)])] h0 = alone h0 (callStep0 Try.prog cfg rc ⟨0, 0⟩ 7 [(.agg #[(.int .i64 a0_0), (.int .i64 a0_1), (.int .i64 a0_2)])] []) := by kernel_rfl
  rw [e, F7_eq0]; rfl

/-- tombolo/tombololaw12.awake -/
noncomputable def F8 (rc : Rec) (md : Md)  (h0 : Heap) : Option (Value × Heap) :=
  let h1 : Heap := h0 ++ [.own [(.int .i64 0), (.int .i64 0), (.int .i64 0)]]
  st md 3 (.pointer (some ⟨h0.length, 0, none⟩)) (.agg #[(.int .i64 4), (.int .i64 3), (.int .i64 1)]) h1 fun h2 =>
  ldN 3 (.pointer (some ⟨h0.length, 0, none⟩)) h2 fun v3 =>
  cl (rc md 9 [v3] h2) fun v4 h5 =>
  exT v4 0 fun v6 =>
  exT v4 1 fun v7 =>
  cBn v7 fun b8 =>
  let h9 : Heap := h5 ++ [.own [(.int .i64 0), (.int .i64 0), (.int .i64 0), .nilIface, (.int .i64 0), (.int .i64 0), (.int .i64 0), (.int .i64 0), (.int .i64 0), .nilIface]]
  st md 10 (.pointer (some ⟨h5.length, 0, none⟩)) v6 h9 fun h10 =>
  bif !b8 then
    some ((.bool false), List.take h0.length h10)
  else
    ldN 4 (.pointer (some ⟨h5.length, 6, none⟩)) h10 fun v11 =>
    cl (rc md 19 [v11, (.int .i64 0), (.int .i64 2), (.int .i64 1), (.int .i64 0), (.bool false)] h10) fun v12 h13 =>
    ldN 4 (.pointer (some ⟨h5.length, 6, none⟩)) h13 fun v14 =>
    cl (rc md 19 [v14, (.int .i64 1), (.int .i64 2), (.int .i64 3), (.int .i64 0), (.bool false)] h13) fun v15 h16 =>
    ldN 10 (.pointer (some ⟨h5.length, 0, none⟩)) h16 fun v17 =>
    cl (rc md 20 [v17, (.int .i64 0)] h16) fun v18 h19 =>
    ldN 10 (.pointer (some ⟨h5.length, 0, none⟩)) h19 fun v20 =>
    cl (rc md 20 [v20, (.int .i64 1)] h19) fun v21 h22 =>
    ldN 10 (.pointer (some ⟨h5.length, 0, none⟩)) h22 fun v23 =>
    cl (rc md 17 [v23, (.int .i64 2), (.int .i64 0)] h22) fun v24 h25 =>
    ldN 6 (.pointer (some ⟨h5.length, 0, none⟩)) h25 fun v26 =>
    cLE true (fun hq => ldN 6 (.pointer (some ⟨h5.length, 0, none⟩)) hq some) v26 h22 h25 <|
    ldN 3 (.pointer (some ⟨h0.length, 0, none⟩)) h25 fun v27 =>
    cLE true (fun hq => ldN 3 (.pointer (some ⟨h0.length, 0, none⟩)) hq some) v27 h22 h25 <|
    cl (rc md 22 [v27, (.int .i64 0), (.int .i64 1)] h25) fun v28 h29 =>
    cIn .i64 v28 fun n30 =>
    cl (rc md 21 [v26, (.int .i64 n30), (.int .i64 0)] h29) fun v31 h32 =>
    cBn v31 fun b33 =>
    ldN 10 (.pointer (some ⟨h5.length, 0, none⟩)) h32 fun v34 =>
    cl (rc md 23 [v34, (.int .i64 0)] h32) fun v35 h36 =>
    ldN 10 (.pointer (some ⟨h5.length, 0, none⟩)) h36 fun v37 =>
    cl (rc md 16 [v37, (.int .i64 2), (.int .i64 0)] h36) fun v38 h39 =>
    exT v38 0 fun v40 =>
    cIn .i64 v40 fun n41 =>
    exT v38 1 fun v42 =>
    cBn v42 fun b43 =>
    ldN 10 (.pointer (some ⟨h5.length, 0, none⟩)) h39 fun v44 =>
    cl (rc md 16 [v44, (.int .i64 1), (.int .i64 0)] h39) fun v45 h46 =>
    exT v45 0 fun v47 =>
    cIn .i64 v47 fun n48 =>
    exT v45 1 fun v49 =>
    cBn v49 fun b50 =>
    lenS v24 fun v51 =>
    cIn .i64 v51 fun n52 =>
    (bif wantV (.bool (n52 == 2)) true then
    some (v24, h46)
    else some (undef, h46)).bind fun p53 =>
    (bif wantV (.bool (n52 == 2)) true then
    ixS 1 p53.1 0 fun v54 =>
    some (v54, p53.2)
    else some (undef, p53.2)).bind fun p55 =>
    (bif wantV (.bool (n52 == 2)) true then
    ld1 p55.1 p55.2 fun v56 =>
    cIn .i64 v56 fun n57 =>
    some ((.int .i64 n57), p55.2)
    else some (undef, p55.2)).bind fun p58 =>
    (bif wantV (.bool (n52 == 2)) true then
    aBin Try.prog .eql 3 p58.1 (.int .i64 1) fun v59 =>
    some (v59, p58.2)
    else some (undef, p58.2)).bind fun p60 =>
    cBn (bif (n52 == 2) then p60.1 else (.bool false)) fun b61 =>
    (bif wantV (.bool b61) true then
    some (v24, p60.2)
    else some (undef, p60.2)).bind fun p62 =>
    (bif wantV (.bool b61) true then
    ixS 1 p62.1 1 fun v63 =>
    some (v63, p62.2)
    else some (undef, p62.2)).bind fun p64 =>
    (bif wantV (.bool b61) true then
    ld1 p64.1 p64.2 fun v65 =>
    cIn .i64 v65 fun n66 =>
    some ((.int .i64 n66), p64.2)
    else some (undef, p64.2)).bind fun p67 =>
    (bif wantV (.bool b61) true then
    aBin Try.prog .eql 3 p67.1 (.int .i64 0) fun v68 =>
    some (v68, p67.2)
    else some (undef, p67.2)).bind fun p69 =>
    cBn (bif b61 then p69.1 else (.bool false)) fun b70 =>
    (bif wantV (.bool b70) true then
    some ((.bool b33), p69.2)
    else some (undef, p69.2)).bind fun p71 =>
    cBn (bif b70 then p71.1 else (.bool false)) fun b72 =>
    (bif wantV (.bool b72) true then
    some ((.int .i64 n41), p71.2)
    else some (undef, p71.2)).bind fun p73 =>
    (bif wantV (.bool b72) true then
    aBin Try.prog .eql 3 p73.1 (.int .i64 1) fun v74 =>
    some (v74, p73.2)
    else some (undef, p73.2)).bind fun p75 =>
    cBn (bif b72 then p75.1 else (.bool false)) fun b76 =>
    (bif wantV (.bool b76) true then
    some ((.bool b43), p75.2)
    else some (undef, p75.2)).bind fun p77 =>
    cBn (bif b76 then p77.1 else (.bool false)) fun b78 =>
    (bif wantV (.bool b78) true then
    some ((.bool b50), p77.2)
    else some (undef, p77.2)).bind fun p79 =>
    (bif wantV (.bool b78) true then
    aUn .not p79.1 fun v80 =>
    some (v80, p79.2)
    else some (undef, p79.2)).bind fun p81 =>
    cBn (bif b78 then p81.1 else (.bool false)) fun b82 =>
    (bif wantV (.bool b82) true then
    some ((.pointer (some ⟨h5.length, 0, none⟩)), p81.2)
    else some (undef, p81.2)).bind fun p83 =>
    (bif wantV (.bool b82) true then
    fA 0 p83.1 fun v84 =>
    some (v84, p83.2)
    else some (undef, p83.2)).bind fun p85 =>
    (bif wantV (.bool b82) true then
    ldN 6 p85.1 p85.2 fun v86 =>
    some (v86, p85.2)
    else some (undef, p85.2)).bind fun p87 =>
    (bif wantV (.bool b82) true then
    ldN 3 (.pointer (some ⟨h0.length, 0, none⟩)) p87.2 fun v88 =>
    some (v88, p87.2)
    else some (undef, p87.2)).bind fun p89 =>
    (bif wantV (.bool b82) true then
    cl (rc md 22 [p89.1, (.int .i64 0), (.int .i64 1)] p89.2) fun v90 h91 =>
    cIn .i64 v90 fun n92 =>
    some ((.int .i64 n92), h91)
    else some (undef, p89.2)).bind fun p93 =>
    (bif wantV (.bool b82) true then
    cl (rc md 21 [p87.1, p93.1, (.int .i64 0)] p93.2) fun v94 h95 =>
    cBn v94 fun b96 =>
    some ((.bool b96), h95)
    else some (undef, p93.2)).bind fun p97 =>
    (bif wantV (.bool b82) true then
    aUn .not p97.1 fun v98 =>
    some (v98, p97.2)
    else some (undef, p97.2)).bind fun p99 =>
    cBn (bif b82 then p99.1 else (.bool false)) fun b100 =>
    (bif wantV (.bool b100) true then
    some ((.pointer (some ⟨h5.length, 0, none⟩)), p99.2)
    else some (undef, p99.2)).bind fun p101 =>
    (bif wantV (.bool b100) true then
    fA 0 p101.1 fun v102 =>
    some (v102, p101.2)
    else some (undef, p101.2)).bind fun p103 =>
    (bif wantV (.bool b100) true then
    ldN 6 p103.1 p103.2 fun v104 =>
    some (v104, p103.2)
    else some (undef, p103.2)).bind fun p105 =>
    (bif wantV (.bool b100) true then
    ldN 3 (.pointer (some ⟨h0.length, 0, none⟩)) p105.2 fun v106 =>
    some (v106, p105.2)
    else some (undef, p105.2)).bind fun p107 =>
    (bif wantV (.bool b100) true then
    cl (rc md 22 [p107.1, (.int .i64 0), (.int .i64 3)] p107.2) fun v108 h109 =>
    cIn .i64 v108 fun n110 =>
    some ((.int .i64 n110), h109)
    else some (undef, p107.2)).bind fun p111 =>
    (bif wantV (.bool b100) true then
    cl (rc md 21 [p105.1, p111.1, (.int .i64 0)] p111.2) fun v112 h113 =>
    cBn v112 fun b114 =>
    some ((.bool b114), h113)
    else some (undef, p111.2)).bind fun p115 =>
    cBn (bif b100 then p115.1 else (.bool false)) fun b116 =>
    some ((.bool b116), List.take h0.length p115.2)
theorem F8_eq0 (rc : Rec) (md : Md)  (h0 : Heap) : callStep0 Try.prog cfg rc md 8 [] h0 = F8 rc ⟨md.ro, h0.length⟩  h0 := by kernel_rfl
theorem F8_eq (rc : Rec) (md : Md)  (h0 : Heap) : callStep Try.prog cfg rc md 8 [] h0 = F8 rc ⟨md.ro, h0.length⟩  h0 := (callStep_ne (by kernel_rfl)).trans (F8_eq0 rc md  h0)

/-- tombolo/tombololaw12.begun -/
noncomputable def J9_1 (rc : Rec) (md : Md) (h0 : Heap) (s1 : Value) (s2 : Value) (s4 : Value) (s6 : Value) (h : Heap) : Option (Value × Heap) :=
  ldN 6 s6 h fun v1 =>
  aBuild Try.prog 34 [(0, v1)] fun v2 =>
  ldN 3 s1 h fun v3 =>
  cl (rc md 26 [s4] h) fun v4 h5 =>
  aBuild Try.prog 36 [(0, v3), (1, (.iface 72 v4))] fun v6 =>
  aBuild Try.prog 38 [(0, v2), (1, v6)] fun v7 =>
  st md 10 s2 v7 h5 fun h8 =>
  ldN 10 s2 h8 fun v9 =>
  some ((.tuple #[v9, (.bool true)]), h8)
theorem J9_1_at (rc : Rec) (md : Md) (h0 : Heap) (t : T) (h : Heap) : cut Try.prog cfg rc md 44 (bodyOf Try.prog 9) [1, 1, 1, 1, 1] (retK Try.prog cfg 9 (rsOf Try.prog 9) h0) t h = J9_1 rc md h0 (t 1) (t 2) (t 4) (t 6) h := by kernel_rfl
theorem J9_1_cut (rc : Rec) (md : Md) (h0 : Heap) : cut Try.prog cfg rc md 44 (bodyOf Try.prog 9) [1, 1, 1, 1, 1] (retK Try.prog cfg 9 (rsOf Try.prog 9) h0) = fun t h => J9_1 rc md h0 (t 1) (t 2) (t 4) (t 6) h := funext fun t => funext fun h => J9_1_at rc md h0 t h
noncomputable def Jk9_0 (rc : Rec) (md : Md) (h0 : Heap) (e : Exit) (s1 : Value) (s2 : Value) (s3 : Value) (s4 : Value) (s6 : Value) (s7 : Value) (h : Heap) : Option (Value × Heap) :=
  match e with
  | .normal =>
    J9_1 rc md h0 s1 s2 s4 s6 h
  | .exit j =>
    bif Nat.beq j 0 then
      J9_1 rc md h0 s1 s2 s4 s6 h
    else
      none
  | .ret =>
    ldN 10 s2 h fun v1 =>
    some ((.tuple #[v1, s3]), h)
  | .goto l => none
  | .panic ps => none
  | .outgrown => none
noncomputable def Jk9_0H (rc : Rec) (md : Md) (h0 : Heap) (X1 : T → Heap → Option (Value × Heap)) (e : Exit) (t : T) (h : Heap) : Option (Value × Heap) :=
  match e with
  | .normal =>
    X1 t h
  | .exit j =>
    bif Nat.beq j 0 then
      X1 t h
    else
      none
  | .ret =>
    ldN 10 (t 2) h fun v1 =>
    some ((.tuple #[v1, (t 3)]), h)
  | .goto l => none
  | .panic ps => none
  | .outgrown => none
theorem Jk9_0_h1 (rc : Rec) (md : Md) (h0 : Heap) (X : Nat → T → Heap → Option (Value × Heap)) (e : Exit) (t : T) (h : Heap) : kAtG Try.prog cfg X rc md 44 (replS (bodyOf Try.prog 9) [([1, 1, 1, 1, 1], 1)]) [1, 1, 1, 1, 0, 1, 0] (retK Try.prog cfg 9 (rsOf Try.prog 9) h0) e t h = Jk9_0H rc md h0 (X 1) e t h := by cases e <;> kernel_rfl
theorem Jk9_0_h2 (rc : Rec) (md : Md) (h0 : Heap) (e : Exit) (t : T) (h : Heap) : Jk9_0H rc md h0 (fun t h => J9_1 rc md h0 (t 1) (t 2) (t 4) (t 6) h) e t h = Jk9_0 rc md h0 e (t 1) (t 2) (t 3) (t 4) (t 6) (t 7) h := by cases e <;> (unfold Jk9_0H Jk9_0; kernel_rfl)
theorem Jk9_0_at (rc : Rec) (md : Md) (h0 : Heap) (e : Exit) (t : T) (h : Heap) : kAt Try.prog cfg rc md 44 (bodyOf Try.prog 9) [1, 1, 1, 1, 0, 1, 0] (retK Try.prog cfg 9 (rsOf Try.prog 9) h0) e t h = Jk9_0 rc md h0 e (t 1) (t 2) (t 3) (t 4) (t 6) (t 7) h := by
  rw [kAt_holes [([1, 1, 1, 1, 1], 1)] [1, 1, 1, 1, 0, 1, 0] (by kernel_rfl), Jk9_0_h1, show (goX Try.prog cfg rc md 44 (bodyOf Try.prog 9) [([1, 1, 1, 1, 1], 1)] (retK Try.prog cfg 9 (rsOf Try.prog 9) h0)) 1 = _ from J9_1_cut rc md h0]
  exact Jk9_0_h2 rc md h0 e t h
/-- a round -/
noncomputable def Jr9_0 (rc : Rec) (md : Md) (s1 : Value) (s2 : Value) (s3 : Value) (s4 : Value) (s6 : Value) (s7 : Value) (h : Heap) : Option (((Value × Value × Value × Value × Value × Value) × Heap) ⊕ (Exit × (Value × Value × Value × Value × Value × Value) × Heap)) :=
  ldN 3 s1 h fun v1 =>
  cl (rc md 27 [v1] h) fun v2 h3 =>
  cIn .i64 v2 fun n4 =>
  aBin Try.prog .leq 3 s7 (.int .i64 n4) fun v5 =>
  cBn v5 fun b6 =>
  bif b6 then
    ldN 6 s6 h3 fun v7 =>
    cl (rc md 28 [v7, s7] h3) fun v8 h9 =>
    aBin Try.prog .add 3 s7 (.int .i64 1) fun v10 =>
    some (.inl ((s1, s2, s3, s4, s6, v10), h9))
  else
    some (.inr ((.exit 0), (s1, s2, s3, s4, s6, s7), h3))
theorem Jr9_0_at (rc : Rec) (md : Md) (t : T) (h : Heap) : exec Try.prog cfg rc md 44 (sub (bodyOf Try.prog 9) [1, 1, 1, 1, 0, 1, 0, 0]) (rndK (fun t => (t 1, t 2, t 3, t 4, t 6, t 7))) t h = Jr9_0 rc md (t 1) (t 2) (t 3) (t 4) (t 6) (t 7) h := by kernel_rfl
noncomputable def J9_0 (rc : Rec) (md : Md) (h0 : Heap) (s1 : Value) (s2 : Value) (s3 : Value) (s4 : Value) (s6 : Value) (s7 : Value) (h : Heap) : Option (Value × Heap) :=
  runL (fun x : (Value × Value × Value × Value × Value × Value) × Heap => Jr9_0 rc md x.1.1 x.1.2.1 x.1.2.2.1 x.1.2.2.2.1 x.1.2.2.2.2.1 x.1.2.2.2.2.2 x.2) (fun e (s : Value × Value × Value × Value × Value × Value) h => Jk9_0 rc md h0 e s.1 s.2.1 s.2.2.1 s.2.2.2.1 s.2.2.2.2.1 s.2.2.2.2.2 h) (s1, s2, s3, s4, s6, s7) h
theorem J9_0_step (rc : Rec) (md : Md) (h0 : Heap) (s1 : Value) (s2 : Value) (s3 : Value) (s4 : Value) (s6 : Value) (s7 : Value) (h : Heap) : J9_0 rc md h0 s1 s2 s3 s4 s6 s7 h = (Jr9_0 rc md s1 s2 s3 s4 s6 s7 h).bind fun x => match x with
    | .inl (s, h) => J9_0 rc md h0 s.1 s.2.1 s.2.2.1 s.2.2.2.1 s.2.2.2.2.1 s.2.2.2.2.2 h
    | .inr (e, s, h) => Jk9_0 rc md h0 e s.1 s.2.1 s.2.2.1 s.2.2.2.1 s.2.2.2.2.1 s.2.2.2.2.2 h := by
  unfold J9_0
  rw [runL_eq]
  refine congrArg (Option.bind _) (funext fun x => ?_)
  rcases x with ⟨s, h⟩ | ⟨e, s, h⟩ <;> rfl
theorem J9_0_cut (rc : Rec) (md : Md) (h0 : Heap) : cut Try.prog cfg rc md 44 (bodyOf Try.prog 9) [1, 1, 1, 1, 0, 1, 0] (retK Try.prog cfg 9 (rsOf Try.prog 9) h0) = fun t h => J9_0 rc md h0 (t 1) (t 2) (t 3) (t 4) (t 6) (t 7) h := by
  funext t h
  have e : sub (bodyOf Try.prog 9) [1, 1, 1, 1, 0, 1, 0] = .loop (sub (bodyOf Try.prog 9) [1, 1, 1, 1, 0, 1, 0, 0]) := by kernel_rfl
  unfold cut
  rw [e]
  exact loop_eq (by kernel_rfl) (fun t => (t 1, t 2, t 3, t 4, t 6, t 7)) (fun x : (Value × Value × Value × Value × Value × Value) × Heap => Jr9_0 rc md x.1.1 x.1.2.1 x.1.2.2.1 x.1.2.2.2.1 x.1.2.2.2.2.1 x.1.2.2.2.2.2 x.2) (fun t h => Jr9_0_at rc md t h) (fun e (s : Value × Value × Value × Value × Value × Value) h => Jk9_0 rc md h0 e s.1 s.2.1 s.2.2.1 s.2.2.2.1 s.2.2.2.2.1 s.2.2.2.2.2 h) (fun e t h => Jk9_0_at rc md h0 e t h) t h
noncomputable def F9 (rc : Rec) (md : Md) (a0_0 : Int) (a0_1 : Int) (a0_2 : Int) (h0 : Heap) : Option (Value × Heap) :=
  let h1 : Heap := h0 ++ [.own [(.int .i64 a0_0), (.int .i64 a0_1), (.int .i64 a0_2)]]
  let h2 : Heap := h1 ++ [.own [(.int .i64 0), (.int .i64 0), (.int .i64 0), .nilIface, (.int .i64 0), (.int .i64 0), (.int .i64 0), (.int .i64 0), (.int .i64 0), .nilIface]]
  ldN 3 (.pointer (some ⟨h0.length, 0, none⟩)) h2 fun v3 =>
  cl (rc md 25 [v3] h2) fun v4 h5 =>
  cIn .i64 v4 fun n6 =>
  cl (rc md 24 [(.int .i64 n6)] h5) fun v7 h8 =>
  exT v7 0 fun v9 =>
  exT v7 1 fun v10 =>
  cIn .i64 v10 fun n11 =>
  (bif wantV (.bool (n11 != 0)) false then
  some (v9, h8)
  else some (undef, h8)).bind fun p12 =>
  (bif wantV (.bool (n11 != 0)) false then
  aBin Try.prog .eql 67 p12.1 (.pointer none) fun v13 =>
  some (v13, p12.2)
  else some (undef, p12.2)).bind fun p14 =>
  cBn (bif (n11 != 0) then (.bool true) else p14.1) fun b15 =>
  bif b15 then
    st md 10 (.pointer (some ⟨h1.length, 0, none⟩)) (.agg #[(.int .i64 0), (.int .i64 0), (.int .i64 0), .nilIface, (.int .i64 0), (.int .i64 0), (.int .i64 0), (.int .i64 0), (.int .i64 0), .nilIface]) p14.2 fun h16 =>
    ldN 10 (.pointer (some ⟨h1.length, 0, none⟩)) h16 fun v17 =>
    some ((.tuple #[v17, (.bool false)]), h16)
  else
    ldN 3 (.pointer (some ⟨h0.length, 0, none⟩)) p14.2 fun v18 =>
    cl (rc md 26 [v9] p14.2) fun v19 h20 =>
    aBuild Try.prog 32 [(0, v18), (1, (.iface 72 v19)), (2, (.agg #[(.int .i64 1), (.int .i64 0)]))] fun v21 =>
    let h22 : Heap := h20 ++ [.own [(.int .i64 0), (.int .i64 0), (.int .i64 0), .nilIface, (.int .i64 0), (.int .i64 0)]]
    cLE true (fun hq => cl (rc md 26 [v9] hq) fun vq _ => some vq) v19 h20 h22 <|
    cLE true (fun hq => ldN 3 (.pointer (some ⟨h0.length, 0, none⟩)) hq some) v18 h20 h22 <|
    st md 6 (.pointer (some ⟨h20.length, 0, none⟩)) v21 h22 fun h23 =>
    J9_0 rc md h0 (.pointer (some ⟨h0.length, 0, none⟩)) (.pointer (some ⟨h1.length, 0, none⟩)) (.bool false) v9 (.pointer (some ⟨h20.length, 0, none⟩)) (.int .i64 1) h23
noncomputable def F9H (rc : Rec) (md : Md) (X0 : T → Heap → Option (Value × Heap)) (a0_0 : Int) (a0_1 : Int) (a0_2 : Int) (h0 : Heap) : Option (Value × Heap) :=
  let h1 : Heap := h0 ++ [.own [(.int .i64 a0_0), (.int .i64 a0_1), (.int .i64 a0_2)]]
  let h2 : Heap := h1 ++ [.own [(.int .i64 0), (.int .i64 0), (.int .i64 0), .nilIface, (.int .i64 0), (.int .i64 0), (.int .i64 0), (.int .i64 0), (.int .i64 0), .nilIface]]
  ldN 3 (.pointer (some ⟨h0.length, 0, none⟩)) h2 fun v3 =>
  cl (rc md 25 [v3] h2) fun v4 h5 =>
  cIn .i64 v4 fun n6 =>
  cl (rc md 24 [(.int .i64 n6)] h5) fun v7 h8 =>
  exT v7 0 fun v9 =>
  exT v7 1 fun v10 =>
  cIn .i64 v10 fun n11 =>
  (bif wantV (.bool (n11 != 0)) false then
  some (v9, h8)
  else some (undef, h8)).bind fun p12 =>
  (bif wantV (.bool (n11 != 0)) false then
  aBin Try.prog .eql 67 p12.1 (.pointer none) fun v13 =>
  some (v13, p12.2)
  else some (undef, p12.2)).bind fun p14 =>
  cBn (bif (n11 != 0) then (.bool true) else p14.1) fun b15 =>
  bif b15 then
    st md 10 (.pointer (some ⟨h1.length, 0, none⟩)) (.agg #[(.int .i64 0), (.int .i64 0), (.int .i64 0), .nilIface, (.int .i64 0), (.int .i64 0), (.int .i64 0), (.int .i64 0), (.int .i64 0), .nilIface]) p14.2 fun h16 =>
    ldN 10 (.pointer (some ⟨h1.length, 0, none⟩)) h16 fun v17 =>
    some ((.tuple #[v17, (.bool false)]), h16)
  else
    ldN 3 (.pointer (some ⟨h0.length, 0, none⟩)) p14.2 fun v18 =>
    cl (rc md 26 [v9] p14.2) fun v19 h20 =>
    aBuild Try.prog 32 [(0, v18), (1, (.iface 72 v19)), (2, (.agg #[(.int .i64 1), (.int .i64 0)]))] fun v21 =>
    let h22 : Heap := h20 ++ [.own [(.int .i64 0), (.int .i64 0), (.int .i64 0), .nilIface, (.int .i64 0), (.int .i64 0)]]
    cLE true (fun hq => cl (rc md 26 [v9] hq) fun vq _ => some vq) v19 h20 h22 <|
    cLE true (fun hq => ldN 3 (.pointer (some ⟨h0.length, 0, none⟩)) hq some) v18 h20 h22 <|
    st md 6 (.pointer (some ⟨h20.length, 0, none⟩)) v21 h22 fun h23 =>
    X0 (upd (upd (upd (upd (upd (upd (upd (upd (upd (upd (upd (upd (upd (upd (upd (upd (upd (upd (upd (upd (upd (upd (upd (upd (upd (args0 [(.agg #[(.int .i64 a0_0), (.int .i64 a0_1), (.int .i64 a0_2)])]) 1 (.pointer (some ⟨h0.length, 0, none⟩))) 2 (.pointer (some ⟨h1.length, 0, none⟩))) 3 (.bool false)) 9 v3) 10 (.int .i64 n6)) 11 v7) 8 v7) 12 v9) 13 (.int .i64 n11)) 4 v9) 5 (.int .i64 n11)) 14 (.int .i64 n11)) 15 (.bool (n11 != 0))) 16 (.bool (n11 != 0))) 17 p12.1) 18 p14.1) 19 (.bool b15)) 21 v18) 22 v9) 23 v19) 24 (.iface 72 v19)) 25 (.agg #[(.int .i64 1), (.int .i64 0)])) 26 v21) 6 (.pointer (some ⟨h20.length, 0, none⟩))) 7 (.int .i64 1)) h23
theorem F9_h0 (rc : Rec) (md : Md) (a0_0 : Int) (a0_1 : Int) (a0_2 : Int) (h0 : Heap) : callStep0 Try.prog cfg rc md 9 [(.agg #[(.int .i64 a0_0), (.int .i64 a0_1), (.int .i64 a0_2)])] h0 = exec Try.prog cfg rc md 44 (bodyOf Try.prog 9) (retK Try.prog cfg 9 (rsOf Try.prog 9) h0) (args0 [(.agg #[(.int .i64 a0_0), (.int .i64 a0_1), (.int .i64 a0_2)])]) h0 := callStep0_run (by kernel_rfl) (by kernel_rfl) (by kernel_rfl)
theorem F9_h1 (rc : Rec) (md : Md) (X : Nat → T → Heap → Option (Value × Heap)) (a0_0 : Int) (a0_1 : Int) (a0_2 : Int) (h0 : Heap) : execG Try.prog cfg X rc md 44 (replS (bodyOf Try.prog 9) [([1, 1, 1, 1, 0, 1, 0], 0), ([1, 1, 1, 1, 1], 1)]) (retK Try.prog cfg 9 (rsOf Try.prog 9) h0) (args0 [(.agg #[(.int .i64 a0_0), (.int .i64 a0_1), (.int .i64 a0_2)])]) h0 = F9H rc md (X 0) a0_0 a0_1 a0_2 h0 := by kernel_rfl
theorem F9_h2 (rc : Rec) (md : Md) (a0_0 : Int) (a0_1 : Int) (a0_2 : Int) (h0 : Heap) : F9H rc md (fun t h => J9_0 rc md h0 (t 1) (t 2) (t 3) (t 4) (t 6) (t 7) h) a0_0 a0_1 a0_2 h0 = F9 rc md a0_0 a0_1 a0_2 h0 := by unfold F9H F9; kernel_rfl
theorem F9_eq0 (rc : Rec) (md : Md) (a0_0 : Int) (a0_1 : Int) (a0_2 : Int) (h0 : Heap) : callStep0 Try.prog cfg rc md 9 [(.agg #[(.int .i64 a0_0), (.int .i64 a0_1), (.int .i64 a0_2)])] h0 = F9 rc md a0_0 a0_1 a0_2 h0 := by
  rw [F9_h0, exec_holes [([1, 1, 1, 1, 0, 1, 0], 0), ([1, 1, 1, 1, 1], 1)] (by kernel_rfl), F9_h1, show (goX Try.prog cfg rc md 44 (bodyOf Try.prog 9) [([1, 1, 1, 1, 0, 1, 0], 0), ([1, 1, 1, 1, 1], 1)] (retK Try.prog cfg 9 (rsOf Try.prog 9) h0)) 0 = _ from J9_0_cut rc md h0]
  exact F9_h2 rc _ a0_0 a0_1 a0_2 h0
theorem F9_eq (rc : Rec) (md : Md) (a0_0 : Int) (a0_1 : Int) (a0_2 : Int) (h0 : Heap) : callStep Try.prog cfg rc md 9 [(.agg #[(.int .i64 a0_0), (.int .i64 a0_1), (.int .i64 a0_2)])] h0 = F9 rc md a0_0 a0_1 a0_2 h0 := (callStep_ne (by kernel_rfl)).trans (F9_eq0 rc md a0_0 a0_1 a0_2 h0)

/-- (*tombolo/tombololaw12.play).step -/
noncomputable def F10 (rc : Rec) (md : Md) (a0 : Value) (a1_0 : Int) (a1_1 : Int) (a1_2 : Int) (a1_3 : Int) (a1_4 : Int) (h0 : Heap) : Option (Value × Heap) :=
  let h1 : Heap := h0 ++ [.own [(.int .i64 a1_0), (.int .i64 a1_1), (.int .i64 a1_2), (.int .i64 a1_3), (.int .i64 a1_4)]]
  bif okNil Try.prog a0 then
  fA 0 a0 fun v2 =>
  ldN 3 v2 h1 fun v3 =>
  let h4 : Heap := h1 ++ [.own [(.int .i64 0), (.int .i64 0), (.int .i64 0)]]
  st md 3 (.pointer (some ⟨h1.length, 0, none⟩)) v3 h4 fun h5 =>
  ld1 (.pointer (some ⟨h0.length, 2, none⟩)) h5 fun v6 =>
  cIn .i64 v6 fun n7 =>
  ld1 (.pointer (some ⟨h0.length, 3, none⟩)) h5 fun v8 =>
  cIn .i64 v8 fun n9 =>
  (bif wantV (.bool (n7 == n9)) false then
  some ((.pointer (some ⟨h0.length, 2, none⟩)), h5)
  else some (undef, h5)).bind fun p10 =>
  (bif wantV (.bool (n7 == n9)) false then
  ld1 p10.1 p10.2 fun v11 =>
  cIn .i64 v11 fun n12 =>
  some ((.int .i64 n12), p10.2)
  else some (undef, p10.2)).bind fun p13 =>
  (bif wantV (.bool (n7 == n9)) false then
  aBin Try.prog .lss 3 p13.1 (.int .i64 0) fun v14 =>
  some (v14, p13.2)
  else some (undef, p13.2)).bind fun p15 =>
  cBn (bif (n7 == n9) then (.bool true) else p15.1) fun b16 =>
  (bif wantV (.bool b16) false then
  some ((.pointer (some ⟨h0.length, 2, none⟩)), p15.2)
  else some (undef, p15.2)).bind fun p17 =>
  (bif wantV (.bool b16) false then
  ld1 p17.1 p17.2 fun v18 =>
  cIn .i64 v18 fun n19 =>
  some ((.int .i64 n19), p17.2)
  else some (undef, p17.2)).bind fun p20 =>
  (bif wantV (.bool b16) false then
  some ((.pointer (some ⟨h1.length, 0, none⟩)), p20.2)
  else some (undef, p20.2)).bind fun p21 =>
  (bif wantV (.bool b16) false then
  ld1 p21.1 p21.2 fun v22 =>
  cIn .i64 v22 fun n23 =>
  some ((.int .i64 n23), p21.2)
  else some (undef, p21.2)).bind fun p24 =>
  (bif wantV (.bool b16) false then
  aBin Try.prog .geq 3 p20.1 p24.1 fun v25 =>
  some (v25, p24.2)
  else some (undef, p24.2)).bind fun p26 =>
  cBn (bif b16 then (.bool true) else p26.1) fun b27 =>
  (bif wantV (.bool b27) false then
  some ((.pointer (some ⟨h0.length, 3, none⟩)), p26.2)
  else some (undef, p26.2)).bind fun p28 =>
  (bif wantV (.bool b27) false then
  ld1 p28.1 p28.2 fun v29 =>
  cIn .i64 v29 fun n30 =>
  some ((.int .i64 n30), p28.2)
  else some (undef, p28.2)).bind fun p31 =>
  (bif wantV (.bool b27) false then
  aBin Try.prog .lss 3 p31.1 (.int .i64 0) fun v32 =>
  some (v32, p31.2)
  else some (undef, p31.2)).bind fun p33 =>
  cBn (bif b27 then (.bool true) else p33.1) fun b34 =>
  (bif wantV (.bool b34) false then
  some ((.pointer (some ⟨h0.length, 3, none⟩)), p33.2)
  else some (undef, p33.2)).bind fun p35 =>
  (bif wantV (.bool b34) false then
  ld1 p35.1 p35.2 fun v36 =>
  cIn .i64 v36 fun n37 =>
  some ((.int .i64 n37), p35.2)
  else some (undef, p35.2)).bind fun p38 =>
  (bif wantV (.bool b34) false then
  some ((.pointer (some ⟨h1.length, 0, none⟩)), p38.2)
  else some (undef, p38.2)).bind fun p39 =>
  (bif wantV (.bool b34) false then
  ld1 p39.1 p39.2 fun v40 =>
  cIn .i64 v40 fun n41 =>
  some ((.int .i64 n41), p39.2)
  else some (undef, p39.2)).bind fun p42 =>
  (bif wantV (.bool b34) false then
  aBin Try.prog .geq 3 p38.1 p42.1 fun v43 =>
  some (v43, p42.2)
  else some (undef, p42.2)).bind fun p44 =>
  cBn (bif b34 then (.bool true) else p44.1) fun b45 =>
  (bif wantV (.bool b45) false then
  some ((.pointer (some ⟨h0.length, 1, none⟩)), p44.2)
  else some (undef, p44.2)).bind fun p46 =>
  (bif wantV (.bool b45) false then
  ld1 p46.1 p46.2 fun v47 =>
  cIn .i64 v47 fun n48 =>
  some ((.int .i64 n48), p46.2)
  else some (undef, p46.2)).bind fun p49 =>
  (bif wantV (.bool b45) false then
  aBin Try.prog .lss 3 p49.1 (.int .i64 0) fun v50 =>
  some (v50, p49.2)
  else some (undef, p49.2)).bind fun p51 =>
  cBn (bif b45 then (.bool true) else p51.1) fun b52 =>
  (bif wantV (.bool b52) false then
  some ((.pointer (some ⟨h0.length, 1, none⟩)), p51.2)
  else some (undef, p51.2)).bind fun p53 =>
  (bif wantV (.bool b52) false then
  ld1 p53.1 p53.2 fun v54 =>
  cIn .i64 v54 fun n55 =>
  some ((.int .i64 n55), p53.2)
  else some (undef, p53.2)).bind fun p56 =>
  (bif wantV (.bool b52) false then
  some ((.pointer (some ⟨h1.length, 1, none⟩)), p56.2)
  else some (undef, p56.2)).bind fun p57 =>
  (bif wantV (.bool b52) false then
  ld1 p57.1 p57.2 fun v58 =>
  cIn .i64 v58 fun n59 =>
  some ((.int .i64 n59), p57.2)
  else some (undef, p57.2)).bind fun p60 =>
  (bif wantV (.bool b52) false then
  aBin Try.prog .geq 3 p56.1 p60.1 fun v61 =>
  some (v61, p60.2)
  else some (undef, p60.2)).bind fun p62 =>
  cBn (bif b52 then (.bool true) else p62.1) fun b63 =>
  (bif wantV (.bool b63) false then
  some ((.pointer (some ⟨h0.length, 4, none⟩)), p62.2)
  else some (undef, p62.2)).bind fun p64 =>
  (bif wantV (.bool b63) false then
  ld1 p64.1 p64.2 fun v65 =>
  cIn .i64 v65 fun n66 =>
  some ((.int .i64 n66), p64.2)
  else some (undef, p64.2)).bind fun p67 =>
  (bif wantV (.bool b63) false then
  aBin Try.prog .lss 3 p67.1 (.int .i64 0) fun v68 =>
  some (v68, p67.2)
  else some (undef, p67.2)).bind fun p69 =>
  cBn (bif b63 then (.bool true) else p69.1) fun b70 =>
  (bif wantV (.bool b70) false then
  some ((.pointer (some ⟨h0.length, 4, none⟩)), p69.2)
  else some (undef, p69.2)).bind fun p71 =>
  (bif wantV (.bool b70) false then
  ld1 p71.1 p71.2 fun v72 =>
  cIn .i64 v72 fun n73 =>
  some ((.int .i64 n73), p71.2)
  else some (undef, p71.2)).bind fun p74 =>
  (bif wantV (.bool b70) false then
  ldN 3 (.pointer (some ⟨h1.length, 0, none⟩)) p74.2 fun v75 =>
  some (v75, p74.2)
  else some (undef, p74.2)).bind fun p76 =>
  (bif wantV (.bool b70) false then
  cl (rc md 12 [p76.1] p76.2) fun v77 h78 =>
  cIn .i64 v77 fun n79 =>
  some ((.int .i64 n79), h78)
  else some (undef, p76.2)).bind fun p80 =>
  (bif wantV (.bool b70) false then
  aBin Try.prog .geq 3 p74.1 p80.1 fun v81 =>
  some (v81, p80.2)
  else some (undef, p80.2)).bind fun p82 =>
  cBn (bif b70 then (.bool true) else p82.1) fun b83 =>
  bif b83 then
    some ((.tuple #[]), p82.2)
  else
    bif okNil Try.prog a0 then
    fA 13 a0 fun v84 =>
    ld1 v84 p82.2 fun v85 =>
    ld1 (.pointer (some ⟨h0.length, 1, none⟩)) p82.2 fun v86 =>
    cIn .i64 v86 fun n87 =>
    aLookup Try.prog 42 v85 (.int .i64 n87) true p82.2 fun v88 =>
    exT v88 0 fun v89 =>
    exT v88 1 fun v90 =>
    cBn v90 fun b91 =>
    let h92 : Heap := p82.2 ++ [.own [(.int .i64 0), (.int .i64 0), (.int .i64 0), (.bool false)]]
    cLE true (fun hq => aLookup Try.prog 42 v85 (.int .i64 n87) true hq some) v88 p82.2 h92 <|
    cLE true (fun hq => ld1 (.pointer (some ⟨h0.length, 1, none⟩)) hq some) (.int .i64 n87) p82.2 h92 <|
    cLE true (fun hq => ld1 v84 hq some) v85 p82.2 h92 <|
    st md 4 (.pointer (some ⟨p82.2.length, 0, none⟩)) v89 h92 fun h93 =>
    ld1 (.pointer (some ⟨h0.length, 0, none⟩)) h93 fun v94 =>
    cIn .i64 v94 fun n95 =>
    (bif wantV (.bool (n95 == 1)) true then
    some ((.bool b91), h93)
    else some (undef, h93)).bind fun p96 =>
    (bif wantV (.bool (n95 == 1)) true then
    aUn .not p96.1 fun v97 =>
    some (v97, p96.2)
    else some (undef, p96.2)).bind fun p98 =>
    cBn (bif (n95 == 1) then p98.1 else (.bool false)) fun b99 =>
    bif b99 then
      bif okNil Try.prog a0 then
      fA 3 a0 fun v100 =>
      fA 6 v100 fun v101 =>
      ldN 4 v101 p98.2 fun v102 =>
      ld1 (.pointer (some ⟨h0.length, 2, none⟩)) p98.2 fun v103 =>
      cIn .i64 v103 fun n104 =>
      ld1 (.pointer (some ⟨h0.length, 3, none⟩)) p98.2 fun v105 =>
      cIn .i64 v105 fun n106 =>
      cl (rc md 29 [v102, (.int .i64 n104), (.int .i64 n106)] p98.2) fun v107 h108 =>
      exT v107 0 fun v109 =>
      cIn .i64 v109 fun n110 =>
      exT v107 1 fun v111 =>
      cBn v111 fun b112 =>
      exT v107 2 fun v113 =>
      cBn v113 fun b114 =>
      bif b114 then
        some ((.tuple #[]), h108)
      else
        bif okNil Try.prog a0 then
        fA 3 a0 fun v115 =>
        fA 6 v115 fun v116 =>
        ldN 4 v116 h108 fun v117 =>
        ld1 (.pointer (some ⟨h0.length, 1, none⟩)) h108 fun v118 =>
        cIn .i64 v118 fun n119 =>
        ld1 (.pointer (some ⟨h0.length, 2, none⟩)) h108 fun v120 =>
        cIn .i64 v120 fun n121 =>
        ld1 (.pointer (some ⟨h0.length, 3, none⟩)) h108 fun v122 =>
        cIn .i64 v122 fun n123 =>
        ld1 (.pointer (some ⟨h0.length, 4, none⟩)) h108 fun v124 =>
        cIn .i64 v124 fun n125 =>
        cl (rc md 19 [v117, (.int .i64 n119), (.int .i64 n121), (.int .i64 n123), (.int .i64 n125), (.bool false)] h108) fun v126 h127 =>
        ld1 (.pointer (some ⟨h0.length, 1, none⟩)) h127 fun v128 =>
        cIn .i64 v128 fun n129 =>
        ld1 (.pointer (some ⟨h0.length, 2, none⟩)) h127 fun v130 =>
        cIn .i64 v130 fun n131 =>
        ld1 (.pointer (some ⟨h0.length, 3, none⟩)) h127 fun v132 =>
        cIn .i64 v132 fun n133 =>
        ld1 (.pointer (some ⟨h0.length, 2, none⟩)) h127 fun v134 =>
        cIn .i64 v134 fun n135 =>
        ld1 (.pointer (some ⟨h0.length, 3, none⟩)) h127 fun v136 =>
        cIn .i64 v136 fun n137 =>
        ld1 (.pointer (some ⟨h0.length, 4, none⟩)) h127 fun v138 =>
        cIn .i64 v138 fun n139 =>
        cl (rc md 30 [a0, (.int .i64 n129), (.agg #[(.int .i64 (if n133 < n131 then n133 else n131)), (.int .i64 (if n137 > n135 then n137 else n135)), (.int .i64 n139), (.bool false)])] h127) fun v140 h141 =>
        some ((.tuple #[]), h141)
        else none
      else none
    else
      ld1 (.pointer (some ⟨h0.length, 0, none⟩)) p98.2 fun v142 =>
      cIn .i64 v142 fun n143 =>
      (bif wantV (.bool (n143 == 2)) true then
      some ((.bool b91), p98.2)
      else some (undef, p98.2)).bind fun p144 =>
      cBn (bif (n143 == 2) then p144.1 else (.bool false)) fun b145 =>
      bif b145 then
        ld1 (.pointer (some ⟨h0.length, 1, none⟩)) p144.2 fun v146 =>
        cIn .i64 v146 fun n147 =>
        cl (rc md 31 [a0, (.int .i64 n147)] p144.2) fun v148 h149 =>
        bif okNil Try.prog a0 then
        fA 3 a0 fun v150 =>
        fA 6 v150 fun v151 =>
        ldN 4 v151 h149 fun v152 =>
        ld1 (.pointer (some ⟨p82.2.length, 0, none⟩)) h149 fun v153 =>
        cIn .i64 v153 fun n154 =>
        ld1 (.pointer (some ⟨p82.2.length, 1, none⟩)) h149 fun v155 =>
        cIn .i64 v155 fun n156 =>
        cl (rc md 32 [v152, (.int .i64 n154), (.int .i64 n156)] h149) fun v157 h158 =>
        some ((.tuple #[]), h158)
        else none
      else
        ld1 (.pointer (some ⟨h0.length, 0, none⟩)) p144.2 fun v159 =>
        cIn .i64 v159 fun n160 =>
        (bif wantV (.bool (n160 == 3)) true then
        some ((.bool b91), p144.2)
        else some (undef, p144.2)).bind fun p161 =>
        cBn (bif (n160 == 3) then p161.1 else (.bool false)) fun b162 =>
        bif b162 then
          ld1 (.pointer (some ⟨h0.length, 1, none⟩)) p161.2 fun v163 =>
          cIn .i64 v163 fun n164 =>
          cl (rc md 31 [a0, (.int .i64 n164)] p161.2) fun v165 h166 =>
          bif okNil Try.prog a0 then
          fA 3 a0 fun v167 =>
          fA 6 v167 fun v168 =>
          ldN 4 v168 h166 fun v169 =>
          ld1 (.pointer (some ⟨h0.length, 1, none⟩)) h166 fun v170 =>
          cIn .i64 v170 fun n171 =>
          ld1 (.pointer (some ⟨h0.length, 4, none⟩)) h166 fun v172 =>
          cIn .i64 v172 fun n173 =>
          cl (rc md 33 [v169, (.int .i64 n171), (.int .i64 n173)] h166) fun v174 h175 =>
          ld1 (.pointer (some ⟨h0.length, 4, none⟩)) h175 fun v176 =>
          cIn .i64 v176 fun n177 =>
          st md 1 (.pointer (some ⟨p82.2.length, 2, none⟩)) (.int .i64 n177) h175 fun h178 =>
          ld1 (.pointer (some ⟨h0.length, 1, none⟩)) h178 fun v179 =>
          cIn .i64 v179 fun n180 =>
          ldN 4 (.pointer (some ⟨p82.2.length, 0, none⟩)) h178 fun v181 =>
          cl (rc md 30 [a0, (.int .i64 n180), v181] h178) fun v182 h183 =>
          some ((.tuple #[]), h183)
          else none
        else
          some ((.tuple #[]), p161.2)
    else none
  else none
theorem F10_eq0 (rc : Rec) (md : Md) (a0 : Value) (a1_0 : Int) (a1_1 : Int) (a1_2 : Int) (a1_3 : Int) (a1_4 : Int) (h0 : Heap) : callStep0 Try.prog cfg rc md 10 [a0, (.agg #[(.int .i64 a1_0), (.int .i64 a1_1), (.int .i64 a1_2), (.int .i64 a1_3), (.int .i64 a1_4)])] h0 = F10 rc md a0 a1_0 a1_1 a1_2 a1_3 a1_4 h0 := by kernel_rfl
theorem F10_eq (rc : Rec) (md : Md) (a0 : Value) (a1_0 : Int) (a1_1 : Int) (a1_2 : Int) (a1_3 : Int) (a1_4 : Int) (h0 : Heap) : callStep Try.prog cfg rc md 10 [a0, (.agg #[(.int .i64 a1_0), (.int .i64 a1_1), (.int .i64 a1_2), (.int .i64 a1_3), (.int .i64 a1_4)])] h0 = F10 rc md a0 a1_0 a1_1 a1_2 a1_3 a1_4 h0 := (callStep_ne (by kernel_rfl)).trans (F10_eq0 rc md a0 a1_0 a1_1 a1_2 a1_3 a1_4 h0)

/-- (tombolo/adj.Adj).First -/
noncomputable def F16 (rc : Rec) (md : Md) (a0 : Value) (a1 : Int) (a2 : Int) (h0 : Heap) : Option (Value × Heap) :=
  let h1 : Heap := h0 ++ [.own a0.cells.toList]
  ldN 10 (.pointer (some ⟨h0.length, 0, none⟩)) h1 fun v2 =>
  ldN 3 (.pointer (some ⟨h0.length, 6, none⟩)) h1 fun v3 =>
  cl (rc md 13 [v3, (.int .i64 a1), (.int .i64 a2)] h1) fun v4 h5 =>
  cIn .i64 v4 fun n6 =>
  cl (rc md 39 [v2, (.int .i64 n6)] h5) fun v7 h8 =>
  cIn .i64 v7 fun n9 =>
  bif (n9 == 0) then
    some ((.tuple #[(.int .i64 0), (.bool false)]), List.take h0.length h8)
  else
    some ((.tuple #[(.int .i64 (IntKind.wrap .i64 (Int.tdiv (IntKind.wrap .i64 (n9 - 1)) 2))), (.bool true)]), List.take h0.length h8)
theorem F16_eq0 (rc : Rec) (md : Md) (a0 : Value) (a1 : Int) (a2 : Int) (h0 : Heap) : callStep0 Try.prog cfg rc md 16 [a0, (.int .i64 a1), (.int .i64 a2)] h0 = F16 rc ⟨md.ro, h0.length⟩ a0 a1 a2 h0 := by kernel_rfl
theorem F16_eq (rc : Rec) (md : Md) (a0 : Value) (a1 : Int) (a2 : Int) (h0 : Heap) : callStep Try.prog cfg rc md 16 [a0, (.int .i64 a1), (.int .i64 a2)] h0 = F16 rc ⟨md.ro, h0.length⟩ a0 a1 a2 h0 := (callStep_ne (by kernel_rfl)).trans (F16_eq0 rc md a0 a1 a2 h0)

/-- (tombolo/adj.Adj).List -/
noncomputable def Jk17_0 (rc : Rec) (md : Md) (h0 : Heap) (e : Exit) (s3 : Value) (s6 : Value) (s7 : Value) (s8 : Value) (h : Heap) : Option (Value × Heap) :=
  match e with
  | .normal =>
    some (s7, h)
  | .exit j =>
    bif Nat.beq j 0 then
      some (s7, h)
    else
      none
  | .ret =>
    some (s6, h)
  | .goto l => none
  | .panic ps => none
  | .outgrown => none
theorem Jk17_0_at (rc : Rec) (md : Md) (h0 : Heap) (e : Exit) (t : T) (h : Heap) : kAt Try.prog cfg rc md 31 (bodyOf Try.prog 17) [1, 1, 0, 1, 0] (retK Try.prog cfg 17 (rsOf Try.prog 17) h0) e t h = Jk17_0 rc md h0 e (t 3) (t 6) (t 7) (t 8) h := by cases e <;> kernel_rfl
/-- a round -/
noncomputable def Jr17_0 (rc : Rec) (md : Md) (s3 : Value) (s6 : Value) (s7 : Value) (s8 : Value) (h : Heap) : Option (((Value × Value × Value × Value) × Heap) ⊕ (Exit × (Value × Value × Value × Value) × Heap)) :=
  aBin Try.prog .neq 3 s8 (.int .i64 0) fun v1 =>
  cBn v1 fun b2 =>
  bif b2 then
    aBin Try.prog .sub 3 s8 (.int .i64 1) fun v3 =>
    aBin Try.prog .quo 3 v3 (.int .i64 2) fun v4 =>
    aBuildSlice Try.prog 60 1 [(0, v4)] h fun v5 h6 =>
    aBuiltin Try.prog md .append #[60, 60] [s7, v5] h6 fun v7 h8 =>
    ldN 10 s3 h8 fun v9 =>
    ldN 10 s3 h8 fun v10 =>
    cl (rc md 40 [v10, s8] h8) fun v11 h12 =>
    cIn .i64 v11 fun n13 =>
    cl (rc md 39 [v9, (.int .i64 n13)] h12) fun v14 h15 =>
    cIn .i64 v14 fun n16 =>
    some (.inl ((s3, s6, v7, (.int .i64 n16)), h15))
  else
    some (.inr ((.exit 0), (s3, s6, s7, s8), h))
theorem Jr17_0_at (rc : Rec) (md : Md) (t : T) (h : Heap) : exec Try.prog cfg rc md 31 (sub (bodyOf Try.prog 17) [1, 1, 0, 1, 0, 0]) (rndK (fun t => (t 3, t 6, t 7, t 8))) t h = Jr17_0 rc md (t 3) (t 6) (t 7) (t 8) h := by kernel_rfl
noncomputable def J17_0 (rc : Rec) (md : Md) (h0 : Heap) (s3 : Value) (s6 : Value) (s7 : Value) (s8 : Value) (h : Heap) : Option (Value × Heap) :=
  runL (fun x : (Value × Value × Value × Value) × Heap => Jr17_0 rc md x.1.1 x.1.2.1 x.1.2.2.1 x.1.2.2.2 x.2) (fun e (s : Value × Value × Value × Value) h => Jk17_0 rc md h0 e s.1 s.2.1 s.2.2.1 s.2.2.2 h) (s3, s6, s7, s8) h
theorem J17_0_step (rc : Rec) (md : Md) (h0 : Heap) (s3 : Value) (s6 : Value) (s7 : Value) (s8 : Value) (h : Heap) : J17_0 rc md h0 s3 s6 s7 s8 h = (Jr17_0 rc md s3 s6 s7 s8 h).bind fun x => match x with
    | .inl (s, h) => J17_0 rc md h0 s.1 s.2.1 s.2.2.1 s.2.2.2 h
    | .inr (e, s, h) => Jk17_0 rc md h0 e s.1 s.2.1 s.2.2.1 s.2.2.2 h := by
  unfold J17_0
  rw [runL_eq]
  refine congrArg (Option.bind _) (funext fun x => ?_)
  rcases x with ⟨s, h⟩ | ⟨e, s, h⟩ <;> rfl
theorem J17_0_cut (rc : Rec) (md : Md) (h0 : Heap) : cut Try.prog cfg rc md 31 (bodyOf Try.prog 17) [1, 1, 0, 1, 0] (retK Try.prog cfg 17 (rsOf Try.prog 17) h0) = fun t h => J17_0 rc md h0 (t 3) (t 6) (t 7) (t 8) h := by
  funext t h
  have e : sub (bodyOf Try.prog 17) [1, 1, 0, 1, 0] = .loop (sub (bodyOf Try.prog 17) [1, 1, 0, 1, 0, 0]) := by kernel_rfl
  unfold cut
  rw [e]
  exact loop_eq (by kernel_rfl) (fun t => (t 3, t 6, t 7, t 8)) (fun x : (Value × Value × Value × Value) × Heap => Jr17_0 rc md x.1.1 x.1.2.1 x.1.2.2.1 x.1.2.2.2 x.2) (fun t h => Jr17_0_at rc md t h) (fun e (s : Value × Value × Value × Value) h => Jk17_0 rc md h0 e s.1 s.2.1 s.2.2.1 s.2.2.2 h) (fun e t h => Jk17_0_at rc md h0 e t h) t h
noncomputable def F17 (rc : Rec) (md : Md) (a0 : Value) (a1 : Int) (a2 : Int) (h0 : Heap) : Option (Value × Heap) :=
  let h1 : Heap := h0 ++ [.own a0.cells.toList]
  ldN 10 (.pointer (some ⟨h0.length, 0, none⟩)) h1 fun v2 =>
  ldN 3 (.pointer (some ⟨h0.length, 6, none⟩)) h1 fun v3 =>
  cl (rc md 13 [v3, (.int .i64 a1), (.int .i64 a2)] h1) fun v4 h5 =>
  cIn .i64 v4 fun n6 =>
  cl (rc md 39 [v2, (.int .i64 n6)] h5) fun v7 h8 =>
  cIn .i64 v7 fun n9 =>
  J17_0 rc md h0 (.pointer (some ⟨h0.length, 0, none⟩)) (.slice none 0 0) (.slice none 0 0) (.int .i64 n9) h8
noncomputable def F17H (rc : Rec) (md : Md) (X0 : T → Heap → Option (Value × Heap)) (a0 : Value) (a1 : Int) (a2 : Int) (h0 : Heap) : Option (Value × Heap) :=
  let h1 : Heap := h0 ++ [.own a0.cells.toList]
  ldN 10 (.pointer (some ⟨h0.length, 0, none⟩)) h1 fun v2 =>
  ldN 3 (.pointer (some ⟨h0.length, 6, none⟩)) h1 fun v3 =>
  cl (rc md 13 [v3, (.int .i64 a1), (.int .i64 a2)] h1) fun v4 h5 =>
  cIn .i64 v4 fun n6 =>
  cl (rc md 39 [v2, (.int .i64 n6)] h5) fun v7 h8 =>
  cIn .i64 v7 fun n9 =>
  X0 (upd (upd (upd (upd (upd (upd (upd (upd (upd (upd (upd (upd (args0 [a0, (.int .i64 a1), (.int .i64 a2)]) 3 (.pointer (some ⟨h0.length, 0, none⟩))) 6 (.slice none 0 0)) 7 (.slice none 0 0)) 9 v2) 10 (.pointer (some ⟨h0.length, 6, none⟩))) 11 (.pointer (some ⟨h0.length, 6, none⟩))) 12 v3) 13 (.int .i64 a1)) 14 (.int .i64 a2)) 15 (.int .i64 n6)) 16 (.int .i64 n9)) 8 (.int .i64 n9)) h8
theorem F17_h0 (rc : Rec) (md : Md) (a0 : Value) (a1 : Int) (a2 : Int) (h0 : Heap) : callStep0 Try.prog cfg rc md 17 [a0, (.int .i64 a1), (.int .i64 a2)] h0 = exec Try.prog cfg rc md 31 (bodyOf Try.prog 17) (retK Try.prog cfg 17 (rsOf Try.prog 17) h0) (args0 [a0, (.int .i64 a1), (.int .i64 a2)]) h0 := callStep0_run (by kernel_rfl) (by kernel_rfl) (by kernel_rfl)
theorem F17_h1 (rc : Rec) (md : Md) (X : Nat → T → Heap → Option (Value × Heap)) (a0 : Value) (a1 : Int) (a2 : Int) (h0 : Heap) : execG Try.prog cfg X rc md 31 (replS (bodyOf Try.prog 17) [([1, 1, 0, 1, 0], 0)]) (retK Try.prog cfg 17 (rsOf Try.prog 17) h0) (args0 [a0, (.int .i64 a1), (.int .i64 a2)]) h0 = F17H rc md (X 0) a0 a1 a2 h0 := by kernel_rfl
theorem F17_h2 (rc : Rec) (md : Md) (a0 : Value) (a1 : Int) (a2 : Int) (h0 : Heap) : F17H rc md (fun t h => J17_0 rc md h0 (t 3) (t 6) (t 7) (t 8) h) a0 a1 a2 h0 = F17 rc md a0 a1 a2 h0 := by unfold F17H F17; kernel_rfl
theorem F17_eq0 (rc : Rec) (md : Md) (a0 : Value) (a1 : Int) (a2 : Int) (h0 : Heap) : callStep0 Try.prog cfg rc md 17 [a0, (.int .i64 a1), (.int .i64 a2)] h0 = F17 rc md a0 a1 a2 h0 := by
  rw [F17_h0, exec_holes [([1, 1, 0, 1, 0], 0)] (by kernel_rfl), F17_h1, show (goX Try.prog cfg rc md 31 (bodyOf Try.prog 17) [([1, 1, 0, 1, 0], 0)] (retK Try.prog cfg 17 (rsOf Try.prog 17) h0)) 0 = _ from J17_0_cut rc md h0]
  exact F17_h2 rc _ a0 a1 a2 h0
theorem F17_eq (rc : Rec) (md : Md) (a0 : Value) (a1 : Int) (a2 : Int) (h0 : Heap) : callStep Try.prog cfg rc md 17 [a0, (.int .i64 a1), (.int .i64 a2)] h0 = F17 rc md a0 a1 a2 h0 := (callStep_ne (by kernel_rfl)).trans (F17_eq0 rc md a0 a1 a2 h0)

/-- (tombolo/adj.Adj).Add -/
noncomputable def F20 (rc : Rec) (md : Md) (a0 : Value) (a1 : Int) (h0 : Heap) : Option (Value × Heap) :=
  let h1 : Heap := h0 ++ [.own a0.cells.toList]
  ldN 4 (.pointer (some ⟨h0.length, 6, none⟩)) h1 fun v2 =>
  cl (rc md 45 [v2, (.int .i64 a1)] h1) fun v3 h4 =>
  let h5 : Heap := h4 ++ [.own [(.int .i64 0), (.int .i64 0), (.int .i64 0), (.bool false)]]
  st md 4 (.pointer (some ⟨h4.length, 0, none⟩)) v3 h5 fun h6 =>
  ldN 10 (.pointer (some ⟨h0.length, 0, none⟩)) h6 fun v7 =>
  cl (rc md 47 [(.int .i64 a1), (.int .i64 0)] h6) fun v8 h9 =>
  cIn .i64 v8 fun n10 =>
  ld1 (.pointer (some ⟨h4.length, 0, none⟩)) h9 fun v11 =>
  cIn .i64 v11 fun n12 =>
  ld1 (.pointer (some ⟨h4.length, 2, none⟩)) h9 fun v13 =>
  cIn .i64 v13 fun n14 =>
  cl (rc md 46 [v7, (.int .i64 n10), (.int .i64 n12), (.int .i64 n14)] h9) fun v15 h16 =>
  ldN 10 (.pointer (some ⟨h0.length, 0, none⟩)) h16 fun v17 =>
  cl (rc md 47 [(.int .i64 a1), (.int .i64 1)] h16) fun v18 h19 =>
  cIn .i64 v18 fun n20 =>
  ld1 (.pointer (some ⟨h4.length, 1, none⟩)) h19 fun v21 =>
  cIn .i64 v21 fun n22 =>
  ld1 (.pointer (some ⟨h4.length, 2, none⟩)) h19 fun v23 =>
  cIn .i64 v23 fun n24 =>
  cl (rc md 46 [v17, (.int .i64 n20), (.int .i64 n22), (.int .i64 n24)] h19) fun v25 h26 =>
  some ((.tuple #[]), List.take h0.length h26)
theorem F20_eq0 (rc : Rec) (md : Md) (a0 : Value) (a1 : Int) (h0 : Heap) : callStep0 Try.prog cfg rc md 20 [a0, (.int .i64 a1)] h0 = F20 rc ⟨md.ro, h0.length⟩ a0 a1 h0 := by kernel_rfl
theorem F20_eq (rc : Rec) (md : Md) (a0 : Value) (a1 : Int) (h0 : Heap) : callStep Try.prog cfg rc md 20 [a0, (.int .i64 a1)] h0 = F20 rc ⟨md.ro, h0.length⟩ a0 a1 h0 := (callStep_ne (by kernel_rfl)).trans (F20_eq0 rc md a0 a1 h0)

/-- (tombolo/adj.Adj).Remove -/
noncomputable def F23 (rc : Rec) (md : Md) (a0 : Value) (a1 : Int) (h0 : Heap) : Option (Value × Heap) :=
  let h1 : Heap := h0 ++ [.own a0.cells.toList]
  ldN 4 (.pointer (some ⟨h0.length, 6, none⟩)) h1 fun v2 =>
  cl (rc md 45 [v2, (.int .i64 a1)] h1) fun v3 h4 =>
  let h5 : Heap := h4 ++ [.own [(.int .i64 0), (.int .i64 0), (.int .i64 0), (.bool false)]]
  st md 4 (.pointer (some ⟨h4.length, 0, none⟩)) v3 h5 fun h6 =>
  ldN 10 (.pointer (some ⟨h0.length, 0, none⟩)) h6 fun v7 =>
  cl (rc md 47 [(.int .i64 a1), (.int .i64 0)] h6) fun v8 h9 =>
  cIn .i64 v8 fun n10 =>
  ld1 (.pointer (some ⟨h4.length, 0, none⟩)) h9 fun v11 =>
  cIn .i64 v11 fun n12 =>
  ld1 (.pointer (some ⟨h4.length, 2, none⟩)) h9 fun v13 =>
  cIn .i64 v13 fun n14 =>
  cl (rc md 49 [v7, (.int .i64 n10), (.int .i64 n12), (.int .i64 n14)] h9) fun v15 h16 =>
  ldN 10 (.pointer (some ⟨h0.length, 0, none⟩)) h16 fun v17 =>
  cl (rc md 47 [(.int .i64 a1), (.int .i64 1)] h16) fun v18 h19 =>
  cIn .i64 v18 fun n20 =>
  ld1 (.pointer (some ⟨h4.length, 1, none⟩)) h19 fun v21 =>
  cIn .i64 v21 fun n22 =>
  ld1 (.pointer (some ⟨h4.length, 2, none⟩)) h19 fun v23 =>
  cIn .i64 v23 fun n24 =>
  cl (rc md 49 [v17, (.int .i64 n20), (.int .i64 n22), (.int .i64 n24)] h19) fun v25 h26 =>
  some ((.tuple #[]), List.take h0.length h26)
theorem F23_eq0 (rc : Rec) (md : Md) (a0 : Value) (a1 : Int) (h0 : Heap) : callStep0 Try.prog cfg rc md 23 [a0, (.int .i64 a1)] h0 = F23 rc ⟨md.ro, h0.length⟩ a0 a1 h0 := by kernel_rfl
theorem F23_eq (rc : Rec) (md : Md) (a0 : Value) (a1 : Int) (h0 : Heap) : callStep Try.prog cfg rc md 23 [a0, (.int .i64 a1)] h0 = F23 rc ⟨md.ro, h0.length⟩ a0 a1 h0 := (callStep_ne (by kernel_rfl)).trans (F23_eq0 rc md a0 a1 h0)

/-- (*tombolo/tombololaw12.play).add -/
noncomputable def J30_1 (rc : Rec) (md : Md) (h0 : Heap) (s0 : Value) (s1 : Value) (s5 : Value) (h : Heap) : Option (Value × Heap) :=
  bif okNil Try.prog s0 then
  fA 13 s0 fun v1 =>
  ld1 v1 h fun v2 =>
  ldN 4 s5 h fun v3 =>
  aMapPut Try.prog md 42 v2 s1 v3 h fun h4 =>
  bif okNil Try.prog s0 then
  fA 3 s0 fun v5 =>
  ldN 10 v5 h4 fun v6 =>
  cl (rc md 20 [v6, s1] h4) fun v7 h8 =>
  some ((.tuple #[]), h8)
  else none
  else none
theorem J30_1_at (rc : Rec) (md : Md) (h0 : Heap) (t : T) (h : Heap) : cut Try.prog cfg rc md 50 (bodyOf Try.prog 30) [1, 1] (retK Try.prog cfg 30 (rsOf Try.prog 30) h0) t h = J30_1 rc md h0 (t 0) (t 1) (t 5) h := by kernel_rfl
theorem J30_1_cut (rc : Rec) (md : Md) (h0 : Heap) : cut Try.prog cfg rc md 50 (bodyOf Try.prog 30) [1, 1] (retK Try.prog cfg 30 (rsOf Try.prog 30) h0) = fun t h => J30_1 rc md h0 (t 0) (t 1) (t 5) h := funext fun t => funext fun h => J30_1_at rc md h0 t h
noncomputable def Jk30_0 (rc : Rec) (md : Md) (h0 : Heap) (e : Exit) (s0 : Value) (s1 : Value) (s5 : Value) (s13 : Value) (s14 : Value) (s15 : Value) (h : Heap) : Option (Value × Heap) :=
  match e with
  | .normal =>
    J30_1 rc md h0 s0 s1 s5 h
  | .exit j =>
    bif Nat.beq j 0 then
      J30_1 rc md h0 s0 s1 s5 h
    else
      none
  | .ret =>
    some ((.tuple #[]), h)
  | .goto l => none
  | .panic ps => none
  | .outgrown => none
noncomputable def Jk30_0H (rc : Rec) (md : Md) (h0 : Heap) (X1 : T → Heap → Option (Value × Heap)) (e : Exit) (t : T) (h : Heap) : Option (Value × Heap) :=
  match e with
  | .normal =>
    X1 t h
  | .exit j =>
    bif Nat.beq j 0 then
      X1 t h
    else
      none
  | .ret =>
    some ((.tuple #[]), h)
  | .goto l => none
  | .panic ps => none
  | .outgrown => none
theorem Jk30_0_h1 (rc : Rec) (md : Md) (h0 : Heap) (X : Nat → T → Heap → Option (Value × Heap)) (e : Exit) (t : T) (h : Heap) : kAtG Try.prog cfg X rc md 50 (replS (bodyOf Try.prog 30) [([1, 1], 1)]) [1, 0, 1, 0] (retK Try.prog cfg 30 (rsOf Try.prog 30) h0) e t h = Jk30_0H rc md h0 (X 1) e t h := by cases e <;> kernel_rfl
theorem Jk30_0_h2 (rc : Rec) (md : Md) (h0 : Heap) (e : Exit) (t : T) (h : Heap) : Jk30_0H rc md h0 (fun t h => J30_1 rc md h0 (t 0) (t 1) (t 5) h) e t h = Jk30_0 rc md h0 e (t 0) (t 1) (t 5) (t 13) (t 14) (t 15) h := by cases e <;> (unfold Jk30_0H Jk30_0; kernel_rfl)
theorem Jk30_0_at (rc : Rec) (md : Md) (h0 : Heap) (e : Exit) (t : T) (h : Heap) : kAt Try.prog cfg rc md 50 (bodyOf Try.prog 30) [1, 0, 1, 0] (retK Try.prog cfg 30 (rsOf Try.prog 30) h0) e t h = Jk30_0 rc md h0 e (t 0) (t 1) (t 5) (t 13) (t 14) (t 15) h := by
  rw [kAt_holes [([1, 1], 1)] [1, 0, 1, 0] (by kernel_rfl), Jk30_0_h1, show (goX Try.prog cfg rc md 50 (bodyOf Try.prog 30) [([1, 1], 1)] (retK Try.prog cfg 30 (rsOf Try.prog 30) h0)) 1 = _ from J30_1_cut rc md h0]
  exact Jk30_0_h2 rc md h0 e t h
/-- a round -/
noncomputable def Jr30_0 (rc : Rec) (md : Md) (s0 : Value) (s1 : Value) (s5 : Value) (s13 : Value) (s14 : Value) (s15 : Value) (h : Heap) : Option (((Value × Value × Value × Value × Value × Value) × Heap) ⊕ (Exit × (Value × Value × Value × Value × Value × Value) × Heap)) :=
  aBin Try.prog .lss 3 s15 s14 fun v1 =>
  cBn v1 fun b2 =>
  bif b2 then
    ixSV 1 s13 s15 fun v3 =>
    ld1 v3 h fun v4 =>
    cIn .i64 v4 fun n5 =>
    fA 2 s5 fun v6 =>
    ld1 v6 h fun v7 =>
    cIn .i64 v7 fun n8 =>
    let h9 : Heap := h ++ [.own [(.int .i64 0), (.int .i64 0)]]
    st md 2 (.pointer (some ⟨h.length, 0, none⟩)) (.agg #[(.int .i64 n5), (.int .i64 n8)]) h9 fun h10 =>
    bif okNil Try.prog s0 then
    fA 14 s0 fun v11 =>
    ld1 v11 h10 fun v12 =>
    ldN 2 (.pointer (some ⟨h.length, 0, none⟩)) h10 fun v13 =>
    aBuildSlice Try.prog 60 1 [(0, s1)] h10 fun v14 h15 =>
    cLE true (fun hq => ldN 2 (.pointer (some ⟨h.length, 0, none⟩)) hq some) v13 h10 h15 <|
    cLE true (fun hq => ld1 v11 hq some) v12 h10 h15 <|
    bif okNil Try.prog s0 then
    fA 14 s0 fun v16 =>
    ld1 v16 h15 fun v17 =>
    cLE true (fun hq => ld1 v16 hq some) v17 h10 h15 <|
    ldN 2 (.pointer (some ⟨h.length, 0, none⟩)) h15 fun v18 =>
    cLE true (fun hq => ldN 2 (.pointer (some ⟨h.length, 0, none⟩)) hq some) v18 h10 h15 <|
    aLookup Try.prog 43 v17 v18 false h15 fun v19 =>
    cLE true (fun hq => aLookup Try.prog 43 v17 v18 false hq some) v19 h10 h15 <|
    aBuiltin Try.prog md .append #[60, 60] [v14, v19] h15 fun v20 h21 =>
    cLE true (fun hq => ldN 2 (.pointer (some ⟨h.length, 0, none⟩)) hq some) v13 h15 h21 <|
    cLE true (fun hq => ld1 v11 hq some) v12 h15 h21 <|
    aMapPut Try.prog md 43 v12 v13 v20 h21 fun h22 =>
    aBin Try.prog .add 3 s15 (.int .i64 1) fun v23 =>
    some (.inl ((s0, s1, s5, s13, s14, v23), h22))
    else none
    else none
  else
    some (.inr ((.exit 0), (s0, s1, s5, s13, s14, s15), h))
theorem Jr30_0_at (rc : Rec) (md : Md) (t : T) (h : Heap) : exec Try.prog cfg rc md 50 (sub (bodyOf Try.prog 30) [1, 0, 1, 0, 0]) (rndK (fun t => (t 0, t 1, t 5, t 13, t 14, t 15))) t h = Jr30_0 rc md (t 0) (t 1) (t 5) (t 13) (t 14) (t 15) h := by kernel_rfl
noncomputable def J30_0 (rc : Rec) (md : Md) (h0 : Heap) (s0 : Value) (s1 : Value) (s5 : Value) (s13 : Value) (s14 : Value) (s15 : Value) (h : Heap) : Option (Value × Heap) :=
  runL (fun x : (Value × Value × Value × Value × Value × Value) × Heap => Jr30_0 rc md x.1.1 x.1.2.1 x.1.2.2.1 x.1.2.2.2.1 x.1.2.2.2.2.1 x.1.2.2.2.2.2 x.2) (fun e (s : Value × Value × Value × Value × Value × Value) h => Jk30_0 rc md h0 e s.1 s.2.1 s.2.2.1 s.2.2.2.1 s.2.2.2.2.1 s.2.2.2.2.2 h) (s0, s1, s5, s13, s14, s15) h
theorem J30_0_step (rc : Rec) (md : Md) (h0 : Heap) (s0 : Value) (s1 : Value) (s5 : Value) (s13 : Value) (s14 : Value) (s15 : Value) (h : Heap) : J30_0 rc md h0 s0 s1 s5 s13 s14 s15 h = (Jr30_0 rc md s0 s1 s5 s13 s14 s15 h).bind fun x => match x with
    | .inl (s, h) => J30_0 rc md h0 s.1 s.2.1 s.2.2.1 s.2.2.2.1 s.2.2.2.2.1 s.2.2.2.2.2 h
    | .inr (e, s, h) => Jk30_0 rc md h0 e s.1 s.2.1 s.2.2.1 s.2.2.2.1 s.2.2.2.2.1 s.2.2.2.2.2 h := by
  unfold J30_0
  rw [runL_eq]
  refine congrArg (Option.bind _) (funext fun x => ?_)
  rcases x with ⟨s, h⟩ | ⟨e, s, h⟩ <;> rfl
theorem J30_0_cut (rc : Rec) (md : Md) (h0 : Heap) : cut Try.prog cfg rc md 50 (bodyOf Try.prog 30) [1, 0, 1, 0] (retK Try.prog cfg 30 (rsOf Try.prog 30) h0) = fun t h => J30_0 rc md h0 (t 0) (t 1) (t 5) (t 13) (t 14) (t 15) h := by
  funext t h
  have e : sub (bodyOf Try.prog 30) [1, 0, 1, 0] = .loop (sub (bodyOf Try.prog 30) [1, 0, 1, 0, 0]) := by kernel_rfl
  unfold cut
  rw [e]
  exact loop_eq (by kernel_rfl) (fun t => (t 0, t 1, t 5, t 13, t 14, t 15)) (fun x : (Value × Value × Value × Value × Value × Value) × Heap => Jr30_0 rc md x.1.1 x.1.2.1 x.1.2.2.1 x.1.2.2.2.1 x.1.2.2.2.2.1 x.1.2.2.2.2.2 x.2) (fun t h => Jr30_0_at rc md t h) (fun e (s : Value × Value × Value × Value × Value × Value) h => Jk30_0 rc md h0 e s.1 s.2.1 s.2.2.1 s.2.2.2.1 s.2.2.2.2.1 s.2.2.2.2.2 h) (fun e t h => Jk30_0_at rc md h0 e t h) t h
noncomputable def F30 (rc : Rec) (md : Md) (a0 : Value) (a1 : Int) (a2_0 : Int) (a2_1 : Int) (a2_2 : Int) (a2_3 : Bool) (h0 : Heap) : Option (Value × Heap) :=
  let h1 : Heap := h0 ++ [.own [(.int .i64 a2_0), (.int .i64 a2_1), (.int .i64 a2_2), (.bool a2_3)]]
  ld1 (.pointer (some ⟨h0.length, 0, none⟩)) h1 fun v2 =>
  cIn .i64 v2 fun n3 =>
  ld1 (.pointer (some ⟨h0.length, 1, none⟩)) h1 fun v4 =>
  cIn .i64 v4 fun n5 =>
  let h6 : Heap := h1 ++ [.own [(.int .i64 n3), (.int .i64 n5)]]
  lenS (.slice (some ⟨h1.length, 0, none⟩) 2 1) fun v7 =>
  cIn .i64 v7 fun n8 =>
  J30_0 rc md h0 a0 (.int .i64 a1) (.pointer (some ⟨h0.length, 0, none⟩)) (.slice (some ⟨h1.length, 0, none⟩) 2 1) (.int .i64 n8) (.int .i64 0) h6
noncomputable def F30H (rc : Rec) (md : Md) (X0 : T → Heap → Option (Value × Heap)) (a0 : Value) (a1 : Int) (a2_0 : Int) (a2_1 : Int) (a2_2 : Int) (a2_3 : Bool) (h0 : Heap) : Option (Value × Heap) :=
  let h1 : Heap := h0 ++ [.own [(.int .i64 a2_0), (.int .i64 a2_1), (.int .i64 a2_2), (.bool a2_3)]]
  ld1 (.pointer (some ⟨h0.length, 0, none⟩)) h1 fun v2 =>
  cIn .i64 v2 fun n3 =>
  ld1 (.pointer (some ⟨h0.length, 1, none⟩)) h1 fun v4 =>
  cIn .i64 v4 fun n5 =>
  let h6 : Heap := h1 ++ [.own [(.int .i64 n3), (.int .i64 n5)]]
  lenS (.slice (some ⟨h1.length, 0, none⟩) 2 1) fun v7 =>
  cIn .i64 v7 fun n8 =>
  X0 (upd (upd (upd (upd (upd (upd (upd (upd (args0 [a0, (.int .i64 a1), (.agg #[(.int .i64 a2_0), (.int .i64 a2_1), (.int .i64 a2_2), (.bool a2_3)])]) 5 (.pointer (some ⟨h0.length, 0, none⟩))) 9 (.pointer (some ⟨h0.length, 0, none⟩))) 10 (.int .i64 n3)) 11 (.pointer (some ⟨h0.length, 1, none⟩))) 12 (.int .i64 n5)) 13 (.slice (some ⟨h1.length, 0, none⟩) 2 1)) 14 (.int .i64 n8)) 15 (.int .i64 0)) h6
theorem F30_h0 (rc : Rec) (md : Md) (a0 : Value) (a1 : Int) (a2_0 : Int) (a2_1 : Int) (a2_2 : Int) (a2_3 : Bool) (h0 : Heap) : callStep0 Try.prog cfg rc md 30 [a0, (.int .i64 a1), (.agg #[(.int .i64 a2_0), (.int .i64 a2_1), (.int .i64 a2_2), (.bool a2_3)])] h0 = exec Try.prog cfg rc md 50 (bodyOf Try.prog 30) (retK Try.prog cfg 30 (rsOf Try.prog 30) h0) (args0 [a0, (.int .i64 a1), (.agg #[(.int .i64 a2_0), (.int .i64 a2_1), (.int .i64 a2_2), (.bool a2_3)])]) h0 := callStep0_run (by kernel_rfl) (by kernel_rfl) (by kernel_rfl)
theorem F30_h1 (rc : Rec) (md : Md) (X : Nat → T → Heap → Option (Value × Heap)) (a0 : Value) (a1 : Int) (a2_0 : Int) (a2_1 : Int) (a2_2 : Int) (a2_3 : Bool) (h0 : Heap) : execG Try.prog cfg X rc md 50 (replS (bodyOf Try.prog 30) [([1, 0, 1, 0], 0), ([1, 1], 1)]) (retK Try.prog cfg 30 (rsOf Try.prog 30) h0) (args0 [a0, (.int .i64 a1), (.agg #[(.int .i64 a2_0), (.int .i64 a2_1), (.int .i64 a2_2), (.bool a2_3)])]) h0 = F30H rc md (X 0) a0 a1 a2_0 a2_1 a2_2 a2_3 h0 := by kernel_rfl
theorem F30_h2 (rc : Rec) (md : Md) (a0 : Value) (a1 : Int) (a2_0 : Int) (a2_1 : Int) (a2_2 : Int) (a2_3 : Bool) (h0 : Heap) : F30H rc md (fun t h => J30_0 rc md h0 (t 0) (t 1) (t 5) (t 13) (t 14) (t 15) h) a0 a1 a2_0 a2_1 a2_2 a2_3 h0 = F30 rc md a0 a1 a2_0 a2_1 a2_2 a2_3 h0 := by unfold F30H F30; kernel_rfl
theorem F30_eq0 (rc : Rec) (md : Md) (a0 : Value) (a1 : Int) (a2_0 : Int) (a2_1 : Int) (a2_2 : Int) (a2_3 : Bool) (h0 : Heap) : callStep0 Try.prog cfg rc md 30 [a0, (.int .i64 a1), (.agg #[(.int .i64 a2_0), (.int .i64 a2_1), (.int .i64 a2_2), (.bool a2_3)])] h0 = F30 rc md a0 a1 a2_0 a2_1 a2_2 a2_3 h0 := by
  rw [F30_h0, exec_holes [([1, 0, 1, 0], 0), ([1, 1], 1)] (by kernel_rfl), F30_h1, show (goX Try.prog cfg rc md 50 (bodyOf Try.prog 30) [([1, 0, 1, 0], 0), ([1, 1], 1)] (retK Try.prog cfg 30 (rsOf Try.prog 30) h0)) 0 = _ from J30_0_cut rc md h0]
  exact F30_h2 rc _ a0 a1 a2_0 a2_1 a2_2 a2_3 h0
theorem F30_eq (rc : Rec) (md : Md) (a0 : Value) (a1 : Int) (a2_0 : Int) (a2_1 : Int) (a2_2 : Int) (a2_3 : Bool) (h0 : Heap) : callStep Try.prog cfg rc md 30 [a0, (.int .i64 a1), (.agg #[(.int .i64 a2_0), (.int .i64 a2_1), (.int .i64 a2_2), (.bool a2_3)])] h0 = F30 rc md a0 a1 a2_0 a2_1 a2_2 a2_3 h0 := (callStep_ne (by kernel_rfl)).trans (F30_eq0 rc md a0 a1 a2_0 a2_1 a2_2 a2_3 h0)

/-- (*tombolo/tombololaw12.play).remove -/
noncomputable def J31_1 (rc : Rec) (md : Md) (h0 : Heap) (s0 : Value) (s1 : Value) (h : Heap) : Option (Value × Heap) :=
  bif okNil Try.prog s0 then
  fA 13 s0 fun v1 =>
  ld1 v1 h fun v2 =>
  aBuiltin Try.prog md .delete #[42, 3] [v2, s1] h fun v3 h4 =>
  bif okNil Try.prog s0 then
  fA 3 s0 fun v5 =>
  ldN 10 v5 h4 fun v6 =>
  cl (rc md 23 [v6, s1] h4) fun v7 h8 =>
  some ((.tuple #[]), h8)
  else none
  else none
theorem J31_1_at (rc : Rec) (md : Md) (h0 : Heap) (t : T) (h : Heap) : cut Try.prog cfg rc md 53 (bodyOf Try.prog 31) [1, 1] (retK Try.prog cfg 31 (rsOf Try.prog 31) h0) t h = J31_1 rc md h0 (t 0) (t 1) h := by kernel_rfl
theorem J31_1_cut (rc : Rec) (md : Md) (h0 : Heap) : cut Try.prog cfg rc md 53 (bodyOf Try.prog 31) [1, 1] (retK Try.prog cfg 31 (rsOf Try.prog 31) h0) = fun t h => J31_1 rc md h0 (t 0) (t 1) h := funext fun t => funext fun h => J31_1_at rc md h0 t h
noncomputable def Jk31_0 (rc : Rec) (md : Md) (h0 : Heap) (e : Exit) (s0 : Value) (s1 : Value) (s4 : Value) (s18 : Value) (s19 : Value) (s20 : Value) (h : Heap) : Option (Value × Heap) :=
  match e with
  | .normal =>
    J31_1 rc md h0 s0 s1 h
  | .exit j =>
    bif Nat.beq j 0 then
      J31_1 rc md h0 s0 s1 h
    else
      none
  | .ret =>
    some ((.tuple #[]), h)
  | .goto l => none
  | .panic ps => none
  | .outgrown => none
noncomputable def Jk31_0H (rc : Rec) (md : Md) (h0 : Heap) (X1 : T → Heap → Option (Value × Heap)) (e : Exit) (t : T) (h : Heap) : Option (Value × Heap) :=
  match e with
  | .normal =>
    X1 t h
  | .exit j =>
    bif Nat.beq j 0 then
      X1 t h
    else
      none
  | .ret =>
    some ((.tuple #[]), h)
  | .goto l => none
  | .panic ps => none
  | .outgrown => none
theorem Jk31_0_h1 (rc : Rec) (md : Md) (h0 : Heap) (X : Nat → T → Heap → Option (Value × Heap)) (e : Exit) (t : T) (h : Heap) : kAtG Try.prog cfg X rc md 53 (replS (bodyOf Try.prog 31) [([1, 1], 1)]) [1, 0, 1, 0] (retK Try.prog cfg 31 (rsOf Try.prog 31) h0) e t h = Jk31_0H rc md h0 (X 1) e t h := by cases e <;> kernel_rfl
theorem Jk31_0_h2 (rc : Rec) (md : Md) (h0 : Heap) (e : Exit) (t : T) (h : Heap) : Jk31_0H rc md h0 (fun t h => J31_1 rc md h0 (t 0) (t 1) h) e t h = Jk31_0 rc md h0 e (t 0) (t 1) (t 4) (t 18) (t 19) (t 20) h := by cases e <;> (unfold Jk31_0H Jk31_0; kernel_rfl)
theorem Jk31_0_at (rc : Rec) (md : Md) (h0 : Heap) (e : Exit) (t : T) (h : Heap) : kAt Try.prog cfg rc md 53 (bodyOf Try.prog 31) [1, 0, 1, 0] (retK Try.prog cfg 31 (rsOf Try.prog 31) h0) e t h = Jk31_0 rc md h0 e (t 0) (t 1) (t 4) (t 18) (t 19) (t 20) h := by
  rw [kAt_holes [([1, 1], 1)] [1, 0, 1, 0] (by kernel_rfl), Jk31_0_h1, show (goX Try.prog cfg rc md 53 (bodyOf Try.prog 31) [([1, 1], 1)] (retK Try.prog cfg 31 (rsOf Try.prog 31) h0)) 1 = _ from J31_1_cut rc md h0]
  exact Jk31_0_h2 rc md h0 e t h
/-- a round -/
noncomputable def Jr31_0 (rc : Rec) (md : Md) (s0 : Value) (s1 : Value) (s4 : Value) (s18 : Value) (s19 : Value) (s20 : Value) (h : Heap) : Option (((Value × Value × Value × Value × Value × Value) × Heap) ⊕ (Exit × (Value × Value × Value × Value × Value × Value) × Heap)) :=
  aBin Try.prog .lss 3 s20 s19 fun v1 =>
  cBn v1 fun b2 =>
  bif b2 then
    ixSV 1 s18 s20 fun v3 =>
    ld1 v3 h fun v4 =>
    cIn .i64 v4 fun n5 =>
    fA 2 s4 fun v6 =>
    ld1 v6 h fun v7 =>
    cIn .i64 v7 fun n8 =>
    let h9 : Heap := h ++ [.own [(.int .i64 0), (.int .i64 0)]]
    st md 2 (.pointer (some ⟨h.length, 0, none⟩)) (.agg #[(.int .i64 n5), (.int .i64 n8)]) h9 fun h10 =>
    bif okNil Try.prog s0 then
    fA 14 s0 fun v11 =>
    ld1 v11 h10 fun v12 =>
    ldN 2 (.pointer (some ⟨h.length, 0, none⟩)) h10 fun v13 =>
    bif okNil Try.prog s0 then
    fA 14 s0 fun v14 =>
    ld1 v14 h10 fun v15 =>
    ldN 2 (.pointer (some ⟨h.length, 0, none⟩)) h10 fun v16 =>
    aLookup Try.prog 43 v15 v16 false h10 fun v17 =>
    cl (rc md 56 [v17, s1] h10) fun v18 h19 =>
    cLE true (fun hq => ldN 2 (.pointer (some ⟨h.length, 0, none⟩)) hq some) v13 h10 h19 <|
    cLE true (fun hq => ld1 v11 hq some) v12 h10 h19 <|
    aMapPut Try.prog md 43 v12 v13 v18 h19 fun h20 =>
    aBin Try.prog .add 3 s20 (.int .i64 1) fun v21 =>
    some (.inl ((s0, s1, s4, s18, s19, v21), h20))
    else none
    else none
  else
    some (.inr ((.exit 0), (s0, s1, s4, s18, s19, s20), h))
theorem Jr31_0_at (rc : Rec) (md : Md) (t : T) (h : Heap) : exec Try.prog cfg rc md 53 (sub (bodyOf Try.prog 31) [1, 0, 1, 0, 0]) (rndK (fun t => (t 0, t 1, t 4, t 18, t 19, t 20))) t h = Jr31_0 rc md (t 0) (t 1) (t 4) (t 18) (t 19) (t 20) h := by kernel_rfl
noncomputable def J31_0 (rc : Rec) (md : Md) (h0 : Heap) (s0 : Value) (s1 : Value) (s4 : Value) (s18 : Value) (s19 : Value) (s20 : Value) (h : Heap) : Option (Value × Heap) :=
  runL (fun x : (Value × Value × Value × Value × Value × Value) × Heap => Jr31_0 rc md x.1.1 x.1.2.1 x.1.2.2.1 x.1.2.2.2.1 x.1.2.2.2.2.1 x.1.2.2.2.2.2 x.2) (fun e (s : Value × Value × Value × Value × Value × Value) h => Jk31_0 rc md h0 e s.1 s.2.1 s.2.2.1 s.2.2.2.1 s.2.2.2.2.1 s.2.2.2.2.2 h) (s0, s1, s4, s18, s19, s20) h
theorem J31_0_step (rc : Rec) (md : Md) (h0 : Heap) (s0 : Value) (s1 : Value) (s4 : Value) (s18 : Value) (s19 : Value) (s20 : Value) (h : Heap) : J31_0 rc md h0 s0 s1 s4 s18 s19 s20 h = (Jr31_0 rc md s0 s1 s4 s18 s19 s20 h).bind fun x => match x with
    | .inl (s, h) => J31_0 rc md h0 s.1 s.2.1 s.2.2.1 s.2.2.2.1 s.2.2.2.2.1 s.2.2.2.2.2 h
    | .inr (e, s, h) => Jk31_0 rc md h0 e s.1 s.2.1 s.2.2.1 s.2.2.2.1 s.2.2.2.2.1 s.2.2.2.2.2 h := by
  unfold J31_0
  rw [runL_eq]
  refine congrArg (Option.bind _) (funext fun x => ?_)
  rcases x with ⟨s, h⟩ | ⟨e, s, h⟩ <;> rfl
theorem J31_0_cut (rc : Rec) (md : Md) (h0 : Heap) : cut Try.prog cfg rc md 53 (bodyOf Try.prog 31) [1, 0, 1, 0] (retK Try.prog cfg 31 (rsOf Try.prog 31) h0) = fun t h => J31_0 rc md h0 (t 0) (t 1) (t 4) (t 18) (t 19) (t 20) h := by
  funext t h
  have e : sub (bodyOf Try.prog 31) [1, 0, 1, 0] = .loop (sub (bodyOf Try.prog 31) [1, 0, 1, 0, 0]) := by kernel_rfl
  unfold cut
  rw [e]
  exact loop_eq (by kernel_rfl) (fun t => (t 0, t 1, t 4, t 18, t 19, t 20)) (fun x : (Value × Value × Value × Value × Value × Value) × Heap => Jr31_0 rc md x.1.1 x.1.2.1 x.1.2.2.1 x.1.2.2.2.1 x.1.2.2.2.2.1 x.1.2.2.2.2.2 x.2) (fun t h => Jr31_0_at rc md t h) (fun e (s : Value × Value × Value × Value × Value × Value) h => Jk31_0 rc md h0 e s.1 s.2.1 s.2.2.1 s.2.2.2.1 s.2.2.2.2.1 s.2.2.2.2.2 h) (fun e t h => Jk31_0_at rc md h0 e t h) t h
noncomputable def F31 (rc : Rec) (md : Md) (a0 : Value) (a1 : Int) (h0 : Heap) : Option (Value × Heap) :=
  bif okNil Try.prog a0 then
  fA 13 a0 fun v1 =>
  ld1 v1 h0 fun v2 =>
  aLookup Try.prog 42 v2 (.int .i64 a1) false h0 fun v3 =>
  let h4 : Heap := h0 ++ [.own [(.int .i64 0), (.int .i64 0), (.int .i64 0), (.bool false)]]
  st md 4 (.pointer (some ⟨h0.length, 0, none⟩)) v3 h4 fun h5 =>
  ld1 (.pointer (some ⟨h0.length, 0, none⟩)) h5 fun v6 =>
  cIn .i64 v6 fun n7 =>
  ld1 (.pointer (some ⟨h0.length, 1, none⟩)) h5 fun v8 =>
  cIn .i64 v8 fun n9 =>
  let h10 : Heap := h5 ++ [.own [(.int .i64 n7), (.int .i64 n9)]]
  lenS (.slice (some ⟨h5.length, 0, none⟩) 2 1) fun v11 =>
  cIn .i64 v11 fun n12 =>
  J31_0 rc md h0 a0 (.int .i64 a1) (.pointer (some ⟨h0.length, 0, none⟩)) (.slice (some ⟨h5.length, 0, none⟩) 2 1) (.int .i64 n12) (.int .i64 0) h10
  else none
noncomputable def F31H (rc : Rec) (md : Md) (X0 : T → Heap → Option (Value × Heap)) (a0 : Value) (a1 : Int) (h0 : Heap) : Option (Value × Heap) :=
  bif okNil Try.prog a0 then
  fA 13 a0 fun v1 =>
  ld1 v1 h0 fun v2 =>
  aLookup Try.prog 42 v2 (.int .i64 a1) false h0 fun v3 =>
  let h4 : Heap := h0 ++ [.own [(.int .i64 0), (.int .i64 0), (.int .i64 0), (.bool false)]]
  st md 4 (.pointer (some ⟨h0.length, 0, none⟩)) v3 h4 fun h5 =>
  ld1 (.pointer (some ⟨h0.length, 0, none⟩)) h5 fun v6 =>
  cIn .i64 v6 fun n7 =>
  ld1 (.pointer (some ⟨h0.length, 1, none⟩)) h5 fun v8 =>
  cIn .i64 v8 fun n9 =>
  let h10 : Heap := h5 ++ [.own [(.int .i64 n7), (.int .i64 n9)]]
  lenS (.slice (some ⟨h5.length, 0, none⟩) 2 1) fun v11 =>
  cIn .i64 v11 fun n12 =>
  X0 (upd (upd (upd (upd (upd (upd (upd (upd (upd (upd (upd (upd (upd (upd (args0 [a0, (.int .i64 a1)]) 8 a0) 9 a0) 10 v1) 11 v2) 12 (.int .i64 a1)) 13 v3) 4 (.pointer (some ⟨h0.length, 0, none⟩))) 14 (.pointer (some ⟨h0.length, 0, none⟩))) 15 (.int .i64 n7)) 16 (.pointer (some ⟨h0.length, 1, none⟩))) 17 (.int .i64 n9)) 18 (.slice (some ⟨h5.length, 0, none⟩) 2 1)) 19 (.int .i64 n12)) 20 (.int .i64 0)) h10
  else none
theorem F31_h0 (rc : Rec) (md : Md) (a0 : Value) (a1 : Int) (h0 : Heap) : callStep0 Try.prog cfg rc md 31 [a0, (.int .i64 a1)] h0 = exec Try.prog cfg rc md 53 (bodyOf Try.prog 31) (retK Try.prog cfg 31 (rsOf Try.prog 31) h0) (args0 [a0, (.int .i64 a1)]) h0 := callStep0_run (by kernel_rfl) (by kernel_rfl) (by kernel_rfl)
theorem F31_h1 (rc : Rec) (md : Md) (X : Nat → T → Heap → Option (Value × Heap)) (a0 : Value) (a1 : Int) (h0 : Heap) : execG Try.prog cfg X rc md 53 (replS (bodyOf Try.prog 31) [([1, 0, 1, 0], 0), ([1, 1], 1)]) (retK Try.prog cfg 31 (rsOf Try.prog 31) h0) (args0 [a0, (.int .i64 a1)]) h0 = F31H rc md (X 0) a0 a1 h0 := by kernel_rfl
theorem F31_h2 (rc : Rec) (md : Md) (a0 : Value) (a1 : Int) (h0 : Heap) : F31H rc md (fun t h => J31_0 rc md h0 (t 0) (t 1) (t 4) (t 18) (t 19) (t 20) h) a0 a1 h0 = F31 rc md a0 a1 h0 := by unfold F31H F31; kernel_rfl
theorem F31_eq0 (rc : Rec) (md : Md) (a0 : Value) (a1 : Int) (h0 : Heap) : callStep0 Try.prog cfg rc md 31 [a0, (.int .i64 a1)] h0 = F31 rc md a0 a1 h0 := by
  rw [F31_h0, exec_holes [([1, 0, 1, 0], 0), ([1, 1], 1)] (by kernel_rfl), F31_h1, show (goX Try.prog cfg rc md 53 (bodyOf Try.prog 31) [([1, 0, 1, 0], 0), ([1, 1], 1)] (retK Try.prog cfg 31 (rsOf Try.prog 31) h0)) 0 = _ from J31_0_cut rc md h0]
  exact F31_h2 rc _ a0 a1 h0
theorem F31_eq (rc : Rec) (md : Md) (a0 : Value) (a1 : Int) (h0 : Heap) : callStep Try.prog cfg rc md 31 [a0, (.int .i64 a1)] h0 = F31 rc md a0 a1 h0 := (callStep_ne (by kernel_rfl)).trans (F31_eq0 rc md a0 a1 h0)

/-- (tombolo/adj.Adj).get -/
noncomputable def F39 (rc : Rec) (md : Md) (a0 : Value) (a1 : Int) (h0 : Heap) : Option (Value × Heap) :=
  let h1 : Heap := h0 ++ [.own a0.cells.toList]
  ld1 (.pointer (some ⟨h0.length, 9, none⟩)) h1 fun v2 =>
  clI Try.prog rc md v2 "Load" [(.int .i64 a1)] h1 fun v3 h4 =>
  cIn .u64 v3 fun n5 =>
  some ((.int .i64 (IntKind.wrap .i64 n5)), List.take h0.length h4)
theorem F39_eq0 (rc : Rec) (md : Md) (a0 : Value) (a1 : Int) (h0 : Heap) : callStep0 Try.prog cfg rc md 39 [a0, (.int .i64 a1)] h0 = F39 rc ⟨md.ro, h0.length⟩ a0 a1 h0 := by kernel_rfl
theorem F39_eq (rc : Rec) (md : Md) (a0 : Value) (a1 : Int) (h0 : Heap) : callStep Try.prog cfg rc md 39 [a0, (.int .i64 a1)] h0 = F39 rc ⟨md.ro, h0.length⟩ a0 a1 h0 := (callStep_ne (by kernel_rfl)).trans (F39_eq0 rc md a0 a1 h0)

/-- (tombolo/adj.Adj).next -/
noncomputable def F40 (rc : Rec) (md : Md) (a0 : Value) (a1 : Int) (h0 : Heap) : Option (Value × Heap) :=
  let h1 : Heap := h0 ++ [.own a0.cells.toList]
  ldN 3 (.pointer (some ⟨h0.length, 6, none⟩)) h1 fun v2 =>
  cl (rc md 15 [v2, (.int .i64 (IntKind.wrap .i64 (Int.tdiv (IntKind.wrap .i64 (a1 - 1)) 2))), (.int .i64 (Int.tmod (IntKind.wrap .i64 (a1 - 1)) 2))] h1) fun v3 h4 =>
  cIn .i64 v3 fun n5 =>
  some ((.int .i64 n5), h0)
theorem F40_eq0 (rc : Rec) (md : Md) (a0 : Value) (a1 : Int) (h0 : Heap) : callStep0 Try.prog cfg rc md 40 [a0, (.int .i64 a1)] h0 = F40 rc ⟨h0.length, h0.length⟩ a0 a1 h0 := by kernel_rfl
theorem F40_eq (rc : Rec) (md : Md) (a0 : Value) (a1 : Int) (h0 : Heap) : callStep Try.prog cfg rc md 40 [a0, (.int .i64 a1)] h0 = F40 rc ⟨h0.length, h0.length⟩ a0 a1 h0 := (callStep_ne (by kernel_rfl)).trans (F40_eq0 rc md a0 a1 h0)

/-- (tombolo/adj.Adj).push -/
noncomputable def J46_0 (rc : Rec) (md : Md) (h0 : Heap) (s1 : Value) (s2 : Value) (s3 : Value) (s4 : Value) (s8 : Value) (h : Heap) : Option (Value × Heap) :=
  ldN 10 s4 h fun v1 =>
  cl (rc md 62 [v1, s8, s1] h) fun v2 h3 =>
  ldN 10 s4 h3 fun v4 =>
  cl (rc md 64 [v4, s2, s3] h3) fun v5 h6 =>
  some ((.tuple #[]), List.take h0.length h6)
theorem J46_0_at (rc : Rec) (md : Md) (h0 : Heap) (t : T) (h : Heap) : cut Try.prog cfg rc md 46 (bodyOf Try.prog 46) [1, 1, 1, 1, 1, 1] (retK Try.prog cfg 46 (rsOf Try.prog 46) h0) t h = J46_0 rc md h0 (t 1) (t 2) (t 3) (t 4) (t 8) h := by kernel_rfl
theorem J46_0_cut (rc : Rec) (md : Md) (h0 : Heap) : cut Try.prog cfg rc md 46 (bodyOf Try.prog 46) [1, 1, 1, 1, 1, 1] (retK Try.prog cfg 46 (rsOf Try.prog 46) h0) = fun t h => J46_0 rc md h0 (t 1) (t 2) (t 3) (t 4) (t 8) h := funext fun t => funext fun h => J46_0_at rc md h0 t h
noncomputable def F46 (rc : Rec) (md : Md) (a0 : Value) (a1 : Int) (a2 : Int) (a3 : Int) (h0 : Heap) : Option (Value × Heap) :=
  let h1 : Heap := h0 ++ [.own a0.cells.toList]
  ldN 3 (.pointer (some ⟨h0.length, 6, none⟩)) h1 fun v2 =>
  cl (rc md 13 [v2, (.int .i64 a2), (.int .i64 a3)] h1) fun v3 h4 =>
  cIn .i64 v3 fun n5 =>
  ldN 10 (.pointer (some ⟨h0.length, 0, none⟩)) h4 fun v6 =>
  cl (rc md 39 [v6, (.int .i64 n5)] h4) fun v7 h8 =>
  cIn .i64 v7 fun n9 =>
  ldN 10 (.pointer (some ⟨h0.length, 0, none⟩)) h8 fun v10 =>
  ldN 10 (.pointer (some ⟨h0.length, 0, none⟩)) h8 fun v11 =>
  cl (rc md 40 [v11, (.int .i64 a1)] h8) fun v12 h13 =>
  cIn .i64 v12 fun n14 =>
  cl (rc md 62 [v10, (.int .i64 n14), (.int .i64 n9)] h13) fun v15 h16 =>
  ldN 10 (.pointer (some ⟨h0.length, 0, none⟩)) h16 fun v17 =>
  ldN 10 (.pointer (some ⟨h0.length, 0, none⟩)) h16 fun v18 =>
  cl (rc md 63 [v18, (.int .i64 a1)] h16) fun v19 h20 =>
  cIn .i64 v19 fun n21 =>
  cl (rc md 62 [v17, (.int .i64 n21), (.int .i64 0)] h20) fun v22 h23 =>
  bif (n9 != 0) then
    ldN 10 (.pointer (some ⟨h0.length, 0, none⟩)) h23 fun v24 =>
    ldN 10 (.pointer (some ⟨h0.length, 0, none⟩)) h23 fun v25 =>
    cl (rc md 63 [v25, (.int .i64 n9)] h23) fun v26 h27 =>
    cIn .i64 v26 fun n28 =>
    cl (rc md 62 [v24, (.int .i64 n28), (.int .i64 a1)] h27) fun v29 h30 =>
    J46_0 rc md h0 (.int .i64 a1) (.int .i64 a2) (.int .i64 a3) (.pointer (some ⟨h0.length, 0, none⟩)) (.int .i64 n5) h30
  else
    J46_0 rc md h0 (.int .i64 a1) (.int .i64 a2) (.int .i64 a3) (.pointer (some ⟨h0.length, 0, none⟩)) (.int .i64 n5) h23
noncomputable def F46H (rc : Rec) (md : Md) (X0 : T → Heap → Option (Value × Heap)) (a0 : Value) (a1 : Int) (a2 : Int) (a3 : Int) (h0 : Heap) : Option (Value × Heap) :=
  let h1 : Heap := h0 ++ [.own a0.cells.toList]
  ldN 3 (.pointer (some ⟨h0.length, 6, none⟩)) h1 fun v2 =>
  cl (rc md 13 [v2, (.int .i64 a2), (.int .i64 a3)] h1) fun v3 h4 =>
  cIn .i64 v3 fun n5 =>
  ldN 10 (.pointer (some ⟨h0.length, 0, none⟩)) h4 fun v6 =>
  cl (rc md 39 [v6, (.int .i64 n5)] h4) fun v7 h8 =>
  cIn .i64 v7 fun n9 =>
  ldN 10 (.pointer (some ⟨h0.length, 0, none⟩)) h8 fun v10 =>
  ldN 10 (.pointer (some ⟨h0.length, 0, none⟩)) h8 fun v11 =>
  cl (rc md 40 [v11, (.int .i64 a1)] h8) fun v12 h13 =>
  cIn .i64 v12 fun n14 =>
  cl (rc md 62 [v10, (.int .i64 n14), (.int .i64 n9)] h13) fun v15 h16 =>
  ldN 10 (.pointer (some ⟨h0.length, 0, none⟩)) h16 fun v17 =>
  ldN 10 (.pointer (some ⟨h0.length, 0, none⟩)) h16 fun v18 =>
  cl (rc md 63 [v18, (.int .i64 a1)] h16) fun v19 h20 =>
  cIn .i64 v19 fun n21 =>
  cl (rc md 62 [v17, (.int .i64 n21), (.int .i64 0)] h20) fun v22 h23 =>
  bif (n9 != 0) then
    ldN 10 (.pointer (some ⟨h0.length, 0, none⟩)) h23 fun v24 =>
    ldN 10 (.pointer (some ⟨h0.length, 0, none⟩)) h23 fun v25 =>
    cl (rc md 63 [v25, (.int .i64 n9)] h23) fun v26 h27 =>
    cIn .i64 v26 fun n28 =>
    cl (rc md 62 [v24, (.int .i64 n28), (.int .i64 a1)] h27) fun v29 h30 =>
    X0 (upd (upd (upd (upd (upd (upd (upd (upd (upd (upd (upd (upd (upd (upd (upd (upd (upd (upd (upd (upd (upd (upd (upd (upd (upd (upd (upd (upd (upd (upd (upd (args0 [a0, (.int .i64 a1), (.int .i64 a2), (.int .i64 a3)]) 4 (.pointer (some ⟨h0.length, 0, none⟩))) 10 (.pointer (some ⟨h0.length, 6, none⟩))) 11 (.pointer (some ⟨h0.length, 6, none⟩))) 12 v2) 13 (.int .i64 a2)) 14 (.int .i64 a3)) 15 (.int .i64 n5)) 8 (.int .i64 n5)) 16 v6) 17 (.int .i64 n5)) 18 (.int .i64 n9)) 9 (.int .i64 n9)) 19 v10) 20 v11) 21 (.int .i64 a1)) 22 (.int .i64 n14)) 23 (.int .i64 n9)) 24 v15) 25 v17) 26 v18) 27 (.int .i64 a1)) 28 (.int .i64 n21)) 29 v22) 30 (.int .i64 n9)) 31 (.bool (n9 != 0))) 32 v24) 33 v25) 34 (.int .i64 n9)) 35 (.int .i64 n28)) 36 (.int .i64 a1)) 37 v29) h30
  else
    X0 (upd (upd (upd (upd (upd (upd (upd (upd (upd (upd (upd (upd (upd (upd (upd (upd (upd (upd (upd (upd (upd (upd (upd (upd (upd (args0 [a0, (.int .i64 a1), (.int .i64 a2), (.int .i64 a3)]) 4 (.pointer (some ⟨h0.length, 0, none⟩))) 10 (.pointer (some ⟨h0.length, 6, none⟩))) 11 (.pointer (some ⟨h0.length, 6, none⟩))) 12 v2) 13 (.int .i64 a2)) 14 (.int .i64 a3)) 15 (.int .i64 n5)) 8 (.int .i64 n5)) 16 v6) 17 (.int .i64 n5)) 18 (.int .i64 n9)) 9 (.int .i64 n9)) 19 v10) 20 v11) 21 (.int .i64 a1)) 22 (.int .i64 n14)) 23 (.int .i64 n9)) 24 v15) 25 v17) 26 v18) 27 (.int .i64 a1)) 28 (.int .i64 n21)) 29 v22) 30 (.int .i64 n9)) 31 (.bool (n9 != 0))) h23
theorem F46_h0 (rc : Rec) (md : Md) (a0 : Value) (a1 : Int) (a2 : Int) (a3 : Int) (h0 : Heap) : callStep0 Try.prog cfg rc md 46 [a0, (.int .i64 a1), (.int .i64 a2), (.int .i64 a3)] h0 = exec Try.prog cfg rc ⟨md.ro, h0.length⟩ 46 (bodyOf Try.prog 46) (retK Try.prog cfg 46 (rsOf Try.prog 46) h0) (args0 [a0, (.int .i64 a1), (.int .i64 a2), (.int .i64 a3)]) h0 := callStep0_run (by kernel_rfl) (by kernel_rfl) (by kernel_rfl)
theorem F46_h1 (rc : Rec) (md : Md) (X : Nat → T → Heap → Option (Value × Heap)) (a0 : Value) (a1 : Int) (a2 : Int) (a3 : Int) (h0 : Heap) : execG Try.prog cfg X rc md 46 (replS (bodyOf Try.prog 46) [([1, 1, 1, 1, 1, 1], 0)]) (retK Try.prog cfg 46 (rsOf Try.prog 46) h0) (args0 [a0, (.int .i64 a1), (.int .i64 a2), (.int .i64 a3)]) h0 = F46H rc md (X 0) a0 a1 a2 a3 h0 := by kernel_rfl
theorem F46_h2 (rc : Rec) (md : Md) (a0 : Value) (a1 : Int) (a2 : Int) (a3 : Int) (h0 : Heap) : F46H rc md (fun t h => J46_0 rc md h0 (t 1) (t 2) (t 3) (t 4) (t 8) h) a0 a1 a2 a3 h0 = F46 rc md a0 a1 a2 a3 h0 := by unfold F46H F46; kernel_rfl
theorem F46_eq0 (rc : Rec) (md : Md) (a0 : Value) (a1 : Int) (a2 : Int) (a3 : Int) (h0 : Heap) : callStep0 Try.prog cfg rc md 46 [a0, (.int .i64 a1), (.int .i64 a2), (.int .i64 a3)] h0 = F46 rc ⟨md.ro, h0.length⟩ a0 a1 a2 a3 h0 := by
  rw [F46_h0, exec_holes [([1, 1, 1, 1, 1, 1], 0)] (by kernel_rfl), F46_h1, show (goX Try.prog cfg rc ⟨md.ro, h0.length⟩ 46 (bodyOf Try.prog 46) [([1, 1, 1, 1, 1, 1], 0)] (retK Try.prog cfg 46 (rsOf Try.prog 46) h0)) 0 = _ from J46_0_cut rc ⟨md.ro, h0.length⟩ h0]
  exact F46_h2 rc _ a0 a1 a2 a3 h0
theorem F46_eq (rc : Rec) (md : Md) (a0 : Value) (a1 : Int) (a2 : Int) (a3 : Int) (h0 : Heap) : callStep Try.prog cfg rc md 46 [a0, (.int .i64 a1), (.int .i64 a2), (.int .i64 a3)] h0 = F46 rc ⟨md.ro, h0.length⟩ a0 a1 a2 a3 h0 := (callStep_ne (by kernel_rfl)).trans (F46_eq0 rc md a0 a1 a2 a3 h0)

/-- tombolo/adj.side -/
noncomputable def F47 (rc : Rec) (md : Md) (a0 : Int) (a1 : Int) (h0 : Heap) : Option (Value × Heap) :=
  some ((.int .i64 (IntKind.wrap .i64 ((IntKind.wrap .i64 ((IntKind.wrap .i64 (2 * a0)) + a1)) + 1))), h0)
theorem F47_eq0 (rc : Rec) (md : Md) (a0 : Int) (a1 : Int) (h0 : Heap) : callStep0 Try.prog cfg rc md 47 [(.int .i64 a0), (.int .i64 a1)] h0 = F47 rc ⟨h0.length, h0.length⟩ a0 a1 h0 := by kernel_rfl
theorem F47_eq (rc : Rec) (md : Md) (a0 : Int) (a1 : Int) (h0 : Heap) : callStep Try.prog cfg rc md 47 [(.int .i64 a0), (.int .i64 a1)] h0 = alone h0 (F47 rc ⟨0, 0⟩ a0 a1 []) := by
  have e : callStep Try.prog cfg rc md 47 [(.int .i64 a0), (.int .i64 a1)] h0 = alone h0 (callStep0 Try.prog cfg rc ⟨0, 0⟩ 47 [(.int .i64 a0), (.int .i64 a1)] []) := by kernel_rfl
  rw [e, F47_eq0]; rfl

/-- (tombolo/adj.Adj).pull -/
noncomputable def J49_1 (rc : Rec) (md : Md) (h0 : Heap) (s2 : Value) (s3 : Value) (s4 : Value) (h : Heap) : Option (Value × Heap) :=
  ldN 10 s4 h fun v1 =>
  cl (rc md 64 [v1, s2, s3] h) fun v2 h3 =>
  some ((.tuple #[]), List.take h0.length h3)
theorem J49_1_at (rc : Rec) (md : Md) (h0 : Heap) (t : T) (h : Heap) : cut Try.prog cfg rc md 49 (bodyOf Try.prog 49) [1, 1, 1, 1] (retK Try.prog cfg 49 (rsOf Try.prog 49) h0) t h = J49_1 rc md h0 (t 2) (t 3) (t 4) h := by kernel_rfl
theorem J49_1_cut (rc : Rec) (md : Md) (h0 : Heap) : cut Try.prog cfg rc md 49 (bodyOf Try.prog 49) [1, 1, 1, 1] (retK Try.prog cfg 49 (rsOf Try.prog 49) h0) = fun t h => J49_1 rc md h0 (t 2) (t 3) (t 4) h := funext fun t => funext fun h => J49_1_at rc md h0 t h
noncomputable def J49_0 (rc : Rec) (md : Md) (h0 : Heap) (s2 : Value) (s3 : Value) (s4 : Value) (s8 : Value) (s9 : Value) (h : Heap) : Option (Value × Heap) :=
  aBin Try.prog .neq 3 s9 (.int .i64 0) fun v1 =>
  cBn v1 fun b2 =>
  bif b2 then
    ldN 10 s4 h fun v3 =>
    ldN 10 s4 h fun v4 =>
    cl (rc md 63 [v4, s9] h) fun v5 h6 =>
    cIn .i64 v5 fun n7 =>
    cl (rc md 62 [v3, (.int .i64 n7), s8] h6) fun v8 h9 =>
    J49_1 rc md h0 s2 s3 s4 h9
  else
    J49_1 rc md h0 s2 s3 s4 h
noncomputable def J49_0H (rc : Rec) (md : Md) (h0 : Heap) (X0 : T → Heap → Option (Value × Heap)) (t : T) (h : Heap) : Option (Value × Heap) :=
  aBin Try.prog .neq 3 (t 9) (.int .i64 0) fun v1 =>
  cBn v1 fun b2 =>
  bif b2 then
    ldN 10 (t 4) h fun v3 =>
    ldN 10 (t 4) h fun v4 =>
    cl (rc md 63 [v4, (t 9)] h) fun v5 h6 =>
    cIn .i64 v5 fun n7 =>
    cl (rc md 62 [v3, (.int .i64 n7), (t 8)] h6) fun v8 h9 =>
    X0 (upd (upd (upd (upd (upd (upd (upd (upd t 37 (t 9)) 38 v1) 39 v3) 40 v4) 41 (t 9)) 42 (.int .i64 n7)) 43 (t 8)) 44 v8) h9
  else
    X0 (upd (upd t 37 (t 9)) 38 v1) h
theorem J49_0_h1 (rc : Rec) (md : Md) (h0 : Heap) (X : Nat → T → Heap → Option (Value × Heap)) (t : T) (h : Heap) : execG Try.prog cfg X rc md 49 (sub (replS (bodyOf Try.prog 49) [([1, 1, 1, 1], 0)]) [1, 1, 1]) (kAtG Try.prog cfg X rc md 49 (replS (bodyOf Try.prog 49) [([1, 1, 1, 1], 0)]) [1, 1, 1] (retK Try.prog cfg 49 (rsOf Try.prog 49) h0)) t h = J49_0H rc md h0 (X 0) t h := by kernel_rfl
theorem J49_0_h2 (rc : Rec) (md : Md) (h0 : Heap) (t : T) (h : Heap) : J49_0H rc md h0 (fun t h => J49_1 rc md h0 (t 2) (t 3) (t 4) h) t h = J49_0 rc md h0 (t 2) (t 3) (t 4) (t 8) (t 9) h := by (unfold J49_0H J49_0; kernel_rfl)
theorem J49_0_at (rc : Rec) (md : Md) (h0 : Heap) (t : T) (h : Heap) : cut Try.prog cfg rc md 49 (bodyOf Try.prog 49) [1, 1, 1] (retK Try.prog cfg 49 (rsOf Try.prog 49) h0) t h = J49_0 rc md h0 (t 2) (t 3) (t 4) (t 8) (t 9) h := by
  rw [cut_holes [([1, 1, 1, 1], 0)] [1, 1, 1] (by kernel_rfl), J49_0_h1, show (goX Try.prog cfg rc md 49 (bodyOf Try.prog 49) [([1, 1, 1, 1], 0)] (retK Try.prog cfg 49 (rsOf Try.prog 49) h0)) 0 = _ from J49_1_cut rc md h0]
  exact J49_0_h2 rc md h0 t h
theorem J49_0_cut (rc : Rec) (md : Md) (h0 : Heap) : cut Try.prog cfg rc md 49 (bodyOf Try.prog 49) [1, 1, 1] (retK Try.prog cfg 49 (rsOf Try.prog 49) h0) = fun t h => J49_0 rc md h0 (t 2) (t 3) (t 4) (t 8) (t 9) h := funext fun t => funext fun h => J49_0_at rc md h0 t h
noncomputable def F49 (rc : Rec) (md : Md) (a0 : Value) (a1 : Int) (a2 : Int) (a3 : Int) (h0 : Heap) : Option (Value × Heap) :=
  let h1 : Heap := h0 ++ [.own a0.cells.toList]
  ldN 10 (.pointer (some ⟨h0.length, 0, none⟩)) h1 fun v2 =>
  ldN 10 (.pointer (some ⟨h0.length, 0, none⟩)) h1 fun v3 =>
  cl (rc md 63 [v3, (.int .i64 a1)] h1) fun v4 h5 =>
  cIn .i64 v4 fun n6 =>
  cl (rc md 39 [v2, (.int .i64 n6)] h5) fun v7 h8 =>
  cIn .i64 v7 fun n9 =>
  ldN 10 (.pointer (some ⟨h0.length, 0, none⟩)) h8 fun v10 =>
  cLE true (fun hq => ldN 10 (.pointer (some ⟨h0.length, 0, none⟩)) hq some) v10 h5 h8 <|
  ldN 10 (.pointer (some ⟨h0.length, 0, none⟩)) h8 fun v11 =>
  cLE true (fun hq => ldN 10 (.pointer (some ⟨h0.length, 0, none⟩)) hq some) v11 h5 h8 <|
  cl (rc md 40 [v11, (.int .i64 a1)] h8) fun v12 h13 =>
  cIn .i64 v12 fun n14 =>
  cl (rc md 39 [v10, (.int .i64 n14)] h13) fun v15 h16 =>
  cIn .i64 v15 fun n17 =>
  bif (n9 == 0) then
    ldN 10 (.pointer (some ⟨h0.length, 0, none⟩)) h16 fun v18 =>
    ldN 3 (.pointer (some ⟨h0.length, 6, none⟩)) h16 fun v19 =>
    cl (rc md 13 [v19, (.int .i64 a2), (.int .i64 a3)] h16) fun v20 h21 =>
    cIn .i64 v20 fun n22 =>
    cl (rc md 62 [v18, (.int .i64 n22), (.int .i64 n17)] h21) fun v23 h24 =>
    J49_0 rc md h0 (.int .i64 a2) (.int .i64 a3) (.pointer (some ⟨h0.length, 0, none⟩)) (.int .i64 n9) (.int .i64 n17) h24
  else
    ldN 10 (.pointer (some ⟨h0.length, 0, none⟩)) h16 fun v25 =>
    ldN 10 (.pointer (some ⟨h0.length, 0, none⟩)) h16 fun v26 =>
    cl (rc md 40 [v26, (.int .i64 n9)] h16) fun v27 h28 =>
    cIn .i64 v27 fun n29 =>
    cl (rc md 62 [v25, (.int .i64 n29), (.int .i64 n17)] h28) fun v30 h31 =>
    J49_0 rc md h0 (.int .i64 a2) (.int .i64 a3) (.pointer (some ⟨h0.length, 0, none⟩)) (.int .i64 n9) (.int .i64 n17) h31
noncomputable def F49H (rc : Rec) (md : Md) (X1 : T → Heap → Option (Value × Heap)) (a0 : Value) (a1 : Int) (a2 : Int) (a3 : Int) (h0 : Heap) : Option (Value × Heap) :=
  let h1 : Heap := h0 ++ [.own a0.cells.toList]
  ldN 10 (.pointer (some ⟨h0.length, 0, none⟩)) h1 fun v2 =>
  ldN 10 (.pointer (some ⟨h0.length, 0, none⟩)) h1 fun v3 =>
  cl (rc md 63 [v3, (.int .i64 a1)] h1) fun v4 h5 =>
  cIn .i64 v4 fun n6 =>
  cl (rc md 39 [v2, (.int .i64 n6)] h5) fun v7 h8 =>
  cIn .i64 v7 fun n9 =>
  ldN 10 (.pointer (some ⟨h0.length, 0, none⟩)) h8 fun v10 =>
  cLE true (fun hq => ldN 10 (.pointer (some ⟨h0.length, 0, none⟩)) hq some) v10 h5 h8 <|
  ldN 10 (.pointer (some ⟨h0.length, 0, none⟩)) h8 fun v11 =>
  cLE true (fun hq => ldN 10 (.pointer (some ⟨h0.length, 0, none⟩)) hq some) v11 h5 h8 <|
  cl (rc md 40 [v11, (.int .i64 a1)] h8) fun v12 h13 =>
  cIn .i64 v12 fun n14 =>
  cl (rc md 39 [v10, (.int .i64 n14)] h13) fun v15 h16 =>
  cIn .i64 v15 fun n17 =>
  bif (n9 == 0) then
    ldN 10 (.pointer (some ⟨h0.length, 0, none⟩)) h16 fun v18 =>
    ldN 3 (.pointer (some ⟨h0.length, 6, none⟩)) h16 fun v19 =>
    cl (rc md 13 [v19, (.int .i64 a2), (.int .i64 a3)] h16) fun v20 h21 =>
    cIn .i64 v20 fun n22 =>
    cl (rc md 62 [v18, (.int .i64 n22), (.int .i64 n17)] h21) fun v23 h24 =>
    X1 (upd (upd (upd (upd (upd (upd (upd (upd (upd (upd (upd (upd (upd (upd (upd (upd (upd (upd (upd (upd (upd (upd (upd (upd (args0 [a0, (.int .i64 a1), (.int .i64 a2), (.int .i64 a3)]) 4 (.pointer (some ⟨h0.length, 0, none⟩))) 10 v2) 11 v3) 12 (.int .i64 a1)) 13 (.int .i64 n6)) 14 (.int .i64 n9)) 15 v10) 16 v11) 17 (.int .i64 a1)) 18 (.int .i64 n14)) 19 (.int .i64 n17)) 8 (.int .i64 n9)) 9 (.int .i64 n17)) 20 (.int .i64 n9)) 21 (.bool (n9 == 0))) 22 v18) 23 (.pointer (some ⟨h0.length, 6, none⟩))) 24 (.pointer (some ⟨h0.length, 6, none⟩))) 25 v19) 26 (.int .i64 a2)) 27 (.int .i64 a3)) 28 (.int .i64 n22)) 29 (.int .i64 n17)) 30 v23) h24
  else
    ldN 10 (.pointer (some ⟨h0.length, 0, none⟩)) h16 fun v25 =>
    ldN 10 (.pointer (some ⟨h0.length, 0, none⟩)) h16 fun v26 =>
    cl (rc md 40 [v26, (.int .i64 n9)] h16) fun v27 h28 =>
    cIn .i64 v27 fun n29 =>
    cl (rc md 62 [v25, (.int .i64 n29), (.int .i64 n17)] h28) fun v30 h31 =>
    X1 (upd (upd (upd (upd (upd (upd (upd (upd (upd (upd (upd (upd (upd (upd (upd (upd (upd (upd (upd (upd (upd (args0 [a0, (.int .i64 a1), (.int .i64 a2), (.int .i64 a3)]) 4 (.pointer (some ⟨h0.length, 0, none⟩))) 10 v2) 11 v3) 12 (.int .i64 a1)) 13 (.int .i64 n6)) 14 (.int .i64 n9)) 15 v10) 16 v11) 17 (.int .i64 a1)) 18 (.int .i64 n14)) 19 (.int .i64 n17)) 8 (.int .i64 n9)) 9 (.int .i64 n17)) 20 (.int .i64 n9)) 21 (.bool (n9 == 0))) 31 v25) 32 v26) 33 (.int .i64 n9)) 34 (.int .i64 n29)) 35 (.int .i64 n17)) 36 v30) h31
theorem F49_h0 (rc : Rec) (md : Md) (a0 : Value) (a1 : Int) (a2 : Int) (a3 : Int) (h0 : Heap) : callStep0 Try.prog cfg rc md 49 [a0, (.int .i64 a1), (.int .i64 a2), (.int .i64 a3)] h0 = exec Try.prog cfg rc ⟨md.ro, h0.length⟩ 49 (bodyOf Try.prog 49) (retK Try.prog cfg 49 (rsOf Try.prog 49) h0) (args0 [a0, (.int .i64 a1), (.int .i64 a2), (.int .i64 a3)]) h0 := callStep0_run (by kernel_rfl) (by kernel_rfl) (by kernel_rfl)
theorem F49_h1 (rc : Rec) (md : Md) (X : Nat → T → Heap → Option (Value × Heap)) (a0 : Value) (a1 : Int) (a2 : Int) (a3 : Int) (h0 : Heap) : execG Try.prog cfg X rc md 49 (replS (bodyOf Try.prog 49) [([1, 1, 1, 1], 0), ([1, 1, 1], 1)]) (retK Try.prog cfg 49 (rsOf Try.prog 49) h0) (args0 [a0, (.int .i64 a1), (.int .i64 a2), (.int .i64 a3)]) h0 = F49H rc md (X 1) a0 a1 a2 a3 h0 := by kernel_rfl
theorem F49_h2 (rc : Rec) (md : Md) (a0 : Value) (a1 : Int) (a2 : Int) (a3 : Int) (h0 : Heap) : F49H rc md (fun t h => J49_0 rc md h0 (t 2) (t 3) (t 4) (t 8) (t 9) h) a0 a1 a2 a3 h0 = F49 rc md a0 a1 a2 a3 h0 := by unfold F49H F49; kernel_rfl
theorem F49_eq0 (rc : Rec) (md : Md) (a0 : Value) (a1 : Int) (a2 : Int) (a3 : Int) (h0 : Heap) : callStep0 Try.prog cfg rc md 49 [a0, (.int .i64 a1), (.int .i64 a2), (.int .i64 a3)] h0 = F49 rc ⟨md.ro, h0.length⟩ a0 a1 a2 a3 h0 := by
  rw [F49_h0, exec_holes [([1, 1, 1, 1], 0), ([1, 1, 1], 1)] (by kernel_rfl), F49_h1, show (goX Try.prog cfg rc ⟨md.ro, h0.length⟩ 49 (bodyOf Try.prog 49) [([1, 1, 1, 1], 0), ([1, 1, 1], 1)] (retK Try.prog cfg 49 (rsOf Try.prog 49) h0)) 1 = _ from J49_0_cut rc ⟨md.ro, h0.length⟩ h0]
  exact F49_h2 rc _ a0 a1 a2 a3 h0
theorem F49_eq (rc : Rec) (md : Md) (a0 : Value) (a1 : Int) (a2 : Int) (a3 : Int) (h0 : Heap) : callStep Try.prog cfg rc md 49 [a0, (.int .i64 a1), (.int .i64 a2), (.int .i64 a3)] h0 = F49 rc ⟨md.ro, h0.length⟩ a0 a1 a2 a3 h0 := (callStep_ne (by kernel_rfl)).trans (F49_eq0 rc md a0 a1 a2 a3 h0)

/-- tombolo/tombololaw12.out -/
noncomputable def Jk56_0 (rc : Rec) (md : Md) (h0 : Heap) (e : Exit) (s1 : Value) (s4 : Value) (s5 : Value) (s8 : Value) (s9 : Value) (s10 : Value) (h : Heap) : Option (Value × Heap) :=
  match e with
  | .normal =>
    some (s5, h)
  | .exit j =>
    bif Nat.beq j 0 then
      some (s5, h)
    else
      none
  | .ret =>
    some (s4, h)
  | .goto l => none
  | .panic ps => none
  | .outgrown => none
theorem Jk56_0_at (rc : Rec) (md : Md) (h0 : Heap) (e : Exit) (t : T) (h : Heap) : kAt Try.prog cfg rc md 23 (bodyOf Try.prog 56) [1, 1, 0, 1, 0] (retK Try.prog cfg 56 (rsOf Try.prog 56) h0) e t h = Jk56_0 rc md h0 e (t 1) (t 4) (t 5) (t 8) (t 9) (t 10) h := by cases e <;> kernel_rfl
/-- a round -/
noncomputable def Jr56_0 (rc : Rec) (md : Md) (s1 : Value) (s4 : Value) (s5 : Value) (s8 : Value) (s9 : Value) (s10 : Value) (h : Heap) : Option (((Value × Value × Value × Value × Value × Value) × Heap) ⊕ (Exit × (Value × Value × Value × Value × Value × Value) × Heap)) :=
  aBin Try.prog .lss 3 s10 s9 fun v1 =>
  cBn v1 fun b2 =>
  bif b2 then
    ixSV 1 s8 s10 fun v3 =>
    ld1 v3 h fun v4 =>
    cIn .i64 v4 fun n5 =>
    aBin Try.prog .neq 3 (.int .i64 n5) s1 fun v6 =>
    cBn v6 fun b7 =>
    bif b7 then
      let h8 : Heap := h ++ [.own [(.int .i64 n5)]]
      aBuiltin Try.prog md .append #[60, 60] [s5, (.slice (some ⟨h.length, 0, none⟩) 1 1)] h8 fun v9 h10 =>
      aBin Try.prog .add 3 s10 (.int .i64 1) fun v11 =>
      some (.inl ((s1, s4, v9, s8, s9, v11), h10))
    else
      aBin Try.prog .add 3 s10 (.int .i64 1) fun v12 =>
      some (.inl ((s1, s4, s5, s8, s9, v12), h))
  else
    some (.inr ((.exit 0), (s1, s4, s5, s8, s9, s10), h))
theorem Jr56_0_at (rc : Rec) (md : Md) (t : T) (h : Heap) : exec Try.prog cfg rc md 23 (sub (bodyOf Try.prog 56) [1, 1, 0, 1, 0, 0]) (rndK (fun t => (t 1, t 4, t 5, t 8, t 9, t 10))) t h = Jr56_0 rc md (t 1) (t 4) (t 5) (t 8) (t 9) (t 10) h := by kernel_rfl
noncomputable def J56_0 (rc : Rec) (md : Md) (h0 : Heap) (s1 : Value) (s4 : Value) (s5 : Value) (s8 : Value) (s9 : Value) (s10 : Value) (h : Heap) : Option (Value × Heap) :=
  runL (fun x : (Value × Value × Value × Value × Value × Value) × Heap => Jr56_0 rc md x.1.1 x.1.2.1 x.1.2.2.1 x.1.2.2.2.1 x.1.2.2.2.2.1 x.1.2.2.2.2.2 x.2) (fun e (s : Value × Value × Value × Value × Value × Value) h => Jk56_0 rc md h0 e s.1 s.2.1 s.2.2.1 s.2.2.2.1 s.2.2.2.2.1 s.2.2.2.2.2 h) (s1, s4, s5, s8, s9, s10) h
theorem J56_0_step (rc : Rec) (md : Md) (h0 : Heap) (s1 : Value) (s4 : Value) (s5 : Value) (s8 : Value) (s9 : Value) (s10 : Value) (h : Heap) : J56_0 rc md h0 s1 s4 s5 s8 s9 s10 h = (Jr56_0 rc md s1 s4 s5 s8 s9 s10 h).bind fun x => match x with
    | .inl (s, h) => J56_0 rc md h0 s.1 s.2.1 s.2.2.1 s.2.2.2.1 s.2.2.2.2.1 s.2.2.2.2.2 h
    | .inr (e, s, h) => Jk56_0 rc md h0 e s.1 s.2.1 s.2.2.1 s.2.2.2.1 s.2.2.2.2.1 s.2.2.2.2.2 h := by
  unfold J56_0
  rw [runL_eq]
  refine congrArg (Option.bind _) (funext fun x => ?_)
  rcases x with ⟨s, h⟩ | ⟨e, s, h⟩ <;> rfl
theorem J56_0_cut (rc : Rec) (md : Md) (h0 : Heap) : cut Try.prog cfg rc md 23 (bodyOf Try.prog 56) [1, 1, 0, 1, 0] (retK Try.prog cfg 56 (rsOf Try.prog 56) h0) = fun t h => J56_0 rc md h0 (t 1) (t 4) (t 5) (t 8) (t 9) (t 10) h := by
  funext t h
  have e : sub (bodyOf Try.prog 56) [1, 1, 0, 1, 0] = .loop (sub (bodyOf Try.prog 56) [1, 1, 0, 1, 0, 0]) := by kernel_rfl
  unfold cut
  rw [e]
  exact loop_eq (by kernel_rfl) (fun t => (t 1, t 4, t 5, t 8, t 9, t 10)) (fun x : (Value × Value × Value × Value × Value × Value) × Heap => Jr56_0 rc md x.1.1 x.1.2.1 x.1.2.2.1 x.1.2.2.2.1 x.1.2.2.2.2.1 x.1.2.2.2.2.2 x.2) (fun t h => Jr56_0_at rc md t h) (fun e (s : Value × Value × Value × Value × Value × Value) h => Jk56_0 rc md h0 e s.1 s.2.1 s.2.2.1 s.2.2.2.1 s.2.2.2.2.1 s.2.2.2.2.2 h) (fun e t h => Jk56_0_at rc md h0 e t h) t h
noncomputable def F56 (rc : Rec) (md : Md) (a0 : Value) (a1 : Int) (h0 : Heap) : Option (Value × Heap) :=
  lenS a0 fun v1 =>
  cIn .i64 v1 fun n2 =>
  J56_0 rc md h0 (.int .i64 a1) (.slice none 0 0) (.slice none 0 0) a0 (.int .i64 n2) (.int .i64 0) h0
noncomputable def F56H (rc : Rec) (md : Md) (X0 : T → Heap → Option (Value × Heap)) (a0 : Value) (a1 : Int) (h0 : Heap) : Option (Value × Heap) :=
  lenS a0 fun v1 =>
  cIn .i64 v1 fun n2 =>
  X0 (upd (upd (upd (upd (upd (args0 [a0, (.int .i64 a1)]) 4 (.slice none 0 0)) 5 (.slice none 0 0)) 8 a0) 9 (.int .i64 n2)) 10 (.int .i64 0)) h0
theorem F56_h0 (rc : Rec) (md : Md) (a0 : Value) (a1 : Int) (h0 : Heap) : callStep0 Try.prog cfg rc md 56 [a0, (.int .i64 a1)] h0 = exec Try.prog cfg rc md 23 (bodyOf Try.prog 56) (retK Try.prog cfg 56 (rsOf Try.prog 56) h0) (args0 [a0, (.int .i64 a1)]) h0 := callStep0_run (by kernel_rfl) (by kernel_rfl) (by kernel_rfl)
theorem F56_h1 (rc : Rec) (md : Md) (X : Nat → T → Heap → Option (Value × Heap)) (a0 : Value) (a1 : Int) (h0 : Heap) : execG Try.prog cfg X rc md 23 (replS (bodyOf Try.prog 56) [([1, 1, 0, 1, 0], 0)]) (retK Try.prog cfg 56 (rsOf Try.prog 56) h0) (args0 [a0, (.int .i64 a1)]) h0 = F56H rc md (X 0) a0 a1 h0 := by kernel_rfl
theorem F56_h2 (rc : Rec) (md : Md) (a0 : Value) (a1 : Int) (h0 : Heap) : F56H rc md (fun t h => J56_0 rc md h0 (t 1) (t 4) (t 5) (t 8) (t 9) (t 10) h) a0 a1 h0 = F56 rc md a0 a1 h0 := by unfold F56H F56; kernel_rfl
theorem F56_eq0 (rc : Rec) (md : Md) (a0 : Value) (a1 : Int) (h0 : Heap) : callStep0 Try.prog cfg rc md 56 [a0, (.int .i64 a1)] h0 = F56 rc md a0 a1 h0 := by
  rw [F56_h0, exec_holes [([1, 1, 0, 1, 0], 0)] (by kernel_rfl), F56_h1, show (goX Try.prog cfg rc md 23 (bodyOf Try.prog 56) [([1, 1, 0, 1, 0], 0)] (retK Try.prog cfg 56 (rsOf Try.prog 56) h0)) 0 = _ from J56_0_cut rc md h0]
  exact F56_h2 rc _ a0 a1 h0
theorem F56_eq (rc : Rec) (md : Md) (a0 : Value) (a1 : Int) (h0 : Heap) : callStep Try.prog cfg rc md 56 [a0, (.int .i64 a1)] h0 = F56 rc md a0 a1 h0 := (callStep_ne (by kernel_rfl)).trans (F56_eq0 rc md a0 a1 h0)

/-- (tombolo/adj.Adj).put -/
noncomputable def F62 (rc : Rec) (md : Md) (a0 : Value) (a1 : Int) (a2 : Int) (h0 : Heap) : Option (Value × Heap) :=
  let h1 : Heap := h0 ++ [.own a0.cells.toList]
  ld1 (.pointer (some ⟨h0.length, 9, none⟩)) h1 fun v2 =>
  clI Try.prog rc md v2 "Store" [(.int .i64 a1), (.int .u64 (IntKind.wrap .u64 a2))] h1 fun v3 h4 =>
  some ((.tuple #[]), List.take h0.length h4)
theorem F62_eq0 (rc : Rec) (md : Md) (a0 : Value) (a1 : Int) (a2 : Int) (h0 : Heap) : callStep0 Try.prog cfg rc md 62 [a0, (.int .i64 a1), (.int .i64 a2)] h0 = F62 rc ⟨md.ro, h0.length⟩ a0 a1 a2 h0 := by kernel_rfl
theorem F62_eq (rc : Rec) (md : Md) (a0 : Value) (a1 : Int) (a2 : Int) (h0 : Heap) : callStep Try.prog cfg rc md 62 [a0, (.int .i64 a1), (.int .i64 a2)] h0 = F62 rc ⟨md.ro, h0.length⟩ a0 a1 a2 h0 := (callStep_ne (by kernel_rfl)).trans (F62_eq0 rc md a0 a1 a2 h0)

/-- (tombolo/adj.Adj).prev -/
noncomputable def F63 (rc : Rec) (md : Md) (a0 : Value) (a1 : Int) (h0 : Heap) : Option (Value × Heap) :=
  let h1 : Heap := h0 ++ [.own a0.cells.toList]
  ldN 3 (.pointer (some ⟨h0.length, 6, none⟩)) h1 fun v2 =>
  cl (rc md 14 [v2, (.int .i64 (IntKind.wrap .i64 (Int.tdiv (IntKind.wrap .i64 (a1 - 1)) 2))), (.int .i64 (Int.tmod (IntKind.wrap .i64 (a1 - 1)) 2))] h1) fun v3 h4 =>
  cIn .i64 v3 fun n5 =>
  some ((.int .i64 n5), h0)
theorem F63_eq0 (rc : Rec) (md : Md) (a0 : Value) (a1 : Int) (h0 : Heap) : callStep0 Try.prog cfg rc md 63 [a0, (.int .i64 a1)] h0 = F63 rc ⟨h0.length, h0.length⟩ a0 a1 h0 := by kernel_rfl
theorem F63_eq (rc : Rec) (md : Md) (a0 : Value) (a1 : Int) (h0 : Heap) : callStep Try.prog cfg rc md 63 [a0, (.int .i64 a1)] h0 = F63 rc ⟨h0.length, h0.length⟩ a0 a1 h0 := (callStep_ne (by kernel_rfl)).trans (F63_eq0 rc md a0 a1 h0)

/-- (tombolo/adj.Adj).mark -/
noncomputable def F64 (rc : Rec) (md : Md) (a0 : Value) (a1 : Int) (a2 : Int) (h0 : Heap) : Option (Value × Heap) :=
  let h1 : Heap := h0 ++ [.own a0.cells.toList]
  ldN 3 (.pointer (some ⟨h0.length, 6, none⟩)) h1 fun v2 =>
  cl (rc md 22 [v2, (.int .i64 a2), (.int .i64 a1)] h1) fun v3 h4 =>
  cIn .i64 v3 fun n5 =>
  ldN 10 (.pointer (some ⟨h0.length, 0, none⟩)) h4 fun v6 =>
  ldN 3 (.pointer (some ⟨h0.length, 6, none⟩)) h4 fun v7 =>
  cl (rc md 13 [v7, (.int .i64 a1), (.int .i64 a2)] h4) fun v8 h9 =>
  cIn .i64 v8 fun n10 =>
  cl (rc md 39 [v6, (.int .i64 n10)] h9) fun v11 h12 =>
  cIn .i64 v11 fun n13 =>
  ldN 6 (.pointer (some ⟨h0.length, 0, none⟩)) h12 fun v14 =>
  cl (rc md 21 [v14, (.int .i64 n5), (.int .i64 0)] h12) fun v15 h16 =>
  cBn v15 fun b17 =>
  aBin Try.prog .neq 4 (.bool (n13 != 0)) (.bool b17) fun v18 =>
  cBn v18 fun b19 =>
  bif b19 then
    ldN 6 (.pointer (some ⟨h0.length, 0, none⟩)) h16 fun v20 =>
    cl (rc md 69 [v20, (.int .i64 n5), (.int .i64 0), (.bool (n13 != 0))] h16) fun v21 h22 =>
    some ((.tuple #[]), List.take h0.length h22)
  else
    some ((.tuple #[]), List.take h0.length h16)
theorem F64_eq0 (rc : Rec) (md : Md) (a0 : Value) (a1 : Int) (a2 : Int) (h0 : Heap) : callStep0 Try.prog cfg rc md 64 [a0, (.int .i64 a1), (.int .i64 a2)] h0 = F64 rc ⟨md.ro, h0.length⟩ a0 a1 a2 h0 := by kernel_rfl
theorem F64_eq (rc : Rec) (md : Md) (a0 : Value) (a1 : Int) (a2 : Int) (h0 : Heap) : callStep Try.prog cfg rc md 64 [a0, (.int .i64 a1), (.int .i64 a2)] h0 = F64 rc ⟨md.ro, h0.length⟩ a0 a1 a2 h0 := (callStep_ne (by kernel_rfl)).trans (F64_eq0 rc md a0 a1 a2 h0)

end Go.Det.E
