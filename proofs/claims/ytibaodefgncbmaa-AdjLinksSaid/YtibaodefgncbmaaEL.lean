/- Printed functions. -/
import Derived.Test.YtibaodefgncbmaaE7
import Derived.Test.YtibaodefgncbmaaDetT
import Derived.Test.YtibaodefgncbmaaDetX
import Derived.Test.YtibaodefgncbmaaProg
set_option autoImplicit false
set_option linter.unusedVariables false
set_option linter.unusedSimpArgs false
namespace Go.Det.E
open Go.Proofs Go.Det

/-- tombolo/tombololaw12.AdjLinks -/
noncomputable def Jk4_2 (rc : Rec) (md : Md) (h0 : Heap) (e : Exit) (s2 : Value) (s4 : Value) (s5 : Value) (s48 : Value) (s49 : Value) (h : Heap) : Option (Value × Heap) :=
  match e with
  | .normal =>
    cl (rc md 8 [] h) fun v1 h2 =>
    cBn v1 fun b3 =>
    some ((.bool b3), List.take h0.length h2)
  | .exit j =>
    bif Nat.beq j 2 then
      cl (rc md 8 [] h) fun v4 h5 =>
      cBn v4 fun b6 =>
      some ((.bool b6), List.take h0.length h5)
    else
      none
  | .ret =>
    fin1 h0 s4 h
  | .goto l => none
  | .panic ps => none
  | .outgrown => none
theorem Jk4_2_at (rc : Rec) (md : Md) (h0 : Heap) (e : Exit) (t : T) (h : Heap) : kAt Try.prog cfg rc md 126 (bodyOf Try.prog 4) [1, 1, 1, 1, 1, 1, 0, 1, 0] (retK Try.prog cfg 4 (rsOf Try.prog 4) h0) e t h = Jk4_2 rc md h0 e (t 2) (t 4) (t 5) (t 48) (t 49) h := by cases e <;> kernel_rfl
noncomputable def Jk4_2b0 (rc : Rec) (md : Md) (e : Exit) (s2 : Value) (s4 : Value) (s5 : Value) (s10 : Value) (s48 : Value) (s49 : Value) (s53 : Value) (s54 : Value) (h : Heap) : Option (((Value × Value × Value × Value × Value) × Heap) ⊕ (Exit × (Value × Value × Value × Value × Value) × Heap)) :=
  match e with
  | .normal =>
    aBin Try.prog .add 3 s49 (.int .i64 1) fun v1 =>
    some (.inl ((s2, s4, s5, s48, v1), h))
  | .exit j =>
    bif Nat.beq j 4 then
      aBin Try.prog .add 3 s49 (.int .i64 1) fun v2 =>
      some (.inl ((s2, s4, s5, s48, v2), h))
    else
      bif Nat.beq j 3 then
        aBin Try.prog .add 3 s49 (.int .i64 1) fun v3 =>
        some (.inl ((s2, s4, s5, s48, v3), h))
      else
        some (.inr ((.exit j), (s2, s4, s5, s48, s49), h))
  | .ret =>
    some (.inr (.ret, (s2, s4, s5, s48, s49), h))
  | .goto l => some (.inr ((.goto l), (s2, s4, s5, s48, s49), h))
  | .panic ps => some (.inr ((.panic ps), (s2, s4, s5, s48, s49), h))
  | .outgrown => some (.inr (.outgrown, (s2, s4, s5, s48, s49), h))
theorem Jk4_2b0_at (rc : Rec) (md : Md) (e : Exit) (t : T) (h : Heap) : kAt Try.prog cfg rc md 126 (sub (bodyOf Try.prog 4) [1, 1, 1, 1, 1, 1, 0, 1, 0, 0]) [1, 1, 0, 0, 1, 1, 0] (rndK (fun t => (t 2, t 4, t 5, t 48, t 49))) e t h = Jk4_2b0 rc md e (t 2) (t 4) (t 5) (t 10) (t 48) (t 49) (t 53) (t 54) h := by cases e <;> kernel_rfl
noncomputable def Jk4_2b0b0 (rc : Rec) (md : Md) (e : Exit) (s2 : Value) (s4 : Value) (s5 : Value) (s10 : Value) (s12 : Value) (s13 : Value) (s14 : Value) (s48 : Value) (s49 : Value) (s53 : Value) (s54 : Value) (h : Heap) : Option (((Value × Value × Value × Value × Value × Value × Value × Value) × Heap) ⊕ (Exit × (Value × Value × Value × Value × Value × Value × Value × Value) × Heap)) :=
  match e with
  | .normal =>
    aBin Try.prog .add 3 s54 (.int .i64 1) fun v1 =>
    some (.inl ((s2, s4, s5, s10, s48, s49, s53, v1), h))
  | .exit j =>
    bif Nat.beq j 6 then
      aBin Try.prog .add 3 s54 (.int .i64 1) fun v2 =>
      some (.inl ((s2, s4, s5, s10, s48, s49, s53, v2), h))
    else
      bif Nat.beq j 5 then
        aBin Try.prog .add 3 s54 (.int .i64 1) fun v3 =>
        some (.inl ((s2, s4, s5, s10, s48, s49, s53, v3), h))
      else
        some (.inr ((.exit j), (s2, s4, s5, s10, s48, s49, s53, s54), h))
  | .ret =>
    some (.inr (.ret, (s2, s4, s5, s10, s48, s49, s53, s54), h))
  | .goto l => some (.inr ((.goto l), (s2, s4, s5, s10, s48, s49, s53, s54), h))
  | .panic ps => some (.inr ((.panic ps), (s2, s4, s5, s10, s48, s49, s53, s54), h))
  | .outgrown => some (.inr (.outgrown, (s2, s4, s5, s10, s48, s49, s53, s54), h))
theorem Jk4_2b0b0_at (rc : Rec) (md : Md) (e : Exit) (t : T) (h : Heap) : kAt Try.prog cfg rc md 126 (sub (bodyOf Try.prog 4) [1, 1, 1, 1, 1, 1, 0, 1, 0, 0, 1, 1, 0, 0, 1, 1, 0, 0]) [1, 1, 0, 0, 1, 1, 1, 0] (rndK (fun t => (t 2, t 4, t 5, t 10, t 48, t 49, t 53, t 54))) e t h = Jk4_2b0b0 rc md e (t 2) (t 4) (t 5) (t 10) (t 12) (t 13) (t 14) (t 48) (t 49) (t 53) (t 54) h := by cases e <;> kernel_rfl
/-- a round -/
noncomputable def Jr4_2b0b0 (rc : Rec) (md : Md) (s2 : Value) (s4 : Value) (s5 : Value) (s10 : Value) (s12 : Value) (s13 : Value) (s14 : Value) (s48 : Value) (s49 : Value) (s53 : Value) (s54 : Value) (h : Heap) : Option (((Value × Value × Value × Value × Value × Value × Value × Value × Value × Value × Value) × Heap) ⊕ (Exit × (Value × Value × Value × Value × Value × Value × Value × Value × Value × Value × Value) × Heap)) :=
  aBin Try.prog .neq 3 s14 (.int .i64 0) fun v1 =>
  cBn v1 fun b2 =>
  bif b2 then
    fA 1 s2 fun v3 =>
    ld1 v3 h fun v4 =>
    cIn .i64 v4 fun n5 =>
    aBin Try.prog .gtr 3 s13 (.int .i64 (IntKind.wrap .i64 (2 * n5))) fun v6 =>
    (bif wantV v6 false then
    some (s14, h)
    else some (undef, h)).bind fun p7 =>
    (bif wantV v6 false then
    aBin Try.prog .lss 3 p7.1 (.int .i64 0) fun v8 =>
    some (v8, p7.2)
    else some (undef, p7.2)).bind fun p9 =>
    cBn v6 fun q10 =>
    cBn (bif q10 then (.bool true) else p9.1) fun b11 =>
    (bif wantV (.bool b11) false then
    some (s14, p9.2)
    else some (undef, p9.2)).bind fun p12 =>
    (bif wantV (.bool b11) false then
    fA 1 s2 fun v13 =>
    some (v13, p12.2)
    else some (undef, p12.2)).bind fun p14 =>
    (bif wantV (.bool b11) false then
    ld1 p14.1 p14.2 fun v15 =>
    cIn .i64 v15 fun n16 =>
    some ((.int .i64 n16), p14.2)
    else some (undef, p14.2)).bind fun p17 =>
    (bif wantV (.bool b11) false then
    aBin Try.prog .mul 3 (.int .i64 2) p17.1 fun v18 =>
    some (v18, p17.2)
    else some (undef, p17.2)).bind fun p19 =>
    (bif wantV (.bool b11) false then
    aBin Try.prog .gtr 3 p12.1 p19.1 fun v20 =>
    some (v20, p19.2)
    else some (undef, p19.2)).bind fun p21 =>
    cBn (bif b11 then (.bool true) else p21.1) fun b22 =>
    (bif wantV (.bool b22) false then
    fA 6 s5 fun v23 =>
    some (v23, p21.2)
    else some (undef, p21.2)).bind fun p24 =>
    (bif wantV (.bool b22) false then
    fA 3 p24.1 fun v25 =>
    some (v25, p24.2)
    else some (undef, p24.2)).bind fun p26 =>
    (bif wantV (.bool b22) false then
    ld1 p26.1 p26.2 fun v27 =>
    some (v27, p26.2)
    else some (undef, p26.2)).bind fun p28 =>
    (bif wantV (.bool b22) false then
    ldN 3 s2 p28.2 fun v29 =>
    some (v29, p28.2)
    else some (undef, p28.2)).bind fun p30 =>
    (bif wantV (.bool b22) false then
    some (s14, p30.2)
    else some (undef, p30.2)).bind fun p31 =>
    (bif wantV (.bool b22) false then
    aBin Try.prog .sub 3 p31.1 (.int .i64 1) fun v32 =>
    some (v32, p31.2)
    else some (undef, p31.2)).bind fun p33 =>
    (bif wantV (.bool b22) false then
    aBin Try.prog .quo 3 p33.1 (.int .i64 2) fun v34 =>
    some (v34, p33.2)
    else some (undef, p33.2)).bind fun p35 =>
    (bif wantV (.bool b22) false then
    some (s14, p35.2)
    else some (undef, p35.2)).bind fun p36 =>
    (bif wantV (.bool b22) false then
    aBin Try.prog .sub 3 p36.1 (.int .i64 1) fun v37 =>
    some (v37, p36.2)
    else some (undef, p36.2)).bind fun p38 =>
    (bif wantV (.bool b22) false then
    aBin Try.prog .rem 3 p38.1 (.int .i64 2) fun v39 =>
    some (v39, p38.2)
    else some (undef, p38.2)).bind fun p40 =>
    (bif wantV (.bool b22) false then
    cl (rc md 14 [p30.1, p35.1, p40.1] p40.2) fun v41 h42 =>
    cIn .i64 v41 fun n43 =>
    some ((.int .i64 n43), h42)
    else some (undef, p40.2)).bind fun p44 =>
    (bif wantV (.bool b22) false then
    bif okNil Try.prog p28.1 then
    some (p28.1, p44.2)
    else none
    else some (undef, p44.2)).bind fun p45 =>
    (bif wantV (.bool b22) false then
    some (p28.1, p45.2)
    else some (undef, p45.2)).bind fun p46 =>
    (bif wantV (.bool b22) false then
    clI Try.prog rc md p46.1 "Load" [p44.1] p46.2 fun v47 h48 =>
    cIn .u64 v47 fun n49 =>
    some ((.int .u64 n49), h48)
    else some (undef, p46.2)).bind fun p50 =>
    (bif wantV (.bool b22) false then
    aConv Try.prog 51 3 p50.1 fun v51 =>
    some (v51, p50.2)
    else some (undef, p50.2)).bind fun p52 =>
    (bif wantV (.bool b22) false then
    some (s12, p52.2)
    else some (undef, p52.2)).bind fun p53 =>
    (bif wantV (.bool b22) false then
    aBin Try.prog .neq 3 p52.1 p53.1 fun v54 =>
    some (v54, p53.2)
    else some (undef, p53.2)).bind fun p55 =>
    cBn (bif b22 then (.bool true) else p55.1) fun b56 =>
    bif b56 then
      some (.inr (.ret, (s2, (.bool false), s5, s10, s12, s13, s14, s48, s49, s53, s54), p55.2))
    else
      fA 6 s5 fun v57 =>
      fA 3 v57 fun v58 =>
      ld1 v58 p55.2 fun v59 =>
      ldN 3 s2 p55.2 fun v60 =>
      aBin Try.prog .sub 3 s14 (.int .i64 1) fun v61 =>
      aBin Try.prog .quo 3 v61 (.int .i64 2) fun v62 =>
      aBin Try.prog .sub 3 s14 (.int .i64 1) fun v63 =>
      aBin Try.prog .rem 3 v63 (.int .i64 2) fun v64 =>
      cl (rc md 15 [v60, v62, v64] p55.2) fun v65 h66 =>
      cIn .i64 v65 fun n67 =>
      bif okNil Try.prog v59 then
      clI Try.prog rc md v59 "Load" [(.int .i64 n67)] h66 fun v68 h69 =>
      cIn .u64 v68 fun n70 =>
      aBin Try.prog .add 3 s13 (.int .i64 1) fun v71 =>
      some (.inl ((s2, s4, s5, s10, s14, v71, (.int .i64 (IntKind.wrap .i64 n70)), s48, s49, s53, s54), h69))
      else none
  else
    some (.inr ((.exit 6), (s2, s4, s5, s10, s12, s13, s14, s48, s49, s53, s54), h))
theorem Jr4_2b0b0_at (rc : Rec) (md : Md) (t : T) (h : Heap) : exec Try.prog cfg rc md 126 (sub (bodyOf Try.prog 4) [1, 1, 1, 1, 1, 1, 0, 1, 0, 0, 1, 1, 0, 0, 1, 1, 0, 0, 1, 1, 0, 0, 1, 1, 1, 0, 0]) (rndK (fun t => (t 2, t 4, t 5, t 10, t 12, t 13, t 14, t 48, t 49, t 53, t 54))) t h = Jr4_2b0b0 rc md (t 2) (t 4) (t 5) (t 10) (t 12) (t 13) (t 14) (t 48) (t 49) (t 53) (t 54) h := by kernel_rfl
noncomputable def J4_2b0b0 (rc : Rec) (md : Md) (s2 : Value) (s4 : Value) (s5 : Value) (s10 : Value) (s12 : Value) (s13 : Value) (s14 : Value) (s48 : Value) (s49 : Value) (s53 : Value) (s54 : Value) (h : Heap) : Option (((Value × Value × Value × Value × Value × Value × Value × Value) × Heap) ⊕ (Exit × (Value × Value × Value × Value × Value × Value × Value × Value) × Heap)) :=
  runL (fun x : (Value × Value × Value × Value × Value × Value × Value × Value × Value × Value × Value) × Heap => Jr4_2b0b0 rc md x.1.1 x.1.2.1 x.1.2.2.1 x.1.2.2.2.1 x.1.2.2.2.2.1 x.1.2.2.2.2.2.1 x.1.2.2.2.2.2.2.1 x.1.2.2.2.2.2.2.2.1 x.1.2.2.2.2.2.2.2.2.1 x.1.2.2.2.2.2.2.2.2.2.1 x.1.2.2.2.2.2.2.2.2.2.2 x.2) (fun e (s : Value × Value × Value × Value × Value × Value × Value × Value × Value × Value × Value) h => Jk4_2b0b0 rc md e s.1 s.2.1 s.2.2.1 s.2.2.2.1 s.2.2.2.2.1 s.2.2.2.2.2.1 s.2.2.2.2.2.2.1 s.2.2.2.2.2.2.2.1 s.2.2.2.2.2.2.2.2.1 s.2.2.2.2.2.2.2.2.2.1 s.2.2.2.2.2.2.2.2.2.2 h) (s2, s4, s5, s10, s12, s13, s14, s48, s49, s53, s54) h
theorem J4_2b0b0_step (rc : Rec) (md : Md) (s2 : Value) (s4 : Value) (s5 : Value) (s10 : Value) (s12 : Value) (s13 : Value) (s14 : Value) (s48 : Value) (s49 : Value) (s53 : Value) (s54 : Value) (h : Heap) : J4_2b0b0 rc md s2 s4 s5 s10 s12 s13 s14 s48 s49 s53 s54 h = (Jr4_2b0b0 rc md s2 s4 s5 s10 s12 s13 s14 s48 s49 s53 s54 h).bind fun x => match x with
    | .inl (s, h) => J4_2b0b0 rc md s.1 s.2.1 s.2.2.1 s.2.2.2.1 s.2.2.2.2.1 s.2.2.2.2.2.1 s.2.2.2.2.2.2.1 s.2.2.2.2.2.2.2.1 s.2.2.2.2.2.2.2.2.1 s.2.2.2.2.2.2.2.2.2.1 s.2.2.2.2.2.2.2.2.2.2 h
    | .inr (e, s, h) => Jk4_2b0b0 rc md e s.1 s.2.1 s.2.2.1 s.2.2.2.1 s.2.2.2.2.1 s.2.2.2.2.2.1 s.2.2.2.2.2.2.1 s.2.2.2.2.2.2.2.1 s.2.2.2.2.2.2.2.2.1 s.2.2.2.2.2.2.2.2.2.1 s.2.2.2.2.2.2.2.2.2.2 h := by
  unfold J4_2b0b0
  rw [runL_eq]
  refine congrArg (Option.bind _) (funext fun x => ?_)
  rcases x with ⟨s, h⟩ | ⟨e, s, h⟩ <;> rfl
theorem J4_2b0b0_cut (rc : Rec) (md : Md) : cut Try.prog cfg rc md 126 (sub (bodyOf Try.prog 4) [1, 1, 1, 1, 1, 1, 0, 1, 0, 0, 1, 1, 0, 0, 1, 1, 0, 0]) [1, 1, 0, 0, 1, 1, 1, 0] (rndK (fun t => (t 2, t 4, t 5, t 10, t 48, t 49, t 53, t 54))) = fun t h => J4_2b0b0 rc md (t 2) (t 4) (t 5) (t 10) (t 12) (t 13) (t 14) (t 48) (t 49) (t 53) (t 54) h := by
  funext t h
  have e : sub (sub (bodyOf Try.prog 4) [1, 1, 1, 1, 1, 1, 0, 1, 0, 0, 1, 1, 0, 0, 1, 1, 0, 0]) [1, 1, 0, 0, 1, 1, 1, 0] = .loop (sub (bodyOf Try.prog 4) [1, 1, 1, 1, 1, 1, 0, 1, 0, 0, 1, 1, 0, 0, 1, 1, 0, 0, 1, 1, 0, 0, 1, 1, 1, 0, 0]) := by kernel_rfl
  unfold cut
  rw [e]
  exact loop_eq (by kernel_rfl) (fun t => (t 2, t 4, t 5, t 10, t 12, t 13, t 14, t 48, t 49, t 53, t 54)) (fun x : (Value × Value × Value × Value × Value × Value × Value × Value × Value × Value × Value) × Heap => Jr4_2b0b0 rc md x.1.1 x.1.2.1 x.1.2.2.1 x.1.2.2.2.1 x.1.2.2.2.2.1 x.1.2.2.2.2.2.1 x.1.2.2.2.2.2.2.1 x.1.2.2.2.2.2.2.2.1 x.1.2.2.2.2.2.2.2.2.1 x.1.2.2.2.2.2.2.2.2.2.1 x.1.2.2.2.2.2.2.2.2.2.2 x.2) (fun t h => Jr4_2b0b0_at rc md t h) (fun e (s : Value × Value × Value × Value × Value × Value × Value × Value × Value × Value × Value) h => Jk4_2b0b0 rc md e s.1 s.2.1 s.2.2.1 s.2.2.2.1 s.2.2.2.2.1 s.2.2.2.2.2.1 s.2.2.2.2.2.2.1 s.2.2.2.2.2.2.2.1 s.2.2.2.2.2.2.2.2.1 s.2.2.2.2.2.2.2.2.2.1 s.2.2.2.2.2.2.2.2.2.2 h) (fun e t h => Jk4_2b0b0_at rc md e t h) t h
/-- a round -/
noncomputable def Jr4_2b0 (rc : Rec) (md : Md) (s2 : Value) (s4 : Value) (s5 : Value) (s10 : Value) (s48 : Value) (s49 : Value) (s53 : Value) (s54 : Value) (h : Heap) : Option (((Value × Value × Value × Value × Value × Value × Value × Value) × Heap) ⊕ (Exit × (Value × Value × Value × Value × Value × Value × Value × Value) × Heap)) :=
  aBin Try.prog .lss 3 s54 s53 fun v1 =>
  cBn v1 fun b2 =>
  bif b2 then
    fA 6 s5 fun v3 =>
    fA 3 v3 fun v4 =>
    ld1 v4 h fun v5 =>
    ldN 3 s2 h fun v6 =>
    cl (rc md 13 [v6, s10, s54] h) fun v7 h8 =>
    cIn .i64 v7 fun n9 =>
    bif okNil Try.prog v5 then
    clI Try.prog rc md v5 "Load" [(.int .i64 n9)] h8 fun v10 h11 =>
    cIn .u64 v10 fun n12 =>
    J4_2b0b0 rc md s2 s4 s5 s10 (.int .i64 0) (.int .i64 0) (.int .i64 (IntKind.wrap .i64 n12)) s48 s49 s53 s54 h11
    else none
  else
    some (.inr ((.exit 4), (s2, s4, s5, s10, s48, s49, s53, s54), h))
noncomputable def Jr4_2b0H (rc : Rec) (md : Md) (X0 : T → Heap → Option (((Value × Value × Value × Value × Value × Value × Value × Value) × Heap) ⊕ (Exit × (Value × Value × Value × Value × Value × Value × Value × Value) × Heap))) (t : T) (h : Heap) : Option (((Value × Value × Value × Value × Value × Value × Value × Value) × Heap) ⊕ (Exit × (Value × Value × Value × Value × Value × Value × Value × Value) × Heap)) :=
  aBin Try.prog .lss 3 (t 54) (t 53) fun v1 =>
  cBn v1 fun b2 =>
  bif b2 then
    fA 6 (t 5) fun v3 =>
    fA 3 v3 fun v4 =>
    ld1 v4 h fun v5 =>
    ldN 3 (t 2) h fun v6 =>
    cl (rc md 13 [v6, (t 10), (t 54)] h) fun v7 h8 =>
    cIn .i64 v7 fun n9 =>
    bif okNil Try.prog v5 then
    clI Try.prog rc md v5 "Load" [(.int .i64 n9)] h8 fun v10 h11 =>
    cIn .u64 v10 fun n12 =>
    X0 (upd (upd (upd (upd (upd (upd (upd (upd (upd (upd (upd (upd (upd (upd (upd (upd (upd t 55 v1) 56 (t 54)) 11 (t 54)) 12 (.int .i64 0)) 57 v3) 58 v4) 59 v5) 60 v6) 61 (t 10)) 62 (t 54)) 63 (.int .i64 n9)) 64 v5) 65 v5) 66 (.int .u64 n12)) 67 (.int .i64 (IntKind.wrap .i64 n12))) 13 (.int .i64 0)) 14 (.int .i64 (IntKind.wrap .i64 n12))) h11
    else none
  else
    some (.inr ((.exit 4), ((t 2), (t 4), (t 5), (t 10), (t 48), (t 49), (t 53), (t 54)), h))
theorem Jr4_2b0_h1 (rc : Rec) (md : Md) (X : Nat → T → Heap → Option (((Value × Value × Value × Value × Value × Value × Value × Value) × Heap) ⊕ (Exit × (Value × Value × Value × Value × Value × Value × Value × Value) × Heap))) (t : T) (h : Heap) : execG Try.prog cfg X rc md 126 (replS (sub (bodyOf Try.prog 4) [1, 1, 1, 1, 1, 1, 0, 1, 0, 0, 1, 1, 0, 0, 1, 1, 0, 0]) [([1, 1, 0, 0, 1, 1, 1, 0], 0)]) (rndK (fun t => (t 2, t 4, t 5, t 10, t 48, t 49, t 53, t 54))) t h = Jr4_2b0H rc md (X 0) t h := by kernel_rfl
theorem Jr4_2b0_h2 (rc : Rec) (md : Md) (t : T) (h : Heap) : Jr4_2b0H rc md (fun t h => J4_2b0b0 rc md (t 2) (t 4) (t 5) (t 10) (t 12) (t 13) (t 14) (t 48) (t 49) (t 53) (t 54) h) t h = Jr4_2b0 rc md (t 2) (t 4) (t 5) (t 10) (t 48) (t 49) (t 53) (t 54) h := by unfold Jr4_2b0H Jr4_2b0; kernel_rfl
theorem Jr4_2b0_at (rc : Rec) (md : Md) (t : T) (h : Heap) : exec Try.prog cfg rc md 126 (sub (bodyOf Try.prog 4) [1, 1, 1, 1, 1, 1, 0, 1, 0, 0, 1, 1, 0, 0, 1, 1, 0, 0]) (rndK (fun t => (t 2, t 4, t 5, t 10, t 48, t 49, t 53, t 54))) t h = Jr4_2b0 rc md (t 2) (t 4) (t 5) (t 10) (t 48) (t 49) (t 53) (t 54) h := by
  rw [exec_holes [([1, 1, 0, 0, 1, 1, 1, 0], 0)] (by kernel_rfl), Jr4_2b0_h1, show (goX Try.prog cfg rc md 126 (sub (bodyOf Try.prog 4) [1, 1, 1, 1, 1, 1, 0, 1, 0, 0, 1, 1, 0, 0, 1, 1, 0, 0]) [([1, 1, 0, 0, 1, 1, 1, 0], 0)] (rndK (fun t => (t 2, t 4, t 5, t 10, t 48, t 49, t 53, t 54)))) 0 = _ from J4_2b0b0_cut rc md]
  exact Jr4_2b0_h2 rc md t h
noncomputable def J4_2b0 (rc : Rec) (md : Md) (s2 : Value) (s4 : Value) (s5 : Value) (s10 : Value) (s48 : Value) (s49 : Value) (s53 : Value) (s54 : Value) (h : Heap) : Option (((Value × Value × Value × Value × Value) × Heap) ⊕ (Exit × (Value × Value × Value × Value × Value) × Heap)) :=
  runL (fun x : (Value × Value × Value × Value × Value × Value × Value × Value) × Heap => Jr4_2b0 rc md x.1.1 x.1.2.1 x.1.2.2.1 x.1.2.2.2.1 x.1.2.2.2.2.1 x.1.2.2.2.2.2.1 x.1.2.2.2.2.2.2.1 x.1.2.2.2.2.2.2.2 x.2) (fun e (s : Value × Value × Value × Value × Value × Value × Value × Value) h => Jk4_2b0 rc md e s.1 s.2.1 s.2.2.1 s.2.2.2.1 s.2.2.2.2.1 s.2.2.2.2.2.1 s.2.2.2.2.2.2.1 s.2.2.2.2.2.2.2 h) (s2, s4, s5, s10, s48, s49, s53, s54) h
theorem J4_2b0_step (rc : Rec) (md : Md) (s2 : Value) (s4 : Value) (s5 : Value) (s10 : Value) (s48 : Value) (s49 : Value) (s53 : Value) (s54 : Value) (h : Heap) : J4_2b0 rc md s2 s4 s5 s10 s48 s49 s53 s54 h = (Jr4_2b0 rc md s2 s4 s5 s10 s48 s49 s53 s54 h).bind fun x => match x with
    | .inl (s, h) => J4_2b0 rc md s.1 s.2.1 s.2.2.1 s.2.2.2.1 s.2.2.2.2.1 s.2.2.2.2.2.1 s.2.2.2.2.2.2.1 s.2.2.2.2.2.2.2 h
    | .inr (e, s, h) => Jk4_2b0 rc md e s.1 s.2.1 s.2.2.1 s.2.2.2.1 s.2.2.2.2.1 s.2.2.2.2.2.1 s.2.2.2.2.2.2.1 s.2.2.2.2.2.2.2 h := by
  unfold J4_2b0
  rw [runL_eq]
  refine congrArg (Option.bind _) (funext fun x => ?_)
  rcases x with ⟨s, h⟩ | ⟨e, s, h⟩ <;> rfl
theorem J4_2b0_cut (rc : Rec) (md : Md) : cut Try.prog cfg rc md 126 (sub (bodyOf Try.prog 4) [1, 1, 1, 1, 1, 1, 0, 1, 0, 0]) [1, 1, 0, 0, 1, 1, 0] (rndK (fun t => (t 2, t 4, t 5, t 48, t 49))) = fun t h => J4_2b0 rc md (t 2) (t 4) (t 5) (t 10) (t 48) (t 49) (t 53) (t 54) h := by
  funext t h
  have e : sub (sub (bodyOf Try.prog 4) [1, 1, 1, 1, 1, 1, 0, 1, 0, 0]) [1, 1, 0, 0, 1, 1, 0] = .loop (sub (bodyOf Try.prog 4) [1, 1, 1, 1, 1, 1, 0, 1, 0, 0, 1, 1, 0, 0, 1, 1, 0, 0]) := by kernel_rfl
  unfold cut
  rw [e]
  exact loop_eq (by kernel_rfl) (fun t => (t 2, t 4, t 5, t 10, t 48, t 49, t 53, t 54)) (fun x : (Value × Value × Value × Value × Value × Value × Value × Value) × Heap => Jr4_2b0 rc md x.1.1 x.1.2.1 x.1.2.2.1 x.1.2.2.2.1 x.1.2.2.2.2.1 x.1.2.2.2.2.2.1 x.1.2.2.2.2.2.2.1 x.1.2.2.2.2.2.2.2 x.2) (fun t h => Jr4_2b0_at rc md t h) (fun e (s : Value × Value × Value × Value × Value × Value × Value × Value) h => Jk4_2b0 rc md e s.1 s.2.1 s.2.2.1 s.2.2.2.1 s.2.2.2.2.1 s.2.2.2.2.2.1 s.2.2.2.2.2.2.1 s.2.2.2.2.2.2.2 h) (fun e t h => Jk4_2b0_at rc md e t h) t h
/-- a round -/
noncomputable def Jr4_2 (rc : Rec) (md : Md) (s2 : Value) (s4 : Value) (s5 : Value) (s48 : Value) (s49 : Value) (h : Heap) : Option (((Value × Value × Value × Value × Value) × Heap) ⊕ (Exit × (Value × Value × Value × Value × Value) × Heap)) :=
  aBin Try.prog .lss 3 s49 s48 fun v1 =>
  cBn v1 fun b2 =>
  bif b2 then
    ldN 3 s2 h fun v3 =>
    cl (rc md 12 [v3] h) fun v4 h5 =>
    cIn .i64 v4 fun n6 =>
    J4_2b0 rc md s2 s4 s5 s49 s48 s49 (.int .i64 n6) (.int .i64 0) h5
  else
    some (.inr ((.exit 2), (s2, s4, s5, s48, s49), h))
noncomputable def Jr4_2H (rc : Rec) (md : Md) (X0 : T → Heap → Option (((Value × Value × Value × Value × Value) × Heap) ⊕ (Exit × (Value × Value × Value × Value × Value) × Heap))) (t : T) (h : Heap) : Option (((Value × Value × Value × Value × Value) × Heap) ⊕ (Exit × (Value × Value × Value × Value × Value) × Heap)) :=
  aBin Try.prog .lss 3 (t 49) (t 48) fun v1 =>
  cBn v1 fun b2 =>
  bif b2 then
    ldN 3 (t 2) h fun v3 =>
    cl (rc md 12 [v3] h) fun v4 h5 =>
    cIn .i64 v4 fun n6 =>
    X0 (upd (upd (upd (upd (upd (upd t 50 v1) 51 (t 49)) 10 (t 49)) 52 v3) 53 (.int .i64 n6)) 54 (.int .i64 0)) h5
  else
    some (.inr ((.exit 2), ((t 2), (t 4), (t 5), (t 48), (t 49)), h))
theorem Jr4_2_h1 (rc : Rec) (md : Md) (X : Nat → T → Heap → Option (((Value × Value × Value × Value × Value) × Heap) ⊕ (Exit × (Value × Value × Value × Value × Value) × Heap))) (t : T) (h : Heap) : execG Try.prog cfg X rc md 126 (replS (sub (bodyOf Try.prog 4) [1, 1, 1, 1, 1, 1, 0, 1, 0, 0]) [([1, 1, 0, 0, 1, 1, 0], 0)]) (rndK (fun t => (t 2, t 4, t 5, t 48, t 49))) t h = Jr4_2H rc md (X 0) t h := by kernel_rfl
theorem Jr4_2_h2 (rc : Rec) (md : Md) (t : T) (h : Heap) : Jr4_2H rc md (fun t h => J4_2b0 rc md (t 2) (t 4) (t 5) (t 10) (t 48) (t 49) (t 53) (t 54) h) t h = Jr4_2 rc md (t 2) (t 4) (t 5) (t 48) (t 49) h := by unfold Jr4_2H Jr4_2; kernel_rfl
theorem Jr4_2_at (rc : Rec) (md : Md) (t : T) (h : Heap) : exec Try.prog cfg rc md 126 (sub (bodyOf Try.prog 4) [1, 1, 1, 1, 1, 1, 0, 1, 0, 0]) (rndK (fun t => (t 2, t 4, t 5, t 48, t 49))) t h = Jr4_2 rc md (t 2) (t 4) (t 5) (t 48) (t 49) h := by
  rw [exec_holes [([1, 1, 0, 0, 1, 1, 0], 0)] (by kernel_rfl), Jr4_2_h1, show (goX Try.prog cfg rc md 126 (sub (bodyOf Try.prog 4) [1, 1, 1, 1, 1, 1, 0, 1, 0, 0]) [([1, 1, 0, 0, 1, 1, 0], 0)] (rndK (fun t => (t 2, t 4, t 5, t 48, t 49)))) 0 = _ from J4_2b0_cut rc md]
  exact Jr4_2_h2 rc md t h
noncomputable def J4_2 (rc : Rec) (md : Md) (h0 : Heap) (s2 : Value) (s4 : Value) (s5 : Value) (s48 : Value) (s49 : Value) (h : Heap) : Option (Value × Heap) :=
  runL (fun x : (Value × Value × Value × Value × Value) × Heap => Jr4_2 rc md x.1.1 x.1.2.1 x.1.2.2.1 x.1.2.2.2.1 x.1.2.2.2.2 x.2) (fun e (s : Value × Value × Value × Value × Value) h => Jk4_2 rc md h0 e s.1 s.2.1 s.2.2.1 s.2.2.2.1 s.2.2.2.2 h) (s2, s4, s5, s48, s49) h
theorem J4_2_step (rc : Rec) (md : Md) (h0 : Heap) (s2 : Value) (s4 : Value) (s5 : Value) (s48 : Value) (s49 : Value) (h : Heap) : J4_2 rc md h0 s2 s4 s5 s48 s49 h = (Jr4_2 rc md s2 s4 s5 s48 s49 h).bind fun x => match x with
    | .inl (s, h) => J4_2 rc md h0 s.1 s.2.1 s.2.2.1 s.2.2.2.1 s.2.2.2.2 h
    | .inr (e, s, h) => Jk4_2 rc md h0 e s.1 s.2.1 s.2.2.1 s.2.2.2.1 s.2.2.2.2 h := by
  unfold J4_2
  rw [runL_eq]
  refine congrArg (Option.bind _) (funext fun x => ?_)
  rcases x with ⟨s, h⟩ | ⟨e, s, h⟩ <;> rfl
theorem J4_2_cut (rc : Rec) (md : Md) (h0 : Heap) : cut Try.prog cfg rc md 126 (bodyOf Try.prog 4) [1, 1, 1, 1, 1, 1, 0, 1, 0] (retK Try.prog cfg 4 (rsOf Try.prog 4) h0) = fun t h => J4_2 rc md h0 (t 2) (t 4) (t 5) (t 48) (t 49) h := by
  funext t h
  have e : sub (bodyOf Try.prog 4) [1, 1, 1, 1, 1, 1, 0, 1, 0] = .loop (sub (bodyOf Try.prog 4) [1, 1, 1, 1, 1, 1, 0, 1, 0, 0]) := by kernel_rfl
  unfold cut
  rw [e]
  exact loop_eq (by kernel_rfl) (fun t => (t 2, t 4, t 5, t 48, t 49)) (fun x : (Value × Value × Value × Value × Value) × Heap => Jr4_2 rc md x.1.1 x.1.2.1 x.1.2.2.1 x.1.2.2.2.1 x.1.2.2.2.2 x.2) (fun t h => Jr4_2_at rc md t h) (fun e (s : Value × Value × Value × Value × Value) h => Jk4_2 rc md h0 e s.1 s.2.1 s.2.2.1 s.2.2.2.1 s.2.2.2.2 h) (fun e t h => Jk4_2_at rc md h0 e t h) t h
noncomputable def J4_1 (rc : Rec) (md : Md) (h0 : Heap) (s2 : Value) (s4 : Value) (s5 : Value) (h : Heap) : Option (Value × Heap) :=
  fA 0 s2 fun v1 =>
  ld1 v1 h fun v2 =>
  cIn .i64 v2 fun n3 =>
  J4_2 rc md h0 s2 s4 s5 (.int .i64 n3) (.int .i64 0) h
noncomputable def J4_1H (rc : Rec) (md : Md) (h0 : Heap) (X1 : T → Heap → Option (Value × Heap)) (t : T) (h : Heap) : Option (Value × Heap) :=
  fA 0 (t 2) fun v1 =>
  ld1 v1 h fun v2 =>
  cIn .i64 v2 fun n3 =>
  X1 (upd (upd (upd t 47 v1) 48 (.int .i64 n3)) 49 (.int .i64 0)) h
theorem J4_1_h1 (rc : Rec) (md : Md) (h0 : Heap) (X : Nat → T → Heap → Option (Value × Heap)) (t : T) (h : Heap) : execG Try.prog cfg X rc md 126 (sub (replS (bodyOf Try.prog 4) [([1, 1, 1, 1, 1, 0, 1, 0], 0), ([1, 1, 1, 1, 1, 1, 0, 1, 0], 1)]) [1, 1, 1, 1, 1, 1]) (kAtG Try.prog cfg X rc md 126 (replS (bodyOf Try.prog 4) [([1, 1, 1, 1, 1, 0, 1, 0], 0), ([1, 1, 1, 1, 1, 1, 0, 1, 0], 1)]) [1, 1, 1, 1, 1, 1] (retK Try.prog cfg 4 (rsOf Try.prog 4) h0)) t h = J4_1H rc md h0 (X 1) t h := by kernel_rfl
theorem J4_1_h2 (rc : Rec) (md : Md) (h0 : Heap) (t : T) (h : Heap) : J4_1H rc md h0 (fun t h => J4_2 rc md h0 (t 2) (t 4) (t 5) (t 48) (t 49) h) t h = J4_1 rc md h0 (t 2) (t 4) (t 5) h := by (unfold J4_1H J4_1; kernel_rfl)
theorem J4_1_at (rc : Rec) (md : Md) (h0 : Heap) (t : T) (h : Heap) : cut Try.prog cfg rc md 126 (bodyOf Try.prog 4) [1, 1, 1, 1, 1, 1] (retK Try.prog cfg 4 (rsOf Try.prog 4) h0) t h = J4_1 rc md h0 (t 2) (t 4) (t 5) h := by
  rw [cut_holes [([1, 1, 1, 1, 1, 0, 1, 0], 0), ([1, 1, 1, 1, 1, 1, 0, 1, 0], 1)] [1, 1, 1, 1, 1, 1] (by kernel_rfl), J4_1_h1, show (goX Try.prog cfg rc md 126 (bodyOf Try.prog 4) [([1, 1, 1, 1, 1, 0, 1, 0], 0), ([1, 1, 1, 1, 1, 1, 0, 1, 0], 1)] (retK Try.prog cfg 4 (rsOf Try.prog 4) h0)) 1 = _ from J4_2_cut rc md h0]
  exact J4_1_h2 rc md h0 t h
theorem J4_1_cut (rc : Rec) (md : Md) (h0 : Heap) : cut Try.prog cfg rc md 126 (bodyOf Try.prog 4) [1, 1, 1, 1, 1, 1] (retK Try.prog cfg 4 (rsOf Try.prog 4) h0) = fun t h => J4_1 rc md h0 (t 2) (t 4) (t 5) h := funext fun t => funext fun h => J4_1_at rc md h0 t h
noncomputable def Jk4_0 (rc : Rec) (md : Md) (h0 : Heap) (e : Exit) (s2 : Value) (s4 : Value) (s5 : Value) (s7 : Value) (s37 : Value) (s38 : Value) (s39 : Value) (h : Heap) : Option (Value × Heap) :=
  match e with
  | .normal =>
    J4_1 rc md h0 s2 s4 s5 h
  | .exit j =>
    bif Nat.beq j 0 then
      J4_1 rc md h0 s2 s4 s5 h
    else
      none
  | .ret =>
    fin1 h0 s4 h
  | .goto l => none
  | .panic ps => none
  | .outgrown => none
noncomputable def Jk4_0H (rc : Rec) (md : Md) (h0 : Heap) (X2 : T → Heap → Option (Value × Heap)) (e : Exit) (t : T) (h : Heap) : Option (Value × Heap) :=
  match e with
  | .normal =>
    X2 t h
  | .exit j =>
    bif Nat.beq j 0 then
      X2 t h
    else
      none
  | .ret =>
    fin1 h0 (t 4) h
  | .goto l => none
  | .panic ps => none
  | .outgrown => none
theorem Jk4_0_h1 (rc : Rec) (md : Md) (h0 : Heap) (X : Nat → T → Heap → Option (Value × Heap)) (e : Exit) (t : T) (h : Heap) : kAtG Try.prog cfg X rc md 126 (replS (bodyOf Try.prog 4) [([1, 1, 1, 1, 1, 1, 0, 1, 0], 1), ([1, 1, 1, 1, 1, 1], 2)]) [1, 1, 1, 1, 1, 0, 1, 0] (retK Try.prog cfg 4 (rsOf Try.prog 4) h0) e t h = Jk4_0H rc md h0 (X 2) e t h := by cases e <;> kernel_rfl
theorem Jk4_0_h2 (rc : Rec) (md : Md) (h0 : Heap) (e : Exit) (t : T) (h : Heap) : Jk4_0H rc md h0 (fun t h => J4_1 rc md h0 (t 2) (t 4) (t 5) h) e t h = Jk4_0 rc md h0 e (t 2) (t 4) (t 5) (t 7) (t 37) (t 38) (t 39) h := by cases e <;> (unfold Jk4_0H Jk4_0; kernel_rfl)
theorem Jk4_0_at (rc : Rec) (md : Md) (h0 : Heap) (e : Exit) (t : T) (h : Heap) : kAt Try.prog cfg rc md 126 (bodyOf Try.prog 4) [1, 1, 1, 1, 1, 0, 1, 0] (retK Try.prog cfg 4 (rsOf Try.prog 4) h0) e t h = Jk4_0 rc md h0 e (t 2) (t 4) (t 5) (t 7) (t 37) (t 38) (t 39) h := by
  rw [kAt_holes [([1, 1, 1, 1, 1, 1, 0, 1, 0], 1), ([1, 1, 1, 1, 1, 1], 2)] [1, 1, 1, 1, 1, 0, 1, 0] (by kernel_rfl), Jk4_0_h1, show (goX Try.prog cfg rc md 126 (bodyOf Try.prog 4) [([1, 1, 1, 1, 1, 1, 0, 1, 0], 1), ([1, 1, 1, 1, 1, 1], 2)] (retK Try.prog cfg 4 (rsOf Try.prog 4) h0)) 2 = _ from J4_1_cut rc md h0]
  exact Jk4_0_h2 rc md h0 e t h
/-- a round -/
noncomputable def Jr4_0 (rc : Rec) (md : Md) (s2 : Value) (s4 : Value) (s5 : Value) (s7 : Value) (s37 : Value) (s38 : Value) (s39 : Value) (h : Heap) : Option (((Value × Value × Value × Value × Value × Value × Value) × Heap) ⊕ (Exit × (Value × Value × Value × Value × Value × Value × Value) × Heap)) :=
  aBin Try.prog .lss 3 s39 s38 fun v1 =>
  cBn v1 fun b2 =>
  bif b2 then
    ixSV 5 s37 s39 fun v3 =>
    ldN 5 v3 h fun v4 =>
    let h5 : Heap := h ++ [.own [(.int .i64 0), (.int .i64 0), (.int .i64 0), (.int .i64 0), (.int .i64 0)]]
    st md 5 (.pointer (some ⟨h.length, 0, none⟩)) v4 h5 fun h6 =>
    ldN 5 (.pointer (some ⟨h.length, 0, none⟩)) h6 fun v7 =>
    cl (rc md 10 [s7, v7] h6) fun v8 h9 =>
    aBin Try.prog .add 3 s39 (.int .i64 1) fun v10 =>
    some (.inl ((s2, s4, s5, s7, s37, s38, v10), h9))
  else
    some (.inr ((.exit 0), (s2, s4, s5, s7, s37, s38, s39), h))
theorem Jr4_0_at (rc : Rec) (md : Md) (t : T) (h : Heap) : exec Try.prog cfg rc md 126 (sub (bodyOf Try.prog 4) [1, 1, 1, 1, 1, 0, 1, 0, 0]) (rndK (fun t => (t 2, t 4, t 5, t 7, t 37, t 38, t 39))) t h = Jr4_0 rc md (t 2) (t 4) (t 5) (t 7) (t 37) (t 38) (t 39) h := by kernel_rfl
noncomputable def J4_0 (rc : Rec) (md : Md) (h0 : Heap) (s2 : Value) (s4 : Value) (s5 : Value) (s7 : Value) (s37 : Value) (s38 : Value) (s39 : Value) (h : Heap) : Option (Value × Heap) :=
  runL (fun x : (Value × Value × Value × Value × Value × Value × Value) × Heap => Jr4_0 rc md x.1.1 x.1.2.1 x.1.2.2.1 x.1.2.2.2.1 x.1.2.2.2.2.1 x.1.2.2.2.2.2.1 x.1.2.2.2.2.2.2 x.2) (fun e (s : Value × Value × Value × Value × Value × Value × Value) h => Jk4_0 rc md h0 e s.1 s.2.1 s.2.2.1 s.2.2.2.1 s.2.2.2.2.1 s.2.2.2.2.2.1 s.2.2.2.2.2.2 h) (s2, s4, s5, s7, s37, s38, s39) h
theorem J4_0_step (rc : Rec) (md : Md) (h0 : Heap) (s2 : Value) (s4 : Value) (s5 : Value) (s7 : Value) (s37 : Value) (s38 : Value) (s39 : Value) (h : Heap) : J4_0 rc md h0 s2 s4 s5 s7 s37 s38 s39 h = (Jr4_0 rc md s2 s4 s5 s7 s37 s38 s39 h).bind fun x => match x with
    | .inl (s, h) => J4_0 rc md h0 s.1 s.2.1 s.2.2.1 s.2.2.2.1 s.2.2.2.2.1 s.2.2.2.2.2.1 s.2.2.2.2.2.2 h
    | .inr (e, s, h) => Jk4_0 rc md h0 e s.1 s.2.1 s.2.2.1 s.2.2.2.1 s.2.2.2.2.1 s.2.2.2.2.2.1 s.2.2.2.2.2.2 h := by
  unfold J4_0
  rw [runL_eq]
  refine congrArg (Option.bind _) (funext fun x => ?_)
  rcases x with ⟨s, h⟩ | ⟨e, s, h⟩ <;> rfl
theorem J4_0_cut (rc : Rec) (md : Md) (h0 : Heap) : cut Try.prog cfg rc md 126 (bodyOf Try.prog 4) [1, 1, 1, 1, 1, 0, 1, 0] (retK Try.prog cfg 4 (rsOf Try.prog 4) h0) = fun t h => J4_0 rc md h0 (t 2) (t 4) (t 5) (t 7) (t 37) (t 38) (t 39) h := by
  funext t h
  have e : sub (bodyOf Try.prog 4) [1, 1, 1, 1, 1, 0, 1, 0] = .loop (sub (bodyOf Try.prog 4) [1, 1, 1, 1, 1, 0, 1, 0, 0]) := by kernel_rfl
  unfold cut
  rw [e]
  exact loop_eq (by kernel_rfl) (fun t => (t 2, t 4, t 5, t 7, t 37, t 38, t 39)) (fun x : (Value × Value × Value × Value × Value × Value × Value) × Heap => Jr4_0 rc md x.1.1 x.1.2.1 x.1.2.2.1 x.1.2.2.2.1 x.1.2.2.2.2.1 x.1.2.2.2.2.2.1 x.1.2.2.2.2.2.2 x.2) (fun t h => Jr4_0_at rc md t h) (fun e (s : Value × Value × Value × Value × Value × Value × Value) h => Jk4_0 rc md h0 e s.1 s.2.1 s.2.2.1 s.2.2.2.1 s.2.2.2.2.1 s.2.2.2.2.2.1 s.2.2.2.2.2.2 h) (fun e t h => Jk4_0_at rc md h0 e t h) t h
noncomputable def F4 (rc : Rec) (md : Md) (a0_0 : Int) (a0_1 : Int) (a0_2 : Int) (a1 : Value) (h0 : Heap) : Option (Value × Heap) :=
  let h1 : Heap := h0 ++ [.own [(.int .i64 a0_0), (.int .i64 a0_1), (.int .i64 a0_2)]]
  ldN 3 (.pointer (some ⟨h0.length, 0, none⟩)) h1 fun v2 =>
  cl (rc md 7 [v2] h1) fun v3 h4 =>
  cBn v3 fun b5 =>
  (bif wantV (.bool (!b5)) false then
  some (a1, h4)
  else some (undef, h4)).bind fun p6 =>
  (bif wantV (.bool (!b5)) false then
  lenS p6.1 fun v7 =>
  cIn .i64 v7 fun n8 =>
  some ((.int .i64 n8), p6.2)
  else some (undef, p6.2)).bind fun p9 =>
  (bif wantV (.bool (!b5)) false then
  aBin Try.prog .gtr 3 p9.1 (.int .i64 60) fun v10 =>
  some (v10, p9.2)
  else some (undef, p9.2)).bind fun p11 =>
  cBn (bif !b5 then (.bool true) else p11.1) fun b12 =>
  bif b12 then
    cl (rc md 8 [] p11.2) fun v13 h14 =>
    cBn v13 fun b15 =>
    some ((.bool b15), List.take h0.length h14)
  else
    ldN 3 (.pointer (some ⟨h0.length, 0, none⟩)) p11.2 fun v16 =>
    cl (rc md 9 [v16] p11.2) fun v17 h18 =>
    exT v17 0 fun v19 =>
    exT v17 1 fun v20 =>
    cBn v20 fun b21 =>
    let h22 : Heap := h18 ++ [.own [(.int .i64 0), (.int .i64 0), (.int .i64 0), .nilIface, (.int .i64 0), (.int .i64 0), (.int .i64 0), (.int .i64 0), (.int .i64 0), .nilIface]]
    st md 10 (.pointer (some ⟨h18.length, 0, none⟩)) v19 h22 fun h23 =>
    bif !b21 then
      some ((.bool false), List.take h0.length h23)
    else
      ldN 3 (.pointer (some ⟨h0.length, 0, none⟩)) h23 fun v24 =>
      ldN 10 (.pointer (some ⟨h18.length, 0, none⟩)) h23 fun v25 =>
      aMakeMap Try.prog 42 h23 fun v26 h27 =>
      aMakeMap Try.prog 43 h27 fun v28 h29 =>
      aBuild Try.prog 45 [(0, v24), (1, v25), (2, v26), (3, v28)] fun v30 =>
      let h31 : Heap := h29 ++ [.own v30.cells.toList]
      lenS a1 fun v32 =>
      cIn .i64 v32 fun n33 =>
      J4_0 rc md h0 (.pointer (some ⟨h0.length, 0, none⟩)) (.bool false) (.pointer (some ⟨h18.length, 0, none⟩)) (.pointer (some ⟨h29.length, 0, none⟩)) a1 (.int .i64 n33) (.int .i64 0) h31
noncomputable def F4H (rc : Rec) (md : Md) (X0 : T → Heap → Option (Value × Heap)) (a0_0 : Int) (a0_1 : Int) (a0_2 : Int) (a1 : Value) (h0 : Heap) : Option (Value × Heap) :=
  let h1 : Heap := h0 ++ [.own [(.int .i64 a0_0), (.int .i64 a0_1), (.int .i64 a0_2)]]
  ldN 3 (.pointer (some ⟨h0.length, 0, none⟩)) h1 fun v2 =>
  cl (rc md 7 [v2] h1) fun v3 h4 =>
  cBn v3 fun b5 =>
  (bif wantV (.bool (!b5)) false then
  some (a1, h4)
  else some (undef, h4)).bind fun p6 =>
  (bif wantV (.bool (!b5)) false then
  lenS p6.1 fun v7 =>
  cIn .i64 v7 fun n8 =>
  some ((.int .i64 n8), p6.2)
  else some (undef, p6.2)).bind fun p9 =>
  (bif wantV (.bool (!b5)) false then
  aBin Try.prog .gtr 3 p9.1 (.int .i64 60) fun v10 =>
  some (v10, p9.2)
  else some (undef, p9.2)).bind fun p11 =>
  cBn (bif !b5 then (.bool true) else p11.1) fun b12 =>
  bif b12 then
    cl (rc md 8 [] p11.2) fun v13 h14 =>
    cBn v13 fun b15 =>
    some ((.bool b15), List.take h0.length h14)
  else
    ldN 3 (.pointer (some ⟨h0.length, 0, none⟩)) p11.2 fun v16 =>
    cl (rc md 9 [v16] p11.2) fun v17 h18 =>
    exT v17 0 fun v19 =>
    exT v17 1 fun v20 =>
    cBn v20 fun b21 =>
    let h22 : Heap := h18 ++ [.own [(.int .i64 0), (.int .i64 0), (.int .i64 0), .nilIface, (.int .i64 0), (.int .i64 0), (.int .i64 0), (.int .i64 0), (.int .i64 0), .nilIface]]
    st md 10 (.pointer (some ⟨h18.length, 0, none⟩)) v19 h22 fun h23 =>
    bif !b21 then
      some ((.bool false), List.take h0.length h23)
    else
      ldN 3 (.pointer (some ⟨h0.length, 0, none⟩)) h23 fun v24 =>
      ldN 10 (.pointer (some ⟨h18.length, 0, none⟩)) h23 fun v25 =>
      aMakeMap Try.prog 42 h23 fun v26 h27 =>
      aMakeMap Try.prog 43 h27 fun v28 h29 =>
      aBuild Try.prog 45 [(0, v24), (1, v25), (2, v26), (3, v28)] fun v30 =>
      let h31 : Heap := h29 ++ [.own v30.cells.toList]
      lenS a1 fun v32 =>
      cIn .i64 v32 fun n33 =>
      X0 (upd (upd (upd (upd (upd (upd (upd (upd (upd (upd (upd (upd (upd (upd (upd (upd (upd (upd (upd (upd (upd (upd (upd (upd (upd (upd (upd (upd (upd (args0 [(.agg #[(.int .i64 a0_0), (.int .i64 a0_1), (.int .i64 a0_2)]), a1]) 2 (.pointer (some ⟨h0.length, 0, none⟩))) 4 (.bool false)) 15 v2) 16 (.bool b5)) 17 (.bool (!b5))) 18 (.bool (!b5))) 19 p6.1) 20 p9.1) 21 p11.1) 22 (.bool b12)) 25 v16) 26 v17) 24 v17) 27 v19) 28 (.bool b21)) 5 (.pointer (some ⟨h18.length, 0, none⟩))) 6 (.bool b21)) 29 (.bool b21)) 30 (.bool (!b21))) 31 v24) 32 v25) 33 v26) 34 v28) 35 v30) 36 (.pointer (some ⟨h29.length, 0, none⟩))) 7 (.pointer (some ⟨h29.length, 0, none⟩))) 37 a1) 38 (.int .i64 n33)) 39 (.int .i64 0)) h31
theorem F4_h0 (rc : Rec) (md : Md) (a0_0 : Int) (a0_1 : Int) (a0_2 : Int) (a1 : Value) (h0 : Heap) : callStep0 Try.prog cfg rc md 4 [(.agg #[(.int .i64 a0_0), (.int .i64 a0_1), (.int .i64 a0_2)]), a1] h0 = exec Try.prog cfg rc ⟨md.ro, h0.length⟩ 126 (bodyOf Try.prog 4) (retK Try.prog cfg 4 (rsOf Try.prog 4) h0) (args0 [(.agg #[(.int .i64 a0_0), (.int .i64 a0_1), (.int .i64 a0_2)]), a1]) h0 := callStep0_run (by kernel_rfl) (by kernel_rfl) (by kernel_rfl)
theorem F4_h1 (rc : Rec) (md : Md) (X : Nat → T → Heap → Option (Value × Heap)) (a0_0 : Int) (a0_1 : Int) (a0_2 : Int) (a1 : Value) (h0 : Heap) : execG Try.prog cfg X rc md 126 (replS (bodyOf Try.prog 4) [([1, 1, 1, 1, 1, 0, 1, 0], 0), ([1, 1, 1, 1, 1, 1, 0, 1, 0], 1), ([1, 1, 1, 1, 1, 1], 2)]) (retK Try.prog cfg 4 (rsOf Try.prog 4) h0) (args0 [(.agg #[(.int .i64 a0_0), (.int .i64 a0_1), (.int .i64 a0_2)]), a1]) h0 = F4H rc md (X 0) a0_0 a0_1 a0_2 a1 h0 := by kernel_rfl
theorem F4_h2 (rc : Rec) (md : Md) (a0_0 : Int) (a0_1 : Int) (a0_2 : Int) (a1 : Value) (h0 : Heap) : F4H rc md (fun t h => J4_0 rc md h0 (t 2) (t 4) (t 5) (t 7) (t 37) (t 38) (t 39) h) a0_0 a0_1 a0_2 a1 h0 = F4 rc md a0_0 a0_1 a0_2 a1 h0 := by unfold F4H F4; kernel_rfl
theorem F4_eq0 (rc : Rec) (md : Md) (a0_0 : Int) (a0_1 : Int) (a0_2 : Int) (a1 : Value) (h0 : Heap) : callStep0 Try.prog cfg rc md 4 [(.agg #[(.int .i64 a0_0), (.int .i64 a0_1), (.int .i64 a0_2)]), a1] h0 = F4 rc ⟨md.ro, h0.length⟩ a0_0 a0_1 a0_2 a1 h0 := by
  rw [F4_h0, exec_holes [([1, 1, 1, 1, 1, 0, 1, 0], 0), ([1, 1, 1, 1, 1, 1, 0, 1, 0], 1), ([1, 1, 1, 1, 1, 1], 2)] (by kernel_rfl), F4_h1, show (goX Try.prog cfg rc ⟨md.ro, h0.length⟩ 126 (bodyOf Try.prog 4) [([1, 1, 1, 1, 1, 0, 1, 0], 0), ([1, 1, 1, 1, 1, 1, 0, 1, 0], 1), ([1, 1, 1, 1, 1, 1], 2)] (retK Try.prog cfg 4 (rsOf Try.prog 4) h0)) 0 = _ from J4_0_cut rc ⟨md.ro, h0.length⟩ h0]
  exact F4_h2 rc _ a0_0 a0_1 a0_2 a1 h0
theorem F4_eq (rc : Rec) (md : Md) (a0_0 : Int) (a0_1 : Int) (a0_2 : Int) (a1 : Value) (h0 : Heap) : callStep Try.prog cfg rc md 4 [(.agg #[(.int .i64 a0_0), (.int .i64 a0_1), (.int .i64 a0_2)]), a1] h0 = F4 rc ⟨md.ro, h0.length⟩ a0_0 a0_1 a0_2 a1 h0 := (callStep_ne (by kernel_rfl)).trans (F4_eq0 rc md a0_0 a0_1 a0_2 a1 h0)

end Go.Det.E
