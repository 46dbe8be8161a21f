/- Printed functions. -/
import Derived.Test.YtibaodefgncbmaaE7
import Derived.Test.YtibaodefgncbmaaDetT
import Derived.Test.YtibaodefgncbmaaDetX
import Derived.Test.YtibaodefgncbmaaProg
set_option autoImplicit false
set_option linter.unusedVariables false
set_option linter.unusedSimpArgs false
namespace Go.Det.E
open Go.Proofs Go.Det

/-- tombolo/tombololaw12.AdjLevels -/
noncomputable def Jk6_4 (rc : Rec) (md : Md) (h0 : Heap) (e : Exit) (s4 : Value) (s7 : Value) (s116 : Value) (s117 : Value) (s118 : Value) (h : Heap) : Option (Value × Heap) :=
  match e with
  | .normal =>
    cl (rc md 8 [] h) fun v1 h2 =>
    cBn v1 fun b3 =>
    some ((.bool b3), List.take h0.length h2)
  | .exit j =>
    bif Nat.beq j 8 then
      cl (rc md 8 [] h) fun v4 h5 =>
      cBn v4 fun b6 =>
      some ((.bool b6), List.take h0.length h5)
    else
      none
  | .ret =>
    fin1 h0 s4 h
  | .goto l => none
  | .panic ps => none
  | .outgrown => none
theorem Jk6_4_at (rc : Rec) (md : Md) (h0 : Heap) (e : Exit) (t : T) (h : Heap) : kAt Try.prog cfg rc md 146 (bodyOf Try.prog 6) [1, 1, 1, 1, 1, 1, 1, 1, 0, 1, 0] (retK Try.prog cfg 6 (rsOf Try.prog 6) h0) e t h = Jk6_4 rc md h0 e (t 4) (t 7) (t 116) (t 117) (t 118) h := by cases e <;> kernel_rfl
/-- a round -/
noncomputable def Jr6_4 (rc : Rec) (md : Md) (s4 : Value) (s7 : Value) (s116 : Value) (s117 : Value) (s118 : Value) (h : Heap) : Option (((Value × Value × Value × Value × Value) × Heap) ⊕ (Exit × (Value × Value × Value × Value × Value) × Heap)) :=
  aBin Try.prog .lss 3 s118 s117 fun v1 =>
  cBn v1 fun b2 =>
  bif b2 then
    ixSV 1 s116 s118 fun v3 =>
    ld1 v3 h fun v4 =>
    cIn .i64 v4 fun n5 =>
    bif okNil Try.prog s7 then
    fA 13 s7 fun v6 =>
    ld1 v6 h fun v7 =>
    aLookup Try.prog 42 v7 s118 true h fun v8 =>
    exT v8 0 fun v9 =>
    exT v8 1 fun v10 =>
    cBn v10 fun b11 =>
    let h12 : Heap := h ++ [.own [(.int .i64 0), (.int .i64 0), (.int .i64 0), (.bool false)]]
    st md 4 (.pointer (some ⟨h.length, 0, none⟩)) v9 h12 fun h13 =>
    aBin Try.prog .neq 4 (.bool b11) (.bool (n5 == 2)) fun v14 =>
    (bif wantV v14 false then
    some ((.bool b11), h13)
    else some (undef, h13)).bind fun p15 =>
    (bif wantV v14 false then
    aUn .not p15.1 fun v16 =>
    some (v16, p15.2)
    else some (undef, p15.2)).bind fun p17 =>
    (bif wantV v14 false then
    some (p17.1, p17.2)
    else some (undef, p17.2)).bind fun p18 =>
    (bif wantV p18.1 true then
    some ((.int .i64 n5), p18.2)
    else some (undef, p18.2)).bind fun p19 =>
    (bif wantV p18.1 true then
    aBin Try.prog .neq 3 p19.1 (.int .i64 0) fun v20 =>
    some (v20, p19.2)
    else some (undef, p19.2)).bind fun p21 =>
    (bif wantV v14 false then
    cBn p18.1 fun q22 =>
    cBn (bif q22 then p21.1 else (.bool false)) fun b23 =>
    some ((.bool b23), p21.2)
    else some (undef, p21.2)).bind fun p24 =>
    cBn v14 fun q25 =>
    cBn (bif q25 then (.bool true) else p24.1) fun b26 =>
    bif b26 then
      some (.inr (.ret, ((.bool false), s7, s116, s117, s118), p24.2))
    else
      aBin Try.prog .add 3 s118 (.int .i64 1) fun v27 =>
      some (.inl ((s4, s7, s116, s117, v27), p24.2))
    else none
  else
    some (.inr ((.exit 8), (s4, s7, s116, s117, s118), h))
theorem Jr6_4_at (rc : Rec) (md : Md) (t : T) (h : Heap) : exec Try.prog cfg rc md 146 (sub (bodyOf Try.prog 6) [1, 1, 1, 1, 1, 1, 1, 1, 0, 1, 0, 0]) (rndK (fun t => (t 4, t 7, t 116, t 117, t 118))) t h = Jr6_4 rc md (t 4) (t 7) (t 116) (t 117) (t 118) h := by kernel_rfl
noncomputable def J6_4 (rc : Rec) (md : Md) (h0 : Heap) (s4 : Value) (s7 : Value) (s116 : Value) (s117 : Value) (s118 : Value) (h : Heap) : Option (Value × Heap) :=
  runL (fun x : (Value × Value × Value × Value × Value) × Heap => Jr6_4 rc md x.1.1 x.1.2.1 x.1.2.2.1 x.1.2.2.2.1 x.1.2.2.2.2 x.2) (fun e (s : Value × Value × Value × Value × Value) h => Jk6_4 rc md h0 e s.1 s.2.1 s.2.2.1 s.2.2.2.1 s.2.2.2.2 h) (s4, s7, s116, s117, s118) h
theorem J6_4_step (rc : Rec) (md : Md) (h0 : Heap) (s4 : Value) (s7 : Value) (s116 : Value) (s117 : Value) (s118 : Value) (h : Heap) : J6_4 rc md h0 s4 s7 s116 s117 s118 h = (Jr6_4 rc md s4 s7 s116 s117 s118 h).bind fun x => match x with
    | .inl (s, h) => J6_4 rc md h0 s.1 s.2.1 s.2.2.1 s.2.2.2.1 s.2.2.2.2 h
    | .inr (e, s, h) => Jk6_4 rc md h0 e s.1 s.2.1 s.2.2.1 s.2.2.2.1 s.2.2.2.2 h := by
  unfold J6_4
  rw [runL_eq]
  refine congrArg (Option.bind _) (funext fun x => ?_)
  rcases x with ⟨s, h⟩ | ⟨e, s, h⟩ <;> rfl
theorem J6_4_cut (rc : Rec) (md : Md) (h0 : Heap) : cut Try.prog cfg rc md 146 (bodyOf Try.prog 6) [1, 1, 1, 1, 1, 1, 1, 1, 0, 1, 0] (retK Try.prog cfg 6 (rsOf Try.prog 6) h0) = fun t h => J6_4 rc md h0 (t 4) (t 7) (t 116) (t 117) (t 118) h := by
  funext t h
  have e : sub (bodyOf Try.prog 6) [1, 1, 1, 1, 1, 1, 1, 1, 0, 1, 0] = .loop (sub (bodyOf Try.prog 6) [1, 1, 1, 1, 1, 1, 1, 1, 0, 1, 0, 0]) := by kernel_rfl
  unfold cut
  rw [e]
  exact loop_eq (by kernel_rfl) (fun t => (t 4, t 7, t 116, t 117, t 118)) (fun x : (Value × Value × Value × Value × Value) × Heap => Jr6_4 rc md x.1.1 x.1.2.1 x.1.2.2.1 x.1.2.2.2.1 x.1.2.2.2.2 x.2) (fun t h => Jr6_4_at rc md t h) (fun e (s : Value × Value × Value × Value × Value) h => Jk6_4 rc md h0 e s.1 s.2.1 s.2.2.1 s.2.2.2.1 s.2.2.2.2 h) (fun e t h => Jk6_4_at rc md h0 e t h) t h
noncomputable def J6_3 (rc : Rec) (md : Md) (h0 : Heap) (s4 : Value) (s7 : Value) (s10 : Value) (h : Heap) : Option (Value × Heap) :=
  lenS s10 fun v1 =>
  cIn .i64 v1 fun n2 =>
  J6_4 rc md h0 s4 s7 s10 (.int .i64 n2) (.int .i64 0) h
noncomputable def J6_3H (rc : Rec) (md : Md) (h0 : Heap) (X2 : T → Heap → Option (Value × Heap)) (t : T) (h : Heap) : Option (Value × Heap) :=
  lenS (t 10) fun v1 =>
  cIn .i64 v1 fun n2 =>
  X2 (upd (upd (upd t 116 (t 10)) 117 (.int .i64 n2)) 118 (.int .i64 0)) h
theorem J6_3_h1 (rc : Rec) (md : Md) (h0 : Heap) (X : Nat → T → Heap → Option (Value × Heap)) (t : T) (h : Heap) : execG Try.prog cfg X rc md 146 (sub (replS (bodyOf Try.prog 6) [([1, 1, 1, 1, 1, 0, 1, 0], 0), ([1, 1, 1, 1, 1, 1, 1, 0, 1, 0], 1), ([1, 1, 1, 1, 1, 1, 1, 1, 0, 1, 0], 2)]) [1, 1, 1, 1, 1, 1, 1, 1]) (kAtG Try.prog cfg X rc md 146 (replS (bodyOf Try.prog 6) [([1, 1, 1, 1, 1, 0, 1, 0], 0), ([1, 1, 1, 1, 1, 1, 1, 0, 1, 0], 1), ([1, 1, 1, 1, 1, 1, 1, 1, 0, 1, 0], 2)]) [1, 1, 1, 1, 1, 1, 1, 1] (retK Try.prog cfg 6 (rsOf Try.prog 6) h0)) t h = J6_3H rc md h0 (X 2) t h := by kernel_rfl
theorem J6_3_h2 (rc : Rec) (md : Md) (h0 : Heap) (t : T) (h : Heap) : J6_3H rc md h0 (fun t h => J6_4 rc md h0 (t 4) (t 7) (t 116) (t 117) (t 118) h) t h = J6_3 rc md h0 (t 4) (t 7) (t 10) h := by (unfold J6_3H J6_3; kernel_rfl)
theorem J6_3_at (rc : Rec) (md : Md) (h0 : Heap) (t : T) (h : Heap) : cut Try.prog cfg rc md 146 (bodyOf Try.prog 6) [1, 1, 1, 1, 1, 1, 1, 1] (retK Try.prog cfg 6 (rsOf Try.prog 6) h0) t h = J6_3 rc md h0 (t 4) (t 7) (t 10) h := by
  rw [cut_holes [([1, 1, 1, 1, 1, 0, 1, 0], 0), ([1, 1, 1, 1, 1, 1, 1, 0, 1, 0], 1), ([1, 1, 1, 1, 1, 1, 1, 1, 0, 1, 0], 2)] [1, 1, 1, 1, 1, 1, 1, 1] (by kernel_rfl), J6_3_h1, show (goX Try.prog cfg rc md 146 (bodyOf Try.prog 6) [([1, 1, 1, 1, 1, 0, 1, 0], 0), ([1, 1, 1, 1, 1, 1, 1, 0, 1, 0], 1), ([1, 1, 1, 1, 1, 1, 1, 1, 0, 1, 0], 2)] (retK Try.prog cfg 6 (rsOf Try.prog 6) h0)) 2 = _ from J6_4_cut rc md h0]
  exact J6_3_h2 rc md h0 t h
theorem J6_3_cut (rc : Rec) (md : Md) (h0 : Heap) : cut Try.prog cfg rc md 146 (bodyOf Try.prog 6) [1, 1, 1, 1, 1, 1, 1, 1] (retK Try.prog cfg 6 (rsOf Try.prog 6) h0) = fun t h => J6_3 rc md h0 (t 4) (t 7) (t 10) h := funext fun t => funext fun h => J6_3_at rc md h0 t h
noncomputable def Jk6_2 (rc : Rec) (md : Md) (h0 : Heap) (e : Exit) (s2 : Value) (s4 : Value) (s7 : Value) (s10 : Value) (s57 : Value) (s58 : Value) (h : Heap) : Option (Value × Heap) :=
  match e with
  | .normal =>
    J6_3 rc md h0 s4 s7 s10 h
  | .exit j =>
    bif Nat.beq j 2 then
      J6_3 rc md h0 s4 s7 s10 h
    else
      none
  | .ret =>
    fin1 h0 s4 h
  | .goto l => none
  | .panic ps => none
  | .outgrown => none
noncomputable def Jk6_2H (rc : Rec) (md : Md) (h0 : Heap) (X3 : T → Heap → Option (Value × Heap)) (e : Exit) (t : T) (h : Heap) : Option (Value × Heap) :=
  match e with
  | .normal =>
    X3 t h
  | .exit j =>
    bif Nat.beq j 2 then
      X3 t h
    else
      none
  | .ret =>
    fin1 h0 (t 4) h
  | .goto l => none
  | .panic ps => none
  | .outgrown => none
theorem Jk6_2_h1 (rc : Rec) (md : Md) (h0 : Heap) (X : Nat → T → Heap → Option (Value × Heap)) (e : Exit) (t : T) (h : Heap) : kAtG Try.prog cfg X rc md 146 (replS (bodyOf Try.prog 6) [([1, 1, 1, 1, 1, 0, 1, 0], 0), ([1, 1, 1, 1, 1, 1, 1, 1, 0, 1, 0], 2), ([1, 1, 1, 1, 1, 1, 1, 1], 3)]) [1, 1, 1, 1, 1, 1, 1, 0, 1, 0] (retK Try.prog cfg 6 (rsOf Try.prog 6) h0) e t h = Jk6_2H rc md h0 (X 3) e t h := by cases e <;> kernel_rfl
theorem Jk6_2_h2 (rc : Rec) (md : Md) (h0 : Heap) (e : Exit) (t : T) (h : Heap) : Jk6_2H rc md h0 (fun t h => J6_3 rc md h0 (t 4) (t 7) (t 10) h) e t h = Jk6_2 rc md h0 e (t 2) (t 4) (t 7) (t 10) (t 57) (t 58) h := by cases e <;> (unfold Jk6_2H Jk6_2; kernel_rfl)
theorem Jk6_2_at (rc : Rec) (md : Md) (h0 : Heap) (e : Exit) (t : T) (h : Heap) : kAt Try.prog cfg rc md 146 (bodyOf Try.prog 6) [1, 1, 1, 1, 1, 1, 1, 0, 1, 0] (retK Try.prog cfg 6 (rsOf Try.prog 6) h0) e t h = Jk6_2 rc md h0 e (t 2) (t 4) (t 7) (t 10) (t 57) (t 58) h := by
  rw [kAt_holes [([1, 1, 1, 1, 1, 0, 1, 0], 0), ([1, 1, 1, 1, 1, 1, 1, 1, 0, 1, 0], 2), ([1, 1, 1, 1, 1, 1, 1, 1], 3)] [1, 1, 1, 1, 1, 1, 1, 0, 1, 0] (by kernel_rfl), Jk6_2_h1, show (goX Try.prog cfg rc md 146 (bodyOf Try.prog 6) [([1, 1, 1, 1, 1, 0, 1, 0], 0), ([1, 1, 1, 1, 1, 1, 1, 1, 0, 1, 0], 2), ([1, 1, 1, 1, 1, 1, 1, 1], 3)] (retK Try.prog cfg 6 (rsOf Try.prog 6) h0)) 3 = _ from J6_3_cut rc md h0]
  exact Jk6_2_h2 rc md h0 e t h
noncomputable def Jk6_2b0 (rc : Rec) (md : Md) (e : Exit) (s2 : Value) (s4 : Value) (s7 : Value) (s10 : Value) (s11 : Value) (s57 : Value) (s58 : Value) (s62 : Value) (s63 : Value) (h : Heap) : Option (((Value × Value × Value × Value × Value × Value) × Heap) ⊕ (Exit × (Value × Value × Value × Value × Value × Value) × Heap)) :=
  match e with
  | .normal =>
    aBin Try.prog .add 3 s58 (.int .i64 1) fun v1 =>
    some (.inl ((s2, s4, s7, s10, s57, v1), h))
  | .exit j =>
    bif Nat.beq j 4 then
      aBin Try.prog .add 3 s58 (.int .i64 1) fun v2 =>
      some (.inl ((s2, s4, s7, s10, s57, v2), h))
    else
      bif Nat.beq j 3 then
        aBin Try.prog .add 3 s58 (.int .i64 1) fun v3 =>
        some (.inl ((s2, s4, s7, s10, s57, v3), h))
      else
        some (.inr ((.exit j), (s2, s4, s7, s10, s57, s58), h))
  | .ret =>
    some (.inr (.ret, (s2, s4, s7, s10, s57, s58), h))
  | .goto l => some (.inr ((.goto l), (s2, s4, s7, s10, s57, s58), h))
  | .panic ps => some (.inr ((.panic ps), (s2, s4, s7, s10, s57, s58), h))
  | .outgrown => some (.inr (.outgrown, (s2, s4, s7, s10, s57, s58), h))
theorem Jk6_2b0_at (rc : Rec) (md : Md) (e : Exit) (t : T) (h : Heap) : kAt Try.prog cfg rc md 146 (sub (bodyOf Try.prog 6) [1, 1, 1, 1, 1, 1, 1, 0, 1, 0, 0]) [1, 1, 0, 0, 1, 1, 0] (rndK (fun t => (t 2, t 4, t 7, t 10, t 57, t 58))) e t h = Jk6_2b0 rc md e (t 2) (t 4) (t 7) (t 10) (t 11) (t 57) (t 58) (t 62) (t 63) h := by cases e <;> kernel_rfl
noncomputable def Jk6_2b0b0 (rc : Rec) (md : Md) (e : Exit) (s2 : Value) (s4 : Value) (s7 : Value) (s10 : Value) (s11 : Value) (s12 : Value) (s57 : Value) (s58 : Value) (s62 : Value) (s63 : Value) (s72 : Value) (s73 : Value) (s74 : Value) (h : Heap) : Option (((Value × Value × Value × Value × Value × Value × Value × Value × Value) × Heap) ⊕ (Exit × (Value × Value × Value × Value × Value × Value × Value × Value × Value) × Heap)) :=
  match e with
  | .normal =>
    aBin Try.prog .add 3 s63 (.int .i64 1) fun v1 =>
    some (.inl ((s2, s4, s7, s10, s11, s57, s58, s62, v1), h))
  | .exit j =>
    bif Nat.beq j 6 then
      aBin Try.prog .add 3 s63 (.int .i64 1) fun v2 =>
      some (.inl ((s2, s4, s7, s10, s11, s57, s58, s62, v2), h))
    else
      bif Nat.beq j 5 then
        aBin Try.prog .add 3 s63 (.int .i64 1) fun v3 =>
        some (.inl ((s2, s4, s7, s10, s11, s57, s58, s62, v3), h))
      else
        some (.inr ((.exit j), (s2, s4, s7, s10, s11, s57, s58, s62, s63), h))
  | .ret =>
    some (.inr (.ret, (s2, s4, s7, s10, s11, s57, s58, s62, s63), h))
  | .goto l => some (.inr ((.goto l), (s2, s4, s7, s10, s11, s57, s58, s62, s63), h))
  | .panic ps => some (.inr ((.panic ps), (s2, s4, s7, s10, s11, s57, s58, s62, s63), h))
  | .outgrown => some (.inr (.outgrown, (s2, s4, s7, s10, s11, s57, s58, s62, s63), h))
theorem Jk6_2b0b0_at (rc : Rec) (md : Md) (e : Exit) (t : T) (h : Heap) : kAt Try.prog cfg rc md 146 (sub (bodyOf Try.prog 6) [1, 1, 1, 1, 1, 1, 1, 0, 1, 0, 0, 1, 1, 0, 0, 1, 1, 0, 0]) [1, 1, 0, 0, 1, 1, 0] (rndK (fun t => (t 2, t 4, t 7, t 10, t 11, t 57, t 58, t 62, t 63))) e t h = Jk6_2b0b0 rc md e (t 2) (t 4) (t 7) (t 10) (t 11) (t 12) (t 57) (t 58) (t 62) (t 63) (t 72) (t 73) (t 74) h := by cases e <;> kernel_rfl
/-- a round -/
noncomputable def Jr6_2b0b0 (rc : Rec) (md : Md) (s2 : Value) (s4 : Value) (s7 : Value) (s10 : Value) (s11 : Value) (s12 : Value) (s57 : Value) (s58 : Value) (s62 : Value) (s63 : Value) (s72 : Value) (s73 : Value) (s74 : Value) (h : Heap) : Option (((Value × Value × Value × Value × Value × Value × Value × Value × Value × Value × Value × Value × Value) × Heap) ⊕ (Exit × (Value × Value × Value × Value × Value × Value × Value × Value × Value × Value × Value × Value × Value) × Heap)) :=
  aBin Try.prog .lss 3 s74 s73 fun v1 =>
  cBn v1 fun b2 =>
  bif b2 then
    ixSV 1 s72 s74 fun v3 =>
    ld1 v3 h fun v4 =>
    cIn .i64 v4 fun n5 =>
    bif okNil Try.prog s7 then
    fA 13 s7 fun v6 =>
    ld1 v6 h fun v7 =>
    aLookup Try.prog 42 v7 (.int .i64 n5) true h fun v8 =>
    exT v8 0 fun v9 =>
    exT v8 1 fun v10 =>
    cBn v10 fun b11 =>
    let h12 : Heap := h ++ [.own [(.int .i64 0), (.int .i64 0), (.int .i64 0), (.bool false)]]
    st md 4 (.pointer (some ⟨h.length, 0, none⟩)) v9 h12 fun h13 =>
    (bif wantV (.bool (!b11)) false then
    some ((.pointer (some ⟨h.length, 2, none⟩)), h13)
    else some (undef, h13)).bind fun p14 =>
    (bif wantV (.bool (!b11)) false then
    ld1 p14.1 p14.2 fun v15 =>
    cIn .i64 v15 fun n16 =>
    some ((.int .i64 n16), p14.2)
    else some (undef, p14.2)).bind fun p17 =>
    (bif wantV (.bool (!b11)) false then
    some (s12, p17.2)
    else some (undef, p17.2)).bind fun p18 =>
    (bif wantV (.bool (!b11)) false then
    aBin Try.prog .neq 3 p17.1 p18.1 fun v19 =>
    some (v19, p18.2)
    else some (undef, p18.2)).bind fun p20 =>
    cBn (bif !b11 then (.bool true) else p20.1) fun b21 =>
    (bif wantV (.bool b21) false then
    some ((.pointer (some ⟨h.length, 0, none⟩)), p20.2)
    else some (undef, p20.2)).bind fun p22 =>
    (bif wantV (.bool b21) false then
    ld1 p22.1 p22.2 fun v23 =>
    cIn .i64 v23 fun n24 =>
    some ((.int .i64 n24), p22.2)
    else some (undef, p22.2)).bind fun p25 =>
    (bif wantV (.bool b21) false then
    some (s11, p25.2)
    else some (undef, p25.2)).bind fun p26 =>
    (bif wantV (.bool b21) false then
    aBin Try.prog .neq 3 p25.1 p26.1 fun v27 =>
    some (v27, p26.2)
    else some (undef, p26.2)).bind fun p28 =>
    (bif wantV (.bool b21) false then
    some (p28.1, p28.2)
    else some (undef, p28.2)).bind fun p29 =>
    (bif wantV p29.1 true then
    some ((.pointer (some ⟨h.length, 1, none⟩)), p29.2)
    else some (undef, p29.2)).bind fun p30 =>
    (bif wantV p29.1 true then
    ld1 p30.1 p30.2 fun v31 =>
    cIn .i64 v31 fun n32 =>
    some ((.int .i64 n32), p30.2)
    else some (undef, p30.2)).bind fun p33 =>
    (bif wantV p29.1 true then
    some (s11, p33.2)
    else some (undef, p33.2)).bind fun p34 =>
    (bif wantV p29.1 true then
    aBin Try.prog .neq 3 p33.1 p34.1 fun v35 =>
    some (v35, p34.2)
    else some (undef, p34.2)).bind fun p36 =>
    (bif wantV (.bool b21) false then
    cBn p29.1 fun q37 =>
    cBn (bif q37 then p36.1 else (.bool false)) fun b38 =>
    some ((.bool b38), p36.2)
    else some (undef, p36.2)).bind fun p39 =>
    cBn (bif b21 then (.bool true) else p39.1) fun b40 =>
    bif b40 then
      some (.inr (.ret, (s2, (.bool false), s7, s10, s11, s12, s57, s58, s62, s63, s72, s73, s74), p39.2))
    else
      ixS 1 s10 n5 fun v41 =>
      ld1 v41 p39.2 fun v42 =>
      cIn .i64 v42 fun n43 =>
      ixS 1 s10 n5 fun v44 =>
      st md 1 v44 (.int .i64 (IntKind.wrap .i64 (n43 + 1))) p39.2 fun h45 =>
      aBin Try.prog .add 3 s74 (.int .i64 1) fun v46 =>
      some (.inl ((s2, s4, s7, s10, s11, s12, s57, s58, s62, s63, s72, s73, v46), h45))
    else none
  else
    some (.inr ((.exit 6), (s2, s4, s7, s10, s11, s12, s57, s58, s62, s63, s72, s73, s74), h))
theorem Jr6_2b0b0_at (rc : Rec) (md : Md) (t : T) (h : Heap) : exec Try.prog cfg rc md 146 (sub (bodyOf Try.prog 6) [1, 1, 1, 1, 1, 1, 1, 0, 1, 0, 0, 1, 1, 0, 0, 1, 1, 0, 0, 1, 1, 0, 0, 1, 1, 0, 0]) (rndK (fun t => (t 2, t 4, t 7, t 10, t 11, t 12, t 57, t 58, t 62, t 63, t 72, t 73, t 74))) t h = Jr6_2b0b0 rc md (t 2) (t 4) (t 7) (t 10) (t 11) (t 12) (t 57) (t 58) (t 62) (t 63) (t 72) (t 73) (t 74) h := by kernel_rfl
noncomputable def J6_2b0b0 (rc : Rec) (md : Md) (s2 : Value) (s4 : Value) (s7 : Value) (s10 : Value) (s11 : Value) (s12 : Value) (s57 : Value) (s58 : Value) (s62 : Value) (s63 : Value) (s72 : Value) (s73 : Value) (s74 : Value) (h : Heap) : Option (((Value × Value × Value × Value × Value × Value × Value × Value × Value) × Heap) ⊕ (Exit × (Value × Value × Value × Value × Value × Value × Value × Value × Value) × Heap)) :=
  runL (fun x : (Value × Value × Value × Value × Value × Value × Value × Value × Value × Value × Value × Value × Value) × Heap => Jr6_2b0b0 rc md x.1.1 x.1.2.1 x.1.2.2.1 x.1.2.2.2.1 x.1.2.2.2.2.1 x.1.2.2.2.2.2.1 x.1.2.2.2.2.2.2.1 x.1.2.2.2.2.2.2.2.1 x.1.2.2.2.2.2.2.2.2.1 x.1.2.2.2.2.2.2.2.2.2.1 x.1.2.2.2.2.2.2.2.2.2.2.1 x.1.2.2.2.2.2.2.2.2.2.2.2.1 x.1.2.2.2.2.2.2.2.2.2.2.2.2 x.2) (fun e (s : Value × Value × Value × Value × Value × Value × Value × Value × Value × Value × Value × Value × Value) h => Jk6_2b0b0 rc md e s.1 s.2.1 s.2.2.1 s.2.2.2.1 s.2.2.2.2.1 s.2.2.2.2.2.1 s.2.2.2.2.2.2.1 s.2.2.2.2.2.2.2.1 s.2.2.2.2.2.2.2.2.1 s.2.2.2.2.2.2.2.2.2.1 s.2.2.2.2.2.2.2.2.2.2.1 s.2.2.2.2.2.2.2.2.2.2.2.1 s.2.2.2.2.2.2.2.2.2.2.2.2 h) (s2, s4, s7, s10, s11, s12, s57, s58, s62, s63, s72, s73, s74) h
theorem J6_2b0b0_step (rc : Rec) (md : Md) (s2 : Value) (s4 : Value) (s7 : Value) (s10 : Value) (s11 : Value) (s12 : Value) (s57 : Value) (s58 : Value) (s62 : Value) (s63 : Value) (s72 : Value) (s73 : Value) (s74 : Value) (h : Heap) : J6_2b0b0 rc md s2 s4 s7 s10 s11 s12 s57 s58 s62 s63 s72 s73 s74 h = (Jr6_2b0b0 rc md s2 s4 s7 s10 s11 s12 s57 s58 s62 s63 s72 s73 s74 h).bind fun x => match x with
    | .inl (s, h) => J6_2b0b0 rc md s.1 s.2.1 s.2.2.1 s.2.2.2.1 s.2.2.2.2.1 s.2.2.2.2.2.1 s.2.2.2.2.2.2.1 s.2.2.2.2.2.2.2.1 s.2.2.2.2.2.2.2.2.1 s.2.2.2.2.2.2.2.2.2.1 s.2.2.2.2.2.2.2.2.2.2.1 s.2.2.2.2.2.2.2.2.2.2.2.1 s.2.2.2.2.2.2.2.2.2.2.2.2 h
    | .inr (e, s, h) => Jk6_2b0b0 rc md e s.1 s.2.1 s.2.2.1 s.2.2.2.1 s.2.2.2.2.1 s.2.2.2.2.2.1 s.2.2.2.2.2.2.1 s.2.2.2.2.2.2.2.1 s.2.2.2.2.2.2.2.2.1 s.2.2.2.2.2.2.2.2.2.1 s.2.2.2.2.2.2.2.2.2.2.1 s.2.2.2.2.2.2.2.2.2.2.2.1 s.2.2.2.2.2.2.2.2.2.2.2.2 h := by
  unfold J6_2b0b0
  rw [runL_eq]
  refine congrArg (Option.bind _) (funext fun x => ?_)
  rcases x with ⟨s, h⟩ | ⟨e, s, h⟩ <;> rfl
theorem J6_2b0b0_cut (rc : Rec) (md : Md) : cut Try.prog cfg rc md 146 (sub (bodyOf Try.prog 6) [1, 1, 1, 1, 1, 1, 1, 0, 1, 0, 0, 1, 1, 0, 0, 1, 1, 0, 0]) [1, 1, 0, 0, 1, 1, 0] (rndK (fun t => (t 2, t 4, t 7, t 10, t 11, t 57, t 58, t 62, t 63))) = fun t h => J6_2b0b0 rc md (t 2) (t 4) (t 7) (t 10) (t 11) (t 12) (t 57) (t 58) (t 62) (t 63) (t 72) (t 73) (t 74) h := by
  funext t h
  have e : sub (sub (bodyOf Try.prog 6) [1, 1, 1, 1, 1, 1, 1, 0, 1, 0, 0, 1, 1, 0, 0, 1, 1, 0, 0]) [1, 1, 0, 0, 1, 1, 0] = .loop (sub (bodyOf Try.prog 6) [1, 1, 1, 1, 1, 1, 1, 0, 1, 0, 0, 1, 1, 0, 0, 1, 1, 0, 0, 1, 1, 0, 0, 1, 1, 0, 0]) := by kernel_rfl
  unfold cut
  rw [e]
  exact loop_eq (by kernel_rfl) (fun t => (t 2, t 4, t 7, t 10, t 11, t 12, t 57, t 58, t 62, t 63, t 72, t 73, t 74)) (fun x : (Value × Value × Value × Value × Value × Value × Value × Value × Value × Value × Value × Value × Value) × Heap => Jr6_2b0b0 rc md x.1.1 x.1.2.1 x.1.2.2.1 x.1.2.2.2.1 x.1.2.2.2.2.1 x.1.2.2.2.2.2.1 x.1.2.2.2.2.2.2.1 x.1.2.2.2.2.2.2.2.1 x.1.2.2.2.2.2.2.2.2.1 x.1.2.2.2.2.2.2.2.2.2.1 x.1.2.2.2.2.2.2.2.2.2.2.1 x.1.2.2.2.2.2.2.2.2.2.2.2.1 x.1.2.2.2.2.2.2.2.2.2.2.2.2 x.2) (fun t h => Jr6_2b0b0_at rc md t h) (fun e (s : Value × Value × Value × Value × Value × Value × Value × Value × Value × Value × Value × Value × Value) h => Jk6_2b0b0 rc md e s.1 s.2.1 s.2.2.1 s.2.2.2.1 s.2.2.2.2.1 s.2.2.2.2.2.1 s.2.2.2.2.2.2.1 s.2.2.2.2.2.2.2.1 s.2.2.2.2.2.2.2.2.1 s.2.2.2.2.2.2.2.2.2.1 s.2.2.2.2.2.2.2.2.2.2.1 s.2.2.2.2.2.2.2.2.2.2.2.1 s.2.2.2.2.2.2.2.2.2.2.2.2 h) (fun e t h => Jk6_2b0b0_at rc md e t h) t h
/-- a round -/
noncomputable def Jr6_2b0 (rc : Rec) (md : Md) (s2 : Value) (s4 : Value) (s7 : Value) (s10 : Value) (s11 : Value) (s57 : Value) (s58 : Value) (s62 : Value) (s63 : Value) (h : Heap) : Option (((Value × Value × Value × Value × Value × Value × Value × Value × Value) × Heap) ⊕ (Exit × (Value × Value × Value × Value × Value × Value × Value × Value × Value) × Heap)) :=
  aBin Try.prog .lss 3 s63 s62 fun v1 =>
  cBn v1 fun b2 =>
  bif b2 then
    bif okNil Try.prog s7 then
    fA 3 s7 fun v3 =>
    ldN 10 v3 h fun v4 =>
    cl (rc md 17 [v4, s11, s63] h) fun v5 h6 =>
    lenS v5 fun v7 =>
    cIn .i64 v7 fun n8 =>
    J6_2b0b0 rc md s2 s4 s7 s10 s11 s63 s57 s58 s62 s63 v5 (.int .i64 n8) (.int .i64 0) h6
    else none
  else
    some (.inr ((.exit 4), (s2, s4, s7, s10, s11, s57, s58, s62, s63), h))
noncomputable def Jr6_2b0H (rc : Rec) (md : Md) (X0 : T → Heap → Option (((Value × Value × Value × Value × Value × Value × Value × Value × Value) × Heap) ⊕ (Exit × (Value × Value × Value × Value × Value × Value × Value × Value × Value) × Heap))) (t : T) (h : Heap) : Option (((Value × Value × Value × Value × Value × Value × Value × Value × Value) × Heap) ⊕ (Exit × (Value × Value × Value × Value × Value × Value × Value × Value × Value) × Heap)) :=
  aBin Try.prog .lss 3 (t 63) (t 62) fun v1 =>
  cBn v1 fun b2 =>
  bif b2 then
    bif okNil Try.prog (t 7) then
    fA 3 (t 7) fun v3 =>
    ldN 10 v3 h fun v4 =>
    cl (rc md 17 [v4, (t 11), (t 63)] h) fun v5 h6 =>
    lenS v5 fun v7 =>
    cIn .i64 v7 fun n8 =>
    X0 (upd (upd (upd (upd (upd (upd (upd (upd (upd (upd (upd (upd t 64 v1) 65 (t 63)) 12 (t 63)) 66 (t 7)) 67 (t 7)) 68 v3) 69 v4) 70 (t 11)) 71 (t 63)) 72 v5) 73 (.int .i64 n8)) 74 (.int .i64 0)) h6
    else none
  else
    some (.inr ((.exit 4), ((t 2), (t 4), (t 7), (t 10), (t 11), (t 57), (t 58), (t 62), (t 63)), h))
theorem Jr6_2b0_h1 (rc : Rec) (md : Md) (X : Nat → T → Heap → Option (((Value × Value × Value × Value × Value × Value × Value × Value × Value) × Heap) ⊕ (Exit × (Value × Value × Value × Value × Value × Value × Value × Value × Value) × Heap))) (t : T) (h : Heap) : execG Try.prog cfg X rc md 146 (replS (sub (bodyOf Try.prog 6) [1, 1, 1, 1, 1, 1, 1, 0, 1, 0, 0, 1, 1, 0, 0, 1, 1, 0, 0]) [([1, 1, 0, 0, 1, 1, 0], 0)]) (rndK (fun t => (t 2, t 4, t 7, t 10, t 11, t 57, t 58, t 62, t 63))) t h = Jr6_2b0H rc md (X 0) t h := by kernel_rfl
theorem Jr6_2b0_h2 (rc : Rec) (md : Md) (t : T) (h : Heap) : Jr6_2b0H rc md (fun t h => J6_2b0b0 rc md (t 2) (t 4) (t 7) (t 10) (t 11) (t 12) (t 57) (t 58) (t 62) (t 63) (t 72) (t 73) (t 74) h) t h = Jr6_2b0 rc md (t 2) (t 4) (t 7) (t 10) (t 11) (t 57) (t 58) (t 62) (t 63) h := by unfold Jr6_2b0H Jr6_2b0; kernel_rfl
theorem Jr6_2b0_at (rc : Rec) (md : Md) (t : T) (h : Heap) : exec Try.prog cfg rc md 146 (sub (bodyOf Try.prog 6) [1, 1, 1, 1, 1, 1, 1, 0, 1, 0, 0, 1, 1, 0, 0, 1, 1, 0, 0]) (rndK (fun t => (t 2, t 4, t 7, t 10, t 11, t 57, t 58, t 62, t 63))) t h = Jr6_2b0 rc md (t 2) (t 4) (t 7) (t 10) (t 11) (t 57) (t 58) (t 62) (t 63) h := by
  rw [exec_holes [([1, 1, 0, 0, 1, 1, 0], 0)] (by kernel_rfl), Jr6_2b0_h1, show (goX Try.prog cfg rc md 146 (sub (bodyOf Try.prog 6) [1, 1, 1, 1, 1, 1, 1, 0, 1, 0, 0, 1, 1, 0, 0, 1, 1, 0, 0]) [([1, 1, 0, 0, 1, 1, 0], 0)] (rndK (fun t => (t 2, t 4, t 7, t 10, t 11, t 57, t 58, t 62, t 63)))) 0 = _ from J6_2b0b0_cut rc md]
  exact Jr6_2b0_h2 rc md t h
noncomputable def J6_2b0 (rc : Rec) (md : Md) (s2 : Value) (s4 : Value) (s7 : Value) (s10 : Value) (s11 : Value) (s57 : Value) (s58 : Value) (s62 : Value) (s63 : Value) (h : Heap) : Option (((Value × Value × Value × Value × Value × Value) × Heap) ⊕ (Exit × (Value × Value × Value × Value × Value × Value) × Heap)) :=
  runL (fun x : (Value × Value × Value × Value × Value × Value × Value × Value × Value) × Heap => Jr6_2b0 rc md x.1.1 x.1.2.1 x.1.2.2.1 x.1.2.2.2.1 x.1.2.2.2.2.1 x.1.2.2.2.2.2.1 x.1.2.2.2.2.2.2.1 x.1.2.2.2.2.2.2.2.1 x.1.2.2.2.2.2.2.2.2 x.2) (fun e (s : Value × Value × Value × Value × Value × Value × Value × Value × Value) h => Jk6_2b0 rc md e s.1 s.2.1 s.2.2.1 s.2.2.2.1 s.2.2.2.2.1 s.2.2.2.2.2.1 s.2.2.2.2.2.2.1 s.2.2.2.2.2.2.2.1 s.2.2.2.2.2.2.2.2 h) (s2, s4, s7, s10, s11, s57, s58, s62, s63) h
theorem J6_2b0_step (rc : Rec) (md : Md) (s2 : Value) (s4 : Value) (s7 : Value) (s10 : Value) (s11 : Value) (s57 : Value) (s58 : Value) (s62 : Value) (s63 : Value) (h : Heap) : J6_2b0 rc md s2 s4 s7 s10 s11 s57 s58 s62 s63 h = (Jr6_2b0 rc md s2 s4 s7 s10 s11 s57 s58 s62 s63 h).bind fun x => match x with
    | .inl (s, h) => J6_2b0 rc md s.1 s.2.1 s.2.2.1 s.2.2.2.1 s.2.2.2.2.1 s.2.2.2.2.2.1 s.2.2.2.2.2.2.1 s.2.2.2.2.2.2.2.1 s.2.2.2.2.2.2.2.2 h
    | .inr (e, s, h) => Jk6_2b0 rc md e s.1 s.2.1 s.2.2.1 s.2.2.2.1 s.2.2.2.2.1 s.2.2.2.2.2.1 s.2.2.2.2.2.2.1 s.2.2.2.2.2.2.2.1 s.2.2.2.2.2.2.2.2 h := by
  unfold J6_2b0
  rw [runL_eq]
  refine congrArg (Option.bind _) (funext fun x => ?_)
  rcases x with ⟨s, h⟩ | ⟨e, s, h⟩ <;> rfl
theorem J6_2b0_cut (rc : Rec) (md : Md) : cut Try.prog cfg rc md 146 (sub (bodyOf Try.prog 6) [1, 1, 1, 1, 1, 1, 1, 0, 1, 0, 0]) [1, 1, 0, 0, 1, 1, 0] (rndK (fun t => (t 2, t 4, t 7, t 10, t 57, t 58))) = fun t h => J6_2b0 rc md (t 2) (t 4) (t 7) (t 10) (t 11) (t 57) (t 58) (t 62) (t 63) h := by
  funext t h
  have e : sub (sub (bodyOf Try.prog 6) [1, 1, 1, 1, 1, 1, 1, 0, 1, 0, 0]) [1, 1, 0, 0, 1, 1, 0] = .loop (sub (bodyOf Try.prog 6) [1, 1, 1, 1, 1, 1, 1, 0, 1, 0, 0, 1, 1, 0, 0, 1, 1, 0, 0]) := by kernel_rfl
  unfold cut
  rw [e]
  exact loop_eq (by kernel_rfl) (fun t => (t 2, t 4, t 7, t 10, t 11, t 57, t 58, t 62, t 63)) (fun x : (Value × Value × Value × Value × Value × Value × Value × Value × Value) × Heap => Jr6_2b0 rc md x.1.1 x.1.2.1 x.1.2.2.1 x.1.2.2.2.1 x.1.2.2.2.2.1 x.1.2.2.2.2.2.1 x.1.2.2.2.2.2.2.1 x.1.2.2.2.2.2.2.2.1 x.1.2.2.2.2.2.2.2.2 x.2) (fun t h => Jr6_2b0_at rc md t h) (fun e (s : Value × Value × Value × Value × Value × Value × Value × Value × Value) h => Jk6_2b0 rc md e s.1 s.2.1 s.2.2.1 s.2.2.2.1 s.2.2.2.2.1 s.2.2.2.2.2.1 s.2.2.2.2.2.2.1 s.2.2.2.2.2.2.2.1 s.2.2.2.2.2.2.2.2 h) (fun e t h => Jk6_2b0_at rc md e t h) t h
/-- a round -/
noncomputable def Jr6_2 (rc : Rec) (md : Md) (s2 : Value) (s4 : Value) (s7 : Value) (s10 : Value) (s57 : Value) (s58 : Value) (h : Heap) : Option (((Value × Value × Value × Value × Value × Value) × Heap) ⊕ (Exit × (Value × Value × Value × Value × Value × Value) × Heap)) :=
  aBin Try.prog .lss 3 s58 s57 fun v1 =>
  cBn v1 fun b2 =>
  bif b2 then
    ldN 3 s2 h fun v3 =>
    cl (rc md 12 [v3] h) fun v4 h5 =>
    cIn .i64 v4 fun n6 =>
    J6_2b0 rc md s2 s4 s7 s10 s58 s57 s58 (.int .i64 n6) (.int .i64 0) h5
  else
    some (.inr ((.exit 2), (s2, s4, s7, s10, s57, s58), h))
noncomputable def Jr6_2H (rc : Rec) (md : Md) (X0 : T → Heap → Option (((Value × Value × Value × Value × Value × Value) × Heap) ⊕ (Exit × (Value × Value × Value × Value × Value × Value) × Heap))) (t : T) (h : Heap) : Option (((Value × Value × Value × Value × Value × Value) × Heap) ⊕ (Exit × (Value × Value × Value × Value × Value × Value) × Heap)) :=
  aBin Try.prog .lss 3 (t 58) (t 57) fun v1 =>
  cBn v1 fun b2 =>
  bif b2 then
    ldN 3 (t 2) h fun v3 =>
    cl (rc md 12 [v3] h) fun v4 h5 =>
    cIn .i64 v4 fun n6 =>
    X0 (upd (upd (upd (upd (upd (upd t 59 v1) 60 (t 58)) 11 (t 58)) 61 v3) 62 (.int .i64 n6)) 63 (.int .i64 0)) h5
  else
    some (.inr ((.exit 2), ((t 2), (t 4), (t 7), (t 10), (t 57), (t 58)), h))
theorem Jr6_2_h1 (rc : Rec) (md : Md) (X : Nat → T → Heap → Option (((Value × Value × Value × Value × Value × Value) × Heap) ⊕ (Exit × (Value × Value × Value × Value × Value × Value) × Heap))) (t : T) (h : Heap) : execG Try.prog cfg X rc md 146 (replS (sub (bodyOf Try.prog 6) [1, 1, 1, 1, 1, 1, 1, 0, 1, 0, 0]) [([1, 1, 0, 0, 1, 1, 0], 0)]) (rndK (fun t => (t 2, t 4, t 7, t 10, t 57, t 58))) t h = Jr6_2H rc md (X 0) t h := by kernel_rfl
theorem Jr6_2_h2 (rc : Rec) (md : Md) (t : T) (h : Heap) : Jr6_2H rc md (fun t h => J6_2b0 rc md (t 2) (t 4) (t 7) (t 10) (t 11) (t 57) (t 58) (t 62) (t 63) h) t h = Jr6_2 rc md (t 2) (t 4) (t 7) (t 10) (t 57) (t 58) h := by unfold Jr6_2H Jr6_2; kernel_rfl
theorem Jr6_2_at (rc : Rec) (md : Md) (t : T) (h : Heap) : exec Try.prog cfg rc md 146 (sub (bodyOf Try.prog 6) [1, 1, 1, 1, 1, 1, 1, 0, 1, 0, 0]) (rndK (fun t => (t 2, t 4, t 7, t 10, t 57, t 58))) t h = Jr6_2 rc md (t 2) (t 4) (t 7) (t 10) (t 57) (t 58) h := by
  rw [exec_holes [([1, 1, 0, 0, 1, 1, 0], 0)] (by kernel_rfl), Jr6_2_h1, show (goX Try.prog cfg rc md 146 (sub (bodyOf Try.prog 6) [1, 1, 1, 1, 1, 1, 1, 0, 1, 0, 0]) [([1, 1, 0, 0, 1, 1, 0], 0)] (rndK (fun t => (t 2, t 4, t 7, t 10, t 57, t 58)))) 0 = _ from J6_2b0_cut rc md]
  exact Jr6_2_h2 rc md t h
noncomputable def J6_2 (rc : Rec) (md : Md) (h0 : Heap) (s2 : Value) (s4 : Value) (s7 : Value) (s10 : Value) (s57 : Value) (s58 : Value) (h : Heap) : Option (Value × Heap) :=
  runL (fun x : (Value × Value × Value × Value × Value × Value) × Heap => Jr6_2 rc md x.1.1 x.1.2.1 x.1.2.2.1 x.1.2.2.2.1 x.1.2.2.2.2.1 x.1.2.2.2.2.2 x.2) (fun e (s : Value × Value × Value × Value × Value × Value) h => Jk6_2 rc md h0 e s.1 s.2.1 s.2.2.1 s.2.2.2.1 s.2.2.2.2.1 s.2.2.2.2.2 h) (s2, s4, s7, s10, s57, s58) h
theorem J6_2_step (rc : Rec) (md : Md) (h0 : Heap) (s2 : Value) (s4 : Value) (s7 : Value) (s10 : Value) (s57 : Value) (s58 : Value) (h : Heap) : J6_2 rc md h0 s2 s4 s7 s10 s57 s58 h = (Jr6_2 rc md s2 s4 s7 s10 s57 s58 h).bind fun x => match x with
    | .inl (s, h) => J6_2 rc md h0 s.1 s.2.1 s.2.2.1 s.2.2.2.1 s.2.2.2.2.1 s.2.2.2.2.2 h
    | .inr (e, s, h) => Jk6_2 rc md h0 e s.1 s.2.1 s.2.2.1 s.2.2.2.1 s.2.2.2.2.1 s.2.2.2.2.2 h := by
  unfold J6_2
  rw [runL_eq]
  refine congrArg (Option.bind _) (funext fun x => ?_)
  rcases x with ⟨s, h⟩ | ⟨e, s, h⟩ <;> rfl
theorem J6_2_cut (rc : Rec) (md : Md) (h0 : Heap) : cut Try.prog cfg rc md 146 (bodyOf Try.prog 6) [1, 1, 1, 1, 1, 1, 1, 0, 1, 0] (retK Try.prog cfg 6 (rsOf Try.prog 6) h0) = fun t h => J6_2 rc md h0 (t 2) (t 4) (t 7) (t 10) (t 57) (t 58) h := by
  funext t h
  have e : sub (bodyOf Try.prog 6) [1, 1, 1, 1, 1, 1, 1, 0, 1, 0] = .loop (sub (bodyOf Try.prog 6) [1, 1, 1, 1, 1, 1, 1, 0, 1, 0, 0]) := by kernel_rfl
  unfold cut
  rw [e]
  exact loop_eq (by kernel_rfl) (fun t => (t 2, t 4, t 7, t 10, t 57, t 58)) (fun x : (Value × Value × Value × Value × Value × Value) × Heap => Jr6_2 rc md x.1.1 x.1.2.1 x.1.2.2.1 x.1.2.2.2.1 x.1.2.2.2.2.1 x.1.2.2.2.2.2 x.2) (fun t h => Jr6_2_at rc md t h) (fun e (s : Value × Value × Value × Value × Value × Value) h => Jk6_2 rc md h0 e s.1 s.2.1 s.2.2.1 s.2.2.2.1 s.2.2.2.2.1 s.2.2.2.2.2 h) (fun e t h => Jk6_2_at rc md h0 e t h) t h
noncomputable def J6_1 (rc : Rec) (md : Md) (h0 : Heap) (s2 : Value) (s4 : Value) (s7 : Value) (h : Heap) : Option (Value × Heap) :=
  fA 1 s2 fun v1 =>
  ld1 v1 h fun v2 =>
  cIn .i64 v2 fun n3 =>
  aMakeSlice Try.prog 60 (.int .i64 n3) (.int .i64 n3) h fun v4 h5 =>
  fA 0 s2 fun v6 =>
  ld1 v6 h5 fun v7 =>
  cIn .i64 v7 fun n8 =>
  J6_2 rc md h0 s2 s4 s7 v4 (.int .i64 n8) (.int .i64 0) h5
noncomputable def J6_1H (rc : Rec) (md : Md) (h0 : Heap) (X1 : T → Heap → Option (Value × Heap)) (t : T) (h : Heap) : Option (Value × Heap) :=
  fA 1 (t 2) fun v1 =>
  ld1 v1 h fun v2 =>
  cIn .i64 v2 fun n3 =>
  aMakeSlice Try.prog 60 (.int .i64 n3) (.int .i64 n3) h fun v4 h5 =>
  fA 0 (t 2) fun v6 =>
  ld1 v6 h5 fun v7 =>
  cIn .i64 v7 fun n8 =>
  X1 (upd (upd (upd (upd (upd (upd (upd t 53 v1) 54 (.int .i64 n3)) 55 v4) 10 v4) 56 v6) 57 (.int .i64 n8)) 58 (.int .i64 0)) h5
theorem J6_1_h1 (rc : Rec) (md : Md) (h0 : Heap) (X : Nat → T → Heap → Option (Value × Heap)) (t : T) (h : Heap) : execG Try.prog cfg X rc md 146 (sub (replS (bodyOf Try.prog 6) [([1, 1, 1, 1, 1, 0, 1, 0], 0), ([1, 1, 1, 1, 1, 1, 1, 0, 1, 0], 1), ([1, 1, 1, 1, 1, 1, 1, 1, 0, 1, 0], 2), ([1, 1, 1, 1, 1, 1, 1, 1], 3)]) [1, 1, 1, 1, 1, 1]) (kAtG Try.prog cfg X rc md 146 (replS (bodyOf Try.prog 6) [([1, 1, 1, 1, 1, 0, 1, 0], 0), ([1, 1, 1, 1, 1, 1, 1, 0, 1, 0], 1), ([1, 1, 1, 1, 1, 1, 1, 1, 0, 1, 0], 2), ([1, 1, 1, 1, 1, 1, 1, 1], 3)]) [1, 1, 1, 1, 1, 1] (retK Try.prog cfg 6 (rsOf Try.prog 6) h0)) t h = J6_1H rc md h0 (X 1) t h := by kernel_rfl
theorem J6_1_h2 (rc : Rec) (md : Md) (h0 : Heap) (t : T) (h : Heap) : J6_1H rc md h0 (fun t h => J6_2 rc md h0 (t 2) (t 4) (t 7) (t 10) (t 57) (t 58) h) t h = J6_1 rc md h0 (t 2) (t 4) (t 7) h := by (unfold J6_1H J6_1; kernel_rfl)
theorem J6_1_at (rc : Rec) (md : Md) (h0 : Heap) (t : T) (h : Heap) : cut Try.prog cfg rc md 146 (bodyOf Try.prog 6) [1, 1, 1, 1, 1, 1] (retK Try.prog cfg 6 (rsOf Try.prog 6) h0) t h = J6_1 rc md h0 (t 2) (t 4) (t 7) h := by
  rw [cut_holes [([1, 1, 1, 1, 1, 0, 1, 0], 0), ([1, 1, 1, 1, 1, 1, 1, 0, 1, 0], 1), ([1, 1, 1, 1, 1, 1, 1, 1, 0, 1, 0], 2), ([1, 1, 1, 1, 1, 1, 1, 1], 3)] [1, 1, 1, 1, 1, 1] (by kernel_rfl), J6_1_h1, show (goX Try.prog cfg rc md 146 (bodyOf Try.prog 6) [([1, 1, 1, 1, 1, 0, 1, 0], 0), ([1, 1, 1, 1, 1, 1, 1, 0, 1, 0], 1), ([1, 1, 1, 1, 1, 1, 1, 1, 0, 1, 0], 2), ([1, 1, 1, 1, 1, 1, 1, 1], 3)] (retK Try.prog cfg 6 (rsOf Try.prog 6) h0)) 1 = _ from J6_2_cut rc md h0]
  exact J6_1_h2 rc md h0 t h
theorem J6_1_cut (rc : Rec) (md : Md) (h0 : Heap) : cut Try.prog cfg rc md 146 (bodyOf Try.prog 6) [1, 1, 1, 1, 1, 1] (retK Try.prog cfg 6 (rsOf Try.prog 6) h0) = fun t h => J6_1 rc md h0 (t 2) (t 4) (t 7) h := funext fun t => funext fun h => J6_1_at rc md h0 t h
noncomputable def Jk6_0 (rc : Rec) (md : Md) (h0 : Heap) (e : Exit) (s2 : Value) (s4 : Value) (s7 : Value) (s43 : Value) (s44 : Value) (s45 : Value) (h : Heap) : Option (Value × Heap) :=
  match e with
  | .normal =>
    J6_1 rc md h0 s2 s4 s7 h
  | .exit j =>
    bif Nat.beq j 0 then
      J6_1 rc md h0 s2 s4 s7 h
    else
      none
  | .ret =>
    fin1 h0 s4 h
  | .goto l => none
  | .panic ps => none
  | .outgrown => none
noncomputable def Jk6_0H (rc : Rec) (md : Md) (h0 : Heap) (X4 : T → Heap → Option (Value × Heap)) (e : Exit) (t : T) (h : Heap) : Option (Value × Heap) :=
  match e with
  | .normal =>
    X4 t h
  | .exit j =>
    bif Nat.beq j 0 then
      X4 t h
    else
      none
  | .ret =>
    fin1 h0 (t 4) h
  | .goto l => none
  | .panic ps => none
  | .outgrown => none
theorem Jk6_0_h1 (rc : Rec) (md : Md) (h0 : Heap) (X : Nat → T → Heap → Option (Value × Heap)) (e : Exit) (t : T) (h : Heap) : kAtG Try.prog cfg X rc md 146 (replS (bodyOf Try.prog 6) [([1, 1, 1, 1, 1, 1, 1, 0, 1, 0], 1), ([1, 1, 1, 1, 1, 1, 1, 1, 0, 1, 0], 2), ([1, 1, 1, 1, 1, 1, 1, 1], 3), ([1, 1, 1, 1, 1, 1], 4)]) [1, 1, 1, 1, 1, 0, 1, 0] (retK Try.prog cfg 6 (rsOf Try.prog 6) h0) e t h = Jk6_0H rc md h0 (X 4) e t h := by cases e <;> kernel_rfl
theorem Jk6_0_h2 (rc : Rec) (md : Md) (h0 : Heap) (e : Exit) (t : T) (h : Heap) : Jk6_0H rc md h0 (fun t h => J6_1 rc md h0 (t 2) (t 4) (t 7) h) e t h = Jk6_0 rc md h0 e (t 2) (t 4) (t 7) (t 43) (t 44) (t 45) h := by cases e <;> (unfold Jk6_0H Jk6_0; kernel_rfl)
theorem Jk6_0_at (rc : Rec) (md : Md) (h0 : Heap) (e : Exit) (t : T) (h : Heap) : kAt Try.prog cfg rc md 146 (bodyOf Try.prog 6) [1, 1, 1, 1, 1, 0, 1, 0] (retK Try.prog cfg 6 (rsOf Try.prog 6) h0) e t h = Jk6_0 rc md h0 e (t 2) (t 4) (t 7) (t 43) (t 44) (t 45) h := by
  rw [kAt_holes [([1, 1, 1, 1, 1, 1, 1, 0, 1, 0], 1), ([1, 1, 1, 1, 1, 1, 1, 1, 0, 1, 0], 2), ([1, 1, 1, 1, 1, 1, 1, 1], 3), ([1, 1, 1, 1, 1, 1], 4)] [1, 1, 1, 1, 1, 0, 1, 0] (by kernel_rfl), Jk6_0_h1, show (goX Try.prog cfg rc md 146 (bodyOf Try.prog 6) [([1, 1, 1, 1, 1, 1, 1, 0, 1, 0], 1), ([1, 1, 1, 1, 1, 1, 1, 1, 0, 1, 0], 2), ([1, 1, 1, 1, 1, 1, 1, 1], 3), ([1, 1, 1, 1, 1, 1], 4)] (retK Try.prog cfg 6 (rsOf Try.prog 6) h0)) 4 = _ from J6_1_cut rc md h0]
  exact Jk6_0_h2 rc md h0 e t h
/-- a round -/
noncomputable def Jr6_0 (rc : Rec) (md : Md) (s2 : Value) (s4 : Value) (s7 : Value) (s43 : Value) (s44 : Value) (s45 : Value) (h : Heap) : Option (((Value × Value × Value × Value × Value × Value) × Heap) ⊕ (Exit × (Value × Value × Value × Value × Value × Value) × Heap)) :=
  aBin Try.prog .lss 3 s45 s44 fun v1 =>
  cBn v1 fun b2 =>
  bif b2 then
    ixSV 5 s43 s45 fun v3 =>
    ldN 5 v3 h fun v4 =>
    let h5 : Heap := h ++ [.own [(.int .i64 0), (.int .i64 0), (.int .i64 0), (.int .i64 0), (.int .i64 0)]]
    st md 5 (.pointer (some ⟨h.length, 0, none⟩)) v4 h5 fun h6 =>
    ldN 5 (.pointer (some ⟨h.length, 0, none⟩)) h6 fun v7 =>
    cl (rc md 10 [s7, v7] h6) fun v8 h9 =>
    aBin Try.prog .add 3 s45 (.int .i64 1) fun v10 =>
    some (.inl ((s2, s4, s7, s43, s44, v10), h9))
  else
    some (.inr ((.exit 0), (s2, s4, s7, s43, s44, s45), h))
theorem Jr6_0_at (rc : Rec) (md : Md) (t : T) (h : Heap) : exec Try.prog cfg rc md 146 (sub (bodyOf Try.prog 6) [1, 1, 1, 1, 1, 0, 1, 0, 0]) (rndK (fun t => (t 2, t 4, t 7, t 43, t 44, t 45))) t h = Jr6_0 rc md (t 2) (t 4) (t 7) (t 43) (t 44) (t 45) h := by kernel_rfl
noncomputable def J6_0 (rc : Rec) (md : Md) (h0 : Heap) (s2 : Value) (s4 : Value) (s7 : Value) (s43 : Value) (s44 : Value) (s45 : Value) (h : Heap) : Option (Value × Heap) :=
  runL (fun x : (Value × Value × Value × Value × Value × Value) × Heap => Jr6_0 rc md x.1.1 x.1.2.1 x.1.2.2.1 x.1.2.2.2.1 x.1.2.2.2.2.1 x.1.2.2.2.2.2 x.2) (fun e (s : Value × Value × Value × Value × Value × Value) h => Jk6_0 rc md h0 e s.1 s.2.1 s.2.2.1 s.2.2.2.1 s.2.2.2.2.1 s.2.2.2.2.2 h) (s2, s4, s7, s43, s44, s45) h
theorem J6_0_step (rc : Rec) (md : Md) (h0 : Heap) (s2 : Value) (s4 : Value) (s7 : Value) (s43 : Value) (s44 : Value) (s45 : Value) (h : Heap) : J6_0 rc md h0 s2 s4 s7 s43 s44 s45 h = (Jr6_0 rc md s2 s4 s7 s43 s44 s45 h).bind fun x => match x with
    | .inl (s, h) => J6_0 rc md h0 s.1 s.2.1 s.2.2.1 s.2.2.2.1 s.2.2.2.2.1 s.2.2.2.2.2 h
    | .inr (e, s, h) => Jk6_0 rc md h0 e s.1 s.2.1 s.2.2.1 s.2.2.2.1 s.2.2.2.2.1 s.2.2.2.2.2 h := by
  unfold J6_0
  rw [runL_eq]
  refine congrArg (Option.bind _) (funext fun x => ?_)
  rcases x with ⟨s, h⟩ | ⟨e, s, h⟩ <;> rfl
theorem J6_0_cut (rc : Rec) (md : Md) (h0 : Heap) : cut Try.prog cfg rc md 146 (bodyOf Try.prog 6) [1, 1, 1, 1, 1, 0, 1, 0] (retK Try.prog cfg 6 (rsOf Try.prog 6) h0) = fun t h => J6_0 rc md h0 (t 2) (t 4) (t 7) (t 43) (t 44) (t 45) h := by
  funext t h
  have e : sub (bodyOf Try.prog 6) [1, 1, 1, 1, 1, 0, 1, 0] = .loop (sub (bodyOf Try.prog 6) [1, 1, 1, 1, 1, 0, 1, 0, 0]) := by kernel_rfl
  unfold cut
  rw [e]
  exact loop_eq (by kernel_rfl) (fun t => (t 2, t 4, t 7, t 43, t 44, t 45)) (fun x : (Value × Value × Value × Value × Value × Value) × Heap => Jr6_0 rc md x.1.1 x.1.2.1 x.1.2.2.1 x.1.2.2.2.1 x.1.2.2.2.2.1 x.1.2.2.2.2.2 x.2) (fun t h => Jr6_0_at rc md t h) (fun e (s : Value × Value × Value × Value × Value × Value) h => Jk6_0 rc md h0 e s.1 s.2.1 s.2.2.1 s.2.2.2.1 s.2.2.2.2.1 s.2.2.2.2.2 h) (fun e t h => Jk6_0_at rc md h0 e t h) t h
noncomputable def F6 (rc : Rec) (md : Md) (a0_0 : Int) (a0_1 : Int) (a0_2 : Int) (a1 : Value) (h0 : Heap) : Option (Value × Heap) :=
  let h1 : Heap := h0 ++ [.own [(.int .i64 a0_0), (.int .i64 a0_1), (.int .i64 a0_2)]]
  ldN 3 (.pointer (some ⟨h0.length, 0, none⟩)) h1 fun v2 =>
  cl (rc md 7 [v2] h1) fun v3 h4 =>
  cBn v3 fun b5 =>
  (bif wantV (.bool (!b5)) false then
  some (a1, h4)
  else some (undef, h4)).bind fun p6 =>
  (bif wantV (.bool (!b5)) false then
  lenS p6.1 fun v7 =>
  cIn .i64 v7 fun n8 =>
  some ((.int .i64 n8), p6.2)
  else some (undef, p6.2)).bind fun p9 =>
  (bif wantV (.bool (!b5)) false then
  aBin Try.prog .gtr 3 p9.1 (.int .i64 60) fun v10 =>
  some (v10, p9.2)
  else some (undef, p9.2)).bind fun p11 =>
  cBn (bif !b5 then (.bool true) else p11.1) fun b12 =>
  bif b12 then
    cl (rc md 8 [] p11.2) fun v13 h14 =>
    cBn v13 fun b15 =>
    some ((.bool b15), List.take h0.length h14)
  else
    ldN 3 (.pointer (some ⟨h0.length, 0, none⟩)) p11.2 fun v16 =>
    cl (rc md 9 [v16] p11.2) fun v17 h18 =>
    exT v17 0 fun v19 =>
    exT v17 1 fun v20 =>
    cBn v20 fun b21 =>
    let h22 : Heap := h18 ++ [.own [(.int .i64 0), (.int .i64 0), (.int .i64 0), .nilIface, (.int .i64 0), (.int .i64 0), (.int .i64 0), (.int .i64 0), (.int .i64 0), .nilIface]]
    st md 10 (.pointer (some ⟨h18.length, 0, none⟩)) v19 h22 fun h23 =>
    bif !b21 then
      some ((.bool false), List.take h0.length h23)
    else
      ldN 3 (.pointer (some ⟨h0.length, 0, none⟩)) h23 fun v24 =>
      ldN 10 (.pointer (some ⟨h18.length, 0, none⟩)) h23 fun v25 =>
      aMakeMap Try.prog 42 h23 fun v26 h27 =>
      aMakeMap Try.prog 43 h27 fun v28 h29 =>
      aBuild Try.prog 45 [(0, v24), (1, v25), (2, v26), (3, v28)] fun v30 =>
      let h31 : Heap := h29 ++ [.own v30.cells.toList]
      lenS a1 fun v32 =>
      cIn .i64 v32 fun n33 =>
      J6_0 rc md h0 (.pointer (some ⟨h0.length, 0, none⟩)) (.bool false) (.pointer (some ⟨h29.length, 0, none⟩)) a1 (.int .i64 n33) (.int .i64 0) h31
noncomputable def F6H (rc : Rec) (md : Md) (X0 : T → Heap → Option (Value × Heap)) (a0_0 : Int) (a0_1 : Int) (a0_2 : Int) (a1 : Value) (h0 : Heap) : Option (Value × Heap) :=
  let h1 : Heap := h0 ++ [.own [(.int .i64 a0_0), (.int .i64 a0_1), (.int .i64 a0_2)]]
  ldN 3 (.pointer (some ⟨h0.length, 0, none⟩)) h1 fun v2 =>
  cl (rc md 7 [v2] h1) fun v3 h4 =>
  cBn v3 fun b5 =>
  (bif wantV (.bool (!b5)) false then
  some (a1, h4)
  else some (undef, h4)).bind fun p6 =>
  (bif wantV (.bool (!b5)) false then
  lenS p6.1 fun v7 =>
  cIn .i64 v7 fun n8 =>
  some ((.int .i64 n8), p6.2)
  else some (undef, p6.2)).bind fun p9 =>
  (bif wantV (.bool (!b5)) false then
  aBin Try.prog .gtr 3 p9.1 (.int .i64 60) fun v10 =>
  some (v10, p9.2)
  else some (undef, p9.2)).bind fun p11 =>
  cBn (bif !b5 then (.bool true) else p11.1) fun b12 =>
  bif b12 then
    cl (rc md 8 [] p11.2) fun v13 h14 =>
    cBn v13 fun b15 =>
    some ((.bool b15), List.take h0.length h14)
  else
    ldN 3 (.pointer (some ⟨h0.length, 0, none⟩)) p11.2 fun v16 =>
    cl (rc md 9 [v16] p11.2) fun v17 h18 =>
    exT v17 0 fun v19 =>
    exT v17 1 fun v20 =>
    cBn v20 fun b21 =>
    let h22 : Heap := h18 ++ [.own [(.int .i64 0), (.int .i64 0), (.int .i64 0), .nilIface, (.int .i64 0), (.int .i64 0), (.int .i64 0), (.int .i64 0), (.int .i64 0), .nilIface]]
    st md 10 (.pointer (some ⟨h18.length, 0, none⟩)) v19 h22 fun h23 =>
    bif !b21 then
      some ((.bool false), List.take h0.length h23)
    else
      ldN 3 (.pointer (some ⟨h0.length, 0, none⟩)) h23 fun v24 =>
      ldN 10 (.pointer (some ⟨h18.length, 0, none⟩)) h23 fun v25 =>
      aMakeMap Try.prog 42 h23 fun v26 h27 =>
      aMakeMap Try.prog 43 h27 fun v28 h29 =>
      aBuild Try.prog 45 [(0, v24), (1, v25), (2, v26), (3, v28)] fun v30 =>
      let h31 : Heap := h29 ++ [.own v30.cells.toList]
      lenS a1 fun v32 =>
      cIn .i64 v32 fun n33 =>
      X0 (upd (upd (upd (upd (upd (upd (upd (upd (upd (upd (upd (upd (upd (upd (upd (upd (upd (upd (upd (upd (upd (upd (upd (upd (upd (upd (upd (upd (upd (args0 [(.agg #[(.int .i64 a0_0), (.int .i64 a0_1), (.int .i64 a0_2)]), a1]) 2 (.pointer (some ⟨h0.length, 0, none⟩))) 4 (.bool false)) 21 v2) 22 (.bool b5)) 23 (.bool (!b5))) 24 (.bool (!b5))) 25 p6.1) 26 p9.1) 27 p11.1) 28 (.bool b12)) 31 v16) 32 v17) 30 v17) 33 v19) 34 (.bool b21)) 5 (.pointer (some ⟨h18.length, 0, none⟩))) 6 (.bool b21)) 35 (.bool b21)) 36 (.bool (!b21))) 37 v24) 38 v25) 39 v26) 40 v28) 41 v30) 42 (.pointer (some ⟨h29.length, 0, none⟩))) 7 (.pointer (some ⟨h29.length, 0, none⟩))) 43 a1) 44 (.int .i64 n33)) 45 (.int .i64 0)) h31
theorem F6_h0 (rc : Rec) (md : Md) (a0_0 : Int) (a0_1 : Int) (a0_2 : Int) (a1 : Value) (h0 : Heap) : callStep0 Try.prog cfg rc md 6 [(.agg #[(.int .i64 a0_0), (.int .i64 a0_1), (.int .i64 a0_2)]), a1] h0 = exec Try.prog cfg rc ⟨md.ro, h0.length⟩ 146 (bodyOf Try.prog 6) (retK Try.prog cfg 6 (rsOf Try.prog 6) h0) (args0 [(.agg #[(.int .i64 a0_0), (.int .i64 a0_1), (.int .i64 a0_2)]), a1]) h0 := callStep0_run (by kernel_rfl) (by kernel_rfl) (by kernel_rfl)
theorem F6_h1 (rc : Rec) (md : Md) (X : Nat → T → Heap → Option (Value × Heap)) (a0_0 : Int) (a0_1 : Int) (a0_2 : Int) (a1 : Value) (h0 : Heap) : execG Try.prog cfg X rc md 146 (replS (bodyOf Try.prog 6) [([1, 1, 1, 1, 1, 0, 1, 0], 0), ([1, 1, 1, 1, 1, 1, 1, 0, 1, 0], 1), ([1, 1, 1, 1, 1, 1, 1, 1, 0, 1, 0], 2), ([1, 1, 1, 1, 1, 1, 1, 1], 3), ([1, 1, 1, 1, 1, 1], 4)]) (retK Try.prog cfg 6 (rsOf Try.prog 6) h0) (args0 [(.agg #[(.int .i64 a0_0), (.int .i64 a0_1), (.int .i64 a0_2)]), a1]) h0 = F6H rc md (X 0) a0_0 a0_1 a0_2 a1 h0 := by kernel_rfl
theorem F6_h2 (rc : Rec) (md : Md) (a0_0 : Int) (a0_1 : Int) (a0_2 : Int) (a1 : Value) (h0 : Heap) : F6H rc md (fun t h => J6_0 rc md h0 (t 2) (t 4) (t 7) (t 43) (t 44) (t 45) h) a0_0 a0_1 a0_2 a1 h0 = F6 rc md a0_0 a0_1 a0_2 a1 h0 := by unfold F6H F6; kernel_rfl
theorem F6_eq0 (rc : Rec) (md : Md) (a0_0 : Int) (a0_1 : Int) (a0_2 : Int) (a1 : Value) (h0 : Heap) : callStep0 Try.prog cfg rc md 6 [(.agg #[(.int .i64 a0_0), (.int .i64 a0_1), (.int .i64 a0_2)]), a1] h0 = F6 rc ⟨md.ro, h0.length⟩ a0_0 a0_1 a0_2 a1 h0 := by
  rw [F6_h0, exec_holes [([1, 1, 1, 1, 1, 0, 1, 0], 0), ([1, 1, 1, 1, 1, 1, 1, 0, 1, 0], 1), ([1, 1, 1, 1, 1, 1, 1, 1, 0, 1, 0], 2), ([1, 1, 1, 1, 1, 1, 1, 1], 3), ([1, 1, 1, 1, 1, 1], 4)] (by kernel_rfl), F6_h1, show (goX Try.prog cfg rc ⟨md.ro, h0.length⟩ 146 (bodyOf Try.prog 6) [([1, 1, 1, 1, 1, 0, 1, 0], 0), ([1, 1, 1, 1, 1, 1, 1, 0, 1, 0], 1), ([1, 1, 1, 1, 1, 1, 1, 1, 0, 1, 0], 2), ([1, 1, 1, 1, 1, 1, 1, 1], 3), ([1, 1, 1, 1, 1, 1], 4)] (retK Try.prog cfg 6 (rsOf Try.prog 6) h0)) 0 = _ from J6_0_cut rc ⟨md.ro, h0.length⟩ h0]
  exact F6_h2 rc _ a0_0 a0_1 a0_2 a1 h0
theorem F6_eq (rc : Rec) (md : Md) (a0_0 : Int) (a0_1 : Int) (a0_2 : Int) (a1 : Value) (h0 : Heap) : callStep Try.prog cfg rc md 6 [(.agg #[(.int .i64 a0_0), (.int .i64 a0_1), (.int .i64 a0_2)]), a1] h0 = F6 rc ⟨md.ro, h0.length⟩ a0_0 a0_1 a0_2 a1 h0 := (callStep_ne (by kernel_rfl)).trans (F6_eq0 rc md a0_0 a0_1 a0_2 a1 h0)

end Go.Det.E
