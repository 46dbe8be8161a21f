/- Printed functions. -/
import Derived.Test.YtibaodefgncbmaaE7
import Derived.Test.YtibaodefgncbmaaDetT
import Derived.Test.YtibaodefgncbmaaDetX
import Derived.Test.YtibaodefgncbmaaProg
set_option autoImplicit false
set_option linter.unusedVariables false
set_option linter.unusedSimpArgs false
namespace Go.Det.E
open Go.Proofs Go.Det

/-- tombolo/tombololaw12.AdjBack -/
noncomputable def J5_1 (rc : Rec) (md : Md) (h0 : Heap) (s5 : Value) (s9 : Value) (h : Heap) : Option (Value × Heap) :=
  bif okNil Try.prog s9 then
  fA 13 s9 fun v1 =>
  ld1 v1 h fun v2 =>
  fA 1 s5 fun v3 =>
  ld1 v3 h fun v4 =>
  cIn .i64 v4 fun n5 =>
  aLookup Try.prog 42 v2 (.int .i64 n5) true h fun v6 =>
  exT v6 0 fun v7 =>
  exT v6 1 fun v8 =>
  cBn v8 fun b9 =>
  let h10 : Heap := h ++ [.own [(.int .i64 0), (.int .i64 0), (.int .i64 0), (.bool false)]]
  cLE true (fun hq => aLookup Try.prog 42 v2 (.int .i64 n5) true hq some) v6 h h10 <|
  cLE true (fun hq => ld1 v3 hq some) (.int .i64 n5) h h10 <|
  cLE true (fun hq => ld1 v1 hq some) v2 h h10 <|
  st md 4 (.pointer (some ⟨h.length, 0, none⟩)) v7 h10 fun h11 =>
  fA 0 s5 fun v12 =>
  st md 1 v12 (.int .i64 1) h11 fun h13 =>
  ldN 5 s5 h13 fun v14 =>
  cl (rc md 10 [s9, v14] h13) fun v15 h16 =>
  bif okNil Try.prog s9 then
  fA 13 s9 fun v17 =>
  ld1 v17 h16 fun v18 =>
  fA 1 s5 fun v19 =>
  ld1 v19 h16 fun v20 =>
  cIn .i64 v20 fun n21 =>
  aLookup Try.prog 42 v18 (.int .i64 n21) true h16 fun v22 =>
  exT v22 0 fun v23 =>
  exT v22 1 fun v24 =>
  cBn v24 fun b25 =>
  let h26 : Heap := h16 ++ [.own [(.int .i64 0), (.int .i64 0), (.int .i64 0), (.bool false)]]
  cLE true (fun hq => aLookup Try.prog 42 v18 (.int .i64 n21) true hq some) v22 h16 h26 <|
  cLE true (fun hq => ld1 v19 hq some) (.int .i64 n21) h16 h26 <|
  cLE true (fun hq => ld1 v17 hq some) v18 h16 h26 <|
  st md 4 (.pointer (some ⟨h16.length, 0, none⟩)) v23 h26 fun h27 =>
  (bif wantV (.bool b9) false then
  some ((.bool b25), h27)
  else some (undef, h27)).bind fun p28 =>
  (bif wantV (.bool b9) false then
  aUn .not p28.1 fun v29 =>
  some (v29, p28.2)
  else some (undef, p28.2)).bind fun p30 =>
  cBn (bif b9 then (.bool true) else p30.1) fun b31 =>
  bif b31 then
    cl (rc md 8 [] p30.2) fun v32 h33 =>
    cBn v32 fun b34 =>
    some ((.bool b34), List.take h0.length h33)
  else
    bif okNil Try.prog s9 then
    fA 3 s9 fun v35 =>
    ldN 10 v35 p30.2 fun v36 =>
    fA 2 s5 fun v37 =>
    ld1 v37 p30.2 fun v38 =>
    cIn .i64 v38 fun n39 =>
    fA 3 s5 fun v40 =>
    ld1 v40 p30.2 fun v41 =>
    cIn .i64 v41 fun n42 =>
    fA 4 s5 fun v43 =>
    ld1 v43 p30.2 fun v44 =>
    cIn .i64 v44 fun n45 =>
    cl (rc md 16 [v36, (.int .i64 (if n42 < n39 then n42 else n39)), (.int .i64 n45)] p30.2) fun v46 h47 =>
    exT v46 0 fun v48 =>
    cIn .i64 v48 fun n49 =>
    exT v46 1 fun v50 =>
    cBn v50 fun b51 =>
    (bif wantV (.bool (!b51)) false then
    some ((.int .i64 n49), h47)
    else some (undef, h47)).bind fun p52 =>
    (bif wantV (.bool (!b51)) false then
    fA 1 s5 fun v53 =>
    some (v53, p52.2)
    else some (undef, p52.2)).bind fun p54 =>
    (bif wantV (.bool (!b51)) false then
    ld1 p54.1 p54.2 fun v55 =>
    cIn .i64 v55 fun n56 =>
    some ((.int .i64 n56), p54.2)
    else some (undef, p54.2)).bind fun p57 =>
    (bif wantV (.bool (!b51)) false then
    aBin Try.prog .neq 3 p52.1 p57.1 fun v58 =>
    some (v58, p57.2)
    else some (undef, p57.2)).bind fun p59 =>
    cBn (bif !b51 then (.bool true) else p59.1) fun b60 =>
    (bif wantV (.bool b60) false then
    some (s9, p59.2)
    else some (undef, p59.2)).bind fun p61 =>
    (bif wantV (.bool b60) false then
    cl (rc md 11 [p61.1] p61.2) fun v62 h63 =>
    cBn v62 fun b64 =>
    some ((.bool b64), h63)
    else some (undef, p61.2)).bind fun p65 =>
    (bif wantV (.bool b60) false then
    aUn .not p65.1 fun v66 =>
    some (v66, p65.2)
    else some (undef, p65.2)).bind fun p67 =>
    cBn (bif b60 then (.bool true) else p67.1) fun b68 =>
    bif b68 then
      some ((.bool false), List.take h0.length p67.2)
    else
      fA 0 s5 fun v69 =>
      st md 1 v69 (.int .i64 2) p67.2 fun h70 =>
      ldN 5 s5 h70 fun v71 =>
      cl (rc md 10 [s9, v71] h70) fun v72 h73 =>
      cl (rc md 11 [s9] h73) fun v74 h75 =>
      cBn v74 fun b76 =>
      (bif wantV (.bool b76) true then
      cl (rc md 8 [] h75) fun v77 h78 =>
      cBn v77 fun b79 =>
      some ((.bool b79), h78)
      else some (undef, h75)).bind fun p80 =>
      cBn (bif b76 then p80.1 else (.bool false)) fun b81 =>
      some ((.bool b81), List.take h0.length p80.2)
    else none
  else none
  else none
theorem J5_1_at (rc : Rec) (md : Md) (h0 : Heap) (t : T) (h : Heap) : cut Try.prog cfg rc md 117 (bodyOf Try.prog 5) [1, 1, 1, 1, 1, 1] (retK Try.prog cfg 5 (rsOf Try.prog 5) h0) t h = J5_1 rc md h0 (t 5) (t 9) h := by kernel_rfl
theorem J5_1_cut (rc : Rec) (md : Md) (h0 : Heap) : cut Try.prog cfg rc md 117 (bodyOf Try.prog 5) [1, 1, 1, 1, 1, 1] (retK Try.prog cfg 5 (rsOf Try.prog 5) h0) = fun t h => J5_1 rc md h0 (t 5) (t 9) h := funext fun t => funext fun h => J5_1_at rc md h0 t h
noncomputable def Jk5_0 (rc : Rec) (md : Md) (h0 : Heap) (e : Exit) (s5 : Value) (s6 : Value) (s9 : Value) (s40 : Value) (s41 : Value) (s42 : Value) (h : Heap) : Option (Value × Heap) :=
  match e with
  | .normal =>
    J5_1 rc md h0 s5 s9 h
  | .exit j =>
    bif Nat.beq j 0 then
      J5_1 rc md h0 s5 s9 h
    else
      none
  | .ret =>
    fin1 h0 s6 h
  | .goto l => none
  | .panic ps => none
  | .outgrown => none
noncomputable def Jk5_0H (rc : Rec) (md : Md) (h0 : Heap) (X1 : T → Heap → Option (Value × Heap)) (e : Exit) (t : T) (h : Heap) : Option (Value × Heap) :=
  match e with
  | .normal =>
    X1 t h
  | .exit j =>
    bif Nat.beq j 0 then
      X1 t h
    else
      none
  | .ret =>
    fin1 h0 (t 6) h
  | .goto l => none
  | .panic ps => none
  | .outgrown => none
theorem Jk5_0_h1 (rc : Rec) (md : Md) (h0 : Heap) (X : Nat → T → Heap → Option (Value × Heap)) (e : Exit) (t : T) (h : Heap) : kAtG Try.prog cfg X rc md 117 (replS (bodyOf Try.prog 5) [([1, 1, 1, 1, 1, 1], 1)]) [1, 1, 1, 1, 1, 0, 1, 0] (retK Try.prog cfg 5 (rsOf Try.prog 5) h0) e t h = Jk5_0H rc md h0 (X 1) e t h := by cases e <;> kernel_rfl
theorem Jk5_0_h2 (rc : Rec) (md : Md) (h0 : Heap) (e : Exit) (t : T) (h : Heap) : Jk5_0H rc md h0 (fun t h => J5_1 rc md h0 (t 5) (t 9) h) e t h = Jk5_0 rc md h0 e (t 5) (t 6) (t 9) (t 40) (t 41) (t 42) h := by cases e <;> (unfold Jk5_0H Jk5_0; kernel_rfl)
theorem Jk5_0_at (rc : Rec) (md : Md) (h0 : Heap) (e : Exit) (t : T) (h : Heap) : kAt Try.prog cfg rc md 117 (bodyOf Try.prog 5) [1, 1, 1, 1, 1, 0, 1, 0] (retK Try.prog cfg 5 (rsOf Try.prog 5) h0) e t h = Jk5_0 rc md h0 e (t 5) (t 6) (t 9) (t 40) (t 41) (t 42) h := by
  rw [kAt_holes [([1, 1, 1, 1, 1, 1], 1)] [1, 1, 1, 1, 1, 0, 1, 0] (by kernel_rfl), Jk5_0_h1, show (goX Try.prog cfg rc md 117 (bodyOf Try.prog 5) [([1, 1, 1, 1, 1, 1], 1)] (retK Try.prog cfg 5 (rsOf Try.prog 5) h0)) 1 = _ from J5_1_cut rc md h0]
  exact Jk5_0_h2 rc md h0 e t h
/-- a round -/
noncomputable def Jr5_0 (rc : Rec) (md : Md) (s5 : Value) (s6 : Value) (s9 : Value) (s40 : Value) (s41 : Value) (s42 : Value) (h : Heap) : Option (((Value × Value × Value × Value × Value × Value) × Heap) ⊕ (Exit × (Value × Value × Value × Value × Value × Value) × Heap)) :=
  aBin Try.prog .lss 3 s42 s41 fun v1 =>
  cBn v1 fun b2 =>
  bif b2 then
    ixSV 5 s40 s42 fun v3 =>
    ldN 5 v3 h fun v4 =>
    let h5 : Heap := h ++ [.own [(.int .i64 0), (.int .i64 0), (.int .i64 0), (.int .i64 0), (.int .i64 0)]]
    st md 5 (.pointer (some ⟨h.length, 0, none⟩)) v4 h5 fun h6 =>
    ldN 5 (.pointer (some ⟨h.length, 0, none⟩)) h6 fun v7 =>
    cl (rc md 10 [s9, v7] h6) fun v8 h9 =>
    aBin Try.prog .add 3 s42 (.int .i64 1) fun v10 =>
    some (.inl ((s5, s6, s9, s40, s41, v10), h9))
  else
    some (.inr ((.exit 0), (s5, s6, s9, s40, s41, s42), h))
theorem Jr5_0_at (rc : Rec) (md : Md) (t : T) (h : Heap) : exec Try.prog cfg rc md 117 (sub (bodyOf Try.prog 5) [1, 1, 1, 1, 1, 0, 1, 0, 0]) (rndK (fun t => (t 5, t 6, t 9, t 40, t 41, t 42))) t h = Jr5_0 rc md (t 5) (t 6) (t 9) (t 40) (t 41) (t 42) h := by kernel_rfl
noncomputable def J5_0 (rc : Rec) (md : Md) (h0 : Heap) (s5 : Value) (s6 : Value) (s9 : Value) (s40 : Value) (s41 : Value) (s42 : Value) (h : Heap) : Option (Value × Heap) :=
  runL (fun x : (Value × Value × Value × Value × Value × Value) × Heap => Jr5_0 rc md x.1.1 x.1.2.1 x.1.2.2.1 x.1.2.2.2.1 x.1.2.2.2.2.1 x.1.2.2.2.2.2 x.2) (fun e (s : Value × Value × Value × Value × Value × Value) h => Jk5_0 rc md h0 e s.1 s.2.1 s.2.2.1 s.2.2.2.1 s.2.2.2.2.1 s.2.2.2.2.2 h) (s5, s6, s9, s40, s41, s42) h
theorem J5_0_step (rc : Rec) (md : Md) (h0 : Heap) (s5 : Value) (s6 : Value) (s9 : Value) (s40 : Value) (s41 : Value) (s42 : Value) (h : Heap) : J5_0 rc md h0 s5 s6 s9 s40 s41 s42 h = (Jr5_0 rc md s5 s6 s9 s40 s41 s42 h).bind fun x => match x with
    | .inl (s, h) => J5_0 rc md h0 s.1 s.2.1 s.2.2.1 s.2.2.2.1 s.2.2.2.2.1 s.2.2.2.2.2 h
    | .inr (e, s, h) => Jk5_0 rc md h0 e s.1 s.2.1 s.2.2.1 s.2.2.2.1 s.2.2.2.2.1 s.2.2.2.2.2 h := by
  unfold J5_0
  rw [runL_eq]
  refine congrArg (Option.bind _) (funext fun x => ?_)
  rcases x with ⟨s, h⟩ | ⟨e, s, h⟩ <;> rfl
theorem J5_0_cut (rc : Rec) (md : Md) (h0 : Heap) : cut Try.prog cfg rc md 117 (bodyOf Try.prog 5) [1, 1, 1, 1, 1, 0, 1, 0] (retK Try.prog cfg 5 (rsOf Try.prog 5) h0) = fun t h => J5_0 rc md h0 (t 5) (t 6) (t 9) (t 40) (t 41) (t 42) h := by
  funext t h
  have e : sub (bodyOf Try.prog 5) [1, 1, 1, 1, 1, 0, 1, 0] = .loop (sub (bodyOf Try.prog 5) [1, 1, 1, 1, 1, 0, 1, 0, 0]) := by kernel_rfl
  unfold cut
  rw [e]
  exact loop_eq (by kernel_rfl) (fun t => (t 5, t 6, t 9, t 40, t 41, t 42)) (fun x : (Value × Value × Value × Value × Value × Value) × Heap => Jr5_0 rc md x.1.1 x.1.2.1 x.1.2.2.1 x.1.2.2.2.1 x.1.2.2.2.2.1 x.1.2.2.2.2.2 x.2) (fun t h => Jr5_0_at rc md t h) (fun e (s : Value × Value × Value × Value × Value × Value) h => Jk5_0 rc md h0 e s.1 s.2.1 s.2.2.1 s.2.2.2.1 s.2.2.2.2.1 s.2.2.2.2.2 h) (fun e t h => Jk5_0_at rc md h0 e t h) t h
noncomputable def F5 (rc : Rec) (md : Md) (a0_0 : Int) (a0_1 : Int) (a0_2 : Int) (a1 : Value) (a2_0 : Int) (a2_1 : Int) (a2_2 : Int) (a2_3 : Int) (a2_4 : Int) (h0 : Heap) : Option (Value × Heap) :=
  let h1 : Heap := h0 ++ [.own [(.int .i64 a0_0), (.int .i64 a0_1), (.int .i64 a0_2)]]
  let h2 : Heap := h1 ++ [.own [(.int .i64 a2_0), (.int .i64 a2_1), (.int .i64 a2_2), (.int .i64 a2_3), (.int .i64 a2_4)]]
  ldN 3 (.pointer (some ⟨h0.length, 0, none⟩)) h2 fun v3 =>
  cl (rc md 7 [v3] h2) fun v4 h5 =>
  cBn v4 fun b6 =>
  (bif wantV (.bool (!b6)) false then
  some (a1, h5)
  else some (undef, h5)).bind fun p7 =>
  (bif wantV (.bool (!b6)) false then
  lenS p7.1 fun v8 =>
  cIn .i64 v8 fun n9 =>
  some ((.int .i64 n9), p7.2)
  else some (undef, p7.2)).bind fun p10 =>
  (bif wantV (.bool (!b6)) false then
  aBin Try.prog .gtr 3 p10.1 (.int .i64 60) fun v11 =>
  some (v11, p10.2)
  else some (undef, p10.2)).bind fun p12 =>
  cBn (bif !b6 then (.bool true) else p12.1) fun b13 =>
  bif b13 then
    cl (rc md 8 [] p12.2) fun v14 h15 =>
    cBn v14 fun b16 =>
    some ((.bool b16), List.take h0.length h15)
  else
    ldN 3 (.pointer (some ⟨h0.length, 0, none⟩)) p12.2 fun v17 =>
    cl (rc md 9 [v17] p12.2) fun v18 h19 =>
    exT v18 0 fun v20 =>
    exT v18 1 fun v21 =>
    cBn v21 fun b22 =>
    let h23 : Heap := h19 ++ [.own [(.int .i64 0), (.int .i64 0), (.int .i64 0), .nilIface, (.int .i64 0), (.int .i64 0), (.int .i64 0), (.int .i64 0), (.int .i64 0), .nilIface]]
    st md 10 (.pointer (some ⟨h19.length, 0, none⟩)) v20 h23 fun h24 =>
    bif !b22 then
      some ((.bool false), List.take h0.length h24)
    else
      ldN 3 (.pointer (some ⟨h0.length, 0, none⟩)) h24 fun v25 =>
      ldN 10 (.pointer (some ⟨h19.length, 0, none⟩)) h24 fun v26 =>
      aMakeMap Try.prog 42 h24 fun v27 h28 =>
      aMakeMap Try.prog 43 h28 fun v29 h30 =>
      aBuild Try.prog 45 [(0, v25), (1, v26), (2, v27), (3, v29)] fun v31 =>
      let h32 : Heap := h30 ++ [.own v31.cells.toList]
      lenS a1 fun v33 =>
      cIn .i64 v33 fun n34 =>
      J5_0 rc md h0 (.pointer (some ⟨h1.length, 0, none⟩)) (.bool false) (.pointer (some ⟨h30.length, 0, none⟩)) a1 (.int .i64 n34) (.int .i64 0) h32
noncomputable def F5H (rc : Rec) (md : Md) (X0 : T → Heap → Option (Value × Heap)) (a0_0 : Int) (a0_1 : Int) (a0_2 : Int) (a1 : Value) (a2_0 : Int) (a2_1 : Int) (a2_2 : Int) (a2_3 : Int) (a2_4 : Int) (h0 : Heap) : Option (Value × Heap) :=
  let h1 : Heap := h0 ++ [.own [(.int .i64 a0_0), (.int .i64 a0_1), (.int .i64 a0_2)]]
  let h2 : Heap := h1 ++ [.own [(.int .i64 a2_0), (.int .i64 a2_1), (.int .i64 a2_2), (.int .i64 a2_3), (.int .i64 a2_4)]]
  ldN 3 (.pointer (some ⟨h0.length, 0, none⟩)) h2 fun v3 =>
  cl (rc md 7 [v3] h2) fun v4 h5 =>
  cBn v4 fun b6 =>
  (bif wantV (.bool (!b6)) false then
  some (a1, h5)
  else some (undef, h5)).bind fun p7 =>
  (bif wantV (.bool (!b6)) false then
  lenS p7.1 fun v8 =>
  cIn .i64 v8 fun n9 =>
  some ((.int .i64 n9), p7.2)
  else some (undef, p7.2)).bind fun p10 =>
  (bif wantV (.bool (!b6)) false then
  aBin Try.prog .gtr 3 p10.1 (.int .i64 60) fun v11 =>
  some (v11, p10.2)
  else some (undef, p10.2)).bind fun p12 =>
  cBn (bif !b6 then (.bool true) else p12.1) fun b13 =>
  bif b13 then
    cl (rc md 8 [] p12.2) fun v14 h15 =>
    cBn v14 fun b16 =>
    some ((.bool b16), List.take h0.length h15)
  else
    ldN 3 (.pointer (some ⟨h0.length, 0, none⟩)) p12.2 fun v17 =>
    cl (rc md 9 [v17] p12.2) fun v18 h19 =>
    exT v18 0 fun v20 =>
    exT v18 1 fun v21 =>
    cBn v21 fun b22 =>
    let h23 : Heap := h19 ++ [.own [(.int .i64 0), (.int .i64 0), (.int .i64 0), .nilIface, (.int .i64 0), (.int .i64 0), (.int .i64 0), (.int .i64 0), (.int .i64 0), .nilIface]]
    st md 10 (.pointer (some ⟨h19.length, 0, none⟩)) v20 h23 fun h24 =>
    bif !b22 then
      some ((.bool false), List.take h0.length h24)
    else
      ldN 3 (.pointer (some ⟨h0.length, 0, none⟩)) h24 fun v25 =>
      ldN 10 (.pointer (some ⟨h19.length, 0, none⟩)) h24 fun v26 =>
      aMakeMap Try.prog 42 h24 fun v27 h28 =>
      aMakeMap Try.prog 43 h28 fun v29 h30 =>
      aBuild Try.prog 45 [(0, v25), (1, v26), (2, v27), (3, v29)] fun v31 =>
      let h32 : Heap := h30 ++ [.own v31.cells.toList]
      lenS a1 fun v33 =>
      cIn .i64 v33 fun n34 =>
      X0 (upd (upd (upd (upd (upd (upd (upd (upd (upd (upd (upd (upd (upd (upd (upd (upd (upd (upd (upd (upd (upd (upd (upd (upd (upd (upd (upd (upd (upd (upd (args0 [(.agg #[(.int .i64 a0_0), (.int .i64 a0_1), (.int .i64 a0_2)]), a1, (.agg #[(.int .i64 a2_0), (.int .i64 a2_1), (.int .i64 a2_2), (.int .i64 a2_3), (.int .i64 a2_4)])]) 3 (.pointer (some ⟨h0.length, 0, none⟩))) 5 (.pointer (some ⟨h1.length, 0, none⟩))) 6 (.bool false)) 18 v3) 19 (.bool b6)) 20 (.bool (!b6))) 21 (.bool (!b6))) 22 p7.1) 23 p10.1) 24 p12.1) 25 (.bool b13)) 28 v17) 29 v18) 27 v18) 30 v20) 31 (.bool b22)) 7 (.pointer (some ⟨h19.length, 0, none⟩))) 8 (.bool b22)) 32 (.bool b22)) 33 (.bool (!b22))) 34 v25) 35 v26) 36 v27) 37 v29) 38 v31) 39 (.pointer (some ⟨h30.length, 0, none⟩))) 9 (.pointer (some ⟨h30.length, 0, none⟩))) 40 a1) 41 (.int .i64 n34)) 42 (.int .i64 0)) h32
theorem F5_h0 (rc : Rec) (md : Md) (a0_0 : Int) (a0_1 : Int) (a0_2 : Int) (a1 : Value) (a2_0 : Int) (a2_1 : Int) (a2_2 : Int) (a2_3 : Int) (a2_4 : Int) (h0 : Heap) : callStep0 Try.prog cfg rc md 5 [(.agg #[(.int .i64 a0_0), (.int .i64 a0_1), (.int .i64 a0_2)]), a1, (.agg #[(.int .i64 a2_0), (.int .i64 a2_1), (.int .i64 a2_2), (.int .i64 a2_3), (.int .i64 a2_4)])] h0 = exec Try.prog cfg rc ⟨md.ro, h0.length⟩ 117 (bodyOf Try.prog 5) (retK Try.prog cfg 5 (rsOf Try.prog 5) h0) (args0 [(.agg #[(.int .i64 a0_0), (.int .i64 a0_1), (.int .i64 a0_2)]), a1, (.agg #[(.int .i64 a2_0), (.int .i64 a2_1), (.int .i64 a2_2), (.int .i64 a2_3), (.int .i64 a2_4)])]) h0 := callStep0_run (by kernel_rfl) (by kernel_rfl) (by kernel_rfl)
theorem F5_h1 (rc : Rec) (md : Md) (X : Nat → T → Heap → Option (Value × Heap)) (a0_0 : Int) (a0_1 : Int) (a0_2 : Int) (a1 : Value) (a2_0 : Int) (a2_1 : Int) (a2_2 : Int) (a2_3 : Int) (a2_4 : Int) (h0 : Heap) : execG Try.prog cfg X rc md 117 (replS (bodyOf Try.prog 5) [([1, 1, 1, 1, 1, 0, 1, 0], 0), ([1, 1, 1, 1, 1, 1], 1)]) (retK Try.prog cfg 5 (rsOf Try.prog 5) h0) (args0 [(.agg #[(.int .i64 a0_0), (.int .i64 a0_1), (.int .i64 a0_2)]), a1, (.agg #[(.int .i64 a2_0), (.int .i64 a2_1), (.int .i64 a2_2), (.int .i64 a2_3), (.int .i64 a2_4)])]) h0 = F5H rc md (X 0) a0_0 a0_1 a0_2 a1 a2_0 a2_1 a2_2 a2_3 a2_4 h0 := by kernel_rfl
theorem F5_h2 (rc : Rec) (md : Md) (a0_0 : Int) (a0_1 : Int) (a0_2 : Int) (a1 : Value) (a2_0 : Int) (a2_1 : Int) (a2_2 : Int) (a2_3 : Int) (a2_4 : Int) (h0 : Heap) : F5H rc md (fun t h => J5_0 rc md h0 (t 5) (t 6) (t 9) (t 40) (t 41) (t 42) h) a0_0 a0_1 a0_2 a1 a2_0 a2_1 a2_2 a2_3 a2_4 h0 = F5 rc md a0_0 a0_1 a0_2 a1 a2_0 a2_1 a2_2 a2_3 a2_4 h0 := by unfold F5H F5; kernel_rfl
theorem F5_eq0 (rc : Rec) (md : Md) (a0_0 : Int) (a0_1 : Int) (a0_2 : Int) (a1 : Value) (a2_0 : Int) (a2_1 : Int) (a2_2 : Int) (a2_3 : Int) (a2_4 : Int) (h0 : Heap) : callStep0 Try.prog cfg rc md 5 [(.agg #[(.int .i64 a0_0), (.int .i64 a0_1), (.int .i64 a0_2)]), a1, (.agg #[(.int .i64 a2_0), (.int .i64 a2_1), (.int .i64 a2_2), (.int .i64 a2_3), (.int .i64 a2_4)])] h0 = F5 rc ⟨md.ro, h0.length⟩ a0_0 a0_1 a0_2 a1 a2_0 a2_1 a2_2 a2_3 a2_4 h0 := by
  rw [F5_h0, exec_holes [([1, 1, 1, 1, 1, 0, 1, 0], 0), ([1, 1, 1, 1, 1, 1], 1)] (by kernel_rfl), F5_h1, show (goX Try.prog cfg rc ⟨md.ro, h0.length⟩ 117 (bodyOf Try.prog 5) [([1, 1, 1, 1, 1, 0, 1, 0], 0), ([1, 1, 1, 1, 1, 1], 1)] (retK Try.prog cfg 5 (rsOf Try.prog 5) h0)) 0 = _ from J5_0_cut rc ⟨md.ro, h0.length⟩ h0]
  exact F5_h2 rc _ a0_0 a0_1 a0_2 a1 a2_0 a2_1 a2_2 a2_3 a2_4 h0
theorem F5_eq (rc : Rec) (md : Md) (a0_0 : Int) (a0_1 : Int) (a0_2 : Int) (a1 : Value) (a2_0 : Int) (a2_1 : Int) (a2_2 : Int) (a2_3 : Int) (a2_4 : Int) (h0 : Heap) : callStep Try.prog cfg rc md 5 [(.agg #[(.int .i64 a0_0), (.int .i64 a0_1), (.int .i64 a0_2)]), a1, (.agg #[(.int .i64 a2_0), (.int .i64 a2_1), (.int .i64 a2_2), (.int .i64 a2_3), (.int .i64 a2_4)])] h0 = F5 rc ⟨md.ro, h0.length⟩ a0_0 a0_1 a0_2 a1 a2_0 a2_1 a2_2 a2_3 a2_4 h0 := (callStep_ne (by kernel_rfl)).trans (F5_eq0 rc md a0_0 a0_1 a0_2 a1 a2_0 a2_1 a2_2 a2_3 a2_4 h0)

end Go.Det.E
