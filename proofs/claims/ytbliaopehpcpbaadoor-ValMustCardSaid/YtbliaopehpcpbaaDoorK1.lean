/- Values of any kind: what they are, what is told of them. -/
import Derived.Test.YtbliaopehpcpbaaDoorE1
import Derived.Test.YtbliaopehpcpbaaDoorN1
import Derived.Test.YtbliaopehpcpbaaDoorDetS
import Derived.Test.YtbliaopehpcpbaaDoorDetW
set_option autoImplicit false
set_option linter.unusedVariables false
set_option linter.unusedSimpArgs false
namespace Go.Det.E
open Go.Proofs Go.Det
attribute [local congr] bind_c cond_c
/-- A value in parts. -/
structure Raw where
  k : Int
  n : Int
  s : ByteArray
  r : Int
abbrev encR (x : Raw) : List Value := [(Value.int .i64 x.k), (Value.int .i64 x.n), .string x.s, .int .i32 x.r]
theorem encR_len (x : Raw) : (encR x).length = 4 := rfl
theorem encR_cell (x : Raw) : (encR x).all isCell = true := rfl
/-- The value of parts. -/
def mv (x : Raw) : Value :=
  if x.k = 1 then .iface 3 (.int .i64 x.n) else if x.k = 2 then .iface 9 (.string x.s) else if x.k = 3 then .iface 21 (.int .i32 x.r)
  else if x.k = 4 then .iface 47 (.float .f64 (FloatKind.f64.nearest x.n)) else .nilIface
abbrev encM (x : Raw) : List Value := [mv x]
theorem encM_len (x : Raw) : (encM x).length = 1 := rfl
theorem mv_cell (x : Raw) : isCell (mv x) = true := by unfold mv; repeat' (split <;> try rfl)
theorem encM_cell (x : Raw) : (encM x).all isCell = true := by simp [mv_cell]
/-- The kinds. -/
inductive KC (x : Raw) : Prop
  | num (h : x.k = 1) (e : mv x = .iface 3 (.int .i64 x.n))
  | str (h : x.k = 2) (e : mv x = .iface 9 (.string x.s))
  | sgn (h : x.k = 3) (e : mv x = .iface 21 (.int .i32 x.r))
  | flt (h : x.k = 4) (e : mv x = .iface 47 (.float .f64 (FloatKind.f64.nearest x.n)))
  | nil (h : x.k ≠ 1 ∧ x.k ≠ 2 ∧ x.k ≠ 3 ∧ x.k ≠ 4) (e : mv x = .nilIface)
theorem kc (x : Raw) : KC x := by
  by_cases h1 : x.k = 1
  · exact .num h1 (if_pos h1)
  by_cases h2 : x.k = 2
  · exact .str h2 (by rw [mv, if_neg h1, if_pos h2])
  by_cases h3 : x.k = 3
  · exact .sgn h3 (by rw [mv, if_neg h1, if_neg h2, if_pos h3])
  by_cases h4 : x.k = 4
  · exact .flt h4 (by rw [mv, if_neg h1, if_neg h2, if_neg h3, if_pos h4])
  exact .nil ⟨h1, h2, h3, h4⟩ (by rw [mv, if_neg h1, if_neg h2, if_neg h3, if_neg h4])
def kd (x : Raw) : Int := if 1 ≤ x.k ∧ x.k ≤ 3 then x.k else 0
/-- Are two the same, by their parts? -/
def sm (x y : Raw) : Bool :=
  if kd x ≠ kd y then false else if kd x = 1 then x.n == y.n else if kd x = 2 then x.s.data.toList == y.s.data.toList else if kd x = 3 then x.r == y.r else false
section
variable {α : Type} (k : Value → Option α)
/-- What a look at a value's type tells. -/
theorem as_same {t : TypeId} {v : Value} {d : TypeDesc} (hu : Tryd.prog.underlying t = some d) (hd : ∀ m, d ≠ .interface m) : aAssert Tryd.prog (.iface t v) t true k = k ((Value.tuple #[v, .bool true])) := by
  unfold aAssert; rw [hu]; cases d <;> first | exact absurd rfl (hd _) | simp
theorem as_else {t u : TypeId} {v z : Value} {d : TypeDesc} (hu : Tryd.prog.underlying t = some d) (hd : ∀ m, d ≠ .interface m) (hz : zeroV Tryd.prog t = some z) (hne : u ≠ t) : aAssert Tryd.prog (.iface u v) t true k = k ((Value.tuple #[z, .bool false])) := by
  unfold zeroV at hz
  unfold aAssert; rw [hu]
  cases hi : Tryd.prog.info? t with
  | none => simp [hi] at hz
  | some i =>
    cases hz0 : i.zero with
    | none => simp [hi, hz0] at hz
    | some z0 =>
      simp only [hi, hz0] at hz
      split at hz
      · rename_i hc
        cases hz
        cases d <;> first | exact absurd rfl (hd _) | simp [hne, hz0, hc]
      · cases hz
theorem as_nil {t : TypeId} {z : Value} {d : TypeDesc} (hu : Tryd.prog.underlying t = some d) (hd : ∀ m, d ≠ .interface m) (hz : zeroV Tryd.prog t = some z) : aAssert Tryd.prog .nilIface t true k = k ((Value.tuple #[z, .bool false])) := by
  unfold zeroV at hz
  unfold aAssert; rw [hu]
  cases hi : Tryd.prog.info? t with
  | none => simp [hi] at hz
  | some i =>
    cases hz0 : i.zero with
    | none => simp [hi, hz0] at hz
    | some z0 =>
      simp only [hi, hz0] at hz
      split at hz
      · rename_i hc
        cases hz
        cases d <;> first | exact absurd rfl (hd _) | simp [hz0, hc]
      · cases hz
theorem uI : Tryd.prog.underlying 3 = some (.int .i64) := by kernel_rfl
theorem uS : Tryd.prog.underlying 9 = some .string := by kernel_rfl
theorem uR : Tryd.prog.underlying 21 = some (.int .i32) := by kernel_rfl
theorem uF : Tryd.prog.underlying 47 = some (.float .f64) := by kernel_rfl
theorem uL : Tryd.prog.underlying 33 = some (.slice 20) := by kernel_rfl
theorem zI : zeroV Tryd.prog 3 = some ((Value.int .i64 0)) := by kernel_rfl
theorem zS : zeroV Tryd.prog 9 = some (.string ⟨#[]⟩) := by kernel_rfl
theorem zR : zeroV Tryd.prog 21 = some (.int .i32 0) := by kernel_rfl
theorem zL : zeroV Tryd.prog 33 = some (.slice none 0 0) := by kernel_rfl
variable {u : TypeId} {v : Value}
theorem aI_y {n : Int} : aAssert Tryd.prog (.iface 3 (.int .i64 n)) 3 true k = k ((Value.tuple #[(Value.int .i64 n), .bool true])) := as_same k uI (by intro m h; cases h)
theorem aI_n (h : u ≠ 3) : aAssert Tryd.prog (.iface u v) 3 true k = k ((Value.tuple #[(Value.int .i64 0), .bool false])) := as_else k uI (by intro m h; cases h) zI h
theorem aI_z : aAssert Tryd.prog .nilIface 3 true k = k ((Value.tuple #[(Value.int .i64 0), .bool false])) := as_nil k uI (by intro m h; cases h) zI
theorem aS_y {n : ByteArray} : aAssert Tryd.prog (.iface 9 (.string n)) 9 true k = k ((Value.tuple #[.string n, .bool true])) := as_same k uS (by intro m h; cases h)
theorem aS_n (h : u ≠ 9) : aAssert Tryd.prog (.iface u v) 9 true k = k ((Value.tuple #[.string ⟨#[]⟩, .bool false])) := as_else k uS (by intro m h; cases h) zS h
theorem aS_z : aAssert Tryd.prog .nilIface 9 true k = k ((Value.tuple #[.string ⟨#[]⟩, .bool false])) := as_nil k uS (by intro m h; cases h) zS
theorem aR_y {n : Int} : aAssert Tryd.prog (.iface 21 (.int .i32 n)) 21 true k = k ((Value.tuple #[.int .i32 n, .bool true])) := as_same k uR (by intro m h; cases h)
theorem aR_n (h : u ≠ 21) : aAssert Tryd.prog (.iface u v) 21 true k = k ((Value.tuple #[.int .i32 0, .bool false])) := as_else k uR (by intro m h; cases h) zR h
theorem aR_z : aAssert Tryd.prog .nilIface 21 true k = k ((Value.tuple #[.int .i32 0, .bool false])) := as_nil k uR (by intro m h; cases h) zR
theorem aL_y {v : Value} : aAssert Tryd.prog (.iface 33 v) 33 true k = k ((Value.tuple #[v, .bool true])) := as_same k uL (by intro m h; cases h)
theorem aL_n (h : u ≠ 33) : aAssert Tryd.prog (.iface u v) 33 true k = k ((Value.tuple #[.slice none 0 0, .bool false])) := as_else k uL (by intro m h; cases h) zL h
theorem aL_z : aAssert Tryd.prog .nilIface 33 true k = k ((Value.tuple #[.slice none 0 0, .bool false])) := as_nil k uL (by intro m h; cases h) zL
end
variable {md : Md} {h hh h' : Heap} {x y : Raw} {xs ys l : List Raw} {v : Value}
theorem cv_f {α : Type} {n : Int} (k : Value → Option α) : aConv Tryd.prog 3 47 (.int .i64 n) k = k (.float .f64 (FloatKind.f64.nearest n)) := by kernel_rfl
theorem made_s (md : Md) (h : Heap) (x : Raw) : C md 9 [.agg #[(Value.int .i64 x.k), (Value.int .i64 x.n), .string x.s, .int .i32 x.r]] h = some (mv x, h) := by
  rw [C, call_eq, F9_eq]
  unfold F9
  rcases kc x with ⟨h1, e⟩ | ⟨h1, e⟩ | ⟨h1, e⟩ | ⟨h1, e⟩ | ⟨h1, e⟩
  · rw [e]; simp only [go_sem, Nat.reduceAdd, Nat.reduceLeDiff, Nat.reduceMul, Int.reduceBEq, Int.reduceBNe, Int.reduceLT, Int.reduceLE, Int.reduceGT, h1]; try rfl
  · rw [e]; simp only [go_sem, Nat.reduceAdd, Nat.reduceLeDiff, Nat.reduceMul, Int.reduceBEq, Int.reduceBNe, Int.reduceLT, Int.reduceLE, Int.reduceGT, h1]; try rfl
  · rw [e]; simp only [go_sem, Nat.reduceAdd, Nat.reduceLeDiff, Nat.reduceMul, Int.reduceBEq, Int.reduceBNe, Int.reduceLT, Int.reduceLE, Int.reduceGT, h1]; try rfl
  · rw [e]; simp only [go_sem, Nat.reduceAdd, Nat.reduceLeDiff, Nat.reduceMul, Int.reduceBEq, Int.reduceBNe, Int.reduceLT, Int.reduceLE, Int.reduceGT, h1, cv_f]; try rfl
  · rw [e]
    obtain ⟨g1, g2, g3, g4⟩ := h1
    have b1 : (x.k == 1) = false := by simpa using g1
    have b2 : (x.k == 2) = false := by simpa using g2
    have b3 : (x.k == 3) = false := by simpa using g3
    have b4 : (x.k == 4) = false := by simpa using g4
    simp only [go_sem, Nat.reduceAdd, Nat.reduceLeDiff, Nat.reduceMul, Int.reduceBEq, Int.reduceBNe, Int.reduceLT, Int.reduceLE, Int.reduceGT, b1, b2, b3, b4]
theorem rkind_s (md : Md) (h : Heap) (x : Raw) : C md 14 [.agg #[(Value.int .i64 x.k), (Value.int .i64 x.n), .string x.s, .int .i32 x.r]] h = some ((Value.int .i64 (kd x)), h) := by
  rw [C, call_eq, F14_eq]
  unfold F14 kd
  by_cases h1 : 1 ≤ x.k
  · by_cases h2 : x.k ≤ 3
    · have e : (1 ≤ x.k ∧ x.k ≤ 3) := ⟨h1, h2⟩
      simp only [go_sem, Nat.reduceAdd, Nat.reduceLeDiff, Nat.reduceMul, Int.reduceBEq, Int.reduceBNe, Int.reduceLT, Int.reduceLE, Int.reduceGT, ge_iff_le, h1, h2, aBin_leq, e, and_self]
    · have e : ¬ (1 ≤ x.k ∧ x.k ≤ 3) := fun e => h2 e.2
      simp only [go_sem, Nat.reduceAdd, Nat.reduceLeDiff, Nat.reduceMul, Int.reduceBEq, Int.reduceBNe, Int.reduceLT, Int.reduceLE, Int.reduceGT, ge_iff_le, h1, h2, aBin_leq, e, and_false]
  · have e : ¬ (1 ≤ x.k ∧ x.k ≤ 3) := fun e => h1 e.1
    simp only [go_sem, Nat.reduceAdd, Nat.reduceLeDiff, Nat.reduceMul, Int.reduceBEq, Int.reduceBNe, Int.reduceLT, Int.reduceLE, Int.reduceGT, ge_iff_le, h1, e, false_and]
/-- What a value's looks tell. -/
structure Lk (v : Value) (n : Int) (bn : Bool) (s : ByteArray) (bs : Bool) (c : Int) (bc : Bool) (l : Value) (bl : Bool) : Prop where
  i : ∀ {α : Type} (k : Value → Option α), aAssert Tryd.prog v 3 true k = k ((Value.tuple #[(Value.int .i64 n), .bool bn]))
  s : ∀ {α : Type} (k : Value → Option α), aAssert Tryd.prog v 9 true k = k ((Value.tuple #[.string s, .bool bs]))
  r : ∀ {α : Type} (k : Value → Option α), aAssert Tryd.prog v 21 true k = k ((Value.tuple #[.int .i32 c, .bool bc]))
  l : ∀ {α : Type} (k : Value → Option α), aAssert Tryd.prog v 33 true k = k ((Value.tuple #[l, .bool bl]))
theorem lk_i (n : Int) : Lk (.iface 3 (.int .i64 n)) n true ⟨#[]⟩ false 0 false (.slice none 0 0) false := ⟨fun k => aI_y k, fun k => aS_n k (by decide), fun k => aR_n k (by decide), fun k => aL_n k (by decide)⟩
theorem lk_s (n : ByteArray) : Lk (.iface 9 (.string n)) 0 false n true 0 false (.slice none 0 0) false := ⟨fun k => aI_n k (by decide), fun k => aS_y k, fun k => aR_n k (by decide), fun k => aL_n k (by decide)⟩
theorem lk_r (n : Int) : Lk (.iface 21 (.int .i32 n)) 0 false ⟨#[]⟩ false n true (.slice none 0 0) false := ⟨fun k => aI_n k (by decide), fun k => aS_n k (by decide), fun k => aR_y k, fun k => aL_n k (by decide)⟩
theorem lk_f (v : Value) : Lk (.iface 47 v) 0 false ⟨#[]⟩ false 0 false (.slice none 0 0) false := ⟨fun k => aI_n k (by decide), fun k => aS_n k (by decide), fun k => aR_n k (by decide), fun k => aL_n k (by decide)⟩
theorem lk_l (v : Value) : Lk (.iface 33 v) 0 false ⟨#[]⟩ false 0 false v true := ⟨fun k => aI_n k (by decide), fun k => aS_n k (by decide), fun k => aR_n k (by decide), fun k => aL_y k⟩
theorem lk_z : Lk .nilIface 0 false ⟨#[]⟩ false 0 false (.slice none 0 0) false := ⟨fun k => aI_z k, fun k => aS_z k, fun k => aR_z k, fun k => aL_z k⟩
section
variable {n c : Int} {bn bs bc bl : Bool} {s : ByteArray} {l v : Value}
theorem num_s (L : Lk v n bn s bs c bc l bl) (md : Md) (h : Heap) : C md 10 [v] h = some ((Value.tuple #[(Value.int .i64 n), .bool bn]), h) := by
  have li := fun {α : Type} (k : Value → Option α) => L.i k
  rw [C, call_eq, F10_eq]
  unfold F10
  simp only [go_sem, Nat.reduceAdd, Nat.reduceLeDiff, Nat.reduceMul, Int.reduceBEq, Int.reduceBNe, Int.reduceLT, Int.reduceLE, Int.reduceGT, li]
theorem str_s (L : Lk v n bn s bs c bc l bl) (md : Md) (h : Heap) : C md 11 [v] h = some ((Value.tuple #[.string s, .bool bs]), h) := by
  have li := fun {α : Type} (k : Value → Option α) => L.s k
  rw [C, call_eq, F11_eq]
  unfold F11
  simp only [go_sem, Nat.reduceAdd, Nat.reduceLeDiff, Nat.reduceMul, Int.reduceBEq, Int.reduceBNe, Int.reduceLT, Int.reduceLE, Int.reduceGT, li]
theorem rune_s (L : Lk v n bn s bs c bc l bl) (md : Md) (h : Heap) : C md 12 [v] h = some ((Value.tuple #[.int .i32 c, .bool bc]), h) := by
  have li := fun {α : Type} (k : Value → Option α) => L.r k
  rw [C, call_eq, F12_eq]
  unfold F12
  simp only [go_sem, Nat.reduceAdd, Nat.reduceLeDiff, Nat.reduceMul, Int.reduceBEq, Int.reduceBNe, Int.reduceLT, Int.reduceLE, Int.reduceGT, li]
theorem items_s (L : Lk v n bn s bs c bc l bl) (hb : below2 h.length l = true) (md : Md) : C md 13 [v] h = some ((Value.tuple #[l, .bool bl]), h) := by
  have li := fun {α : Type} (k : Value → Option α) => L.l k
  rw [C, call_eq, F13_eq]
  unfold F13
  simp only [go_sem, Nat.reduceAdd, Nat.reduceLeDiff, Nat.reduceMul, Int.reduceBEq, Int.reduceBNe, Int.reduceLT, Int.reduceLE, Int.reduceGT, li, hb]
theorem kind_s (L : Lk v n bn s bs c bc l bl) (md : Md) (h : Heap) : C md 15 [v] h = some ((Value.int .i64 (bif bn then 1 else bif bs then 2 else bif bc then 3 else bif bl then 4 else 0)), h) := by
  have l1 := fun {α : Type} (k : Value → Option α) => L.i k
  have l2 := fun {α : Type} (k : Value → Option α) => L.s k
  have l3 := fun {α : Type} (k : Value → Option α) => L.r k
  have l4 := fun {α : Type} (k : Value → Option α) => L.l k
  rw [C, call_eq, F15_eq]
  unfold F15
  cases bn
  · cases bs
    · cases bc
      · cases bl <;> simp only [go_sem, Nat.reduceAdd, Nat.reduceLeDiff, Nat.reduceMul, Int.reduceBEq, Int.reduceBNe, Int.reduceLT, Int.reduceLE, Int.reduceGT, l1, l2, l3, l4]
      · simp only [go_sem, Nat.reduceAdd, Nat.reduceLeDiff, Nat.reduceMul, Int.reduceBEq, Int.reduceBNe, Int.reduceLT, Int.reduceLE, Int.reduceGT, l1, l2, l3]
    · simp only [go_sem, Nat.reduceAdd, Nat.reduceLeDiff, Nat.reduceMul, Int.reduceBEq, Int.reduceBNe, Int.reduceLT, Int.reduceLE, Int.reduceGT, l1, l2]
  · simp only [go_sem, Nat.reduceAdd, Nat.reduceLeDiff, Nat.reduceMul, Int.reduceBEq, Int.reduceBNe, Int.reduceLT, Int.reduceLE, Int.reduceGT, l1]
end
/-- The looks at a value of parts. -/
theorem lk (x : Raw) : ∃ n bn s bs c bc, Lk (mv x) n bn s bs c bc (.slice none 0 0) false := by
  rcases kc x with ⟨h1, e⟩ | ⟨h1, e⟩ | ⟨h1, e⟩ | ⟨h1, e⟩ | ⟨h1, e⟩ <;> rw [e]
  · exact ⟨_, _, _, _, _, _, lk_i _⟩
  · exact ⟨_, _, _, _, _, _, lk_s _⟩
  · exact ⟨_, _, _, _, _, _, lk_r _⟩
  · exact ⟨_, _, _, _, _, _, lk_f _⟩
  · exact ⟨_, _, _, _, _, _, lk_z⟩
theorem tM : SlT Tryd.prog 33 20 1 16 [.nilIface] := ⟨by kernel_rfl, by kernel_rfl, by kernel_rfl, rfl, by decide, by decide, rfl⟩
theorem bs_1 {α : Type} {v : Value} (hv : v.cells.toList = [v]) (h : Heap) (k : Value → Heap → Option α) : aBuildSlice Tryd.prog 33 1 [(0, v)] h k = k ((Value.slice (some ⟨h.length, 0, none⟩) 1 1)) (h ++ [.own [v]]) := by
  obtain ⟨j, hj, e1, e2⟩ := tM.info
  unfold aBuildSlice
  simp only [tM.hu, hj, tM.hz, e1]
  rw [if_pos ⟨rfl, by decide, by decide⟩, if_pos tM.hsc]
  simp [repL, fillL, hv, lay]
theorem cells_mv (x : Raw) : (mv x).cells.toList = [mv x] := by
  rcases kc x with ⟨h1, e⟩ | ⟨h1, e⟩ | ⟨h1, e⟩ | ⟨h1, e⟩ | ⟨h1, e⟩ <;> rw [e] <;> rfl
theorem list_lp {h0 : Heap} {s2 : Value} (SV : Sl hh 4 encR v l) (hlen : l.length ≤ 1000) (hro : md.ro ≤ hh.length) (hlim : md.lim ≤ hh.length) : ∀ (m j : Nat) (k : Heap) (s3 : Value), j + m = l.length → SlO k hh.length 1 encM s3 (l.take j) → Old hh.length hh k →
    ∃ k' s3', J16_0 C md h0 s2 s3 v ((Value.int .i64 ((l.length : Int)))) ((Value.int .i64 ((j : Int)))) k = some (s3', k') ∧ SlO k' hh.length 1 encM s3' l ∧ Old hh.length hh k' := by
  intro m
  induction m with
  | zero =>
    intro j k s3 hj S O
    obtain rfl : j = l.length := by omega
    refine ⟨k, s3, ?_, by simpa using S, O⟩
    rw [J16_0_step]
    unfold Jr16_0
    simp only [go_sem, Nat.reduceAdd, Nat.reduceLeDiff, Nat.reduceMul, Int.reduceBEq, Int.reduceBNe, Int.reduceLT, Int.reduceLE, Int.reduceGT, aBin_lss, Int.lt_irrefl, Jk16_0]
  | succ m ih =>
    intro j k s3 hj S O
    have hlt : (j : Int) < (l.length : Int) := by omega
    obtain ⟨x, hx⟩ : ∃ x, l[j]? = some x := ⟨l[j]'(by omega), List.getElem?_eq_getElem (by omega)⟩
    have S0 : Sl k 4 encR v l := SV.heap fun hl => O.old _ hl
    have ix := fun {α : Type} (kk : Value → Option α) => S0.ix (i := (j : Int)) (by omega) hlt kk
    have el := S0.elem hx
    have ol := O.len
    have w : IntKind.wrap .i64 ((j : Int) + 1) = ((j + 1 : Nat) : Int) := by rw [IntKind.wrap_i64]; omega
    have stx := fun (h' : Heap) (kk : Heap → Option (((Value × Value × Value × Value × Value) × Heap) ⊕ (Exit × (Value × Value × Value × Value × Value) × Heap))) => st_N md 4 k.length 0 (encR x) h' kk rfl rfl
    obtain ⟨h6, e6⟩ : ∃ h6, h6 = k ++ [Blk.own (encR x)] := ⟨_, rfl⟩
    have b6 : h6[k.length]? = some (.own (encR x)) := by rw [e6]; simp
    have q6 : rdN h6 k.length 0 4 = some (encR x) := by rw [rdN_own b6 (by simp)]; rfl
    have w6 : wrN md (k ++ [Blk.own [(Value.int .i64 0), (Value.int .i64 0), .string ⟨#[]⟩, .int .i32 0]]) k.length 0 (encR x) = some h6 := by
      have g1 : md.ro ≤ k.length := by omega
      have g2 : md.lim ≤ k.length := by omega
      rw [e6]; simp only [go_sem, Nat.reduceAdd, Nat.reduceLeDiff, Nat.reduceMul, Int.reduceBEq, Int.reduceBNe, Int.reduceLT, Int.reduceLE, Int.reduceGT, g1, g2]
    have O6 : Old hh.length hh h6 := by rw [e6]; exact O.trans (Old.app _ ol)
    have S6 : SlO h6 hh.length 1 encM s3 (l.take j) := by rw [e6]; exact S.at fun y h1 h2 => List.getElem?_append_left h2
    have l6 := O6.len
    obtain ⟨v2, h2, ea, S2, O2⟩ := append_own (md := md) (ys := [x]) tM S6 hro l6 (cs := [mv x]) (by simp [flat]) (by simp) (by simp [mv_cell]) (by simp; omega)
    have ea' : ∀ {α : Type} (kk : Value → Heap → Option α), aBuiltin Tryd.prog md .append #[33, 33] [s3, (Value.slice (some ⟨h6.length, 0, none⟩) 1 1)] (h6 ++ [Blk.own [mv x]]) kk = kk v2 h2 := fun kk => ea kk
    have tk : l.take j ++ [x] = l.take (j + 1) := by rw [List.take_add_one, hx]; rfl
    rw [tk] at S2
    have mk := fun (m : Md) (g : Heap) => made_s m g x
    have bs := fun {α : Type} (g : Heap) (kk : Value → Heap → Option α) => bs_1 (cells_mv x) g kk
    obtain ⟨k', s3', e', S', O'⟩ := ih (j + 1) h2 v2 (by omega) S2 (O6.trans O2)
    refine ⟨k', s3', ?_, S', O'⟩
    rw [J16_0_step]
    unfold Jr16_0
    simp only [go_sem, Nat.reduceAdd, Nat.reduceLeDiff, Nat.reduceMul, Int.reduceBEq, Int.reduceBNe, Int.reduceLT, Int.reduceLE, Int.reduceGT, aBin_lss, hlt, ix, el, stx, w6, q6, mk, bs, ea', aBin_add, w]
    exact e'
theorem list_s (md : Md) (hro : md.ro ≤ h.length) (hlim : md.lim ≤ h.length) (SV : Sl h 4 encR v l) (hlen : l.length ≤ 1000) :
    ∃ v' h', C md 16 [v] h = some (v', h') ∧ SlO h' h.length 1 encM v' l ∧ Old h.length h h' := by
  have len := fun {α : Type} (kk : Value → Option α) => SV.len kk
  obtain ⟨h', v', e, S, O⟩ := list_lp (md := md) (h0 := h) (s2 := .slice none 0 0) SV hlen hro hlim l.length 0 h (.slice none 0 0) (by omega) (by simpa using SlO.nil _ _ encM_len) (Old.refl _ _)
  refine ⟨v', h', ?_, S, O⟩
  rw [C, call_eq, F16_eq]
  unfold F16
  simp only [go_sem, Nat.reduceAdd, Nat.reduceLeDiff, Nat.reduceMul, Int.reduceBEq, Int.reduceBNe, Int.reduceLT, Int.reduceLE, Int.reduceGT, len]
  exact e
end Go.Det.E
