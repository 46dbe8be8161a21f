/- Values: their texts. -/
import Derived.Test.YtbliaopehpcpbaaDoorK4
import Derived.Lib.ItoaLen
set_option autoImplicit false
set_option linter.unusedVariables false
set_option linter.unusedSimpArgs false
namespace Go.Det.E
open Go.Proofs Go.Det
attribute [local congr] bind_c cond_c
abbrev bs (l : List UInt8) : ByteArray := ⟨l.toArray⟩
theorem bs_of (b : ByteArray) : b = bs b.data.toList := rfl
theorem bs_app (l m : List UInt8) : bs l ++ bs m = bs (l ++ m) := by
  apply ByteArray.ext
  rw [ByteArray.data_append]
  simp [bs]
theorem bs_size (l : List UInt8) : (bs l).size = l.length := rfl
theorem add_S {α : Type} {l m : List UInt8} {ty : TypeId} (h : l.length + m.length ≤ 9223372036854775807) (k : Value → Option α) : aBin Tryd.prog .add ty (.string (bs l)) (.string (bs m)) k = k (.string (bs (l ++ m))) := by
  have hn : ¬ (((bs l).size + (bs m).size : Nat) : Int) > IntKind.i64.max := by
    rw [bs_size, bs_size]
    show ¬ ((l.length + m.length : Nat) : Int) > 9223372036854775807
    omega
  simp only [aBin]
  rw [if_neg hn, bs_app]
theorem eq_S {α : Type} {l m : List UInt8} {ty : TypeId} (k : Value → Option α) : aBin Tryd.prog .eql ty (.string (bs l)) (.string (bs m)) k = k (.bool (l == m)) := by
  rw [aBin_eqS]
theorem cv_r {α : Type} {n : Int} (k : Value → Option α) : aConv Tryd.prog 21 9 (.int .i32 n) k = k (.string (Utf8.encode n)) := by kernel_rfl
variable {md : Md} {h hh h' : Heap} {x y : Raw} {l : List Raw} {v w a b s2 : Value} {n m : Nat}
theorem uU8 : Tryd.prog.underlying 50 = some (.slice 5) := by kernel_rfl
theorem uB8 : Tryd.prog.underlying 5 = some (.int .u8) := by kernel_rfl
theorem conv_1 {α : Type} {n : Int} (h : Heap) (k : Value → Option α) : aConvH Tryd.prog 50 9 ((Value.slice (some ⟨h.length, 0, none⟩) 1 1)) (h ++ [Blk.own [.int .u8 n]]) k = k (.string (bs [UInt8.ofNat n.toNat])) := by
  have r : rdN (h ++ [Blk.own [.int .u8 n]]) h.length 0 1 = some [.int .u8 n] := by rw [rdN_new0, rdN_zero]; rfl
  unfold aConvH
  simp only [uU8, uS, uB8, r, intsOf, if_true]
  rfl
theorem digits_n : ∀ (u : Nat), u < 9223372036854775808 → ∀ (md : Md) (h : Heap), C md 28 [(Value.int .i64 ((u : Int)))] h = some (.string (bs (Lib.decDigits u)), h) := by
  intro u
  induction u using Nat.strongRecOn with
  | _ u ih =>
    intro hu md h
    have nl : ¬ ((u : Int) < 0) := by omega
    rw [C, call_eq, F28_eq]
    unfold F28
    by_cases h10 : u < 10
    · have l10 : ((u : Int) < 10) := by omega
      have w : IntKind.wrap .u8 (IntKind.wrap .i64 (48 + (u : Int))) = ((48 + u : Nat) : Int) := by rw [IntKind.wrap_i64, IntKind.wrap_u8]; omega
      have cv : ∀ {α : Type} (k : Value → Option α), aConvH Tryd.prog 50 9 ((Value.slice (some ⟨0, 0, none⟩) 1 1)) [Blk.own [.int .u8 ((48 + u : Nat) : Int)]] k = k (.string (bs [UInt8.ofNat ((48 + u : Nat) : Int).toNat])) := fun k => conv_1 [] k
      rw [Lib.decDigits, dif_pos h10]
      have tn : ((48 + u : Nat) : Int).toNat = 48 + u := Int.toNat_natCast _
      rw [tn] at cv
      rw [w]
      simp only [go_sem, Nat.reduceAdd, Nat.reduceLeDiff, Nat.reduceMul, Int.reduceBEq, Int.reduceBNe, Int.reduceLT, Int.reduceLE, Int.reduceGT, nl, l10, cv]
    · have l10 : ¬ ((u : Int) < 10) := by omega
      have q : IntKind.wrap .i64 (Int.tdiv (u : Int) 10) = ((u / 10 : Nat) : Int) := by rw [Int.tdiv_eq_ediv_of_nonneg (by omega), IntKind.wrap_i64]; omega
      have r : IntKind.wrap .u8 (IntKind.wrap .i64 (48 + Int.tmod (u : Int) 10)) = ((48 + u % 10 : Nat) : Int) := by rw [Int.tmod_eq_emod_of_nonneg (by omega), IntKind.wrap_i64, IntKind.wrap_u8]; omega
      have e := fun (m : Md) (g : Heap) => ih (u / 10) (by omega) (by omega) m g
      have cv : ∀ {α : Type} (k : Value → Option α), aConvH Tryd.prog 50 9 ((Value.slice (some ⟨0, 0, none⟩) 1 1)) [Blk.own [.int .u8 ((48 + u % 10 : Nat) : Int)]] k = k (.string (bs [UInt8.ofNat ((48 + u % 10 : Nat) : Int).toNat])) := fun k => conv_1 [] k
      have tn : ((48 + u % 10 : Nat) : Int).toNat = 48 + u % 10 := Int.toNat_natCast _
      rw [tn] at cv
      have ll : (Lib.decDigits (u / 10)).length ≤ 20 := by
        rw [Lib.decDigits_eq, List.length_map, List.length_range]
        exact Lib.nDigits_le20 _ (by omega)
      have ad := fun {α : Type} (k : Value → Option α) => add_S (l := Lib.decDigits (u / 10)) (m := [UInt8.ofNat (48 + u % 10)]) (ty := 9) (by simp; omega) k
      rw [Lib.decDigits, dif_neg h10, q, r]
      simp only [go_sem, Nat.reduceAdd, Nat.reduceLeDiff, Nat.reduceMul, Int.reduceBEq, Int.reduceBNe, Int.reduceLT, Int.reduceLE, Int.reduceGT, nl, l10, e, cv, ad]
theorem digits_s {n : Int} (h0 : -9223372036854775808 ≤ n) (h1 : n ≤ 9223372036854775807) (md : Md) (h : Heap) : C md 28 [(Value.int .i64 n)] h = some (.string (bs (Lib.itoa n)), h) := by
  by_cases hn : n < 0
  · rw [C, call_eq, F28_eq]
    unfold F28
    by_cases hm : n = -9223372036854775808
    · have e : (n == -9223372036854775808) = true := by rw [hm]; rfl
      have q : Lib.itoa n = [45, 57, 50, 50, 51, 51, 55, 50, 48, 51, 54, 56, 53, 52, 55, 55, 53, 56, 48, 56] := by
        rw [hm]; unfold Lib.itoa
        rw [if_pos (by decide)]
        have : Lib.decDigits (Int.natAbs (-9223372036854775808)) = [57, 50, 50, 51, 51, 55, 50, 48, 51, 54, 56, 53, 52, 55, 55, 53, 56, 48, 56] := by
          have st : ∀ (a b : Nat) (l : List UInt8) (c : UInt8), 10 ≤ a → a / 10 = b → UInt8.ofNat (48 + a % 10) = c → Lib.decDigits b = l → Lib.decDigits a = l ++ [c] := fun a b l c h1 h2 h3 h4 => by rw [Lib.decDigits, dif_neg (by omega), h2, h3, h4]
          have s0 : Lib.decDigits 9 = [57] := by rw [Lib.decDigits]; rfl
          have s1 := st 92 9 _ 50 (by decide) (by decide) (by decide) s0
          have s2 := st 922 92 _ 50 (by decide) (by decide) (by decide) s1
          have s3 := st 9223 922 _ 51 (by decide) (by decide) (by decide) s2
          have s4 := st 92233 9223 _ 51 (by decide) (by decide) (by decide) s3
          have s5 := st 922337 92233 _ 55 (by decide) (by decide) (by decide) s4
          have s6 := st 9223372 922337 _ 50 (by decide) (by decide) (by decide) s5
          have s7 := st 92233720 9223372 _ 48 (by decide) (by decide) (by decide) s6
          have s8 := st 922337203 92233720 _ 51 (by decide) (by decide) (by decide) s7
          have s9 := st 9223372036 922337203 _ 54 (by decide) (by decide) (by decide) s8
          have s10 := st 92233720368 9223372036 _ 56 (by decide) (by decide) (by decide) s9
          have s11 := st 922337203685 92233720368 _ 53 (by decide) (by decide) (by decide) s10
          have s12 := st 9223372036854 922337203685 _ 52 (by decide) (by decide) (by decide) s11
          have s13 := st 92233720368547 9223372036854 _ 55 (by decide) (by decide) (by decide) s12
          have s14 := st 922337203685477 92233720368547 _ 55 (by decide) (by decide) (by decide) s13
          have s15 := st 9223372036854775 922337203685477 _ 53 (by decide) (by decide) (by decide) s14
          have s16 := st 92233720368547758 9223372036854775 _ 56 (by decide) (by decide) (by decide) s15
          have s17 := st 922337203685477580 92233720368547758 _ 48 (by decide) (by decide) (by decide) s16
          have s18 := st 9223372036854775808 922337203685477580 _ 56 (by decide) (by decide) (by decide) s17
          exact s18
        rw [this]
      have lt : n < 0 := hn
      rw [q]
      simp only [go_sem, Nat.reduceAdd, Nat.reduceLeDiff, Nat.reduceMul, Int.reduceBEq, Int.reduceBNe, Int.reduceLT, Int.reduceLE, Int.reduceGT, lt, e]
    · have e : (n == -9223372036854775808) = false := by simpa using hm
      obtain ⟨u, rfl⟩ : ∃ u : Nat, n = -(u : Int) := ⟨n.natAbs, by omega⟩
      have w : IntKind.wrap .i64 (0 - -(u : Int)) = (u : Int) := by rw [IntKind.wrap_i64]; omega
      have d := fun (m : Md) (g : Heap) => digits_n u (by omega) m g
      have q : Lib.itoa (-(u : Int)) = [45] ++ Lib.decDigits u := by
        unfold Lib.itoa; rw [if_pos hn, Int.natAbs_neg, Int.natAbs_natCast]; rfl
      have ll : (Lib.decDigits u).length ≤ 20 := by
        rw [Lib.decDigits_eq, List.length_map, List.length_range]
        exact Lib.nDigits_le20 _ (by omega)
      have ad : ∀ {α : Type} (k : Value → Option α), aBin Tryd.prog .add 9 (.string ⟨#[45]⟩) (.string (bs (Lib.decDigits u))) k = k (.string (bs ([45] ++ Lib.decDigits u))) := fun k => add_S (l := [45]) (m := Lib.decDigits u) (by simp; omega) k
      rw [q, w]
      simp only [go_sem, Nat.reduceAdd, Nat.reduceLeDiff, Nat.reduceMul, Int.reduceBEq, Int.reduceBNe, Int.reduceLT, Int.reduceLE, Int.reduceGT, hn, e, d, ad]
  · obtain ⟨u, rfl⟩ : ∃ u : Nat, n = (u : Int) := ⟨n.toNat, by omega⟩
    have q : Lib.itoa (u : Int) = Lib.decDigits u := by unfold Lib.itoa; rw [if_neg hn, Int.toNat_natCast]
    rw [q]
    exact digits_n u (by omega) md h
theorem itoa_s {n : Int} (h0 : -9223372036854775808 ≤ n) (h1 : n ≤ 9223372036854775807) (md : Md) (h : Heap) : C md 29 [(Value.int .i64 n)] h = some (.string (bs (Lib.itoa n)), h) := by
  rw [C, call_eq]
  refine callStep_ext (by kernel_rfl) (by kernel_rfl) ?_ rfl
  show extItoa ((Value.int .i64 n)) = _
  unfold extItoa
  exact if_pos ⟨h0, h1⟩
/-- A value's text. -/
def txt (x : Raw) : List UInt8 := if kd x = 1 then Lib.itoa x.n else if kd x = 2 then x.s.data.toList else if kd x = 3 then (Utf8.encode x.r).data.toList else [63]
theorem kdv {x : Raw} : (x.k = 1 → kd x = 1) ∧ (x.k = 2 → kd x = 2) ∧ (x.k = 3 → kd x = 3) ∧ (x.k = 4 → kd x = 0) ∧ (x.k ≠ 1 ∧ x.k ≠ 2 ∧ x.k ≠ 3 ∧ x.k ≠ 4 → kd x = 0) := by
  unfold kd
  refine ⟨fun g => ?_, fun g => ?_, fun g => ?_, fun g => ?_, fun g => ?_⟩
  · rw [if_pos (by omega), g]
  · rw [if_pos (by omega), g]
  · rw [if_pos (by omega), g]
  · rw [if_neg (by omega)]
  · rw [if_neg (by omega)]
theorem txt_len {x : Raw} (hx : RawOk x) : (txt x).length ≤ 140737488355328 := by
  unfold txt
  have hm : reachBytes ≤ 140737488355328 := by decide
  split
  · have := Lib.itoa_length_le x.n hx.2.1 hx.2.2.1; omega
  · split
    · have : x.s.data.toList.length = x.s.size := rfl
      have := hx.1; omega
    · split
      · have h := encode_size_le x.r
        have : (Utf8.encode x.r).data.toList.length = (Utf8.encode x.r).size := rfl
        omega
      · simp
theorem text_s (hx : RawOk x) (md : Md) (h : Heap) : C md 21 [.agg #[(Value.int .i64 x.k), (Value.int .i64 x.n), .string x.s, .int .i32 x.r]] h = some (.string (bs (txt x)), h) := by
  have rk := fun (m : Md) (g : Heap) => rkind_s m g x
  have dg := fun (m : Md) (g : Heap) => digits_s hx.2.1 hx.2.2.1 m g
  rw [C, call_eq, F21_eq]
  unfold F21 txt
  rcases kd_cases x with e | e | e | e
  · have b1 : (kd x == 1) = false := by rw [e]; rfl
    have b2 : (kd x == 2) = false := by rw [e]; rfl
    have b3 : (kd x == 3) = false := by rw [e]; rfl
    rw [if_neg (by omega), if_neg (by omega), if_neg (by omega)]
    simp only [go_sem, Nat.reduceAdd, Nat.reduceLeDiff, Nat.reduceMul, Int.reduceBEq, Int.reduceBNe, Int.reduceLT, Int.reduceLE, Int.reduceGT, rk, b1, b2, b3]
  · have b1 : (kd x == 1) = true := by rw [e]; rfl
    rw [if_pos e]
    simp only [go_sem, Nat.reduceAdd, Nat.reduceLeDiff, Nat.reduceMul, Int.reduceBEq, Int.reduceBNe, Int.reduceLT, Int.reduceLE, Int.reduceGT, rk, b1, dg]
  · have b1 : (kd x == 1) = false := by rw [e]; rfl
    have b2 : (kd x == 2) = true := by rw [e]; rfl
    rw [if_neg (by omega), if_pos e, ← bs_of]
    simp only [go_sem, Nat.reduceAdd, Nat.reduceLeDiff, Nat.reduceMul, Int.reduceBEq, Int.reduceBNe, Int.reduceLT, Int.reduceLE, Int.reduceGT, rk, b1, b2]
  · have b1 : (kd x == 1) = false := by rw [e]; rfl
    have b2 : (kd x == 2) = false := by rw [e]; rfl
    have b3 : (kd x == 3) = true := by rw [e]; rfl
    rw [if_neg (by omega), if_neg (by omega), if_pos e, ← bs_of]
    simp only [go_sem, Nat.reduceAdd, Nat.reduceLeDiff, Nat.reduceMul, Int.reduceBEq, Int.reduceBNe, Int.reduceLT, Int.reduceLE, Int.reduceGT, rk, b1, b2, b3, cv_r]
theorem say_m (hx : RawOk x) (md : Md) (h : Heap) : C md 22 [mv x] h = some (.string (bs (txt x)), h) := by
  obtain ⟨k1, k2, k3, k4, k5⟩ := kdv (x := x)
  rw [C, call_eq, F22_eq]
  unfold F22 txt
  rcases kc x with ⟨g, e⟩ | ⟨g, e⟩ | ⟨g, e⟩ | ⟨g, e⟩ | ⟨g, e⟩ <;> rw [e]
  · obtain ⟨L1, L2, L3, L4⟩ := lk_i x.n
    have it := fun (m : Md) (g : Heap) => itoa_s hx.2.1 hx.2.2.1 m g
    rw [if_pos (k1 g)]
    simp only [go_sem, Nat.reduceAdd, Nat.reduceLeDiff, Nat.reduceMul, Int.reduceBEq, Int.reduceBNe, Int.reduceLT, Int.reduceLE, Int.reduceGT, L1, it]
  · obtain ⟨L1, L2, L3, L4⟩ := lk_s x.s
    have q := k2 g
    rw [if_neg (by omega), if_pos q, ← bs_of]
    simp only [go_sem, Nat.reduceAdd, Nat.reduceLeDiff, Nat.reduceMul, Int.reduceBEq, Int.reduceBNe, Int.reduceLT, Int.reduceLE, Int.reduceGT, L1, L2]
  · obtain ⟨L1, L2, L3, L4⟩ := lk_r x.r
    have q := k3 g
    rw [if_neg (by omega), if_neg (by omega), if_pos q, ← bs_of]
    simp only [go_sem, Nat.reduceAdd, Nat.reduceLeDiff, Nat.reduceMul, Int.reduceBEq, Int.reduceBNe, Int.reduceLT, Int.reduceLE, Int.reduceGT, L1, L2, L3, cv_r]
  · obtain ⟨L1, L2, L3, L4⟩ := lk_f (.float .f64 (FloatKind.f64.nearest x.n))
    have q := k4 g
    rw [if_neg (by omega), if_neg (by omega), if_neg (by omega)]
    simp only [go_sem, Nat.reduceAdd, Nat.reduceLeDiff, Nat.reduceMul, Int.reduceBEq, Int.reduceBNe, Int.reduceLT, Int.reduceLE, Int.reduceGT, L1, L2, L3, L4]
  · obtain ⟨L1, L2, L3, L4⟩ := lk_z
    have q := k5 g
    rw [if_neg (by omega), if_neg (by omega), if_neg (by omega)]
    simp only [go_sem, Nat.reduceAdd, Nat.reduceLeDiff, Nat.reduceMul, Int.reduceBEq, Int.reduceBNe, Int.reduceLT, Int.reduceLE, Int.reduceGT, L1, L2, L3, L4]
/-- The text of a list, as far as it is told. -/
def sayA (ts : Nat → List UInt8) : Nat → List UInt8
  | 0 => [40]
  | j + 1 => (if j = 0 then sayA ts j else sayA ts j ++ [32]) ++ ts j
theorem sayA_len {ts : Nat → List UInt8} {B : Nat} : ∀ {j : Nat}, (∀ i, i < j → (ts i).length ≤ B) → (sayA ts j).length ≤ 1 + j * (B + 1) := by
  intro j
  induction j with
  | zero => intro _; simp [sayA]
  | succ j ih =>
    intro h
    have h1 := ih fun i hi => h i (by omega)
    have h2 := h j (by omega)
    rw [sayA, List.length_append, Nat.succ_mul]
    split
    · omega
    · simp only [List.length_append, List.length_cons, List.length_nil]; omega
theorem say_lp {h0 : Heap} {vs : List Value} {ts : Nat → List UInt8} (S : Sl h 1 eV v vs) {B : Nat} (hBB : vs.length * (B + 1) + 2 ≤ 9223372036854775807) (hS : ∀ i w, vs[i]? = some w → ∀ m : Md, C m 22 [w] h = some (.string (bs (ts i)), h)) (hB : ∀ i, i < vs.length → (ts i).length ≤ B) : ∀ (m j : Nat), j + m = vs.length →
    J22_0 C md h0 s2 (.string (bs (sayA ts j))) v ((Value.int .i64 ((vs.length : Int)))) ((Value.int .i64 ((j : Int)))) h = some (.string (bs (sayA ts vs.length ++ [41])), h0) := by
  have hle : vs.length ≤ vs.length * (B + 1) := Nat.le_mul_of_pos_right _ (Nat.succ_pos _)
  intro m
  induction m with
  | zero =>
    intro j hj
    obtain rfl : j = vs.length := by omega
    have q := sayA_len (j := vs.length) hB
    have ad : ∀ {α : Type} (k : Value → Option α), aBin Tryd.prog .add 9 (.string (bs (sayA ts vs.length))) (.string ⟨#[41]⟩) k = k (.string (bs (sayA ts vs.length ++ [41]))) := fun k => add_S (m := [41]) (by simp only [List.length_cons, List.length_nil]; omega) k
    rw [J22_0_step]
    unfold Jr22_0
    simp only [go_sem, Nat.reduceAdd, Nat.reduceLeDiff, Nat.reduceMul, Int.reduceBEq, Int.reduceBNe, Int.reduceLT, Int.reduceLE, Int.reduceGT, aBin_lss, Int.lt_irrefl, Jk22_0, ad]
  | succ m ih =>
    intro j hj
    have hlt : (j : Int) < (vs.length : Int) := by omega
    obtain ⟨x, hx⟩ : ∃ x, vs[j]? = some x := ⟨vs[j]'(by omega), List.getElem?_eq_getElem (by omega)⟩
    have w1 : IntKind.wrap .i64 ((j : Int) + 1) = ((j + 1 : Nat) : Int) := by rw [IntKind.wrap_i64]; omega
    obtain ⟨i1, r1⟩ := Sl.getV S hx
    have sy := hS j x hx
    have q := sayA_len (j := j) (fun i hi => hB i (by omega))
    have ll : (j + 1) * (B + 1) ≤ vs.length * (B + 1) := Nat.mul_le_mul_right _ (by omega)
    rw [Nat.succ_mul] at ll
    have tb := hB j (by omega)
    rw [J22_0_step]
    unfold Jr22_0
    by_cases h0 : j = 0
    · have ng : ¬ ((j : Int) > 0) := by omega
      have ad : ∀ {α : Type} (k : Value → Option α), aBin Tryd.prog .add 9 (.string (bs (sayA ts j))) (.string (bs (ts j))) k = k (.string (bs (sayA ts (j + 1)))) := fun k => by
        rw [add_S (by omega), sayA, if_pos h0]
      unfold J22_0b0
      simp only [go_sem, Nat.reduceAdd, Nat.reduceLeDiff, Nat.reduceMul, Int.reduceBEq, Int.reduceBNe, Int.reduceLT, Int.reduceLE, Int.reduceGT, aBin_lss, hlt, ixSV_p, i1, r1, aBin_gtr, ng, sy, ad, aBin_add, w1]
      exact ih (j + 1) (by omega)
    · have ng : ((j : Int) > 0) := by omega
      have a1 : ∀ {α : Type} (k : Value → Option α), aBin Tryd.prog .add 9 (.string (bs (sayA ts j))) (.string ⟨#[32]⟩) k = k (.string (bs (sayA ts j ++ [32]))) := fun k => add_S (m := [32]) (by simp only [List.length_cons, List.length_nil]; omega) k
      have ad : ∀ {α : Type} (k : Value → Option α), aBin Tryd.prog .add 9 (.string (bs (sayA ts j ++ [32]))) (.string (bs (ts j))) k = k (.string (bs (sayA ts (j + 1)))) := fun k => by
        rw [add_S (by simp only [List.length_append, List.length_cons, List.length_nil]; omega), sayA, if_neg h0]
      unfold J22_0b0
      simp only [go_sem, Nat.reduceAdd, Nat.reduceLeDiff, Nat.reduceMul, Int.reduceBEq, Int.reduceBNe, Int.reduceLT, Int.reduceLE, Int.reduceGT, aBin_lss, hlt, ixSV_p, i1, r1, aBin_gtr, ng, a1, sy, ad, aBin_add, w1]
      exact ih (j + 1) (by omega)
theorem say_l {vs : List Value} {ts : Nat → List UInt8} (S : Sl h 1 eV v vs) {B : Nat} (hBB : vs.length * (B + 1) + 2 ≤ 9223372036854775807) (hS : ∀ i w, vs[i]? = some w → ∀ m : Md, C m 22 [w] h = some (.string (bs (ts i)), h)) (hB : ∀ i, i < vs.length → (ts i).length ≤ B) (md : Md) :
    C md 22 [.iface 33 v] h = some (.string (bs (sayA ts vs.length ++ [41])), h) := by
  obtain ⟨L1, L2, L3, L4⟩ := lk_l v
  have len := fun {α : Type} (kk : Value → Option α) => S.len kk
  have e := say_lp (md := ⟨h.length, h.length⟩) (h0 := h) (s2 := .string ⟨#[]⟩) S hBB hS hB vs.length 0 (by omega)
  rw [C, call_eq, F22_eq]
  unfold F22
  simp only [go_sem, Nat.reduceAdd, Nat.reduceLeDiff, Nat.reduceMul, Int.reduceBEq, Int.reduceBNe, Int.reduceLT, Int.reduceLE, Int.reduceGT, L1, L2, L3, L4, len]
  exact e
end Go.Det.E
