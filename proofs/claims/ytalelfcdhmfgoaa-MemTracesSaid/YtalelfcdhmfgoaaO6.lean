/- Breaking patterns: only that the elements stay the same. -/
import Derived.Test.YtalelfcdhmfgoaaO5
set_option autoImplicit false
set_option linter.unusedVariables false
set_option linter.unusedSimpArgs false
namespace Go.Det.O
open Go.Det.E
open Go.Proofs Go.Det
attribute [local congr] bind_c cond_c
variable {md : Md} {h hh k h' h'' h0 : Heap} {v s8 s9 : Value} {d d' : Array Int} {i j a b c n pv p : Nat} {x y aa bb : Int}
theorem wu {x : Int} (h1 : 0 ≤ x) (h2 : x < 18446744073709551616) : IntKind.wrap .u64 x = x := by
  simp only [IntKind.wrap, IntKind.bits, IntKind.signed, Bool.false_and, Bool.false_eq_true, if_false]
  omega
theorem wu_rng (x : Int) : 0 ≤ IntKind.wrap .u64 x ∧ IntKind.wrap .u64 x < 18446744073709551616 := by
  simp only [IntKind.wrap, IntKind.bits, IntKind.signed, Bool.false_and, Bool.false_eq_true, if_false]
  omega
theorem xor_rng (x y : Int) : 0 ≤ bXor .u64 x y ∧ bXor .u64 x y < 18446744073709551616 := wu_rng _
theorem bv64 {x : Nat} (h : x < 2 ^ 64) : (BitVec.ofInt 64 (x : Int)).toNat = x := by
  rw [BitVec.ofInt_natCast, BitVec.toNat_ofNat]; exact Nat.mod_eq_of_lt h
theorem bAnd64 {x : Nat} (hx : x < 2 ^ 64) (k : Nat) (hk : k ≤ 63) : bAnd .u64 (x : Int) ((2 ^ k - 1 : Nat) : Int) = ((x % 2 ^ k : Nat) : Int) := by
  have h2 : 2 ^ k ≤ 2 ^ 63 := Nat.pow_le_pow_right (by omega) hk
  show IntKind.u64.wrap ((BitVec.ofInt 64 (x : Int) &&& BitVec.ofInt 64 ((2 ^ k - 1 : Nat) : Int)).toNat : Int) = _
  have hm : x % 2 ^ k < 2 ^ 64 := Nat.lt_of_le_of_lt (Nat.mod_le _ _) hx
  rw [BitVec.toNat_and, bv64 hx, bv64 (by omega), Nat.and_two_pow_sub_one_eq_mod, wu (by omega) (by omega)]
theorem next_s (hro : md.ro ≤ p) (hp : h[p]? = some (.own [(Value.int .u64 x)])) :
    ∃ y h', C md 40 [(Value.pointer (some ⟨p, 0, none⟩))] h = some ((Value.int .u64 y), h') ∧ (0 ≤ y ∧ y < 18446744073709551616) ∧ h'[p]? = some (.own [(Value.int .u64 y)]) ∧ Cb p h h' := by
  have rp : ∀ {g : Heap} {z : Int}, g[p]? = some (.own [(Value.int .u64 z)]) → rd g p 0 = some ((Value.int .u64 z)) := fun {g z} e => by rw [rd_own e]; rfl
  have ww : ∀ {g : Heap} {z : Int} (u : Int), g[p]? = some (.own [(Value.int .u64 z)]) → ∃ g', wrN ⟨md.ro, h.length⟩ g p 0 [(Value.int .u64 u)] = some g' ∧ g'[p]? = some (.own [(Value.int .u64 u)]) ∧ Cb p g g' := fun {g z} u e => ⟨_, wr_own e hro rfl (by simp), List.getElem?_set_self (lt_of e), ⟨by simp, fun y h1 _ => List.getElem?_set_ne (Ne.symm h1)⟩⟩
  have r0 := rp hp
  obtain ⟨k1, w1, g1, o1⟩ := ww (bXor .u64 x (IntKind.wrap .u64 (x * 2 ^ 13))) hp
  have r1 := rp g1
  obtain ⟨k2, w2, g2, o2⟩ := ww (bXor .u64 (bXor .u64 x (IntKind.wrap .u64 (x * 2 ^ 13))) (Int.fdiv (bXor .u64 x (IntKind.wrap .u64 (x * 2 ^ 13))) (2 ^ 7))) g1
  have r2 := rp g2
  generalize hx2 : bXor .u64 (bXor .u64 x (IntKind.wrap .u64 (x * 2 ^ 13))) (Int.fdiv (bXor .u64 x (IntKind.wrap .u64 (x * 2 ^ 13))) (2 ^ 7)) = x2 at w2 g2 r2
  obtain ⟨k3, w3, g3, o3⟩ := ww (bXor .u64 x2 (IntKind.wrap .u64 (x2 * 2 ^ 17))) g2
  have r3 := rp g3
  have o := (o1.trans o2).trans o3
  refine ⟨_, k3, ?_, xor_rng x2 (IntKind.wrap .u64 (x2 * 2 ^ 17)), g3, o⟩
  rw [C, call_eq, F40_eq]
  unfold F40
  simp only [go_sem, Nat.reduceAdd, Nat.reduceLeDiff, Nat.reduceMul, Int.reduceBEq, Int.reduceBNe, Int.reduceLT, Int.reduceLE, Int.reduceGT, okNil, okP_p, r0, st_1i, w1, r1, hx2, w2, r2, w3, r3, take_len o.len]
theorem len_s (md : Md) (h : Heap) (hn : n ≤ 100) : C md 26 [(Value.int .u64 ((n : Int)))] h = some ((Value.int .i64 ((Go.Sort.bitsLen n : Int))), h) := by
  rcases (by omega : n = 0 ∨ n = 1 ∨ n = 2 ∨ n = 3 ∨ n = 4 ∨ n = 5 ∨ n = 6 ∨ n = 7 ∨ n = 8 ∨ n = 9 ∨ n = 10 ∨ n = 11 ∨ n = 12 ∨ n = 13 ∨ n = 14 ∨ n = 15 ∨ n = 16 ∨ n = 17 ∨ n = 18 ∨ n = 19 ∨ n = 20 ∨ n = 21 ∨ n = 22 ∨ n = 23 ∨ n = 24 ∨ n = 25 ∨ n = 26 ∨ n = 27 ∨ n = 28 ∨ n = 29 ∨ n = 30 ∨ n = 31 ∨ n = 32 ∨ n = 33 ∨ n = 34 ∨ n = 35 ∨ n = 36 ∨ n = 37 ∨ n = 38 ∨ n = 39 ∨ n = 40 ∨ n = 41 ∨ n = 42 ∨ n = 43 ∨ n = 44 ∨ n = 45 ∨ n = 46 ∨ n = 47 ∨ n = 48 ∨ n = 49 ∨ n = 50 ∨ n = 51 ∨ n = 52 ∨ n = 53 ∨ n = 54 ∨ n = 55 ∨ n = 56 ∨ n = 57 ∨ n = 58 ∨ n = 59 ∨ n = 60 ∨ n = 61 ∨ n = 62 ∨ n = 63 ∨ n = 64 ∨ n = 65 ∨ n = 66 ∨ n = 67 ∨ n = 68 ∨ n = 69 ∨ n = 70 ∨ n = 71 ∨ n = 72 ∨ n = 73 ∨ n = 74 ∨ n = 75 ∨ n = 76 ∨ n = 77 ∨ n = 78 ∨ n = 79 ∨ n = 80 ∨ n = 81 ∨ n = 82 ∨ n = 83 ∨ n = 84 ∨ n = 85 ∨ n = 86 ∨ n = 87 ∨ n = 88 ∨ n = 89 ∨ n = 90 ∨ n = 91 ∨ n = 92 ∨ n = 93 ∨ n = 94 ∨ n = 95 ∨ n = 96 ∨ n = 97 ∨ n = 98 ∨ n = 99 ∨ n = 100) with rfl | rfl | rfl | rfl | rfl | rfl | rfl | rfl | rfl | rfl | rfl | rfl | rfl | rfl | rfl | rfl | rfl | rfl | rfl | rfl | rfl | rfl | rfl | rfl | rfl | rfl | rfl | rfl | rfl | rfl | rfl | rfl | rfl | rfl | rfl | rfl | rfl | rfl | rfl | rfl | rfl | rfl | rfl | rfl | rfl | rfl | rfl | rfl | rfl | rfl | rfl | rfl | rfl | rfl | rfl | rfl | rfl | rfl | rfl | rfl | rfl | rfl | rfl | rfl | rfl | rfl | rfl | rfl | rfl | rfl | rfl | rfl | rfl | rfl | rfl | rfl | rfl | rfl | rfl | rfl | rfl | rfl | rfl | rfl | rfl | rfl | rfl | rfl | rfl | rfl | rfl | rfl | rfl | rfl | rfl | rfl | rfl | rfl | rfl | rfl | rfl <;> exact free_ok 100 10 (by kernel_rfl) (by kernel_rfl) md h
theorem pow_s (md : Md) (h : Heap) (hn : n ≤ 100) : C md 39 [(Value.int .i64 ((n : Int)))] h = some ((Value.int .u64 (((2 ^ Go.Sort.bitsLen n : Nat) : Int))), h) := by
  rcases (by omega : n = 0 ∨ n = 1 ∨ n = 2 ∨ n = 3 ∨ n = 4 ∨ n = 5 ∨ n = 6 ∨ n = 7 ∨ n = 8 ∨ n = 9 ∨ n = 10 ∨ n = 11 ∨ n = 12 ∨ n = 13 ∨ n = 14 ∨ n = 15 ∨ n = 16 ∨ n = 17 ∨ n = 18 ∨ n = 19 ∨ n = 20 ∨ n = 21 ∨ n = 22 ∨ n = 23 ∨ n = 24 ∨ n = 25 ∨ n = 26 ∨ n = 27 ∨ n = 28 ∨ n = 29 ∨ n = 30 ∨ n = 31 ∨ n = 32 ∨ n = 33 ∨ n = 34 ∨ n = 35 ∨ n = 36 ∨ n = 37 ∨ n = 38 ∨ n = 39 ∨ n = 40 ∨ n = 41 ∨ n = 42 ∨ n = 43 ∨ n = 44 ∨ n = 45 ∨ n = 46 ∨ n = 47 ∨ n = 48 ∨ n = 49 ∨ n = 50 ∨ n = 51 ∨ n = 52 ∨ n = 53 ∨ n = 54 ∨ n = 55 ∨ n = 56 ∨ n = 57 ∨ n = 58 ∨ n = 59 ∨ n = 60 ∨ n = 61 ∨ n = 62 ∨ n = 63 ∨ n = 64 ∨ n = 65 ∨ n = 66 ∨ n = 67 ∨ n = 68 ∨ n = 69 ∨ n = 70 ∨ n = 71 ∨ n = 72 ∨ n = 73 ∨ n = 74 ∨ n = 75 ∨ n = 76 ∨ n = 77 ∨ n = 78 ∨ n = 79 ∨ n = 80 ∨ n = 81 ∨ n = 82 ∨ n = 83 ∨ n = 84 ∨ n = 85 ∨ n = 86 ∨ n = 87 ∨ n = 88 ∨ n = 89 ∨ n = 90 ∨ n = 91 ∨ n = 92 ∨ n = 93 ∨ n = 94 ∨ n = 95 ∨ n = 96 ∨ n = 97 ∨ n = 98 ∨ n = 99 ∨ n = 100) with rfl | rfl | rfl | rfl | rfl | rfl | rfl | rfl | rfl | rfl | rfl | rfl | rfl | rfl | rfl | rfl | rfl | rfl | rfl | rfl | rfl | rfl | rfl | rfl | rfl | rfl | rfl | rfl | rfl | rfl | rfl | rfl | rfl | rfl | rfl | rfl | rfl | rfl | rfl | rfl | rfl | rfl | rfl | rfl | rfl | rfl | rfl | rfl | rfl | rfl | rfl | rfl | rfl | rfl | rfl | rfl | rfl | rfl | rfl | rfl | rfl | rfl | rfl | rfl | rfl | rfl | rfl | rfl | rfl | rfl | rfl | rfl | rfl | rfl | rfl | rfl | rfl | rfl | rfl | rfl | rfl | rfl | rfl | rfl | rfl | rfl | rfl | rfl | rfl | rfl | rfl | rfl | rfl | rfl | rfl | rfl | rfl | rfl | rfl | rfl | rfl <;> exact free_ok 100 10 (by kernel_rfl) (by kernel_rfl) md h
/-- A round: two elements change places. -/
theorem brk_b0 (hro : md.ro ≤ slB v) (A : AR h v d) (hi : i < d.size) (hc : a + c < d.size) (hd : d.size < 50000) {s6 s7 : Value} :
    ∃ h', J29_0b0 C md v ((Value.int .i64 ((a : Int)))) s6 s7 s8 ((Value.int .i64 ((i : Int)))) ((Value.int .i64 ((c : Int)))) h = some (.inl ((v, (Value.int .i64 ((a : Int))), s6, s7, s8, (Value.int .i64 (((i + 1 : Nat) : Int)))), h')) ∧ AR h' v (Go.Sort.swp d i (a + c)) ∧ O1 v h h' := by
  have w1 : IntKind.wrap .i64 ((a : Int) + (c : Int)) = ((a + c : Nat) : Int) := by rw [wi (by omega) (by omega)]; omega
  have w2 : IntKind.wrap .i64 ((i : Int) + 1) = ((i + 1 : Nat) : Int) := by rw [wi (by omega) (by omega)]; omega
  obtain ⟨x1, r1⟩ := A.rd hi
  obtain ⟨x2, r2⟩ := A.rd hc
  obtain ⟨g1, g2, y1, y2, A2, o2⟩ := A.swp (md := md) hi hc hro
  refine ⟨g2, ?_, A2, o2⟩
  unfold J29_0b0
  simp only [go_sem, Nat.reduceAdd, Nat.reduceLeDiff, Nat.reduceMul, Int.reduceBEq, Int.reduceBNe, Int.reduceLT, Int.reduceLE, Int.reduceGT, aBin_add, w1, ixSV_p, x2, r2, x1, r1, st_1i, y1, y2, w2]
theorem cUI {α : Type} {x : Int} (k : Value → Option α) : aConv Try.prog 73 3 ((Value.int .u64 x)) k = k ((Value.int .i64 (IntKind.wrap .i64 x))) := by kernel_rfl
theorem brk_lp {h0 : Heap} {N : Nat} (hro : md.ro ≤ slB v) (hrp : md.ro ≤ p) (hpv : p ≠ slB v) (hl8 : 8 ≤ b - a) (hb : b ≤ N) (hl : b - a ≤ 100) (hN : N < 50000) : ∀ (m i : Nat) (d : Array Int) (h : Heap) (x : Int), i + m = a + (b - a) / 4 * 2 + 2 → a ≤ i → AR h v d → d.size = N → h[p]? = some (.own [(Value.int .u64 x)]) →
    ∃ h' d', J29_0 C md h0 v ((Value.int .i64 ((a : Int)))) ((Value.int .i64 (((b - a : Nat) : Int)))) ((Value.pointer (some ⟨p, 0, none⟩))) ((Value.int .u64 (((2 ^ Go.Sort.bitsLen (b - a) : Nat) : Int)))) ((Value.int .i64 ((i : Int)))) h = some ((Value.tuple #[]), h'.take h0.length) ∧ AR h' v d' ∧ Go.Sort.PermIn a b d d' ∧ h'.length = h.length ∧ ∀ y, y ≠ slB v → y ≠ p → h'[y]? = h[y]? := by
  have tl : Int.tdiv ((b - a : Nat) : Int) 4 = (((b - a) / 4 : Nat) : Int) := by rw [Int.tdiv_eq_ediv_of_nonneg (by omega)]; omega
  have wq : IntKind.wrap .i64 (((b - a) / 4 : Nat) : Int) = (((b - a) / 4 : Nat) : Int) := wi (by omega) (by omega)
  have m2 : IntKind.wrap .i64 ((((b - a) / 4 : Nat) : Int) * 2) = (((b - a) / 4 * 2 : Nat) : Int) := by rw [wi (by omega) (by omega)]; omega
  have a2 : IntKind.wrap .i64 ((a : Int) + (((b - a) / 4 * 2 : Nat) : Int)) = ((a + (b - a) / 4 * 2 : Nat) : Int) := by rw [wi (by omega) (by omega)]; omega
  have a3 : IntKind.wrap .i64 (((a + (b - a) / 4 * 2 : Nat) : Int) + 1) = ((a + (b - a) / 4 * 2 + 1 : Nat) : Int) := by rw [wi (by omega) (by omega)]; omega
  have four0 : (4 : Int) ≠ 0 := by decide
  intro m
  induction m with
  | zero =>
    intro i d h x hi hai A hd hp
    have c1 : ¬ ((i : Int) ≤ ((a + (b - a) / 4 * 2 + 1 : Nat) : Int)) := by omega
    refine ⟨h, d, ?_, A, Go.Sort.permIn_refl _ _ _, rfl, fun _ _ _ => rfl⟩
    rw [J29_0_step]
    unfold Jr29_0
    simp only [go_sem, Nat.reduceAdd, Nat.reduceLeDiff, Nat.reduceMul, Int.reduceBEq, Int.reduceBNe, Int.reduceLT, Int.reduceLE, Int.reduceGT, aBin_quo four0, tl, wq, aBin_mul, m2, aBin_add, a2, a3, aBin_leq, c1, Jk29_0]
  | succ m ih =>
    intro i d h x hi hai A hd hp
    have c1 : ((i : Int) ≤ ((a + (b - a) / 4 * 2 + 1 : Nat) : Int)) := by omega
    obtain ⟨y, k1, e1, ry, p1, o1⟩ := next_s (md := md) hrp hp
    have A1 : AR k1 v d := ⟨A.sl.heap fun _ => o1.oth _ (Ne.symm hpv) (Ne.symm hpv), by obtain ⟨cs, e⟩ := A.ow; exact ⟨cs, (o1.oth _ (Ne.symm hpv) (Ne.symm hpv)).trans e⟩⟩
    obtain ⟨yn, rfl⟩ : ∃ yn : Nat, y = yn := ⟨y.toNat, by omega⟩
    have b2 := Go.Sort.two_pow_bitsLen_le (n := b - a) (by omega)
    have bp : 0 < 2 ^ Go.Sort.bitsLen (b - a) := Nat.two_pow_pos _
    have big : 100 < 2 ^ 63 := by decide
    have bk : Go.Sort.bitsLen (b - a) ≤ 63 := (Go.Sort.bitsLen_le_iff (b - a) 63).2 (by omega)
    have wm : IntKind.wrap .u64 (((2 ^ Go.Sort.bitsLen (b - a) : Nat) : Int) - 1) = ((2 ^ Go.Sort.bitsLen (b - a) - 1 : Nat) : Int) := by rw [wu (by omega) (by omega)]; omega
    have an := bAnd64 (x := yn) (by omega) (Go.Sort.bitsLen (b - a)) bk
    have ml : yn % 2 ^ Go.Sort.bitsLen (b - a) < 2 ^ Go.Sort.bitsLen (b - a) := Nat.mod_lt _ bp
    generalize yn % 2 ^ Go.Sort.bitsLen (b - a) = o at an ml
    have wo : IntKind.wrap .i64 (o : Int) = (o : Int) := wi (by omega) (by omega)
    -- the other place
    have fin : ∀ (cc : Nat), cc < b - a → ∃ h' d' k2, J29_0b0 C md v ((Value.int .i64 ((a : Int)))) ((Value.int .i64 (((b - a : Nat) : Int)))) ((Value.pointer (some ⟨p, 0, none⟩))) ((Value.int .u64 (((2 ^ Go.Sort.bitsLen (b - a) : Nat) : Int)))) ((Value.int .i64 ((i : Int)))) ((Value.int .i64 ((cc : Int)))) k1 = some (.inl ((v, (Value.int .i64 ((a : Int))), (Value.int .i64 (((b - a : Nat) : Int))), (Value.pointer (some ⟨p, 0, none⟩)), (Value.int .u64 (((2 ^ Go.Sort.bitsLen (b - a) : Nat) : Int))), (Value.int .i64 (((i + 1 : Nat) : Int)))), k2)) ∧ J29_0 C md h0 v ((Value.int .i64 ((a : Int)))) ((Value.int .i64 (((b - a : Nat) : Int)))) ((Value.pointer (some ⟨p, 0, none⟩))) ((Value.int .u64 (((2 ^ Go.Sort.bitsLen (b - a) : Nat) : Int)))) ((Value.int .i64 (((i + 1 : Nat) : Int)))) k2 = some ((Value.tuple #[]), h'.take h0.length) ∧ AR h' v d' ∧ Go.Sort.PermIn a b d d' ∧ h'.length = h.length ∧ ∀ y, y ≠ slB v → y ≠ p → h'[y]? = h[y]? := fun cc hcc => by
      obtain ⟨k2, e2, A2, o2⟩ := brk_b0 (md := md) (i := i) (c := cc) (a := a) (s6 := (Value.int .i64 (((b - a : Nat) : Int)))) (s7 := (Value.pointer (some ⟨p, 0, none⟩))) (s8 := (Value.int .u64 (((2 ^ Go.Sort.bitsLen (b - a) : Nat) : Int)))) hro A1 (by omega) (by omega) (by omega)
      obtain ⟨h', d', e3, A3, P3, l3, o3⟩ := ih (i + 1) _ k2 _ (by omega) (by omega) A2 (by rw [Go.Sort.size_swp]; exact hd) ((o2.oth _ hpv hpv).trans p1)
      exact ⟨h', d', k2, e2, e3, A3, Go.Sort.permIn_trans _ _ _ _ _ (Go.Sort.swp_permIn d a b i (a + cc) hai (by omega) (by omega) (by omega) (by omega)) P3, by rw [l3, o2.len, o1.len], fun y h1 h2 => by rw [o3 y h1 h2, o2.oth y h1 h1, o1.oth y h2 h2]⟩
    by_cases ho : o ≥ b - a
    · have c2 : ((o : Int) ≥ ((b - a : Nat) : Int)) := by omega
      have ws : IntKind.wrap .i64 ((o : Int) - ((b - a : Nat) : Int)) = ((o - (b - a) : Nat) : Int) := by rw [wi (by omega) (by omega)]; omega
      obtain ⟨h', d', k2, e2, e3, z⟩ := fin (o - (b - a)) (by omega)
      refine ⟨h', d', ?_, z⟩
      rw [J29_0_step]
      unfold Jr29_0
      simp only [go_sem, Nat.reduceAdd, Nat.reduceLeDiff, Nat.reduceMul, Int.reduceBEq, Int.reduceBNe, Int.reduceLT, Int.reduceLE, Int.reduceGT, aBin_quo four0, tl, wq, aBin_mul, m2, aBin_add, a2, a3, aBin_leq, c1, e1, aBin_sub, wm, aBin_and, an, cUI, wo, aBin_geq, c2, ws, e2]
      exact e3
    · have c2 : ¬ ((o : Int) ≥ ((b - a : Nat) : Int)) := by omega
      obtain ⟨h', d', k2, e2, e3, z⟩ := fin o (by omega)
      refine ⟨h', d', ?_, z⟩
      rw [J29_0_step]
      unfold Jr29_0
      simp only [go_sem, Nat.reduceAdd, Nat.reduceLeDiff, Nat.reduceMul, Int.reduceBEq, Int.reduceBNe, Int.reduceLT, Int.reduceLE, Int.reduceGT, aBin_quo four0, tl, wq, aBin_mul, m2, aBin_add, a2, a3, aBin_leq, c1, e1, aBin_sub, wm, aBin_and, an, cUI, wo, aBin_geq, c2, e2]
      exact e3
theorem break_s (hro : md.ro ≤ slB v) (hrl : md.ro ≤ h.length) (A : AR h v d) (h8 : 8 ≤ b - a) (hb : b ≤ d.size) (hn : d.size ≤ 100) :
    ∃ h' d', C md 29 [v, (Value.int .i64 ((a : Int))), (Value.int .i64 ((b : Int)))] h = some ((Value.tuple #[]), h') ∧ AR h' v d' ∧ Go.Sort.PermIn a b d d' ∧ O1 v h h' := by
  have hv := A.ltb
  have wl : IntKind.wrap .i64 ((b : Int) - (a : Int)) = ((b - a : Nat) : Int) := by rw [wi (by omega) (by omega)]; omega
  have wlu : IntKind.wrap .u64 ((b - a : Nat) : Int) = ((b - a : Nat) : Int) := wu (by omega) (by omega)
  have tl : Int.tdiv ((b - a : Nat) : Int) 4 = (((b - a) / 4 : Nat) : Int) := by rw [Int.tdiv_eq_ediv_of_nonneg (by omega)]; omega
  have wq : IntKind.wrap .i64 (((b - a) / 4 : Nat) : Int) = (((b - a) / 4 : Nat) : Int) := wi (by omega) (by omega)
  have m2 : IntKind.wrap .i64 ((((b - a) / 4 : Nat) : Int) * 2) = (((b - a) / 4 * 2 : Nat) : Int) := by rw [wi (by omega) (by omega)]; omega
  have a2 : IntKind.wrap .i64 ((a : Int) + (((b - a) / 4 * 2 : Nat) : Int)) = ((a + (b - a) / 4 * 2 : Nat) : Int) := by rw [wi (by omega) (by omega)]; omega
  have a3 : IntKind.wrap .i64 (((a + (b - a) / 4 * 2 : Nat) : Int) - 1) = ((a + (b - a) / 4 * 2 - 1 : Nat) : Int) := by rw [wi (by omega) (by omega)]; omega
  have c8 : decide (((b - a : Nat) : Int) ≥ 8) = true := decide_eq_true (by omega)
  have w1 : wrN ⟨md.ro, h.length⟩ (h ++ [Blk.own [(Value.int .u64 0)]]) h.length 0 [(Value.int .u64 (((b - a : Nat) : Int)))] = some (h ++ [Blk.own [(Value.int .u64 (((b - a : Nat) : Int)))]]) := wrN_new0 (bs := []) hrl (Nat.le_refl _) (by simp)
  have A1 := A.app [Blk.own [(Value.int .u64 (((b - a : Nat) : Int)))]]
  have p1 : (h ++ [Blk.own [(Value.int .u64 (((b - a : Nat) : Int)))]])[h.length]? = some (.own [(Value.int .u64 (((b - a : Nat) : Int)))]) := List.getElem?_concat_length ..
  have l1 : (h ++ [Blk.own [(Value.int .u64 (((b - a : Nat) : Int)))]]).length = h.length + 1 := by simp
  have o1 : ∀ y, y < h.length → (h ++ [Blk.own [(Value.int .u64 (((b - a : Nat) : Int)))]])[y]? = h[y]? := fun y hy => List.getElem?_append_left hy
  have pw := fun (m : Md) (g : Heap) => pow_s (n := b - a) m g (by omega)
  generalize h ++ [Blk.own [(Value.int .u64 (((b - a : Nat) : Int)))]] = g at w1 A1 p1 l1 o1
  obtain ⟨h', d', e, A', P, l', o'⟩ := brk_lp (md := ⟨md.ro, h.length⟩) (h0 := h) (p := h.length) (N := d.size) hro hrl (by omega) h8 hb (by omega) (by omega) 3 (a + (b - a) / 4 * 2 - 1) d g _ (by omega) (by omega) A1 rfl p1
  refine ⟨h'.take h.length, d', ?_, A'.take hv, P, ⟨by rw [List.length_take]; omega, fun y h1 h2 => ?_⟩⟩
  · rw [C, call_eq, F29_eq]
    unfold F29
    simp only [go_sem, Nat.reduceAdd, Nat.reduceLeDiff, Nat.reduceMul, Int.reduceBEq, Int.reduceBNe, Int.reduceLT, Int.reduceLE, Int.reduceGT, wl, c8, st_1i, wlu, w1, pw, tl, wq, m2, a2, a3]
    exact e
  · by_cases hy : y < h.length
    · rw [List.getElem?_take_of_lt hy, o' y h1 (by omega), o1 y hy]
    · rw [List.getElem?_eq_none (by rw [List.length_take]; omega), List.getElem?_eq_none (by omega)]
end Go.Det.O
