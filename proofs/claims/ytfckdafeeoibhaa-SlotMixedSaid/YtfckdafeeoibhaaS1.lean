/- Free slots, taken and given by steps: what its functions answer. -/
import Derived.Test.YtfckdafeeoibhaaE3
import Derived.Test.YtfckdafeeoibhaaP5
import Derived.Laws.BitsAllLaws
set_option autoImplicit false
set_option linter.unusedVariables false
set_option linter.unusedSimpArgs false
namespace Go.Det.E
open Go.Proofs Go.Det
attribute [local congr] bind_c cond_c
variable {md : Md} {h hh h' : Heap} {a b k : Nat} {l c : List Int} {V S T : Int}
theorem and16 {v : Int} (h0 : 0 ≤ v) (h1 : v < 18446744073709551616) : bAnd .u64 v 65535 = v % 65536 := by
  obtain ⟨x, rfl⟩ := Int.eq_ofNat_of_zero_le h0
  refine Eq.trans (bits_and_u64_nat x 65535 (by omega) (by decide)) ?_
  rw [show (65535 : Nat) = 2 ^ 16 - 1 from rfl, Nat.and_two_pow_sub_one_eq_mod]
  show ((x % 65536 : Nat) : Int) = (x : Int) % 65536
  omega
theorem nand16 (x : Nat) (hx : x < 2 ^ 64) : x &&& 18446744073709486080 = x / 65536 * 65536 := by
  have e : (18446744073709486080 : Nat) = (2 ^ 48 - 1) <<< 16 := by decide
  have e2 : x / 65536 * 65536 = (x >>> 16) <<< 16 := by rw [Nat.shiftLeft_eq, Nat.shiftRight_eq_div_pow]
  rw [e, e2]
  apply Nat.eq_of_testBit_eq
  intro i
  rw [Nat.testBit_and, Nat.testBit_shiftLeft, Nat.testBit_two_pow_sub_one, Nat.testBit_shiftLeft, Nat.testBit_shiftRight]
  by_cases hi : 16 ≤ i
  · rw [show 16 + (i - 16) = i by omega]
    by_cases h64 : i < 64
    · simp [hi, show i - 16 < 48 by omega]
    · have : x.testBit i = false := Nat.testBit_lt_two_pow (Nat.lt_of_lt_of_le hx (Nat.pow_le_pow_right (by decide) (by omega)))
      simp [this]
  · simp [hi]
theorem nand {v : Int} (h0 : 0 ≤ v) (h1 : v < 18446744073709551616) : bAndNot .u64 v 65535 = v / 65536 * 65536 := by
  obtain ⟨x, rfl⟩ := Int.eq_ofNat_of_zero_le h0
  refine Eq.trans (u64_andNot_nat x 65535 (by omega) (by decide)) ?_
  rw [show (18446744073709551615 : Nat) - 65535 = 18446744073709486080 from rfl, nand16 x (by omega)]
  show ((x / 65536 * 65536 : Nat) : Int) = (x : Int) / 65536 * 65536
  omega
/-- A head with another slot, a tag on. -/
def withW (hd nx : Int) : Int := (hd / 65536 * 65536 + 65536) % 18446744073709551616 + nx % 65536
theorem withW_in (hd nx : Int) : 0 ≤ withW hd nx ∧ withW hd nx < 18446744073709551616 := by unfold withW; omega
theorem withW_first {hd nx : Int} : withW hd nx % 65536 = nx % 65536 := by unfold withW; omega
theorem first_s {x : Int} (h0 : 0 ≤ x) (h1 : x < 18446744073709551616) (md : Md) (h : Heap) : C md 72 [(Value.int .u64 x)] h = some ((Value.int .u64 (x % 65536)), h) := by
  rw [C, call_eq, F72_eq]
  unfold F72
  simp only [go_sem, Nat.reduceAdd, Nat.reduceLeDiff, Nat.reduceMul, Int.reduceBEq, Int.reduceBNe, Int.reduceLT, Int.reduceLE, Int.reduceGT, and16 h0 h1]
theorem with_s {x y : Int} (h0 : 0 ≤ x) (h1 : x < 18446744073709551616) (y0 : 0 ≤ y) (y1 : y < 18446744073709551616) (md : Md) (h : Heap) : C md 76 [(Value.int .u64 x), (Value.int .u64 y)] h = some ((Value.int .u64 (withW x y)), h) := by
  rw [C, call_eq, F76_eq]
  unfold F76
  have e : bOr .u64 ((x / 65536 * 65536 + 65536) % 18446744073709551616) (y % 65536) = withW x y := by
    have q := W.or_add 16 (y % 65536) ((x / 65536 * 65536 + 65536) % 18446744073709551616 / 65536) (by omega) (by omega) (by omega) (by omega)
    have hm : (x / 65536 * 65536 + 65536) % 18446744073709551616 / 65536 * 2 ^ 16 = (x / 65536 * 65536 + 65536) % 18446744073709551616 := by omega
    rw [hm] at q
    have cm : bOr .u64 ((x / 65536 * 65536 + 65536) % 18446744073709551616) (y % 65536) = bOr .u64 (y % 65536) ((x / 65536 * 65536 + 65536) % 18446744073709551616) := by
      unfold bOr; rw [BitVec.or_comm]
    rw [cm, q]; unfold withW; omega
  have wr : IntKind.wrap .u64 (x / 65536 * 65536 + 65536) = (x / 65536 * 65536 + 65536) % 18446744073709551616 := IntKind.wrap_u64 _
  simp only [go_sem, Nat.reduceAdd, Nat.reduceLeDiff, Nat.reduceMul, Int.reduceBEq, Int.reduceBNe, Int.reduceLT, Int.reduceLE, Int.reduceGT, and16 y0 y1, nand h0 h1, wr, e]
/-- A program that takes, at its block. -/
abbrev tkC (V S T at' hd nx : Int) : List Value := [(Value.int .i64 V), (Value.int .i64 S), (Value.int .i64 T), (Value.int .i64 at'), (Value.int .u64 hd), (Value.int .u64 nx)]
abbrev gvC (V S T slot at' hd : Int) : List Value := [(Value.int .i64 V), (Value.int .i64 S), (Value.int .i64 T), (Value.int .i64 slot), (Value.int .i64 at'), (Value.int .u64 hd)]
theorem bTake {α : Type} (kk : Value → Option α) : aBuild Try.prog 131 [(0, (Value.agg #[(Value.int .i64 V), (Value.int .i64 S), (Value.int .i64 T)]))] kk = kk ((Value.agg (List.toArray (tkC V S T 0 0 0)))) := by kernel_rfl
theorem bGive {α : Type} {s : Int} (kk : Value → Option α) : aBuild Try.prog 126 [(0, (Value.agg #[(Value.int .i64 V), (Value.int .i64 S), (Value.int .i64 T)])), (1, (Value.int .i64 s))] kk = kk ((Value.agg (List.toArray (gvC V S T s 0 0)))) := by kernel_rfl
theorem newtake_s (md : Md) (h : Heap) (hr : md.ro ≤ h.length) (hlim : md.lim ≤ h.length) : C md 23 [(Value.agg #[(Value.int .i64 V), (Value.int .i64 S), (Value.int .i64 T)])] h = some ((Value.pointer (some ⟨h.length + 1, 0, none⟩)), h ++ [Blk.own [(Value.int .i64 V), (Value.int .i64 S), (Value.int .i64 T)], Blk.own (tkC V S T 0 0 0)]) := by
  rw [C, call_eq, F23_eq]
  unfold F23
  simp only [go_sem, Nat.reduceAdd, Nat.reduceLeDiff, Nat.reduceMul, Int.reduceBEq, Int.reduceBNe, Int.reduceLT, Int.reduceLE, Int.reduceGT, bTake, cells_agg]
theorem newgive_s (md : Md) (h : Heap) (hr : md.ro ≤ h.length) (hlim : md.lim ≤ h.length) (s : Int) : C md 20 [(Value.agg #[(Value.int .i64 V), (Value.int .i64 S), (Value.int .i64 T)]), (Value.int .i64 s)] h = some ((Value.pointer (some ⟨h.length + 1, 0, none⟩)), h ++ [Blk.own [(Value.int .i64 V), (Value.int .i64 S), (Value.int .i64 T)], Blk.own (gvC V S T s 0 0)]) := by
  rw [C, call_eq, F20_eq]
  unfold F20
  simp only [go_sem, Nat.reduceAdd, Nat.reduceLeDiff, Nat.reduceMul, Int.reduceBEq, Int.reduceBNe, Int.reduceLT, Int.reduceLE, Int.reduceGT, bGive, cells_agg]
theorem tdone_s {at' hd nx : Int} (md : Md) (hk : h[k]? = some (.own (tkC V S T at' hd nx))) : C md 67 [(Value.pointer (some ⟨k, 0, none⟩))] h = some ((Value.bool (at' == 3)), h) := by
  have r : rd h k 3 = some ((Value.int .i64 at')) := by rw [rd_own hk]; rfl
  rw [C, call_eq, F67_eq]
  unfold F67
  simp only [go_sem, Nat.reduceAdd, Nat.reduceLeDiff, Nat.reduceMul, Int.reduceBEq, Int.reduceBNe, Int.reduceLT, Int.reduceLE, Int.reduceGT, r]
theorem gdone_s {s at' hd : Int} (md : Md) (hk : h[k]? = some (.own (gvC V S T s at' hd))) : C md 68 [(Value.pointer (some ⟨k, 0, none⟩))] h = some ((Value.bool (at' == 3)), h) := by
  have r : rd h k 4 = some ((Value.int .i64 at')) := by rw [rd_own hk]; rfl
  rw [C, call_eq, F68_eq]
  unfold F68
  simp only [go_sem, Nat.reduceAdd, Nat.reduceLeDiff, Nat.reduceMul, Int.reduceBEq, Int.reduceBNe, Int.reduceLT, Int.reduceLE, Int.reduceGT, r]
theorem slot_of {at' hd nx : Int} (md : Md) (h0 : 0 ≤ hd) (h1 : hd < 18446744073709551616) (hk : h[k]? = some (.own (tkC V S T at' hd nx))) :
    C md 25 [(Value.pointer (some ⟨k, 0, none⟩))] h = some ((Value.tuple #[(Value.int .i64 (bif at' == 3 && hd % 65536 != 0 then hd % 65536 - 1 else 0)), (Value.bool (at' == 3 && hd % 65536 != 0))]), h) := by
  have r : rd h k 4 = some ((Value.int .u64 hd)) := by rw [rd_own hk]; rfl
  have d := fun (m : Md) => tdone_s m hk
  have w1 : IntKind.wrap .i64 (hd % 65536) = hd % 65536 := wi (by omega) (by omega)
  have w2 : IntKind.wrap .i64 (hd % 65536 - 1) = hd % 65536 - 1 := wi (by omega) (by omega)
  rw [C, call_eq, F25_eq]
  unfold F25
  cases h3 : (at' == 3)
  · simp only [go_sem, Nat.reduceAdd, Nat.reduceLeDiff, Nat.reduceMul, Int.reduceBEq, Int.reduceBNe, Int.reduceLT, Int.reduceLE, Int.reduceGT, d, h3]
  · cases hq : (hd % 65536 == 0)
    · simp only [go_sem, Nat.reduceAdd, Nat.reduceLeDiff, Nat.reduceMul, Int.reduceBEq, Int.reduceBNe, Int.reduceLT, Int.reduceLE, Int.reduceGT, d, h3, r, first_s h0 h1, aBin_eql, hq, w1, w2, bne]
    · simp only [go_sem, Nat.reduceAdd, Nat.reduceLeDiff, Nat.reduceMul, Int.reduceBEq, Int.reduceBNe, Int.reduceLT, Int.reduceLE, Int.reduceGT, d, h3, r, first_s h0 h1, aBin_eql, hq, w1, w2, bne]
/-- What a step of one that takes leaves: its first access. -/
theorem tstep0 {hd nx : Int} (A : Ar h a b l c) (w : Wd l) (hro : md.ro ≤ a) (hkr : md.ro ≤ k) (hka : k ≠ a) (hkb : k ≠ b) (hk : h[k]? = some (.own (tkC V S T 0 hd nx))) :
    ∃ h', C md 24 [(Value.pointer (some ⟨k, 0, none⟩)), (Value.pointer (some ⟨a, 0, none⟩))] h = some ((Value.bool (getI l T % 65536 == 0)), h') ∧ Ar h' a b l (cL l c T) ∧ h'[k]? = some (.own (tkC V S T (bif getI l T % 65536 == 0 then 3 else 1) (getI l T) nx)) ∧ h'.length = h.length ∧ ∀ y, y ≠ a → y ≠ b → y ≠ k → h'[y]? = h[y]? := by
  have gw := w.get T
  have r3 : rd h k 3 = some ((Value.int .i64 0)) := by rw [rd_own hk]; rfl
  have rL : rdN h k 0 3 = some [(Value.int .i64 V), (Value.int .i64 S), (Value.int .i64 T)] := by rw [rdN_own hk (by simp)]; rfl
  obtain ⟨h1, e1, A1, o1⟩ := ld_x (md := ⟨md.ro, h.length⟩) A hro T
  have hk1 := (o1.oth k hka hkb).trans hk
  obtain ⟨h2, w2, hk2, l2, f2⟩ := put_e (md := ⟨md.ro, h.length⟩) hk1 hkr 4 [(Value.int .u64 (getI l T))] (tkC V S T 0 (getI l T) nx) rfl (by simp) rfl
  obtain ⟨h3, w3, hk3, l3, f3⟩ := put_e (md := ⟨md.ro, h.length⟩) hk2 hkr 3 [(Value.int .i64 1)] (tkC V S T 1 (getI l T) nx) rfl (by simp) rfl
  have r4 : rd h3 k 4 = some ((Value.int .u64 (getI l T))) := by rw [rd_own hk3]; rfl
  have ll : h3.length = h.length := l3.trans (l2.trans o1.len)
  cases hz : (getI l T % 65536 == 0)
  · have d := fun (m : Md) => tdone_s m hk3
    refine ⟨h3, ?_, A1.same ((f3 a hka.symm).trans (f2 a hka.symm)) ((f3 b hkb.symm).trans (f2 b hkb.symm)), hk3, ll, fun y h1 h2 h3 => (f3 y h3).trans ((f2 y h3).trans (o1.oth y h1 h2))⟩
    rw [C, call_eq, F24_eq]
    unfold F24
    simp only [go_sem, Nat.reduceAdd, Nat.reduceLeDiff, Nat.reduceMul, Int.reduceBEq, Int.reduceBNe, Int.reduceLT, Int.reduceLE, Int.reduceGT, r3, rL, free_s, e1, w2, w3, r4, first_s gw.1 gw.2, hz, d, take_same (Nat.le_of_eq ll)]
  · obtain ⟨h4, w4, hk4, l4, f4⟩ := put_e (md := ⟨md.ro, h.length⟩) hk3 hkr 3 [(Value.int .i64 3)] (tkC V S T 3 (getI l T) nx) rfl (by simp) rfl
    have d := fun (m : Md) => tdone_s m hk4
    have ll4 : h4.length = h.length := l4.trans ll
    refine ⟨h4, ?_, A1.same ((f4 a hka.symm).trans ((f3 a hka.symm).trans (f2 a hka.symm))) ((f4 b hkb.symm).trans ((f3 b hkb.symm).trans (f2 b hkb.symm))), hk4, ll4, fun y h1 h2 h3 => (f4 y h3).trans ((f3 y h3).trans ((f2 y h3).trans (o1.oth y h1 h2)))⟩
    rw [C, call_eq, F24_eq]
    unfold F24
    simp only [go_sem, Nat.reduceAdd, Nat.reduceLeDiff, Nat.reduceMul, Int.reduceBEq, Int.reduceBNe, Int.reduceLT, Int.reduceLE, Int.reduceGT, r3, rL, free_s, e1, w2, w3, w4, r4, first_s gw.1 gw.2, hz, d, take_same (Nat.le_of_eq ll4)]
/-- Its second access. -/
theorem tstep1 {hd nx : Int} (hR : Rt V S T) (A : Ar h a b l c) (w : Wd l) (hro : md.ro ≤ a) (hkr : md.ro ≤ k) (hka : k ≠ a) (hkb : k ≠ b) (h0 : 0 ≤ hd) (h1 : hd < 18446744073709551616) (hk : h[k]? = some (.own (tkC V S T 1 hd nx))) :
    ∃ h', C md 24 [(Value.pointer (some ⟨k, 0, none⟩)), (Value.pointer (some ⟨a, 0, none⟩))] h = some ((Value.bool false), h') ∧ Ar h' a b l (cL l c (Ox S T (hd % 65536 - 1) 0)) ∧ h'[k]? = some (.own (tkC V S T 2 hd (getI l (Ox S T (hd % 65536 - 1) 0)))) ∧ h'.length = h.length ∧ ∀ y, y ≠ a → y ≠ b → y ≠ k → h'[y]? = h[y]? := by
  have r3 : rd h k 3 = some ((Value.int .i64 1)) := by rw [rd_own hk]; rfl
  have r4 : rd h k 4 = some ((Value.int .u64 hd)) := by rw [rd_own hk]; rfl
  have rL : rdN h k 0 3 = some [(Value.int .i64 V), (Value.int .i64 S), (Value.int .i64 T)] := by rw [rdN_own hk (by simp)]; rfl
  have w1 : IntKind.wrap .i64 (hd % 65536) = hd % 65536 := wi (by omega) (by omega)
  have w2 : IntKind.wrap .i64 (hd % 65536 - 1) = hd % 65536 - 1 := wi (by omega) (by omega)
  have nf := fun (m : Md) (h : Heap) => nextfree_s m h hR (a := hd % 65536 - 1)
  obtain ⟨h1', e1, A1, o1⟩ := ld_x (md := ⟨md.ro, h.length⟩) A hro (Ox S T (hd % 65536 - 1) 0)
  have hk1 := (o1.oth k hka hkb).trans hk
  obtain ⟨h2, w2', hk2, l2, f2⟩ := put_e (md := ⟨md.ro, h.length⟩) hk1 hkr 5 [(Value.int .u64 (getI l (Ox S T (hd % 65536 - 1) 0)))] (tkC V S T 1 hd (getI l (Ox S T (hd % 65536 - 1) 0))) rfl (by simp) rfl
  obtain ⟨h3, w3, hk3, l3, f3⟩ := put_e (md := ⟨md.ro, h.length⟩) hk2 hkr 3 [(Value.int .i64 2)] (tkC V S T 2 hd (getI l (Ox S T (hd % 65536 - 1) 0))) rfl (by simp) rfl
  have d := fun (m : Md) => tdone_s m hk3
  have ll : h3.length = h.length := l3.trans (l2.trans o1.len)
  refine ⟨h3, ?_, A1.same ((f3 a hka.symm).trans (f2 a hka.symm)) ((f3 b hkb.symm).trans (f2 b hkb.symm)), hk3, ll, fun y h1 h2 h3 => (f3 y h3).trans ((f2 y h3).trans (o1.oth y h1 h2))⟩
  rw [C, call_eq, F24_eq]
  unfold F24
  simp only [go_sem, Nat.reduceAdd, Nat.reduceLeDiff, Nat.reduceMul, Int.reduceBEq, Int.reduceBNe, Int.reduceLT, Int.reduceLE, Int.reduceGT, r3, r4, rL, first_s h0 h1, w1, w2, nf, e1, w2', w3, d, take_same (Nat.le_of_eq ll)]
/-- Its third: the swap. -/
theorem tstep2 {hd nx : Int} (A : Ar h a b l c) (hro : md.ro ≤ a) (hrb : md.ro ≤ b) (hkr : md.ro ≤ k) (hka : k ≠ a) (hkb : k ≠ b) (h0 : 0 ≤ hd) (h1 : hd < 18446744073709551616) (n0 : 0 ≤ nx) (n1 : nx < 18446744073709551616) (hk : h[k]? = some (.own (tkC V S T 2 hd nx))) :
    ∃ h', C md 24 [(Value.pointer (some ⟨k, 0, none⟩)), (Value.pointer (some ⟨a, 0, none⟩))] h = some ((Value.bool (isW l T hd)), h') ∧ Ar h' a b (bif isW l T hd then putI l T (withW hd nx) else l) (cW l c T hd) ∧ h'[k]? = some (.own (tkC V S T (bif isW l T hd then 3 else 0) hd nx)) ∧ h'.length = h.length ∧ ∀ y, y ≠ a → y ≠ b → y ≠ k → h'[y]? = h[y]? := by
  have r3 : rd h k 3 = some ((Value.int .i64 2)) := by rw [rd_own hk]; rfl
  obtain ⟨h1', w1, hk1, l1, f1⟩ := put_e (md := ⟨md.ro, h.length⟩) hk hkr 3 [(Value.int .i64 0)] (tkC V S T 0 hd nx) rfl (by simp) rfl
  have A1 := A.same (f1 a hka.symm) (f1 b hkb.symm)
  have r4 : rd h1' k 4 = some ((Value.int .u64 hd)) := by rw [rd_own hk1]; rfl
  have r5 : rd h1' k 5 = some ((Value.int .u64 nx)) := by rw [rd_own hk1]; rfl
  have rL : rdN h1' k 0 3 = some [(Value.int .i64 V), (Value.int .i64 S), (Value.int .i64 T)] := by rw [rdN_own hk1 (by simp)]; rfl
  obtain ⟨h2, e2, A2, o2⟩ := sw_x (md := ⟨md.ro, h.length⟩) A1 hro hrb T hd (withW hd nx)
  have hk2 := (o2.oth k hka hkb).trans hk1
  have ll2 : h2.length = h.length := o2.len.trans l1
  cases hs : isW l T hd
  · rw [hs] at e2 A2
    have d := fun (m : Md) => tdone_s m hk2
    refine ⟨h2, ?_, A2, hk2, ll2, fun y h1 h2 h3 => (o2.oth y h1 h2).trans (f1 y h3)⟩
    rw [C, call_eq, F24_eq]
    unfold F24
    simp only [go_sem, Nat.reduceAdd, Nat.reduceLeDiff, Nat.reduceMul, Int.reduceBEq, Int.reduceBNe, Int.reduceLT, Int.reduceLE, Int.reduceGT, r3, w1, rL, free_s, r4, r5, with_s h0 h1 n0 n1, e2, d, take_same (Nat.le_of_eq ll2)]
  · rw [hs] at e2 A2
    obtain ⟨h3, w3, hk3, l3, f3⟩ := put_e (md := ⟨md.ro, h.length⟩) hk2 hkr 3 [(Value.int .i64 3)] (tkC V S T 3 hd nx) rfl (by simp) rfl
    have d := fun (m : Md) => tdone_s m hk3
    have ll3 : h3.length = h.length := l3.trans ll2
    refine ⟨h3, ?_, A2.same (f3 a hka.symm) (f3 b hkb.symm), hk3, ll3, fun y h1 h2 h3 => (f3 y h3).trans ((o2.oth y h1 h2).trans (f1 y h3))⟩
    rw [C, call_eq, F24_eq]
    unfold F24
    simp only [go_sem, Nat.reduceAdd, Nat.reduceLeDiff, Nat.reduceMul, Int.reduceBEq, Int.reduceBNe, Int.reduceLT, Int.reduceLE, Int.reduceGT, r3, w1, rL, free_s, r4, r5, with_s h0 h1 n0 n1, e2, w3, d, take_same (Nat.le_of_eq ll3)]
theorem gstep0 {s hd : Int} (A : Ar h a b l c) (hro : md.ro ≤ a) (hkr : md.ro ≤ k) (hka : k ≠ a) (hkb : k ≠ b) (hk : h[k]? = some (.own (gvC V S T s 0 hd))) :
    ∃ h', C md 21 [(Value.pointer (some ⟨k, 0, none⟩)), (Value.pointer (some ⟨a, 0, none⟩))] h = some ((Value.bool false), h') ∧ Ar h' a b l (cL l c T) ∧ h'[k]? = some (.own (gvC V S T s 1 (getI l T))) ∧ h'.length = h.length ∧ ∀ y, y ≠ a → y ≠ b → y ≠ k → h'[y]? = h[y]? := by
  have r3 : rd h k 4 = some ((Value.int .i64 0)) := by rw [rd_own hk]; rfl
  have rL : rdN h k 0 3 = some [(Value.int .i64 V), (Value.int .i64 S), (Value.int .i64 T)] := by rw [rdN_own hk (by simp)]; rfl
  obtain ⟨h1, e1, A1, o1⟩ := ld_x (md := ⟨md.ro, h.length⟩) A hro T
  have hk1 := (o1.oth k hka hkb).trans hk
  obtain ⟨h2, w2, hk2, l2, f2⟩ := put_e (md := ⟨md.ro, h.length⟩) hk1 hkr 5 [(Value.int .u64 (getI l T))] (gvC V S T s 0 (getI l T)) rfl (by simp) rfl
  obtain ⟨h3, w3, hk3, l3, f3⟩ := put_e (md := ⟨md.ro, h.length⟩) hk2 hkr 4 [(Value.int .i64 1)] (gvC V S T s 1 (getI l T)) rfl (by simp) rfl
  have d := fun (m : Md) => gdone_s m hk3
  have ll : h3.length = h.length := l3.trans (l2.trans o1.len)
  refine ⟨h3, ?_, A1.same ((f3 a hka.symm).trans (f2 a hka.symm)) ((f3 b hkb.symm).trans (f2 b hkb.symm)), hk3, ll, fun y h1 h2 h3 => (f3 y h3).trans ((f2 y h3).trans (o1.oth y h1 h2))⟩
  rw [C, call_eq, F21_eq]
  unfold F21
  simp only [go_sem, Nat.reduceAdd, Nat.reduceLeDiff, Nat.reduceMul, Int.reduceBEq, Int.reduceBNe, Int.reduceLT, Int.reduceLE, Int.reduceGT, r3, rL, free_s, e1, w2, w3, d, take_same (Nat.le_of_eq ll)]
theorem gstep1 {s hd : Int} (hR : Rt V S T) (A : Ar h a b l c) (hro : md.ro ≤ a) (hrb : md.ro ≤ b) (hkr : md.ro ≤ k) (hka : k ≠ a) (hkb : k ≠ b) (h0 : 0 ≤ hd) (h1 : hd < 18446744073709551616) (hk : h[k]? = some (.own (gvC V S T s 1 hd))) :
    ∃ h', C md 21 [(Value.pointer (some ⟨k, 0, none⟩)), (Value.pointer (some ⟨a, 0, none⟩))] h = some ((Value.bool false), h') ∧ Ar h' a b (putI l (Ox S T s 0) (hd % 65536)) (cS l c (Ox S T s 0)) ∧ h'[k]? = some (.own (gvC V S T s 2 hd)) ∧ h'.length = h.length ∧ ∀ y, y ≠ a → y ≠ b → y ≠ k → h'[y]? = h[y]? := by
  have r3 : rd h k 4 = some ((Value.int .i64 1)) := by rw [rd_own hk]; rfl
  have rs : rd h k 3 = some ((Value.int .i64 s)) := by rw [rd_own hk]; rfl
  have r5 : rd h k 5 = some ((Value.int .u64 hd)) := by rw [rd_own hk]; rfl
  have rL : rdN h k 0 3 = some [(Value.int .i64 V), (Value.int .i64 S), (Value.int .i64 T)] := by rw [rdN_own hk (by simp)]; rfl
  have nf := fun (m : Md) (h : Heap) => nextfree_s m h hR (a := s)
  obtain ⟨h1', e1, A1, o1⟩ := st_x (md := ⟨md.ro, h.length⟩) A hro hrb (Ox S T s 0) (hd % 65536)
  have hk1 := (o1.oth k hka hkb).trans hk
  obtain ⟨h3, w3, hk3, l3, f3⟩ := put_e (md := ⟨md.ro, h.length⟩) hk1 hkr 4 [(Value.int .i64 2)] (gvC V S T s 2 hd) rfl (by simp) rfl
  have d := fun (m : Md) => gdone_s m hk3
  have ll : h3.length = h.length := l3.trans o1.len
  refine ⟨h3, ?_, A1.same (f3 a hka.symm) (f3 b hkb.symm), hk3, ll, fun y h1 h2 h3 => (f3 y h3).trans (o1.oth y h1 h2)⟩
  rw [C, call_eq, F21_eq]
  unfold F21
  simp only [go_sem, Nat.reduceAdd, Nat.reduceLeDiff, Nat.reduceMul, Int.reduceBEq, Int.reduceBNe, Int.reduceLT, Int.reduceLE, Int.reduceGT, r3, rs, r5, rL, first_s h0 h1, nf, e1, w3, d, take_same (Nat.le_of_eq ll)]
theorem gstep2 {s hd : Int} (A : Ar h a b l c) (hro : md.ro ≤ a) (hrb : md.ro ≤ b) (hkr : md.ro ≤ k) (hka : k ≠ a) (hkb : k ≠ b) (h0 : 0 ≤ hd) (h1 : hd < 18446744073709551616) (s0 : 0 ≤ s) (s1 : s < 65535) (hk : h[k]? = some (.own (gvC V S T s 2 hd))) :
    ∃ h', C md 21 [(Value.pointer (some ⟨k, 0, none⟩)), (Value.pointer (some ⟨a, 0, none⟩))] h = some ((Value.bool (isW l T hd)), h') ∧ Ar h' a b (bif isW l T hd then putI l T (withW hd (s + 1)) else l) (cW l c T hd) ∧ h'[k]? = some (.own (gvC V S T s (bif isW l T hd then 3 else 0) hd)) ∧ h'.length = h.length ∧ ∀ y, y ≠ a → y ≠ b → y ≠ k → h'[y]? = h[y]? := by
  have r3 : rd h k 4 = some ((Value.int .i64 2)) := by rw [rd_own hk]; rfl
  obtain ⟨h1', w1, hk1, l1, f1⟩ := put_e (md := ⟨md.ro, h.length⟩) hk hkr 4 [(Value.int .i64 0)] (gvC V S T s 0 hd) rfl (by simp) rfl
  have A1 := A.same (f1 a hka.symm) (f1 b hkb.symm)
  have r4 : rd h1' k 5 = some ((Value.int .u64 hd)) := by rw [rd_own hk1]; rfl
  have r5 : rd h1' k 3 = some ((Value.int .i64 s)) := by rw [rd_own hk1]; rfl
  have rL : rdN h1' k 0 3 = some [(Value.int .i64 V), (Value.int .i64 S), (Value.int .i64 T)] := by rw [rdN_own hk1 (by simp)]; rfl
  have ws : IntKind.wrap .u64 (IntKind.wrap .i64 (s + 1)) = s + 1 := by rw [wi (by omega) (by omega), wu (by omega) (by omega)]
  obtain ⟨h2, e2, A2, o2⟩ := sw_x (md := ⟨md.ro, h.length⟩) A1 hro hrb T hd (withW hd (s + 1))
  have hk2 := (o2.oth k hka hkb).trans hk1
  have ll2 : h2.length = h.length := o2.len.trans l1
  cases hs : isW l T hd
  · rw [hs] at e2 A2
    have d := fun (m : Md) => gdone_s m hk2
    refine ⟨h2, ?_, A2, hk2, ll2, fun y h1 h2 h3 => (o2.oth y h1 h2).trans (f1 y h3)⟩
    rw [C, call_eq, F21_eq]
    unfold F21
    simp only [go_sem, Nat.reduceAdd, Nat.reduceLeDiff, Nat.reduceMul, Int.reduceBEq, Int.reduceBNe, Int.reduceLT, Int.reduceLE, Int.reduceGT, r3, w1, rL, free_s, r4, r5, ws, with_s h0 h1 (show 0 ≤ s + 1 by omega) (by omega), e2, d, take_same (Nat.le_of_eq ll2)]
  · rw [hs] at e2 A2
    obtain ⟨h3, w3, hk3, l3, f3⟩ := put_e (md := ⟨md.ro, h.length⟩) hk2 hkr 4 [(Value.int .i64 3)] (gvC V S T s 3 hd) rfl (by simp) rfl
    have d := fun (m : Md) => gdone_s m hk3
    have ll3 : h3.length = h.length := l3.trans ll2
    refine ⟨h3, ?_, A2.same (f3 a hka.symm) (f3 b hkb.symm), hk3, ll3, fun y h1 h2 h3 => (f3 y h3).trans ((o2.oth y h1 h2).trans (f1 y h3))⟩
    rw [C, call_eq, F21_eq]
    unfold F21
    simp only [go_sem, Nat.reduceAdd, Nat.reduceLeDiff, Nat.reduceMul, Int.reduceBEq, Int.reduceBNe, Int.reduceLT, Int.reduceLE, Int.reduceGT, r3, w1, rL, free_s, r4, r5, ws, with_s h0 h1 (show 0 ≤ s + 1 by omega) (by omega), e2, w3, d, take_same (Nat.le_of_eq ll3)]
end Go.Det.E
