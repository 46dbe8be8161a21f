/- What the functions of the cells answer. -/
import Derived.Test.YtplfaagompkfcaaC1
import Derived.Test.YtplfaagompkfcaaDetU
import Derived.Test.YtplfaagompkfcaaDetV
import Derived.Laws.Bits64b
import Derived.Laws.BitsLemmas
set_option autoImplicit false
set_option linter.unusedVariables false
set_option linter.unusedSimpArgs false
namespace Go.Det
theorem rd_own {h : Heap} {b i : Nat} {cs : List Value} (hb : h[b]? = some (.own cs)) : rd h b i = cs[i]? := by unfold rd; rw [hb]; rfl
theorem rdN_own {h : Heap} {b i n : Nat} {cs : List Value} (hb : h[b]? = some (.own cs)) (hi : i + n ≤ cs.length) : rdN h b i n = some ((cs.drop i).take n) := by unfold rdN; rw [hb]; exact if_pos hi
theorem wr_own {md : Md} {h : Heap} {b i : Nat} {cs : List Value} {v : Value} (hb : h[b]? = some (.own cs)) (hro : md.ro ≤ b) (hs : scalar v = true) (hi : i < cs.length) : wrN md h b i [v] = some (h.set b (.own (cs.set i v))) := by
  unfold wrN
  rw [hb]
  simp only []
  rw [if_pos (by simp only [List.length_cons, List.length_nil]; omega), if_pos ⟨hro, .inr (by simp [hs])⟩]
  rfl
theorem take_same {h : Heap} {n : Nat} (hn : h.length ≤ n) : h.take n = h := List.take_of_length_le hn
theorem set_here {h : Heap} {b : Nat} {k k' : Blk} (hb : h[b]? = some k) : (h.set b k')[b]? = some k' := by
  rw [List.getElem?_set_self (List.getElem?_eq_some_iff.1 hb).1]
theorem set_else {h : Heap} {a b : Nat} {k' : Blk} (hab : a ≠ b) : (h.set a k')[b]? = h[b]? := List.getElem?_set_ne hab
theorem lt_of {h : Heap} {b : Nat} {k : Blk} (hb : h[b]? = some k) : b < h.length := (List.getElem?_eq_some_iff.1 hb).1
end Go.Det
namespace Go.Det.Cell
open Go.Proofs
attribute [local congr] bind_c cond_c

noncomputable abbrev C := call Try.prog cfg
theorem u82 : Try.prog.underlying 82 = some (.pointer 24) := by kernel_rfl
theorem u57 : Try.prog.underlying 57 = some (.slice 24) := by kernel_rfl
def arC (b : Nat) (n : Nat) (c : List Int) : List Value := .slice (some ⟨b, 0, none⟩) n 1 :: c.map (.int .i64)
/-- An arena at a block, its cells at another one. -/
structure Ar (h : Heap) (a b : Nat) (l c : List Int) : Prop where
  ha : h[a]? = some (.own (arC b l.length c))
  hb : h[b]? = some (.own (l.map (.int .u64)))
  hc : c.length = 5
  ne : a ≠ b
def up (c : List Int) (j : Nat) : List Int := c.set j (IntKind.wrap .i64 (c.getD j 0 + 1))
theorem arC_set (b n : Nat) (c : List Int) (j : Nat) (x : Int) : (arC b n c).set (j + 1) (.int .i64 x) = arC b n (c.set j x) := by
  simp [arC, List.map_set]
theorem arC_get {b n : Nat} {c : List Int} {j : Nat} (hj : j < c.length) : (arC b n c)[j + 1]? = some (.int .i64 (c.getD j 0)) := by
  simp [arC, hj, List.getD]
theorem at_s {md : Md} {h : Heap} {a b j : Nat} {l c : List Int} (A : Ar h a b l c) (hro : md.ro ≤ a) (hj : j < 5) {i : Int} (h0 : 0 ≤ i) (h1 : i < l.length) :
    C md 46 [.pointer (some ⟨a, 0, none⟩), .int .i64 i, .pointer (some ⟨a, j + 1, none⟩)] h = some (.pointer (some ⟨b, i.toNat, none⟩), h.set a (.own (arC b l.length (up c j)))) := by
  rw [C, call_eq, F46_eq]
  unfold F46
  have hi0 : ¬ i < 0 := by omega
  have hi1 : ¬ (l.length : Int) ≤ i := by omega
  have r1 : rd h a 0 = some (.slice (some ⟨b, 0, none⟩) l.length 1) := by rw [rd_own A.ha]; rfl
  have r2 : rd h a (j + 1) = some (.int .i64 (c.getD j 0)) := by rw [rd_own A.ha, arC_get (by rw [A.hc]; exact hj)]
  have hlen : j + 1 < (arC b l.length c).length := by simp [arC, A.hc]; omega
  have w1 : wrN ⟨md.ro, h.length⟩ h a (j + 1) [.int .i64 (IntKind.wrap .i64 (c.getD j 0 + 1))] = some (h.set a (.own (arC b l.length (up c j)))) := by
    rw [wr_own (md := ⟨md.ro, h.length⟩) (v := .int .i64 (IntKind.wrap .i64 (c.getD j 0 + 1))) A.ha hro rfl hlen, arC_set]; rfl
  have r3 : rd (h.set a (.own (arC b l.length (up c j)))) a 0 = some (.slice (some ⟨b, 0, none⟩) l.length 1) := by rw [rd_own (set_here A.ha)]; rfl
  have bl : Nat.blt b h.length = true := by have := lt_of A.hb; simp [Nat.blt]; omega
  have tk : (h.set a (.own (arC b l.length (up c j)))).take h.length = h.set a (.own (arC b l.length (up c j))) := take_same (by simp)
  have hx := fun (k : Value → Option (Value × Heap)) => ixS_p 1 b 0 l.length 1 i k ⟨h0, h1⟩
  simp only [go_sem, Nat.reduceAdd, Nat.reduceLeDiff, Nat.reduceMul, Int.reduceBEq, Int.reduceBNe, Int.reduceLT, Int.reduceLE, Int.reduceGT, okPtr, hi0, hi1, r1, r2, r3, w1, aBin_geq, hx, bl, tk]
theorem at_none {md : Md} {h : Heap} {a b j : Nat} {l c : List Int} (A : Ar h a b l c) {i : Int} (hi : i < 0 ∨ (l.length : Int) ≤ i) :
    C md 46 [.pointer (some ⟨a, 0, none⟩), .int .i64 i, .pointer (some ⟨a, j + 1, none⟩)] h = some (.pointer none, h) := by
  rw [C, call_eq, F46_eq]
  unfold F46
  have r1 : rd h a 0 = some (.slice (some ⟨b, 0, none⟩) l.length 1) := by rw [rd_own A.ha]; rfl
  have tk : h.take h.length = h := take_same (Nat.le_refl _)
  by_cases hi0 : i < 0
  · simp only [go_sem, Nat.reduceAdd, Nat.reduceLeDiff, Nat.reduceMul, Int.reduceBEq, Int.reduceBNe, Int.reduceLT, Int.reduceLE, Int.reduceGT, okPtr, hi0, tk]
  · have hi1 : (l.length : Int) ≤ i := by omega
    simp only [go_sem, Nat.reduceAdd, Nat.reduceLeDiff, Nat.reduceMul, Int.reduceBEq, Int.reduceBNe, Int.reduceLT, Int.reduceLE, Int.reduceGT, okPtr, hi0, hi1, r1, aBin_geq, tk]
theorem Ar.count {h : Heap} {a b : Nat} {l c c' : List Int} (A : Ar h a b l c) (hc : c'.length = 5) : Ar (h.set a (.own (arC b l.length c'))) a b l c' :=
  ⟨set_here A.ha, by rw [set_else A.ne]; exact A.hb, hc, A.ne⟩
theorem Ar.cells {h : Heap} {a b : Nat} {l l' c : List Int} (A : Ar h a b l c) (hl : l'.length = l.length) : Ar (h.set b (.own (l'.map (.int .u64)))) a b l' c :=
  ⟨by rw [set_else A.ne.symm, hl]; exact A.ha, set_here A.hb, A.hc, A.ne⟩
theorem up_len (c : List Int) (j : Nat) : (up c j).length = c.length := by simp [up]
theorem Ar.up {h : Heap} {a b : Nat} {l c : List Int} (A : Ar h a b l c) (j : Nat) : Ar (h.set a (.own (arC b l.length (up c j)))) a b l (up c j) := A.count (by rw [up_len, A.hc])
theorem Ar.rd {h : Heap} {a b : Nat} {l c : List Int} (A : Ar h a b l c) {i : Nat} (hi : i < l.length) : rd h b i = some (.int .u64 (l.getD i 0)) := by
  rw [rd_own A.hb]; simp [hi, List.getD]
theorem Ar.wr {md : Md} {h : Heap} {a b : Nat} {l c : List Int} (A : Ar h a b l c) (hro : md.ro ≤ b) {i : Nat} (hi : i < l.length) (x : Int) : wrN md h b i [.int .u64 x] = some (h.set b (.own ((l.set i x).map (.int .u64)))) := by
  rw [wr_own (v := .int .u64 x) A.hb hro rfl (by simpa using hi), List.map_set]
theorem load_s {md : Md} {h : Heap} {a b : Nat} {l c : List Int} (A : Ar h a b l c) (hro : md.ro ≤ a) {i : Int} (h0 : 0 ≤ i) (h1 : i < l.length) :
    C md 37 [.pointer (some ⟨a, 0, none⟩), .int .i64 i] h = some (.tuple #[.int .u64 (l.getD i.toNat 0), .int .i64 0], h.set a (.own (arC b l.length (up c 0)))) := by
  rw [C, call_eq, F37_eq]
  unfold F37
  have e := at_s (md := ⟨md.ro, h.length⟩) A hro (j := 0) (by decide) h0 h1
  have tk : (h.set a (.own (arC b l.length (up c 0)))).take h.length = h.set a (.own (arC b l.length (up c 0))) := take_same (by simp)
  have r := (A.up 0).rd (i := i.toNat) (by omega)
  simp only [go_sem, Nat.reduceAdd, Nat.reduceLeDiff, Nat.reduceMul, Int.reduceBEq, Int.reduceBNe, Int.reduceLT, Int.reduceLE, Int.reduceGT, okPtr, e, aBin_eqlP u82, r, tk]
theorem load_n {md : Md} {h : Heap} {a b : Nat} {l c : List Int} (A : Ar h a b l c) {i : Int} (hi : i < 0 ∨ (l.length : Int) ≤ i) :
    C md 37 [.pointer (some ⟨a, 0, none⟩), .int .i64 i] h = some (.tuple #[.int .u64 0, .int .i64 20], h) := by
  rw [C, call_eq, F37_eq]
  unfold F37
  have e := at_none (md := ⟨md.ro, h.length⟩) A (j := 0) hi
  have tk : h.take h.length = h := take_same (Nat.le_refl _)
  simp only [go_sem, Nat.reduceAdd, Nat.reduceLeDiff, Nat.reduceMul, Int.reduceBEq, Int.reduceBNe, Int.reduceLT, Int.reduceLE, Int.reduceGT, okPtr, e, aBin_eqlN u82, tk]
theorem store_s {md : Md} {h : Heap} {a b : Nat} {l c : List Int} (A : Ar h a b l c) (hro : md.ro ≤ a) (hrb : md.ro ≤ b) {i : Int} (h0 : 0 ≤ i) (h1 : i < l.length) (v : Int) :
    C md 35 [.pointer (some ⟨a, 0, none⟩), .int .i64 i, .int .u64 v] h = some (.int .i64 0, (h.set a (.own (arC b l.length (up c 1)))).set b (.own ((l.set i.toNat v).map (.int .u64)))) := by
  rw [C, call_eq, F35_eq]
  unfold F35
  have e := at_s (md := ⟨md.ro, h.length⟩) A hro (j := 1) (by decide) h0 h1
  have w := (A.up 1).wr (md := ⟨md.ro, h.length⟩) hrb (i := i.toNat) (by omega) v
  have tk : ((h.set a (.own (arC b l.length (up c 1)))).set b (.own ((l.set i.toNat v).map (.int .u64)))).take h.length = (h.set a (.own (arC b l.length (up c 1)))).set b (.own ((l.set i.toNat v).map (.int .u64))) := take_same (by simp)
  simp only [go_sem, Nat.reduceAdd, Nat.reduceLeDiff, Nat.reduceMul, Int.reduceBEq, Int.reduceBNe, Int.reduceLT, Int.reduceLE, Int.reduceGT, okPtr, e, aBin_eqlP u82, w, tk]
theorem store_n {md : Md} {h : Heap} {a b : Nat} {l c : List Int} (A : Ar h a b l c) {i : Int} (hi : i < 0 ∨ (l.length : Int) ≤ i) (v : Int) :
    C md 35 [.pointer (some ⟨a, 0, none⟩), .int .i64 i, .int .u64 v] h = some (.int .i64 20, h) := by
  rw [C, call_eq, F35_eq]
  unfold F35
  have e := at_none (md := ⟨md.ro, h.length⟩) A (j := 1) hi
  have tk : h.take h.length = h := take_same (Nat.le_refl _)
  simp only [go_sem, Nat.reduceAdd, Nat.reduceLeDiff, Nat.reduceMul, Int.reduceBEq, Int.reduceBNe, Int.reduceLT, Int.reduceLE, Int.reduceGT, okPtr, e, aBin_eqlN u82, tk]
theorem add_s {md : Md} {h : Heap} {a b : Nat} {l c : List Int} (A : Ar h a b l c) (hro : md.ro ≤ a) (hrb : md.ro ≤ b) {i : Int} (h0 : 0 ≤ i) (h1 : i < l.length) (v : Int) :
    C md 39 [.pointer (some ⟨a, 0, none⟩), .int .i64 i, .int .u64 v] h = some (.tuple #[.int .u64 (l.getD i.toNat 0), .int .i64 0], (h.set a (.own (arC b l.length (up c 4)))).set b (.own ((l.set i.toNat (IntKind.wrap .u64 (l.getD i.toNat 0 + v))).map (.int .u64)))) := by
  rw [C, call_eq, F39_eq]
  unfold F39
  have e := at_s (md := ⟨md.ro, h.length⟩) A hro (j := 4) (by decide) h0 h1
  have r := (A.up 4).rd (i := i.toNat) (by omega)
  have w := (A.up 4).wr (md := ⟨md.ro, h.length⟩) hrb (i := i.toNat) (by omega) (IntKind.wrap .u64 (l.getD i.toNat 0 + v))
  have tk : ((h.set a (.own (arC b l.length (up c 4)))).set b (.own ((l.set i.toNat (IntKind.wrap .u64 (l.getD i.toNat 0 + v))).map (.int .u64)))).take h.length = (h.set a (.own (arC b l.length (up c 4)))).set b (.own ((l.set i.toNat (IntKind.wrap .u64 (l.getD i.toNat 0 + v))).map (.int .u64))) := take_same (by simp)
  simp only [go_sem, Nat.reduceAdd, Nat.reduceLeDiff, Nat.reduceMul, Int.reduceBEq, Int.reduceBNe, Int.reduceLT, Int.reduceLE, Int.reduceGT, okPtr, e, aBin_eqlP u82, r, w, tk]
theorem add_n {md : Md} {h : Heap} {a b : Nat} {l c : List Int} (A : Ar h a b l c) {i : Int} (hi : i < 0 ∨ (l.length : Int) ≤ i) (v : Int) :
    C md 39 [.pointer (some ⟨a, 0, none⟩), .int .i64 i, .int .u64 v] h = some (.tuple #[.int .u64 0, .int .i64 20], h) := by
  rw [C, call_eq, F39_eq]
  unfold F39
  have e := at_none (md := ⟨md.ro, h.length⟩) A (j := 4) hi
  have tk : h.take h.length = h := take_same (Nat.le_refl _)
  simp only [go_sem, Nat.reduceAdd, Nat.reduceLeDiff, Nat.reduceMul, Int.reduceBEq, Int.reduceBNe, Int.reduceLT, Int.reduceLE, Int.reduceGT, okPtr, e, aBin_eqlN u82, tk]
theorem swap_s {md : Md} {h : Heap} {a b : Nat} {l c : List Int} (A : Ar h a b l c) (hro : md.ro ≤ a) (hrb : md.ro ≤ b) {i : Int} (h0 : 0 ≤ i) (h1 : i < l.length) (was v : Int) :
    C md 38 [.pointer (some ⟨a, 0, none⟩), .int .i64 i, .int .u64 was, .int .u64 v] h = some (.tuple #[.bool (l.getD i.toNat 0 == was), .int .i64 0],
      bif l.getD i.toNat 0 == was then (h.set a (.own (arC b l.length (up c 2)))).set b (.own ((l.set i.toNat v).map (.int .u64))) else h.set a (.own (arC b l.length (up c 3)))) := by
  rw [C, call_eq, F38_eq]
  unfold F38
  have r1 : rd h a 0 = some (.slice (some ⟨b, 0, none⟩) l.length 1) := by rw [rd_own A.ha]; rfl
  have r2 := A.rd (i := i.toNat) (by omega)
  have hx := fun {α : Type} (k : Value → Option α) => ixS_p 1 b 0 l.length 1 i k ⟨h0, h1⟩
  have e2 := at_s (md := ⟨md.ro, h.length⟩) A hro (j := 2) (by decide) h0 h1
  have e3 := at_s (md := ⟨md.ro, h.length⟩) A hro (j := 3) (by decide) h0 h1
  have w := (A.up 2).wr (md := ⟨md.ro, h.length⟩) hrb (i := i.toNat) (by omega) v
  have q2 := (A.up 2).rd (i := i.toNat) (by omega)
  have q3 := (A.up 3).rd (i := i.toNat) (by omega)
  have tk2 : ((h.set a (.own (arC b l.length (up c 2)))).set b (.own ((l.set i.toNat v).map (.int .u64)))).take h.length = (h.set a (.own (arC b l.length (up c 2)))).set b (.own ((l.set i.toNat v).map (.int .u64))) := take_same (by simp)
  have tk3 : (h.set a (.own (arC b l.length (up c 3)))).take h.length = h.set a (.own (arC b l.length (up c 3))) := take_same (by simp)
  cases hw : (l.getD i.toNat 0 == was)
  · simp only [go_sem, Nat.reduceAdd, Nat.reduceLeDiff, Nat.reduceMul, Int.reduceBEq, Int.reduceBNe, Int.reduceLT, Int.reduceLE, Int.reduceGT, okPtr, ge_iff_le, h0, h1, r1, r2, hx, aBin_lss, aBin_eql, aBin_neq, hw, J38_0, e3, aBin_eqlP u82, q3, tk3, bne]
  · simp only [go_sem, Nat.reduceAdd, Nat.reduceLeDiff, Nat.reduceMul, Int.reduceBEq, Int.reduceBNe, Int.reduceLT, Int.reduceLE, Int.reduceGT, okPtr, ge_iff_le, h0, h1, r1, r2, hx, aBin_lss, aBin_eql, aBin_neq, hw, J38_0, e2, aBin_eqlP u82, q2, w, tk2, bne]
theorem swap_n {md : Md} {h : Heap} {a b : Nat} {l c : List Int} (A : Ar h a b l c) {i : Int} (hi : i < 0 ∨ (l.length : Int) ≤ i) (was v : Int) :
    C md 38 [.pointer (some ⟨a, 0, none⟩), .int .i64 i, .int .u64 was, .int .u64 v] h = some (.tuple #[.bool false, .int .i64 20], h) := by
  rw [C, call_eq, F38_eq]
  unfold F38
  have r1 : rd h a 0 = some (.slice (some ⟨b, 0, none⟩) l.length 1) := by rw [rd_own A.ha]; rfl
  have e := at_none (md := ⟨md.ro, h.length⟩) A (j := 3) hi
  have tk : h.take h.length = h := take_same (Nat.le_refl _)
  by_cases h0 : 0 ≤ i
  · have h1 : ¬ i < (l.length : Int) := by omega
    simp only [go_sem, Nat.reduceAdd, Nat.reduceLeDiff, Nat.reduceMul, Int.reduceBEq, Int.reduceBNe, Int.reduceLT, Int.reduceLE, Int.reduceGT, okPtr, ge_iff_le, h0, h1, r1, aBin_lss, J38_0, e, aBin_eqlN u82, tk]
  · simp only [go_sem, Nat.reduceAdd, Nat.reduceLeDiff, Nat.reduceMul, Int.reduceBEq, Int.reduceBNe, Int.reduceLT, Int.reduceLE, Int.reduceGT, okPtr, ge_iff_le, h0, J38_0, e, aBin_eqlN u82, tk]
theorem len_s {md : Md} {h : Heap} {a b : Nat} {l c : List Int} (A : Ar h a b l c) : C md 32 [.pointer (some ⟨a, 0, none⟩)] h = some (.int .i64 l.length, h) := by
  rw [C, call_eq, F32_eq]
  unfold F32
  have r1 : rd h a 0 = some (.slice (some ⟨b, 0, none⟩) l.length 1) := by rw [rd_own A.ha]; rfl
  simp only [go_sem, Nat.reduceAdd, Nat.reduceLeDiff, Nat.reduceMul, Int.reduceBEq, Int.reduceBNe, Int.reduceLT, Int.reduceLE, Int.reduceGT, okPtr, r1]
theorem counts_s {md : Md} {h : Heap} {a b : Nat} {l c : List Int} (A : Ar h a b l c) : C md 40 [.pointer (some ⟨a, 0, none⟩)] h = some (.agg (c.map (.int .i64)).toArray, h) := by
  rw [C, call_eq, F40_eq]
  unfold F40
  obtain ⟨ha, hb, hc, ne⟩ := A
  obtain ⟨c0, c1, c2, c3, c4, rfl⟩ : ∃ c0 c1 c2 c3 c4, c = [c0, c1, c2, c3, c4] := by
    rcases c with _ | ⟨c0, _ | ⟨c1, _ | ⟨c2, _ | ⟨c3, _ | ⟨c4, _ | ⟨c5, c⟩⟩⟩⟩⟩⟩ <;> simp at hc
    exact ⟨_, _, _, _, _, rfl⟩
  have r1 : rdN (h ++ [.own [.int .i64 0, .int .i64 0, .int .i64 0, .int .i64 0, .int .i64 0]]) a 1 5 = some [.int .i64 c0, .int .i64 c1, .int .i64 c2, .int .i64 c3, .int .i64 c4] := by
    rw [rdN_old (lt_of ha), rdN_own ha (by simp [arC])]; rfl
  simp only [go_sem, Nat.reduceAdd, Nat.reduceLeDiff, Nat.reduceMul, Int.reduceBEq, Int.reduceBNe, Int.reduceLT, Int.reduceLE, Int.reduceGT, okPtr, r1, List.map_cons, List.map_nil]
theorem eq_loop {md : Md} {h0 h : Heap} {b b' : Nat} {l l' : List Int} {s4 : Value} (hb : h[b]? = some (.own (l.map (.int .u64)))) (hb' : h[b']? = some (.own (l'.map (.int .u64)))) (hl : l.length = l'.length) (hm : l.length < 4611686018427387904) : ∀ (m k : Nat), k + m = l.length →
    J45_0 C md h0 (.slice (some ⟨b, 0, none⟩) l.length 1) (.slice (some ⟨b', 0, none⟩) l'.length 1) s4 (.int .i64 l.length) (.int .i64 k) h = some (.bool (decide (l.drop k = l'.drop k)), h0) := by
  intro m
  induction m with
  | zero =>
    intro k hk
    obtain rfl : k = l.length := by omega
    rw [J45_0_step]
    unfold Jr45_0
    simp only [go_sem, Nat.reduceAdd, Nat.reduceLeDiff, Nat.reduceMul, Int.reduceBEq, Int.reduceBNe, Int.reduceLT, Int.reduceLE, Int.reduceGT, aBin_lss, Int.lt_irrefl, Jk45_0]
    rw [List.drop_length, hl, List.drop_length]
    rfl
  | succ m ih =>
    intro k hk
    rw [J45_0_step]
    have hkl : (k : Int) < (l.length : Int) := by omega
    have hkl' : (k : Int) < (l'.length : Int) := by omega
    have r1 : rd h b k = some (.int .u64 (l.getD k 0)) := by rw [rd_own hb]; simp [show k < l.length by omega, List.getD]
    have r2 : rd h b' k = some (.int .u64 (l'.getD k 0)) := by rw [rd_own hb']; simp [show k < l'.length by omega, List.getD]
    have hw : IntKind.wrap .i64 ((k : Int) + 1) = ((k + 1 : Nat) : Int) := by rw [IntKind.wrap_i64]; omega
    have hx := fun {α : Type} (kk : Value → Option α) => ixS_p 1 b 0 l.length 1 (k : Int) kk ⟨Int.natCast_nonneg k, hkl⟩
    have hx' := fun {α : Type} (kk : Value → Option α) => ixS_p 1 b' 0 l'.length 1 (k : Int) kk ⟨Int.natCast_nonneg k, hkl'⟩
    have d1 : l.drop k = l.getD k 0 :: l.drop (k + 1) := by rw [List.drop_eq_getElem_cons (by omega : k < l.length)]; simp [List.getD, show k < l.length by omega]
    have d2 : l'.drop k = l'.getD k 0 :: l'.drop (k + 1) := by rw [List.drop_eq_getElem_cons (by omega : k < l'.length)]; simp [List.getD, show k < l'.length by omega]
    unfold Jr45_0
    by_cases he : l.getD k 0 = l'.getD k 0
    · have hb : (l.getD k 0 != l'.getD k 0) = false := by rw [he]; simp
      simp only [go_sem, Nat.reduceAdd, Nat.reduceLeDiff, Nat.reduceMul, Int.reduceBEq, Int.reduceBNe, Int.reduceLT, Int.reduceLE, Int.reduceGT, aBin_lss, hkl, hx, hx', r1, r2, hb, aBin_add, hw]
      rw [ih (k + 1) (by omega), d1, d2]
      simp only [List.cons.injEq, he, true_and]
    · have hb : (l.getD k 0 != l'.getD k 0) = true := by simpa using he
      simp only [go_sem, Nat.reduceAdd, Nat.reduceLeDiff, Nat.reduceMul, Int.reduceBEq, Int.reduceBNe, Int.reduceLT, Int.reduceLE, Int.reduceGT, aBin_lss, hkl, hx, hx', r1, r2, hb, Jk45_0]
      rw [d1, d2]
      simp only [List.cons.injEq, he, false_and, decide_false]
theorem equal_s {md : Md} {h : Heap} {a b a' b' : Nat} {l c l' c' : List Int} (A : Ar h a b l c) (A' : Ar h a' b' l' c') (hm : l.length < 4611686018427387904) :
    C md 34 [.pointer (some ⟨a, 0, none⟩), .pointer (some ⟨a', 0, none⟩)] h = some (.bool (decide (l = l')), h) := by
  rw [C, call_eq, F34_eq]
  unfold F34
  have r1 : rd h a 0 = some (.slice (some ⟨b, 0, none⟩) l.length 1) := by rw [rd_own A.ha]; rfl
  have r2 : rd h a' 0 = some (.slice (some ⟨b', 0, none⟩) l'.length 1) := by rw [rd_own A'.ha]; rfl
  have e : C ⟨h.length, h.length⟩ 45 [.slice (some ⟨b, 0, none⟩) l.length 1, .slice (some ⟨b', 0, none⟩) l'.length 1] h = some (.bool (decide (l = l')), h) := by
    rw [C, call_eq, F45_eq]
    unfold F45
    by_cases hl : l.length = l'.length
    · have hb : ((l.length : Int) != (l'.length : Int)) = false := by rw [hl]; simp
      simp only [go_sem, Nat.reduceAdd, Nat.reduceLeDiff, Nat.reduceMul, Int.reduceBEq, Int.reduceBNe, Int.reduceLT, Int.reduceLE, Int.reduceGT, hb]
      exact eq_loop A.hb A'.hb hl hm l.length 0 (by omega)
    · have hb : ((l.length : Int) != (l'.length : Int)) = true := by simpa using fun h => hl (by omega)
      have hd : decide (l = l') = false := by simpa using fun h => hl (by rw [h])
      simp only [go_sem, Nat.reduceAdd, Nat.reduceLeDiff, Nat.reduceMul, Int.reduceBEq, Int.reduceBNe, Int.reduceLT, Int.reduceLE, Int.reduceGT, hb, hd]
  simp only [go_sem, Nat.reduceAdd, Nat.reduceLeDiff, Nat.reduceMul, Int.reduceBEq, Int.reduceBNe, Int.reduceLT, Int.reduceLE, Int.reduceGT, okPtr, r1, r2, e]
theorem t57 : SlT Try.prog 57 24 1 8 [.int .u64 0] := ⟨u57, by kernel_rfl, by kernel_rfl, rfl, by decide, by decide, rfl⟩
theorem b79 {α : Type} {a : Option Addr} {n c : Nat} (k : Value → Option α) : aBuild Try.prog 79 [(0, .slice a n c)] k = k (.agg #[.slice a n c, .int .i64 0, .int .i64 0, .int .i64 0, .int .i64 0, .int .i64 0]) := by kernel_rfl
theorem b79c {α : Type} {a : Option Addr} {n c : Nat} {c0 c1 c2 c3 c4 : Int} (k : Value → Option α) : aBuild Try.prog 79 [(0, .slice a n c), (1, .agg #[.int .i64 c0, .int .i64 c1, .int .i64 c2, .int .i64 c3, .int .i64 c4])] k =
    k (.agg #[.slice a n c, .int .i64 c0, .int .i64 c1, .int .i64 c2, .int .i64 c3, .int .i64 c4]) := by kernel_rfl
theorem cells_agg (l : List Value) : (Value.agg l.toArray).cells.toList = l := by simp [Value.cells]
theorem repL_int (n : Nat) : repL n [Value.int .u64 0] = (List.replicate n (0 : Int)).map (.int .u64) := by
  induction n with
  | zero => rfl
  | succ n ih => simp only [repL, ih, List.replicate_succ, List.map_cons]; rfl
theorem new_s {md : Md} {h : Heap} {n : Int} (h0 : 0 ≤ n) (h1 : n ≤ 16384) :
    C md 31 [.int .i64 n] h = some (.tuple #[.pointer (some ⟨h.length + 1, 0, none⟩), .int .i64 0], h ++ [.own ((List.replicate n.toNat (0 : Int)).map (.int .u64)), .own (arC h.length n.toNat [0, 0, 0, 0, 0])]) := by
  rw [C, call_eq, F31_eq]
  unfold F31
  have e0 : ¬ n < 0 := by omega
  have e1 : ¬ 16384 < n := by omega
  have hm := fun (h : Heap) (k : Value → Heap → Option (Value × Heap)) => make_p t57 h0 (Int.le_refl n) (by omega) (by omega) h k
  simp only [go_sem, Nat.reduceAdd, Nat.reduceLeDiff, Nat.reduceMul, Int.reduceBEq, Int.reduceBNe, Int.reduceLT, Int.reduceLE, Int.reduceGT, e0, e1, aBin_gtr, hm, b79, cells_agg, repL_int]
  rfl
theorem new_n {md : Md} {h : Heap} {n : Int} (hn : n < 0 ∨ 16384 < n) : C md 31 [.int .i64 n] h = some (.tuple #[.pointer none, .int .i64 11], h) := by
  rw [C, call_eq, F31_eq]
  unfold F31
  by_cases h0 : n < 0
  · simp only [go_sem, Nat.reduceAdd, Nat.reduceLeDiff, Nat.reduceMul, Int.reduceBEq, Int.reduceBNe, Int.reduceLT, Int.reduceLE, Int.reduceGT, h0]
  · have h1 : 16384 < n := by omega
    simp only [go_sem, Nat.reduceAdd, Nat.reduceLeDiff, Nat.reduceMul, Int.reduceBEq, Int.reduceBNe, Int.reduceLT, Int.reduceLE, Int.reduceGT, h0, h1, aBin_gtr]
theorem sl_nil {α : Type} {a : Addr} {n c : Nat} (k : Value → Option α) : aBin Try.prog .eql 57 (.slice (some a) n c) (.slice none 0 0) k = k (.bool false) := by simp [aBin, aEq, u57]
theorem clone_s {md : Md} {h : Heap} {b : Nat} {l : List Int} (hb : h[b]? = some (.own (l.map (.int .u64)))) (hro : md.ro ≤ h.length) (hm : l.length ≤ 16384) :
    ∃ bs b', C md 44 [.slice (some ⟨b, 0, none⟩) l.length 1] h = some (.slice (some ⟨b', 0, none⟩) l.length 1, h ++ bs) ∧ (h ++ bs)[b']? = some (.own (l.map (.int .u64))) ∧ h.length ≤ b' := by
  cases l with
  | nil =>
    refine ⟨[.own []], h.length, ?_, by simp, Nat.le_refl _⟩
    rw [C, call_eq, F44_eq]
    unfold F44
    have hr : rdN (h ++ [.own []]) b 0 0 = some [] := by rw [rdN_old (lt_of hb), rdN_own hb (by simp)]; rfl
    have ap := fun (k : Value → Heap → Option (Value × Heap)) => append_0 (md := md) (b := h.length) (o := 0) (len := 0) (cap := 1) (cap' := 1) t57 hr k
    simp only [go_sem, Nat.reduceAdd, Nat.reduceLeDiff, Nat.reduceMul, Int.reduceBEq, Int.reduceBNe, Int.reduceLT, Int.reduceLE, Int.reduceGT, sl_nil, ap]
  | cons x l =>
    refine ⟨[.dead, .own ((x :: l).map (.int .u64))], h.length + 1, ?_, by rw [List.getElem?_append_right (by omega), Nat.add_sub_cancel_left]; rfl, by omega⟩
    rw [C, call_eq, F44_eq]
    unfold F44
    have hr : rdN (h ++ [.own []]) b 0 ((x :: l).length * 1) = some ((x :: l).map (.int .u64)) := by
      rw [rdN_old (lt_of hb), rdN_own hb (by simp)]
      rw [List.drop_zero, Nat.mul_one, List.take_of_length_le (by simp)]
    have hc : (((x :: l).map (Value.int .u64))).all isCell = true := by
      rw [List.all_eq_true]; intro v hv
      obtain ⟨y, _, rfl⟩ := List.mem_map.1 hv; rfl
    have ap := fun (k : Value → Heap → Option (Value × Heap)) => append_p (md := md) (b := h.length) (o := 0) (len := 0) (cap' := 1) (cs := []) t57 (by simp) (by simp) hro (by simp) hr hc (by simp at hm ⊢; omega) k
    simp only [List.length_cons] at ap
    simp only [go_sem, Nat.reduceAdd, Nat.reduceLeDiff, Nat.reduceMul, Int.reduceBEq, Int.reduceBNe, Int.reduceLT, Int.reduceLE, Int.reduceGT, sl_nil]
    rw [ap]
    simp
theorem copy_s {md : Md} {h : Heap} {a b : Nat} {l c : List Int} (A : Ar h a b l c) (hro : md.ro ≤ h.length) (hm : l.length ≤ 16384) :
    ∃ bs a' b', C md 33 [.pointer (some ⟨a, 0, none⟩)] h = some (.pointer (some ⟨a', 0, none⟩), h ++ bs) ∧ Ar (h ++ bs) a' b' l c ∧ h.length ≤ a' ∧ h.length ≤ b' := by
  obtain ⟨bs, b', hc, hb', hle⟩ := clone_s (md := md) A.hb hro hm
  have hlt := lt_of hb'
  refine ⟨bs ++ [.own (arC b' l.length c)], (h ++ bs).length, b', ?_, ⟨?_, ?_, A.hc, by omega⟩, by simp, hle⟩
  · rw [C, call_eq, F33_eq]
    unfold F33
    have r1 : rd h a 0 = some (.slice (some ⟨b, 0, none⟩) l.length 1) := by rw [rd_own A.ha]; rfl
    obtain ⟨ha, hb, hcl, ne⟩ := A
    obtain ⟨c0, c1, c2, c3, c4, rfl⟩ : ∃ c0 c1 c2 c3 c4, c = [c0, c1, c2, c3, c4] := by
      rcases c with _ | ⟨c0, _ | ⟨c1, _ | ⟨c2, _ | ⟨c3, _ | ⟨c4, _ | ⟨c5, c⟩⟩⟩⟩⟩⟩ <;> simp at hcl
      exact ⟨_, _, _, _, _, rfl⟩
    have r2 : rdN h a 1 5 = some [.int .i64 c0, .int .i64 c1, .int .i64 c2, .int .i64 c3, .int .i64 c4] := by rw [rdN_own ha (by simp [arC])]; rfl
    have r3 : rdN (h ++ bs) a 1 5 = some [.int .i64 c0, .int .i64 c1, .int .i64 c2, .int .i64 c3, .int .i64 c4] := by rw [rdN_old (lt_of ha), r2]
    simp only [go_sem, Nat.reduceAdd, Nat.reduceLeDiff, Nat.reduceMul, Int.reduceBEq, Int.reduceBNe, Int.reduceLT, Int.reduceLE, Int.reduceGT, okPtr, r1, hc, r2, r3, b79c, cells_agg]
    rfl
  · rw [← List.append_assoc, List.getElem?_append_right (Nat.le_refl _), Nat.sub_self]; rfl
  · rw [← List.append_assoc, List.getElem?_append_left hlt]; exact hb'
end Go.Det.Cell
