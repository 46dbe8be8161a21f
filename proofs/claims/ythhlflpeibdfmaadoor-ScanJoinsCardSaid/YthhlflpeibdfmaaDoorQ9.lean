/- Scanning: a text's tokens, by the document: the walk's end. -/
import Derived.Test.YthhlflpeibdfmaaDoorQ8
set_option autoImplicit false
set_option linter.unusedVariables false
set_option linter.unusedSimpArgs false
namespace Go.Det.E
open Go.Proofs Go.Det
open Go.Lib (decodeL)
attribute [local congr] bind_c cond_c
variable {md : Md} {h hh h' h0 : Heap} {s : ByteArray} {l o : List Tok} {t : List Int} {k : Int} {f n m n0 p w i : Nat} {v tv s2 s3 s4 s5 s6 s14 : Value}
abbrev stq (s : ByteArray) (s5 : Value) (j : Nat) : Value × Value × Value × Value × Value × Value := (.string s, .slice none 0 0, (Value.int .i64 0), (Value.int .i64 0), s5, (Value.int .i64 ((j : Int))))
theorem bs_K {α : Type} (x : Tok) (h : Heap) (k : Value → Heap → Option α) : aBuildSlice Tryd.prog 27 1 [(0, .agg (encK x).toArray)] h k = k ((Value.slice (some ⟨h.length, 0, none⟩) 1 3)) (h ++ [.own (encK x)]) := by
  obtain ⟨j, hj, e1, e2⟩ := tK.info
  unfold aBuildSlice
  simp only [tK.hu, hj, tK.hz, e1]
  rw [if_pos ⟨rfl, by decide, by decide⟩, if_pos tK.hsc]
  cases x <;> simp [repL, fillL, lay, Value.cells, encK]
theorem bd_s {α : Type} (b : ByteArray) (kk : Value → Option α) : aBuild Tryd.prog 50 [(0, (Value.int .i64 2)), (2, .string b)] kk = kk (.agg #[(Value.int .i64 2), (Value.int .i64 0), .string b]) := by kernel_rfl
theorem bd_n {α : Type} (v : Int) (kk : Value → Option α) : aBuild Tryd.prog 50 [(0, (Value.int .i64 1)), (1, (Value.int .i64 v))] kk = kk (.agg #[(Value.int .i64 1), (Value.int .i64 v), .string ⟨#[]⟩]) := by kernel_rfl
theorem b4_s (S : SlO h n0 3 encK s5 o) (hro : md.ro ≤ n0) (hn0 : n0 ≤ h.length) (hl : o.length ≤ 100000) (x : Int) (j : Nat) :
    ∃ v' h', J12_0b4 C md (.string s) (.slice none 0 0) ((Value.int .i64 0)) ((Value.int .i64 0)) s5 ((Value.int .i64 ((j : Int)))) ((Value.int .i64 x)) h = some (.inl (stq s v' j, h')) ∧ SlO h' n0 3 encK v' (o ++ [.n x]) ∧ Old n0 h h' := by
  obtain ⟨v', h', ea, S', O'⟩ := app_K (md := md) S hro hn0 hl (.n x)
  have bK : ∀ {α : Type} (kk : Value → Heap → Option α), aBuildSlice Tryd.prog 27 1 [(0, .agg #[(Value.int .i64 1), (Value.int .i64 x), .string ⟨#[]⟩])] h kk = kk ((Value.slice (some ⟨h.length, 0, none⟩) 1 3)) (h ++ [.own (encK (.n x))]) := fun kk => bs_K (.n x) h kk
  refine ⟨v', h', ?_, S', O'⟩
  unfold J12_0b4
  have bn := fun {α : Type} (kk : Value → Option α) => bd_n x kk
  simp only [go_sem, Nat.reduceAdd, Nat.reduceLeDiff, Nat.reduceMul, Int.reduceBEq, Int.reduceBNe, Int.reduceLT, Int.reduceLE, Int.reduceGT, bn, bK, ea]
theorem b3_lp {row : ByteArray} {j : Nat} (hrow : row = bs (encs t)) (ht : ∀ r ∈ t, 48 ≤ r ∧ r ≤ 57) (hl : t.length ≤ 9) : ∀ (m i : Nat), i + m = t.length →
    J12_0b3 C md (.string s) (.slice none 0 0) ((Value.int .i64 0)) ((Value.int .i64 0)) s5 ((Value.int .i64 ((j : Int)))) (.string row) ((Value.int .i64 (val (t.take i)))) ((Value.int .i64 ((i : Int)))) h = J12_0b4 C md (.string s) (.slice none 0 0) ((Value.int .i64 0)) ((Value.int .i64 0)) s5 ((Value.int .i64 ((j : Int)))) ((Value.int .i64 (val t))) h := by
  have hsz : row.size = t.length := by rw [hrow, encs_dig ht]; show (t.map _).toArray.size = _; simp
  have len : ∀ {α : Type} (k : Value → Option α), lenT (.string row) k = k ((Value.int .i64 (((t.length : Nat) : Int)))) := fun k => by rw [← hsz]; rfl
  intro m
  induction m with
  | zero =>
    intro i hi
    obtain rfl : i = t.length := by omega
    rw [J12_0b3_step]
    unfold Jr12_0b3
    rw [List.take_length]
    simp only [go_sem, Nat.reduceAdd, Nat.reduceLeDiff, Nat.reduceMul, Int.reduceBEq, Int.reduceBNe, Int.reduceLT, Int.reduceLE, Int.reduceGT, len, aBin_lss, Int.lt_irrefl, Jk12_0b3]
  | succ m ih =>
    intro i hi
    have hlt : (i : Int) < ((t.length : Nat) : Int) := by omega
    obtain ⟨r, hr⟩ : ∃ r, t[i]? = some r := ⟨t[i]'(by omega), List.getElem?_eq_getElem (by omega)⟩
    have hr2 := ht r (List.mem_of_getElem? hr)
    have bd := by_dig ht hr
    have ix : ∀ {α : Type} (kk : Value → Option α), aIndex Tryd.prog 9 (.string row) ((Value.int .i64 ((i : Int)))) kk = kk (.int .u8 r) := fun kk => by
      rw [ix_S (by omega), hrow, bd]
    have v1 := val_take ht hl i
    have v2 := val_take ht hl (i + 1)
    have e : val (t.take (i + 1)) = 10 * val (t.take i) + (r - 48) := by rw [List.take_add_one, hr]; exact val_snoc _ _
    have w0 : IntKind.wrap .i64 (val (t.take i) * 10) = 10 * val (t.take i) := by rw [IntKind.wrap_i64]; omega
    have w1 : IntKind.wrap .i64 (IntKind.wrap .u8 (r - 48)) = r - 48 := by rw [IntKind.wrap_u8, IntKind.wrap_i64]; omega
    have w2 : IntKind.wrap .i64 (10 * val (t.take i) + (r - 48)) = val (t.take (i + 1)) := by rw [e, IntKind.wrap_i64]; omega
    have w3 : IntKind.wrap .i64 ((i : Int) + 1) = ((i + 1 : Nat) : Int) := by rw [IntKind.wrap_i64]; omega
    rw [J12_0b3_step]
    unfold Jr12_0b3
    simp only [go_sem, Nat.reduceAdd, Nat.reduceLeDiff, Nat.reduceMul, Int.reduceBEq, Int.reduceBNe, Int.reduceLT, Int.reduceLE, Int.reduceGT, len, aBin_lss, hlt, ix, aBin_mul, w0, w1, aBin_add, w2, w3]
    exact ih (i + 1) (by omega)
theorem b2_s (hs : s.size ≤ 20000) (S : SlO h n0 3 encK s5 o) (hro : md.ro ≤ n0) (hn0 : n0 ≤ h.length) (hl : o.length ≤ 100000) {fr j : Nat} (hfj : fr ≤ j) (hj : j ≤ s.size) (hk : k = 2 ∨ k = 3) (ht : ∀ r ∈ t, cls r = k)
    (hrow : (s.data.toList.drop fr).take (j - fr) = encs t) :
    (fin o k t = none ∧ J12_0b2 C md (.string s) (.slice none 0 0) ((Value.int .i64 0)) ((Value.int .i64 0)) s5 ((Value.int .i64 ((j : Int)))) ((Value.int .i64 k)) ((Value.int .i64 ((fr : Int)))) h = some (.inr (.ret, (.string s, .slice none 0 0, (Value.int .i64 ((fr : Int))), (Value.int .i64 41), s5, (Value.int .i64 ((j : Int)))), h))) ∨
    ∃ o' v' h', fin o k t = some o' ∧ J12_0b2 C md (.string s) (.slice none 0 0) ((Value.int .i64 0)) ((Value.int .i64 0)) s5 ((Value.int .i64 ((j : Int)))) ((Value.int .i64 k)) ((Value.int .i64 ((fr : Int)))) h = some (.inl (stq s v' j, h')) ∧ SlO h' n0 3 encK v' o' ∧ Old n0 h h' ∧ o'.length ≤ o.length + 1 := by
  obtain ⟨row, erow⟩ : ∃ row, row = s.extract fr j := ⟨_, rfl⟩
  have hr : row = bs (encs t) := by rw [erow, row_eq, hrow]
  have sl : ∀ {α : Type} (kk : Value → Option α), aSlice Tryd.prog 9 (.string s) (some ((Value.int .i64 ((fr : Int))))) (some ((Value.int .i64 ((j : Int))))) none kk = kk (.string row) := fun kk => by
    unfold aSlice
    simp only [uSt]
    rw [if_pos ⟨by omega, by omega, by omega⟩, Int.toNat_natCast, Int.toNat_natCast, erow]
  rcases hk with k2 | k3
  · have ht2 : ∀ r ∈ t, 48 ≤ r ∧ r ≤ 57 := fun r hr => cls2 ((ht r hr).trans k2)
    have b3 : (k == 3) = false := by rw [k2]; rfl
    have hsz : row.size = t.length := by rw [hr, encs_dig ht2]; show (t.map _).toArray.size = _; simp
    have len : ∀ {α : Type} (k : Value → Option α), lenT (.string row) k = k ((Value.int .i64 (((t.length : Nat) : Int)))) := fun k => by rw [← hsz]; rfl
    cases hb : bad t
    · refine .inr ?_
      have ef : fin o k t = some (o ++ [.n (val t)]) := by unfold fin; rw [if_pos k2, hb]; rfl
      have hl9 : t.length ≤ 9 := by
        unfold bad at hb
        rw [Bool.or_eq_false_iff] at hb
        have := of_decide_eq_false hb.1
        omega
      have lp := b3_lp (md := md) (s := s) (s5 := s5) (h := h) (j := j) hr ht2 hl9 t.length 0 (by omega)
      have z0 : ((0 : Nat) : Int) = 0 := rfl
      have z1 : val (t.take 0) = 0 := rfl
      rw [z0, z1] at lp
      obtain ⟨v', h', e4, S', O'⟩ := b4_s (md := md) (s := s) S hro hn0 hl (val t) j
      refine ⟨_, v', h', ef, ?_, S', O', by simp⟩
      have n9 : ¬ (((t.length : Nat) : Int) > 9) := by omega
      unfold J12_0b2
      by_cases g1 : ((t.length : Nat) : Int) > 1
      · obtain ⟨r, hr0⟩ : ∃ r, t[0]? = some r := ⟨t[0]'(by omega), List.getElem?_eq_getElem (by omega)⟩
        have hh : t.head? = some r := by rw [List.head?_eq_getElem?]; exact hr0
        have bd := by_dig ht2 hr0
        have ix : ∀ {α : Type} (kk : Value → Option α), aIndex Tryd.prog 9 (.string row) ((Value.int .i64 0)) kk = kk (.int .u8 r) := fun kk => by
          have := ix_S (s := row) (i := 0) (by omega) kk
          rw [z0] at this
          rw [this, hr, bd]
        have b48 : (r == 48) = false := by
          unfold bad at hb
          rw [Bool.or_eq_false_iff, hh, decide_eq_true (show 1 < t.length by omega)] at hb
          simpa using hb.2
        simp only [go_sem, Nat.reduceAdd, Nat.reduceLeDiff, Nat.reduceMul, Int.reduceBEq, Int.reduceBNe, Int.reduceLT, Int.reduceLE, Int.reduceGT, sl, aBin_eql, b3, len, n9, aBin_gtr, g1, ix, b48, lp]
        exact e4
      · simp only [go_sem, Nat.reduceAdd, Nat.reduceLeDiff, Nat.reduceMul, Int.reduceBEq, Int.reduceBNe, Int.reduceLT, Int.reduceLE, Int.reduceGT, sl, aBin_eql, b3, len, n9, aBin_gtr, g1, lp]
        exact e4
    · refine .inl ⟨by unfold fin; rw [if_pos k2, hb]; rfl, ?_⟩
      have z0 : ((0 : Nat) : Int) = 0 := rfl
      unfold J12_0b2
      by_cases n9 : (((t.length : Nat) : Int) > 9)
      · simp only [go_sem, Nat.reduceAdd, Nat.reduceLeDiff, Nat.reduceMul, Int.reduceBEq, Int.reduceBNe, Int.reduceLT, Int.reduceLE, Int.reduceGT, sl, aBin_eql, b3, len, n9]
      · have h1 : 1 < t.length ∧ t.head? = some 48 := by
          unfold bad at hb
          rw [decide_eq_false (show ¬ 9 < t.length by omega)] at hb
          simpa using hb
        have g1 : ((t.length : Nat) : Int) > 1 := by omega
        have hr0 : t[0]? = some 48 := by rw [← List.head?_eq_getElem?]; exact h1.2
        have bd := by_dig ht2 hr0
        have ix : ∀ {α : Type} (kk : Value → Option α), aIndex Tryd.prog 9 (.string row) ((Value.int .i64 0)) kk = kk (.int .u8 48) := fun kk => by
          have := ix_S (s := row) (i := 0) (by omega) kk
          rw [z0] at this
          rw [this, hr, bd]
        simp only [go_sem, Nat.reduceAdd, Nat.reduceLeDiff, Nat.reduceMul, Int.reduceBEq, Int.reduceBNe, Int.reduceLT, Int.reduceLE, Int.reduceGT, sl, aBin_eql, b3, len, n9, aBin_gtr, g1, ix]
  · refine .inr ?_
    have b3 : (k == 3) = true := by rw [k3]; rfl
    have ef : fin o k t = some (o ++ [.s (encs t)]) := by unfold fin; rw [if_neg (by omega), if_pos k3]
    obtain ⟨v', h', ea, S', O'⟩ := app_K (md := md) S hro hn0 hl (.s (encs t))
    refine ⟨_, v', h', ef, ?_, S', O', by simp⟩
    have bK : ∀ {α : Type} (kk : Value → Heap → Option α), aBuildSlice Tryd.prog 27 1 [(0, .agg #[(Value.int .i64 2), (Value.int .i64 0), .string row])] h kk = kk ((Value.slice (some ⟨h.length, 0, none⟩) 1 3)) (h ++ [.own (encK (.s (encs t)))]) := fun kk => by rw [hr]; exact bs_K (.s (encs t)) h kk
    have bn := fun {α : Type} (kk : Value → Option α) => bd_s row kk
    unfold J12_0b2
    simp only [go_sem, Nat.reduceAdd, Nat.reduceLeDiff, Nat.reduceMul, Int.reduceBEq, Int.reduceBNe, Int.reduceLT, Int.reduceLE, Int.reduceGT, sl, aBin_eql, b3, bn, bK, ea]
end Go.Det.E
