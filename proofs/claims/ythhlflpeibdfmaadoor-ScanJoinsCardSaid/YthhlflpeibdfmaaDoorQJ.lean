/- Scanning: the law of blanks. -/
import Derived.Test.YthhlflpeibdfmaaDoorQI
set_option autoImplicit false
set_option linter.unusedVariables false
set_option linter.unusedSimpArgs false
namespace Go.Det.E
open Go.Proofs Go.Det
open Go.Lib (decodeL)
attribute [local congr] bind_c cond_c
variable {md : Md} {h hh h' h0 : Heap} {s : ByteArray} {l o : List Tok} {t S : List UInt8} {k : Int} {f n m n0 p w i : Nat} {v tv a b s0 s1 s2 s3 s4 s5 s6 s7 s8 s9 s14 : Value}
theorem pad_lp (hn : n ≤ 20) : ∀ (m j : Nat), j + m = n →
    J8_0 C md h0 s0 s1 s4 s5 s7 (.string (bs (tabs j))) ((Value.int .i64 ((n : Int)))) ((Value.int .i64 ((j : Int)))) h = J8_1 C md h0 s0 s1 s4 s5 s7 (.string (bs (tabs n))) h := by
  intro m
  induction m with
  | zero =>
    intro j hj
    obtain rfl : j = n := by omega
    rw [J8_0_step]
    unfold Jr8_0
    simp only [go_sem, Nat.reduceAdd, Nat.reduceLeDiff, Nat.reduceMul, Int.reduceBEq, Int.reduceBNe, Int.reduceLT, Int.reduceLE, Int.reduceGT, aBin_lss, Int.lt_irrefl, Jk8_0]
  | succ m ih =>
    intro j hj
    have hlt : (j : Int) < (n : Int) := by omega
    have w1 : IntKind.wrap .i64 ((j : Int) + 1) = ((j + 1 : Nat) : Int) := by rw [IntKind.wrap_i64]; omega
    have ad : ∀ {α : Type} (k : Value → Option α), aBin Tryd.prog .add 9 (.string (bs (tabs j))) (.string ⟨#[9]⟩) k = k (.string (bs (tabs (j + 1)))) := fun k => by
      have e : tabs (j + 1) = tabs j ++ [9] := by simp [tabs, List.replicate_succ']
      rw [e]
      exact add_S (m := [9]) (by simp [tabs]; omega) k
    rw [J8_0_step]
    unfold Jr8_0
    simp only [go_sem, Nat.reduceAdd, Nat.reduceLeDiff, Nat.reduceMul, Int.reduceBEq, Int.reduceBNe, Int.reduceLT, Int.reduceLE, Int.reduceGT, aBin_lss, hlt, ad, aBin_add, w1]
    exact ih (j + 1) (by omega)
theorem wide_lp (hn : n ≤ 20) (hS : S.length ≤ 200) : ∀ (m j : Nat), j + m = S.length →
    J8_2 C md h0 (.string (bs S)) s1 s4 s5 s7 (.string (bs (tabs n))) (.string (bs (widen n (S.take j)))) ((Value.int .i64 ((j : Int)))) h = J8_3 C md h0 s1 s5 s7 (.string (bs (tabs n))) (.string (bs (widen n S))) h := by
  have len : ∀ {α : Type} (k : Value → Option α), lenT (.string (bs S)) k = k ((Value.int .i64 (((S.length : Nat) : Int)))) := fun k => rfl
  intro m
  induction m with
  | zero =>
    intro j hj
    obtain rfl : j = S.length := by omega
    rw [J8_2_step, List.take_length]
    unfold Jr8_2
    simp only [go_sem, Nat.reduceAdd, Nat.reduceLeDiff, Nat.reduceMul, Int.reduceBEq, Int.reduceBNe, Int.reduceLT, Int.reduceLE, Int.reduceGT, len, aBin_lss, Int.lt_irrefl, Jk8_2]
  | succ m ih =>
    intro j hj
    have hlt : (j : Int) < ((S.length : Nat) : Int) := by omega
    obtain ⟨x, hx⟩ : ∃ x, S[j]? = some x := ⟨S[j]'(by omega), List.getElem?_eq_getElem (by omega)⟩
    have w1 : IntKind.wrap .i64 ((j : Int) + 1) = ((j + 1 : Nat) : Int) := by rw [IntKind.wrap_i64]; omega
    have tkj : S.take (j + 1) = S.take j ++ [x] := by rw [List.take_add_one, hx]; rfl
    have wl := widen_len n (S.take j)
    have tl : (S.take j).length ≤ 200 := by rw [List.length_take]; omega
    have ml : (S.take j).length * (n + 1) ≤ 200 * 21 := Nat.mul_le_mul tl (by omega)
    have sl : ∀ {α : Type} (kk : Value → Option α), aSlice Tryd.prog 9 (.string (bs S)) (some ((Value.int .i64 ((j : Int))))) (some ((Value.int .i64 (((j + 1 : Nat) : Int))))) none kk = kk (.string (bs [x])) := fun kk => by
      unfold aSlice
      simp only [uSt]
      rw [if_pos ⟨by omega, by omega, by rw [bs_size]; omega⟩, Int.toNat_natCast, Int.toNat_natCast, row_eq, Nat.add_sub_cancel_left]
      have e : List.take 1 (List.drop j (bs S).data.toList) = [x] := by
        show List.take 1 (List.drop j S) = [x]
        have hj' : j < S.length := by omega
        rw [List.drop_eq_getElem_cons hj', List.take_succ_cons, List.take_zero]
        rw [List.getElem?_eq_getElem hj'] at hx
        rw [Option.some.inj hx]
      rw [e]
    have ix : ∀ {α : Type} (kk : Value → Option α), aIndex Tryd.prog 9 (.string (bs S)) ((Value.int .i64 ((j : Int)))) kk = kk (.int .u8 ((x.toNat : Nat) : Int)) := fun kk => by
      rw [ix_S (by rw [bs_size]; omega)]
      have : (bs S).get! j = x := by
        have h1 := get_S (s := bs S) (i := j) (by rw [bs_size]; omega)
        rw [getElem?_pos _ j (by show j < (bs S).size; rw [bs_size]; omega)] at h1
        have h2 : (bs S)[j]'(by show j < (bs S).size; rw [bs_size]; omega) = x := by
          have hj' : j < S.length := by omega
          show (S.toArray)[j]'(by simpa using hj') = x
          rw [List.getElem?_eq_getElem hj'] at hx
          simpa using Option.some.inj hx
        rw [h2] at h1
        exact (Option.some.inj h1).symm
      unfold by'
      rw [this]
    have a1 := fun {α : Type} (k : Value → Option α) => add_S (ty := 9) (l := widen n (S.take j)) (m := [x]) (by simp; omega) k
    rw [J8_2_step]
    unfold Jr8_2
    by_cases h32 : x = 32
    · have b32 : (((x.toNat : Nat) : Int) == 32) = true := by rw [h32]; rfl
      have a2 : ∀ {α : Type} (k : Value → Option α), aBin Tryd.prog .add 9 (.string (bs (widen n (S.take j) ++ [x]))) (.string (bs (tabs n))) k = k (.string (bs (widen n (S.take (j + 1))))) := fun k => by
        rw [add_S (by simp [tabs]; omega), tkj, widen_app]
        have : widen n [x] = x :: tabs n := by simp [widen, h32]
        rw [this, List.append_assoc]; rfl
      simp only [go_sem, Nat.reduceAdd, Nat.reduceLeDiff, Nat.reduceMul, Int.reduceBEq, Int.reduceBNe, Int.reduceLT, Int.reduceLE, Int.reduceGT, len, aBin_lss, hlt, aBin_add, w1, sl, a1, ix, b32, a2]
      exact ih (j + 1) (by omega)
    · have b32 : (((x.toNat : Nat) : Int) == 32) = false := by
        have : x.toNat ≠ 32 := fun e => h32 (UInt8.toNat_inj.1 e)
        simp; omega
      have e2 : widen n (S.take j) ++ [x] = widen n (S.take (j + 1)) := by
        rw [tkj, widen_app]
        have : widen n [x] = [x] := by simp [widen, h32]
        rw [this]
      have nx := ih (j + 1) (by omega)
      rw [← e2] at nx
      simp only [go_sem, Nat.reduceAdd, Nat.reduceLeDiff, Nat.reduceMul, Int.reduceBEq, Int.reduceBNe, Int.reduceLT, Int.reduceLE, Int.reduceGT, len, aBin_lss, hlt, aBin_add, w1, sl, a1, ix, b32]
      exact nx
set_option maxHeartbeats 1000000 in
theorem blanks_law : Law Tryd.prog cfg 8 [9, 3] := by
  intro h avs ha
  obtain ⟨v, r, rfl, a0, ha⟩ := args_cons ha
  obtain ⟨w, r, rfl, a1, ha⟩ := args_cons ha
  obtain rfl := args_nil ha
  obtain ⟨s, rfl, _⟩ := inS (arg1 (by kernel_rfl) (by kernel_rfl) a0 : TyS h .s v)
  obtain ⟨z, rfl, hz⟩ := inI64 (arg1 (by kernel_rfl) (by kernel_rfl) a1 : TyS h (.i .i64) w)
  obtain ⟨S, eS⟩ : ∃ S, s = bs S := ⟨_, bs_of s⟩
  subst eS
  have len : ∀ {α : Type} (l : List UInt8) (k : Value → Option α), lenT (.string (bs l)) k = k ((Value.int .i64 (((l.length : Nat) : Int)))) := fun l k => rfl
  have tk : h.take h.length = h := take_same (Nat.le_refl _)
  rw [call_eq, F8_eq]
  unfold F8
  by_cases h1 : ((S.length : Nat) : Int) > 200
  · exact ⟨h, by simp only [go_sem, Nat.reduceAdd, Nat.reduceLeDiff, Nat.reduceMul, Int.reduceBEq, Int.reduceBNe, Int.reduceLT, Int.reduceLE, Int.reduceGT, len, h1, awake04, tk]⟩
  by_cases h2 : z < 0
  · exact ⟨h, by simp only [go_sem, Nat.reduceAdd, Nat.reduceLeDiff, Nat.reduceMul, Int.reduceBEq, Int.reduceBNe, Int.reduceLT, Int.reduceLE, Int.reduceGT, len, h1, aBin_lss, h2, awake04, tk]⟩
  by_cases h3 : z > 20
  · exact ⟨h, by simp only [go_sem, Nat.reduceAdd, Nat.reduceLeDiff, Nat.reduceMul, Int.reduceBEq, Int.reduceBNe, Int.reduceLT, Int.reduceLE, Int.reduceGT, len, h1, aBin_lss, h2, aBin_gtr, h3, awake04, tk]⟩
  obtain ⟨n, rfl⟩ : ∃ n : Nat, z = (n : Int) := ⟨z.toNat, by omega⟩
  have hn : n ≤ 20 := by omega
  obtain ⟨va, ha, ea, Sa, Oa⟩ := scan_t (md := ⟨0, h.length⟩) (h := h) (l := S) (Nat.zero_le _) (Nat.le_refl _) (by omega)
  have la := Oa.len
  have wl := widen_len n S
  have ml : S.length * (n + 1) ≤ 200 * 21 := Nat.mul_le_mul (by omega) (by omega)
  have tl : (tabs n).length = n := by simp [tabs]
  obtain ⟨vb, hb, eb, Sb, Ob⟩ := scan_t (md := ⟨0, h.length⟩) (h := ha) (l := tabs n ++ widen n S ++ tabs n) (Nat.zero_le _) (by show h.length ≤ ha.length; omega) (by simp only [List.length_append]; omega)
  have lb := Ob.len
  have p1 := pad_lp (md := ⟨0, h.length⟩) (h0 := h) (h := ha) (s0 := .string (bs S)) (s1 := (Value.int .i64 ((n : Int)))) (s4 := .bool false) (s5 := va) (s7 := (Value.int .i64 ((told S).2.2))) hn n 0 (by omega)
  have p2 := wide_lp (md := ⟨0, h.length⟩) (h0 := h) (h := ha) (s1 := (Value.int .i64 ((n : Int)))) (s4 := .bool false) (s5 := va) (s7 := (Value.int .i64 ((told S).2.2))) hn (S := S) (by omega) S.length 0 (by omega)
  have z0 : ((0 : Nat) : Int) = 0 := rfl
  have z1 : bs (tabs 0) = ⟨#[]⟩ := rfl
  have z2 : bs (widen n (S.take 0)) = ⟨#[]⟩ := rfl
  rw [z0, z1] at p1
  rw [z0, z2] at p2
  have d1 := fun {α : Type} (k : Value → Option α) => add_S (ty := 9) (l := tabs n) (m := widen n S) (by omega) k
  have d2 := fun {α : Type} (k : Value → Option α) => add_S (ty := 9) (l := tabs n ++ widen n S) (m := tabs n) (by rw [List.length_append]; omega) k
  obtain ⟨t1, t2⟩ := told_wide n S
  rw [t1] at Sb
  rw [t2] at eb
  suffices hh : ∃ h', J8_3 C ⟨0, h.length⟩ h ((Value.int .i64 ((n : Int)))) va ((Value.int .i64 ((told S).2.2))) (.string (bs (tabs n))) (.string (bs (widen n S))) ha = some (.bool true, h') by
    obtain ⟨h', e⟩ := hh
    refine ⟨h', ?_⟩
    simp only [go_sem, Nat.reduceAdd, Nat.reduceLeDiff, Nat.reduceMul, Int.reduceBEq, Int.reduceBNe, Int.reduceLT, Int.reduceLE, Int.reduceGT, len, h1, aBin_lss, h2, aBin_gtr, h3, ea]
    rw [p1]
    unfold J8_1
    rw [p2]
    exact e
  by_cases eA : (told S).2.2 = 0
  · have bA : ((told S).2.2 != 0) = false := by rw [eA]; rfl
    have bC : ((told S).2.2 == 0) = true := by rw [eA]; rfl
    have en := told_end (l := tabs n ++ widen n S ++ tabs n) (by rw [t2]; exact eA)
    have w1 : IntKind.wrap .i64 (2 * (n : Int)) = ((2 * n : Nat) : Int) := by rw [IntKind.wrap_i64]; omega
    have w2 : IntKind.wrap .i64 ((((widen n S).length : Nat) : Int) + ((2 * n : Nat) : Int)) = (((tabs n ++ widen n S ++ tabs n).length : Nat) : Int) := by
      rw [List.length_append, List.length_append, tl, IntKind.wrap_i64]; omega
    rw [en] at eb
    obtain ⟨L, eL⟩ : ∃ L, L = (tabs n ++ widen n S ++ tabs n).length := ⟨_, rfl⟩
    rw [← eL] at eb w2
    have n1 := told_len S
    have Sa3 : Sl hb 1 encT va (told S).1 := Sa.sl.heap fun hl => Ob.old _ hl
    have q1 := fun {α : Type} (k : Value → Option α) => Sa3.len k
    have q3 := fun {α : Type} (k : Value → Option α) => Sb.sl.len k
    by_cases zz : (((told S).1.length : Nat) : Int) = 0
    · have bz : ((((told S).1.length : Nat) : Int) == 0) = true := by rw [zz]; rfl
      refine ⟨hb.take h.length, ?_⟩
      unfold J8_3
      simp only [go_sem, Nat.reduceAdd, Nat.reduceLeDiff, Nat.reduceMul, Int.reduceBEq, Int.reduceBNe, Int.reduceLT, Int.reduceLE, Int.reduceGT, d1, d2, eb, aBin_neq, bA, bC, len, aBin_mul, w1, aBin_add, w2, beq_self_eq_true, aBin_eql, q1, q3, bz, awake04]
    · have bz : ((((told S).1.length : Nat) : Int) == 0) = false := by simpa using zz
      have eq := fun (m : Md) => eq_toks Sa3 Sb.sl (by omega) (SlO.below Sb) m
      refine ⟨hb.take h.length, ?_⟩
      unfold J8_3
      simp only [go_sem, Nat.reduceAdd, Nat.reduceLeDiff, Nat.reduceMul, Int.reduceBEq, Int.reduceBNe, Int.reduceLT, Int.reduceLE, Int.reduceGT, d1, d2, eb, aBin_neq, bA, bC, len, aBin_mul, w1, aBin_add, w2, beq_self_eq_true, aBin_eql, q1, q3, bz, eq, awake04]
  · have bA : ((told S).2.2 != 0) = true := by simpa using eA
    refine ⟨hb.take h.length, ?_⟩
    unfold J8_3
    simp only [go_sem, Nat.reduceAdd, Nat.reduceLeDiff, Nat.reduceMul, Int.reduceBEq, Int.reduceBNe, Int.reduceLT, Int.reduceLE, Int.reduceGT, d1, d2, eb, aBin_neq, bA, aBin_eql, beq_self_eq_true, awake04]
end Go.Det.E
