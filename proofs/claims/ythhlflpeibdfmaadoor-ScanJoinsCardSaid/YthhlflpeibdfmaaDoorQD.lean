/- Scanning: the law of counts. -/
import Derived.Test.YthhlflpeibdfmaaDoorQC
set_option autoImplicit false
set_option linter.unusedVariables false
set_option linter.unusedSimpArgs false
namespace Go.Det.E
open Go.Proofs Go.Det
open Go.Lib (decodeL)
attribute [local congr] bind_c cond_c
variable {md : Md} {h hh h' h0 : Heap} {s : ByteArray} {l o : List Tok} {t : List Int} {k : Int} {f n m n0 p w i : Nat} {v tv a b s2 s3 s4 s5 s6 s14 : Value}
/-- How many are wrong. -/
def wrn : List (Nat × Nat) → Nat
  | [] => 0
  | x :: is => (if cls (x.1 : Int) = 0 then 1 else 0) + wrn is
theorem ne_a : (41 : Int) ≠ 40 := by decide
theorem ne_b : (0 : Int) ≠ 40 := by decide
theorem ne_c : (41 : Int) ≠ 0 := by decide
theorem ne_d : (40 : Int) ≠ 0 := by decide
theorem mach_wrn : ∀ (is : List (Nat × Nat)) (p : Nat) (l : List Tok) (k : Int) (f : Nat) (t : List Int), (wrn is = 0 → (mach is p l k f t).2.2 ≠ 40) ∧ (wrn is ≠ 0 → (mach is p l k f t).2.2 ≠ 0) := by
  intro is
  induction is with
  | nil =>
    intro p l k f t
    rw [mach]
    cases fin l k t with
    | none => exact ⟨fun _ => ne_a, fun q => absurd rfl q⟩
    | some l' => exact ⟨fun _ => ne_b, fun q => absurd rfl q⟩
  | cons y is ih =>
    obtain ⟨r, w⟩ := y
    intro p l k f t
    rw [mach]
    by_cases c0 : cls (r : Int) = 0
    · have e : wrn ((r, w) :: is) ≠ 0 := by rw [wrn, if_pos c0]; omega
      refine ⟨fun q => absurd q e, fun _ => ?_⟩
      simp only [if_pos c0]
      split
      · exact ne_d
      · cases fin l k t with
        | none => exact ne_c
        | some l' => exact ne_d
    · have e : wrn ((r, w) :: is) = wrn is := by rw [wrn, if_neg c0, Nat.zero_add]
      rw [e]
      simp only [if_neg c0]
      split
      · split
        · exact ih _ _ _ _ _
        · split
          · exact ih _ _ _ _ _
          · exact ih _ _ _ _ _
      · cases fin l k t with
        | none => exact ⟨fun _ => ne_a, fun _ => ne_c⟩
        | some l' =>
          dsimp only
          split
          · exact ih _ _ _ _ _
          · split
            · exact ih _ _ _ _ _
            · exact ih _ _ _ _ _
theorem count_lp {b : Nat} (hro : md.ro ≤ b) (hs : s.size ≤ 20000) : ∀ (m p n k : Nat) (h : Heap), s.size - p ≤ m → p ≤ s.size → h[b]? = some (.si s p) → n ≤ p → k ≤ p →
    J16_0 C md h0 ((Value.int .i64 ((n : Int)))) ((Value.int .i64 ((k : Int)))) ((Value.pointer (some ⟨b, 0, none⟩))) h = some ((Value.tuple #[(Value.int .i64 (((n + (items (s.data.toList.drop p)).length : Nat) : Int))), (Value.int .i64 (((k + wrn (items (s.data.toList.drop p)) : Nat) : Int)))]), h0) := by
  intro m
  induction m with
  | zero =>
    intro p n k h hm hp hb hn hk
    obtain rfl : p = s.size := by omega
    have nx := fun {α : Type} (kk : Value → Heap → Option α) => next_end (md := md) hb hro (Nat.le_refl _) kk
    rw [at_end (Nat.le_refl _), J16_0_step]
    unfold Jr16_0
    simp only [go_sem, Nat.reduceAdd, Nat.reduceLeDiff, Nat.reduceMul, Int.reduceBEq, Int.reduceBNe, Int.reduceLT, Int.reduceLE, Int.reduceGT, nx, Jk16_0]
    unfold J16_1
    rfl
  | succ m ih =>
    intro p n k h hm hp hb hn hk
    by_cases hps : p = s.size
    · exact ih p n k h (by omega) hp hb hn hk
    obtain ⟨r, w, dc, hw, hpw, hr, hit⟩ := at_rune (s := s) (p := p) (by omega)
    have nx := fun {α : Type} (kk : Value → Heap → Option α) => next_rune (md := md) hb hro (show p < s.size by omega) kk
    rw [dc] at nx
    have cl := fun (m : Md) (g : Heap) => class_s m g ((r : Nat) : Int)
    have w1 : IntKind.wrap .i64 ((n : Int) + 1) = ((n + 1 : Nat) : Int) := by rw [IntKind.wrap_i64]; omega
    have w2 : IntKind.wrap .i64 ((k : Int) + 1) = ((k + 1 : Nat) : Int) := by rw [IntKind.wrap_i64]; omega
    rw [hit, J16_0_step]
    unfold Jr16_0
    have sh := set_here (k' := .si s (p + w)) hb
    by_cases c0 : cls (r : Int) = 0
    · have b0 : (cls (r : Int) == 0) = true := by rw [c0]; rfl
      have e := ih (p + w) (n + 1) (k + 1) _ (by omega) hpw sh (by omega) (by omega)
      simp only [go_sem, Nat.reduceAdd, Nat.reduceLeDiff, Nat.reduceMul, Int.reduceBEq, Int.reduceBNe, Int.reduceLT, Int.reduceLE, Int.reduceGT, nx, aBin_add, w1, cl, b0, w2]
      have a1 : n + 1 + (items (s.data.toList.drop (p + w))).length = n + ((items (s.data.toList.drop (p + w))).length + 1) := by omega
      rw [e, a1, wrn, if_pos c0, ← Nat.add_assoc k]
    · have b0 : (cls (r : Int) == 0) = false := by simpa using c0
      have e := ih (p + w) (n + 1) k _ (by omega) hpw sh (by omega) (by omega)
      simp only [go_sem, Nat.reduceAdd, Nat.reduceLeDiff, Nat.reduceMul, Int.reduceBEq, Int.reduceBNe, Int.reduceLT, Int.reduceLE, Int.reduceGT, nx, aBin_add, w1, cl, b0]
      have a1 : n + 1 + (items (s.data.toList.drop (p + w))).length = n + ((items (s.data.toList.drop (p + w))).length + 1) := by omega
      rw [e, a1, wrn, if_neg c0, Nat.zero_add]
theorem count_s (hs : s.size ≤ 20000) (md : Md) (h : Heap) : C md 16 [.string s] h = some ((Value.tuple #[(Value.int .i64 ((((items s.data.toList).length : Nat) : Int))), (Value.int .i64 (((wrn (items s.data.toList) : Nat) : Int)))]), h) := by
  have rg : ∀ {α : Type} (g : Heap) (kk : Value → Heap → Option α), aRange Tryd.prog 9 (.string s) g kk = kk ((Value.pointer (some ⟨g.length, 0, none⟩))) (g ++ [.si s 0]) := fun g kk => by
    unfold aRange
    simp only [uSt]
  have lp := fun (md : Md) (h0 g : Heap) (hro : md.ro ≤ g.length) => count_lp (md := md) (h0 := h0) (b := g.length) hro hs s.size 0 0 0 (g ++ [.si s 0]) (by omega) (Nat.zero_le _) (by simp) (Nat.le_refl _) (Nat.le_refl _)
  rw [C, call_eq, F16_eq]
  unfold F16
  simp only [go_sem, Nat.reduceAdd, Nat.reduceLeDiff, Nat.reduceMul, Int.reduceBEq, Int.reduceBNe, Int.reduceLT, Int.reduceLE, Int.reduceGT, rg]
  have e := lp ⟨0, 0⟩ [] [] (Nat.le_refl _)
  rw [List.drop_zero, Nat.zero_add, Nat.zero_add] at e
  exact e ▸ rfl
theorem rcount_lp (hs : s.size ≤ 20000) : ∀ (m p n k : Nat), s.size - p ≤ m → p ≤ s.size → n ≤ p → k ≤ p →
    J17_0 C md h0 (.string s) s2 s3 ((Value.int .i64 ((n : Int)))) ((Value.int .i64 ((k : Int)))) ((Value.int .i64 ((p : Int)))) h = some ((Value.tuple #[(Value.int .i64 (((n + (items (s.data.toList.drop p)).length : Nat) : Int))), (Value.int .i64 (((k + wrn (items (s.data.toList.drop p)) : Nat) : Int)))]), h0) := by
  have len : ∀ {α : Type} (k : Value → Option α), lenT (.string s) k = k ((Value.int .i64 (((s.size : Nat) : Int)))) := fun k => rfl
  intro m
  induction m with
  | zero =>
    intro p n k hm hp hn hk
    obtain rfl : p = s.size := by omega
    rw [at_end (Nat.le_refl _), J17_0_step]
    unfold Jr17_0
    simp only [go_sem, Nat.reduceAdd, Nat.reduceLeDiff, Nat.reduceMul, Int.reduceBEq, Int.reduceBNe, Int.reduceLT, Int.reduceLE, Int.reduceGT, len, aBin_lss, Int.lt_irrefl, Jk17_0]
    unfold J17_1
    rfl
  | succ m ih =>
    intro p n k hm hp hn hk
    by_cases hps : p = s.size
    · exact ih p n k (by omega) hp hn hk
    obtain ⟨r, w, dc, hw, hpw, hr, hit⟩ := at_rune (s := s) (p := p) (by omega)
    have hlt : ((p : Int) < ((s.size : Nat) : Int)) := by omega
    have rn := fun (m : Md) (g : Heap) => rune_s (s := s) (i := p) (by omega) (by omega) m g
    rw [dc] at rn
    have cl := fun (m : Md) (g : Heap) => rclass_s m g ((r : Nat) : Int)
    have w1 : IntKind.wrap .i64 ((n : Int) + 1) = ((n + 1 : Nat) : Int) := by rw [IntKind.wrap_i64]; omega
    have w2 : IntKind.wrap .i64 ((k : Int) + 1) = ((k + 1 : Nat) : Int) := by rw [IntKind.wrap_i64]; omega
    have w3 : IntKind.wrap .i64 ((p : Int) + ((w : Nat) : Int)) = ((p + w : Nat) : Int) := by rw [IntKind.wrap_i64]; omega
    rw [hit, J17_0_step]
    unfold Jr17_0 J17_0b0
    by_cases c0 : cls (r : Int) = 0
    · have b0 : (cls (r : Int) == 0) = true := by rw [c0]; rfl
      have e := ih (p + w) (n + 1) (k + 1) (by omega) hpw (by omega) (by omega)
      simp only [go_sem, Nat.reduceAdd, Nat.reduceLeDiff, Nat.reduceMul, Int.reduceBEq, Int.reduceBNe, Int.reduceLT, Int.reduceLE, Int.reduceGT, len, aBin_lss, hlt, rn, aBin_add, w1, cl, b0, w2, w3]
      have a1 : n + 1 + (items (s.data.toList.drop (p + w))).length = n + ((items (s.data.toList.drop (p + w))).length + 1) := by omega
      rw [e, a1, wrn, if_pos c0, ← Nat.add_assoc k]
    · have b0 : (cls (r : Int) == 0) = false := by simpa using c0
      have e := ih (p + w) (n + 1) k (by omega) hpw (by omega) (by omega)
      simp only [go_sem, Nat.reduceAdd, Nat.reduceLeDiff, Nat.reduceMul, Int.reduceBEq, Int.reduceBNe, Int.reduceLT, Int.reduceLE, Int.reduceGT, len, aBin_lss, hlt, rn, aBin_add, w1, cl, b0, w3]
      have a1 : n + 1 + (items (s.data.toList.drop (p + w))).length = n + ((items (s.data.toList.drop (p + w))).length + 1) := by omega
      rw [e, a1, wrn, if_neg c0, Nat.zero_add]
theorem rcount_s (hs : s.size ≤ 20000) (md : Md) (h : Heap) : C md 17 [.string s] h = some ((Value.tuple #[(Value.int .i64 ((((items s.data.toList).length : Nat) : Int))), (Value.int .i64 (((wrn (items s.data.toList) : Nat) : Int)))]), h) := by
  rw [C, call_eq, F17_eq]
  unfold F17
  have e := rcount_lp (md := ⟨0, 0⟩) (h0 := []) (h := []) (s2 := (Value.int .i64 0)) (s3 := (Value.int .i64 0)) hs s.size 0 0 0 (by omega) (Nat.zero_le _) (Nat.le_refl _) (Nat.le_refl _)
  rw [List.drop_zero, Nat.zero_add, Nat.zero_add] at e
  exact e ▸ rfl
theorem counts_law : Law Tryd.prog cfg 5 [9] := by
  intro h avs ha
  obtain ⟨v, r, rfl, a0, ha⟩ := args_cons ha
  obtain rfl := args_nil ha
  obtain ⟨s, rfl, _⟩ := inS (arg1 (by kernel_rfl) (by kernel_rfl) a0 : TyS h .s v)
  have len : ∀ {α : Type} (k : Value → Option α), lenT (.string s) k = k ((Value.int .i64 (((s.size : Nat) : Int)))) := fun k => rfl
  have tk : h.take h.length = h := take_same (Nat.le_refl _)
  rw [call_eq, F5_eq]
  unfold F5
  by_cases h3 : ((s.size : Nat) : Int) > 300
  · exact ⟨h, by simp only [go_sem, Nat.reduceAdd, Nat.reduceLeDiff, Nat.reduceMul, Int.reduceBEq, Int.reduceBNe, Int.reduceLT, Int.reduceLE, Int.reduceGT, len, h3, awake04, tk]⟩
  have c1 := fun (m : Md) (g : Heap) => count_s (s := s) (by omega) m g
  have c2 := fun (m : Md) (g : Heap) => rcount_s (s := s) (by omega) m g
  obtain ⟨v2, h2, e2, S2, O2⟩ := scan_s (md := ⟨0, h.length⟩) (h := h) (s := s) (Nat.zero_le _) (Nat.le_refl _) (by omega)
  obtain ⟨g1, g2⟩ := mach_wrn (items s.data.toList) 0 [] 0 0 []
  obtain ⟨M, hM⟩ : ∃ M, M = mach (items s.data.toList) 0 [] 0 0 [] := ⟨_, rfl⟩
  rw [← hM] at e2 S2 g1 g2
  obtain ⟨K, hK⟩ : ∃ K, K = wrn (items s.data.toList) := ⟨_, rfl⟩
  rw [← hK] at c1 c2 g1 g2
  refine ⟨h2.take h.length, ?_⟩
  by_cases k0 : K = 0
  · have b0 : (((K : Nat) : Int) == 0) = true := by rw [k0]; rfl
    have b1 : (((K : Nat) : Int) != 0) = false := by rw [k0]; rfl
    have b2 : (M.2.2 != 40) = true := by have := g1 k0; simpa using this
    simp only [go_sem, Nat.reduceAdd, Nat.reduceLeDiff, Nat.reduceMul, Int.reduceBEq, Int.reduceBNe, Int.reduceLT, Int.reduceLE, Int.reduceGT, len, h3, c1, c2, e2, beq_self_eq_true, aBin_eql, aBin_neq, b0, b1, b2, awake04]
  · have b0 : (((K : Nat) : Int) == 0) = false := by simpa using k0
    have b1 : (((K : Nat) : Int) != 0) = true := by simpa using k0
    have b2 : (M.2.2 != 0) = true := by have := g2 k0; simpa using this
    simp only [go_sem, Nat.reduceAdd, Nat.reduceLeDiff, Nat.reduceMul, Int.reduceBEq, Int.reduceBNe, Int.reduceLT, Int.reduceLE, Int.reduceGT, len, h3, c1, c2, e2, beq_self_eq_true, aBin_eql, aBin_neq, b0, b1, b2, awake04]
end Go.Det.E
