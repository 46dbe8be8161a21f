/- Unlike cells have unlike numbers. -/
import Derived.Test.YtocjphligodnfaaL7
set_option autoImplicit false
set_option linter.unusedVariables false
set_option linter.unusedSimpArgs false
namespace Go.Det.E
open Go.Proofs Go.Det
attribute [local congr] bind_c cond_c
/-- Which kind of cell has a number. -/
def code (V S T x : Int) : Nat := if x < T then 0 else if x = T then 9 else if x < Hd S T then (if (x - T - 1) % 7 = 0 then 1 else if (x - T - 1) % 7 = 1 then 2 else if (x - T - 1) % 7 = 2 then 3 else if (x - T - 1) % 7 < 5 then 4 else 5) else if x < Eg V S T then 6 else if x < Nd V S T then 7 else 8
def tenL (V S T a b : Int) : List Int := [Sx T a, Ox S T a 0, Ox S T a 1, Ox S T a 2, Nx S T a b, Px S T a b, Hx V S T a b, Ex V S T a b, Fx V S T a b, T]
theorem ten_code {V S T : Int} (hR : Rt V S T) (a b : Int) : ∀ (i : Nat) (x : Int), (tenL V S T a b)[i]? = some x → 0 ≤ x → code V S T x = i := by
  have o := order hR
  have ox : ∀ f, 0 ≤ f ∧ f < 7 → 0 ≤ Ox S T a f → T + 1 ≤ Ox S T a f ∧ Ox S T a f < Hd S T ∧ (Ox S T a f - T - 1) % 7 = f := fun f hf h0 => by
    have := ox_in (a := a) hR hf
    cases h : Bl a S
    · have := this.2 h; omega
    · have := this.1 h; omega
  have p1 : ∀ x, T + 1 ≤ x → x < Hd S T → code V S T x = if (x - T - 1) % 7 = 0 then 1 else if (x - T - 1) % 7 = 1 then 2 else if (x - T - 1) % 7 = 2 then 3 else if (x - T - 1) % 7 < 5 then 4 else 5 := fun x h1 h2 => by
    unfold code; rw [if_neg (by omega), if_neg (by omega), if_pos h2]
  intro i x hi h0
  rcases i with _ | _ | _ | _ | _ | _ | _ | _ | _ | _ | i
  · simp only [tenL, List.getElem?_cons_zero, Option.some.injEq] at hi; subst hi
    have := sx_in (a := a) hR
    cases h : Bl (a - 1) T
    · have := this.2 h; omega
    · have := this.1 h; unfold code; rw [if_pos (by omega)]
  · simp only [tenL, List.getElem?_cons_succ, List.getElem?_cons_zero, Option.some.injEq] at hi; subst hi
    obtain ⟨h1, h2, h3⟩ := ox 0 (by omega) h0
    rw [p1 _ h1 h2, h3]; rfl
  · simp only [tenL, List.getElem?_cons_succ, List.getElem?_cons_zero, Option.some.injEq] at hi; subst hi
    obtain ⟨h1, h2, h3⟩ := ox 1 (by omega) h0
    rw [p1 _ h1 h2, h3]; rfl
  · simp only [tenL, List.getElem?_cons_succ, List.getElem?_cons_zero, Option.some.injEq] at hi; subst hi
    obtain ⟨h1, h2, h3⟩ := ox 2 (by omega) h0
    rw [p1 _ h1 h2, h3]; rfl
  · simp only [tenL, List.getElem?_cons_succ, List.getElem?_cons_zero, Option.some.injEq] at hi; subst hi
    unfold Nx at h0 ⊢
    cases h : Bl b 2
    · rw [h] at h0; simp at h0
    · rw [h] at h0
      simp only [cond_true] at h0 ⊢
      have := Bl_t.1 h
      obtain ⟨h1, h2, h3⟩ := ox (3 + b) (by omega) h0
      rw [p1 _ h1 h2, h3, if_neg (by omega), if_neg (by omega), if_neg (by omega), if_pos (by omega)]
  · simp only [tenL, List.getElem?_cons_succ, List.getElem?_cons_zero, Option.some.injEq] at hi; subst hi
    unfold Px at h0 ⊢
    cases h : Bl b 2
    · rw [h] at h0; simp at h0
    · rw [h] at h0
      simp only [cond_true] at h0 ⊢
      have := Bl_t.1 h
      obtain ⟨h1, h2, h3⟩ := ox (5 + b) (by omega) h0
      rw [p1 _ h1 h2, h3, if_neg (by omega), if_neg (by omega), if_neg (by omega), if_neg (by omega)]
  · simp only [tenL, List.getElem?_cons_succ, List.getElem?_cons_zero, Option.some.injEq] at hi; subst hi
    have := hx_in (a := a) (b := b) hR
    cases h : (Bl a V && Bl b (Lv V))
    · have := this.2 h; omega
    · have := this.1 h; unfold code; rw [if_neg (by omega), if_neg (by omega), if_neg (by omega), if_pos (by omega)]
  · simp only [tenL, List.getElem?_cons_succ, List.getElem?_cons_zero, Option.some.injEq] at hi; subst hi
    have := ex_in (a := a) (b := b) hR
    cases h : eOk V a b
    · have := this.2 h; omega
    · have := this.1 h; unfold code; rw [if_neg (by omega), if_neg (by omega), if_neg (by omega), if_neg (by omega), if_pos (by omega)]
  · simp only [tenL, List.getElem?_cons_succ, List.getElem?_cons_zero, Option.some.injEq] at hi; subst hi
    have := fx_in (a := a) (b := b) hR
    cases h : (Bl (a - 1) (Nn V S) && Bl b 7)
    · have := this.2 h; omega
    · have := this.1 h; unfold code; rw [if_neg (by omega), if_neg (by omega), if_neg (by omega), if_neg (by omega), if_neg (by omega)]
  · simp only [tenL, List.getElem?_cons_succ, List.getElem?_cons_zero, Option.some.injEq] at hi; subst hi
    unfold code; rw [if_neg (by omega), if_pos rfl]
  · simp [tenL] at hi
theorem apart_k {l1 l2 : List Value} {cs : List Int} (hl : cs.length = 10) {i : Nat} {x : Int} (hx : cs[i]? = some x) (hd : ∀ (k : Nat) (y : Int), cs[k]? = some y → 0 ≤ x → i ≠ k → x ≠ y) (s2 s4 s5 s6 s7 s8 : Value) : ∀ (m k : Nat), k + m = 10 →
    J7_0b0 C ⟨0, 0⟩ s2 s4 s5 s6 s7 s8 ((Value.slice (some ⟨2, 0, none⟩) 10 1)) ((Value.int .i64 ((i : Int)))) ((Value.int .i64 x)) ((Value.slice (some ⟨2, 0, none⟩) 10 1)) ((Value.int .i64 10)) ((Value.int .i64 ((i : Int)))) ((Value.slice (some ⟨2, 0, none⟩) 10 1)) ((Value.int .i64 10)) ((Value.int .i64 ((k : Int)))) [.own l1, .own l2, .own (cs.map (Value.int .i64))] =
      some (.inl ((s2, s4, s5, s6, s7, s8, (Value.slice (some ⟨2, 0, none⟩) 10 1), (Value.slice (some ⟨2, 0, none⟩) 10 1), (Value.int .i64 10), (Value.int .i64 (((i + 1 : Nat) : Int)))), [.own l1, .own l2, .own (cs.map (Value.int .i64))])) := by
  have hi10 : i < 10 := by have := (List.getElem?_eq_some_iff.1 hx).1; omega
  intro m
  induction m with
  | zero =>
    intro k hk
    obtain rfl : k = 10 := by omega
    have w : IntKind.wrap .i64 ((i : Int) + 1) = ((i + 1 : Nat) : Int) := by rw [wi (by omega) (by omega)]; rfl
    have f : ¬ ((10 : Nat) : Int) < 10 := by omega
    rw [J7_0b0_step]
    unfold Jr7_0b0
    simp only [go_sem, Nat.reduceAdd, Nat.reduceLeDiff, Nat.reduceMul, Int.reduceBEq, Int.reduceBNe, Int.reduceLT, Int.reduceLE, Int.reduceGT, aBin_lss, f, Jk7_0b0, aBin_add, w]
  | succ m ih =>
    intro k hk
    have hlt : (k : Int) < 10 := by omega
    obtain ⟨y, hy⟩ : ∃ y, cs[k]? = some y := ⟨cs[k]'(by omega), List.getElem?_eq_getElem _⟩
    have r : (cs.map (Value.int .i64))[k]? = some ((Value.int .i64 y)) := by rw [List.getElem?_map, hy]; rfl
    have w : IntKind.wrap .i64 ((k : Int) + 1) = ((k + 1 : Nat) : Int) := by rw [wi (by omega) (by omega)]; rfl
    have ix := fun {α : Type} (kk : Value → Option α) => ixS_p 1 2 0 10 1 (k : Int) kk ⟨by omega, hlt⟩
    have e := ih (k + 1) (by omega)
    rw [J7_0b0_step]
    unfold Jr7_0b0
    by_cases h0 : 0 ≤ x
    · by_cases hik : (i : Int) = k
      · have t : ((i : Int) != k) = false := by simp [hik]
        simp only [go_sem, Nat.reduceAdd, Nat.reduceLeDiff, Nat.reduceMul, Int.reduceBEq, Int.reduceBNe, Int.reduceLT, Int.reduceLE, Int.reduceGT, aBin_lss, hlt, ix, r, aBin_geq, h0, aBin_neq, t, aBin_add, w]
        exact e
      · have t : ((i : Int) != k) = true := by simpa using hik
        have hne := hd k y hy h0 (by omega)
        have t2 : (x == y) = false := by simpa using hne
        simp only [go_sem, Nat.reduceAdd, Nat.reduceLeDiff, Nat.reduceMul, Int.reduceBEq, Int.reduceBNe, Int.reduceLT, Int.reduceLE, Int.reduceGT, aBin_lss, hlt, ix, r, aBin_geq, h0, aBin_neq, t, aBin_eql, t2, aBin_add, w]
        exact e
    · simp only [go_sem, Nat.reduceAdd, Nat.reduceLeDiff, Nat.reduceMul, Int.reduceBEq, Int.reduceBNe, Int.reduceLT, Int.reduceLE, Int.reduceGT, aBin_lss, hlt, ix, r, aBin_geq, h0, aBin_add, w]
      exact e
theorem apart_i {l1 l2 : List Value} {cs : List Int} (hl : cs.length = 10) (hd : ∀ (i : Nat) (x : Int) (k : Nat) (y : Int), cs[i]? = some x → cs[k]? = some y → 0 ≤ x → i ≠ k → x ≠ y) (s2 s4 s5 s6 s7 s8 : Value) : ∀ (m i : Nat), i + m = 10 →
    J7_0 C ⟨0, 0⟩ [] s2 s4 s5 s6 s7 s8 ((Value.slice (some ⟨2, 0, none⟩) 10 1)) ((Value.slice (some ⟨2, 0, none⟩) 10 1)) ((Value.int .i64 10)) ((Value.int .i64 ((i : Int)))) [.own l1, .own l2, .own (cs.map (Value.int .i64))] = J7_1 C ⟨0, 0⟩ [] s2 s5 s6 s7 s8 [.own l1, .own l2, .own (cs.map (Value.int .i64))] := by
  intro m
  induction m with
  | zero =>
    intro i hi
    obtain rfl : i = 10 := by omega
    have f : ¬ ((10 : Nat) : Int) < 10 := by omega
    rw [J7_0_step]
    unfold Jr7_0
    simp only [go_sem, Nat.reduceAdd, Nat.reduceLeDiff, Nat.reduceMul, Int.reduceBEq, Int.reduceBNe, Int.reduceLT, Int.reduceLE, Int.reduceGT, aBin_lss, f, Jk7_0]
  | succ m ih =>
    intro i hi
    have hlt : (i : Int) < 10 := by omega
    obtain ⟨x, hx⟩ : ∃ x, cs[i]? = some x := ⟨cs[i]'(by omega), List.getElem?_eq_getElem _⟩
    have r : (cs.map (Value.int .i64))[i]? = some ((Value.int .i64 x)) := by rw [List.getElem?_map, hx]; rfl
    have ix := fun {α : Type} (kk : Value → Option α) => ixS_p 1 2 0 10 1 (i : Int) kk ⟨by omega, hlt⟩
    have e := apart_k (l1 := l1) (l2 := l2) hl hx (fun k y hy h0 hik => hd i x k y hx hy h0 hik) s2 s4 s5 s6 s7 s8 10 0 (by omega)
    rw [J7_0_step]
    unfold Jr7_0
    simp only [go_sem, Nat.reduceAdd, Nat.reduceLeDiff, Nat.reduceMul, Int.reduceBEq, Int.reduceBNe, Int.reduceLT, Int.reduceLE, Int.reduceGT, aBin_lss, hlt, ix, r]
    rw [show (((10 : Nat) : Int)) = 10 from rfl, show ((0 : Int)) = ((0 : Nat) : Int) from rfl, e]
    exact ih (i + 1) (by omega)
theorem min_p {α : Type} {md : Md} {a b : Int} {h : Heap} (k : Value → Heap → Option α) : aBuiltin Try.prog md .min #[3, 3] [(Value.int .i64 a), (Value.int .i64 b)] h k = k ((Value.int .i64 (mn a b))) h := rfl
theorem hx_inj {V S T a b c d : Int} (hR : Rt V S T) (h0 : 0 ≤ Hx V S T a b) (h : Hx V S T a b = Hx V S T c d) : a = c ∧ b = d := by
  have h1 := hx_in (a := a) (b := b) hR
  have h2 := hx_in (a := c) (b := d) hR
  cases e1 : (Bl a V && Bl b (Lv V))
  · have := h1.2 e1; omega
  · cases e2 : (Bl c V && Bl d (Lv V))
    · have := h2.2 e2; omega
    · have g1 := (h1.1 e1).1
      have g2 := (h2.1 e2).1
      simp only [Bool.and_eq_true] at e1 e2
      have k1 := Bl_t.1 e1.2
      have k2 := Bl_t.1 e2.2
      rcases Lv_le hR with ⟨l1, l2⟩
      have : Lv V = 1 ∨ Lv V = 2 ∨ Lv V = 3 ∨ Lv V = 4 ∨ Lv V = 5 := by omega
      rcases this with h' | h' | h' | h' | h' <;> rw [h'] at g1 g2 k1 k2 <;> omega
theorem fx_inj {V S T a b c d : Int} (hR : Rt V S T) (h0 : 0 ≤ Fx V S T a b) (h : Fx V S T a b = Fx V S T c d) : a = c ∧ b = d := by
  have h1 := fx_in (a := a) (b := b) hR
  have h2 := fx_in (a := c) (b := d) hR
  cases e1 : (Bl (a - 1) (Nn V S) && Bl b 7)
  · have := h1.2 e1; omega
  · cases e2 : (Bl (c - 1) (Nn V S) && Bl d 7)
    · have := h2.2 e2; omega
    · have g1 := (h1.1 e1).1
      have g2 := (h2.1 e2).1
      simp only [Bool.and_eq_true] at e1 e2
      have k1 := Bl_t.1 e1.2
      have k2 := Bl_t.1 e2.2
      omega
theorem ex_inj {V S T a b c d : Int} (hR : Rt V S T) (h0 : 0 ≤ Ex V S T a b) (h : Ex V S T a b = Ex V S T c d) : mn a b = mn c d ∧ mx a b = mx c d := by
  have o := order hR
  have h1 := ex_in (a := a) (b := b) hR
  have h2 := ex_in (a := c) (b := d) hR
  cases e1 : eOk V a b
  · have := h1.2 e1; omega
  · cases e2 : eOk V c d
    · have := h2.2 e2; omega
    · have g1 := (h1.1 e1).1
      have g2 := (h2.1 e2).1
      have k1 := eOk_t.1 e1
      have k2 := eOk_t.1 e2
      exact eI_inj hR.1 k1.2.1 k1.2.2.1 k1.2.2.2 k2.2.1 k2.2.2.1 k2.2.2.2 (by omega)
theorem apart_end {V S T a b c d : Int} (hR : Rt V S T) (ha : I64 a) (hc : I64 c) {bs : List Blk} {h : Heap} (hh : h = .own [(Value.int .i64 V), (Value.int .i64 S), (Value.int .i64 T)] :: bs) : J7_1 C ⟨0, 0⟩ [] ((Value.pointer (some ⟨0, 0, none⟩))) ((Value.int .i64 a)) ((Value.int .i64 b)) ((Value.int .i64 c)) ((Value.int .i64 d)) h = some ((Value.bool true), []) := by
  have r0 : rdN h 0 0 3 = some [(Value.int .i64 V), (Value.int .i64 S), (Value.int .i64 T)] := by subst hh; simp [rdN, Blk.cells]
  unfold J7_1
  have c1 : (¬ 0 ≤ Ex V S T a b) ∨ (0 ≤ Ex V S T a b ∧ (Ex V S T a b == Ex V S T c d) = false) ∨ (0 ≤ Ex V S T a b ∧ (Ex V S T a b == Ex V S T c d) = true ∧ (mn a b != mn c d) = false) := by
    by_cases h0 : 0 ≤ Ex V S T a b
    · by_cases h1 : Ex V S T a b = Ex V S T c d
      · right; right; exact ⟨h0, by simpa using h1, by simpa using (ex_inj hR h0 h1).1⟩
      · right; left; exact ⟨h0, by simpa using h1⟩
    · left; exact h0
  have c2 : (¬ 0 ≤ Fx V S T a b) ∨ (0 ≤ Fx V S T a b ∧ (Fx V S T a b == Fx V S T c d) = false) ∨ (0 ≤ Fx V S T a b ∧ (Fx V S T a b == Fx V S T c d) = true ∧ (a != c) = false ∧ (b != d) = false) := by
    by_cases h0 : 0 ≤ Fx V S T a b
    · by_cases h1 : Fx V S T a b = Fx V S T c d
      · right; right; have := fx_inj hR h0 h1; exact ⟨h0, by simpa using h1, by simpa using this.1, by simpa using this.2⟩
      · right; left; exact ⟨h0, by simpa using h1⟩
    · left; exact h0
  have c3 : Hx V S T a b < 0 ∨ (¬ Hx V S T a b < 0 ∧ (Hx V S T a b != Hx V S T c d) = true) ∨ (¬ Hx V S T a b < 0 ∧ (Hx V S T a b != Hx V S T c d) = false ∧ (a == c) = true ∧ (b == d) = true) := by
    by_cases h0 : 0 ≤ Hx V S T a b
    · by_cases h1 : Hx V S T a b = Hx V S T c d
      · right; right; have := hx_inj hR h0 h1; exact ⟨by omega, by simpa using h1, by simpa using this.1, by simpa using this.2⟩
      · right; left; exact ⟨by omega, by simpa using h1⟩
    · left; omega
  have f1 := fun h => field_s ⟨0, 0⟩ h (b := b) hR ha
  have f2 := fun h => field_s ⟨0, 0⟩ h (b := d) hR hc
  have f3 := fun h a b => edge_s ⟨0, 0⟩ h (a := a) (b := b) hR
  have f4 := fun h a b => head_s ⟨0, 0⟩ h (a := a) (b := b) hR
  clear ha hc hh
  rcases c1 with c1 | ⟨c1, d1⟩ | ⟨c1, d1, g1⟩ <;> rcases c2 with c2 | ⟨c2, d2⟩ | ⟨c2, d2, g2, i2⟩ <;> rcases c3 with c3 | ⟨c3, d3⟩ | ⟨c3, d3, g3, i3⟩ <;>
    simp only [go_sem, Nat.reduceAdd, Nat.reduceLeDiff, Nat.reduceMul, Int.reduceBEq, Int.reduceBNe, Int.reduceLT, Int.reduceLE, Int.reduceGT, ge_iff_le, r0, f1, f2, f3, f4, aBin_lss, aBin_geq, aBin_eql, aBin_neq, min_p, awake5, *]
theorem apart_not {V S T : Int} (hR : ¬ Rt V S T) (md : Md) (a b c d : Int) (h : Heap) : F7 (call Try.prog cfg) ⟨0, 0⟩ V S T a b c d [] = some ((Value.bool true), []) := by
  unfold F7
  simp only [go_sem, Nat.reduceAdd, Nat.reduceLeDiff, Nat.reduceMul, Int.reduceBEq, Int.reduceBNe, Int.reduceLT, Int.reduceLE, Int.reduceGT, refof_s, refright_s, hR, awake5]
theorem apart_law : Law Try.prog cfg 7 [23, 46] := by
  intro h avs ha
  obtain ⟨v, r, rfl, a, ha⟩ := args_cons ha
  obtain ⟨v2, r, rfl, a2, ha⟩ := args_cons ha
  obtain rfl := args_nil ha
  obtain ⟨V, S, T, rfl, hV, hS, hT⟩ := arg_lay a
  obtain ⟨acs, rfl, b⟩ := argN (P := Try.prog) (l := [.i .i64, .i .i64, .i .i64, .i .i64]) (by kernel_rfl) (by kernel_rfl) a2
  obtain ⟨v1, r, rfl, p1, b⟩ := l_cons b
  obtain ⟨v2, r, rfl, p2, b⟩ := l_cons b
  obtain ⟨v3, r, rfl, p3, b⟩ := l_cons b
  obtain ⟨v4, r, rfl, p4, b⟩ := l_cons b
  obtain rfl := l_nil b
  obtain ⟨x, rfl, hx⟩ := inI64 p1
  obtain ⟨y, rfl, hy⟩ := inI64 p2
  obtain ⟨z, rfl, hz⟩ := inI64 p3
  obtain ⟨w, rfl, hw⟩ := inI64 p4
  refine ⟨h, ?_⟩
  rw [call_eq, F7_eq]
  by_cases hR : Rt V S T
  · have code := ten_code hR x y
    have e := apart_i (l1 := [(Value.int .i64 V), (Value.int .i64 S), (Value.int .i64 T)]) (l2 := [(Value.int .i64 x), (Value.int .i64 y), (Value.int .i64 z), (Value.int .i64 w)]) (cs := tenL V S T x y) rfl (fun i a k b h1 h2 h0 hik hab => by
      have := code i a h1 h0
      have := code k b h2 (by omega)
      subst hab; omega) ((Value.pointer (some ⟨0, 0, none⟩))) ((Value.bool false)) ((Value.int .i64 x)) ((Value.int .i64 y)) ((Value.int .i64 z)) ((Value.int .i64 w)) 10 0 (by omega)
    have e2 := apart_end (a := x) (b := y) (c := z) (d := w) hR hx hz (bs := [.own [(Value.int .i64 x), (Value.int .i64 y), (Value.int .i64 z), (Value.int .i64 w)], .own ((tenL V S T x y).map (Value.int .i64))]) rfl
    unfold F7
    simp only [go_sem, Nat.reduceAdd, Nat.reduceLeDiff, Nat.reduceMul, Int.reduceBEq, Int.reduceBNe, Int.reduceLT, Int.reduceLE, Int.reduceGT, refof_s, refright_s, hR, state_s _ _ hR hx, free_s, nextfree_s _ _ hR, ends_s _ _ hR, level_s _ _ hR, next_s _ _ hR, prev_s _ _ hR, head_s _ _ hR, edge_s _ _ hR, field_s _ _ hR hx]
    rw [e2] at e
    have e3 := congrArg (alone h) e
    exact e3
  · rw [apart_not hR ⟨0, 0⟩ x y z w h]; rfl
end Go.Det.E
