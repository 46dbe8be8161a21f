/- Of any swaps of a cell from one value, the first alone is done. -/
import Derived.Test.YtplfaagompkfcaaC3
import Derived.Test.YtplfaagompkfcaaDetS
set_option autoImplicit false
set_option linter.unusedVariables false
set_option linter.unusedSimpArgs false
namespace Go.Det
theorem Cell.Grown.only {h h' h'' : Heap} {a b : Nat} (g : Cell.Grown h h') (o : Cell.Only a b h' h'') (ha : h.length ≤ a) (hb : h.length ≤ b) : Cell.Grown h h'' :=
  ⟨by rw [o.len]; exact g.len, fun x hx => by rw [o.oth x (by omega) (by omega)]; exact g.old x hx⟩
theorem rd_ro {h : Heap} {b i : Nat} {cs : List Value} (hb : h[b]? = some (.ro cs)) : rd h b i = cs[i]? := by unfold rd; rw [hb]; rfl
end Go.Det
namespace Go.Det.Cell
open Go.Proofs
attribute [local congr] bind_c cond_c
theorem u4 : Try.prog.underlying 4 = some .bool := by kernel_rfl
theorem wi {x : Int} (h0 : -9223372036854775808 ≤ x) (h1 : x < 9223372036854775808) : IntKind.wrap .i64 x = x := by rw [IntKind.wrap_i64]; omega
theorem once_loop (was : Int) (h : Heap) (base : Option Addr) (ns : List Int) (cp : Nat) (hmax : List.length ns ≤ maxLen) {a b : Nat} (la : h.length ≤ a) (lb : h.length ≤ b)
    (hb : ns = [] ∨ ∃ b, base = some ⟨b, 0, none⟩ ∧ h[b]? = some (.ro (ns.map (.int .u64)))) : ∀ (m k : Nat) (x : Int) (c : List Int) (d : Bool) (s4 : Value) (hh : Heap), k + m = ns.length → Ar hh a b [x] c → Grown h hh → (x == was) = !d →
    J12_0 C ⟨h.length, h.length⟩ h (.int .u64 was) s4 (.pointer (some ⟨a, 0, none⟩)) (.bool d) (.slice base ns.length cp) (.int .i64 ns.length) (.int .i64 k) hh = some (.bool true, h) := by
  intro m
  induction m with
  | zero =>
    intro k x c d s4 hh hk A g hd
    obtain rfl : k = ns.length := by omega
    rw [J12_0_step]
    unfold Jr12_0
    simp only [go_sem, Nat.reduceAdd, Nat.reduceLeDiff, Nat.reduceMul, Int.reduceBEq, Int.reduceBNe, Int.reduceLT, Int.reduceLE, Int.reduceGT, aBin_lss, Int.lt_irrefl]
    unfold Jk12_0
    simp only [go_sem, Nat.reduceAdd, Nat.reduceLeDiff, Nat.reduceMul, Int.reduceBEq, Int.reduceBNe, Int.reduceLT, Int.reduceLE, Int.reduceGT, awake_s]
  | succ m ih =>
    intro k x c d s4 hh hk A g hd
    rw [J12_0_step]
    have hkl : (k : Int) < (ns.length : Int) := by omega
    have hne : ns ≠ [] := by intro e; rw [e] at hk; simp at hk
    obtain ⟨bs, rfl, hbk⟩ := hb.resolve_left hne
    have hblt : bs < h.length := (List.getElem?_eq_some_iff.1 hbk).1
    obtain ⟨v, hv⟩ : ∃ v, ns[k]? = some v := ⟨ns[k]'(by omega), List.getElem?_eq_getElem (by omega)⟩
    have hrd : rd hh bs k = some (.int .u64 v) := by
      rw [rd_ro ((g.old bs hblt).trans hbk)]; simp [hv]
    have hml : maxLen = 9223372036854775807 := rfl
    have hw : IntKind.wrap .i64 ((k : Int) + 1) = ((k + 1 : Nat) : Int) := by rw [wi (by omega) (by omega)]; rfl
    have hx := fun {α : Type} (kk : Value → Option α) => ixS_p 1 bs 0 ns.length cp (k : Int) kk ⟨Int.natCast_nonneg k, hkl⟩
    have bt : (true == false) = false := rfl
    have bf : (false == true) = false := rfl
    unfold Jr12_0
    cases hvw : (v == was)
    · obtain ⟨h2, e, A2, o2⟩ := swap_e (md := ⟨h.length, h.length⟩) A la lb (i := 0) (by decide) (by simp) was v
      have e' : C ⟨h.length, h.length⟩ 38 [.pointer (some ⟨a, 0, none⟩), .int .i64 0, .int .u64 was, .int .u64 v] hh = some (.tuple #[.bool !d, .int .i64 0], h2) := by rw [← hd]; exact e
      have g2 := g.only o2 la lb
      cases d
      · have A2' : Ar h2 a b [v] (up c 2) := by
          have hd' : ([x].getD (0 : Int).toNat 0 == was) = true := hd
          rw [hd'] at A2; exact A2
        simp only [go_sem, Nat.reduceAdd, Nat.reduceLeDiff, Nat.reduceMul, Int.reduceBEq, Int.reduceBNe, Int.reduceLT, Int.reduceLE, Int.reduceGT, aBin_lss, aBin_add, hkl, hx, hrd, aBin_eql, aBin_neq, hvw, e', aBin_eqlB u4, hw, bt, bf, bne]
        exact ih (k + 1) v _ true _ h2 (by omega) A2' g2 (by rw [hvw]; rfl)
      · have A2' : Ar h2 a b [x] (up c 3) := by
          have hd' : ([x].getD (0 : Int).toNat 0 == was) = false := hd
          rw [hd'] at A2; exact A2
        simp only [go_sem, Nat.reduceAdd, Nat.reduceLeDiff, Nat.reduceMul, Int.reduceBEq, Int.reduceBNe, Int.reduceLT, Int.reduceLE, Int.reduceGT, aBin_lss, aBin_add, hkl, hx, hrd, aBin_eql, aBin_neq, hvw, e', aBin_eqlB u4, hw, bt, bf, bne]
        exact ih (k + 1) x _ true _ h2 (by omega) A2' g2 hd
    · simp only [go_sem, Nat.reduceAdd, Nat.reduceLeDiff, Nat.reduceMul, Int.reduceBEq, Int.reduceBNe, Int.reduceLT, Int.reduceLE, Int.reduceGT, aBin_lss, aBin_add, hkl, hx, hrd, aBin_eql, hvw, hw]
      exact ih (k + 1) x c d _ hh (by omega) A g hd
theorem once_law : Law Try.prog cfg 12 [24, 57] := by
  intro h avs ha
  obtain ⟨v, r, rfl, a, ha⟩ := args_cons ha
  obtain ⟨v2, r, rfl, a2, ha⟩ := args_cons ha
  obtain rfl := args_nil ha
  obtain ⟨was, rfl, _⟩ := inU64 (arg1 (P := Try.prog) (by kernel_rfl) (by kernel_rfl) a)
  obtain ⟨base, ns, cp, rfl, hn, _, hb⟩ := slI (arg1 (c := .sl [.i .u64]) (by kernel_rfl) (by kernel_rfl) a2)
  refine ⟨h, ?_⟩
  rw [call_eq, F12_eq]
  unfold F12
  by_cases hl : (60 : Int) < (ns.length : Int)
  · simp only [go_sem, Nat.reduceAdd, Nat.reduceLeDiff, Nat.reduceMul, Int.reduceBEq, Int.reduceBNe, Int.reduceLT, Int.reduceLE, Int.reduceGT, hl, awake_s, gt_iff_lt]
  obtain ⟨h1, a, b, e1, A1, g1, la, lb⟩ := new_e ⟨h.length, h.length⟩ h (n := 1) (by decide) (by decide)
  obtain ⟨h2, e2, A2, o2⟩ := store_e (md := ⟨h.length, h.length⟩) A1 la lb (i := 0) (by decide) (by decide) was
  have A2' : Ar h2 a b [was] [0, 1, 0, 0, 0] := A2
  simp only [go_sem, Nat.reduceAdd, Nat.reduceLeDiff, Nat.reduceMul, Int.reduceBEq, Int.reduceBNe, Int.reduceLT, Int.reduceLE, Int.reduceGT, hl, e1, e2, aBin_eql, aBin_neq, aBin_eqlP u53, aBin_neqP u53, gt_iff_lt]
  exact once_loop was h base ns cp hn la lb hb ns.length 0 was _ false (.bool false) h2 (by omega) A2' (g1.only o2 la lb) (by simp)
end Go.Det.Cell
