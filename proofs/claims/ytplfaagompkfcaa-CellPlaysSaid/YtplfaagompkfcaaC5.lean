/- Of calls at no cell, and of any calls on an arena. -/
import Derived.Test.YtplfaagompkfcaaC4
set_option autoImplicit false
set_option linter.unusedVariables false
set_option linter.unusedSimpArgs false
namespace Go.Det.Cell
open Go.Proofs
attribute [local congr] bind_c cond_c
theorem five {c : List Int} (hc : c.length = 5) : ∃ c0 c1 c2 c3 c4, c = [c0, c1, c2, c3, c4] := by
  rcases c with _ | ⟨c0, _ | ⟨c1, _ | ⟨c2, _ | ⟨c3, _ | ⟨c4, _ | ⟨c5, c⟩⟩⟩⟩⟩⟩ <;> simp at hc
  exact ⟨_, _, _, _, _, rfl⟩
theorem refuses_s {md : Md} {h : Heap} {a b : Nat} {l c : List Int} (A : Ar h a b l c) (hro : md.ro ≤ h.length) (kd i was v : Int) (hi : i < 0 ∨ (l.length : Int) ≤ i) :
    C md 36 [.pointer (some ⟨a, 0, none⟩), .agg #[.int .i64 kd, .int .i64 i, .int .u64 was, .int .u64 v]] h = some (.bool true, h) := by
  rw [C, call_eq, F36_eq]
  unfold F36
  have hc := A.hc
  obtain ⟨c0, c1, c2, c3, c4, rfl⟩ := five hc
  have A1 := A.grown (Grown.app h [.own [.int .i64 kd, .int .i64 i, .int .u64 was, .int .u64 v]])
  have A2 := A.grown (Grown.app h [.own [.int .i64 kd, .int .i64 i, .int .u64 was, .int .u64 v], .own [.int .i64 c0, .int .i64 c1, .int .i64 c2, .int .i64 c3, .int .i64 c4]])
  have e1 := counts_s (md := ⟨md.ro, h.length⟩) A1
  simp only [List.map_cons, List.map_nil] at e1
  have e2 := load_n (md := ⟨md.ro, h.length⟩) A2 hi
  have e3 := store_n (md := ⟨md.ro, h.length⟩) A2 hi v
  have e4 := swap_n (md := ⟨md.ro, h.length⟩) A2 hi was v
  have e5 := add_n (md := ⟨md.ro, h.length⟩) A2 hi v
  have e6 := counts_s (md := ⟨md.ro, h.length⟩) A2
  simp only [List.map_cons, List.map_nil] at e6
  simp only [go_sem, Nat.reduceAdd, Nat.reduceLeDiff, Nat.reduceMul, Int.reduceBEq, Int.reduceBNe, Int.reduceLT, Int.reduceLE, Int.reduceGT, e1, e2, e3, e4, e5, e6, hro, aBin_eql, aBin_neq, eq59, aUn_not]
end Go.Det.Cell
