/- Values: the law of what must be a number or a text. -/
import Derived.Test.YtbliaopehpcpbaaDoorK3
set_option autoImplicit false
set_option linter.unusedVariables false
set_option linter.unusedSimpArgs false
namespace Go.Det.E
open Go.Proofs Go.Det
attribute [local congr] bind_c cond_c
theorem num_c {a v : Value} (e : extNum a = some v) (hp : plain2 v = true) (md : Md) (h : Heap) : C md 17 [a] h = some (v, h) := by
  rw [C, call_eq]
  exact callStep_ext (by kernel_rfl) (by kernel_rfl) e hp
theorem str_c {a v : Value} (e : extStr a = some v) (hp : plain2 v = true) (md : Md) (h : Heap) : C md 18 [a] h = some (v, h) := by
  rw [C, call_eq]
  exact callStep_ext (by kernel_rfl) (by kernel_rfl) e hp
theorem must_law : Law Tryd.prog cfg 4 [23] := by
  intro h avs ha
  obtain ⟨v, r, rfl, a0, ha⟩ := args_cons ha
  obtain rfl := args_nil ha
  obtain ⟨x, rfl, hx⟩ := arg_raw a0
  rw [call_eq, F4_eq]
  unfold F4
  obtain ⟨h1, e1⟩ : ∃ h1, h1 = h ++ [Blk.own [(Value.int .i64 x.k), (Value.int .i64 x.n), .string x.s, .int .i32 x.r]] := ⟨_, rfl⟩
  have b1 : h1[h.length]? = some (.own (encR x)) := by rw [e1]; simp
  have l1 : h1.length = h.length + 1 := by rw [e1]; simp
  have q4 : rdN h1 h.length 0 4 = some [(Value.int .i64 x.k), (Value.int .i64 x.n), .string x.s, .int .i32 x.r] := by rw [rdN_own b1 (by simp)]; rfl
  have mk := fun (m : Md) (g : Heap) => made_s m g x
  have bs := fun {α : Type} (g : Heap) (kk : Value → Heap → Option α) => bs_1 (cells_mv x) g kk
  obtain ⟨h2, e2⟩ : ∃ h2, h2 = h1 ++ [Blk.own [mv x]] := ⟨_, rfl⟩
  have b2 : h2[h.length]? = some (.own (encR x)) := by rw [e2, List.getElem?_append_left (by omega)]; exact b1
  have q0 : rd h2 h.length 0 = some ((Value.int .i64 x.k)) := by rw [rd_own b2]; rfl
  have q1 : rd h2 h.length 1 = some ((Value.int .i64 x.n)) := by rw [rd_own b2]; rfl
  have q2 : rd h2 h.length 2 = some (.string x.s) := by rw [rd_own b2]; rfl
  have nl := fun (m : Md) (g : Heap) => num_c (a := .iface 33 ((Value.slice (some ⟨h1.length, 0, none⟩) 1 1))) (v := (Value.tuple #[(Value.int .i64 0), .bool false])) rfl rfl m g
  have eqs : ∀ {α : Type} (k : Value → Option α), aBin Tryd.prog .eql 9 (.string x.s) (.string x.s) k = k (.bool true) := fun k => by rw [aBin_eqS, beq_self_eq_true]
  refine ⟨h2.take h.length, ?_⟩
  simp only [go_sem, Nat.reduceAdd, Nat.reduceLeDiff, Nat.reduceMul, Int.reduceBEq, Int.reduceBNe, Int.reduceLT, Int.reduceLE, Int.reduceGT, ← e1, q4, mk]
  rcases kc x with ⟨g1, e⟩ | ⟨g1, e⟩ | ⟨g1, e⟩ | ⟨g1, e⟩ | ⟨g1, e⟩
  · have n1 := fun (m : Md) (g : Heap) => num_c (a := .iface 3 (.int .i64 x.n)) (v := (Value.tuple #[(Value.int .i64 x.n), .bool true])) rfl rfl m g
    have n2 := fun (m : Md) (g : Heap) => str_c (a := .iface 3 (.int .i64 x.n)) (v := (Value.tuple #[.string ⟨#[]⟩, .bool false])) rfl rfl m g
    have k1 : (x.k == 1) = true := by rw [g1]; rfl
    have k2 : (x.k == 2) = false := by rw [g1]; rfl
    rw [e] at bs e2 ⊢
    simp only [go_sem, Nat.reduceAdd, Nat.reduceLeDiff, Nat.reduceMul, Int.reduceBEq, Int.reduceBNe, Int.reduceLT, Int.reduceLE, Int.reduceGT, n1, n2, bs, ← e2, nl, q0, k1, k2, aBin_eqlP, aBin_eql, aBin_eqB, aUn_not, q1, beq_self_eq_true, awake03]
  · have n1 := fun (m : Md) (g : Heap) => num_c (a := .iface 9 (.string x.s)) (v := (Value.tuple #[(Value.int .i64 0), .bool false])) rfl rfl m g
    have n2 := fun (m : Md) (g : Heap) => str_c (a := .iface 9 (.string x.s)) (v := (Value.tuple #[.string x.s, .bool true])) rfl rfl m g
    have k1 : (x.k == 1) = false := by rw [g1]; rfl
    have k2 : (x.k == 2) = true := by rw [g1]; rfl
    rw [e] at bs e2 ⊢
    simp only [go_sem, Nat.reduceAdd, Nat.reduceLeDiff, Nat.reduceMul, Int.reduceBEq, Int.reduceBNe, Int.reduceLT, Int.reduceLE, Int.reduceGT, n1, n2, bs, ← e2, nl, q0, k1, k2, aBin_eqlP, aBin_eql, aBin_eqB, aUn_not, q1, q2, eqs, beq_self_eq_true, awake03]
  · have n1 := fun (m : Md) (g : Heap) => num_c (a := .iface 21 (.int .i32 x.r)) (v := (Value.tuple #[(Value.int .i64 0), .bool false])) rfl rfl m g
    have n2 := fun (m : Md) (g : Heap) => str_c (a := .iface 21 (.int .i32 x.r)) (v := (Value.tuple #[.string ⟨#[]⟩, .bool false])) rfl rfl m g
    have k1 : (x.k == 1) = false := by rw [g1]; rfl
    have k2 : (x.k == 2) = false := by rw [g1]; rfl
    rw [e] at bs e2 ⊢
    simp only [go_sem, Nat.reduceAdd, Nat.reduceLeDiff, Nat.reduceMul, Int.reduceBEq, Int.reduceBNe, Int.reduceLT, Int.reduceLE, Int.reduceGT, n1, n2, bs, ← e2, nl, q0, k1, k2, aBin_eqlP, aBin_eql, aBin_eqB, aUn_not, q1, q2, eqs, beq_self_eq_true, awake03]
  · have n1 := fun (m : Md) (g : Heap) => num_c (a := .iface 47 (.float .f64 (FloatKind.f64.nearest x.n))) (v := (Value.tuple #[(Value.int .i64 0), .bool false])) rfl rfl m g
    have n2 := fun (m : Md) (g : Heap) => str_c (a := .iface 47 (.float .f64 (FloatKind.f64.nearest x.n))) (v := (Value.tuple #[.string ⟨#[]⟩, .bool false])) rfl rfl m g
    have k1 : (x.k == 1) = false := by rw [g1]; rfl
    have k2 : (x.k == 2) = false := by rw [g1]; rfl
    rw [e] at bs e2 ⊢
    simp only [go_sem, Nat.reduceAdd, Nat.reduceLeDiff, Nat.reduceMul, Int.reduceBEq, Int.reduceBNe, Int.reduceLT, Int.reduceLE, Int.reduceGT, n1, n2, bs, ← e2, nl, q0, k1, k2, aBin_eqlP, aBin_eql, aBin_eqB, aUn_not, q1, q2, eqs, beq_self_eq_true, awake03]
  · have n1 := fun (m : Md) (g : Heap) => num_c (a := .nilIface) (v := (Value.tuple #[(Value.int .i64 0), .bool false])) rfl rfl m g
    have n2 := fun (m : Md) (g : Heap) => str_c (a := .nilIface) (v := (Value.tuple #[.string ⟨#[]⟩, .bool false])) rfl rfl m g
    have k1 : (x.k == 1) = false := by simp; omega
    have k2 : (x.k == 2) = false := by simp; omega
    rw [e] at bs e2 ⊢
    simp only [go_sem, Nat.reduceAdd, Nat.reduceLeDiff, Nat.reduceMul, Int.reduceBEq, Int.reduceBNe, Int.reduceLT, Int.reduceLE, Int.reduceGT, n1, n2, bs, ← e2, nl, q0, k1, k2, aBin_eqlP, aBin_eql, aBin_eqB, aUn_not, q1, q2, eqs, beq_self_eq_true, awake03]
end Go.Det.E
