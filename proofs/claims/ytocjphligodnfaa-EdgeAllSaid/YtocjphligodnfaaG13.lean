/- The law of an act that leaves every other edge. -/
import Derived.Test.YtocjphligodnfaaG12
set_option autoImplicit false
set_option linter.unusedVariables false
set_option linter.unusedSimpArgs false
namespace Go.Det.E
open Go.Proofs Go.Det
attribute [local congr] bind_c cond_c
theorem arg_op {h : Heap} {v : Value} (a : TyArg Try.prog h 61 v) : ∃ o : Opn, v = (Value.agg (List.toArray (encP o))) := by
  obtain ⟨acs, e, b⟩ := argN (P := Try.prog) (l := [.i .i64, .i .i64, .i .i64, .i .i64, .i .i64, .b]) (by kernel_rfl) (by kernel_rfl) a
  obtain ⟨v1, r, rfl, a1, b⟩ := l_cons b
  obtain ⟨v2, r, rfl, a2, b⟩ := l_cons b
  obtain ⟨v3, r, rfl, a3, b⟩ := l_cons b
  obtain ⟨v4, r, rfl, a4, b⟩ := l_cons b
  obtain ⟨v5, r, rfl, a5, b⟩ := l_cons b
  obtain ⟨v6, r, rfl, a6, b⟩ := l_cons b
  obtain rfl := l_nil b
  obtain ⟨x1, rfl, _⟩ := inI64 a1
  obtain ⟨x2, rfl, _⟩ := inI64 a2
  obtain ⟨x3, rfl, _⟩ := inI64 a3
  obtain ⟨x4, rfl, _⟩ := inI64 a4
  obtain ⟨x5, rfl, _⟩ := inI64 a5
  obtain ⟨x6, rfl⟩ := inB a6
  exact ⟨⟨x1, x2, x3, x4, x5, x6⟩, e⟩
theorem eapart_law : Law Try.prog cfg 10 [23, 49, 61] := by
  intro h avs ha
  obtain ⟨x, r, rfl, a0, ha⟩ := args_cons ha
  obtain ⟨v, r, rfl, a1, ha⟩ := args_cons ha
  obtain ⟨y, r, rfl, a2, ha⟩ := args_cons ha
  obtain rfl := args_nil ha
  obtain ⟨V, S, T, rfl, hV, hS, hT⟩ := arg_lay a0
  obtain ⟨ops, SV⟩ := arg_ops a1
  obtain ⟨o, rfl⟩ := arg_op a2
  have len := fun {α : Type} (k : Value → Option α) => SV.len k
  have rt := right11_s ⟨0, h.length⟩ (h ++ [Blk.own [(Value.int .i64 V), (Value.int .i64 S), (Value.int .i64 T)], Blk.own (encP o)]) hV hS hT (Nat.zero_le _) (by simp)
  rw [call_eq, F10_eq]
  unfold F10
  by_cases hq : Rt V S T ∧ V ≤ 8
  · have hd : decide (Rt V S T ∧ V ≤ 8) = true := decide_eq_true hq
    rw [hd] at rt
    by_cases h60 : (60 : Int) < ops.length
    · exact ⟨h, by simp only [go_sem, Nat.reduceAdd, Nat.reduceLeDiff, Nat.reduceMul, Int.reduceBEq, Int.reduceBNe, Int.reduceLT, Int.reduceLE, Int.reduceGT, rt, len, aBin_gtr, gt_iff_lt, h60, awake11]⟩
    obtain ⟨n, rfl⟩ : ∃ n : Nat, V = n := ⟨V.toNat, by have := hq.1.1; omega⟩
    obtain ⟨h8, a, b, e8, A8, O8, la, lb⟩ := begun_s ⟨0, h.length⟩ (h ++ [Blk.own [(Value.int .i64 ((n : Int))), (Value.int .i64 S), (Value.int .i64 T)], Blk.own (encP o)]) hq.1 (Nat.zero_le _) (by simp)
    simp only [List.length_append, List.length_cons, List.length_nil] at la lb O8
    have hl8 := O8.len
    simp only [List.length_append, List.length_cons, List.length_nil] at hl8
    have b8 : h8[h.length]? = some (.own [(Value.int .i64 ((n : Int))), (Value.int .i64 S), (Value.int .i64 T)]) := (O8.old _ (by omega)).trans (by simp)
    have c8 : h8[h.length + 1]? = some (.own (encP o)) := (O8.old _ (by omega)).trans (by simp)
    have P := Pl.first (V := n) (S := S) (T := T) A8 (lt_of A8.ha) (lt_of A8.hb) (.own [(Value.int .i64 ((n : Int))), (Value.int .i64 S), (Value.int .i64 T), ifA a])
    have haa := lt_of A8.ha
    have hbb := lt_of A8.hb
    have O : Old h.length h (h8 ++ [Blk.own [(Value.int .i64 ((n : Int))), (Value.int .i64 S), (Value.int .i64 T), ifA a], Blk.own [(Value.int .i64 ((n : Int))), (Value.int .i64 S), (Value.int .i64 T), (Value.int .i64 ((n : Int))), (Value.int .i64 S), (Value.int .i64 T), ifA a, .slice none 0 0]]) :=
      ⟨by simp; omega, fun x hx => by rw [List.getElem?_append_left (by omega), O8.old x (by omega), List.getElem?_append_left hx]⟩
    obtain ⟨g, l1, c1, v1, all1, e1, P1, I1, m1, K1⟩ := apart_ops hq.1 SV (by omega) ⟨by omega, by omega, by omega⟩ ((Value.pointer (some ⟨h.length + 1, 0, none⟩))) ((Value.bool false)) ((Value.pointer (some ⟨h8.length, 0, none⟩))) ops.length 0 _ _ _ _ _ (by omega) P (EI.none0 hq.1) (Nat.le_refl _) O
    have hpg := lt_of P1.hp
    have y1 : g[h8.length]? = some (.own [(Value.int .i64 ((n : Int))), (Value.int .i64 S), (Value.int .i64 T), ifA a]) := (K1.oth _ (by omega) (by omega) (by omega)).trans (by simp)
    have z1 : g[h.length + 1]? = some (.own (encP o)) := (K1.oth _ (by omega) (by omega) (by omega)).trans ((List.getElem?_append_left (by omega)).trans c8)
    have P2 := P1.app [Blk.own []]
    have q7 : rd (g ++ [Blk.own []]) (h8.length + 1) 7 = some v1 := by rw [rd_at P2.hp]; rfl
    have S0 : SlO (g ++ [Blk.own []]) g.length 5 encE ((Value.slice (some ⟨g.length, 0, none⟩) 0 5)) [] := ⟨Sl.whole encE_len (k := .own []) (by simp) rfl rfl, .inr ⟨Nat.le_refl _, [], by simp [slB]⟩⟩
    obtain ⟨v4, h5, a5, S5, O5⟩ := append_sl (md := ⟨0, h.length⟩) tOne S0 P2.sl.sl (Nat.zero_le _) (by simp) encE_cell (by simp; omega)
    rw [List.nil_append] at S5
    have x5 : ∀ x, x < g.length → h5[x]? = g[x]? := fun x hx => (O5.old x hx).trans (List.getElem?_append_left hx)
    have P5 := P1.ext x5
    have z5 := (x5 _ (by omega)).trans z1
    have y5 := (x5 _ (by omega)).trans y1
    obtain ⟨h9, l9, c9, v9, all9, e9, P9, I9, m9, mem9, K9⟩ := step_x (md := ⟨0, h.length⟩) (n0 := h.length) hq.1 P5 I1 (by omega) ⟨by omega, by omega, by omega⟩ (Nat.zero_le _) (by show h.length ≤ _; omega) o.k o.s o.u o.v o.lv o.t
    have hg5 := O5.len
    simp only [List.length_append, List.length_cons, List.length_nil] at hg5
    have hs1 := slB_lt P1.sl.sl (by omega)
    have S9 : SlO h9 g.length 5 encE v4 all1 := S5.at fun x h1 h2 => K9.oth x h2 (by omega) (by omega) (by omega) (by omega)
    have z9 := (K9.low (h.length + 1) (by omega) (by omega) (by omega)).trans z5
    have y9 := (K9.low h8.length (by omega) (by omega) (by omega)).trans y5
    have len4 := fun {α : Type} (k : Value → Option α) => S9.sl.len k
    obtain ⟨g2, e2⟩ := apart_all (h := h) hq.1 (by omega) S9 ⟨by omega, by omega⟩ z9 y9 ⟨by omega, by omega, by omega, by omega⟩ I9 mem9 (by have := K9.len; omega) ((Value.bool false)) all1.length 0 h9 c9 (by omega) Near.refl P9.ar
    have r6 : rdN h5 (h.length + 1) 0 6 = some (encP o) := by rw [rdN_own z5 (by simp)]; rfl
    have r0 : rdN (h8 ++ [Blk.own [(Value.int .i64 ((n : Int))), (Value.int .i64 S), (Value.int .i64 T), ifA a]]) h.length 0 3 = some [(Value.int .i64 ((n : Int))), (Value.int .i64 S), (Value.int .i64 T)] := by
      rw [rdN_own (by rw [List.getElem?_append_left (by omega)]; exact b8) (by simp)]; rfl
    have st4 := fun (h' : Heap) (kk : Heap → Option (Value × Heap)) => st_N ⟨0, h.length⟩ 4 h8.length 0 [(Value.int .i64 ((n : Int))), (Value.int .i64 S), (Value.int .i64 T), ifA a] h' kk rfl rfl
    have hll : h.length ≤ h8.length := by omega
    refine ⟨g2, ?_⟩
    simp only [go_sem, Nat.reduceAdd, Nat.reduceLeDiff, Nat.reduceMul, Int.reduceBEq, Int.reduceBNe, Int.reduceLT, Int.reduceLE, Int.reduceGT, rt, len, aBin_gtr, gt_iff_lt, h60, e8, st4, hll, r0, bPlay]
    refine e1.trans ?_
    unfold J10_1
    simp only [go_sem, Nat.reduceAdd, Nat.reduceLeDiff, Nat.reduceMul, Int.reduceBEq, Int.reduceBNe, Int.reduceLT, Int.reduceLE, Int.reduceGT, q7]
    rw [a5]
    simp only [go_sem, Nat.reduceAdd, Nat.reduceLeDiff, Nat.reduceMul, Int.reduceBEq, Int.reduceBNe, Int.reduceLT, Int.reduceLE, Int.reduceGT, r6, e9, len4]
    exact e2
  · have hd : decide (Rt V S T ∧ V ≤ 8) = false := decide_eq_false hq
    rw [hd] at rt
    exact ⟨h, by simp only [go_sem, Nat.reduceAdd, Nat.reduceLeDiff, Nat.reduceMul, Int.reduceBEq, Int.reduceBNe, Int.reduceLT, Int.reduceLE, Int.reduceGT, rt, awake11]⟩
end Go.Det.E
