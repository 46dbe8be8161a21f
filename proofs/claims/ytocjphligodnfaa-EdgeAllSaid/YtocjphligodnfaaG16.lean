/- The law of the edges' slots. -/
import Derived.Test.YtocjphligodnfaaG15
set_option autoImplicit false
set_option linter.unusedVariables false
set_option linter.unusedSimpArgs false
namespace Go.Det.E
open Go.Proofs Go.Det
attribute [local congr] bind_c cond_c
variable {md : Md} {h : Heap} {p a b q : Nat} {S T : Int} {v vv : Value} {ops : List Opn} {n : Nat} {all : List One}
theorem all_ops (hR : Rt n S T) (SV : Sl h 6 encP v ops) (hlen : ops.length ≤ 60) (hab : h.length ≤ a ∧ h.length ≤ b ∧ h.length ≤ p) (s2 s6 : Value) : ∀ (m k : Nat) (hh : Heap) (l c : List Int) (vv : Value) (all : List One), k + m = ops.length → Pl hh p a b n S T l c vv all → EI n S T l all → all.length ≤ k → Old h.length h hh →
    ∃ g l' c' v' all', J9_0 C ⟨0, h.length⟩ h s2 s6 ((Value.pointer (some ⟨p, 0, none⟩))) v ((Value.int .i64 ((ops.length : Int)))) ((Value.int .i64 ((k : Int)))) hh = J9_1 C ⟨0, h.length⟩ h s2 s6 ((Value.pointer (some ⟨p, 0, none⟩))) g ∧ Pl g p a b n S T l' c' v' all' ∧ EI n S T l' all' ∧ all'.length ≤ 60 ∧ Keep p a b hh g := by
  intro m
  induction m with
  | zero =>
    intro k hh l c vv all hk P I ha O
    obtain rfl : k = ops.length := by omega
    refine ⟨hh, l, c, vv, all, ?_, P, I, by omega, Keep.refl⟩
    rw [J9_0_step]
    unfold Jr9_0
    simp only [go_sem, Nat.reduceAdd, Nat.reduceLeDiff, Nat.reduceMul, Int.reduceBEq, Int.reduceBNe, Int.reduceLT, Int.reduceLE, Int.reduceGT, aBin_lss, Int.lt_irrefl, Jk9_0]
  | succ m ih =>
    intro k hh l c vv all hk P I ha O
    have hlt : (k : Int) < (ops.length : Int) := by omega
    obtain ⟨x, hx⟩ : ∃ x, ops[k]? = some x := ⟨ops[k]'(by omega), List.getElem?_eq_getElem (by omega)⟩
    have S0 : Sl hh 6 encP v ops := SV.heap fun hl => O.old _ hl
    have ix := fun {α : Type} (kk : Value → Option α) => S0.ix (i := (k : Int)) (by omega) hlt kk
    have el := S0.elem hx
    have hl := O.len
    have P6 := P.app [.own (encP x)]
    obtain ⟨h9, l9, c9, v9, all9, e9, P9, I9, a9, O9⟩ := step_k (md := ⟨0, h.length⟩) (n0 := h.length) hR P6 I (by omega) hab (Nat.zero_le _) hab.2.2 x.k x.s x.u x.v x.lv x.t
    have K9 := (Keep.app (p := p) (a := a) (b := b) [Blk.own (encP x)] (by have := lt_of P.hp; omega)).trans O9
    obtain ⟨g, l', c', v', all', eg, r⟩ := ih (k + 1) h9 l9 c9 v9 all9 (by omega) P9 I9 (by omega) (O.trans (K9.old hab.1 hab.2.1 hab.2.2))
    refine ⟨g, l', c', v', all', ?_, r.1, r.2.1, r.2.2.1, K9.trans r.2.2.2⟩
    have w : IntKind.wrap .i64 ((k : Int) + 1) = ((k + 1 : Nat) : Int) := by rw [wi (by omega) (by omega)]; rfl
    have st6 := fun (h' : Heap) (kk : Heap → Option (((Value × Value × Value × Value × Value × Value) × Heap) ⊕ (Exit × (Value × Value × Value × Value × Value × Value) × Heap))) => st_N ⟨0, h.length⟩ 6 hh.length 0 (encP x) h' kk rfl rfl
    rw [J9_0_step]
    unfold Jr9_0
    simp only [go_sem, Nat.reduceAdd, Nat.reduceLeDiff, Nat.reduceMul, Int.reduceBEq, Int.reduceBNe, Int.reduceLT, Int.reduceLE, Int.reduceGT, aBin_lss, hlt, ix, el, st6, hl, e9, aBin_add, w]
    exact eg
theorem count_u {l c : List Int} {ob : Nat} {ids : Value} {hh : Heap} (hR : Rt n S T) (P : Pl hh p a b n S T l c v all) (I : EI n S T l all) (hm : all.length < 100000) (bo : hh[ob]? = some (.own [(Value.int .i64 ((n : Int))), (Value.int .i64 S), (Value.int .i64 T)])) (SI : Sl hh 1 encI ids (slotsA all n n)) (s4 : Value) : ∀ (m i : Nat), i + m = n →
    J9_2 C md h ((Value.pointer (some ⟨ob, 0, none⟩))) s4 ((Value.pointer (some ⟨p, 0, none⟩))) ids ((Value.int .i64 (((slotsA all n i).length : Int)))) ((Value.int .i64 ((n : Int)))) ((Value.int .i64 ((i : Int)))) hh = some ((Value.bool true), hh.take h.length) := by
  have r := hR
  unfold Rt at r
  intro m
  induction m with
  | zero =>
    intro i hi
    obtain rfl : i = n := by omega
    have len := fun {α : Type} (kk : Value → Option α) => SI.len kk
    rw [J9_2_step]
    unfold Jr9_2
    simp only [go_sem, Nat.reduceAdd, Nat.reduceLeDiff, Nat.reduceMul, Int.reduceBEq, Int.reduceBNe, Int.reduceLT, Int.reduceLE, Int.reduceGT, aBin_lss, Int.lt_irrefl, Jk9_2, J9_3, len, aBin_eql, awake11]
  | succ m ih =>
    intro i hi
    have hlt : (i : Int) < (n : Int) := by omega
    have e : IntKind.wrap .i64 ((i : Int) + 1) = ((i + 1 + 0 : Nat) : Int) := by rw [wi (by omega) (by omega)]; rfl
    have cv := count_v (md := md) hR P I hm bo SI (i := i) (by omega) s4 (n - 1 - i) 0 (by omega)
    rw [slotsR, List.append_nil, Nat.add_zero] at cv
    rw [J9_2_step]
    unfold Jr9_2
    simp only [go_sem, Nat.reduceAdd, Nat.reduceLeDiff, Nat.reduceMul, Int.reduceBEq, Int.reduceBNe, Int.reduceLT, Int.reduceLE, Int.reduceGT, aBin_lss, hlt, aBin_add, e]
    rw [cv]
    exact ih (i + 1) (by omega)
theorem all_law : Law Try.prog cfg 9 [23, 49] := by
  intro h avs ha
  obtain ⟨x, r, rfl, a0, ha⟩ := args_cons ha
  obtain ⟨v, r, rfl, a1, ha⟩ := args_cons ha
  obtain rfl := args_nil ha
  obtain ⟨V, S, T, rfl, hV, hS, hT⟩ := arg_lay a0
  obtain ⟨ops, SV⟩ := arg_ops a1
  have len := fun {α : Type} (k : Value → Option α) => SV.len k
  have rt := right11_s ⟨0, h.length⟩ (h ++ [Blk.own [(Value.int .i64 V), (Value.int .i64 S), (Value.int .i64 T)]]) hV hS hT (Nat.zero_le _) (by simp)
  rw [call_eq, F9_eq]
  unfold F9
  by_cases hq : Rt V S T ∧ V ≤ 8
  · have hd : decide (Rt V S T ∧ V ≤ 8) = true := decide_eq_true hq
    rw [hd] at rt
    by_cases h60 : (60 : Int) < ops.length
    · exact ⟨h, by simp only [go_sem, Nat.reduceAdd, Nat.reduceLeDiff, Nat.reduceMul, Int.reduceBEq, Int.reduceBNe, Int.reduceLT, Int.reduceLE, Int.reduceGT, rt, len, aBin_gtr, gt_iff_lt, h60, awake11]⟩
    obtain ⟨n, rfl⟩ : ∃ n : Nat, V = n := ⟨V.toNat, by have := hq.1.1; omega⟩
    obtain ⟨h8, a, b, e8, A8, O8, la, lb⟩ := begun_s ⟨0, h.length⟩ (h ++ [Blk.own [(Value.int .i64 ((n : Int))), (Value.int .i64 S), (Value.int .i64 T)]]) hq.1 (Nat.zero_le _) (by simp)
    simp only [List.length_append, List.length_cons, List.length_nil] at la lb O8
    obtain ⟨b8, hl8, O⟩ := first_s la lb A8 O8
    have P := Pl.first (V := n) (S := S) (T := T) A8 (lt_of A8.ha) (lt_of A8.hb) (.own [(Value.int .i64 ((n : Int))), (Value.int .i64 S), (Value.int .i64 T), ifA a])
    have haa := lt_of A8.ha
    have hbb := lt_of A8.hb
    obtain ⟨g, l1, c1, v1, all1, e1, P1, I1, m1, K1⟩ := all_ops hq.1 SV (by omega) ⟨by omega, by omega, by omega⟩ ((Value.pointer (some ⟨h.length, 0, none⟩))) ((Value.bool false)) ops.length 0 _ _ _ _ _ (by omega) P (EI.none0 hq.1) (Nat.le_refl _) O
    have o1 : g[h.length]? = some (.own [(Value.int .i64 ((n : Int))), (Value.int .i64 S), (Value.int .i64 T)]) := (K1.oth _ (by omega) (by omega) (by omega)).trans ((List.getElem?_append_left (by omega)).trans b8)
    obtain ⟨ids, c2, g2, e2, N2, A2, S2⟩ := all_e (md := ⟨0, h.length⟩) hq.1 P1.ar I1 (Nat.zero_le _) (Nat.zero_le _)
    have hpg := lt_of P1.hp
    have hag := lt_of P1.ar.ha
    have P2 : Pl g2 (h8.length + 1) a b n S T l1 c2 v1 all1 := ⟨(N2.oth _ hpg (by omega) (by omega)).trans P1.hp, A2, P1.sl.at fun x h1 h2 => N2.oth x h2 (by omega) (by omega), P1.ha, P1.hb⟩
    have o2 := (N2.oth _ (lt_of o1) (by omega) (by omega)).trans o1
    have fin := count_u (md := ⟨0, h.length⟩) (h := h) hq.1 P2 I1 (by omega) o2 S2.sl ((Value.bool false)) n 0 (by omega)
    have r4 : rdN g (h8.length + 1) 3 4 = some [(Value.int .i64 ((n : Int))), (Value.int .i64 S), (Value.int .i64 T), ifA a] := by rw [rdN_own P1.hp (by simp)]; rfl
    have r2 : rd g2 h.length 0 = some ((Value.int .i64 ((n : Int)))) := by rw [rd_own o2]; rfl
    have r0 : rdN (h8 ++ [Blk.own [(Value.int .i64 ((n : Int))), (Value.int .i64 S), (Value.int .i64 T), ifA a]]) h.length 0 3 = some [(Value.int .i64 ((n : Int))), (Value.int .i64 S), (Value.int .i64 T)] := by
      rw [rdN_own (by rw [List.getElem?_append_left (by omega)]; exact b8) (by simp)]; rfl
    have st4 := fun (h' : Heap) (kk : Heap → Option (Value × Heap)) => st_N ⟨0, h.length⟩ 4 h8.length 0 [(Value.int .i64 ((n : Int))), (Value.int .i64 S), (Value.int .i64 T), ifA a] h' kk rfl rfl
    have hll : h.length ≤ h8.length := by omega
    refine ⟨g2.take h.length, ?_⟩
    simp only [go_sem, Nat.reduceAdd, Nat.reduceLeDiff, Nat.reduceMul, Int.reduceBEq, Int.reduceBNe, Int.reduceLT, Int.reduceLE, Int.reduceGT, rt, len, aBin_gtr, gt_iff_lt, h60, e8, st4, hll, r0, bPlay]
    refine e1.trans ?_
    unfold J9_1
    simp only [go_sem, Nat.reduceAdd, Nat.reduceLeDiff, Nat.reduceMul, Int.reduceBEq, Int.reduceBNe, Int.reduceLT, Int.reduceLE, Int.reduceGT, r4, e2, r2]
    exact fin
  · have hd : decide (Rt V S T ∧ V ≤ 8) = false := decide_eq_false hq
    rw [hd] at rt
    exact ⟨h, by simp only [go_sem, Nat.reduceAdd, Nat.reduceLeDiff, Nat.reduceMul, Int.reduceBEq, Int.reduceBNe, Int.reduceLT, Int.reduceLE, Int.reduceGT, rt, awake11]⟩
end Go.Det.E
