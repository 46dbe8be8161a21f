/- The edges after any acts. -/
import Derived.Test.YtocjphligodnfaaG6
import Derived.Test.YtocjphligodnfaaGA
set_option autoImplicit false
set_option linter.unusedVariables false
set_option linter.unusedSimpArgs false
namespace Go.Det.E
open Go.Proofs Go.Det
attribute [local congr] bind_c cond_c
variable {md : Md} {h : Heap} {p a b : Nat} {S T : Int} {v : Value} {ops : List Opn} {n : Nat}
theorem plays_loop (hR : Rt n S T) (SV : Sl h 6 encP v ops) (hlen : ops.length ≤ 60) (hab : h.length ≤ a ∧ h.length ≤ b ∧ h.length ≤ p) (s4 : Value) : ∀ (m k : Nat) (hh : Heap) (l c : List Int) (vv : Value) (all : List One), k + m = ops.length → Pl hh p a b n S T l c vv all → EI n S T l all → all.length ≤ k → Old h.length h hh →
    ∃ g, J8_0 C ⟨0, h.length⟩ h s4 ((Value.pointer (some ⟨p, 0, none⟩))) v ((Value.int .i64 ((ops.length : Int)))) ((Value.int .i64 ((k : Int)))) hh = some ((Value.bool true), g) := by
  intro m
  induction m with
  | zero =>
    intro k hh l c vv all hk P I ha O
    obtain rfl : k = ops.length := by omega
    refine ⟨hh.take h.length, ?_⟩
    rw [J8_0_step]
    unfold Jr8_0
    simp only [go_sem, Nat.reduceAdd, Nat.reduceLeDiff, Nat.reduceMul, Int.reduceBEq, Int.reduceBNe, Int.reduceLT, Int.reduceLE, Int.reduceGT, aBin_lss, Int.lt_irrefl, Jk8_0, awake11]
  | succ m ih =>
    intro k hh l c vv all hk P I ha O
    have hlt : (k : Int) < (ops.length : Int) := by omega
    obtain ⟨x, hx⟩ : ∃ x, ops[k]? = some x := ⟨ops[k]'(by omega), List.getElem?_eq_getElem (by omega)⟩
    have S0 : Sl hh 6 encP v ops := SV.heap fun hl => O.old _ hl
    have ix := fun {α : Type} (kk : Value → Option α) => S0.ix (i := (k : Int)) (by omega) hlt kk
    have el := S0.elem hx
    have hl := O.len
    have P6 := P.app [.own (encP x)]
    obtain ⟨h9, l9, c9, v9, all9, e9, P9, I9, a9, O9⟩ := step_e (md := ⟨0, h.length⟩) (n0 := h.length) hR P6 I (by omega) hab (Nat.zero_le _) hab.2.2 x.k x.s x.u x.v x.lv x.t
    obtain ⟨h10, c10, e10, A10, o10⟩ := is_e (md := ⟨0, h.length⟩) hR P9 I9 (by omega) (Nat.zero_le _)
    have P10 := P9.only A10 o10
    obtain ⟨g, eg⟩ := ih (k + 1) h10 l9 c10 v9 all9 (by omega) P10 I9 (by omega) (((O.trans (Old.app _ hl)).trans O9).trans (o10.old (by omega) (by omega)))
    refine ⟨g, ?_⟩
    have w : IntKind.wrap .i64 ((k : Int) + 1) = ((k + 1 : Nat) : Int) := by rw [wi (by omega) (by omega)]; rfl
    have st6 := fun (h' : Heap) (kk : Heap → Option (((Value × Value × Value × Value × Value) × Heap) ⊕ (Exit × (Value × Value × Value × Value × Value) × Heap))) => st_N ⟨0, h.length⟩ 6 hh.length 0 (encP x) h' kk rfl rfl
    rw [J8_0_step]
    unfold Jr8_0
    simp only [go_sem, Nat.reduceAdd, Nat.reduceLeDiff, Nat.reduceMul, Int.reduceBEq, Int.reduceBNe, Int.reduceLT, Int.reduceLE, Int.reduceGT, aBin_lss, hlt, ix, el, st6, hl, e9, e10, aBin_add, w]
    exact eg
theorem bPlay {α : Type} {V S T : Int} {a : Nat} (k : Value → Option α) : aBuild Try.prog 59 [(0, (Value.agg #[(Value.int .i64 V), (Value.int .i64 S), (Value.int .i64 T)])), (1, E4 V S T a)] k = k ((Value.agg #[(Value.int .i64 V), (Value.int .i64 S), (Value.int .i64 T), (Value.int .i64 V), (Value.int .i64 S), (Value.int .i64 T), ifA a, .slice none 0 0])) := by kernel_rfl
theorem EI.none0 {V S T : Int} (hR : Rt V S T) : EI V S T (List.replicate (Cn V S T).toNat 0) [] := by
  have cn := Cn_le hR
  refine ⟨by simp; omega, by simp, ?_, List.Pairwise.nil, List.Pairwise.nil⟩
  intro u v h1 h2 h3 _
  unfold getI
  split
  · rename_i h
    simp only [List.length_replicate] at h
    rw [List.getD, List.getElem?_replicate_of_lt (by omega)]; rfl
  · rfl
/-- What the laws begin with: the heap, the play at its block. -/
theorem Pl.first {h8 : Heap} {V S T : Int} {l c : List Int} (A : Ar h8 a b l c) (ha : a < h8.length) (hb : b < h8.length) (d : Blk) :
    Pl (h8 ++ [d, .own [(Value.int .i64 V), (Value.int .i64 S), (Value.int .i64 T), (Value.int .i64 V), (Value.int .i64 S), (Value.int .i64 T), ifA a, .slice none 0 0]]) (h8.length + 1) a b V S T l c (.slice none 0 0) [] :=
  ⟨by rw [List.getElem?_append_right (by omega)]; simp, A.app _, SlO.nil _ _ encE_len, by omega, by omega⟩
theorem plays_law : Law Try.prog cfg 8 [23, 49] := by
  intro h avs ha
  obtain ⟨x, r, rfl, a0, ha⟩ := args_cons ha
  obtain ⟨v, r, rfl, a1, ha⟩ := args_cons ha
  obtain rfl := args_nil ha
  obtain ⟨V, S, T, rfl, hV, hS, hT⟩ := arg_lay a0
  obtain ⟨ops, SV⟩ := arg_ops a1
  have len := fun {α : Type} (k : Value → Option α) => SV.len k
  have rt := right11_s ⟨0, h.length⟩ (h ++ [Blk.own [(Value.int .i64 V), (Value.int .i64 S), (Value.int .i64 T)]]) hV hS hT (Nat.zero_le _) (by simp)
  rw [call_eq, F8_eq]
  unfold F8
  by_cases hq : Rt V S T ∧ V ≤ 8
  · have hd : decide (Rt V S T ∧ V ≤ 8) = true := decide_eq_true hq
    rw [hd] at rt
    by_cases h60 : (60 : Int) < ops.length
    · exact ⟨h, by simp only [go_sem, Nat.reduceAdd, Nat.reduceLeDiff, Nat.reduceMul, Int.reduceBEq, Int.reduceBNe, Int.reduceLT, Int.reduceLE, Int.reduceGT, rt, len, aBin_gtr, gt_iff_lt, h60, awake11]⟩
    · obtain ⟨n, rfl⟩ : ∃ n : Nat, V = n := ⟨V.toNat, by have := hq.1.1; omega⟩
      obtain ⟨h8, a, b, e8, A8, O8, la, lb⟩ := begun_s ⟨0, h.length⟩ (h ++ [Blk.own [(Value.int .i64 ((n : Int))), (Value.int .i64 S), (Value.int .i64 T)]]) hq.1 (Nat.zero_le _) (by simp)
      simp only [List.length_append, List.length_cons, List.length_nil] at la lb O8
      have b8 : h8[h.length]? = some (.own [(Value.int .i64 ((n : Int))), (Value.int .i64 S), (Value.int .i64 T)]) := (O8.old _ (by omega)).trans (by simp)
      have P := Pl.first (V := n) (S := S) (T := T) A8 (lt_of A8.ha) (lt_of A8.hb) (.own [(Value.int .i64 ((n : Int))), (Value.int .i64 S), (Value.int .i64 T), ifA a])
      have hl8 := O8.len
      simp only [List.length_append, List.length_cons, List.length_nil] at hl8
      obtain ⟨g, eg⟩ := plays_loop hq.1 SV (by omega) ⟨by omega, by omega, by omega⟩ ((Value.bool false)) ops.length 0 _ _ _ _ _ (by omega) P (EI.none0 hq.1) (Nat.le_refl _) ⟨by simp; omega, fun x hx => by rw [List.getElem?_append_left (by omega), O8.old x (by omega), List.getElem?_append_left hx]⟩
      have r0 : rdN (h8 ++ [Blk.own [(Value.int .i64 ((n : Int))), (Value.int .i64 S), (Value.int .i64 T), ifA a]]) h.length 0 3 = some [(Value.int .i64 ((n : Int))), (Value.int .i64 S), (Value.int .i64 T)] := by
        rw [rdN_own (by rw [List.getElem?_append_left (by omega)]; exact b8) (by simp)]; rfl
      have st4 := fun (h' : Heap) (kk : Heap → Option (Value × Heap)) => st_N ⟨0, h.length⟩ 4 h8.length 0 [(Value.int .i64 ((n : Int))), (Value.int .i64 S), (Value.int .i64 T), ifA a] h' kk rfl rfl
      have hll : h.length ≤ h8.length := by omega
      refine ⟨g, ?_⟩
      simp only [go_sem, Nat.reduceAdd, Nat.reduceLeDiff, Nat.reduceMul, Int.reduceBEq, Int.reduceBNe, Int.reduceLT, Int.reduceLE, Int.reduceGT, rt, len, aBin_gtr, gt_iff_lt, h60, e8, st4, hll, r0, bPlay]
      exact eg
  · have hd : decide (Rt V S T ∧ V ≤ 8) = false := decide_eq_false hq
    rw [hd] at rt
    exact ⟨h, by simp only [go_sem, Nat.reduceAdd, Nat.reduceLeDiff, Nat.reduceMul, Int.reduceBEq, Int.reduceBNe, Int.reduceLT, Int.reduceLE, Int.reduceGT, rt, awake11]⟩
end Go.Det.E
