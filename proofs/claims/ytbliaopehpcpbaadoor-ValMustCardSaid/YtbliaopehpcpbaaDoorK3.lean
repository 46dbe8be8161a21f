/- The laws of values: what each begins with. -/
import Derived.Test.YtbliaopehpcpbaaDoorK2
import Derived.Test.YtbliaopehpcpbaaDoorE4
set_option autoImplicit false
set_option linter.unusedVariables false
set_option linter.unusedSimpArgs false
namespace Go.Det.E
open Go.Proofs Go.Det
attribute [local congr] bind_c cond_c
set_option maxRecDepth 100000 in
theorem awake03 (md : Md) (h : Heap) : C md 8 [] h = some ((Value.bool true), h) := free_ok 50 50 (by kernel_rfl) (by kernel_rfl) md h
theorem raw_of {h : Heap} {acs : List Value} (a : TyL h [.i .i64, .i .i64, .s, .i .i32] acs) : ∃ x : Raw, acs = encR x ∧ x.s.size ≤ reachBytes ∧ -9223372036854775808 ≤ x.n ∧ x.n ≤ 9223372036854775807 ∧ -2147483648 ≤ x.r ∧ x.r ≤ 2147483647 := by
  obtain ⟨v1, r, rfl, a1, b⟩ := l_cons a
  obtain ⟨v2, r, rfl, a2, b⟩ := l_cons b
  obtain ⟨v3, r, rfl, a3, b⟩ := l_cons b
  obtain ⟨v4, r, rfl, a4, b⟩ := l_cons b
  obtain rfl := l_nil b
  obtain ⟨x1, rfl, _⟩ := inI64 a1
  obtain ⟨x2, rfl, h2⟩ := inI64 a2
  obtain ⟨x3, rfl, h3⟩ := inS a3
  obtain ⟨x4, rfl, h4⟩ := inI a4
  exact ⟨⟨x1, x2, x3, x4⟩, rfl, h3, h2.1, h2.2, h4.1, h4.2⟩
/-- What parts may be. -/
def RawOk (x : Raw) : Prop := x.s.size ≤ reachBytes ∧ -9223372036854775808 ≤ x.n ∧ x.n ≤ 9223372036854775807 ∧ -2147483648 ≤ x.r ∧ x.r ≤ 2147483647
theorem arg_raw {h : Heap} {v : Value} (a : TyArg Tryd.prog h 23 v) : ∃ x : Raw, v = .agg #[(Value.int .i64 x.k), (Value.int .i64 x.n), .string x.s, .int .i32 x.r] ∧ RawOk x := by
  obtain ⟨acs, rfl, b⟩ := argN (l := [.i .i64, .i .i64, .s, .i .i32]) (by kernel_rfl) (by kernel_rfl) a
  obtain ⟨x, rfl, hx⟩ := raw_of b
  exact ⟨x, rfl, hx⟩
theorem raws_of {h : Heap} {ess : List (List Value)} (a : TyE h [.i .i64, .i .i64, .s, .i .i32] ess) : ∃ l : List Raw, ess = l.map encR ∧ ∀ x ∈ l, RawOk x := by
  induction ess with
  | nil => exact ⟨[], rfl, fun _ h => by simp at h⟩
  | cons es ess ih =>
    cases a with
    | cons _ _ _ b h2 =>
      obtain ⟨x, rfl, hx⟩ := raw_of b
      obtain ⟨l, e, hl⟩ := ih h2
      refine ⟨x :: l, by rw [e]; rfl, fun q hq => ?_⟩
      rcases List.mem_cons.1 hq with rfl | hq
      · exact hx
      · exact hl q hq
theorem arg_raws {h : Heap} {v : Value} (a : TyArg Tryd.prog h 24 v) : ∃ l : List Raw, Sl h 4 encR v l ∧ (∀ x ∈ l, RawOk x) ∧ l.length ≤ maxLen := by
  have a' : TyS h (.sl [.i .i64, .i .i64, .s, .i .i32]) v := arg1 (by kernel_rfl) (by kernel_rfl) a
  rcases inSl a' with rfl | ⟨b, ess, rfl, hb, hl, he⟩
  · exact ⟨[], Sl.nil _ encR_len, fun _ h => by simp at h, Nat.zero_le _⟩
  · obtain ⟨l, rfl, hr⟩ := raws_of he
    exact ⟨l, Sl.whole encR_len hb rfl (by simp), hr, by simpa using hl⟩
theorem aBin_neS {α : Type} {a b : ByteArray} {ty : TypeId} (k : Value → Option α) : aBin Tryd.prog .neq ty (.string a) (.string b) k = k (.bool !(a.data.toList == b.data.toList)) := by simp [aBin]
theorem uBo : Tryd.prog.underlying 4 = some .bool := by kernel_rfl
theorem aBin_neB {α : Type} {a b : Bool} (k : Value → Option α) : aBin Tryd.prog .neq 4 (.bool a) (.bool b) k = k (.bool !(a == b)) := by simp [aBin, aEq, uBo]
theorem aBin_eqB {α : Type} {a b : Bool} (k : Value → Option α) : aBin Tryd.prog .eql 4 (.bool a) (.bool b) k = k (.bool (a == b)) := by simp [aBin, aEq, uBo]
theorem SlO.below {h : Heap} {n0 sz : Nat} {ε : Type} {enc : ε → List Value} {v : Value} {xs : List ε} (S : SlO h n0 sz enc v xs) : below2 h.length v = true := by
  rcases S.sl.is with ⟨rfl, _⟩ | ⟨b, o, k, rfl, hb, _⟩
  · rfl
  · show Nat.blt b h.length = true
    rw [Nat.blt_eq]; exact lt_of hb
theorem kinds_law : Law Tryd.prog cfg 3 [23, 24] := by
  intro h avs ha
  obtain ⟨v, r, rfl, a0, ha⟩ := args_cons ha
  obtain ⟨w, r, rfl, a1, ha⟩ := args_cons ha
  obtain rfl := args_nil ha
  obtain ⟨x, rfl, hx⟩ := arg_raw a0
  obtain ⟨l, SV, hr, hm⟩ := arg_raws a1
  have len := fun {α : Type} (k : Value → Option α) => SV.len k
  rw [call_eq, F3_eq]
  unfold F3
  by_cases h60 : (60 : Int) < l.length
  · exact ⟨h, by simp only [go_sem, Nat.reduceAdd, Nat.reduceLeDiff, Nat.reduceMul, Int.reduceBEq, Int.reduceBNe, Int.reduceLT, Int.reduceLE, Int.reduceGT, len, gt_iff_lt, h60, awake03]⟩
  obtain ⟨h1, e1⟩ : ∃ h1, h1 = h ++ [Blk.own [(Value.int .i64 x.k), (Value.int .i64 x.n), .string x.s, .int .i32 x.r]] := ⟨_, rfl⟩
  have b1 : h1[h.length]? = some (.own (encR x)) := by rw [e1]; simp
  have l1 : h1.length = h.length + 1 := by rw [e1]; simp
  have q4 : rdN h1 h.length 0 4 = some (encR x) := by rw [rdN_own b1 (by simp)]; rfl
  have q1 : rd h1 h.length 1 = some ((Value.int .i64 x.n)) := by rw [rd_own b1]; rfl
  have q2 : rd h1 h.length 2 = some (.string x.s) := by rw [rd_own b1]; rfl
  have q3 : rd h1 h.length 3 = some (.int .i32 x.r) := by rw [rd_own b1]; rfl
  have S1 : Sl h1 4 encR w l := by rw [e1]; exact SV.app
  obtain ⟨v2, h2, e2, S2, O2⟩ := list_s ⟨0, h.length⟩ (Nat.zero_le _) (by show h.length ≤ h1.length; omega) S1 (by omega)
  have l2 := O2.len
  obtain ⟨v3, h3, e3, S3, O3⟩ := list_s ⟨0, h.length⟩ (h := h2) (Nat.zero_le _) (by show h.length ≤ h2.length; omega) (S1.heap fun hl => O2.old _ hl) (by omega)
  have it := items_s (lk_l v2) (SlO.below S2) ⟨0, h.length⟩
  have ki := fun (m : Md) (g : Heap) => kind_s (lk_l v3) m g
  have len2 := fun {α : Type} (k : Value → Option α) => S2.sl.len k
  have mk := fun (m : Md) (g : Heap) => made_s m g x
  have rk := fun (m : Md) (g : Heap) => rkind_s m g x
  have gt : ¬ (l.length : Int) > 60 := by omega
  refine ⟨h3.take h.length, ?_⟩
  simp only [go_sem, Nat.reduceAdd, Nat.reduceLeDiff, Nat.reduceMul, Int.reduceBEq, Int.reduceBNe, Int.reduceLT, Int.reduceLE, Int.reduceGT, len, gt, ← e1]
  simp only [encR] at q4
  rcases kc x with ⟨g1, e⟩ | ⟨g1, e⟩ | ⟨g1, e⟩ | ⟨g1, e⟩ | ⟨g1, e⟩
  · have L := lk_i x.n
    have kx : kd x = 1 := by unfold kd; rw [if_pos (by omega), g1]
    have n1 := fun (m : Md) (g : Heap) => num_s L m g
    have n2 := fun (m : Md) (g : Heap) => str_s L m g
    have n3 := fun (m : Md) (g : Heap) => rune_s L m g
    have n4 := fun (m : Md) (g : Heap) => items_s (h := g) L rfl m
    have n5 := fun (m : Md) (g : Heap) => kind_s L m g
    rw [e] at mk
    simp only [go_sem, Nat.reduceAdd, Nat.reduceLeDiff, Nat.reduceMul, Int.reduceBEq, Int.reduceBNe, Int.reduceLT, Int.reduceLE, Int.reduceGT, q4, mk, n1, n2, n3, n4, n5, rk, kx, aBin_eql, aBin_neB, aBin_neq, aBin_neS, q1, q2, q3, bne_self_eq_false, aUn_not, e2, it, e3, ki, len2, len, awake03]
  · have L := lk_s x.s
    have kx : kd x = 2 := by unfold kd; rw [if_pos (by omega), g1]
    have n1 := fun (m : Md) (g : Heap) => num_s L m g
    have n2 := fun (m : Md) (g : Heap) => str_s L m g
    have n3 := fun (m : Md) (g : Heap) => rune_s L m g
    have n4 := fun (m : Md) (g : Heap) => items_s (h := g) L rfl m
    have n5 := fun (m : Md) (g : Heap) => kind_s L m g
    rw [e] at mk
    simp only [go_sem, Nat.reduceAdd, Nat.reduceLeDiff, Nat.reduceMul, Int.reduceBEq, Int.reduceBNe, Int.reduceLT, Int.reduceLE, Int.reduceGT, q4, mk, n1, n2, n3, n4, n5, rk, kx, aBin_eql, aBin_neB, aBin_neq, aBin_neS, q1, q2, q3, bne_self_eq_false, aUn_not, e2, it, e3, ki, len2, len, awake03]
  · have L := lk_r x.r
    have kx : kd x = 3 := by unfold kd; rw [if_pos (by omega), g1]
    have n1 := fun (m : Md) (g : Heap) => num_s L m g
    have n2 := fun (m : Md) (g : Heap) => str_s L m g
    have n3 := fun (m : Md) (g : Heap) => rune_s L m g
    have n4 := fun (m : Md) (g : Heap) => items_s (h := g) L rfl m
    have n5 := fun (m : Md) (g : Heap) => kind_s L m g
    rw [e] at mk
    simp only [go_sem, Nat.reduceAdd, Nat.reduceLeDiff, Nat.reduceMul, Int.reduceBEq, Int.reduceBNe, Int.reduceLT, Int.reduceLE, Int.reduceGT, q4, mk, n1, n2, n3, n4, n5, rk, kx, aBin_eql, aBin_neB, aBin_neq, aBin_neS, q1, q2, q3, bne_self_eq_false, aUn_not, e2, it, e3, ki, len2, len, awake03]
  · have L := lk_f (.float .f64 (FloatKind.f64.nearest x.n))
    have kx : kd x = 0 := by unfold kd; rw [if_neg (by omega)]
    have n1 := fun (m : Md) (g : Heap) => num_s L m g
    have n2 := fun (m : Md) (g : Heap) => str_s L m g
    have n3 := fun (m : Md) (g : Heap) => rune_s L m g
    have n4 := fun (m : Md) (g : Heap) => items_s (h := g) L rfl m
    have n5 := fun (m : Md) (g : Heap) => kind_s L m g
    rw [e] at mk
    simp only [go_sem, Nat.reduceAdd, Nat.reduceLeDiff, Nat.reduceMul, Int.reduceBEq, Int.reduceBNe, Int.reduceLT, Int.reduceLE, Int.reduceGT, q4, mk, n1, n2, n3, n4, n5, rk, kx, aBin_eql, aBin_neB, aBin_neq, aBin_neS, q1, q2, q3, bne_self_eq_false, aUn_not, e2, it, e3, ki, len2, len, awake03]
  · have L := lk_z
    have kx : kd x = 0 := by unfold kd; rw [if_neg (by omega)]
    have n1 := fun (m : Md) (g : Heap) => num_s L m g
    have n2 := fun (m : Md) (g : Heap) => str_s L m g
    have n3 := fun (m : Md) (g : Heap) => rune_s L m g
    have n4 := fun (m : Md) (g : Heap) => items_s (h := g) L rfl m
    have n5 := fun (m : Md) (g : Heap) => kind_s L m g
    rw [e] at mk
    simp only [go_sem, Nat.reduceAdd, Nat.reduceLeDiff, Nat.reduceMul, Int.reduceBEq, Int.reduceBNe, Int.reduceLT, Int.reduceLE, Int.reduceGT, q4, mk, n1, n2, n3, n4, n5, rk, kx, aBin_eql, aBin_neB, aBin_neq, aBin_neS, q1, q2, q3, bne_self_eq_false, aUn_not, e2, it, e3, ki, len2, len, awake03]
end Go.Det.E
