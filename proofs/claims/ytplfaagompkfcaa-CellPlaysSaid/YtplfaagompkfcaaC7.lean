/- The acts of the laws of the cells as a list, and that an access changes its own cell alone. -/
import Derived.Test.YtplfaagompkfcaaC5
import Derived.Test.YtplfaagompkfcaaC6
import Derived.Test.YtplfaagompkfcaaDetY
import Derived.Test.YtplfaagompkfcaaDetW
set_option autoImplicit false
set_option linter.unusedVariables false
set_option linter.unusedSimpArgs false
namespace Go.Det.Cell
open Go.Proofs Go.Det
attribute [local congr] bind_c cond_c
/-- An act on the cells. -/
structure Act where
  k : Int
  i : Int
  was : Int
  v : Int
abbrev encA (o : Act) : List Value := [(Value.int .i64 o.k), (Value.int .i64 o.i), (Value.int .u64 o.was), (Value.int .u64 o.v)]
theorem encA_len (o : Act) : (encA o).length = 4 := rfl
theorem acts_of {h : Heap} {ess : List (List Value)} (a : TyE h [.i .i64, .i .i64, .i .u64, .i .u64] ess) : ∃ ops : List Act, ess = ops.map encA := by
  induction ess with
  | nil => exact ⟨[], rfl⟩
  | cons es ess ih =>
    cases a with
    | cons _ _ _ b h2 =>
      obtain ⟨v1, r, rfl, a1, b⟩ := l_cons b
      obtain ⟨v2, r, rfl, a2, b⟩ := l_cons b
      obtain ⟨v3, r, rfl, a3, b⟩ := l_cons b
      obtain ⟨v4, r, rfl, a4, b⟩ := l_cons b
      obtain rfl := l_nil b
      obtain ⟨x1, rfl, _⟩ := inI64 a1
      obtain ⟨x2, rfl, _⟩ := inI64 a2
      obtain ⟨x3, rfl, _⟩ := inU64 a3
      obtain ⟨x4, rfl, _⟩ := inU64 a4
      obtain ⟨ops, e⟩ := ih h2
      exact ⟨⟨x1, x2, x3, x4⟩ :: ops, by rw [e]; rfl⟩
theorem arg_acts {h : Heap} {v : Value} (a : TyArg Try.prog h 52 v) : ∃ ops : List Act, Sl h 4 encA v ops ∧ ops.length ≤ maxLen := by
  have a' : TyS h (.sl [.i .i64, .i .i64, .i .u64, .i .u64]) v := arg1 (by kernel_rfl) (by kernel_rfl) a
  rcases inSl a' with rfl | ⟨b, ess, rfl, hb, hl, he⟩
  · exact ⟨[], Sl.nil _ encA_len, Nat.zero_le _⟩
  · obtain ⟨ops, rfl⟩ := acts_of he
    exact ⟨ops, Sl.whole encA_len hb rfl (by simp), by simpa using hl⟩
theorem Grown.old' {n : Nat} {h h' : Heap} (g : Grown h h') : ∀ x, x < h.length → h'[x]? = h[x]? := g.old
theorem Grown.trans {h h' h'' : Heap} (x : Grown h h') (y : Grown h' h'') : Grown h h'' := ⟨Nat.le_trans x.len y.len, fun z hz => (y.old z (Nat.lt_of_lt_of_le hz x.len)).trans (x.old z hz)⟩
theorem Grown.four {h h' h'' : Heap} {a b a' b' : Nat} (g : Grown h h') (f : Four a b a' b' h' h'') (ha : h.length ≤ a) (hb : h.length ≤ b) (ha' : h.length ≤ a') (hb' : h.length ≤ b') : Grown h h'' :=
  ⟨by rw [f.1]; exact g.len, fun x hx => by rw [f.2 x (by omega) (by omega) (by omega) (by omega)]; exact g.old x hx⟩
variable {h : Heap} {v : Value} {ops : List Act} {a b n : Nat}
theorem apart_loop (SV : Sl h 4 encA v ops) (hlen : ops.length ≤ 60) (hn40 : n ≤ 40) (la : h.length ≤ a) (lb : h.length ≤ b) (s4 : Value) : ∀ (m k : Nat) (hh : Heap) (l c : List Int), k + m = ops.length → Ar hh a b l c → l.length = n → Grown h hh →
    J11_0 C ⟨h.length, h.length⟩ h ((Value.int .i64 ((n : Int)))) s4 ((Value.pointer (some ⟨a, 0, none⟩))) v ((Value.int .i64 ((ops.length : Int)))) ((Value.int .i64 ((k : Int)))) hh = some ((Value.bool true), h) := by
  intro m
  induction m with
  | zero =>
    intro k hh l c hk A hl G
    obtain rfl : k = ops.length := by omega
    rw [J11_0_step]
    unfold Jr11_0
    simp only [go_sem, Nat.reduceAdd, Nat.reduceLeDiff, Nat.reduceMul, Int.reduceBEq, Int.reduceBNe, Int.reduceLT, Int.reduceLE, Int.reduceGT, aBin_lss, Int.lt_irrefl, Jk11_0, awake_s]
  | succ m ih =>
    intro k hh l c hk A hl G
    have hlt : (k : Int) < (ops.length : Int) := by omega
    obtain ⟨x, hx⟩ : ∃ x, ops[k]? = some x := ⟨ops[k]'(by omega), List.getElem?_eq_getElem (by omega)⟩
    have S0 : Sl hh 4 encA v ops := SV.heap fun hl => G.old _ hl
    have ix := fun {α : Type} (kk : Value → Option α) => S0.ix (i := (k : Int)) (by omega) hlt kk
    have el := S0.elem hx
    have gl := G.len
    have A6 := A.grown (Grown.app hh [.own (encA x)])
    have la2 := lt_of A.ha
    have lb2 := lt_of A.hb
    obtain ⟨h8, a', b', e8, B8, g8, ga, gb⟩ := copy_e (md := ⟨h.length, h.length⟩) A6 (by simp; omega) (by omega)
    simp only [List.length_append, List.length_cons, List.length_nil] at ga gb
    have A8 := A6.grown g8
    have hb8 : h8[hh.length]? = some (.own (encA x)) := (g8.old _ (by simp)).trans (by simp)
    have r0 : rd h8 hh.length 0 = some ((Value.int .i64 x.k)) := by rw [rd_own hb8]; rfl
    have r1 : rd h8 hh.length 1 = some ((Value.int .i64 x.i)) := by rw [rd_own hb8]; rfl
    have r2 : rd h8 hh.length 2 = some ((Value.int .u64 x.was)) := by rw [rd_own hb8]; rfl
    have r3 : rd h8 hh.length 3 = some ((Value.int .u64 x.v)) := by rw [rd_own hb8]; rfl
    have st4 := fun (h' : Heap) (kk : Heap → Option (((Value × Value × Value × Value × Value × Value) × Heap) ⊕ (Exit × (Value × Value × Value × Value × Value × Value) × Heap))) => st_N ⟨h.length, h.length⟩ 4 hh.length 0 (encA x) h' kk rfl rfl
    have w : IntKind.wrap .i64 ((k : Int) + 1) = ((k + 1 : Nat) : Int) := by rw [wi (by omega) (by omega)]; rfl
    have fin : ∀ (h9 : Heap) (l' c' : List Int), Ar h9 a b l' c' → But x.i l l' → (x.k = 1 → l' = l) → Only a b h8 h9 →
        ∃ h10 c2, J11_0b1 C ⟨h.length, h.length⟩ ((Value.int .i64 ((n : Int)))) s4 ((Value.pointer (some ⟨a, 0, none⟩))) ((Value.pointer (some ⟨hh.length, 0, none⟩))) ((Value.pointer (some ⟨a', 0, none⟩))) v ((Value.int .i64 ((ops.length : Int)))) ((Value.int .i64 ((k : Int)))) ((Value.int .i64 ((n : Int)))) ((Value.int .i64 0)) h9 =
          some (.inl (((Value.int .i64 ((n : Int))), s4, (Value.pointer (some ⟨a, 0, none⟩)), v, (Value.int .i64 ((ops.length : Int))), (Value.int .i64 (((k + 1 : Nat) : Int)))), h10)) ∧ Ar h10 a b l' c2 ∧ Grown h h10 := by
      intro h9 l' c' A9 hbut h1 o9
      have B9 := B8.only o9 (by omega) (by omega) (by omega) (by omega)
      obtain ⟨h10, c2, e10, A10, f10⟩ := inner (md := ⟨h.length, h.length⟩) (a := a) (b := b) (a' := a') (b' := b') (x := hh.length) (n := n) (l := l) (l' := l') (kd := x.k) (i := x.i) (was := x.was) (v := x.v) (kk := (k : Int)) (s38 := v) (s39 := (Value.int .i64 ((ops.length : Int)))) (s4 := s4)
        hl hn40 hbut h1 la (by show h.length ≤ a'; omega) (by omega) (by omega) (by omega) (by omega) (by omega) (by omega) (by omega) (by omega) n 0 c' c h9 (by omega) A9 B9 (by rw [o9.oth _ (by omega) (by omega)]; exact hb8)
      rw [w] at e10
      refine ⟨h10, c2, e10, A10, ?_⟩
      exact (((G.trans (Grown.app _ _)).trans g8).only o9 la lb).four f10 la lb (by omega) (by omega)
    have md0 : (⟨h.length, h.length⟩ : Md) = ⟨h.length, h.length⟩ := rfl
    by_cases k1 : x.k = 1
    · have q1 : (x.k == 1) = true := by simp [k1]
      obtain ⟨h9, c9, y, e, e9, A9, o9⟩ := load_a (md := ⟨h.length, h.length⟩) A8 la x.i
      obtain ⟨h10, c2, e10, A10, G10⟩ := fin h9 l c9 A9 (But.refl _ _) (fun _ => rfl) o9
      rw [J11_0_step]
      unfold Jr11_0
      simp only [go_sem, Nat.reduceAdd, Nat.reduceLeDiff, Nat.reduceMul, Int.reduceBEq, Int.reduceBNe, Int.reduceLT, Int.reduceLE, Int.reduceGT, aBin_lss, hlt, ix, el, st4, gl, e8, aBin_eqlP u53, r0, r1, r2, r3, q1, e9, J11_0b0, e10]
      exact ih (k + 1) h10 l c2 (by omega) A10 hl G10
    · have q1 : (x.k == 1) = false := by simp [k1]
      by_cases k2 : x.k = 2
      · have q2 : (x.k == 2) = true := by simp [k2]
        obtain ⟨h9, l9, c9, e, e9, A9, b9, o9⟩ := store_a (md := ⟨h.length, h.length⟩) A8 la lb x.i x.v
        obtain ⟨h10, c2, e10, A10, G10⟩ := fin h9 l9 c9 A9 b9 (fun h => absurd h k1) o9
        rw [J11_0_step]
        unfold Jr11_0
        simp only [go_sem, Nat.reduceAdd, Nat.reduceLeDiff, Nat.reduceMul, Int.reduceBEq, Int.reduceBNe, Int.reduceLT, Int.reduceLE, Int.reduceGT, aBin_lss, hlt, ix, el, st4, gl, e8, aBin_eqlP u53, r0, r1, r2, r3, q1, q2, e9, J11_0b0, e10]
        exact ih (k + 1) h10 l9 c2 (by omega) A10 (b9.1.trans hl) G10
      · have q2 : (x.k == 2) = false := by simp [k2]
        by_cases k3 : x.k = 3
        · have q3 : (x.k == 3) = true := by simp [k3]
          obtain ⟨h9, l9, c9, y, e, e9, A9, b9, o9⟩ := swap_a (md := ⟨h.length, h.length⟩) A8 la lb x.i x.was x.v
          obtain ⟨h10, c2, e10, A10, G10⟩ := fin h9 l9 c9 A9 b9 (fun h => absurd h k1) o9
          rw [J11_0_step]
          unfold Jr11_0
          simp only [go_sem, Nat.reduceAdd, Nat.reduceLeDiff, Nat.reduceMul, Int.reduceBEq, Int.reduceBNe, Int.reduceLT, Int.reduceLE, Int.reduceGT, aBin_lss, hlt, ix, el, st4, gl, e8, aBin_eqlP u53, r0, r1, r2, r3, q1, q2, q3, e9, J11_0b0, e10]
          exact ih (k + 1) h10 l9 c2 (by omega) A10 (b9.1.trans hl) G10
        · have q3 : (x.k == 3) = false := by simp [k3]
          obtain ⟨h9, l9, c9, y, e, e9, A9, b9, o9⟩ := add_a (md := ⟨h.length, h.length⟩) A8 la lb x.i x.v
          obtain ⟨h10, c2, e10, A10, G10⟩ := fin h9 l9 c9 A9 b9 (fun h => absurd h k1) o9
          rw [J11_0_step]
          unfold Jr11_0
          simp only [go_sem, Nat.reduceAdd, Nat.reduceLeDiff, Nat.reduceMul, Int.reduceBEq, Int.reduceBNe, Int.reduceLT, Int.reduceLE, Int.reduceGT, aBin_lss, hlt, ix, el, st4, gl, e8, aBin_eqlP u53, r0, r1, r2, r3, q1, q2, q3, e9, J11_0b0, e10]
          exact ih (k + 1) h10 l9 c2 (by omega) A10 (b9.1.trans hl) G10
theorem apart_law : Law Try.prog cfg 11 [3, 52] := by
  intro h avs ha
  obtain ⟨x, r, rfl, a0, ha⟩ := args_cons ha
  obtain ⟨v, r, rfl, a1, ha⟩ := args_cons ha
  obtain rfl := args_nil ha
  obtain ⟨z, rfl, z0, z1⟩ := inI64 (arg1 (P := Try.prog) (by kernel_rfl) (by kernel_rfl) a0)
  obtain ⟨ops, SV, hm⟩ := arg_acts a1
  have len := fun {α : Type} (k : Value → Option α) => SV.len k
  refine ⟨h, ?_⟩
  rw [call_eq, F11_eq]
  unfold F11
  by_cases h60 : (60 : Int) < ops.length
  · simp only [go_sem, Nat.reduceAdd, Nat.reduceLeDiff, Nat.reduceMul, Int.reduceBEq, Int.reduceBNe, Int.reduceLT, Int.reduceLE, Int.reduceGT, len, gt_iff_lt, h60, awake_s]
  · by_cases hz : z < 0
    · simp only [go_sem, Nat.reduceAdd, Nat.reduceLeDiff, Nat.reduceMul, Int.reduceBEq, Int.reduceBNe, Int.reduceLT, Int.reduceLE, Int.reduceGT, len, gt_iff_lt, h60, aBin_lss, hz, awake_s]
    · by_cases hz2 : 40 < z
      · simp only [go_sem, Nat.reduceAdd, Nat.reduceLeDiff, Nat.reduceMul, Int.reduceBEq, Int.reduceBNe, Int.reduceLT, Int.reduceLE, Int.reduceGT, len, gt_iff_lt, h60, aBin_lss, aBin_gtr, hz, hz2, awake_s]
      · obtain ⟨n, rfl⟩ : ∃ n : Nat, z = n := ⟨z.toNat, by omega⟩
        obtain ⟨h1, a, b, e1, A1, g1, la, lb⟩ := new_e ⟨h.length, h.length⟩ h (n := (n : Int)) (by omega) (by omega)
        simp only [go_sem, Nat.reduceAdd, Nat.reduceLeDiff, Nat.reduceMul, Int.reduceBEq, Int.reduceBNe, Int.reduceLT, Int.reduceLE, Int.reduceGT, len, gt_iff_lt, h60, aBin_lss, aBin_gtr, hz, hz2, e1, aBin_eqlP u53, bne_self_eq_false]
        exact apart_loop SV (by omega) (by omega) la lb ((Value.bool false)) ops.length 0 h1 _ _ (by omega) A1 (by simp) g1
end Go.Det.Cell
