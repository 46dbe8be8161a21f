/- A copy and its original are independent. -/
import Derived.Test.YtplfaagompkfcaaC7
set_option autoImplicit false
set_option linter.unusedVariables false
set_option linter.unusedSimpArgs false
namespace Go.Det.Cell
open Go.Proofs Go.Det
attribute [local congr] bind_c cond_c
/-- What an act makes of cells and counts. -/
def stepA (x : Act) (s : List Int × List Int) : List Int × List Int :=
  if 0 ≤ x.i ∧ x.i < s.1.length then
    if x.k = 2 then (s.1.set x.i.toNat x.v, up s.2 1)
    else if x.k = 3 then (bif s.1.getD x.i.toNat 0 == x.was then s.1.set x.i.toNat x.v else s.1, bif s.1.getD x.i.toNat 0 == x.was then up s.2 2 else up s.2 3)
    else if x.k = 4 then (s.1.set x.i.toNat (IntKind.wrap .u64 (s.1.getD x.i.toNat 0 + x.v)), up s.2 4)
    else s
  else s
theorem stepA_len (x : Act) (s : List Int × List Int) : (stepA x s).1.length = s.1.length := by
  unfold stepA
  split
  · split
    · simp
    · split
      · cases s.1.getD x.i.toNat 0 == x.was <;> simp
      · split <;> simp
  · rfl
def runA (xs : List Act) (s : List Int × List Int) : List Int × List Int := xs.foldl (fun s x => stepA x s) s
theorem runA_len (xs : List Act) : ∀ s : List Int × List Int, (runA xs s).1.length = s.1.length := by
  induction xs with
  | nil => intro s; rfl
  | cons x xs ih => intro s; exact (ih (stepA x s)).trans (stepA_len x s)
/-- Of old blocks two alone may be others; there may be new ones. -/
structure OnlyG (a b : Nat) (h h' : Heap) : Prop where
  len : h.length ≤ h'.length
  oth : ∀ x, x < h.length → x ≠ a → x ≠ b → h'[x]? = h[x]?
theorem OnlyG.app {a b : Nat} {h h' : Heap} (o : OnlyG a b h h') (bs : Heap) : OnlyG a b h (h' ++ bs) :=
  ⟨by simp; have := o.len; omega, fun x h1 h2 h3 => by rw [List.getElem?_append_left (by have := o.len; omega)]; exact o.oth x h1 h2 h3⟩
theorem OnlyG.only {a b : Nat} {h h' h'' : Heap} (o : OnlyG a b h h') (p : Only a b h' h'') : OnlyG a b h h'' :=
  ⟨by rw [p.len]; exact o.len, fun x h1 h2 h3 => (p.oth x h2 h3).trans (o.oth x h1 h2 h3)⟩
theorem OnlyG.take {a b : Nat} {h h' : Heap} (o : OnlyG a b h h') : Only a b h (h'.take h.length) := by
  refine ⟨by rw [List.length_take]; exact Nat.min_eq_left o.len, fun x h1 h2 => ?_⟩
  rw [List.getElem?_take]
  split
  · rename_i hx; exact o.oth x hx h1 h2
  · rw [List.getElem?_eq_none (by omega)]
theorem Ar.takeG {h : Heap} {a b n : Nat} {l c : List Int} (A : Ar h a b l c) (ha : a < n) (hb : b < n) : Ar (h.take n) a b l c :=
  ⟨by rw [List.getElem?_take, if_pos ha]; exact A.ha, by rw [List.getElem?_take, if_pos hb]; exact A.hb, A.hc, A.ne⟩
variable {h h0 : Heap} {v : Value} {ops : List Act} {a b n : Nat}
theorem do_loop (SV : Sl h 4 encA v ops) (hlen : ops.length ≤ 60) (la : h.length ≤ a) (lb : h.length ≤ b) (la0 : a < h0.length) (lb0 : b < h0.length) (hh0 : h.length ≤ h0.length) : ∀ (m k : Nat) (hh : Heap) (s : List Int × List Int), k + m = ops.length → Ar hh a b s.1 s.2 → Grown h hh → OnlyG a b h0 hh →
    ∃ h', J41_0 C ⟨h.length, h0.length⟩ h0 ((Value.pointer (some ⟨a, 0, none⟩))) v ((Value.int .i64 ((ops.length : Int)))) ((Value.int .i64 ((k : Int)))) hh = some ((Value.tuple #[]), h') ∧ Ar h' a b (runA (ops.drop k) s).1 (runA (ops.drop k) s).2 ∧ Only a b h0 h' := by
  intro m
  induction m with
  | zero =>
    intro k hh s hk A G O
    obtain rfl : k = ops.length := by omega
    refine ⟨hh.take h0.length, ?_, ?_, O.take⟩
    · rw [J41_0_step]
      unfold Jr41_0
      simp only [go_sem, Nat.reduceAdd, Nat.reduceLeDiff, Nat.reduceMul, Int.reduceBEq, Int.reduceBNe, Int.reduceLT, Int.reduceLE, Int.reduceGT, aBin_lss, Int.lt_irrefl, Jk41_0]
    · rw [List.drop_length]
      exact A.takeG la0 lb0
  | succ m ih =>
    intro k hh s hk A G O
    have hlt : (k : Int) < (ops.length : Int) := by omega
    obtain ⟨x, hx⟩ : ∃ x, ops[k]? = some x := ⟨ops[k]'(by omega), List.getElem?_eq_getElem (by omega)⟩
    have S0 : Sl hh 4 encA v ops := SV.heap fun hl => G.old _ hl
    have ix := fun {α : Type} (kk : Value → Option α) => S0.ix (i := (k : Int)) (by omega) hlt kk
    have el := S0.elem hx
    have gl := G.len
    have ol := O.len
    have A6 := A.grown (Grown.app hh [.own (encA x)])
    have G6 := G.trans (Grown.app hh [.own (encA x)])
    have O6 := O.app [.own (encA x)]
    have st4 := fun (h' : Heap) (kk : Heap → Option (((Value × Value × Value × Value) × Heap) ⊕ (Exit × (Value × Value × Value × Value) × Heap))) => st_N ⟨h.length, h0.length⟩ 4 hh.length 0 (encA x) h' kk rfl rfl
    have w : IntKind.wrap .i64 ((k : Int) + 1) = ((k + 1 : Nat) : Int) := by rw [wi (by omega) (by omega)]; rfl
    have dr : ops.drop k = x :: ops.drop (k + 1) := by
      obtain ⟨hk', rfl⟩ := List.getElem?_eq_some_iff.1 hx
      exact List.drop_eq_getElem_cons hk'
    rw [dr]
    have key : ∀ h9, Jr41_0 C ⟨h.length, h0.length⟩ ((Value.pointer (some ⟨a, 0, none⟩))) v ((Value.int .i64 ((ops.length : Int)))) ((Value.int .i64 ((k : Int)))) hh = some (.inl (((Value.pointer (some ⟨a, 0, none⟩)), v, (Value.int .i64 ((ops.length : Int))), (Value.int .i64 (((k + 1 : Nat) : Int)))), h9)) → Ar h9 a b (stepA x s).1 (stepA x s).2 → Only a b (hh ++ [.own (encA x)]) h9 →
        ∃ h', J41_0 C ⟨h.length, h0.length⟩ h0 ((Value.pointer (some ⟨a, 0, none⟩))) v ((Value.int .i64 ((ops.length : Int)))) ((Value.int .i64 ((k : Int)))) hh = some ((Value.tuple #[]), h') ∧ Ar h' a b (runA (x :: ops.drop (k + 1)) s).1 (runA (x :: ops.drop (k + 1)) s).2 ∧ Only a b h0 h' := by
      intro h9 e9 A9 o9
      obtain ⟨h', e', A', o'⟩ := ih (k + 1) h9 (stepA x s) (by omega) A9 (G6.only o9 la lb) (O6.only o9)
      refine ⟨h', ?_, A', o'⟩
      rw [J41_0_step, e9]
      exact e'
    have hin : x.i < 0 ∨ (s.1.length : Int) ≤ x.i ∨ (0 ≤ x.i ∧ x.i < s.1.length) := by omega
    by_cases k2 : x.k = 2
    · have q2 : (x.k == 2) = true := by simp [k2]
      by_cases hi : 0 ≤ x.i ∧ x.i < s.1.length
      · obtain ⟨h9, e9, A9, o9⟩ := store_e (md := ⟨h.length, h0.length⟩) A6 la lb hi.1 hi.2 x.v
        refine key h9 ?_ (by unfold stepA; rw [if_pos hi, if_pos k2]; exact A9) o9
        unfold Jr41_0
        simp only [go_sem, Nat.reduceAdd, Nat.reduceLeDiff, Nat.reduceMul, Int.reduceBEq, Int.reduceBNe, Int.reduceLT, Int.reduceLE, Int.reduceGT, aBin_lss, hlt, ix, el, st4, gl, ol, q2, e9, aBin_add, w]
      · have e9 := store_n (md := ⟨h.length, h0.length⟩) A6 (i := x.i) (by omega) x.v
        refine key _ ?_ (by unfold stepA; rw [if_neg hi]; exact A6) Only.refl
        unfold Jr41_0
        simp only [go_sem, Nat.reduceAdd, Nat.reduceLeDiff, Nat.reduceMul, Int.reduceBEq, Int.reduceBNe, Int.reduceLT, Int.reduceLE, Int.reduceGT, aBin_lss, hlt, ix, el, st4, gl, ol, q2, e9, aBin_add, w]
    · have q2 : (x.k == 2) = false := by simp [k2]
      by_cases k3 : x.k = 3
      · have q3 : (x.k == 3) = true := by simp [k3]
        by_cases hi : 0 ≤ x.i ∧ x.i < s.1.length
        · obtain ⟨h9, e9, A9, o9⟩ := swap_e (md := ⟨h.length, h0.length⟩) A6 la lb hi.1 hi.2 x.was x.v
          refine key h9 ?_ (by unfold stepA; rw [if_pos hi, if_neg k2, if_pos k3]; exact A9) o9
          unfold Jr41_0
          simp only [go_sem, Nat.reduceAdd, Nat.reduceLeDiff, Nat.reduceMul, Int.reduceBEq, Int.reduceBNe, Int.reduceLT, Int.reduceLE, Int.reduceGT, aBin_lss, hlt, ix, el, st4, gl, ol, q2, q3, e9, aBin_add, w]
        · have e9 := swap_n (md := ⟨h.length, h0.length⟩) A6 (i := x.i) (by omega) x.was x.v
          refine key _ ?_ (by unfold stepA; rw [if_neg hi]; exact A6) Only.refl
          unfold Jr41_0
          simp only [go_sem, Nat.reduceAdd, Nat.reduceLeDiff, Nat.reduceMul, Int.reduceBEq, Int.reduceBNe, Int.reduceLT, Int.reduceLE, Int.reduceGT, aBin_lss, hlt, ix, el, st4, gl, ol, q2, q3, e9, aBin_add, w]
      · have q3 : (x.k == 3) = false := by simp [k3]
        by_cases k4 : x.k = 4
        · have q4 : (x.k == 4) = true := by simp [k4]
          by_cases hi : 0 ≤ x.i ∧ x.i < s.1.length
          · obtain ⟨h9, e9, A9, o9⟩ := add_e (md := ⟨h.length, h0.length⟩) A6 la lb hi.1 hi.2 x.v
            refine key h9 ?_ (by unfold stepA; rw [if_pos hi, if_neg k2, if_neg k3, if_pos k4]; exact A9) o9
            unfold Jr41_0
            simp only [go_sem, Nat.reduceAdd, Nat.reduceLeDiff, Nat.reduceMul, Int.reduceBEq, Int.reduceBNe, Int.reduceLT, Int.reduceLE, Int.reduceGT, aBin_lss, hlt, ix, el, st4, gl, ol, q2, q3, q4, e9, aBin_add, w]
          · have e9 := add_n (md := ⟨h.length, h0.length⟩) A6 (i := x.i) (by omega) x.v
            refine key _ ?_ (by unfold stepA; rw [if_neg hi]; exact A6) Only.refl
            unfold Jr41_0
            simp only [go_sem, Nat.reduceAdd, Nat.reduceLeDiff, Nat.reduceMul, Int.reduceBEq, Int.reduceBNe, Int.reduceLT, Int.reduceLE, Int.reduceGT, aBin_lss, hlt, ix, el, st4, gl, ol, q2, q3, q4, e9, aBin_add, w]
        · have q4 : (x.k == 4) = false := by simp [k4]
          refine key _ ?_ (by
            have e : stepA x s = s := by
              unfold stepA; rw [if_neg k2, if_neg k3, if_neg k4]; simp
            rw [e]; exact A6) Only.refl
          unfold Jr41_0
          simp only [go_sem, Nat.reduceAdd, Nat.reduceLeDiff, Nat.reduceMul, Int.reduceBEq, Int.reduceBNe, Int.reduceLT, Int.reduceLE, Int.reduceGT, aBin_lss, hlt, ix, el, st4, gl, ol, q2, q3, q4, aBin_add, w]
theorem do_e (SV : Sl h 4 encA v ops) (hlen : ops.length ≤ 60) (la : h.length ≤ a) (lb : h.length ≤ b) (s : List Int × List Int) (A : Ar h0 a b s.1 s.2) (G : Grown h h0) :
    ∃ h', C ⟨h.length, h.length⟩ 41 [(Value.pointer (some ⟨a, 0, none⟩)), v] h0 = some ((Value.tuple #[]), h') ∧ Ar h' a b (runA ops s).1 (runA ops s).2 ∧ Only a b h0 h' := by
  obtain ⟨h', e, A', o⟩ := do_loop SV hlen la lb (lt_of A.ha) (lt_of A.hb) G.len ops.length 0 h0 s (by omega) A G ⟨Nat.le_refl _, fun _ _ _ _ => rfl⟩
  rw [List.drop_zero] at A'
  refine ⟨h', ?_, A', o⟩
  have len := fun {α : Type} (k : Value → Option α) => SV.len k
  rw [C, call_eq, F41_eq]
  unfold F41
  simp only [go_sem, Nat.reduceAdd, Nat.reduceLeDiff, Nat.reduceMul, Int.reduceBEq, Int.reduceBNe, Int.reduceLT, Int.reduceLE, Int.reduceGT, len]
  exact e
theorem counts_e {md : Md} {hh : Heap} {l : List Int} {c0 c1 c2 c3 c4 : Int} (A : Ar hh a b l [c0, c1, c2, c3, c4]) : C md 40 [(Value.pointer (some ⟨a, 0, none⟩))] hh = some ((Value.agg #[(Value.int .i64 c0), (Value.int .i64 c1), (Value.int .i64 c2), (Value.int .i64 c3), (Value.int .i64 c4)]), hh) := counts_s A
theorem ne59 {α : Type} {k : Value → Option α} {a b c d e a' b' c' d' e' : Int} : aBin Try.prog .neq 59 ((Value.agg #[(Value.int .i64 a), (Value.int .i64 b), (Value.int .i64 c), (Value.int .i64 d), (Value.int .i64 e)])) ((Value.agg #[(Value.int .i64 a'), (Value.int .i64 b'), (Value.int .i64 c'), (Value.int .i64 d'), (Value.int .i64 e')])) k = k (.bool (!(a == a' && (b == b' && (c == c' && (d == d' && (e == e' && true))))))) :=
  aBin_neqA (xs := [_, _, _, _, _]) (ys := [_, _, _, _, _]) (ks := [.i, .i, .i, .i, .i]) (by kernel_rfl) (by kernel_rfl) (by kernel_rfl) rfl rfl (cellsEq_i (cellsEq_i (cellsEq_i (cellsEq_i (cellsEq_i cellsEq_n)))))
theorem copies_law : Law Try.prog cfg 13 [3, 52, 52] := by
  intro h avs ha
  obtain ⟨x, r, rfl, a0, ha⟩ := args_cons ha
  obtain ⟨v, r, rfl, a1, ha⟩ := args_cons ha
  obtain ⟨v', r, rfl, a2, ha⟩ := args_cons ha
  obtain rfl := args_nil ha
  obtain ⟨z, rfl, z0, z1⟩ := inI64 (arg1 (P := Try.prog) (by kernel_rfl) (by kernel_rfl) a0)
  obtain ⟨ops, SV, hm⟩ := arg_acts a1
  obtain ⟨ops', SV', hm'⟩ := arg_acts a2
  have len := fun {α : Type} (k : Value → Option α) => SV.len k
  have len' := fun {α : Type} (k : Value → Option α) => SV'.len k
  refine ⟨h, ?_⟩
  rw [call_eq, F13_eq]
  unfold F13
  by_cases h60 : (60 : Int) < ops.length
  · simp only [go_sem, Nat.reduceAdd, Nat.reduceLeDiff, Nat.reduceMul, Int.reduceBEq, Int.reduceBNe, Int.reduceLT, Int.reduceLE, Int.reduceGT, len, gt_iff_lt, h60, awake_s]
  · by_cases h60' : (60 : Int) < ops'.length
    · simp only [go_sem, Nat.reduceAdd, Nat.reduceLeDiff, Nat.reduceMul, Int.reduceBEq, Int.reduceBNe, Int.reduceLT, Int.reduceLE, Int.reduceGT, len, len', gt_iff_lt, h60, h60', aBin_gtr, awake_s]
    · by_cases hz : z < 1
      · simp only [go_sem, Nat.reduceAdd, Nat.reduceLeDiff, Nat.reduceMul, Int.reduceBEq, Int.reduceBNe, Int.reduceLT, Int.reduceLE, Int.reduceGT, len, len', gt_iff_lt, h60, h60', aBin_gtr, aBin_lss, hz, awake_s]
      · by_cases hz2 : 40 < z
        · simp only [go_sem, Nat.reduceAdd, Nat.reduceLeDiff, Nat.reduceMul, Int.reduceBEq, Int.reduceBNe, Int.reduceLT, Int.reduceLE, Int.reduceGT, len, len', gt_iff_lt, h60, h60', aBin_lss, aBin_gtr, hz, hz2, awake_s]
        · obtain ⟨n, rfl⟩ : ∃ n : Nat, z = n := ⟨z.toNat, by omega⟩
          obtain ⟨h1, a, b, e1, A1, g1, la, lb⟩ := new_e ⟨h.length, h.length⟩ h (n := (n : Int)) (by omega) (by omega)
          obtain ⟨h2, e2, A2, o2⟩ := do_e SV (by omega) la lb (List.replicate n 0, [0, 0, 0, 0, 0]) A1 g1
          have g2 := g1.only o2 la lb
          have ll : ∀ (xs : List Act), (runA xs (List.replicate n 0, [0, 0, 0, 0, 0])).1.length = n := fun xs => by rw [runA_len]; simp
          have L1 := ll ops
          generalize hs : runA ops (List.replicate n 0, [0, 0, 0, 0, 0]) = s at A2 L1
          obtain ⟨h3, a1, b1, e3, B3, g3, la1, lb1⟩ := copy_e (md := ⟨h.length, h.length⟩) A2 g2.len (by omega)
          have A3 := A2.grown g3
          have g3' := g2.trans g3
          obtain ⟨h4, a2, b2, e4, C4, g4, la2, lb2⟩ := copy_e (md := ⟨h.length, h.length⟩) A3 g3'.len (by omega)
          have A4 := A3.grown g4
          have B4 := B3.grown g4
          have g4' := g3'.trans g4
          have A2a := lt_of A2.ha
          have A2b := lt_of A2.hb
          have B3a := lt_of B3.ha
          have B3b := lt_of B3.hb
          have gl2 := g2.len
          have gl3 := g3.len
          obtain ⟨h5, e5, B5, o5⟩ := do_e SV' (by omega) (by omega) (by omega) s B4 g4'
          have A5 := A4.only o5 (by omega) (by omega) (by omega) (by omega)
          have C5 := C4.only o5 (by omega) (by omega) (by omega) (by omega)
          have g5 := g4'.only o5 (by omega) (by omega)
          obtain ⟨h6, e6, A6, o6⟩ := do_e SV' (by omega) la lb s A5 g5
          have B6 := B5.only o6 (by omega) (by omega) (by omega) (by omega)
          have L2 : (runA ops' s).1.length = n := by rw [runA_len]; exact L1
          generalize hs2 : runA ops' s = s2 at A6 B6 B5 L2
          obtain ⟨l, c⟩ := s
          obtain ⟨l2, c2⟩ := s2
          simp only at *
          obtain ⟨p0, p1, p2, p3, p4, rfl⟩ := five A4.hc
          obtain ⟨q0, q1, q2, q3, q4, rfl⟩ := five A6.hc
          have k1 := counts_e (md := ⟨h.length, h.length⟩) B4
          have k2 := counts_e (md := ⟨h.length, h.length⟩) A4
          have k3 := counts_e (md := ⟨h.length, h.length⟩) A5
          have k4 := counts_e (md := ⟨h.length, h.length⟩) C5
          have k5 := counts_e (md := ⟨h.length, h.length⟩) A6
          have k6 := counts_e (md := ⟨h.length, h.length⟩) B6
          have i1 := equal_s (md := ⟨h.length, h.length⟩) A5 C5 (by omega)
          have i2 := equal_s (md := ⟨h.length, h.length⟩) A6 B6 (by omega)
          simp only [decide_true] at i1 i2
          simp only [go_sem, Nat.reduceAdd, Nat.reduceLeDiff, Nat.reduceMul, Int.reduceBEq, Int.reduceBNe, Int.reduceLT, Int.reduceLE, Int.reduceGT, len, len', gt_iff_lt, h60, h60', aBin_lss, aBin_gtr, hz, hz2, e1, e2, e3, e4, e5, e6, aBin_eqlP u53, bne_self_eq_false, aBin_neq, aBin_eql, eq59, ne59, k1, k2, k3, k4, k5, k6, i1, i2, awake_s, aUn_not]
end Go.Det.Cell
