/- The row of a trace, replayed on the arena that it is over. -/
import Derived.Test.YtfckdafeeoibhaaT3
import Derived.Test.YtfckdafeeoibhaaT2
set_option autoImplicit false
set_option linter.unusedVariables false
set_option linter.unusedSimpArgs false
namespace Go.Det.E
open Go.Proofs Go.Det
attribute [local congr] bind_c cond_c
variable {h hh h' : Heap} {a b k n0 x xb : Nat} {l c cells : List Int} {v rv s0 s4 : Value} {row ops : List Acc}
theorem Tr.app (T : Tr hh n0 k a b l rv row) (bs : Heap) : Tr (hh ++ bs) n0 k a b l rv row := T.keep fun y hy => List.getElem?_append_left (T.lt y hy)
theorem replays_loop (SV : Sl h 3 encX v ops) (hlen : ops.length ≤ 80) : ∀ (m j : Nat) (hh : Heap) (l : List Int) (rv : Value) (row : List Acc), j + m = ops.length → Tr hh h.length k a b l rv row → Ar hh x xb cells c → ¬ ft a b k rv x → ¬ ft a b k rv xb → Old h.length h hh → row.length + m ≤ 100 →
    ∃ hf rvf, J11_0 C ⟨0, h.length⟩ h s0 s4 ((Value.pointer (some ⟨x, 0, none⟩))) ((Value.pointer (some ⟨k, 0, none⟩))) v ((Value.int .i64 ((ops.length : Int)))) ((Value.int .i64 ((j : Int)))) hh = J11_1 C ⟨0, h.length⟩ h s0 s4 ((Value.pointer (some ⟨x, 0, none⟩))) ((Value.pointer (some ⟨k, 0, none⟩))) hf ∧
      Tr hf h.length k a b (tr l (ops.drop j)).1 rvf (row ++ (tr l (ops.drop j)).2) ∧ Ar hf x xb cells c ∧ ¬ ft a b k rvf x ∧ ¬ ft a b k rvf xb ∧ Old h.length h hf := by
  intro m
  induction m with
  | zero =>
    intro j hh l rv row hj T A d1 d2 O hr
    obtain rfl : j = ops.length := by omega
    rw [List.drop_length]
    refine ⟨hh, rv, ?_, by simpa [tr] using T, A, d1, d2, O⟩
    rw [J11_0_step]
    unfold Jr11_0
    simp only [go_sem, Nat.reduceAdd, Nat.reduceLeDiff, Nat.reduceMul, Int.reduceBEq, Int.reduceBNe, Int.reduceLT, Int.reduceLE, Int.reduceGT, aBin_lss, Int.lt_irrefl, Jk11_0]
  | succ m ih =>
    intro j hh l rv row hj T A d1 d2 O hr
    have hlt : (j : Int) < (ops.length : Int) := by omega
    obtain ⟨o, hx⟩ : ∃ o, ops[j]? = some o := ⟨ops[j]'(by omega), List.getElem?_eq_getElem (by omega)⟩
    have S0 : Sl hh 3 encX v ops := SV.heap fun hl => O.old _ hl
    have ix := fun {α : Type} (kk : Value → Option α) => S0.ix (i := (j : Int)) (by omega) hlt kk
    have el := S0.elem hx
    have ol := O.len
    have st3 := fun (h' : Heap) (kk : Heap → Option (((Value × Value × Value × Value × Value × Value × Value) × Heap) ⊕ (Exit × (Value × Value × Value × Value × Value × Value × Value) × Heap))) => st_N ⟨0, h.length⟩ 3 hh.length 0 (encX o) h' kk rfl rfl
    have w : IntKind.wrap .i64 ((j : Int) + 1) = ((j + 1 : Nat) : Int) := by rw [wi (by omega) (by omega)]; rfl
    have dr : ops.drop j = o :: ops.drop (j + 1) := by
      obtain ⟨hk', rfl⟩ := List.getElem?_eq_some_iff.1 hx
      exact List.drop_eq_getElem_cons hk'
    have T6 := T.app [Blk.own (encX o)]
    have A6 := A.app [Blk.own (encX o)]
    have O6 := O.trans (Old.app [Blk.own (encX o)] ol)
    obtain ⟨h6, e6⟩ : ∃ h6, h6 = hh ++ [Blk.own (encX o)] := ⟨_, rfl⟩
    have b6 : h6[hh.length]? = some (.own (encX o)) := by rw [e6]; simp
    have q0 : rd h6 hh.length 0 = some ((Value.bool o.s)) := by rw [rd_own b6]; rfl
    have q1 : rd h6 hh.length 1 = some ((Value.int .i64 o.i)) := by rw [rd_own b6]; rfl
    have q2 : rd h6 hh.length 2 = some ((Value.int .u64 o.v)) := by rw [rd_own b6]; rfl
    have w6 : wrN ⟨0, h.length⟩ (hh ++ [Blk.own [(Value.bool false), (Value.int .i64 0), (Value.int .u64 0)]]) hh.length 0 [(Value.bool o.s), (Value.int .i64 o.i), (Value.int .u64 o.v)] = some h6 := by
      rw [e6]; simp only [go_sem, Nat.reduceAdd, Nat.reduceLeDiff, Nat.reduceMul, Int.reduceBEq, Int.reduceBNe, Int.reduceLT, Int.reduceLE, Int.reduceGT, ol]
    rw [← e6] at T6 A6 O6
    have l6 := O6.len
    have lx := lt_of A6.ha
    have lxb := lt_of A6.hb
    rw [dr, tr]
    cases hs : o.s
    · rw [hs] at q0
      simp only [Bool.false_eq_true, if_false]
      obtain ⟨h7, rv', e7, T7, l7, f7, g7⟩ := tload_e (md := ⟨0, h.length⟩) T6 (Nat.zero_le _) (Nat.le_refl _) l6 (by omega) o.i
      obtain ⟨hf, rvf, e', T', A', d1', d2', O'⟩ := ih (j + 1) h7 l rv' _ (by omega) T7 (A6.same (f7 x lx d1) (f7 xb lxb d2)) (fun q => (g7 _ q).elim d1 fun q => by omega) (fun q => (g7 _ q).elim d2 fun q => by omega)
        ⟨by omega, fun y hy => (f7 y (by omega) (fun q => by have := T6.ge y q; omega)).trans (O6.old y hy)⟩ (by simp only [List.length_append]; split <;> simp <;> omega)
      refine ⟨hf, rvf, ?_, by simpa [List.append_assoc] using T', A', d1', d2', O'⟩
      rw [J11_0_step]
      unfold Jr11_0
      simp only [go_sem, Nat.reduceAdd, Nat.reduceLeDiff, Nat.reduceMul, Int.reduceBEq, Int.reduceBNe, Int.reduceLT, Int.reduceLE, Int.reduceGT, aBin_lss, hlt, ix, el, st3, w6, q0, q1, e7, aBin_add, w]
      exact e'
    · rw [hs] at q0
      simp only [if_true]
      obtain ⟨h7, rv', e7, T7, l7, f7, g7⟩ := tstore_e (md := ⟨0, h.length⟩) T6 (Nat.zero_le _) (Nat.le_refl _) l6 (by omega) o.i o.v
      obtain ⟨hf, rvf, e', T', A', d1', d2', O'⟩ := ih (j + 1) h7 _ rv' _ (by omega) T7 (A6.same (f7 x lx d1) (f7 xb lxb d2)) (fun q => (g7 _ q).elim d1 fun q => by omega) (fun q => (g7 _ q).elim d2 fun q => by omega)
        ⟨by omega, fun y hy => (f7 y (by omega) (fun q => by have := T6.ge y q; omega)).trans (O6.old y hy)⟩ (by simp only [List.length_append]; split <;> simp <;> omega)
      refine ⟨hf, rvf, ?_, by simpa [List.append_assoc] using T', A', d1', d2', O'⟩
      rw [J11_0_step]
      unfold Jr11_0
      simp only [go_sem, Nat.reduceAdd, Nat.reduceLeDiff, Nat.reduceMul, Int.reduceBEq, Int.reduceBNe, Int.reduceLT, Int.reduceLE, Int.reduceGT, aBin_lss, hlt, ix, el, st3, w6, q0, q1, q2, e7, aBin_add, w]
      exact e'
theorem rcheck_loop {n : Nat} (hn : n ≤ 60) (gx : h.length ≤ x) (gxb : h.length ≤ xb) : ∀ (m j : Nat) (hh : Heap) (rv : Value) (row : List Acc) (c : List Int), j + m = n → Tr hh h.length k a b l rv row → Ar hh x xb l c → ¬ ft a b k rv x → ¬ ft a b k rv xb → row.length + m ≤ 200 → h.length ≤ hh.length →
    ∃ g, J11_2 C ⟨0, h.length⟩ h s4 ((Value.pointer (some ⟨x, 0, none⟩))) ((Value.pointer (some ⟨k, 0, none⟩))) ((Value.int .i64 ((n : Int)))) ((Value.int .i64 ((j : Int)))) hh = some ((Value.bool true), g) := by
  intro m
  induction m with
  | zero =>
    intro j hh rv row c hj T A d1 d2 hr hl
    obtain rfl : j = n := by omega
    refine ⟨hh.take h.length, ?_⟩
    rw [J11_2_step]
    unfold Jr11_2
    simp only [go_sem, Nat.reduceAdd, Nat.reduceLeDiff, Nat.reduceMul, Int.reduceBEq, Int.reduceBNe, Int.reduceLT, Int.reduceLE, Int.reduceGT, aBin_lss, Int.lt_irrefl, Jk11_2, awake06]
  | succ m ih =>
    intro j hh rv row c hj T A d1 d2 hr hl
    have hlt : (j : Int) < (n : Int) := by omega
    have w : IntKind.wrap .i64 ((j : Int) + 1) = ((j + 1 : Nat) : Int) := by rw [wi (by omega) (by omega)]; rfl
    obtain ⟨h2, e2, A2, o2⟩ := ld_x (md := ⟨0, h.length⟩) A (Nat.zero_le _) (j : Int)
    have T2 := T.keep (h' := h2) fun y hy => o2.oth y (fun e => d1 (e ▸ hy)) (fun e => d2 (e ▸ hy))
    have l2 := o2.len
    obtain ⟨h3, rv', e3, T3, l3, f3, g3⟩ := tload_e (md := ⟨0, h.length⟩) T2 (Nat.zero_le _) (Nat.le_refl _) (by omega) (by omega) (j : Int)
    have lx := lt_of A2.ha
    have lxb := lt_of A2.hb
    obtain ⟨g, eg⟩ := ih (j + 1) h3 rv' _ _ (by omega) T3 (A2.same (f3 x lx d1) (f3 xb lxb d2)) (fun q => (g3 _ q).elim d1 fun q => by omega) (fun q => (g3 _ q).elim d2 fun q => by omega)
      (by simp only [List.length_append]; split <;> simp <;> omega) (by omega)
    refine ⟨g, ?_⟩
    rw [J11_2_step]
    unfold Jr11_2
    simp only [go_sem, Nat.reduceAdd, Nat.reduceLeDiff, Nat.reduceMul, Int.reduceBEq, Int.reduceBNe, Int.reduceLT, Int.reduceLE, Int.reduceGT, aBin_lss, hlt, e2, e3, bne_self_eq_false, aBin_add, w]
    exact eg
theorem replays_law : Law Try.prog cfg 11 [103, 104] := by
  intro h avs ha
  obtain ⟨v, r, rfl, a0, ha⟩ := args_cons ha
  obtain ⟨ov, r, rfl, a1, ha⟩ := args_cons ha
  obtain rfl := args_nil ha
  obtain ⟨cells, SC, wc, hm⟩ := arg_words a0
  obtain ⟨ops, SV, wr, hm'⟩ := arg_accs (by kernel_rfl) (by kernel_rfl) a1
  have len := fun {α : Type} (k : Value → Option α) => SC.len k
  have len' := fun {α : Type} (k : Value → Option α) => SV.len k
  have tk : h.take h.length = h := take_same (Nat.le_refl _)
  rw [call_eq, F11_eq]
  unfold F11
  by_cases h60 : (60 : Int) < cells.length
  · exact ⟨h, by simp only [go_sem, Nat.reduceAdd, Nat.reduceLeDiff, Nat.reduceMul, Int.reduceBEq, Int.reduceBNe, Int.reduceLT, Int.reduceLE, Int.reduceGT, len, gt_iff_lt, h60, awake06, tk]⟩
  by_cases h80 : (80 : Int) < ops.length
  · exact ⟨h, by simp only [go_sem, Nat.reduceAdd, Nat.reduceLeDiff, Nat.reduceMul, Int.reduceBEq, Int.reduceBNe, Int.reduceLT, Int.reduceLE, Int.reduceGT, len, len', gt_iff_lt, h60, aBin_gtr, h80, awake06, tk]⟩
  obtain ⟨h1, x, xb, c, e1, A1, O1, la, lb⟩ := begun06 (cells := cells) ⟨0, h.length⟩ (Nat.zero_le _) SC (by omega)
  have l1 := O1.len
  have lta := lt_of A1.ha
  have ltb := lt_of A1.hb
  obtain ⟨h2, k, a, b, e2, T2, l2, f2⟩ := over_e (md := ⟨0, h.length⟩) A1 (Nat.zero_le _) (by omega)
  have A2 := A1.same (f2 x lta) (f2 xb ltb)
  have O2 : Old h.length h h2 := ⟨by omega, fun y hy => (f2 y (by omega)).trans (O1.old y hy)⟩
  obtain ⟨h3, rv, e3, T3, A3, d1, d2, O3⟩ := replays_loop (s0 := v) (s4 := (Value.bool false)) SV (by omega) ops.length 0 h2 cells _ _ (by omega) (T2.mono l1) A2 (fun q => by have := T2.ge x q; omega) (fun q => by have := T2.ge xb q; omega) O2 (by simp; omega)
  rw [List.drop_zero, List.nil_append] at T3
  have l3 := O3.len
  have trl := tr_len ops cells
  obtain ⟨v4, h4, e4, S4, l4, f4, g4⟩ := row_e (md := ⟨0, h.length⟩) T3 (Nat.zero_le _) (by omega)
  have lt3 := lt_of A3.ha
  have lt3b := lt_of A3.hb
  have A4 := A3.same (f4 x lt3) (f4 xb lt3b)
  have T4 := T3.keep (h' := h4) fun y hy => f4 y (T3.lt y hy)
  have mo := fun (m : Md) => memof_s m h4 (lt_of A4.ha)
  have sv4 : ∀ hx : Heap, OG x xb h4 hx → Sl hx 3 encX v4 (tr cells ops).2 := fun hx og => by
    rcases S4.is with ⟨rfl, e⟩ | ⟨b', o', kk, e, hb, hc, hl2⟩
    · rw [e]; exact Sl.nil _ encX_len
    · refine S4.heap fun hl => og.oth _ hl ?_ ?_
      · rcases g4 with q | q
        · rw [e] at q; cases q
        · omega
      · rcases g4 with q | q
        · rw [e] at q; cases q
        · omega
  obtain ⟨h5, c5, e5, A5, o5⟩ := replay_e (md := ⟨0, h.length⟩) sv4 (by omega) A4 (Nat.zero_le _) (Nat.zero_le _) (Nat.zero_le _)
  rw [rp_tr] at e5 A5
  have T5 := T4.keep (h' := h5) fun y hy => o5.oth y (fun e => d1 (e ▸ hy)) (fun e => d2 (e ▸ hy))
  have lenr : ∀ {α : Type} (k : Value → Option α), lenS v4 k = k ((Value.int .i64 ((((tr cells ops).2.length : Nat) : Int)))) := fun k => S4.len k
  have l5 := o5.len
  obtain ⟨g, eg⟩ := rcheck_loop (s4 := (Value.bool false)) (n := cells.length) (by omega) la lb cells.length 0 h5 rv _ c5 (by omega) T5 A5 d1 d2 (by omega) (by omega)
  have uT : Try.prog.underlying 106 = some (.pointer 150) := by kernel_rfl
  refine ⟨g, ?_⟩
  simp only [go_sem, Nat.reduceAdd, Nat.reduceLeDiff, Nat.reduceMul, Int.reduceBEq, Int.reduceBNe, Int.reduceLT, Int.reduceLE, Int.reduceGT, len, len', gt_iff_lt, h60, aBin_gtr, h80, e1, aBin_eqlP uPa, e2, aBin_eqlP uT]
  refine Eq.trans e3 ?_
  unfold J11_1
  simp only [go_sem, Nat.reduceAdd, Nat.reduceLeDiff, Nat.reduceMul, Int.reduceBEq, Int.reduceBNe, Int.reduceLT, Int.reduceLE, Int.reduceGT, e4, mo, e5, lenr, aBin_neq, bne_self_eq_false, len]
  exact eg
end Go.Det.E
