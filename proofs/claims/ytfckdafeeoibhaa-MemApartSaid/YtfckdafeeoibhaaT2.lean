/- A row, replayed on any memory, goes on up to the first load that tells another number. -/
import Derived.Test.YtfckdafeeoibhaaT1
set_option autoImplicit false
set_option linter.unusedVariables false
set_option linter.unusedSimpArgs false
namespace Go.Det.E
open Go.Proofs Go.Det
attribute [local congr] bind_c cond_c
set_option maxRecDepth 100000 in
theorem awake06 (md : Md) (h : Heap) : C md 56 [] h = some ((Value.bool true), h) := free_ok 200 200 (by kernel_rfl) (by kernel_rfl) md h
variable {h hh h' : Heap} {a b k n0 : Nat} {l c cells : List Int} {v sv rv : Value} {row : List Acc}
theorem getI_at {l : List Int} {i : Int} (hi : 0 ≤ i ∧ i < l.length) : l[i.toNat]? = some (getI l i) := by
  rw [getI_in hi, List.getD, List.getElem?_eq_getElem (by omega)]; rfl
/-- A number of one's own list. -/
theorem Sl.ureadI {v : Value} (S : Sl h 1 encU v l) {i : Int} (hi : 0 ≤ i ∧ i < l.length) :
    (∀ {α : Type} (kk : Value → Option α), ixS 1 v i kk = kk ((Value.pointer (some ⟨slB v, slO v + i.toNat, none⟩)))) ∧ rd h (slB v) (slO v + i.toNat) = some ((Value.int .u64 (getI l i))) := by
  refine ⟨fun kk => ?_, ?_⟩
  · rw [S.ix hi.1 hi.2 kk, Nat.mul_one]
  · have := S.cell (getI_at hi) (j := 0) (by decide)
    rw [Nat.mul_one, Nat.add_zero] at this
    exact this
theorem SlO.uput {md : Md} {v : Value} (S : SlO h n0 1 encU v l) (hro : md.ro ≤ n0) {i : Int} (hi : 0 ≤ i ∧ i < l.length) (x : Int) :
    ∃ h', wrN md h (slB v) (slO v + i.toNat) [(Value.int .u64 x)] = some h' ∧ SlO h' n0 1 encU v (putI l i x) ∧ (∀ b, b ≠ slB v → h'[b]? = h[b]?) ∧ h'.length = h.length := by
  obtain ⟨h', e, S', f, l', _⟩ := S.write hro (getI_at hi) (j := 0) (x' := x) (w := (Value.int .u64 x)) (by decide) rfl rfl
  rw [Nat.mul_one, Nat.add_zero] at e
  rw [putI_in hi]
  exact ⟨h', e, S', f, l'⟩
theorem stops_loop (SV : Sl h 3 encX rv row) (hlen : row.length ≤ 80) (la : h.length ≤ a) (lb : h.length ≤ b) (sa : sv = .slice none 0 0 ∨ (slB sv ≠ a ∧ slB sv ≠ b)) (s4 : Value) : ∀ (m k : Nat) (hh : Heap) (l : List Int), k + m = row.length → Ar hh a b cells c → SlO hh h.length 1 encU sv l → Old h.length h hh →
    ∃ hf, J12_0 C ⟨0, h.length⟩ h rv s4 ((Value.pointer (some ⟨a, 0, none⟩))) sv ((Value.int .i64 ((row.length : Int)))) rv ((Value.int .i64 ((row.length : Int)))) ((Value.int .i64 ((k : Int)))) hh = J12_1 C ⟨0, h.length⟩ h rv s4 ((Value.pointer (some ⟨a, 0, none⟩))) sv ((Value.int .i64 (((k + (rp l (row.drop k)).2.1 : Nat) : Int)))) hf ∧
      Ar hf a b cells c ∧ SlO hf h.length 1 encU sv (rp l (row.drop k)).1 ∧ Old h.length h hf := by
  intro m
  induction m with
  | zero =>
    intro k hh l hk A S O
    obtain rfl : k = row.length := by omega
    rw [List.drop_length]
    refine ⟨hh, ?_, A, S, O⟩
    rw [J12_0_step]
    unfold Jr12_0
    simp only [go_sem, Nat.reduceAdd, Nat.reduceLeDiff, Nat.reduceMul, Int.reduceBEq, Int.reduceBNe, Int.reduceLT, Int.reduceLE, Int.reduceGT, aBin_lss, Int.lt_irrefl, Jk12_0, rp]
  | succ m ih =>
    intro k hh l hk A S O
    have hlt : (k : Int) < (row.length : Int) := by omega
    obtain ⟨x, hx⟩ : ∃ x, row[k]? = some x := ⟨row[k]'(by omega), List.getElem?_eq_getElem (by omega)⟩
    have S0 : Sl hh 3 encX rv row := SV.heap fun hl => O.old _ hl
    have ix := fun {α : Type} (kk : Value → Option α) => S0.ix (i := (k : Int)) (by omega) hlt kk
    have el := S0.elem hx
    have ol := O.len
    have A6 := A.app [Blk.own (encX x)]
    have S6 : SlO (hh ++ [Blk.own (encX x)]) h.length 1 encU sv l := S.at fun y h1 h2 => List.getElem?_append_left h2
    have O6 := O.trans (Old.app [Blk.own (encX x)] ol)
    have st3 := fun (h' : Heap) (kk : Heap → Option (((Value × Value × Value × Value × Value × Value × Value × Value) × Heap) ⊕ (Exit × (Value × Value × Value × Value × Value × Value × Value × Value) × Heap))) => st_N ⟨0, h.length⟩ 3 hh.length 0 (encX x) h' kk rfl rfl
    have w : IntKind.wrap .i64 ((k : Int) + 1) = ((k + 1 : Nat) : Int) := by rw [wi (by omega) (by omega)]; rfl
    have dr : row.drop k = x :: row.drop (k + 1) := by
      obtain ⟨hk', rfl⟩ := List.getElem?_eq_some_iff.1 hx
      exact List.drop_eq_getElem_cons hk'
    have lta := lt_of A.ha
    have ltb := lt_of A.hb
    have len := fun {α : Type} (kk : Value → Option α) => S6.sl.len kk
    -- the heap that the acts see, with the access's own cells unnamed
    obtain ⟨h6, e6⟩ : ∃ h6, h6 = hh ++ [Blk.own (encX x)] := ⟨_, rfl⟩
    have b6 : h6[hh.length]? = some (.own (encX x)) := by rw [e6]; simp
    have q0 : rd h6 hh.length 0 = some ((Value.bool x.s)) := by rw [rd_own b6]; rfl
    have q1 : rd h6 hh.length 1 = some ((Value.int .i64 x.i)) := by rw [rd_own b6]; rfl
    have q2 : rd h6 hh.length 2 = some ((Value.int .u64 x.v)) := by rw [rd_own b6]; rfl
    have w6 : wrN ⟨0, h.length⟩ (hh ++ [Blk.own [(Value.bool false), (Value.int .i64 0), (Value.int .u64 0)]]) hh.length 0 [(Value.bool x.s), (Value.int .i64 x.i), (Value.int .u64 x.v)] = some h6 := by
      rw [e6]; simp only [go_sem, Nat.reduceAdd, Nat.reduceLeDiff, Nat.reduceMul, Int.reduceBEq, Int.reduceBNe, Int.reduceLT, Int.reduceLE, Int.reduceGT, ol]
    rw [← e6] at A6 S6 O6
    have uU : Try.prog.underlying 64 = some (.int .u64) := by kernel_rfl
    rw [dr, rp]
    have next : ∀ (h7 : Heap) (l7 : List Int), Jr12_0 C ⟨0, h.length⟩ rv s4 ((Value.pointer (some ⟨a, 0, none⟩))) sv ((Value.int .i64 ((row.length : Int)))) rv ((Value.int .i64 ((row.length : Int)))) ((Value.int .i64 ((k : Int)))) hh =
        some (.inl ((rv, s4, (Value.pointer (some ⟨a, 0, none⟩)), sv, (Value.int .i64 ((row.length : Int))), rv, (Value.int .i64 ((row.length : Int))), (Value.int .i64 (((k + 1 : Nat) : Int)))), h7)) → Ar h7 a b cells c → SlO h7 h.length 1 encU sv l7 → Old h.length h h7 →
        ∃ hf, J12_0 C ⟨0, h.length⟩ h rv s4 ((Value.pointer (some ⟨a, 0, none⟩))) sv ((Value.int .i64 ((row.length : Int)))) rv ((Value.int .i64 ((row.length : Int)))) ((Value.int .i64 ((k : Int)))) hh = J12_1 C ⟨0, h.length⟩ h rv s4 ((Value.pointer (some ⟨a, 0, none⟩))) sv ((Value.int .i64 (((k + ((rp l7 (row.drop (k + 1))).2.1 + 1) : Nat) : Int)))) hf ∧
          Ar hf a b cells c ∧ SlO hf h.length 1 encU sv (rp l7 (row.drop (k + 1))).1 ∧ Old h.length h hf := by
      intro h7 l7 e7 A7 S7 O7
      obtain ⟨hf, e', r⟩ := ih (k + 1) h7 l7 (by omega) A7 S7 O7
      refine ⟨hf, ?_, r⟩
      rw [J12_0_step, e7]
      simp only [Option.bind_some]
      rw [e', Nat.add_assoc, Nat.add_comm 1]
    by_cases hi : 0 ≤ x.i ∧ x.i < l.length
    · obtain ⟨ui, ur⟩ := Sl.ureadI S6.sl hi
      have i0 := hi.1
      have i1 := hi.2
      cases hs : x.s
      · rw [hs] at q0
        simp only [Bool.false_eq_true, if_false]
        by_cases hg : getI l x.i = x.v
        · rw [if_pos hg]
          refine next h6 l ?_ A6 S6 O6
          have hb : (getI l x.i != x.v) = false := by simp [hg]
          unfold Jr12_0
          simp only [go_sem, Nat.reduceAdd, Nat.reduceLeDiff, Nat.reduceMul, Int.reduceBEq, Int.reduceBNe, Int.reduceLT, Int.reduceLE, Int.reduceGT, aBin_lss, hlt, ix, el, st3, w6, q0, q1, q2, ge_iff_le, i0, i1, len, ui, ur, J12_0b0, aBin_neq, hb, aBin_add, w]
        · rw [if_neg hg]
          refine ⟨h6, ?_, A6, S6, O6⟩
          have hb : (getI l x.i != x.v) = true := by simp [hg]
          rw [J12_0_step]
          unfold Jr12_0
          simp only [go_sem, Nat.reduceAdd, Nat.reduceLeDiff, Nat.reduceMul, Int.reduceBEq, Int.reduceBNe, Int.reduceLT, Int.reduceLE, Int.reduceGT, aBin_lss, hlt, ix, el, st3, w6, q0, q1, q2, ge_iff_le, i0, i1, len, ui, ur, J12_0b0, aBin_neq, hb, Jk12_0]
      · rw [hs] at q0
        simp only [if_true]
        obtain ⟨h7, w7, S7, f7, l7⟩ := SlO.uput (md := ⟨0, h.length⟩) S6 (Nat.zero_le _) hi x.v
        have sb := S6.lo
        have lh6 := O6.len
        have svne : sv ≠ .slice none 0 0 := fun e => by
          have := S6; rw [e] at this; rw [this.nil_of] at i1; simp at i1; omega
        have sa' := sa.resolve_left svne
        have sb' := sb.resolve_left svne
        refine next h7 _ ?_ (A6.same (f7 a (fun e => sa'.1 e.symm)) (f7 b (fun e => sa'.2 e.symm))) S7 ⟨by omega, fun y hy => (f7 y (by omega)).trans (O6.old y hy)⟩
        unfold Jr12_0
        simp only [go_sem, Nat.reduceAdd, Nat.reduceLeDiff, Nat.reduceMul, Int.reduceBEq, Int.reduceBNe, Int.reduceLT, Int.reduceLE, Int.reduceGT, aBin_lss, hlt, ix, el, st3, w6, q0, q1, q2, ge_iff_le, i0, i1, len, ui, ur, J12_0b0, w7, aBin_add, w]
    · have g0 : getI l x.i = 0 := getI_out hi
      have p0 : putI l x.i x.v = l := putI_out hi
      have go : ∀ (β : Unit), True := fun _ => trivial
      cases hs : x.s
      · rw [hs] at q0
        simp only [Bool.false_eq_true, if_false]
        by_cases hg : getI l x.i = x.v
        · rw [if_pos hg]
          refine next h6 l ?_ A6 S6 O6
          rw [g0] at hg
          have hb : ((0 : Int) != x.v) = false := by simp [hg]
          unfold Jr12_0
          by_cases i0 : 0 ≤ x.i
          · have i1 : ¬ x.i < (l.length : Int) := fun q => hi ⟨i0, q⟩
            simp only [go_sem, Nat.reduceAdd, Nat.reduceLeDiff, Nat.reduceMul, Int.reduceBEq, Int.reduceBNe, Int.reduceLT, Int.reduceLE, Int.reduceGT, aBin_lss, hlt, ix, el, st3, w6, q0, q1, q2, ge_iff_le, i0, i1, len, J12_0b0, aBin_neq, hb, aBin_add, w]
          · simp only [go_sem, Nat.reduceAdd, Nat.reduceLeDiff, Nat.reduceMul, Int.reduceBEq, Int.reduceBNe, Int.reduceLT, Int.reduceLE, Int.reduceGT, aBin_lss, hlt, ix, el, st3, w6, q0, q1, q2, ge_iff_le, i0, J12_0b0, aBin_neq, hb, aBin_add, w]
        · rw [if_neg hg]
          refine ⟨h6, ?_, A6, S6, O6⟩
          rw [g0] at hg
          have hb : ((0 : Int) != x.v) = true := by simp [hg]
          rw [J12_0_step]
          unfold Jr12_0
          by_cases i0 : 0 ≤ x.i
          · have i1 : ¬ x.i < (l.length : Int) := fun q => hi ⟨i0, q⟩
            simp only [go_sem, Nat.reduceAdd, Nat.reduceLeDiff, Nat.reduceMul, Int.reduceBEq, Int.reduceBNe, Int.reduceLT, Int.reduceLE, Int.reduceGT, aBin_lss, hlt, ix, el, st3, w6, q0, q1, q2, ge_iff_le, i0, i1, len, J12_0b0, aBin_neq, hb, Jk12_0]
          · simp only [go_sem, Nat.reduceAdd, Nat.reduceLeDiff, Nat.reduceMul, Int.reduceBEq, Int.reduceBNe, Int.reduceLT, Int.reduceLE, Int.reduceGT, aBin_lss, hlt, ix, el, st3, w6, q0, q1, q2, ge_iff_le, i0, J12_0b0, aBin_neq, hb, Jk12_0]
      · rw [hs] at q0
        simp only [if_true]
        rw [p0]
        refine next h6 l ?_ A6 S6 O6
        unfold Jr12_0
        by_cases i0 : 0 ≤ x.i
        · have i1 : ¬ x.i < (l.length : Int) := fun q => hi ⟨i0, q⟩
          simp only [go_sem, Nat.reduceAdd, Nat.reduceLeDiff, Nat.reduceMul, Int.reduceBEq, Int.reduceBNe, Int.reduceLT, Int.reduceLE, Int.reduceGT, aBin_lss, hlt, ix, el, st3, w6, q0, q1, q2, ge_iff_le, i0, i1, len, J12_0b0, aBin_add, w]
        · simp only [go_sem, Nat.reduceAdd, Nat.reduceLeDiff, Nat.reduceMul, Int.reduceBEq, Int.reduceBNe, Int.reduceLT, Int.reduceLE, Int.reduceGT, aBin_lss, hlt, ix, el, st3, w6, q0, q1, q2, ge_iff_le, i0, J12_0b0, aBin_add, w]
theorem check_loop (s4 : Value) (hlen : l.length ≤ 60) (lim : h.length ≤ a ∧ h.length ≤ b) (sa : sv = .slice none 0 0 ∨ (slB sv ≠ a ∧ slB sv ≠ b)) : ∀ (m k : Nat) (hh : Heap) (c : List Int), k + m = l.length → Ar hh a b l c → SlO hh h.length 1 encU sv l → 
    ∃ g, J12_2 C ⟨0, h.length⟩ h s4 ((Value.pointer (some ⟨a, 0, none⟩))) sv ((Value.int .i64 ((l.length : Int)))) ((Value.int .i64 ((k : Int)))) hh = some ((Value.bool true), g) := by
  intro m
  induction m with
  | zero =>
    intro k hh c hk A S
    obtain rfl : k = l.length := by omega
    refine ⟨hh.take h.length, ?_⟩
    rw [J12_2_step]
    unfold Jr12_2
    simp only [go_sem, Nat.reduceAdd, Nat.reduceLeDiff, Nat.reduceMul, Int.reduceBEq, Int.reduceBNe, Int.reduceLT, Int.reduceLE, Int.reduceGT, aBin_lss, Int.lt_irrefl, Jk12_2, awake06]
  | succ m ih =>
    intro k hh c hk A S
    have hlt : (k : Int) < (l.length : Int) := by omega
    have mo := fun (m : Md) => memof_s m hh (lt_of A.ha)
    obtain ⟨h2, e2, A2, o2⟩ := pl_x (md := ⟨0, h.length⟩) A (Nat.zero_le _) (k : Int)
    have svne : sv ≠ .slice none 0 0 := fun e => by
      have := S; rw [e] at this; rw [this.nil_of] at hlt; simp at hlt; omega
    have sa' := sa.resolve_left svne
    have S2 := S.keep (h' := h2) (.inr (o2.oth _ sa'.1 sa'.2))
    obtain ⟨i1, r1⟩ := Sl.ureadI S.sl (i := (k : Int)) ⟨by omega, hlt⟩
    obtain ⟨i2, r2⟩ := Sl.ureadI S2.sl (i := (k : Int)) ⟨by omega, hlt⟩
    simp only [Int.toNat_natCast] at i1 r1 r2
    have w : IntKind.wrap .i64 ((k : Int) + 1) = ((k + 1 : Nat) : Int) := by rw [wi (by omega) (by omega)]; rfl
    obtain ⟨g, eg⟩ := ih (k + 1) h2 _ (by omega) A2 S2
    refine ⟨g, ?_⟩
    rw [J12_2_step]
    unfold Jr12_2
    simp only [go_sem, Nat.reduceAdd, Nat.reduceLeDiff, Nat.reduceMul, Int.reduceBEq, Int.reduceBNe, Int.reduceLT, Int.reduceLE, Int.reduceGT, aBin_lss, hlt, mo, e2, i1, r2, cLE_t, r1, bne_self_eq_false, aBin_add, w]
    exact eg
theorem stops_law : Law Try.prog cfg 12 [103, 111] := by
  intro h avs ha
  obtain ⟨v, r, rfl, a0, ha⟩ := args_cons ha
  obtain ⟨rv, r, rfl, a1, ha⟩ := args_cons ha
  obtain rfl := args_nil ha
  obtain ⟨cells, SC, wc, hm⟩ := arg_words a0
  obtain ⟨row, SV, wr, hm'⟩ := arg_accs (by kernel_rfl) (by kernel_rfl) a1
  have len := fun {α : Type} (k : Value → Option α) => SC.len k
  have len' := fun {α : Type} (k : Value → Option α) => SV.len k
  have tk : h.take h.length = h := take_same (Nat.le_refl _)
  rw [call_eq, F12_eq]
  unfold F12
  by_cases h60 : (60 : Int) < cells.length
  · exact ⟨h, by simp only [go_sem, Nat.reduceAdd, Nat.reduceLeDiff, Nat.reduceMul, Int.reduceBEq, Int.reduceBNe, Int.reduceLT, Int.reduceLE, Int.reduceGT, len, gt_iff_lt, h60, awake06, tk]⟩
  by_cases h80 : (80 : Int) < row.length
  · exact ⟨h, by simp only [go_sem, Nat.reduceAdd, Nat.reduceLeDiff, Nat.reduceMul, Int.reduceBEq, Int.reduceBNe, Int.reduceLT, Int.reduceLE, Int.reduceGT, len, len', gt_iff_lt, h60, aBin_gtr, h80, awake06, tk]⟩
  obtain ⟨h1, a, b, c, e1, A1, O1, la, lb⟩ := begun06 (cells := cells) ⟨0, h.length⟩ (Nat.zero_le _) SC (by omega)
  have l1 := O1.len
  have lta := lt_of A1.ha
  have ltb := lt_of A1.hb
  have SC1 : Sl h1 1 encU v cells := SC.heap fun hl => O1.old _ hl
  have SE : SlO (h1 ++ [Blk.own []]) (h1.length) 1 encU ((Value.slice (some ⟨h1.length, 0, none⟩) 0 1)) [] := by
    have hb : (h1 ++ [Blk.own []])[h1.length]? = some (.own []) := by simp
    exact ⟨Sl.whole encU_len hb (by simp [Blk.cells, flat]) (by simp), .inr ⟨Nat.le_refl _, _, hb⟩⟩
  obtain ⟨sv, h2, ea, S2, O2⟩ := append_sl (md := ⟨0, h.length⟩) (n0 := h1.length) tU SE SC1.app (Nat.zero_le _) (by simp) encU_cell (by simp; omega)
  have l2 := O2.len
  simp only [List.length_append, List.length_cons, List.length_nil] at l2
  rw [List.nil_append] at S2
  have keep : ∀ y, y < h1.length → h2[y]? = h1[y]? := fun y hy => by rw [O2.old y hy, List.getElem?_append_left hy]
  have A2 := A1.same (keep a lta) (keep b ltb)
  have G2 : Old h.length h h2 := ⟨by omega, fun y hy => (keep y (by omega)).trans (O1.old y hy)⟩
  have sa : sv = .slice none 0 0 ∨ (slB sv ≠ a ∧ slB sv ≠ b) := S2.lo.imp id fun q => by omega
  obtain ⟨h3, e3, A3, S3, G3⟩ := stops_loop SV (by omega) la lb sa ((Value.bool false)) row.length 0 h2 cells (by omega) A2 (S2.mono l1) G2
  rw [List.drop_zero, Nat.zero_add] at e3
  rw [List.drop_zero] at S3
  have mo := fun (m : Md) => memof_s m h3 (lt_of A3.ha)
  have sv3 : ∀ hx : Heap, OG a b h3 hx → Sl hx 3 encX rv row := fun hx og => SV.heap fun hl => (og.oth _ (by have := G3.len; omega) (by omega) (by omega)).trans (G3.old _ hl)
  obtain ⟨h4, c4, e4, A4, o4⟩ := replay_e (md := ⟨0, h.length⟩) sv3 (by omega) A3 (Nat.zero_le _) (Nat.zero_le _) (Nat.zero_le _)
  have lenr : ∀ {α : Type} (k : Value → Option α), lenS rv k = k ((Value.int .i64 ((row.length : Int)))) := fun k => SV.len k
  have S4 := S3.keep (h' := h4) (sa.imp id fun q => o4.oth _ q.1 q.2)
  have rl := rp_len row cells
  have len4 : ∀ {α : Type} (k : Value → Option α), lenS sv k = k ((Value.int .i64 ((((rp cells row).1.length : Nat) : Int)))) := fun k => S4.sl.len k
  obtain ⟨g, eg⟩ := check_loop (h := h) (l := (rp cells row).1) ((Value.bool false)) (by omega) ⟨la, lb⟩ sa (rp cells row).1.length 0 h4 c4 (by omega) A4 S4
  have rle := rp_le row cells
  have uB : Try.prog.underlying 4 = some .bool := by kernel_rfl
  have hbb : ((((rp cells row).2.1 : Nat) : Int) == (row.length : Int)) = (rp cells row).2.2 := by
    cases e : (rp cells row).2.2
    · have : (rp cells row).2.1 ≠ row.length := fun q => by rw [← rle.2, e] at q; cases q
      simp; omega
    · have := rle.2.1 e
      simp; omega
  refine ⟨g, ?_⟩
  simp only [go_sem, Nat.reduceAdd, Nat.reduceLeDiff, Nat.reduceMul, Int.reduceBEq, Int.reduceBNe, Int.reduceLT, Int.reduceLE, Int.reduceGT, len, len', gt_iff_lt, h60, aBin_gtr, h80, e1, aBin_eqlP uPa, ea]
  refine Eq.trans e3 ?_
  unfold J12_1
  simp only [go_sem, Nat.reduceAdd, Nat.reduceLeDiff, Nat.reduceMul, Int.reduceBEq, Int.reduceBNe, Int.reduceLT, Int.reduceLE, Int.reduceGT, mo, e4, aBin_neq, bne_self_eq_false, lenr, aBin_eql, hbb, aBin_neqB uB, len4]
  exact eg
end Go.Det.E
