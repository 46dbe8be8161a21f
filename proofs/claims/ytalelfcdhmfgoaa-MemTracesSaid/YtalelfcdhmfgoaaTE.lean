/- The law of traces. -/
import Derived.Test.YtalelfcdhmfgoaaTD
import Derived.Test.YtalelfcdhmfgoaaT5
set_option autoImplicit false
set_option linter.unusedVariables false
set_option linter.unusedSimpArgs false
namespace Go.Det.O
open Go.Det.E
open Go.Proofs Go.Det
attribute [local congr] bind_c cond_c
variable {md : Md} {h hb hh h' : Heap} {a b k n0 q : Nat} {l c cells out : List Int} {rv lv gv ov v s4 s5 s6 s7 s9 : Value} {row ops : List Acc} {es : List (MK × Value)}
theorem St.keep (Y : St hh n0 k a b l rv row lv gv q es) (f : ∀ y, y < hh.length → h'[y]? = hh[y]?) : St h' n0 k a b l rv row lv gv q es :=
  ⟨Y.T.keep fun y hy => f y (Y.T.lt y hy), Y.L.keep (.inr (f _ (Y.L.lo.resolve_left Y.nl).2)), Y.nl, Y.G.keep (Y.G.lo.imp id fun g => f _ g.2), (f q (lt_of Y.Q)).trans Y.Q, Y.gq, Y.dL, Y.dG, Y.M⟩
theorem app_z {x : Value} {b : Nat} (X : Sl h 1 encU x []) {α : Type} (kk : Value → Heap → Option α) : aBuiltin Try.prog md .append #[22, 22] [(Value.slice (some ⟨b, 0, none⟩) 0 1), x] h kk = kk ((Value.slice (some ⟨b, 0, none⟩) 0 1)) h := by
  obtain ⟨j, hj, e1, e2⟩ := tI.info
  have src : srcCells 1 x h = some (0, []) := by
    rcases X.is with ⟨rfl, _⟩ | ⟨b, o, kk, rfl, hb, hc, hl2⟩
    · rfl
    · unfold srcCells
      simp only []
      have := rdN_at hb hl2
      rw [hc] at this
      simp only [List.length_nil] at this ⊢
      rw [this]; rfl
  simp only [aBuiltin]
  unfold aAppend
  simp only [tI.hu, hj, tI.hz, e1, e2, src]
  rw [if_pos ⟨tI.hs, tI.hl, tI.hb⟩, if_pos trivial]
/-- The own list: a new one of the cells. -/
theorem own_list (X : Sl h 1 encU v cells) (hl : cells.length ≤ 60) : ∃ lv h', (∀ {α : Type} (kk : Value → Heap → Option α), aBuiltin Try.prog ⟨0, n0⟩ .append #[22, 22] [(Value.slice (some ⟨h.length, 0, none⟩) 0 1), v] (h ++ [Blk.own []]) kk = kk lv h') ∧ SlO h' h.length 1 encU lv cells ∧ lv ≠ .slice none 0 0 ∧ Old h.length h h' := by
  have hb : (h ++ [Blk.own []])[h.length]? = some (.own []) := by simp
  have SE : SlO (h ++ [Blk.own []]) h.length 1 encU ((Value.slice (some ⟨h.length, 0, none⟩) 0 1)) [] := ⟨Sl.whole encU_len hb (by simp [Blk.cells, flat]) (by simp), .inr ⟨Nat.le_refl _, _, hb⟩⟩
  by_cases hc : cells = []
  · subst hc
    exact ⟨_, _, fun kk => app_z X.app kk, SE, by simp, Old.app _ (Nat.le_refl _)⟩
  · obtain ⟨v', h', ea, S', O'⟩ := append_sl (md := ⟨0, n0⟩) (n0 := h.length) tI SE X.app (Nat.zero_le _) (by simp) encU_cell (by simp; omega)
    rw [List.nil_append] at S'
    exact ⟨v', h', fun kk => ea kk, S', fun e => by rw [e] at S'; exact hc S'.nil_of, (Old.app _ (Nat.le_refl _)).trans O'⟩
theorem end_lp {cv : Value} {last : Int} (SV : Sl hh 1 eZ cv out) (hQ : hh[q]? = some (.mp (.one .i64) es)) (M : Mk es (stc row)) (hc : Chg (stc row) out) (ho : out.length ≤ 1000) (hl : h.length ≤ hh.length) : ∀ (m j : Nat) (last : Int), j + m = out.length → (∀ p x, j ≤ p → out[p]? = some x → last < x) →
    ∃ g, J3_4 C ⟨0, h.length⟩ h s4 (.map (some q)) ((Value.int .i64 last)) ((Value.int .i64 ((j : Int)))) cv ((Value.int .i64 ((out.length : Int)))) ((Value.int .i64 ((j : Int)))) hh = some ((Value.bool true), g) := by
  intro m
  induction m with
  | zero =>
    intro j last hj hlast
    obtain rfl : j = out.length := by omega
    have e1 : ((out.length : Int) == (es.length : Int)) = true := by rw [M.len hc]; simp
    have ml : ∀ {α : Type} (kk : Value → Heap → Option α), aBuiltin Try.prog ⟨0, h.length⟩ .len #[31] [.map (some q)] hh kk = kk ((Value.int .i64 ((es.length : Int)))) hh := fun kk => by
      have : lenOfMap Try.prog #[31] = true := by kernel_rfl
      simp only [aBuiltin, this, aLenM, hQ, cond_true]
    refine ⟨hh.take h.length, ?_⟩
    rw [J3_4_step]
    unfold Jr3_4
    simp only [go_sem, Nat.reduceAdd, Nat.reduceLeDiff, Nat.reduceMul, Int.reduceBEq, Int.reduceBNe, Int.reduceLT, Int.reduceLE, Int.reduceGT, aBin_lss, Int.lt_irrefl, Jk3_4, J3_5, ml, aBin_eql, e1, awake06]
  | succ m ih =>
    intro j last hj hlast
    have hlt : (j : Int) < (out.length : Int) := by omega
    obtain ⟨x, hx⟩ : ∃ x, out[j]? = some x := ⟨out[j]'(by omega), List.getElem?_eq_getElem (by omega)⟩
    obtain ⟨ix, r⟩ := Sl.getI SV hx
    have w : IntKind.wrap .i64 ((j : Int) + 1) = ((j + 1 : Nat) : Int) := by rw [wi (by omega) (by omega)]; rfl
    obtain ⟨pw, mm⟩ := hc.all
    have hxm : x ∈ stc row := (mm x).1 (List.mem_of_getElem? hx)
    have g : mGet es [x] = some ((Value.bool true)) := by rw [M.get, if_pos ⟨x, hxm, rfl⟩]
    have lk : ∀ {α : Type} (kk : Value → Option α), aLookup Try.prog 31 (.map (some q)) ((Value.int .i64 x)) false hh kk = kk ((Value.bool true)) := fun kk => by
      rw [aLookup_p mTB zB keyOf_1 hQ, g]; rfl
    have nle : ¬ x ≤ last := by have := hlast j x (Nat.le_refl _) hx; omega
    obtain ⟨gg, eg⟩ := ih (j + 1) x (by omega) fun p y hp hy => by
      rw [List.pairwise_iff_getElem] at pw
      obtain ⟨hp1, rfl⟩ := List.getElem?_eq_some_iff.1 hy
      obtain ⟨hj1, rfl⟩ := List.getElem?_eq_some_iff.1 hx
      exact pw j p hj1 hp1 (by omega)
    refine ⟨gg, ?_⟩
    rw [J3_4_step]
    unfold Jr3_4
    simp only [go_sem, Nat.reduceAdd, Nat.reduceLeDiff, Nat.reduceMul, Int.reduceBEq, Int.reduceBNe, Int.reduceLT, Int.reduceLE, Int.reduceGT, aBin_lss, hlt, ixSV_p, ix, r, aBin_leq, nle, lk, aUn_not, aBin_add, w]
    exact eg
theorem rows_lp (Y : St hh n0 k a b l rv row lv gv q es) (h0 : h.length ≤ n0) (hn0 : n0 ≤ hh.length) (hr : row.length ≤ 80) (Sp : Sl hh 3 encX v row) : ∀ (m i : Nat), i + m = row.length →
    ∃ g, J3_2 C ⟨0, h.length⟩ h s4 ((Value.pointer (some ⟨k, 0, none⟩))) gv (.map (some q)) v ((Value.int .i64 ((row.length : Int)))) ((Value.int .i64 ((i : Int)))) hh = some ((Value.bool true), g) := by
  intro m
  induction m with
  | zero =>
    intro i hi
    obtain rfl : i = row.length := by omega
    obtain ⟨cv, h1, out, e1, S1, c1, O1⟩ := changed_e (md := ⟨0, h.length⟩) Y.T (Nat.zero_le _) (by show h.length ≤ hh.length; omega) (by omega)
    have Q1 : h1[q]? = some (.mp (.one .i64) es) := (O1.old q (lt_of Y.Q)).trans Y.Q
    have len1 := fun {α : Type} (kk : Value → Option α) => S1.len kk
    have ol : out.length ≤ 1000 := by
      obtain ⟨d, hp, _, rfl⟩ := c1
      have l1 := dd_le d d.size
      have l2 := hp.length_eq
      have l3 : (stc row).length ≤ row.length := by unfold stc; rw [List.length_map]; exact List.length_filter_le _ _
      have l4 : d.toList.length = d.size := by simp
      omega
    have ll := O1.len
    obtain ⟨g, eg⟩ := end_lp (h := h) (s4 := s4) (last := -1) S1 Q1 Y.M c1 ol (by omega) out.length 0 (-1) (by omega) fun p x hp hx => by
      have := Y.M.nn x (((c1.all).2 x).1 (List.mem_of_getElem? hx))
      omega
    refine ⟨g, ?_⟩
    rw [J3_2_step]
    unfold Jr3_2
    simp only [go_sem, Nat.reduceAdd, Nat.reduceLeDiff, Nat.reduceMul, Int.reduceBEq, Int.reduceBNe, Int.reduceLT, Int.reduceLE, Int.reduceGT, aBin_lss, Int.lt_irrefl, Jk3_2, J3_3, e1, len1]
    exact eg
  | succ m ih =>
    intro i hi
    have hlt : (i : Int) < (row.length : Int) := by omega
    obtain ⟨x, hx⟩ : ∃ x, row[i]? = some x := ⟨row[i]'(by omega), List.getElem?_eq_getElem (by omega)⟩
    obtain ⟨i1, _, _, _, n1⟩ := Sl.xcell Sp hx
    obtain ⟨i2, _, _, _, n2⟩ := Sl.xcell Y.G.sl hx
    have w : IntKind.wrap .i64 ((i : Int) + 1) = ((i + 1 : Nat) : Int) := by rw [wi (by omega) (by omega)]; rfl
    obtain ⟨g, eg⟩ := ih (i + 1) (by omega)
    refine ⟨g, ?_⟩
    rw [J3_2_step]
    unfold Jr3_2
    simp only [go_sem, Nat.reduceAdd, Nat.reduceLeDiff, Nat.reduceMul, Int.reduceBEq, Int.reduceBNe, Int.reduceLT, Int.reduceLE, Int.reduceGT, aBin_lss, hlt, i1, i2, n1, n2, neX, aBin_add, w]
    exact eg
theorem traces_law : Law Try.prog cfg 3 [22, 23] := by
  intro h avs ha
  obtain ⟨v, r, rfl, a0, ha⟩ := args_cons ha
  obtain ⟨ov, r, rfl, a1, ha⟩ := args_cons ha
  obtain rfl := args_nil ha
  obtain ⟨cells, SC, wc, hm⟩ := arg_words a0
  obtain ⟨ops, SV, wr, hm'⟩ := arg_accs (by kernel_rfl) (by kernel_rfl) a1
  have len := fun {α : Type} (k : Value → Option α) => SC.len k
  have len' := fun {α : Type} (k : Value → Option α) => SV.len k
  have tk : h.take h.length = h := take_same (Nat.le_refl _)
  rw [call_eq, F3_eq]
  unfold F3
  by_cases h60 : (60 : Int) < cells.length
  · exact ⟨h, by simp only [go_sem, Nat.reduceAdd, Nat.reduceLeDiff, Nat.reduceMul, Int.reduceBEq, Int.reduceBNe, Int.reduceLT, Int.reduceLE, Int.reduceGT, len, gt_iff_lt, h60, awake06, tk]⟩
  by_cases h80 : (80 : Int) < ops.length
  · exact ⟨h, by simp only [go_sem, Nat.reduceAdd, Nat.reduceLeDiff, Nat.reduceMul, Int.reduceBEq, Int.reduceBNe, Int.reduceLT, Int.reduceLE, Int.reduceGT, len, len', gt_iff_lt, h60, aBin_gtr, h80, awake06, tk]⟩
  obtain ⟨h1, x, xb, c, e1, A1, O1, la, lb⟩ := begun06 (cells := cells) ⟨0, h.length⟩ (Nat.zero_le _) SC (by omega)
  have l1 := O1.len
  have lta := lt_of A1.ha
  have ltb := lt_of A1.hb
  obtain ⟨bs, w, wb, e2, W2, gw, gwb⟩ := copy_s (md := ⟨0, h.length⟩) A1 (Nat.zero_le _) (by omega)
  obtain ⟨h2, e2h⟩ : ∃ h2, h2 = h1 ++ bs := ⟨_, rfl⟩
  rw [← e2h] at e2 W2
  have O2 : Old h1.length h1 h2 := by rw [e2h]; exact Old.app _ (Nat.le_refl _)
  have A2 : Ar h2 x xb cells c := A1.same (O2.old x lta) (O2.old xb ltb)
  obtain ⟨h3, k, a, b, e3, T3, l3, f3⟩ := over_e (md := ⟨0, h.length⟩) A2 (Nat.zero_le _) (by omega)
  have O3 : Old h2.length h2 h3 := ⟨l3, f3⟩
  have l2 := O2.len
  have S3 : Sl h3 1 encU v cells := SC.heap fun hl => by rw [f3 _ (by omega), O2.old _ (by omega), O1.old _ hl]
  obtain ⟨lv, h4, e4, L4, nl, O4⟩ := own_list (n0 := h.length) S3 (by omega)
  have l4 := O4.len
  have mk : ∀ {α : Type} (kk : Value → Heap → Option α), aMakeMap Try.prog 31 h4 kk = kk (.map (some h4.length)) (h4 ++ [.mp (.one .i64) []]) := fun kk => aMakeMap_p mTB
  obtain ⟨h5, e5⟩ : ∃ h5, h5 = h4 ++ [Blk.mp (.one .i64) []] := ⟨_, rfl⟩
  have O5 : Old h4.length h4 h5 := by rw [e5]; exact Old.app _ (Nat.le_refl _)
  have l5 := O5.len
  have T4 := T3.keep (h' := h4) fun y hy => O4.old y (T3.lt y hy)
  have T5 := T4.keep (h' := h5) fun y hy => O5.old y (T4.lt y hy)
  have lL := L4.lo.resolve_left nl
  have Y5 : St h5 h2.length k a b cells (.slice none 0 0) [] lv (.slice none 0 0) h4.length [] :=
    ⟨T5, (L4.keep (.inr (O5.old _ lL.2))).mono l3, nl, SlO.nil _ _ encX_len, by rw [e5]; simp, by omega, fun f => by have := T3.lt _ f; omega, .inl rfl, Mk.nil⟩
  have O25 : Old h2.length h2 h5 := O3.trans ((O4.mono l3).trans (O5.mono (by omega)))
  obtain ⟨h6, lf, rvf, row, gv, es, e6, Y6, O6, hr6⟩ := play_lp (h := h) (hb := h2) (cells := cells) (s4 := (Value.bool false)) (s5 := (Value.pointer (some ⟨x, 0, none⟩))) (s6 := (Value.pointer (some ⟨w, 0, none⟩))) (fun g og => SV.heap fun hl => by rw [og.old _ (by omega), O2.old _ (by omega), O1.old _ hl]) (by omega) (by omega) (Nat.le_refl _) ops.length 0 h5 cells _ _ [] _ (by omega) Y5 O25 (by simp) rfl (by omega)
  have l6 := O6.len
  have x6 : Ar h6 x xb cells c := A2.same (O6.old x (by omega)) (O6.old xb (by omega))
  have w6 : Ar h6 w wb cells c := W2.same (O6.old w (lt_of W2.ha)) (O6.old wb (lt_of W2.hb))
  obtain ⟨v7, h7, e7, S7, l7, f7, g7⟩ := row_e (md := ⟨0, h.length⟩) Y6.T (Nat.zero_le _) (by omega)
  have Y7 := Y6.keep (h' := h7) f7
  have x7 := x6.same (f7 x (lt_of x6.ha)) (f7 xb (lt_of x6.hb))
  have w7 := w6.same (f7 w (lt_of w6.ha)) (f7 wb (lt_of w6.hb))
  have eqs := fun (m : Md) => equal_s (md := m) w7 x7 (by omega)
  have tt : decide (cells = cells) = true := decide_eq_true rfl
  rw [tt] at eqs
  have len7 := fun {α : Type} (kk : Value → Option α) => S7.len kk
  have lenG := fun {α : Type} (kk : Value → Option α) => Y7.G.sl.len kk
  have hn7 : h2.length ≤ h7.length := by omega
  obtain ⟨g, eg⟩ := rows_lp (h := h) (s4 := (Value.bool false)) Y7 (by omega) hn7 (by omega) S7 row.length 0 (by omega)
  have uT : Try.prog.underlying 28 = some (.pointer 61) := by kernel_rfl
  refine ⟨g, ?_⟩
  simp only [go_sem, Nat.reduceAdd, Nat.reduceLeDiff, Nat.reduceMul, Int.reduceBEq, Int.reduceBNe, Int.reduceLT, Int.reduceLE, Int.reduceGT, len, len', gt_iff_lt, h60, aBin_gtr, h80, e1, aBin_eqlP uPa, e2, e3, aBin_eqlP uT, e4, mk]
  rw [← e5]
  refine Eq.trans e6 ?_
  unfold J3_1
  simp only [go_sem, Nat.reduceAdd, Nat.reduceLeDiff, Nat.reduceMul, Int.reduceBEq, Int.reduceBNe, Int.reduceLT, Int.reduceLE, Int.reduceGT, e7, len7, lenG, bne_self_eq_false, aBin_eqlP uPa, eqs, aUn_not]
  exact eg
end Go.Det.O
