/- The law of traces: a play of them. -/
import Derived.Test.YtalelfcdhmfgoaaTC
set_option autoImplicit false
set_option linter.unusedVariables false
set_option linter.unusedSimpArgs false
namespace Go.Det.O
open Go.Det.E
open Go.Proofs Go.Det
attribute [local congr] bind_c cond_c
variable {md : Md} {h hb hh h' : Heap} {a b k n0 q : Nat} {l c cells : List Int} {rv lv gv ov s4 s5 s6 : Value} {row ops : List Acc} {es : List (MK × Value)}
theorem mp_put {g : Heap} {x : Int} {α : Type} (kk : Heap → Option α) (hq : g[q]? = some (.mp (.one .i64) es)) (hro : md.ro ≤ q) : aMapPut Try.prog md 31 (.map (some q)) ((Value.int .i64 x)) ((Value.bool true)) g kk = kk (g.set q (.mp (.one .i64) (mPut es [x] ((Value.bool true))))) :=
  aMapPut_p mTB keyOf_1 hq rfl hro
theorem play_lp (SV : ∀ g, Old n0 hb g → Sl g 3 encX ov ops) (hlen : ops.length ≤ 80) (h0 : h.length ≤ n0) (hb0 : n0 ≤ hb.length) : ∀ (m j : Nat) (hh : Heap) (l : List Int) (rv gv : Value) (row : List Acc) (es : List (MK × Value)), j + m = ops.length → St hh n0 k a b l rv row lv gv q es → Old n0 hb hh → row.length ≤ j → l.length = cells.length → cells.length ≤ 60 →
    ∃ hf lf rvf rowf gvf esf, J3_0 C ⟨0, h.length⟩ h s4 s5 s6 ((Value.pointer (some ⟨k, 0, none⟩))) lv gv (.map (some q)) ov ((Value.int .i64 ((ops.length : Int)))) ((Value.int .i64 ((j : Int)))) hh = J3_1 C ⟨0, h.length⟩ h s4 s5 s6 ((Value.pointer (some ⟨k, 0, none⟩))) gvf (.map (some q)) hf ∧
      St hf n0 k a b lf rvf rowf lv gvf q esf ∧ Old n0 hb hf ∧ rowf.length ≤ ops.length := by
  intro m
  induction m with
  | zero =>
    intro j hh l rv gv row es hj Y O hr hl hc
    obtain rfl : j = ops.length := by omega
    refine ⟨hh, l, rv, row, gv, es, ?_, Y, O, hr⟩
    rw [J3_0_step]
    unfold Jr3_0
    simp only [go_sem, Nat.reduceAdd, Nat.reduceLeDiff, Nat.reduceMul, Int.reduceBEq, Int.reduceBNe, Int.reduceLT, Int.reduceLE, Int.reduceGT, aBin_lss, Int.lt_irrefl, Jk3_0]
  | succ m ih =>
    intro j hh l rv gv row es hj Y O hr hl hc
    have hlt : (j : Int) < (ops.length : Int) := by omega
    obtain ⟨o, hx⟩ : ∃ o, ops[j]? = some o := ⟨ops[j]'(by omega), List.getElem?_eq_getElem (by omega)⟩
    have S0 := SV hh O
    have ix := fun {α : Type} (kk : Value → Option α) => S0.ix (i := (j : Int)) (by omega) hlt kk
    have el := S0.elem hx
    have ol := O.len
    have g1 : h.length ≤ hh.length := by omega
    have st3 := fun (h' : Heap) (kk : Heap → Option (((Value × Value × Value × Value × Value × Value × Value × Value × Value × Value) × Heap) ⊕ (Exit × (Value × Value × Value × Value × Value × Value × Value × Value × Value × Value) × Heap))) => st_N ⟨0, h.length⟩ 3 hh.length 0 (encX o) h' kk rfl rfl
    have w : IntKind.wrap .i64 ((j : Int) + 1) = ((j + 1 : Nat) : Int) := by rw [wi (by omega) (by omega)]; rfl
    obtain ⟨h6, e6⟩ : ∃ h6, h6 = hh ++ [Blk.own (encX o)] := ⟨_, rfl⟩
    have b6 : h6[hh.length]? = some (.own (encX o)) := by rw [e6]; simp
    have w6 : wrN ⟨0, h.length⟩ (hh ++ [Blk.own [(Value.bool false), (Value.int .i64 0), (Value.int .u64 0)]]) hh.length 0 [(Value.bool o.s), (Value.int .i64 o.i), (Value.int .u64 o.v)] = some h6 := by
      rw [e6]; simp only [go_sem, Nat.reduceAdd, Nat.reduceLeDiff, Nat.reduceMul, Int.reduceBEq, Int.reduceBNe, Int.reduceLT, Int.reduceLE, Int.reduceGT, g1]
    have Y6 : St h6 n0 k a b l rv row lv gv q es := by rw [e6]; exact Y.app _
    have F6 : Free h6 k a b rv lv gv q hh.length := by rw [e6]; exact Y.end_ _
    have O6 : Old n0 hb h6 := by rw [e6]; exact O.trans (Old.app _ (by omega))
    have l6 := O6.len
    have hn6 : n0 ≤ h6.length := by omega
    have len := fun {α : Type} (kk : Value → Option α) => Y6.L.sl.len kk
    have q0 : rd h6 hh.length 0 = some ((Value.bool o.s)) := by rw [rd_own b6]; rfl
    have q1 : rd h6 hh.length 1 = some ((Value.int .i64 o.i)) := by rw [rd_own b6]; rfl
    have q2 : rd h6 hh.length 2 = some ((Value.int .u64 o.v)) := by rw [rd_own b6]; rfl
    by_cases hi : inR l o.i
    · have hi0 : 0 ≤ o.i := hi.1
      have hi1 : o.i < (l.length : Int) := hi.2
      cases hs : o.s
      · rw [hs] at q0
        obtain ⟨h7, rv', e7, T7, l7, f7, g7⟩ := tload_e (md := ⟨0, h.length⟩) Y6.T (Nat.zero_le _) h0 hn6 (by omega) o.i
        rw [if_pos hi] at T7
        obtain ⟨L7, G7, Q7, dL7, dG7, fr7⟩ := Y6.tr T7 l7 f7 g7
        obtain ⟨F7, x7⟩ := fr7 _ F6
        have b7 : h7[hh.length]? = some (.own (encX o)) := x7.trans b6
        have r1 : rd h7 hh.length 1 = some ((Value.int .i64 o.i)) := by rw [rd_own b7]; rfl
        obtain ⟨ixu, ru⟩ := Sl.ureadI L7.sl hi
        obtain ⟨_, ru6⟩ := Sl.ureadI Y6.L.sl hi
        obtain ⟨gv', h8, ea, Y8, l8, f8⟩ := St.more (md := ⟨0, h.length⟩) Y6.nl Y6.gq T7 L7 Q7 dL7 G7 dG7 (by rw [stc_app, show stc [(⟨false, o.i, getI l o.i⟩ : Acc)] = [] from rfl, List.append_nil]; exact Y6.M) (Nat.zero_le _) (by omega) (by omega)
        have ea' : ∀ {α : Type} (kk : Value → Heap → Option α), aBuiltin Try.prog ⟨0, h.length⟩ .append #[30, 30] [gv, (Value.slice (some ⟨h7.length, 0, none⟩) 1 3)] (h7 ++ [Blk.own [(Value.bool false), (Value.int .i64 o.i), (Value.int .u64 (getI l o.i))]]) kk = kk gv' h8 := fun kk => ea kk
        obtain ⟨hf, lf, rvf, rowf, gvf, esf, e', R⟩ := ih (j + 1) h8 l rv' gv' _ es (by omega) Y8 ⟨by omega, fun y hy => by
          have Fy := Y6.low hn6 hy
          obtain ⟨Fy7, e1⟩ := fr7 y Fy
          rw [f8 y Fy7, e1, O6.old y hy]⟩ (by simp; omega) hl hc
        refine ⟨hf, lf, rvf, rowf, gvf, esf, ?_, R⟩
        rw [J3_0_step]
        unfold Jr3_0
        simp only [go_sem, Nat.reduceAdd, Nat.reduceLeDiff, Nat.reduceMul, Int.reduceBEq, Int.reduceBNe, Int.reduceLT, Int.reduceLE, Int.reduceGT, aBin_lss, hlt, ix, el, st3, w6, q0, q1, ge_iff_le, hi0, len, hi1, e7, r1, cLE_t, ixu, ru, ru6, bne_self_eq_false, ea', aBin_add, w]
        exact e'
      · rw [hs] at q0
        obtain ⟨h7, rv', e7, T7, l7, f7, g7⟩ := tstore_e (md := ⟨0, h.length⟩) Y6.T (Nat.zero_le _) h0 hn6 (by omega) o.i o.v
        rw [if_pos hi] at T7
        obtain ⟨L7, G7, Q7, dL7, dG7, fr7⟩ := Y6.tr T7 l7 f7 g7
        obtain ⟨F7, x7⟩ := fr7 _ F6
        have b7 : h7[hh.length]? = some (.own (encX o)) := x7.trans b6
        have r71 : rd h7 hh.length 1 = some ((Value.int .i64 o.i)) := by rw [rd_own b7]; rfl
        have r72 : rd h7 hh.length 2 = some ((Value.int .u64 o.v)) := by rw [rd_own b7]; rfl
        obtain ⟨ixu, _⟩ := Sl.ureadI L7.sl hi
        obtain ⟨h8, w8, L8, f8, l8⟩ := SlO.uput (md := ⟨0, h.length⟩) L7 (Nat.zero_le _) hi o.v
        have oL := L7.own.resolve_left Y6.nl
        have nLq : slB lv ≠ q := by obtain ⟨_, cs, e⟩ := oL; exact ne_mp e Q7
        have b8 : h8[hh.length]? = some (.own (encX o)) := (f8 _ F7.2.2.1).trans b7
        have r81 : rd h8 hh.length 1 = some ((Value.int .i64 o.i)) := by rw [rd_own b8]; rfl
        have Q8 : h8[q]? = some (.mp (.one .i64) es) := (f8 q (Ne.symm nLq)).trans Q7
        have T8 := T7.keep (h' := h8) fun y hy => f8 y fun e => dL7 (e ▸ hy)
        have G8 : SlO h8 n0 3 encX gv row := G7.keep (dG7.imp id fun d => f8 _ d.2)
        obtain ⟨h9, e9⟩ : ∃ h9, h9 = h8.set q (.mp (.one .i64) (mPut es [o.i] ((Value.bool true)))) := ⟨_, rfl⟩
        have f9 : ∀ y, y ≠ q → h9[y]? = h8[y]? := fun y hy => by rw [e9]; exact set_else (Ne.symm hy)
        have Q9 : h9[q]? = some (.mp (.one .i64) (mPut es [o.i] ((Value.bool true)))) := by rw [e9]; exact set_here Q8
        have l9 : h9.length = h8.length := by rw [e9]; simp
        have T9 := T8.keep (h' := h9) fun y hy => f9 y fun e => by obtain ⟨cs, e2⟩ := Tr.own T8 y hy; exact ne_mp e2 Q8 e
        have G9 : SlO h9 n0 3 encX gv row := G8.keep (G8.own.imp id fun ⟨_, cs, e2⟩ => f9 _ (ne_mp e2 Q8))
        have L9 : SlO h9 n0 1 encU lv (putI l o.i o.v) := L8.keep (.inr (f9 _ nLq))
        have b9 : h9[hh.length]? = some (.own (encX o)) := (f9 _ F7.2.2.2.1).trans b8
        have r91 : rd h9 hh.length 1 = some ((Value.int .i64 o.i)) := by rw [rd_own b9]; rfl
        have r92 : rd h9 hh.length 2 = some ((Value.int .u64 o.v)) := by rw [rd_own b9]; rfl
        obtain ⟨gv', h10, ea, Y10, l10, f10⟩ := St.more (md := ⟨0, h.length⟩) Y6.nl Y6.gq T9 L9 Q9 dL7 G9 dG7 (by rw [stc_app]; exact Y6.M.put hi0) (Nat.zero_le _) (by omega) (by omega)
        have ea' : ∀ {α : Type} (kk : Value → Heap → Option α), aBuiltin Try.prog ⟨0, h.length⟩ .append #[30, 30] [gv, (Value.slice (some ⟨h9.length, 0, none⟩) 1 3)] (h9 ++ [Blk.own [(Value.bool true), (Value.int .i64 o.i), (Value.int .u64 o.v)]]) kk = kk gv' h10 := fun kk => ea kk
        have pm : ∀ {α : Type} (kk : Heap → Option α), aMapPut Try.prog ⟨0, h.length⟩ 31 (.map (some q)) ((Value.int .i64 o.i)) ((Value.bool true)) h8 kk = kk h9 := fun kk => by rw [e9]; exact mp_put kk Q8 (Nat.zero_le _)
        obtain ⟨hf, lf, rvf, rowf, gvf, esf, e', R⟩ := ih (j + 1) h10 _ rv' gv' _ _ (by omega) Y10 ⟨by omega, fun y hy => by
          have Fy := Y6.low hn6 hy
          obtain ⟨Fy7, e1⟩ := fr7 y Fy
          rw [f10 y ⟨by have := Fy7.1; omega, Fy7.2⟩, f9 y Fy7.2.2.2.1, f8 y Fy7.2.2.1, e1, O6.old y hy]⟩ (by simp; omega) (by rw [putI_len]; exact hl) hc
        refine ⟨hf, lf, rvf, rowf, gvf, esf, ?_, R⟩
        rw [J3_0_step]
        unfold Jr3_0
        simp only [go_sem, Nat.reduceAdd, Nat.reduceLeDiff, Nat.reduceMul, Int.reduceBEq, Int.reduceBNe, Int.reduceLT, Int.reduceLE, Int.reduceGT, aBin_lss, hlt, ix, el, st3, w6, q0, q1, q2, ge_iff_le, hi0, len, hi1, e7, r71, r72, ixu, w8, r81, pm, r91, r92, ea', aBin_add, w]
        exact e'
    · cases hs : o.s
      · rw [hs] at q0
        obtain ⟨h7, rv', e7, T7, l7, f7, g7⟩ := tload_e (md := ⟨0, h.length⟩) Y6.T (Nat.zero_le _) h0 hn6 (by omega) o.i
        rw [if_neg hi, List.append_nil] at T7
        rw [getI_out hi] at e7
        obtain ⟨L7, G7, Q7, dL7, dG7, fr7⟩ := Y6.tr T7 l7 f7 g7
        have Y7 : St h7 n0 k a b l rv' row lv gv q es := ⟨T7, L7, Y6.nl, G7, Q7, Y6.gq, dL7, dG7, Y6.M⟩
        obtain ⟨hf, lf, rvf, rowf, gvf, esf, e', R⟩ := ih (j + 1) h7 l rv' gv _ es (by omega) Y7 ⟨by omega, fun y hy => by
          obtain ⟨Fy7, e1⟩ := fr7 y (Y6.low hn6 hy)
          rw [e1, O6.old y hy]⟩ (by omega) hl hc
        refine ⟨hf, lf, rvf, rowf, gvf, esf, ?_, R⟩
        rw [J3_0_step]
        unfold Jr3_0
        by_cases hi0 : 0 ≤ o.i
        · have hi1 : ¬ o.i < (l.length : Int) := fun e => hi ⟨hi0, e⟩
          simp only [go_sem, Nat.reduceAdd, Nat.reduceLeDiff, Nat.reduceMul, Int.reduceBEq, Int.reduceBNe, Int.reduceLT, Int.reduceLE, Int.reduceGT, aBin_lss, hlt, ix, el, st3, w6, q0, q1, ge_iff_le, hi0, len, hi1, e7, bne_self_eq_false, aBin_add, w]
          exact e'
        · simp only [go_sem, Nat.reduceAdd, Nat.reduceLeDiff, Nat.reduceMul, Int.reduceBEq, Int.reduceBNe, Int.reduceLT, Int.reduceLE, Int.reduceGT, aBin_lss, hlt, ix, el, st3, w6, q0, q1, ge_iff_le, hi0, e7, bne_self_eq_false, aBin_add, w]
          exact e'
      · rw [hs] at q0
        obtain ⟨h7, rv', e7, T7, l7, f7, g7⟩ := tstore_e (md := ⟨0, h.length⟩) Y6.T (Nat.zero_le _) h0 hn6 (by omega) o.i o.v
        rw [if_neg hi, List.append_nil, putI_out hi] at T7
        obtain ⟨L7, G7, Q7, dL7, dG7, fr7⟩ := Y6.tr T7 l7 f7 g7
        have Y7 : St h7 n0 k a b l rv' row lv gv q es := ⟨T7, L7, Y6.nl, G7, Q7, Y6.gq, dL7, dG7, Y6.M⟩
        obtain ⟨hf, lf, rvf, rowf, gvf, esf, e', R⟩ := ih (j + 1) h7 l rv' gv _ es (by omega) Y7 ⟨by omega, fun y hy => by
          obtain ⟨Fy7, e1⟩ := fr7 y (Y6.low hn6 hy)
          rw [e1, O6.old y hy]⟩ (by omega) hl hc
        refine ⟨hf, lf, rvf, rowf, gvf, esf, ?_, R⟩
        rw [J3_0_step]
        unfold Jr3_0
        by_cases hi0 : 0 ≤ o.i
        · have hi1 : ¬ o.i < (l.length : Int) := fun e => hi ⟨hi0, e⟩
          simp only [go_sem, Nat.reduceAdd, Nat.reduceLeDiff, Nat.reduceMul, Int.reduceBEq, Int.reduceBNe, Int.reduceLT, Int.reduceLE, Int.reduceGT, aBin_lss, hlt, ix, el, st3, w6, q0, q1, q2, ge_iff_le, hi0, len, hi1, e7, aBin_add, w]
          exact e'
        · simp only [go_sem, Nat.reduceAdd, Nat.reduceLeDiff, Nat.reduceMul, Int.reduceBEq, Int.reduceBNe, Int.reduceLT, Int.reduceLE, Int.reduceGT, aBin_lss, hlt, ix, el, st3, w6, q0, q1, q2, ge_iff_le, hi0, e7, aBin_add, w]
          exact e'
end Go.Det.O
