/- Values: the law of their texts. -/
import Derived.Test.YtbliaopehpcpbaaDoorK5
set_option autoImplicit false
set_option linter.unusedVariables false
set_option linter.unusedSimpArgs false
namespace Go.Det.E
open Go.Proofs Go.Det
attribute [local congr] bind_c cond_c
variable {md : Md} {h hh h' h0 : Heap} {x y : Raw} {l : List Raw} {v w a b s2 s4 : Value} {n m : Nat}
/-- The text of a list's j-th. -/
abbrev tx (l : List Raw) (j : Nat) : List UInt8 := match l[j]? with | some x => txt x | none => []
theorem tx_len (hr : ∀ x ∈ l, RawOk x) (j : Nat) : (tx l j).length ≤ 140737488355328 := by
  unfold tx
  cases h : l[j]? with
  | none => simp
  | some x => exact txt_len (hr x (List.mem_of_getElem? h))
theorem tx_at {j : Nat} (h : l[j]? = some x) : tx l j = txt x := by unfold tx; rw [h]
theorem says_lp (SV : Sl hh 4 encR v l) (hr : ∀ x ∈ l, RawOk x) (hlen : l.length ≤ 60) (hro : md.ro ≤ hh.length) (hlim : md.lim ≤ hh.length) : ∀ (m j : Nat) (k : Heap), j + m = l.length → Old hh.length hh k →
    ∃ k', J6_0 C md h0 v s2 s4 (.string (bs (sayA (tx l) j))) v ((Value.int .i64 ((l.length : Int)))) ((Value.int .i64 ((j : Int)))) k = J6_1 C md h0 v s2 (.string (bs (sayA (tx l) l.length))) k' ∧ Old hh.length hh k' := by
  intro m
  induction m with
  | zero =>
    intro j k hj O
    obtain rfl : j = l.length := by omega
    refine ⟨k, ?_, O⟩
    rw [J6_0_step]
    unfold Jr6_0
    simp only [go_sem, Nat.reduceAdd, Nat.reduceLeDiff, Nat.reduceMul, Int.reduceBEq, Int.reduceBNe, Int.reduceLT, Int.reduceLE, Int.reduceGT, aBin_lss, Int.lt_irrefl, Jk6_0]
  | succ m ih =>
    intro j k hj O
    have hlt : (j : Int) < (l.length : Int) := by omega
    obtain ⟨x, hx⟩ : ∃ x, l[j]? = some x := ⟨l[j]'(by omega), List.getElem?_eq_getElem (by omega)⟩
    have hxo := hr x (List.mem_of_getElem? hx)
    have S0 : Sl k 4 encR v l := SV.heap fun hl => O.old _ hl
    have ix := fun {α : Type} (kk : Value → Option α) => S0.ix (i := (j : Int)) (by omega) hlt kk
    have el := S0.elem hx
    have ol := O.len
    have w1 : IntKind.wrap .i64 ((j : Int) + 1) = ((j + 1 : Nat) : Int) := by rw [IntKind.wrap_i64]; omega
    have stx := fun (h' : Heap) (kk : Heap → Option (((Value × Value × Value × Value × Value × Value × Value) × Heap) ⊕ (Exit × (Value × Value × Value × Value × Value × Value × Value) × Heap))) => st_N md 4 k.length 0 (encR x) h' kk rfl rfl
    obtain ⟨h6, e6⟩ : ∃ h6, h6 = k ++ [Blk.own (encR x)] := ⟨_, rfl⟩
    have b6 : h6[k.length]? = some (.own (encR x)) := by rw [e6]; simp
    have q6 : rdN h6 k.length 0 4 = some (encR x) := by rw [rdN_own b6 (by simp)]; rfl
    have w6 : wrN md (k ++ [Blk.own [(Value.int .i64 0), (Value.int .i64 0), .string ⟨#[]⟩, .int .i32 0]]) k.length 0 (encR x) = some h6 := by
      have g1 : md.ro ≤ k.length := by omega
      have g2 : md.lim ≤ k.length := by omega
      rw [e6]; simp only [go_sem, Nat.reduceAdd, Nat.reduceLeDiff, Nat.reduceMul, Int.reduceBEq, Int.reduceBNe, Int.reduceLT, Int.reduceLE, Int.reduceGT, g1, g2]
    have O6 : Old hh.length hh h6 := by rw [e6]; exact O.trans (Old.app _ ol)
    have te := fun (m : Md) (g : Heap) => text_s hxo m g
    have q := sayA_len (ts := tx l) (j := j) (fun i _ => tx_len hr i)
    have ll : j * (140737488355328 + 1) ≤ 60 * (140737488355328 + 1) := Nat.mul_le_mul_right _ (by omega)
    have tb := txt_len hxo
    have ti := tx_at hx
    obtain ⟨k', e', O'⟩ := ih (j + 1) h6 (by omega) O6
    refine ⟨k', ?_, O'⟩
    rw [J6_0_step]
    unfold Jr6_0
    by_cases h0 : j = 0
    · have ng : ¬ ((j : Int) > 0) := by omega
      have ad : ∀ {α : Type} (k : Value → Option α), aBin Tryd.prog .add 9 (.string (bs (sayA (tx l) j))) (.string (bs (txt x))) k = k (.string (bs (sayA (tx l) (j + 1)))) := fun k => by
        rw [add_S (by omega), sayA, if_pos h0, ti]
      unfold J6_0b0
      simp only [go_sem, Nat.reduceAdd, Nat.reduceLeDiff, Nat.reduceMul, Int.reduceBEq, Int.reduceBNe, Int.reduceLT, Int.reduceLE, Int.reduceGT, aBin_lss, hlt, ixSV_p, ix, el, stx, w6, q6, aBin_gtr, ng, te, ad, aBin_add, w1]
      exact e'
    · have ng : ((j : Int) > 0) := by omega
      have a1 : ∀ {α : Type} (k : Value → Option α), aBin Tryd.prog .add 9 (.string (bs (sayA (tx l) j))) (.string ⟨#[32]⟩) k = k (.string (bs (sayA (tx l) j ++ [32]))) := fun k => add_S (m := [32]) (by simp only [List.length_cons, List.length_nil]; omega) k
      have ad : ∀ {α : Type} (k : Value → Option α), aBin Tryd.prog .add 9 (.string (bs (sayA (tx l) j ++ [32]))) (.string (bs (txt x))) k = k (.string (bs (sayA (tx l) (j + 1)))) := fun k => by
        rw [add_S (by simp only [List.length_append, List.length_cons, List.length_nil]; omega), sayA, if_neg h0, ti]
      unfold J6_0b0
      simp only [go_sem, Nat.reduceAdd, Nat.reduceLeDiff, Nat.reduceMul, Int.reduceBEq, Int.reduceBNe, Int.reduceLT, Int.reduceLE, Int.reduceGT, aBin_lss, hlt, ixSV_p, ix, el, stx, w6, q6, aBin_gtr, ng, a1, te, ad, aBin_add, w1]
      exact e'
theorem bs_2 {α : Type} {v w : Value} (hv : v.cells.toList = [v]) (hw : w.cells.toList = [w]) (h : Heap) (k : Value → Heap → Option α) : aBuildSlice Tryd.prog 33 2 [(0, v), (1, w)] h k = k ((Value.slice (some ⟨h.length, 0, none⟩) 2 1)) (h ++ [.own [v, w]]) := by
  obtain ⟨j, hj, e1, e2⟩ := tM.info
  unfold aBuildSlice
  simp only [tM.hu, hj, tM.hz, e1]
  rw [if_pos ⟨rfl, by decide, by decide⟩, if_pos tM.hsc]
  simp [repL, fillL, hv, hw, lay]
/-- The text of a list that was made of parts. -/
theorem say_raws (S : Sl h 1 encM v l) (hr : ∀ x ∈ l, RawOk x) (hlen : l.length ≤ 60) (md : Md) : C md 22 [.iface 33 v] h = some (.string (bs (sayA (tx l) l.length ++ [41])), h) := by
  have ll : l.length * (140737488355328 + 1) ≤ 60 * (140737488355328 + 1) := Nat.mul_le_mul_right _ hlen
  have l1 : (l.map mv).length = l.length := List.length_map ..
  have l2 : (l.map mv).length * (140737488355328 + 1) + 2 ≤ 9223372036854775807 := l1 ▸ Nat.le_trans (Nat.add_le_add_right ll 2) (by decide)
  have := say_l (ts := tx l) (Sl.vals S) (B := 140737488355328) l2 (fun i w hw m => by
    rw [List.getElem?_map] at hw
    cases hx : l[i]? with
    | none => rw [hx] at hw; cases hw
    | some x =>
      rw [hx] at hw; cases hw
      rw [say_m (hr x (List.mem_of_getElem? hx)), tx_at hx]) (fun i _ => tx_len hr i) md
  simpa using this
theorem says_law : Law Tryd.prog cfg 6 [23, 24] := by
  intro h avs ha
  obtain ⟨v, r, rfl, a0, ha⟩ := args_cons ha
  obtain ⟨w, r, rfl, a1, ha⟩ := args_cons ha
  obtain rfl := args_nil ha
  obtain ⟨x, rfl, hx⟩ := arg_raw a0
  obtain ⟨l, SV, hr, hm⟩ := arg_raws a1
  have len := fun {α : Type} (k : Value → Option α) => SV.len k
  rw [call_eq, F6_eq]
  unfold F6
  by_cases h60 : (60 : Int) < l.length
  · exact ⟨h, by simp only [go_sem, Nat.reduceAdd, Nat.reduceLeDiff, Nat.reduceMul, Int.reduceBEq, Int.reduceBNe, Int.reduceLT, Int.reduceLE, Int.reduceGT, len, gt_iff_lt, h60, awake03]⟩
  have gt : ¬ (l.length : Int) > 60 := by omega
  obtain ⟨h1, e1⟩ : ∃ h1, h1 = h ++ [Blk.own [(Value.int .i64 x.k), (Value.int .i64 x.n), .string x.s, .int .i32 x.r]] := ⟨_, rfl⟩
  have b1 : h1[h.length]? = some (.own (encR x)) := by rw [e1]; simp
  have l1 : h1.length = h.length + 1 := by rw [e1]; simp
  have S1 : Sl h1 4 encR w l := by rw [e1]; exact SV.app
  obtain ⟨k, eL, Ok⟩ := says_lp (md := ⟨0, h.length⟩) (h0 := h) (s2 := (Value.pointer (some ⟨h.length, 0, none⟩))) (s4 := .bool false) S1 hr (by omega) (Nat.zero_le _) (by show h.length ≤ h1.length; omega) l.length 0 h1 (by omega) (Old.refl _ _)
  have lk' := Ok.len
  have Sk : Sl k 4 encR w l := S1.heap fun hl => Ok.old _ hl
  have q4 : rdN k h.length 0 4 = some [(Value.int .i64 x.k), (Value.int .i64 x.n), .string x.s, .int .i32 x.r] := by rw [rdN_own (by rw [Ok.old _ (by omega)]; exact b1) (by simp)]; rfl
  obtain ⟨v2, h2, e2, S2, O2⟩ := list_s ⟨0, h.length⟩ (Nat.zero_le _) (by show h.length ≤ k.length; omega) Sk (by omega)
  have l2 := O2.len
  obtain ⟨v3, h3, e3, S3, O3⟩ := list_s ⟨0, h.length⟩ (h := h2) (Nat.zero_le _) (by show h.length ≤ h2.length; omega) (Sk.heap fun hl => O2.old _ hl) (by omega)
  have l3 := O3.len
  have p4 : rdN h3 h.length 0 4 = some [(Value.int .i64 x.k), (Value.int .i64 x.n), .string x.s, .int .i32 x.r] := by rw [rdN_own (by rw [O3.old _ (by omega), O2.old _ (by omega), Ok.old _ (by omega)]; exact b1) (by simp)]; rfl
  have mk := fun (m : Md) (g : Heap) => made_s m g x
  have te := fun (m : Md) (g : Heap) => text_s hx m g
  have sm := fun (m : Md) (g : Heap) => say_m hx m g
  have s2 := fun (m : Md) => say_raws S2.sl hr (by omega) m
  have bsl := fun {α : Type} (kk : Value → Heap → Option α) => bs_2 (v := .iface 33 v3) rfl (cells_mv x) h3 kk
  obtain ⟨h4, e4⟩ : ∃ h4, h4 = h3 ++ [Blk.own [.iface 33 v3, mv x]] := ⟨_, rfl⟩
  have p3 : rdN h2 h.length 0 4 = some [(Value.int .i64 x.k), (Value.int .i64 x.n), .string x.s, .int .i32 x.r] := by rw [rdN_own (by rw [O2.old _ (by omega), Ok.old _ (by omega)]; exact b1) (by simp)]; rfl
  have p5 : rdN h4 h.length 0 4 = some [(Value.int .i64 x.k), (Value.int .i64 x.n), .string x.s, .int .i32 x.r] := by rw [rdN_own (by rw [e4, List.getElem?_append_left (by omega), O3.old _ (by omega), O2.old _ (by omega), Ok.old _ (by omega)]; exact b1) (by simp)]; rfl
  have S4 : Sl h4 1 eV ((Value.slice (some ⟨h3.length, 0, none⟩) 2 1)) [.iface 33 v3, mv x] := by
    rw [e4]; exact Sl.whole (fun _ => rfl) (by rw [List.getElem?_append_right (Nat.le_refl _), Nat.sub_self]; rfl) rfl rfl
  have S34 : Sl h4 1 encM v3 l := by rw [e4]; exact S3.sl.app
  have Q := sayA_len (ts := tx l) (j := l.length) (fun i _ => tx_len hr i)
  have ll : l.length * (140737488355328 + 1) ≤ 60 * (140737488355328 + 1) := Nat.mul_le_mul_right _ (by omega)
  have tl := txt_len hx
  have s5 := fun (m : Md) => say_l (ts := fun i => match i with | 0 => sayA (tx l) l.length ++ [41] | _ => txt x) (B := 61 * 140737488355329) S4 (by simp) (fun i w hw m => by
    match i, hw with
    | 0, hw => cases hw; exact say_raws S34 hr (by omega) m
    | 1, hw => cases hw; exact say_m hx m h4) (fun i _ => by
    match i with
    | 0 => simp only [List.length_append, List.length_cons, List.length_nil]; omega
    | _ + 1 => show (txt x).length ≤ _; omega) m
  obtain ⟨W, hW⟩ : ∃ W, W = sayA (tx l) l.length ++ [41] := ⟨_, rfl⟩
  have lW : W.length ≤ 10000000000000000 := by rw [hW]; simp only [List.length_append, List.length_cons, List.length_nil]; omega
  have s6 : ∀ m : Md, C m 22 [.iface 33 ((Value.slice (some ⟨h3.length, 0, none⟩) 2 1))] h4 = some (.string (bs (((([40] ++ W) ++ [32]) ++ txt x) ++ [41])), h4) := fun m => by rw [hW]; exact s5 m
  have A0 : ∀ {α : Type} (k : Value → Option α), aBin Tryd.prog .add 9 (.string (bs (sayA (tx l) l.length))) (.string ⟨#[41]⟩) k = k (.string (bs W)) := fun k => by rw [hW]; exact add_S (m := [41]) (by simp only [List.length_cons, List.length_nil]; omega) k
  have A1 : ∀ {α : Type} (k : Value → Option α), aBin Tryd.prog .add 9 (.string ⟨#[40]⟩) (.string (bs W)) k = k (.string (bs ([40] ++ W))) := fun k => add_S (l := [40]) (by simp only [List.length_cons, List.length_nil]; omega) k
  have A2 : ∀ {α : Type} (k : Value → Option α), aBin Tryd.prog .add 9 (.string (bs ([40] ++ W))) (.string ⟨#[32]⟩) k = k (.string (bs (([40] ++ W) ++ [32]))) := fun k => add_S (m := [32]) (by simp only [List.length_append, List.length_cons, List.length_nil]; omega) k
  have A3 : ∀ {α : Type} (k : Value → Option α), aBin Tryd.prog .add 9 (.string (bs (([40] ++ W) ++ [32]))) (.string (bs (txt x))) k = k (.string (bs ((([40] ++ W) ++ [32]) ++ txt x))) := fun k => add_S (by simp only [List.length_append, List.length_cons, List.length_nil]; omega) k
  have A4 : ∀ {α : Type} (k : Value → Option α), aBin Tryd.prog .add 9 (.string (bs ((([40] ++ W) ++ [32]) ++ txt x))) (.string ⟨#[41]⟩) k = k (.string (bs (((([40] ++ W) ++ [32]) ++ txt x) ++ [41]))) := fun k => add_S (m := [41]) (by simp only [List.length_append, List.length_cons, List.length_nil]; omega) k
  rw [← hW] at s2
  refine ⟨h4.take h.length, ?_⟩
  have z0 : ((0 : Nat) : Int) = 0 := rfl
  have sz : (bs (sayA (tx l) 0)) = ⟨#[40]⟩ := rfl
  rw [z0, sz] at eL
  simp only [go_sem, Nat.reduceAdd, Nat.reduceLeDiff, Nat.reduceMul, Int.reduceBEq, Int.reduceBNe, Int.reduceLT, Int.reduceLE, Int.reduceGT, len, gt, ← e1]
  rw [eL]
  unfold J6_1
  generalize hB1 : ([40] ++ W) = W1 at *
  generalize hB2 : (W1 ++ [32]) = W2 at *
  generalize hB3 : (W2 ++ txt x) = W3 at *
  generalize hB4 : (W3 ++ [41]) = W4 at *
  simp only [go_sem, Nat.reduceAdd, Nat.reduceLeDiff, Nat.reduceMul, Int.reduceBEq, Int.reduceBNe, Int.reduceLT, Int.reduceLE, Int.reduceGT, A0, q4, mk, sm, te, eq_S, beq_self_eq_true, e2, s2, e3, p4, bsl, ← e4, s6, A1, A2, p5, A3, A4, awake03, cLE_t, p3]
end Go.Det.E
