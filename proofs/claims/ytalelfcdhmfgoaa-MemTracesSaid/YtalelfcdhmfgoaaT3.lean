/- Traces: what their functions do. -/
import Derived.Test.YtalelfcdhmfgoaaT1
set_option autoImplicit false
set_option linter.unusedVariables false
set_option linter.unusedSimpArgs false
namespace Go.Det
/-- What a store of a value into a block that this call made leaves. -/
theorem put_l {md : Md} {h : Heap} {b : Nat} {cs : List Value} (hb : h[b]? = some (.own cs)) (hro : md.ro ≤ b) (hlim : md.lim ≤ b) (i : Nat) (vs cs' : List Value) (hi : i + vs.length ≤ cs.length) (e : lay cs i vs = cs') :
    ∃ h', wrN md h b i vs = some h' ∧ h'[b]? = some (.own cs') ∧ h'.length = h.length ∧ ∀ x, x ≠ b → h'[x]? = h[x]? := by
  refine ⟨h.set b (.own cs'), ?_, set_here hb, by simp, fun x hx => set_else (Ne.symm hx)⟩
  unfold wrN
  rw [hb]
  simp only []
  rw [if_pos hi, if_pos ⟨hro, .inl hlim⟩, e]
end Go.Det
namespace Go.Det.E
open Go.Proofs Go.Det
attribute [local congr] bind_c cond_c
/-- The blocks of a trace. -/
def ft (a b k : Nat) (rv : Value) (y : Nat) : Prop := y = a ∨ y = b ∨ y = k ∨ (rv ≠ .slice none 0 0 ∧ y = slB rv)
/-- A trace at its block: its arena, its row. -/
structure Tr (hh : Heap) (n0 k a b : Nat) (l : List Int) (rv : Value) (row : List Acc) : Prop where
  A : ∃ c, Ar hh a b l c
  K : hh[k]? = some (.own [(Value.pointer (some ⟨a, 0, none⟩)), rv])
  R : SlO hh n0 3 encX rv row
  ga : n0 ≤ a
  gb : n0 ≤ b
  gk : n0 ≤ k
  ka : k ≠ a
  kb : k ≠ b
  dR : rv = .slice none 0 0 ∨ (slB rv ≠ a ∧ slB rv ≠ b ∧ slB rv ≠ k)
variable {md : Md} {h hh h' : Heap} {a b k n0 : Nat} {l c : List Int} {v rv : Value} {row : List Acc}
theorem Tr.ge (T : Tr hh n0 k a b l rv row) : ∀ y, ft a b k rv y → n0 ≤ y := by
  intro y hy
  rcases hy with rfl | rfl | rfl | ⟨hn, rfl⟩
  · exact T.ga
  · exact T.gb
  · exact T.gk
  · exact (T.R.lo.resolve_left hn).1
theorem Tr.lt (T : Tr hh n0 k a b l rv row) : ∀ y, ft a b k rv y → y < hh.length := by
  obtain ⟨c, A⟩ := T.A
  intro y hy
  rcases hy with rfl | rfl | rfl | ⟨hn, rfl⟩
  · exact lt_of A.ha
  · exact lt_of A.hb
  · exact lt_of T.K
  · exact (T.R.lo.resolve_left hn).2
theorem Tr.keep (T : Tr hh n0 k a b l rv row) (f : ∀ y, ft a b k rv y → h'[y]? = hh[y]?) : Tr h' n0 k a b l rv row := by
  obtain ⟨c, A⟩ := T.A
  refine ⟨⟨c, A.same (f a (.inl rfl)) (f b (.inr (.inl rfl)))⟩, (f k (.inr (.inr (.inl rfl)))).trans T.K, T.R.keep ?_, T.ga, T.gb, T.gk, T.ka, T.kb, T.dR⟩
  by_cases hn : rv = .slice none 0 0
  · exact .inl hn
  · exact .inr (f _ (.inr (.inr (.inr ⟨hn, rfl⟩))))
theorem tX : SlT Try.prog 30 37 3 24 [(Value.bool false), (Value.int .i64 0), (Value.int .u64 0)] := ⟨by kernel_rfl, by kernel_rfl, by kernel_rfl, rfl, by decide, by decide, rfl⟩
/-- A trace's row is one longer. -/
theorem Tr.more (T : Tr hh n0 k a b l rv row) (hro : md.ro ≤ n0) (hlim : md.lim ≤ n0) (hn0 : n0 ≤ hh.length) (hlen : row.length ≤ 1000) (x : Acc) :
    ∃ v2 h2 h3, (∀ {α : Type} (kk : Value → Heap → Option α), aBuiltin Try.prog md .append #[30, 30] [rv, (Value.slice (some ⟨hh.length, 0, none⟩) 1 3)] (hh ++ [Blk.own (encX x)]) kk = kk v2 h2) ∧ (∀ {α : Type} (kk : Heap → Option α), st md 1 ((Value.pointer (some ⟨k, 1, none⟩))) v2 h2 kk = kk h3) ∧
      Tr h3 n0 k a b l v2 (row ++ [x]) ∧ hh.length ≤ h3.length ∧ (∀ y, y < hh.length → ¬ ft a b k rv y → h3[y]? = hh[y]?) ∧ (∀ y, ft a b k v2 y → ft a b k rv y ∨ hh.length ≤ y) := by
  obtain ⟨c, A⟩ := T.A
  obtain ⟨v2, h2, ea, S2, l2, f2⟩ := append_own2 (md := md) (ys := [x]) tX T.R hro hn0 (cs := encX x) (by simp [flat]) (by simp) rfl (by simp; omega)
  have lk := lt_of T.K
  have la := lt_of A.ha
  have lb := lt_of A.hb
  have k2 : h2[k]? = some (.own [(Value.pointer (some ⟨a, 0, none⟩)), rv]) := by rw [f2 k lk (T.dR.imp id fun d => Ne.symm d.2.2)]; exact T.K
  have A2 := A.same (f2 a la (T.dR.imp id fun d => Ne.symm d.1)) (f2 b lb (T.dR.imp id fun d => Ne.symm d.2.1))
  obtain ⟨h3, w3, k3, l3, f3⟩ := put_l (md := md) k2 (by have := T.gk; omega) (by have := T.gk; omega) 1 [v2] [(Value.pointer (some ⟨a, 0, none⟩)), v2] (by simp) rfl
  have sl := S2.lo
  have hst : ∀ {α : Type} (kk : Heap → Option α), st md 1 ((Value.pointer (some ⟨k, 1, none⟩))) v2 h2 kk = kk h3 := by
    intro α kk
    rcases S2.sl.is with ⟨e, _⟩ | ⟨b', o', kb, e, _⟩ <;> subst e <;> simp only [go_sem, Nat.reduceAdd, Nat.reduceLeDiff, Nat.reduceMul, Int.reduceBEq, Int.reduceBNe, Int.reduceLT, Int.reduceLE, Int.reduceGT, w3]
  refine ⟨v2, h2, h3, ?_, hst, ⟨⟨c, A2.same (f3 a T.ka.symm) (f3 b T.kb.symm)⟩, k3, (S2.keep (h' := h3) (sl.imp id fun q => f3 _ (by omega))).mono hn0, T.ga, T.gb, T.gk, T.ka, T.kb, sl.imp id fun q => by omega⟩, by omega, ?_, ?_⟩
  · intro α kk
    have := ea kk
    simpa using this
  · intro y hy hf
    rw [f3 y (fun e => hf (.inr (.inr (.inl e)))), f2 y hy]
    by_cases hn : rv = .slice none 0 0
    · exact .inl hn
    · exact .inr fun e => hf (.inr (.inr (.inr ⟨hn, e⟩)))
  · intro y hy
    rcases hy with h | h | h | ⟨hn, h⟩
    · exact .inl (.inl h)
    · exact .inl (.inr (.inl h))
    · exact .inl (.inr (.inr (.inl h)))
    · right; rw [h]; exact (sl.resolve_left hn).1
theorem Tr.arena (T : Tr hh n0 k a b l rv row) {l' c' : List Int} (A : Ar h' a b l' c') (o : Only a b hh h') : Tr h' n0 k a b l' rv row :=
  ⟨⟨c', A⟩, (o.oth k T.ka T.kb).trans T.K, T.R.keep (T.dR.imp id fun d => o.oth _ d.1 d.2.1), T.ga, T.gb, T.gk, T.ka, T.kb, T.dR⟩
/-- What a store of a trace does. -/
theorem tstore_e (T : Tr hh n0 k a b l rv row) (hro : md.ro ≤ n0) (hlim : md.lim ≤ n0) (hn0 : n0 ≤ hh.length) (hlen : row.length ≤ 1000) (i v : Int) :
    ∃ h' rv', C md 8 [(Value.pointer (some ⟨k, 0, none⟩)), (Value.int .i64 i), (Value.int .u64 v)] hh = some ((Value.tuple #[]), h') ∧ Tr h' n0 k a b (putI l i v) rv' (row ++ (if inR l i then [⟨true, i, v⟩] else [])) ∧ hh.length ≤ h'.length ∧
      (∀ y, y < hh.length → ¬ ft a b k rv y → h'[y]? = hh[y]?) ∧ (∀ y, ft a b k rv' y → ft a b k rv y ∨ hh.length ≤ y) := by
  obtain ⟨c, A⟩ := T.A
  have r0 : rd hh k 0 = some ((Value.pointer (some ⟨a, 0, none⟩))) := by rw [rd_own T.K]; rfl
  obtain ⟨h1, e1, A1, o1⟩ := st_x (md := md) A (by have := T.ga; omega) (by have := T.gb; omega) i v
  have T1 := T.arena A1 o1
  have l1 := o1.len
  have r1 : rd h1 k 1 = some rv := by rw [rd_own T1.K]; rfl
  by_cases hi : inR l i
  · rw [if_pos hi]
    have er : erR l i = 0 := if_pos hi
    rw [er] at e1
    obtain ⟨v2, h2, h3, ea, w3, T3, l3, f3, g3⟩ := T1.more (md := md) hro hlim (by omega) hlen ⟨true, i, v⟩
    refine ⟨h3, v2, ?_, T3, by omega, fun y hy hf => ?_, fun y hy => (g3 y hy).imp id fun q => by omega⟩
    · rw [C, call_eq, F8_eq]
      unfold F8
      simp only [encX] at ea
      simp only [go_sem, Nat.reduceAdd, Nat.reduceLeDiff, Nat.reduceMul, Int.reduceBEq, Int.reduceBNe, Int.reduceLT, Int.reduceLE, Int.reduceGT, r0, e1, r1, ea, w3]
    · rw [f3 y (by omega) hf, o1.oth y (fun e => hf (.inl e)) (fun e => hf (.inr (.inl e)))]
  · rw [if_neg hi, List.append_nil]
    have er : erR l i = 20 := if_neg hi
    rw [er] at e1
    refine ⟨h1, rv, ?_, T1, by omega, fun y hy hf => o1.oth y (fun e => hf (.inl e)) (fun e => hf (.inr (.inl e))), fun y hy => .inl hy⟩
    rw [C, call_eq, F8_eq]
    unfold F8
    simp only [go_sem, Nat.reduceAdd, Nat.reduceLeDiff, Nat.reduceMul, Int.reduceBEq, Int.reduceBNe, Int.reduceLT, Int.reduceLE, Int.reduceGT, r0, e1]
/-- What a load of a trace does. -/
theorem tload_e (T : Tr hh n0 k a b l rv row) (hro : md.ro ≤ n0) (hlim : md.lim ≤ n0) (hn0 : n0 ≤ hh.length) (hlen : row.length ≤ 1000) (i : Int) :
    ∃ h' rv', C md 9 [(Value.pointer (some ⟨k, 0, none⟩)), (Value.int .i64 i)] hh = some ((Value.int .u64 (getI l i)), h') ∧ Tr h' n0 k a b l rv' (row ++ (if inR l i then [⟨false, i, getI l i⟩] else [])) ∧ hh.length ≤ h'.length ∧
      (∀ y, y < hh.length → ¬ ft a b k rv y → h'[y]? = hh[y]?) ∧ (∀ y, ft a b k rv' y → ft a b k rv y ∨ hh.length ≤ y) := by
  obtain ⟨c, A⟩ := T.A
  have r0 : rd hh k 0 = some ((Value.pointer (some ⟨a, 0, none⟩))) := by rw [rd_own T.K]; rfl
  obtain ⟨h1, e1, A1, o1⟩ := ld_x (md := md) A (by have := T.ga; omega) i
  have T1 := T.arena A1 o1
  have l1 := o1.len
  have r1 : rd h1 k 1 = some rv := by rw [rd_own T1.K]; rfl
  by_cases hi : inR l i
  · rw [if_pos hi]
    have er : erR l i = 0 := if_pos hi
    rw [er] at e1
    obtain ⟨v2, h2, h3, ea, w3, T3, l3, f3, g3⟩ := T1.more (md := md) hro hlim (by omega) hlen ⟨false, i, getI l i⟩
    refine ⟨h3, v2, ?_, T3, by omega, fun y hy hf => ?_, fun y hy => (g3 y hy).imp id fun q => by omega⟩
    · rw [C, call_eq, F9_eq]
      unfold F9
      simp only [encX] at ea
      simp only [go_sem, Nat.reduceAdd, Nat.reduceLeDiff, Nat.reduceMul, Int.reduceBEq, Int.reduceBNe, Int.reduceLT, Int.reduceLE, Int.reduceGT, r0, e1, r1, ea, w3]
    · rw [f3 y (by omega) hf, o1.oth y (fun e => hf (.inl e)) (fun e => hf (.inr (.inl e)))]
  · rw [if_neg hi, List.append_nil]
    have er : erR l i = 20 := if_neg hi
    rw [er] at e1
    refine ⟨h1, rv, ?_, T1, by omega, fun y hy hf => o1.oth y (fun e => hf (.inl e)) (fun e => hf (.inr (.inl e))), fun y hy => .inl hy⟩
    rw [C, call_eq, F9_eq]
    unfold F9
    simp only [go_sem, Nat.reduceAdd, Nat.reduceLeDiff, Nat.reduceMul, Int.reduceBEq, Int.reduceBNe, Int.reduceLT, Int.reduceLE, Int.reduceGT, r0, e1]
theorem uXs : Try.prog.underlying 30 = some (.slice 37) := by kernel_rfl
theorem slX_some {α : Type} {a : Addr} {n c : Nat} (k : Value → Option α) : aBin Try.prog .eql 30 (.slice (some a) n c) (.slice none 0 0) k = k (.bool false) := by simp [aBin, aEq, uXs]
theorem slX_nil {α : Type} (k : Value → Option α) : aBin Try.prog .eql 30 (.slice none 0 0) (.slice none 0 0) k = k (.bool true) := by simp [aBin, aEq, uXs]
/-- A copy of a row. -/
theorem clone_x (md : Md) (hr : md.ro ≤ hh.length) (S : Sl hh 3 encX rv row) (hlen : row.length ≤ 1000) :
    ∃ v' h', C md 20 [rv] hh = some (v', h') ∧ Sl h' 3 encX v' row ∧ hh.length ≤ h'.length ∧ (∀ y, y < hh.length → h'[y]? = hh[y]?) ∧ (v' = .slice none 0 0 ∨ hh.length ≤ slB v') := by
  rw [C, call_eq, F20_eq]
  unfold F20
  rcases S.is with ⟨rfl, rfl⟩ | ⟨b, o, kk, rfl, hb, hc, hl2⟩
  · exact ⟨.slice none 0 0, hh, by simp only [go_sem, Nat.reduceAdd, Nat.reduceLeDiff, Nat.reduceMul, Int.reduceBEq, Int.reduceBNe, Int.reduceLT, Int.reduceLE, Int.reduceGT, slX_nil], S, Nat.le_refl _, fun _ _ => rfl, .inl rfl⟩
  · have SE : SlO (hh ++ [Blk.own []]) hh.length 3 encX ((Value.slice (some ⟨hh.length, 0, none⟩) 0 3)) [] := by
      have hb : (hh ++ [Blk.own []])[hh.length]? = some (.own []) := by simp
      exact ⟨Sl.whole encX_len hb (by simp [Blk.cells, flat]) (by simp), .inr ⟨Nat.le_refl _, _, hb⟩⟩
    obtain ⟨v', h', ea, S', O'⟩ := append_sl (md := md) (n0 := hh.length) tX SE S.app hr (by simp) encX_cell (by simp; omega)
    have l' := O'.len
    simp only [List.length_append, List.length_cons, List.length_nil] at l'
    refine ⟨v', h', ?_, by simpa using S'.sl, by omega, fun y hy => by rw [O'.old y hy, List.getElem?_append_left hy], S'.lo.imp id fun q => q.1⟩
    simp only [go_sem, Nat.reduceAdd, Nat.reduceLeDiff, Nat.reduceMul, Int.reduceBEq, Int.reduceBNe, Int.reduceLT, Int.reduceLE, Int.reduceGT, slX_some, ea]
theorem row_e (T : Tr hh n0 k a b l rv row) (hr : md.ro ≤ hh.length) (hlen : row.length ≤ 1000) :
    ∃ v' h', C md 10 [(Value.pointer (some ⟨k, 0, none⟩))] hh = some (v', h') ∧ Sl h' 3 encX v' row ∧ hh.length ≤ h'.length ∧ (∀ y, y < hh.length → h'[y]? = hh[y]?) ∧ (v' = .slice none 0 0 ∨ hh.length ≤ slB v') := by
  have r1 : rd hh k 1 = some rv := by rw [rd_own T.K]; rfl
  obtain ⟨v', h', e', r⟩ := clone_x md hr T.R.sl hlen
  refine ⟨v', h', ?_, r⟩
  rw [C, call_eq, F10_eq]
  unfold F10
  simp only [go_sem, Nat.reduceAdd, Nat.reduceLeDiff, Nat.reduceMul, Int.reduceBEq, Int.reduceBNe, Int.reduceLT, Int.reduceLE, Int.reduceGT, r1, e']
theorem bTr {α : Type} {x : Nat} (kk : Value → Option α) : aBuild Try.prog 61 [(0, (Value.pointer (some ⟨x, 0, none⟩)))] kk = kk ((Value.agg (List.toArray ([(Value.pointer (some ⟨x, 0, none⟩)), .slice none 0 0])))) := by kernel_rfl
theorem over_e {x xb : Nat} {c : List Int} (A : Ar hh x xb l c) (hr : md.ro ≤ hh.length) (hm : l.length ≤ 16384) :
    ∃ h' k a b, C md 7 [(Value.pointer (some ⟨x, 0, none⟩))] hh = some ((Value.pointer (some ⟨k, 0, none⟩)), h') ∧ Tr h' hh.length k a b l (.slice none 0 0) [] ∧ hh.length ≤ h'.length ∧ ∀ y, y < hh.length → h'[y]? = hh[y]? := by
  obtain ⟨bs, a, b, e1, A1, ga, gb⟩ := copy_s (md := md) A hr hm
  have la := lt_of A1.ha
  have lb := lt_of A1.hb
  refine ⟨(hh ++ bs) ++ [Blk.own [(Value.pointer (some ⟨a, 0, none⟩)), .slice none 0 0]], (hh ++ bs).length, a, b, ?_, ⟨⟨c, A1.app _⟩, by simp, SlO.nil _ _ encX_len, ga, gb, by simp, by omega, by omega, .inl rfl⟩, by simp, fun y hy => ?_⟩
  · rw [C, call_eq, F7_eq]
    unfold F7
    simp only [go_sem, Nat.reduceAdd, Nat.reduceLeDiff, Nat.reduceMul, Int.reduceBEq, Int.reduceBNe, Int.reduceLT, Int.reduceLE, Int.reduceGT, e1, bTr, cells_agg]
  · rw [List.append_assoc, List.getElem?_append_left hy]
theorem Tr.mono {m : Nat} (T : Tr hh n0 k a b l rv row) (hm : m ≤ n0) : Tr hh m k a b l rv row :=
  ⟨T.A, T.K, T.R.mono hm, by have := T.ga; omega, by have := T.gb; omega, by have := T.gk; omega, T.ka, T.kb, T.dR⟩
/-- What acts make of a trace: the cells, and what comes to the row. -/
def tr : List Int → List Acc → List Int × List Acc
  | l, [] => (l, [])
  | l, o :: os => if o.s = true then ((tr (putI l o.i o.v) os).1, (if inR l o.i then [⟨true, o.i, o.v⟩] else []) ++ (tr (putI l o.i o.v) os).2)
      else ((tr l os).1, (if inR l o.i then [⟨false, o.i, getI l o.i⟩] else []) ++ (tr l os).2)
theorem tr_len : ∀ (os : List Acc) (l : List Int), (tr l os).1.length = l.length ∧ (tr l os).2.length ≤ os.length := by
  intro os
  induction os with
  | nil => intro l; exact ⟨rfl, Nat.le_refl _⟩
  | cons o os ih =>
    intro l
    rw [tr]
    split
    · have := ih (putI l o.i o.v)
      rw [putI_len] at this
      refine ⟨this.1, ?_⟩
      simp only [List.length_append, List.length_cons]
      split <;> simp <;> omega
    · have := ih l
      refine ⟨this.1, ?_⟩
      simp only [List.length_append, List.length_cons]
      split <;> simp <;> omega
/-- A trace's row, replayed. -/
theorem rp_tr : ∀ (os : List Acc) (l : List Int), rp l (tr l os).2 = ((tr l os).1, (tr l os).2.length, true) := by
  intro os
  induction os with
  | nil => intro l; rfl
  | cons o os ih =>
    intro l
    rw [tr]
    split
    · by_cases hi : inR l o.i
      · simp only [if_pos hi, List.cons_append, List.nil_append, rp, ih, List.length_cons, if_true]
      · simp only [if_neg hi, List.nil_append]
        have := ih (putI l o.i o.v)
        rw [putI_out hi] at this ⊢
        exact this
    · by_cases hi : inR l o.i
      · simp only [if_pos hi, List.cons_append, List.nil_append, rp, ih, List.length_cons, if_true, Bool.false_eq_true, if_false]
      · simp only [if_neg hi, List.nil_append]
        exact ih l
end Go.Det.E
