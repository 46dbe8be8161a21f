/- The play of the edges: finding in its list. -/
import Derived.Test.YtocjphligodnfaaG1
set_option autoImplicit false
set_option linter.unusedVariables false
set_option linter.unusedSimpArgs false
namespace Go.Det
/-- The old blocks, but for two, are as they were. -/
structure Near (a b : Nat) (h h' : Heap) : Prop where
  len : h.length ≤ h'.length
  oth : ∀ x, x < h.length → x ≠ a → x ≠ b → h'[x]? = h[x]?
theorem Near.refl {a b : Nat} {h : Heap} : Near a b h h := ⟨Nat.le_refl _, fun _ _ _ _ => rfl⟩
theorem Near.app {a b : Nat} {h h' : Heap} (n : Near a b h h') (bs : Heap) : Near a b h (h' ++ bs) := ⟨by have := n.len; simp; omega, fun x hx h1 h2 => by rw [List.getElem?_append_left (by have := n.len; omega)]; exact n.oth x hx h1 h2⟩
theorem Near.only {a b : Nat} {h h' h'' : Heap} (n : Near a b h h') (o : Only a b h' h'') : Near a b h h'' := ⟨by rw [o.len]; exact n.len, fun x hx h1 h2 => (o.oth x h1 h2).trans (n.oth x hx h1 h2)⟩
theorem Near.take {a b : Nat} {h h' : Heap} (n : Near a b h h') : Only a b h (h'.take h.length) := by
  have := n.len
  refine ⟨by simp; omega, fun x h1 h2 => ?_⟩
  rw [List.getElem?_take]
  split
  · rename_i hx; exact n.oth x hx h1 h2
  · rw [List.getElem?_eq_none (by omega)]
theorem Near.trans {a b : Nat} {h h' h'' : Heap} (n : Near a b h h') (m : Near a b h' h'') : Near a b h h'' := ⟨Nat.le_trans n.len m.len, fun x hx h1 h2 => (m.oth x (by have := n.len; omega) h1 h2).trans (n.oth x hx h1 h2)⟩
theorem Only.near {a b : Nat} {h h' : Heap} (o : Only a b h h') : Near a b h h' := ⟨by rw [o.len]; exact Nat.le_refl _, fun x _ h1 h2 => o.oth x h1 h2⟩
end Go.Det
namespace Go.Det.E
open Go.Proofs Go.Det
attribute [local congr] bind_c cond_c
/-- An edge of the play. -/
structure One where
  s : Int
  u : Int
  v : Int
  lv : Int
  t : Bool
abbrev encE (o : One) : List Value := [(Value.int .i64 o.s), (Value.int .i64 o.u), (Value.int .i64 o.v), (Value.int .i64 o.lv), (Value.bool o.t)]
theorem encE_len (o : One) : (encE o).length = 5 := rfl
/-- The place of the first one that .., from a number on. -/
def ixF (p : One → Bool) : List One → Nat → Int
  | [], _ => -1
  | x :: xs, k => bif p x then k else ixF p xs (k + 1)
theorem ixF_none {p : One → Bool} : ∀ {xs : List One} {k : Nat}, ixF p xs k < 0 → ∀ x ∈ xs, p x = false := by
  intro xs
  induction xs with
  | nil => intro k _ x hx; cases hx
  | cons y xs ih =>
    intro k h x hx
    simp only [ixF] at h
    cases hy : p y
    · rw [hy] at h
      rcases List.mem_cons.1 hx with rfl | hx
      · exact hy
      · exact ih h x hx
    · rw [hy] at h; simp only [cond_true] at h; omega
theorem ixF_some {p : One → Bool} : ∀ {xs : List One} {k : Nat}, 0 ≤ ixF p xs k → ∃ i x, ixF p xs k = ((k + i : Nat) : Int) ∧ xs[i]? = some x ∧ p x = true := by
  intro xs
  induction xs with
  | nil => intro k h; simp [ixF] at h
  | cons y xs ih =>
    intro k h
    simp only [ixF] at h ⊢
    cases hy : p y
    · rw [hy] at h
      obtain ⟨i, x, h1, h2, h3⟩ := ih h
      refine ⟨i + 1, x, ?_, by simpa using h2, h3⟩
      simp only [cond_false]; rw [h1]; congr 1; omega
    · exact ⟨0, y, rfl, rfl, hy⟩
def pS (s : Int) (o : One) : Bool := o.s == s
def pP (u v : Int) (o : One) : Bool := bif o.u == u then o.v == v else false
theorem min_q {α : Type} {md : Md} {a b : Int} {h : Heap} (k : Value → Heap → Option α) : aBuiltin Try.prog md .min #[3, 3] [(Value.int .i64 a), (Value.int .i64 b)] h k = k ((Value.int .i64 (mn a b))) h := rfl
theorem max_q {α : Type} {md : Md} {a b : Int} {h : Heap} (k : Value → Heap → Option α) : aBuiltin Try.prog md .max #[3, 3] [(Value.int .i64 a), (Value.int .i64 b)] h k = k ((Value.int .i64 (mx a b))) h := rfl
theorem slot_loop {h0 : Heap} {v : Value} {all : List One} (s : Int) (s4 : Value) (hm : all.length < 100000) : ∀ (suf : List One) (k : Nat) (hp : Heap), k + suf.length = all.length → all.drop k = suf → Sl hp 5 encE v all → h0.length ≤ hp.length →
    J62_0 C ⟨h0.length, h0.length⟩ h0 ((Value.int .i64 s)) s4 v ((Value.int .i64 ((all.length : Int)))) ((Value.int .i64 ((k : Int)))) hp = some ((Value.int .i64 (ixF (pS s) suf k)), h0) := by
  intro suf
  induction suf with
  | nil =>
    intro k hp hk hd S hl
    obtain rfl : k = all.length := by simpa using hk
    rw [J62_0_step]
    unfold Jr62_0
    simp only [go_sem, Nat.reduceAdd, Nat.reduceLeDiff, Nat.reduceMul, Int.reduceBEq, Int.reduceBNe, Int.reduceLT, Int.reduceLE, Int.reduceGT, aBin_lss, Int.lt_irrefl, Jk62_0, ixF]
  | cons x suf ih =>
    intro k hp hk hd S hl
    simp only [List.length_cons] at hk
    have hlt : (k : Int) < (all.length : Int) := by omega
    have hx : all[k]? = some x := by
      have : (all.drop k)[0]? = some x := by rw [hd]; rfl
      rwa [List.getElem?_drop] at this
    have hd' : all.drop (k + 1) = suf := by rw [← List.drop_drop, hd]; rfl
    have ix := fun {α : Type} (kk : Value → Option α) => S.ix (i := (k : Int)) (by omega) hlt kk
    have el := S.elem hx
    have st5 := fun (hh : Heap) (kk : Heap → Option (((Value × Value × Value × Value × Value) × Heap) ⊕ (Exit × (Value × Value × Value × Value × Value) × Heap))) => st_N ⟨h0.length, h0.length⟩ 5 hp.length 0 (encE x) hh kk rfl rfl
    have w : IntKind.wrap .i64 ((k : Int) + 1) = ((k + 1 : Nat) : Int) := by rw [wi (by omega) (by omega)]; rfl
    have rest := fun bs => ih (k + 1) (hp ++ bs) (by omega) hd' S.app (by simp; omega)
    rw [J62_0_step]
    unfold Jr62_0
    cases hs : (x.s == s)
    · have e : ixF (pS s) (x :: suf) k = ixF (pS s) suf (k + 1) := by simp only [ixF, pS, hs, cond_false]
      rw [e]
      simp only [go_sem, Nat.reduceAdd, Nat.reduceLeDiff, Nat.reduceMul, Int.reduceBEq, Int.reduceBNe, Int.reduceLT, Int.reduceLE, Int.reduceGT, aBin_lss, hlt, ix, el, st5, hl, aBin_eql, hs, aBin_add, w]
      exact rest _
    · have e : ixF (pS s) (x :: suf) k = k := by simp only [ixF, pS, hs, cond_true]
      rw [e]
      simp only [go_sem, Nat.reduceAdd, Nat.reduceLeDiff, Nat.reduceMul, Int.reduceBEq, Int.reduceBNe, Int.reduceLT, Int.reduceLE, Int.reduceGT, aBin_lss, hlt, ix, el, st5, hl, aBin_eql, hs, Jk62_0]
theorem pair_loop {h0 : Heap} {v : Value} {all : List One} (x1 x2 : Int) (s6 : Value) (hm : all.length < 100000) : ∀ (suf : List One) (k : Nat) (hp : Heap), k + suf.length = all.length → all.drop k = suf → Sl hp 5 encE v all → h0.length ≤ hp.length →
    J46_0 C ⟨h0.length, h0.length⟩ h0 ((Value.int .i64 x1)) ((Value.int .i64 x2)) s6 v ((Value.int .i64 ((all.length : Int)))) ((Value.int .i64 ((k : Int)))) hp = some ((Value.int .i64 (ixF (pP (mn x1 x2) (mx x1 x2)) suf k)), h0) := by
  intro suf
  induction suf with
  | nil =>
    intro k hp hk hd S hl
    obtain rfl : k = all.length := by simpa using hk
    rw [J46_0_step]
    unfold Jr46_0
    simp only [go_sem, Nat.reduceAdd, Nat.reduceLeDiff, Nat.reduceMul, Int.reduceBEq, Int.reduceBNe, Int.reduceLT, Int.reduceLE, Int.reduceGT, aBin_lss, Int.lt_irrefl, Jk46_0, ixF]
  | cons x suf ih =>
    intro k hp hk hd S hl
    simp only [List.length_cons] at hk
    have hlt : (k : Int) < (all.length : Int) := by omega
    have hx : all[k]? = some x := by
      have : (all.drop k)[0]? = some x := by rw [hd]; rfl
      rwa [List.getElem?_drop] at this
    have hd' : all.drop (k + 1) = suf := by rw [← List.drop_drop, hd]; rfl
    have ix := fun {α : Type} (kk : Value → Option α) => S.ix (i := (k : Int)) (by omega) hlt kk
    have el := S.elem hx
    have st5 := fun (hh : Heap) (kk : Heap → Option (((Value × Value × Value × Value × Value × Value) × Heap) ⊕ (Exit × (Value × Value × Value × Value × Value × Value) × Heap))) => st_N ⟨h0.length, h0.length⟩ 5 hp.length 0 (encE x) hh kk rfl rfl
    have w : IntKind.wrap .i64 ((k : Int) + 1) = ((k + 1 : Nat) : Int) := by rw [wi (by omega) (by omega)]; rfl
    have rest := fun bs => ih (k + 1) (hp ++ bs) (by omega) hd' S.app (by simp; omega)
    rw [J46_0_step]
    unfold Jr46_0
    cases hs : (x.u == mn x1 x2)
    · have e : ixF (pP (mn x1 x2) (mx x1 x2)) (x :: suf) k = ixF (pP (mn x1 x2) (mx x1 x2)) suf (k + 1) := by simp only [ixF, pP, hs, cond_false]
      rw [e]
      simp only [go_sem, Nat.reduceAdd, Nat.reduceLeDiff, Nat.reduceMul, Int.reduceBEq, Int.reduceBNe, Int.reduceLT, Int.reduceLE, Int.reduceGT, aBin_lss, hlt, ix, el, st5, hl, min_q, max_q, aBin_eql, hs, aBin_add, w]
      exact rest _
    · cases hq : (x.v == mx x1 x2)
      · have e : ixF (pP (mn x1 x2) (mx x1 x2)) (x :: suf) k = ixF (pP (mn x1 x2) (mx x1 x2)) suf (k + 1) := by simp only [ixF, pP, hs, hq, cond_true, cond_false]
        rw [e]
        simp only [go_sem, Nat.reduceAdd, Nat.reduceLeDiff, Nat.reduceMul, Int.reduceBEq, Int.reduceBNe, Int.reduceLT, Int.reduceLE, Int.reduceGT, aBin_lss, hlt, ix, el, st5, hl, min_q, max_q, aBin_eql, hs, hq, aBin_add, w]
        exact rest _
      · have e : ixF (pP (mn x1 x2) (mx x1 x2)) (x :: suf) k = k := by simp only [ixF, pP, hs, hq, cond_true]
        rw [e]
        simp only [go_sem, Nat.reduceAdd, Nat.reduceLeDiff, Nat.reduceMul, Int.reduceBEq, Int.reduceBNe, Int.reduceLT, Int.reduceLE, Int.reduceGT, aBin_lss, hlt, ix, el, st5, hl, min_q, max_q, aBin_eql, hs, hq, Jk46_0]
/-- The play at a block: its lay, its edges' memory, its list. -/
structure Pl (h : Heap) (p a b : Nat) (V S T : Int) (l c : List Int) (v : Value) (all : List One) : Prop where
  hp : h[p]? = some (.own [(Value.int .i64 V), (Value.int .i64 S), (Value.int .i64 T), (Value.int .i64 V), (Value.int .i64 S), (Value.int .i64 T), ifA a, v])
  ar : Ar h a b l c
  sl : SlO h (p + 1) 5 encE v all
  ha : a < p
  hb : b < p
variable {md : Md} {h : Heap} {p a b : Nat} {V S T : Int} {l c : List Int} {v : Value} {all : List One}
theorem slot_s (hp : h[p]? = some (.own [(Value.int .i64 V), (Value.int .i64 S), (Value.int .i64 T), (Value.int .i64 V), (Value.int .i64 S), (Value.int .i64 T), ifA a, v])) (sl : Sl h 5 encE v all) (hm : all.length < 100000) (s : Int) : C md 62 [(Value.pointer (some ⟨p, 0, none⟩)), (Value.int .i64 s)] h = some ((Value.int .i64 (ixF (pS s) all 0)), h) := by
  rw [C, call_eq, F62_eq]
  unfold F62
  have r : rd h p 7 = some v := by rw [rd_at hp]; rfl
  have len := fun (k : Value → Option (Value × Heap)) => sl.len k
  have e := slot_loop (h0 := h) s ((Value.int .i64 0)) hm all 0 h (by omega) rfl sl (Nat.le_refl _)
  simp only [go_sem, Nat.reduceAdd, Nat.reduceLeDiff, Nat.reduceMul, Int.reduceBEq, Int.reduceBNe, Int.reduceLT, Int.reduceLE, Int.reduceGT, r, len]
  exact e
theorem between_s (hp : h[p]? = some (.own [(Value.int .i64 V), (Value.int .i64 S), (Value.int .i64 T), (Value.int .i64 V), (Value.int .i64 S), (Value.int .i64 T), ifA a, v])) (sl : Sl h 5 encE v all) (hm : all.length < 100000) (x y : Int) : C md 46 [(Value.pointer (some ⟨p, 0, none⟩)), (Value.int .i64 x), (Value.int .i64 y)] h = some ((Value.int .i64 (ixF (pP (mn x y) (mx x y)) all 0)), h) := by
  rw [C, call_eq, F46_eq]
  unfold F46
  have r : rd h p 7 = some v := by rw [rd_at hp]; rfl
  have len := fun (k : Value → Option (Value × Heap)) => sl.len k
  have e := pair_loop (h0 := h) x y ((Value.int .i64 0)) hm all 0 h (by omega) rfl sl (Nat.le_refl _)
  simp only [go_sem, Nat.reduceAdd, Nat.reduceLeDiff, Nat.reduceMul, Int.reduceBEq, Int.reduceBNe, Int.reduceLT, Int.reduceLE, Int.reduceGT, r, len]
  exact e
end Go.Det.E
