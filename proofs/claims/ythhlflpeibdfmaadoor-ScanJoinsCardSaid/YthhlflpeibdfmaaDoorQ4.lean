/- Scanning: the end of a row of like runes. -/
import Derived.Test.YthhlflpeibdfmaaDoorQ3
set_option autoImplicit false
set_option linter.unusedVariables false
set_option linter.unusedSimpArgs false
namespace Go.Det.E
open Go.Proofs Go.Det
attribute [local congr] bind_c cond_c
variable {md : Md} {h hh h' h0 : Heap} {l : List Tok} {t : List Int} {k : Int} {f n m n0 : Nat} {v w tv s2 : Value}
theorem more {ε : Type} {h : Heap} {n0 sz : Nat} {enc : ε → List Value} {v : Value} {xs : List ε} (S : SlO h n0 sz enc v xs) (bs : Heap) : SlO (h ++ bs) n0 sz enc v xs :=
  S.at fun x _ hx => List.getElem?_append_left hx
/-- One more token. -/
theorem app_T (S : SlO h n0 1 encT s2 l) (hro : md.ro ≤ n0) (hn0 : n0 ≤ h.length) (hl : l.length ≤ 100000) (x : Tok) :
    ∃ v' h', (∀ {α : Type} (kk : Value → Heap → Option α), aBuiltin Tryd.prog md .append #[23, 23] [s2, (Value.slice (some ⟨h.length, 0, none⟩) 1 1)] (h ++ [Blk.own [tokV x]]) kk = kk v' h') ∧ SlO h' h.length 1 encT v' (l ++ [x]) ∧ h.length < h'.length ∧
      ∀ y, y < h.length → (s2 = .slice none 0 0 ∨ y ≠ slB s2) → h'[y]? = h[y]? := by
  obtain ⟨v', h', e, S', hlt, ho⟩ := append_own2 (md := md) (ys := [x]) tT S hro hn0 (cs := [tokV x]) (by simp [flat]) (by simp) (encT_cell x) (by simp; omega)
  exact ⟨v', h', fun kk => e kk, S', hlt, ho⟩
/-- What ends a row. -/
theorem end_s (S : SlO h n0 1 encT s2 l) (hro : md.ro ≤ n0) (hn0 : n0 ≤ h.length) (St : Sl h 1 encI tv t) (hd : k = 2 → ∀ r ∈ t, 48 ≤ r ∧ r ≤ 57) (hl : l.length ≤ 100000) :
    ∃ v' h', C md 21 [.agg #[(Value.int .i64 k), (Value.int .i64 ((f : Int))), tv], s2] h = some ((Value.tuple #[v', (Value.int .i64 (if (fin l k t).isSome = true then 0 else 41))]), h') ∧ (∀ l', fin l k t = some l' → SlO h' n0 1 encT v' l' ∧ (v' = s2 ∨ h.length ≤ slB v')) ∧ h.length ≤ h'.length ∧
      ∀ y, y < h.length → (s2 = .slice none 0 0 ∨ y ≠ slB s2) → h'[y]? = h[y]? := by
  obtain ⟨h1, e1⟩ : ∃ h1, h1 = h ++ [Blk.own [(Value.int .i64 k), (Value.int .i64 ((f : Int))), tv]] := ⟨_, rfl⟩
  have b1 : h1[h.length]? = some (.own [(Value.int .i64 k), (Value.int .i64 ((f : Int))), tv]) := by rw [e1]; simp
  have l1 : h1.length = h.length + 1 := by rw [e1]; simp
  have q0 : rd h1 h.length 0 = some ((Value.int .i64 k)) := by rw [rd_own b1]; rfl
  have q2 : rd h1 h.length 2 = some tv := by rw [rd_own b1]; rfl
  have q3 : rdN h1 h.length 0 3 = some [(Value.int .i64 k), (Value.int .i64 ((f : Int))), tv] := by rw [rdN_own b1 (by simp)]; rfl
  have S1 : SlO h1 n0 1 encT s2 l := by rw [e1]; exact more S _
  have T1 : Sl h1 1 encI tv t := by rw [e1]; exact St.app
  have keep : ∀ y, y < h.length → h1[y]? = h[y]? := fun y hy => by rw [e1]; exact List.getElem?_append_left hy
  by_cases k2 : k = 2
  · have b2 : (k == 2) = true := by rw [k2]; rfl
    have nm := fun (m : Md) => number_s (k := k) (f := f) T1 (hd k2) m
    cases hb : bad t
    · rw [hb] at nm
      have ef : fin l k t = some (l ++ [.n (val t)]) := by unfold fin; rw [if_pos k2, hb]; rfl
      obtain ⟨v', h', ea, S', hlt, ho⟩ := app_T (md := md) S1 hro (by omega) hl (.n (val t))
      refine ⟨v', h', ?_, fun l' hl' => ?_, by omega, fun y hy hs => (ho y (by omega) hs).trans (keep y hy)⟩
      · rw [ef, C, call_eq, F21_eq]
        unfold F21
        have ea' : ∀ {α : Type} (kk : Value → Heap → Option α), aBuiltin Tryd.prog md .append #[23, 23] [s2, (Value.slice (some ⟨h1.length, 0, none⟩) 1 1)] (h1 ++ [Blk.own [.iface 3 (.int .i64 (val t))]]) kk = kk v' h' := ea
        simp only [go_sem, Nat.reduceAdd, Nat.reduceLeDiff, Nat.reduceMul, Int.reduceBEq, Int.reduceBNe, Int.reduceLT, Int.reduceLE, Int.reduceGT, ← e1, q0, b2, q3, nm, Bool.false_eq_true, if_false, ea', Option.isSome_some, if_true]
      · rw [ef] at hl'; cases hl'
        exact ⟨S'.mono (by omega), .inr (by
          rcases S'.lo with e | ⟨h1, _⟩
          · have := SlO.nil_of (e ▸ S'); simp at this
          · omega)⟩
    · rw [hb] at nm
      have ef : fin l k t = none := by unfold fin; rw [if_pos k2, hb]; rfl
      refine ⟨.slice none 0 0, h1, ?_, fun l' hl' => (by rw [ef] at hl'; cases hl'), by omega, fun y hy _ => keep y hy⟩
      rw [ef, C, call_eq, F21_eq]
      unfold F21
      simp only [go_sem, Nat.reduceAdd, Nat.reduceLeDiff, Nat.reduceMul, Int.reduceBEq, Int.reduceBNe, Int.reduceLT, Int.reduceLE, Int.reduceGT, ← e1, q0, b2, q3, nm, if_true, Option.isSome_none, Bool.false_eq_true, if_false]
  · have b2 : (k == 2) = false := by simpa using k2
    by_cases k3 : k = 3
    · have b3 : (k == 3) = true := by rw [k3]; rfl
      have cv := fun {α : Type} (kk : Value → Option α) => conv_s T1 kk
      have ef : fin l k t = some (l ++ [.s (encs t)]) := by unfold fin; rw [if_neg k2, if_pos k3]
      obtain ⟨v', h', ea, S', hlt, ho⟩ := app_T (md := md) S1 hro (by omega) hl (.s (encs t))
      refine ⟨v', h', ?_, fun l' hl' => ?_, by omega, fun y hy hs => (ho y (by omega) hs).trans (keep y hy)⟩
      · rw [ef, C, call_eq, F21_eq]
        unfold F21
        have ea' : ∀ {α : Type} (kk : Value → Heap → Option α), aBuiltin Tryd.prog md .append #[23, 23] [s2, (Value.slice (some ⟨h1.length, 0, none⟩) 1 1)] (h1 ++ [Blk.own [.iface 9 (.string (bs (encs t)))]]) kk = kk v' h' := ea
        simp only [go_sem, Nat.reduceAdd, Nat.reduceLeDiff, Nat.reduceMul, Int.reduceBEq, Int.reduceBNe, Int.reduceLT, Int.reduceLE, Int.reduceGT, ← e1, q0, b2, b3, q2, cv, ea', Option.isSome_some, if_true]
      · rw [ef] at hl'; cases hl'
        exact ⟨S'.mono (by omega), .inr (by
          rcases S'.lo with e | ⟨h1, _⟩
          · have := SlO.nil_of (e ▸ S'); simp at this
          · omega)⟩
    · have b3 : (k == 3) = false := by simpa using k3
      have ef : fin l k t = some l := by unfold fin; rw [if_neg k2, if_neg k3]
      refine ⟨s2, h1, ?_, fun l' hl' => ?_, by omega, fun y hy _ => keep y hy⟩
      · rw [ef, C, call_eq, F21_eq]
        unfold F21
        simp only [go_sem, Nat.reduceAdd, Nat.reduceLeDiff, Nat.reduceMul, Int.reduceBEq, Int.reduceBNe, Int.reduceLT, Int.reduceLE, Int.reduceGT, ← e1, q0, b2, b3, Option.isSome_some, if_true]
      · rw [ef] at hl'; cases hl'
        exact ⟨S1, .inl rfl⟩
end Go.Det.E
