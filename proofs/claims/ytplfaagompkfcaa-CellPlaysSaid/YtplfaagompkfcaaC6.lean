/- An access changes its own cell alone. -/
import Derived.Test.YtplfaagompkfcaaC5
set_option autoImplicit false
set_option linter.unusedVariables false
set_option linter.unusedSimpArgs false
namespace Go.Det.Cell
open Go.Proofs
attribute [local congr] bind_c cond_c
/-- A list that is another one but at one place. -/
def But (i : Int) (l l' : List Int) : Prop := l'.length = l.length ∧ ∀ j : Nat, (j : Int) ≠ i → l'.getD j 0 = l.getD j 0
theorem But.refl (i : Int) (l : List Int) : But i l l := ⟨rfl, fun _ _ => rfl⟩
theorem But.set {i : Int} (h0 : 0 ≤ i) (l : List Int) (x : Int) : But i l (l.set i.toNat x) := by
  refine ⟨by simp, fun j hj => ?_⟩
  have : i.toNat ≠ j := by omega
  simp [List.getD, List.getElem?_set_ne this]
theorem load_a {md : Md} {h : Heap} {a b : Nat} {l c : List Int} (A : Ar h a b l c) (hro : md.ro ≤ a) (i : Int) :
    ∃ h' c' v e, C md 37 [.pointer (some ⟨a, 0, none⟩), .int .i64 i] h = some (.tuple #[.int .u64 v, .int .i64 e], h') ∧ Ar h' a b l c' ∧ Only a b h h' := by
  by_cases hi : 0 ≤ i ∧ i < l.length
  · obtain ⟨h', e, A', o⟩ := load_e A hro hi.1 hi.2; exact ⟨h', _, _, _, e, A', o⟩
  · exact ⟨h, c, _, _, load_n A (by omega), A, Only.refl⟩
theorem store_a {md : Md} {h : Heap} {a b : Nat} {l c : List Int} (A : Ar h a b l c) (hro : md.ro ≤ a) (hrb : md.ro ≤ b) (i v : Int) :
    ∃ h' l' c' e, C md 35 [.pointer (some ⟨a, 0, none⟩), .int .i64 i, .int .u64 v] h = some (.int .i64 e, h') ∧ Ar h' a b l' c' ∧ But i l l' ∧ Only a b h h' := by
  by_cases hi : 0 ≤ i ∧ i < l.length
  · obtain ⟨h', e, A', o⟩ := store_e A hro hrb hi.1 hi.2 v; exact ⟨h', _, _, _, e, A', But.set hi.1 _ _, o⟩
  · exact ⟨h, l, c, _, store_n A (by omega) v, A, But.refl _ _, Only.refl⟩
theorem add_a {md : Md} {h : Heap} {a b : Nat} {l c : List Int} (A : Ar h a b l c) (hro : md.ro ≤ a) (hrb : md.ro ≤ b) (i v : Int) :
    ∃ h' l' c' x e, C md 39 [.pointer (some ⟨a, 0, none⟩), .int .i64 i, .int .u64 v] h = some (.tuple #[.int .u64 x, .int .i64 e], h') ∧ Ar h' a b l' c' ∧ But i l l' ∧ Only a b h h' := by
  by_cases hi : 0 ≤ i ∧ i < l.length
  · obtain ⟨h', e, A', o⟩ := add_e A hro hrb hi.1 hi.2 v; exact ⟨h', _, _, _, _, e, A', But.set hi.1 _ _, o⟩
  · exact ⟨h, l, c, _, _, add_n A (by omega) v, A, But.refl _ _, Only.refl⟩
theorem swap_a {md : Md} {h : Heap} {a b : Nat} {l c : List Int} (A : Ar h a b l c) (hro : md.ro ≤ a) (hrb : md.ro ≤ b) (i was v : Int) :
    ∃ h' l' c' x e, C md 38 [.pointer (some ⟨a, 0, none⟩), .int .i64 i, .int .u64 was, .int .u64 v] h = some (.tuple #[.bool x, .int .i64 e], h') ∧ Ar h' a b l' c' ∧ But i l l' ∧ Only a b h h' := by
  by_cases hi : 0 ≤ i ∧ i < l.length
  · obtain ⟨h', e, A', o⟩ := swap_e A hro hrb hi.1 hi.2 was v
    refine ⟨h', _, _, _, _, e, A', ?_, o⟩
    cases l.getD i.toNat 0 == was
    · exact But.refl _ _
    · exact But.set hi.1 _ _
  · exact ⟨h, l, c, _, _, swap_n A (by omega) was v, A, But.refl _ _, Only.refl⟩
/-- Four blocks may be others now. -/
def Four (a b a' b' : Nat) (h h' : Heap) : Prop := h'.length = h.length ∧ ∀ x, x ≠ a → x ≠ b → x ≠ a' → x ≠ b' → h'[x]? = h[x]?
theorem inner {md : Md} {a b a' b' x n : Nat} {l l' : List Int} {kd i was v kk : Int} {s38 s39 s4 : Value} (hn : l.length = n) (hn40 : n ≤ 40) (hbut : But i l l') (hkd : kd = 1 → l' = l) (ra : md.ro ≤ a) (ra' : md.ro ≤ a')
    (d1 : x ≠ a) (d2 : x ≠ b) (d3 : x ≠ a') (d4 : x ≠ b') (d5 : a ≠ a') (d6 : a ≠ b') (d7 : b ≠ a') (d8 : b ≠ b') : ∀ (m k : Nat) (c c' : List Int) (hh : Heap), k + m = n → Ar hh a b l' c → Ar hh a' b' l c' →
      hh[x]? = some (.own [.int .i64 kd, .int .i64 i, .int .u64 was, .int .u64 v]) →
    ∃ hh' c2, J11_0b1 C md (.int .i64 n) s4 (.pointer (some ⟨a, 0, none⟩)) (.pointer (some ⟨x, 0, none⟩)) (.pointer (some ⟨a', 0, none⟩)) s38 s39 (.int .i64 kk) (.int .i64 n) (.int .i64 k) hh =
      some (.inl ((.int .i64 n, s4, .pointer (some ⟨a, 0, none⟩), s38, s39, .int .i64 (IntKind.wrap .i64 (kk + 1))), hh')) ∧ Ar hh' a b l' c2 ∧ Four a b a' b' hh hh' := by
  intro m
  induction m with
  | zero =>
    intro k c c' hh hk A A' hx
    obtain rfl : k = n := by omega
    refine ⟨hh, c, ?_, A, rfl, fun _ _ _ _ _ => rfl⟩
    rw [J11_0b1_step]
    unfold Jr11_0b1
    simp only [go_sem, Nat.reduceAdd, Nat.reduceLeDiff, Nat.reduceMul, Int.reduceBEq, Int.reduceBNe, Int.reduceLT, Int.reduceLE, Int.reduceGT, aBin_lss, Int.lt_irrefl]
    unfold Jk11_0b1
    simp only [go_sem, Nat.reduceAdd, Nat.reduceLeDiff, Nat.reduceMul, Int.reduceBEq, Int.reduceBNe, Int.reduceLT, Int.reduceLE, Int.reduceGT, aBin_add]
  | succ m ih =>
    intro k c c' hh hk A A' hx
    have hl' : l'.length = n := hbut.1.trans hn
    have hkl : (k : Int) < (n : Int) := by omega
    obtain ⟨h1, e1, A1, o1⟩ := load_e (md := md) A ra (i := (k : Int)) (by omega) (by omega)
    have B1 := A'.only o1 d5.symm d7.symm d6.symm d8.symm
    obtain ⟨h2, e2, B2, o2⟩ := load_e (md := md) B1 ra' (i := (k : Int)) (by omega) (by omega)
    have A2 := A1.only o2 d5 d6 d7 d8
    have hx1 : h1[x]? = some (.own [.int .i64 kd, .int .i64 i, .int .u64 was, .int .u64 v]) := by rw [o1.oth x d1 d2]; exact hx
    have hx2 : h2[x]? = some (.own [.int .i64 kd, .int .i64 i, .int .u64 was, .int .u64 v]) := by rw [o2.oth x d3 d4]; exact hx1
    simp only [Int.toNat_natCast] at e1 e2
    have r1 : rd h2 x 1 = some (.int .i64 i) := by rw [rd_own hx2]; rfl
    have r0 : rd h2 x 0 = some (.int .i64 kd) := by rw [rd_own hx2]; rfl
    have hw : IntKind.wrap .i64 ((k : Int) + 1) = ((k + 1 : Nat) : Int) := by rw [wi (by omega) (by omega)]; rfl
    obtain ⟨h3, c3, e3, A3, f3⟩ := ih (k + 1) _ _ h2 (by omega) A2 B2 hx2
    refine ⟨h3, c3, ?_, A3, ?_, fun y y1 y2 y3 y4 => ?_⟩
    · rw [J11_0b1_step]
      unfold Jr11_0b1
      have q : ∀ z : Int, (z != z) = false := fun z => by simp
      by_cases hki : (k : Int) = i
      · have t1 : ((k : Int) != i) = false := by simp [hki]
        have t2 : ((k : Int) == i) = true := by simp [hki]
        by_cases h1k : kd = 1
        · have := hkd h1k
          rw [this] at e1
          have t3 : (kd == 1) = true := by simp [h1k]
          simp only [go_sem, Nat.reduceAdd, Nat.reduceLeDiff, Nat.reduceMul, Int.reduceBEq, Int.reduceBNe, Int.reduceLT, Int.reduceLE, Int.reduceGT, aBin_lss, hkl, e1, e2, r1, r0, aBin_neq, aBin_eql, t1, t2, t3, q, aBin_add, hw]
          rw [e3]
        · have t3 : (kd == 1) = false := by simp [h1k]
          simp only [go_sem, Nat.reduceAdd, Nat.reduceLeDiff, Nat.reduceMul, Int.reduceBEq, Int.reduceBNe, Int.reduceLT, Int.reduceLE, Int.reduceGT, aBin_lss, hkl, e1, e2, r1, r0, aBin_neq, aBin_eql, t1, t2, t3, q, aBin_add, hw]
          rw [e3]
      · have t1 : ((k : Int) != i) = true := by simp [hki]
        have t2 : ((k : Int) == i) = false := by simp [hki]
        rw [hbut.2 k hki] at e1
        simp only [go_sem, Nat.reduceAdd, Nat.reduceLeDiff, Nat.reduceMul, Int.reduceBEq, Int.reduceBNe, Int.reduceLT, Int.reduceLE, Int.reduceGT, aBin_lss, hkl, e1, e2, r1, r0, aBin_neq, aBin_eql, t1, t2, q, aBin_add, hw]
        rw [e3]
    · rw [f3.1, o2.len, o1.len]
    · rw [f3.2 y y1 y2 y3 y4, o2.oth y y3 y4, o1.oth y y1 y2]
end Go.Det.Cell
