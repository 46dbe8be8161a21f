/- Takes and gives, each to its end, are those of a pile. -/
import Derived.Test.YtfckdafeeoibhaaS3
set_option autoImplicit false
set_option linter.unusedVariables false
set_option linter.unusedSimpArgs false
namespace Go.Det.E
open Go.Proofs Go.Det
attribute [local congr] bind_c cond_c
variable {md : Md} {h hh h' : Heap} {a b k q : Nat} {l c : List Int} {V T : Int} {n : Nat} {v v' : Value} {xs ys : List Int}
theorem Sl.read {v : Value} (S : Sl h 1 encI v xs) {i : Int} {x : Int} (h0 : 0 ≤ i) (hx : xs[i.toNat]? = some x) :
    (∀ {α : Type} (kk : Value → Option α), ixS 1 v i kk = kk ((Value.pointer (some ⟨slB v, slO v + i.toNat, none⟩)))) ∧ rd h (slB v) (slO v + i.toNat) = some ((Value.int .i64 x)) := by
  have h1 : i < xs.length := by have := (List.getElem?_eq_some_iff.1 hx).1; omega
  refine ⟨fun kk => ?_, ?_⟩
  · rw [S.ix h0 h1 kk, Nat.mul_one]
  · have := S.cell hx (j := 0) (by decide)
    rw [Nat.mul_one, Nat.add_zero] at this
    exact this
theorem Sl.readn {v : Value} (S : Sl h 1 encI v xs) {k : Nat} {x : Int} (hx : xs[k]? = some x) :
    (∀ {α : Type} (kk : Value → Option α), ixS 1 v (k : Int) kk = kk ((Value.pointer (some ⟨slB v, slO v + k, none⟩)))) ∧ rd h (slB v) (slO v + k) = some ((Value.int .i64 x)) := by
  have := Sl.read S (i := (k : Int)) (x := x) (by omega) (by simpa using hx)
  simpa using this
theorem same_loop {s4 : Value} (S1 : Sl hh 1 encI v xs) (S2 : Sl hh 1 encI v' xs) (hlen : xs.length < 1000000) : ∀ (m k : Nat), k + m = xs.length →
    J17_0 C md h v v' s4 ((Value.int .i64 ((xs.length : Int)))) ((Value.int .i64 ((k : Int)))) hh = some ((Value.bool true), h) := by
  intro m
  induction m with
  | zero =>
    intro k hk
    obtain rfl : k = xs.length := by omega
    rw [J17_0_step]
    unfold Jr17_0
    simp only [go_sem, Nat.reduceAdd, Nat.reduceLeDiff, Nat.reduceMul, Int.reduceBEq, Int.reduceBNe, Int.reduceLT, Int.reduceLE, Int.reduceGT, aBin_lss, Int.lt_irrefl, Jk17_0]
  | succ m ih =>
    intro k hk
    have hlt : (k : Int) < (xs.length : Int) := by omega
    obtain ⟨x, hx⟩ : ∃ x, xs[k]? = some x := ⟨xs[k]'(by omega), List.getElem?_eq_getElem (by omega)⟩
    obtain ⟨i1, r1⟩ := Sl.readn S1 hx
    obtain ⟨i2, r2⟩ := Sl.readn S2 hx
    have w : IntKind.wrap .i64 ((k : Int) + 1) = ((k + 1 : Nat) : Int) := by rw [wi (by omega) (by omega)]; rfl
    rw [J17_0_step]
    unfold Jr17_0
    simp only [go_sem, Nat.reduceAdd, Nat.reduceLeDiff, Nat.reduceMul, Int.reduceBEq, Int.reduceBNe, Int.reduceLT, Int.reduceLE, Int.reduceGT, aBin_lss, hlt, i1, r1, i2, r2, bne_self_eq_false, aBin_add, w]
    exact ih (k + 1) (by omega)
theorem same_s (S1 : Sl hh 1 encI v xs) (S2 : Sl hh 1 encI v' xs) (hlen : xs.length < 1000000) (md : Md) : C md 17 [v, v'] hh = some ((Value.bool true), hh) := by
  have l1 := fun {α : Type} (k : Value → Option α) => S1.len k
  have l2 := fun {α : Type} (k : Value → Option α) => S2.len k
  rw [C, call_eq, F17_eq]
  unfold F17
  simp only [go_sem, Nat.reduceAdd, Nat.reduceLeDiff, Nat.reduceMul, Int.reduceBEq, Int.reduceBNe, Int.reduceLT, Int.reduceLE, Int.reduceGT, l1, l2, bne_self_eq_false]
  exact same_loop S1 S2 hlen xs.length 0 (by omega)
theorem without_loop {s4 : Value} {s : Int} {h0 : Heap} (hro : md.ro ≤ hh.length) (hsv : v = .slice none 0 0 ∨ slB v < hh.length) (S1 : Sl hh 1 encI v xs) (hlen : xs.length < 1000000) : ∀ (m k : Nat) (s5 : Value) (h' : Heap), k + m = xs.length → hh.length ≤ h'.length → (∀ y, y < hh.length → h'[y]? = hh[y]?) →
    SlO h' hh.length 1 encI s5 ((xs.take k).filter (· != s)) →
    ∃ v' h2, J22_0 C md h0 ((Value.int .i64 s)) s4 s5 v ((Value.int .i64 ((xs.length : Int)))) ((Value.int .i64 ((k : Int)))) h' = some (v', h2) ∧ SlO h2 hh.length 1 encI v' (xs.filter (· != s)) ∧ hh.length ≤ h2.length ∧ ∀ y, y < hh.length → h2[y]? = hh[y]? := by
  intro m
  induction m with
  | zero =>
    intro k s5 h' hk hl f S5
    obtain rfl : k = xs.length := by omega
    rw [List.take_length] at S5
    refine ⟨s5, h', ?_, S5, hl, f⟩
    rw [J22_0_step]
    unfold Jr22_0
    simp only [go_sem, Nat.reduceAdd, Nat.reduceLeDiff, Nat.reduceMul, Int.reduceBEq, Int.reduceBNe, Int.reduceLT, Int.reduceLE, Int.reduceGT, aBin_lss, Int.lt_irrefl, Jk22_0]
  | succ m ih =>
    intro k s5 h' hk hl f S5
    have hlt : (k : Int) < (xs.length : Int) := by omega
    obtain ⟨x, hx⟩ : ∃ x, xs[k]? = some x := ⟨xs[k]'(by omega), List.getElem?_eq_getElem (by omega)⟩
    have S1' : Sl h' 1 encI v xs := S1.heap fun hl => f _ hl
    obtain ⟨i1, r1⟩ := Sl.readn S1' hx
    have w : IntKind.wrap .i64 ((k : Int) + 1) = ((k + 1 : Nat) : Int) := by rw [wi (by omega) (by omega)]; rfl
    have tk : xs.take (k + 1) = xs.take k ++ [x] := by rw [List.take_add_one, hx]; rfl
    have hle : ((xs.take k).filter (· != s)).length ≤ k := Nat.le_trans (List.length_filter_le _ _) (by simp; omega)
    cases e : (x != s)
    · obtain ⟨v', h2, e2, S2, l2, f2⟩ := ih (k + 1) s5 h' (by omega) hl f (by rw [tk, List.filter_append]; simpa [e] using S5)
      refine ⟨v', h2, ?_, S2, l2, f2⟩
      rw [J22_0_step]
      unfold Jr22_0
      simp only [go_sem, Nat.reduceAdd, Nat.reduceLeDiff, Nat.reduceMul, Int.reduceBEq, Int.reduceBNe, Int.reduceLT, Int.reduceLE, Int.reduceGT, aBin_lss, hlt, i1, r1, aBin_neq, e, aBin_add, w]
      exact e2
    · obtain ⟨v3, h3, ea, S3, l3, f3⟩ := append_own2 (md := md) (ys := [x]) tInts S5 hro hl (cs := [(Value.int .i64 x)]) (by simp [flat]) (by simp) rfl (by simp; omega)
      have s5b := S5.lo
      have f3' : ∀ y, y < hh.length → h3[y]? = hh[y]? := fun y hy => (f3 y (by omega) (s5b.imp id fun q => by omega)).trans (f y hy)
      obtain ⟨v', h2, e2, S2, l2, f2⟩ := ih (k + 1) v3 h3 (by omega) (by omega) f3' (by rw [tk, List.filter_append]; simpa [e] using S3.mono hl)
      refine ⟨v', h2, ?_, S2, l2, f2⟩
      rw [J22_0_step]
      unfold Jr22_0
      simp only [List.length_cons, List.length_nil, Nat.zero_add] at ea
      simp only [go_sem, Nat.reduceAdd, Nat.reduceLeDiff, Nat.reduceMul, Int.reduceBEq, Int.reduceBNe, Int.reduceLT, Int.reduceLE, Int.reduceGT, aBin_lss, hlt, i1, r1, aBin_neq, e, ea, aBin_add, w]
      exact e2
theorem without_e (hro : md.ro ≤ hh.length) (hsv : v = .slice none 0 0 ∨ slB v < hh.length) (S1 : Sl hh 1 encI v xs) (hlen : xs.length < 1000000) (s : Int) :
    ∃ v' h2, C md 22 [v, (Value.int .i64 s)] hh = some (v', h2) ∧ SlO h2 hh.length 1 encI v' (xs.filter (· != s)) ∧ hh.length ≤ h2.length ∧ ∀ y, y < hh.length → h2[y]? = hh[y]? := by
  have l1 := fun {α : Type} (k : Value → Option α) => S1.len k
  obtain ⟨v', h2, e2, S2, l2, f2⟩ := without_loop (md := md) (s4 := .slice none 0 0) (s := s) (h0 := hh) hro hsv S1 hlen xs.length 0 (.slice none 0 0) hh (by omega) (Nat.le_refl _) (fun _ _ => rfl) (by simpa using SlO.nil _ _ encI_len)
  refine ⟨v', h2, ?_, S2, l2, f2⟩
  rw [C, call_eq, F22_eq]
  unfold F22
  simp only [go_sem, Nat.reduceAdd, Nat.reduceLeDiff, Nat.reduceMul, Int.reduceBEq, Int.reduceBNe, Int.reduceLT, Int.reduceLE, Int.reduceGT, l1]
  exact e2
theorem gstep3 {V S T s hd : Int} (md : Md) (p : Value) (hk : h[k]? = some (.own (gvC V S T s 3 hd))) : C md 21 [(Value.pointer (some ⟨k, 0, none⟩)), p] h = some ((Value.bool true), h) := by
  have r3 : rd h k 4 = some ((Value.int .i64 3)) := by rw [rd_own hk]; rfl
  have d := fun (m : Md) => gdone_s m hk
  rw [C, call_eq, F21_eq]
  unfold F21
  simp only [go_sem, Nat.reduceAdd, Nat.reduceLeDiff, Nat.reduceMul, Int.reduceBEq, Int.reduceBNe, Int.reduceLT, Int.reduceLE, Int.reduceGT, r3, d, take_same (Nat.le_refl h.length)]
end Go.Det.E
