/- Values: are two one? -/
import Derived.Test.YtbliaopehpcpbaaDoorK1
set_option autoImplicit false
set_option linter.unusedVariables false
set_option linter.unusedSimpArgs false
namespace Go.Det.E
open Go.Proofs Go.Det
attribute [local congr] bind_c cond_c
theorem aBin_eqS {α : Type} {a b : ByteArray} {ty : TypeId} (k : Value → Option α) : aBin Tryd.prog .eql ty (.string a) (.string b) k = k (.bool (a.data.toList == b.data.toList)) := by simp [aBin]
theorem clV_0 {rc : Rec} {md : Md} {g : FuncId} {args : List Value} {h : Heap} {α : Type} (k : Value → Heap → Option α) : clV rc md (.func (.func g) #[] #[]) args h k = cl (rc md g args h) k := by
  unfold clV cl
  simp only [List.append_nil, List.nil_append]
variable {md : Md} {h hh h' : Heap} {x y : Raw} {xs ys l : List Raw} {v a b : Value}
theorem eq_mm (md : Md) (h : Heap) (x y : Raw) : C md 19 [mv x, mv y] h = some (.bool (sm x y), h) := by
  rw [C, call_eq, F19_eq]
  unfold F19
  have ne : ∀ {z : Raw}, z.k ≠ 1 ∧ z.k ≠ 2 ∧ z.k ≠ 3 ∧ z.k ≠ 4 → kd z = 0 := fun {z} g => by unfold kd; rw [if_neg (by omega)]
  have k4 : ∀ {z : Raw}, z.k = 4 → kd z = 0 := fun {z} g => by unfold kd; rw [if_neg (by omega)]
  have k1 : ∀ {z : Raw}, z.k = 1 → kd z = 1 := fun {z} g => by unfold kd; rw [if_pos (by omega), g]
  have k2 : ∀ {z : Raw}, z.k = 2 → kd z = 2 := fun {z} g => by unfold kd; rw [if_pos (by omega), g]
  have k3 : ∀ {z : Raw}, z.k = 3 → kd z = 3 := fun {z} g => by unfold kd; rw [if_pos (by omega), g]
  rcases kc x with ⟨h1, e⟩ | ⟨h1, e⟩ | ⟨h1, e⟩ | ⟨h1, e⟩ | ⟨h1, e⟩
  · obtain ⟨L1, L2, L3, L4⟩ := lk_i x.n
    rcases kc y with ⟨g1, f⟩ | ⟨g1, f⟩ | ⟨g1, f⟩ | ⟨g1, f⟩ | ⟨g1, f⟩ <;> rw [e, f]
    · have nm := fun (m : Md) (g : Heap) => num_s (lk_i y.n) m g
      have q : (y.n == x.n) = sm x y := by simp only [sm, k1 h1, k1 g1]; rw [if_neg (by simp), if_pos trivial]; rw [Bool.eq_iff_iff, beq_iff_eq, beq_iff_eq]; exact eq_comm
      simp only [go_sem, Nat.reduceAdd, Nat.reduceLeDiff, Nat.reduceMul, Int.reduceBEq, Int.reduceBNe, Int.reduceLT, Int.reduceLE, Int.reduceGT, L1, nm, aBin_eql, q]
    · have nm := fun (m : Md) (g : Heap) => num_s (lk_s y.s) m g
      have q : sm x y = false := by simp only [sm, k1 h1, k2 g1]; rfl
      simp only [go_sem, Nat.reduceAdd, Nat.reduceLeDiff, Nat.reduceMul, Int.reduceBEq, Int.reduceBNe, Int.reduceLT, Int.reduceLE, Int.reduceGT, L1, nm, q]
    · have nm := fun (m : Md) (g : Heap) => num_s (lk_r y.r) m g
      have q : sm x y = false := by simp only [sm, k1 h1, k3 g1]; rfl
      simp only [go_sem, Nat.reduceAdd, Nat.reduceLeDiff, Nat.reduceMul, Int.reduceBEq, Int.reduceBNe, Int.reduceLT, Int.reduceLE, Int.reduceGT, L1, nm, q]
    · have nm := fun (m : Md) (g : Heap) => num_s (lk_f (.float .f64 (FloatKind.f64.nearest y.n))) m g
      have q : sm x y = false := by simp only [sm, k1 h1, k4 g1]; rfl
      simp only [go_sem, Nat.reduceAdd, Nat.reduceLeDiff, Nat.reduceMul, Int.reduceBEq, Int.reduceBNe, Int.reduceLT, Int.reduceLE, Int.reduceGT, L1, nm, q]
    · have nm := fun (m : Md) (g : Heap) => num_s lk_z m g
      have q : sm x y = false := by simp only [sm, k1 h1, ne g1]; rfl
      simp only [go_sem, Nat.reduceAdd, Nat.reduceLeDiff, Nat.reduceMul, Int.reduceBEq, Int.reduceBNe, Int.reduceLT, Int.reduceLE, Int.reduceGT, L1, nm, q]
  · obtain ⟨L1, L2, L3, L4⟩ := lk_s x.s
    rcases kc y with ⟨g1, f⟩ | ⟨g1, f⟩ | ⟨g1, f⟩ | ⟨g1, f⟩ | ⟨g1, f⟩ <;> rw [e, f]
    · have nm := fun (m : Md) (g : Heap) => str_s (lk_i y.n) m g
      have q : sm x y = false := by simp only [sm, k2 h1, k1 g1]; rfl
      simp only [go_sem, Nat.reduceAdd, Nat.reduceLeDiff, Nat.reduceMul, Int.reduceBEq, Int.reduceBNe, Int.reduceLT, Int.reduceLE, Int.reduceGT, L1, L2, nm, q]
    · have nm := fun (m : Md) (g : Heap) => str_s (lk_s y.s) m g
      have q : (y.s.data.toList == x.s.data.toList) = sm x y := by simp only [sm, k2 h1, k2 g1]; rw [if_neg (by simp), if_neg (by decide), if_pos trivial]; rw [Bool.eq_iff_iff, beq_iff_eq, beq_iff_eq]; exact eq_comm
      simp only [go_sem, Nat.reduceAdd, Nat.reduceLeDiff, Nat.reduceMul, Int.reduceBEq, Int.reduceBNe, Int.reduceLT, Int.reduceLE, Int.reduceGT, L1, L2, nm, aBin_eqS, q]
    · have nm := fun (m : Md) (g : Heap) => str_s (lk_r y.r) m g
      have q : sm x y = false := by simp only [sm, k2 h1, k3 g1]; rfl
      simp only [go_sem, Nat.reduceAdd, Nat.reduceLeDiff, Nat.reduceMul, Int.reduceBEq, Int.reduceBNe, Int.reduceLT, Int.reduceLE, Int.reduceGT, L1, L2, nm, q]
    · have nm := fun (m : Md) (g : Heap) => str_s (lk_f (.float .f64 (FloatKind.f64.nearest y.n))) m g
      have q : sm x y = false := by simp only [sm, k2 h1, k4 g1]; rfl
      simp only [go_sem, Nat.reduceAdd, Nat.reduceLeDiff, Nat.reduceMul, Int.reduceBEq, Int.reduceBNe, Int.reduceLT, Int.reduceLE, Int.reduceGT, L1, L2, nm, q]
    · have nm := fun (m : Md) (g : Heap) => str_s lk_z m g
      have q : sm x y = false := by simp only [sm, k2 h1, ne g1]; rfl
      simp only [go_sem, Nat.reduceAdd, Nat.reduceLeDiff, Nat.reduceMul, Int.reduceBEq, Int.reduceBNe, Int.reduceLT, Int.reduceLE, Int.reduceGT, L1, L2, nm, q]
  · obtain ⟨L1, L2, L3, L4⟩ := lk_r x.r
    rcases kc y with ⟨g1, f⟩ | ⟨g1, f⟩ | ⟨g1, f⟩ | ⟨g1, f⟩ | ⟨g1, f⟩ <;> rw [e, f]
    · have nm := fun (m : Md) (g : Heap) => rune_s (lk_i y.n) m g
      have q : sm x y = false := by simp only [sm, k3 h1, k1 g1]; rfl
      simp only [go_sem, Nat.reduceAdd, Nat.reduceLeDiff, Nat.reduceMul, Int.reduceBEq, Int.reduceBNe, Int.reduceLT, Int.reduceLE, Int.reduceGT, L1, L2, L3, nm, q]
    · have nm := fun (m : Md) (g : Heap) => rune_s (lk_s y.s) m g
      have q : sm x y = false := by simp only [sm, k3 h1, k2 g1]; rfl
      simp only [go_sem, Nat.reduceAdd, Nat.reduceLeDiff, Nat.reduceMul, Int.reduceBEq, Int.reduceBNe, Int.reduceLT, Int.reduceLE, Int.reduceGT, L1, L2, L3, nm, q]
    · have nm := fun (m : Md) (g : Heap) => rune_s (lk_r y.r) m g
      have q : (y.r == x.r) = sm x y := by simp only [sm, k3 h1, k3 g1]; rw [if_neg (by simp), if_neg (by decide), if_neg (by decide), if_pos trivial]; rw [Bool.eq_iff_iff, beq_iff_eq, beq_iff_eq]; exact eq_comm
      simp only [go_sem, Nat.reduceAdd, Nat.reduceLeDiff, Nat.reduceMul, Int.reduceBEq, Int.reduceBNe, Int.reduceLT, Int.reduceLE, Int.reduceGT, L1, L2, L3, nm, aBin_eql, q]
    · have nm := fun (m : Md) (g : Heap) => rune_s (lk_f (.float .f64 (FloatKind.f64.nearest y.n))) m g
      have q : sm x y = false := by simp only [sm, k3 h1, k4 g1]; rfl
      simp only [go_sem, Nat.reduceAdd, Nat.reduceLeDiff, Nat.reduceMul, Int.reduceBEq, Int.reduceBNe, Int.reduceLT, Int.reduceLE, Int.reduceGT, L1, L2, L3, nm, q]
    · have nm := fun (m : Md) (g : Heap) => rune_s lk_z m g
      have q : sm x y = false := by simp only [sm, k3 h1, ne g1]; rfl
      simp only [go_sem, Nat.reduceAdd, Nat.reduceLeDiff, Nat.reduceMul, Int.reduceBEq, Int.reduceBNe, Int.reduceLT, Int.reduceLE, Int.reduceGT, L1, L2, L3, nm, q]
  · obtain ⟨L1, L2, L3, L4⟩ := lk_f (.float .f64 (FloatKind.f64.nearest x.n))
    rw [e]
    have q : sm x y = false := by
      simp only [sm, k4 h1]
      split <;> rfl
    simp only [go_sem, Nat.reduceAdd, Nat.reduceLeDiff, Nat.reduceMul, Int.reduceBEq, Int.reduceBNe, Int.reduceLT, Int.reduceLE, Int.reduceGT, L1, L2, L3, L4, q]
  · obtain ⟨L1, L2, L3, L4⟩ := lk_z
    rw [e]
    have q : sm x y = false := by
      simp only [sm, ne h1]
      split <;> rfl
    simp only [go_sem, Nat.reduceAdd, Nat.reduceLeDiff, Nat.reduceMul, Int.reduceBEq, Int.reduceBNe, Int.reduceLT, Int.reduceLE, Int.reduceGT, L1, L2, L3, L4, q]
/-- A value of parts and a list. -/
theorem eq_ml (md : Md) (h : Heap) (x : Raw) (v : Value) : C md 19 [mv x, .iface 33 v] h = some (.bool false, h) := by
  rw [C, call_eq, F19_eq]
  unfold F19
  have nm := fun (m : Md) (g : Heap) => num_s (lk_l v) m g
  have ns := fun (m : Md) (g : Heap) => str_s (lk_l v) m g
  have nr := fun (m : Md) (g : Heap) => rune_s (lk_l v) m g
  rcases kc x with ⟨h1, e⟩ | ⟨h1, e⟩ | ⟨h1, e⟩ | ⟨h1, e⟩ | ⟨h1, e⟩ <;> rw [e]
  · obtain ⟨L1, L2, L3, L4⟩ := lk_i x.n
    simp only [go_sem, Nat.reduceAdd, Nat.reduceLeDiff, Nat.reduceMul, Int.reduceBEq, Int.reduceBNe, Int.reduceLT, Int.reduceLE, Int.reduceGT, L1, nm]
  · obtain ⟨L1, L2, L3, L4⟩ := lk_s x.s
    simp only [go_sem, Nat.reduceAdd, Nat.reduceLeDiff, Nat.reduceMul, Int.reduceBEq, Int.reduceBNe, Int.reduceLT, Int.reduceLE, Int.reduceGT, L1, L2, ns]
  · obtain ⟨L1, L2, L3, L4⟩ := lk_r x.r
    simp only [go_sem, Nat.reduceAdd, Nat.reduceLeDiff, Nat.reduceMul, Int.reduceBEq, Int.reduceBNe, Int.reduceLT, Int.reduceLE, Int.reduceGT, L1, L2, L3, nr]
  · obtain ⟨L1, L2, L3, L4⟩ := lk_f (.float .f64 (FloatKind.f64.nearest x.n))
    simp only [go_sem, Nat.reduceAdd, Nat.reduceLeDiff, Nat.reduceMul, Int.reduceBEq, Int.reduceBNe, Int.reduceLT, Int.reduceLE, Int.reduceGT, L1, L2, L3, L4]
  · obtain ⟨L1, L2, L3, L4⟩ := lk_z
    simp only [go_sem, Nat.reduceAdd, Nat.reduceLeDiff, Nat.reduceMul, Int.reduceBEq, Int.reduceBNe, Int.reduceLT, Int.reduceLE, Int.reduceGT, L1, L2, L3, L4]
theorem eq_lm (md : Md) (h : Heap) (x : Raw) (v : Value) : C md 19 [.iface 33 v, mv x] h = some (.bool false, h) := by
  obtain ⟨n, bn, s, bs, c, bc, L⟩ := lk x
  obtain ⟨L1, L2, L3, L4⟩ := lk_l v
  have it := fun (m : Md) (g : Heap) => items_s (h := g) L rfl m
  rw [C, call_eq, F19_eq]
  unfold F19
  simp only [go_sem, Nat.reduceAdd, Nat.reduceLeDiff, Nat.reduceMul, Int.reduceBEq, Int.reduceBNe, Int.reduceLT, Int.reduceLE, Int.reduceGT, L1, L2, L3, L4, it]
abbrev eV (v : Value) : List Value := [v]
theorem eV_len (v : Value) : (eV v).length = 1 := rfl
theorem flat_map {ε : Type} (f : ε → Value) : ∀ l : List ε, flat (fun x => [f x]) l = flat eV (l.map f) := by
  intro l
  induction l with
  | nil => rfl
  | cons x l ih => rw [flat_cons, ih]; rfl
/-- A list of parts as a list of values. -/
theorem Sl.vals {v : Value} {l : List Raw} (S : Sl h 1 encM v l) : Sl h 1 eV v (l.map mv) := by
  refine ⟨eV_len, ?_⟩
  rcases S.is with ⟨e1, e2⟩ | ⟨b, o, k, e, hb, hc, hl⟩
  · exact .inl ⟨e1, by rw [e2]; rfl⟩
  · exact .inr ⟨b, o, k, by rw [e, List.length_map], hb, by rw [List.length_map, hc]; exact flat_map mv l, by rw [List.length_map]; exact hl⟩
theorem Sl.getV {v : Value} {l : List Value} (S : Sl h 1 eV v l) {k : Nat} {x : Value} (hx : l[k]? = some x) :
    (∀ {α : Type} (kk : Value → Option α), ixS 1 v (k : Int) kk = kk ((Value.pointer (some ⟨slB v, slO v + k, none⟩)))) ∧ rd h (slB v) (slO v + k) = some x := by
  have h1 : k < l.length := (List.getElem?_eq_some_iff.1 hx).1
  refine ⟨fun kk => ?_, ?_⟩
  · rw [S.ix (by omega) (by omega) kk, Nat.mul_one, Int.toNat_natCast]
  · have := S.cell hx (j := 0) (by decide)
    rw [Nat.mul_one, Nat.add_zero] at this
    exact this
def allF (F : Nat → Bool) : Nat → Nat → Bool
  | _, 0 => true
  | j, m + 1 => F j && allF F (j + 1) m
theorem allF_true {F : Nat → Bool} : ∀ {m j : Nat}, allF F j m = true ↔ ∀ i, j ≤ i → i < j + m → F i = true := by
  intro m
  induction m with
  | zero => intro j; exact ⟨fun _ i h1 h2 => by omega, fun _ => rfl⟩
  | succ m ih =>
    intro j
    rw [allF, Bool.and_eq_true, ih]
    refine ⟨fun h i h1 h2 => ?_, fun h => ⟨h j (Nat.le_refl _) (by omega), fun i h1 h2 => h i (by omega) (by omega)⟩⟩
    by_cases e : i = j
    · rw [e]; exact h.1
    · exact h.2 i (by omega) (by omega)
theorem allF_ext {F G : Nat → Bool} {m j : Nat} (h : ∀ i, j ≤ i → i < j + m → F i = G i) : allF F j m = allF G j m := by
  rw [Bool.eq_iff_iff, allF_true, allF_true]
  exact ⟨fun q i h1 h2 => by rw [← h i h1 h2]; exact q i h1 h2, fun q i h1 h2 => by rw [h i h1 h2]; exact q i h1 h2⟩
theorem eqf_lp {h0 : Heap} {s6 : Value} {vs ws : List Value} {F : Nat → Bool} (Sa : Sl h 1 eV a vs) (Sb : Sl h 1 eV b ws) (hl : vs.length = ws.length) (hlen : vs.length ≤ 1000) (hE : ∀ i v w, vs[i]? = some v → ws[i]? = some w → ∀ m : Md, C m 19 [v, w] h = some (.bool (F i), h)) : ∀ (m j : Nat), j + m = vs.length →
    J27_0 C md h0 b (.func (.func 19) #[] #[]) s6 a ((Value.int .i64 ((vs.length : Int)))) ((Value.int .i64 ((j : Int)))) h = some (.bool (allF F j m), h0) := by
  intro m
  induction m with
  | zero =>
    intro j hj
    obtain rfl : j = vs.length := by omega
    rw [J27_0_step]
    unfold Jr27_0
    simp only [go_sem, Nat.reduceAdd, Nat.reduceLeDiff, Nat.reduceMul, Int.reduceBEq, Int.reduceBNe, Int.reduceLT, Int.reduceLE, Int.reduceGT, aBin_lss, Int.lt_irrefl, Jk27_0, allF]
  | succ m ih =>
    intro j hj
    have hlt : (j : Int) < (vs.length : Int) := by omega
    obtain ⟨x, hx⟩ : ∃ x, vs[j]? = some x := ⟨vs[j]'(by omega), List.getElem?_eq_getElem (by omega)⟩
    obtain ⟨y, hy⟩ : ∃ y, ws[j]? = some y := ⟨ws[j]'(by omega), List.getElem?_eq_getElem (by omega)⟩
    obtain ⟨i1, r1⟩ := Sl.getV Sa hx
    obtain ⟨i2, r2⟩ := Sl.getV Sb hy
    have q := hE j x y hx hy
    have w : IntKind.wrap .i64 ((j : Int) + 1) = ((j + 1 : Nat) : Int) := by rw [IntKind.wrap_i64]; omega
    rw [J27_0_step]
    unfold Jr27_0
    rw [allF]
    cases hb : F j
    · rw [hb] at q
      simp only [go_sem, Nat.reduceAdd, Nat.reduceLeDiff, Nat.reduceMul, Int.reduceBEq, Int.reduceBNe, Int.reduceLT, Int.reduceLE, Int.reduceGT, aBin_lss, hlt, ixSV_p, i1, r1, i2, r2, clV_0, q, Jk27_0]
    · rw [hb] at q
      simp only [go_sem, Nat.reduceAdd, Nat.reduceLeDiff, Nat.reduceMul, Int.reduceBEq, Int.reduceBNe, Int.reduceLT, Int.reduceLE, Int.reduceGT, aBin_lss, hlt, ixSV_p, i1, r1, i2, r2, clV_0, q, aBin_add, w]
      exact ih (j + 1) (by omega)
theorem eqf_s {vs ws : List Value} {F : Nat → Bool} (Sa : Sl h 1 eV a vs) (Sb : Sl h 1 eV b ws) (hlen : vs.length ≤ 1000) (hE : ∀ i v w, vs[i]? = some v → ws[i]? = some w → ∀ m : Md, C m 19 [v, w] h = some (.bool (F i), h)) (md : Md) :
    C md 27 [a, b, .func (.func 19) #[] #[]] h = some (.bool (decide (vs.length = ws.length) && allF F 0 vs.length), h) := by
  have l1 := fun {α : Type} (kk : Value → Option α) => Sa.len kk
  have l2 := fun {α : Type} (kk : Value → Option α) => Sb.len kk
  rw [C, call_eq, F27_eq]
  unfold F27
  by_cases hl : vs.length = ws.length
  · have e : ((vs.length : Int) != (ws.length : Int)) = false := by rw [hl]; simp
    have e2 := eqf_lp (md := ⟨h.length, h.length⟩) (h0 := h) (s6 := .bool false) Sa Sb hl hlen hE vs.length 0 (by omega)
    simp only [go_sem, Nat.reduceAdd, Nat.reduceLeDiff, Nat.reduceMul, Int.reduceBEq, Int.reduceBNe, Int.reduceLT, Int.reduceLE, Int.reduceGT, l1, l2, e, hl, decide_true]
    rw [hl] at e2
    exact e2
  · have e : ((vs.length : Int) != (ws.length : Int)) = true := by simp; omega
    simp only [go_sem, Nat.reduceAdd, Nat.reduceLeDiff, Nat.reduceMul, Int.reduceBEq, Int.reduceBNe, Int.reduceLT, Int.reduceLE, Int.reduceGT, l1, l2, e, hl, decide_false]
/-- Two lists. -/
theorem eq_ll {vs ws : List Value} {F : Nat → Bool} (Sa : Sl h 1 eV a vs) (Sb : Sl h 1 eV b ws) (hlen : vs.length ≤ 1000) (hE : ∀ i v w, vs[i]? = some v → ws[i]? = some w → ∀ m : Md, C m 19 [v, w] h = some (.bool (F i), h)) (hb : below2 h.length b = true) (md : Md) :
    C md 19 [.iface 33 a, .iface 33 b] h = some (.bool (decide (vs.length = ws.length) && allF F 0 vs.length), h) := by
  obtain ⟨L1, L2, L3, L4⟩ := lk_l a
  have it := fun (m : Md) => items_s (lk_l b) hb m
  have ef := fun (m : Md) => eqf_s Sa Sb hlen hE m
  rw [C, call_eq, F19_eq]
  unfold F19
  simp only [go_sem, Nat.reduceAdd, Nat.reduceLeDiff, Nat.reduceMul, Int.reduceBEq, Int.reduceBNe, Int.reduceLT, Int.reduceLE, Int.reduceGT, L1, L2, L3, L4, it, ef]
end Go.Det.E
