/- Values of any kind (the texts of the values' seat, at this one). -/
import Derived.Test.YthhlflpeibdfmaaDoorQA
set_option autoImplicit false
set_option linter.unusedVariables false
set_option linter.unusedSimpArgs false
namespace Go.Det.E
open Go.Proofs Go.Det
attribute [local congr] bind_c cond_c
section
variable {α : Type} (k : Value → Option α)
/-- What a look at a value's type tells. -/
theorem as_same {t : TypeId} {v : Value} {d : TypeDesc} (hu : Tryd.prog.underlying t = some d) (hd : ∀ m, d ≠ .interface m) : aAssert Tryd.prog (.iface t v) t true k = k ((Value.tuple #[v, .bool true])) := by
  unfold aAssert; rw [hu]; cases d <;> first | exact absurd rfl (hd _) | simp
theorem as_else {t u : TypeId} {v z : Value} {d : TypeDesc} (hu : Tryd.prog.underlying t = some d) (hd : ∀ m, d ≠ .interface m) (hz : zeroV Tryd.prog t = some z) (hne : u ≠ t) : aAssert Tryd.prog (.iface u v) t true k = k ((Value.tuple #[z, .bool false])) := by
  unfold zeroV at hz
  unfold aAssert; rw [hu]
  cases hi : Tryd.prog.info? t with
  | none => simp [hi] at hz
  | some i =>
    cases hz0 : i.zero with
    | none => simp [hi, hz0] at hz
    | some z0 =>
      simp only [hi, hz0] at hz
      split at hz
      · rename_i hc
        cases hz
        cases d <;> first | exact absurd rfl (hd _) | simp [hne, hz0, hc]
      · cases hz
theorem as_nil {t : TypeId} {z : Value} {d : TypeDesc} (hu : Tryd.prog.underlying t = some d) (hd : ∀ m, d ≠ .interface m) (hz : zeroV Tryd.prog t = some z) : aAssert Tryd.prog .nilIface t true k = k ((Value.tuple #[z, .bool false])) := by
  unfold zeroV at hz
  unfold aAssert; rw [hu]
  cases hi : Tryd.prog.info? t with
  | none => simp [hi] at hz
  | some i =>
    cases hz0 : i.zero with
    | none => simp [hi, hz0] at hz
    | some z0 =>
      simp only [hi, hz0] at hz
      split at hz
      · rename_i hc
        cases hz
        cases d <;> first | exact absurd rfl (hd _) | simp [hz0, hc]
      · cases hz
theorem uI : Tryd.prog.underlying 3 = some (.int .i64) := by kernel_rfl
theorem uS : Tryd.prog.underlying 9 = some .string := by kernel_rfl
theorem uR : Tryd.prog.underlying 21 = some (.int .i32) := by kernel_rfl
theorem uL : Tryd.prog.underlying 23 = some (.slice 20) := by kernel_rfl
theorem zI : zeroV Tryd.prog 3 = some ((Value.int .i64 0)) := by kernel_rfl
theorem zS : zeroV Tryd.prog 9 = some (.string ⟨#[]⟩) := by kernel_rfl
theorem zR : zeroV Tryd.prog 21 = some (.int .i32 0) := by kernel_rfl
theorem zL : zeroV Tryd.prog 23 = some (.slice none 0 0) := by kernel_rfl
variable {u : TypeId} {v : Value}
theorem aI_y {n : Int} : aAssert Tryd.prog (.iface 3 (.int .i64 n)) 3 true k = k ((Value.tuple #[(Value.int .i64 n), .bool true])) := as_same k uI (by intro m h; cases h)
theorem aI_n (h : u ≠ 3) : aAssert Tryd.prog (.iface u v) 3 true k = k ((Value.tuple #[(Value.int .i64 0), .bool false])) := as_else k uI (by intro m h; cases h) zI h
theorem aI_z : aAssert Tryd.prog .nilIface 3 true k = k ((Value.tuple #[(Value.int .i64 0), .bool false])) := as_nil k uI (by intro m h; cases h) zI
theorem aS_y {n : ByteArray} : aAssert Tryd.prog (.iface 9 (.string n)) 9 true k = k ((Value.tuple #[.string n, .bool true])) := as_same k uS (by intro m h; cases h)
theorem aS_n (h : u ≠ 9) : aAssert Tryd.prog (.iface u v) 9 true k = k ((Value.tuple #[.string ⟨#[]⟩, .bool false])) := as_else k uS (by intro m h; cases h) zS h
theorem aS_z : aAssert Tryd.prog .nilIface 9 true k = k ((Value.tuple #[.string ⟨#[]⟩, .bool false])) := as_nil k uS (by intro m h; cases h) zS
theorem aR_y {n : Int} : aAssert Tryd.prog (.iface 21 (.int .i32 n)) 21 true k = k ((Value.tuple #[.int .i32 n, .bool true])) := as_same k uR (by intro m h; cases h)
theorem aR_n (h : u ≠ 21) : aAssert Tryd.prog (.iface u v) 21 true k = k ((Value.tuple #[.int .i32 0, .bool false])) := as_else k uR (by intro m h; cases h) zR h
theorem aR_z : aAssert Tryd.prog .nilIface 21 true k = k ((Value.tuple #[.int .i32 0, .bool false])) := as_nil k uR (by intro m h; cases h) zR
theorem aL_y {v : Value} : aAssert Tryd.prog (.iface 23 v) 23 true k = k ((Value.tuple #[v, .bool true])) := as_same k uL (by intro m h; cases h)
theorem aL_n (h : u ≠ 23) : aAssert Tryd.prog (.iface u v) 23 true k = k ((Value.tuple #[.slice none 0 0, .bool false])) := as_else k uL (by intro m h; cases h) zL h
theorem aL_z : aAssert Tryd.prog .nilIface 23 true k = k ((Value.tuple #[.slice none 0 0, .bool false])) := as_nil k uL (by intro m h; cases h) zL
end
variable {md : Md} {h hh h' : Heap} {v a b : Value}
/-- What a value's looks tell. -/
structure Lk (v : Value) (n : Int) (bn : Bool) (s : ByteArray) (b2 : Bool) (c : Int) (bc : Bool) (l : Value) (bl : Bool) : Prop where
  i : ∀ {α : Type} (k : Value → Option α), aAssert Tryd.prog v 3 true k = k ((Value.tuple #[(Value.int .i64 n), .bool bn]))
  s : ∀ {α : Type} (k : Value → Option α), aAssert Tryd.prog v 9 true k = k ((Value.tuple #[.string s, .bool b2]))
  r : ∀ {α : Type} (k : Value → Option α), aAssert Tryd.prog v 21 true k = k ((Value.tuple #[.int .i32 c, .bool bc]))
  l : ∀ {α : Type} (k : Value → Option α), aAssert Tryd.prog v 23 true k = k ((Value.tuple #[l, .bool bl]))
theorem lk_i (n : Int) : Lk (.iface 3 (.int .i64 n)) n true ⟨#[]⟩ false 0 false (.slice none 0 0) false := ⟨fun k => aI_y k, fun k => aS_n k (by decide), fun k => aR_n k (by decide), fun k => aL_n k (by decide)⟩
theorem lk_s (n : ByteArray) : Lk (.iface 9 (.string n)) 0 false n true 0 false (.slice none 0 0) false := ⟨fun k => aI_n k (by decide), fun k => aS_y k, fun k => aR_n k (by decide), fun k => aL_n k (by decide)⟩
theorem lk_r (n : Int) : Lk (.iface 21 (.int .i32 n)) 0 false ⟨#[]⟩ false n true (.slice none 0 0) false := ⟨fun k => aI_n k (by decide), fun k => aS_n k (by decide), fun k => aR_y k, fun k => aL_n k (by decide)⟩
theorem lk_l (v : Value) : Lk (.iface 23 v) 0 false ⟨#[]⟩ false 0 false v true := ⟨fun k => aI_n k (by decide), fun k => aS_n k (by decide), fun k => aR_n k (by decide), fun k => aL_y k⟩
theorem lk_z : Lk .nilIface 0 false ⟨#[]⟩ false 0 false (.slice none 0 0) false := ⟨fun k => aI_z k, fun k => aS_z k, fun k => aR_z k, fun k => aL_z k⟩
section
variable {n c : Int} {bn b2 bc bl : Bool} {s : ByteArray} {l v : Value}
theorem num_s (L : Lk v n bn s b2 c bc l bl) (md : Md) (h : Heap) : C md 24 [v] h = some ((Value.tuple #[(Value.int .i64 n), .bool bn]), h) := by
  have li := fun {α : Type} (k : Value → Option α) => L.i k
  rw [C, call_eq, F24_eq]
  unfold F24
  simp only [go_sem, Nat.reduceAdd, Nat.reduceLeDiff, Nat.reduceMul, Int.reduceBEq, Int.reduceBNe, Int.reduceLT, Int.reduceLE, Int.reduceGT, li]
theorem str_s (L : Lk v n bn s b2 c bc l bl) (md : Md) (h : Heap) : C md 25 [v] h = some ((Value.tuple #[.string s, .bool b2]), h) := by
  have li := fun {α : Type} (k : Value → Option α) => L.s k
  rw [C, call_eq, F25_eq]
  unfold F25
  simp only [go_sem, Nat.reduceAdd, Nat.reduceLeDiff, Nat.reduceMul, Int.reduceBEq, Int.reduceBNe, Int.reduceLT, Int.reduceLE, Int.reduceGT, li]
theorem vrune_s (L : Lk v n bn s b2 c bc l bl) (md : Md) (h : Heap) : C md 26 [v] h = some ((Value.tuple #[.int .i32 c, .bool bc]), h) := by
  have li := fun {α : Type} (k : Value → Option α) => L.r k
  rw [C, call_eq, F26_eq]
  unfold F26
  simp only [go_sem, Nat.reduceAdd, Nat.reduceLeDiff, Nat.reduceMul, Int.reduceBEq, Int.reduceBNe, Int.reduceLT, Int.reduceLE, Int.reduceGT, li]
theorem items_s (L : Lk v n bn s b2 c bc l bl) (hb : below2 h.length l = true) (md : Md) : C md 27 [v] h = some ((Value.tuple #[l, .bool bl]), h) := by
  have li := fun {α : Type} (k : Value → Option α) => L.l k
  rw [C, call_eq, F27_eq]
  unfold F27
  simp only [go_sem, Nat.reduceAdd, Nat.reduceLeDiff, Nat.reduceMul, Int.reduceBEq, Int.reduceBNe, Int.reduceLT, Int.reduceLE, Int.reduceGT, li, hb]
end
theorem aBin_eqS {α : Type} {a b : ByteArray} {ty : TypeId} (k : Value → Option α) : aBin Tryd.prog .eql ty (.string a) (.string b) k = k (.bool (a.data.toList == b.data.toList)) := by simp [aBin]
theorem clV_0 {rc : Rec} {md : Md} {g : FuncId} {args : List Value} {h : Heap} {α : Type} (k : Value → Heap → Option α) : clV rc md (.func (.func g) #[] #[]) args h k = cl (rc md g args h) k := by
  unfold clV cl
  simp only [List.append_nil, List.nil_append]
abbrev eV (v : Value) : List Value := [v]
theorem eV_len (v : Value) : (eV v).length = 1 := rfl
theorem flat_map {ε : Type} (f : ε → Value) : ∀ l : List ε, flat (fun x => [f x]) l = flat eV (l.map f) := by
  intro l
  induction l with
  | nil => rfl
  | cons x l ih => rw [flat_cons, ih]; rfl
theorem Sl.getV {v : Value} {l : List Value} (S : Sl h 1 eV v l) {k : Nat} {x : Value} (hx : l[k]? = some x) :
    (∀ {α : Type} (kk : Value → Option α), ixS 1 v (k : Int) kk = kk ((Value.pointer (some ⟨slB v, slO v + k, none⟩)))) ∧ rd h (slB v) (slO v + k) = some x := by
  have h1 : k < l.length := (List.getElem?_eq_some_iff.1 hx).1
  refine ⟨fun kk => ?_, ?_⟩
  · rw [S.ix (by omega) (by omega) kk, Nat.mul_one, Int.toNat_natCast]
  · have := S.cell hx (j := 0) (by decide)
    rw [Nat.mul_one, Nat.add_zero] at this
    exact this
def allF (F : Nat → Bool) : Nat → Nat → Bool
  | _, 0 => true
  | j, m + 1 => F j && allF F (j + 1) m
theorem allF_true {F : Nat → Bool} : ∀ {m j : Nat}, allF F j m = true ↔ ∀ i, j ≤ i → i < j + m → F i = true := by
  intro m
  induction m with
  | zero => intro j; exact ⟨fun _ i h1 h2 => by omega, fun _ => rfl⟩
  | succ m ih =>
    intro j
    rw [allF, Bool.and_eq_true, ih]
    refine ⟨fun h i h1 h2 => ?_, fun h => ⟨h j (Nat.le_refl _) (by omega), fun i h1 h2 => h i (by omega) (by omega)⟩⟩
    by_cases e : i = j
    · rw [e]; exact h.1
    · exact h.2 i (by omega) (by omega)
theorem allF_ext {F G : Nat → Bool} {m j : Nat} (h : ∀ i, j ≤ i → i < j + m → F i = G i) : allF F j m = allF G j m := by
  rw [Bool.eq_iff_iff, allF_true, allF_true]
  exact ⟨fun q i h1 h2 => by rw [← h i h1 h2]; exact q i h1 h2, fun q i h1 h2 => by rw [h i h1 h2]; exact q i h1 h2⟩
theorem eqf_lp {h0 : Heap} {s6 : Value} {vs ws : List Value} {F : Nat → Bool} (Sa : Sl h 1 eV a vs) (Sb : Sl h 1 eV b ws) (hl : vs.length = ws.length) (hlen : vs.length ≤ 1000) (hE : ∀ i v w, vs[i]? = some v → ws[i]? = some w → ∀ m : Md, C m 19 [v, w] h = some (.bool (F i), h)) : ∀ (m j : Nat), j + m = vs.length →
    J28_0 C md h0 b (.func (.func 19) #[] #[]) s6 a ((Value.int .i64 ((vs.length : Int)))) ((Value.int .i64 ((j : Int)))) h = some (.bool (allF F j m), h0) := by
  intro m
  induction m with
  | zero =>
    intro j hj
    obtain rfl : j = vs.length := by omega
    rw [J28_0_step]
    unfold Jr28_0
    simp only [go_sem, Nat.reduceAdd, Nat.reduceLeDiff, Nat.reduceMul, Int.reduceBEq, Int.reduceBNe, Int.reduceLT, Int.reduceLE, Int.reduceGT, aBin_lss, Int.lt_irrefl, Jk28_0, allF]
  | succ m ih =>
    intro j hj
    have hlt : (j : Int) < (vs.length : Int) := by omega
    obtain ⟨x, hx⟩ : ∃ x, vs[j]? = some x := ⟨vs[j]'(by omega), List.getElem?_eq_getElem (by omega)⟩
    obtain ⟨y, hy⟩ : ∃ y, ws[j]? = some y := ⟨ws[j]'(by omega), List.getElem?_eq_getElem (by omega)⟩
    obtain ⟨i1, r1⟩ := Sl.getV Sa hx
    obtain ⟨i2, r2⟩ := Sl.getV Sb hy
    have q := hE j x y hx hy
    have w : IntKind.wrap .i64 ((j : Int) + 1) = ((j + 1 : Nat) : Int) := by rw [IntKind.wrap_i64]; omega
    rw [J28_0_step]
    unfold Jr28_0
    rw [allF]
    cases hb : F j
    · rw [hb] at q
      simp only [go_sem, Nat.reduceAdd, Nat.reduceLeDiff, Nat.reduceMul, Int.reduceBEq, Int.reduceBNe, Int.reduceLT, Int.reduceLE, Int.reduceGT, aBin_lss, hlt, ixSV_p, i1, r1, i2, r2, clV_0, q, Jk28_0]
    · rw [hb] at q
      simp only [go_sem, Nat.reduceAdd, Nat.reduceLeDiff, Nat.reduceMul, Int.reduceBEq, Int.reduceBNe, Int.reduceLT, Int.reduceLE, Int.reduceGT, aBin_lss, hlt, ixSV_p, i1, r1, i2, r2, clV_0, q, aBin_add, w]
      exact ih (j + 1) (by omega)
theorem eqf_s {vs ws : List Value} {F : Nat → Bool} (Sa : Sl h 1 eV a vs) (Sb : Sl h 1 eV b ws) (hlen : vs.length ≤ 1000) (hE : ∀ i v w, vs[i]? = some v → ws[i]? = some w → ∀ m : Md, C m 19 [v, w] h = some (.bool (F i), h)) (md : Md) :
    C md 28 [a, b, .func (.func 19) #[] #[]] h = some (.bool (decide (vs.length = ws.length) && allF F 0 vs.length), h) := by
  have l1 := fun {α : Type} (kk : Value → Option α) => Sa.len kk
  have l2 := fun {α : Type} (kk : Value → Option α) => Sb.len kk
  rw [C, call_eq, F28_eq]
  unfold F28
  by_cases hl : vs.length = ws.length
  · have e : ((vs.length : Int) != (ws.length : Int)) = false := by rw [hl]; simp
    have e2 := eqf_lp (md := ⟨h.length, h.length⟩) (h0 := h) (s6 := .bool false) Sa Sb hl hlen hE vs.length 0 (by omega)
    simp only [go_sem, Nat.reduceAdd, Nat.reduceLeDiff, Nat.reduceMul, Int.reduceBEq, Int.reduceBNe, Int.reduceLT, Int.reduceLE, Int.reduceGT, l1, l2, e, hl, decide_true]
    rw [hl] at e2
    exact e2
  · have e : ((vs.length : Int) != (ws.length : Int)) = true := by simp; omega
    simp only [go_sem, Nat.reduceAdd, Nat.reduceLeDiff, Nat.reduceMul, Int.reduceBEq, Int.reduceBNe, Int.reduceLT, Int.reduceLE, Int.reduceGT, l1, l2, e, hl, decide_false]
/-- Two lists. -/
theorem eq_ll {vs ws : List Value} {F : Nat → Bool} (Sa : Sl h 1 eV a vs) (Sb : Sl h 1 eV b ws) (hlen : vs.length ≤ 1000) (hE : ∀ i v w, vs[i]? = some v → ws[i]? = some w → ∀ m : Md, C m 19 [v, w] h = some (.bool (F i), h)) (hb : below2 h.length b = true) (md : Md) :
    C md 19 [.iface 23 a, .iface 23 b] h = some (.bool (decide (vs.length = ws.length) && allF F 0 vs.length), h) := by
  obtain ⟨L1, L2, L3, L4⟩ := lk_l a
  have it := fun (m : Md) => items_s (lk_l b) hb m
  have ef := fun (m : Md) => eqf_s Sa Sb hlen hE m
  rw [C, call_eq, F19_eq]
  unfold F19
  simp only [go_sem, Nat.reduceAdd, Nat.reduceLeDiff, Nat.reduceMul, Int.reduceBEq, Int.reduceBNe, Int.reduceLT, Int.reduceLE, Int.reduceGT, L1, L2, L3, L4, it, ef]
theorem Sl.toks {v : Value} {l : List Tok} (S : Sl h 1 encT v l) : Sl h 1 eV v (l.map tokV) := by
  refine ⟨eV_len, ?_⟩
  rcases S.is with ⟨e1, e2⟩ | ⟨b, o, k, e, hb, hc, hl⟩
  · exact .inl ⟨e1, by rw [e2]; rfl⟩
  · exact .inr ⟨b, o, k, by rw [e, List.length_map], hb, by rw [List.length_map, hc]; exact flat_map tokV l, by rw [List.length_map]; exact hl⟩
/-- A token is itself. -/
theorem eq_tok (md : Md) (h : Heap) (t : Tok) : C md 19 [tokV t, tokV t] h = some (.bool true, h) := by
  rw [C, call_eq, F19_eq]
  unfold F19
  cases t with
  | n v =>
    obtain ⟨L1, L2, L3, L4⟩ := lk_i v
    have nm := fun (m : Md) (g : Heap) => num_s (lk_i v) m g
    simp only [tokV, go_sem, Nat.reduceAdd, Nat.reduceLeDiff, Nat.reduceMul, Int.reduceBEq, Int.reduceBNe, Int.reduceLT, Int.reduceLE, Int.reduceGT, L1, nm, aBin_eql, beq_self_eq_true]
  | s q =>
    obtain ⟨L1, L2, L3, L4⟩ := lk_s (bs q)
    have nm := fun (m : Md) (g : Heap) => str_s (lk_s (bs q)) m g
    simp only [tokV, go_sem, Nat.reduceAdd, Nat.reduceLeDiff, Nat.reduceMul, Int.reduceBEq, Int.reduceBNe, Int.reduceLT, Int.reduceLE, Int.reduceGT, L1, L2, nm, aBin_eqS, beq_self_eq_true]
  | c r =>
    obtain ⟨L1, L2, L3, L4⟩ := lk_r r
    have nm := fun (m : Md) (g : Heap) => vrune_s (lk_r r) m g
    simp only [tokV, go_sem, Nat.reduceAdd, Nat.reduceLeDiff, Nat.reduceMul, Int.reduceBEq, Int.reduceBNe, Int.reduceLT, Int.reduceLE, Int.reduceGT, L1, L2, L3, nm, aBin_eql, beq_self_eq_true]
/-- Two lists of the same tokens. -/
theorem eq_toks {l : List Tok} (Sa : Sl h 1 encT a l) (Sb : Sl h 1 encT b l) (hlen : l.length ≤ 1000) (hb : below2 h.length b = true) (md : Md) :
    C md 19 [.iface 23 a, .iface 23 b] h = some (.bool true, h) := by
  have := eq_ll (F := fun _ => true) (Sl.toks Sa) (Sl.toks Sb) (by simpa using hlen) (fun i v w hv hw m => by
    rw [List.getElem?_map] at hv hw
    rw [hv] at hw
    cases hw
    cases hx : l[i]? with
    | none => rw [hx] at hv; cases hv
    | some x => rw [hx] at hv; cases hv; exact eq_tok m h x) hb md
  rw [this]
  have e : allF (fun _ => true) 0 (l.map tokV).length = true := allF_true.2 fun _ _ _ => rfl
  rw [e]; simp
end Go.Det.E
