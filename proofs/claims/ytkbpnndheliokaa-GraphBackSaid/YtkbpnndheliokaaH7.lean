/- All edges of a graph, and all its parts. -/
import Derived.Test.YtkbpnndheliokaaH6
set_option autoImplicit false
set_option linter.unusedVariables false
set_option linter.unusedSimpArgs false
namespace Go.Det.E
open Go.Proofs Go.Det
attribute [local congr] bind_c cond_c
variable {md : Md} {h hh : Heap} {q n mb : Nat} {nb : List Nat} {es : List (MK × Value)} {lv : Value} {u v : Int}
theorem bPairs2 {α : Type} (x y : Int) (h : Heap) (k : Value → Heap → Option α) : aBuildSlice Try.prog 37 1 [(0, (Value.agg #[(Value.int .i64 x), (Value.int .i64 y)]))] h k = k ((Value.slice (some ⟨h.length, 0, none⟩) 1 2)) (h ++ [Blk.own [(Value.int .i64 x), (Value.int .i64 y)]]) := by kernel_rfl
theorem tPairs2 : SlT Try.prog 37 34 2 16 [(Value.int .i64 0), (Value.int .i64 0)] := ⟨by kernel_rfl, by kernel_rfl, by kernel_rfl, rfl, by decide, by decide, rfl⟩
theorem erow_loop {n0 x : Nat} {s2 s9 s10 : Value} (hro : md.ro ≤ n0) (hx : x < n) (hqn : q < n0) : ∀ (m k : Nat) (lv : Value) (hh : Heap) (xs : List (Int × Int)), k + m = n → xs.length + m < 1000 → Gr hh q n nb → n0 ≤ hh.length → SlO hh n0 2 eZ2 lv xs →
    ∃ lv' h', J16_0b0 C md ((Value.pointer (some ⟨q, 0, none⟩))) s2 lv ((Value.int .i64 ((x : Int)))) ((Value.int .i64 ((k : Int)))) s9 s10 hh = Jk16_0b0 C md .normal ((Value.pointer (some ⟨q, 0, none⟩))) s2 lv' ((Value.int .i64 ((x : Int)))) ((Value.int .i64 ((n : Int)))) s9 s10 h' ∧ SlO h' n0 2 eZ2 lv' (xs ++ rowF nb x k m) ∧ Old n0 hh h' := by
  intro m
  induction m with
  | zero =>
    intro k lv hh xs hk hl G hn0 SL
    obtain rfl : k = n := by omega
    have r0 := G.rd0
    refine ⟨lv, hh, ?_, by simpa [rowF] using SL, Old.refl _ _⟩
    rw [J16_0b0_step]
    unfold Jr16_0b0
    simp only [go_sem, Nat.reduceAdd, Nat.reduceLeDiff, Nat.reduceMul, Int.reduceBEq, Int.reduceBNe, Int.reduceLT, Int.reduceLE, Int.reduceGT, okNil, okP_p, r0, aBin_lss, Int.lt_irrefl, Jk16_0b0]
  | succ m ih =>
    intro k lv hh xs hk hl G hn0 SL
    have n16 := G.n16
    have r0 := G.rd0
    have hlt : (k : Int) < (n : Int) := by omega
    have w : IntKind.wrap .i64 ((k : Int) + 1) = ((k + 1 : Nat) : Int) := by rw [wi (by omega) (by omega)]; rfl
    have eh := fun (m : Md) => has_g (md := m) G (x : Int) (k : Int)
    have d1 : inB n (x : Int) = true := inB_t.2 ⟨by omega, by omega⟩
    have d2 : inB n (k : Int) = true := inB_t.2 ⟨by omega, by omega⟩
    cases hbt : bt nb (x : Int) (k : Int)
    · obtain ⟨lv', h', e, S', O'⟩ := ih (k + 1) lv hh xs (by omega) (by omega) G hn0 SL
      refine ⟨lv', h', ?_, by rw [rowF, hbt]; simpa using S', O'⟩
      rw [J16_0b0_step]
      unfold Jr16_0b0
      simp only [go_sem, Nat.reduceAdd, Nat.reduceLeDiff, Nat.reduceMul, Int.reduceBEq, Int.reduceBNe, Int.reduceLT, Int.reduceLE, Int.reduceGT, okNil, okP_p, r0, aBin_lss, hlt, eh, d1, d2, hbt, aBin_add, w]
      exact e
    · obtain ⟨v1, h1, ea, S1, O1⟩ := append_own (md := md) (ys := [((x : Int), (k : Int))]) tPairs2 SL hro hn0 (cs := [(Value.int .i64 ((x : Int))), (Value.int .i64 ((k : Int)))]) (by simp [flat, eZ2]) (by simp) rfl (by simp; omega)
      simp only [List.length_cons, List.length_nil] at ea
      obtain ⟨lv', h', e, S', O'⟩ := ih (k + 1) v1 h1 _ (by omega) (by simp; omega) (G.same (O1.old _ hqn)) (Nat.le_trans hn0 O1.len) S1
      refine ⟨lv', h', ?_, by rw [rowF, hbt]; simpa using S', O1.trans O'⟩
      rw [J16_0b0_step]
      unfold Jr16_0b0
      simp only [go_sem, Nat.reduceAdd, Nat.reduceLeDiff, Nat.reduceMul, Int.reduceBEq, Int.reduceBNe, Int.reduceLT, Int.reduceLE, Int.reduceGT, okNil, okP_p, r0, aBin_lss, hlt, eh, d1, d2, hbt, bPair, bPairs2, ea, aBin_add, w]
      exact e
theorem gedges_loop {n0 : Nat} {s2 : Value} (h0 : Heap) (hro : md.ro ≤ n0) (hqn : q < n0) : ∀ (m k : Nat) (lv : Value) (hh : Heap) (xs : List (Int × Int)), k + m = n → xs ++ allF n nb k m = allF n nb 0 n → Gr hh q n nb → n0 ≤ hh.length → SlO hh n0 2 eZ2 lv xs →
    ∃ lv' h', J16_0 C md h0 ((Value.pointer (some ⟨q, 0, none⟩))) s2 lv ((Value.int .i64 ((n : Int)))) ((Value.int .i64 ((k : Int)))) hh = some (lv', h') ∧ SlO h' n0 2 eZ2 lv' (allF n nb 0 n) ∧ Old n0 hh h' := by
  intro m
  induction m with
  | zero =>
    intro k lv hh xs hk he G hn0 SL
    obtain rfl : k = n := by omega
    simp only [allF, List.append_nil] at he
    subst he
    refine ⟨lv, hh, ?_, SL, Old.refl _ _⟩
    rw [J16_0_step]
    unfold Jr16_0
    simp only [go_sem, Nat.reduceAdd, Nat.reduceLeDiff, Nat.reduceMul, Int.reduceBEq, Int.reduceBNe, Int.reduceLT, Int.reduceLE, Int.reduceGT, aBin_lss, Int.lt_irrefl, Jk16_0]
  | succ m ih =>
    intro k lv hh xs hk he G hn0 SL
    have h16 := G.n16
    have hlt : (k : Int) < (n : Int) := by omega
    have w : IntKind.wrap .i64 ((k : Int) + 1) = ((k + 1 : Nat) : Int) := by rw [wi (by omega) (by omega)]; rfl
    rw [allF] at he
    have hl : xs.length ≤ 256 := by
      have := congrArg List.length he
      rw [List.length_append] at this
      have := allF_len (n := n) (nb := nb) n 0
      have : n * n ≤ 16 * 16 := Nat.mul_le_mul h16 h16
      omega
    obtain ⟨lv1, h1, e, S1, O1⟩ := erow_loop (md := md) (x := k) (s2 := s2) (s9 := (Value.int .i64 ((n : Int)))) (s10 := (Value.int .i64 ((k : Int)))) hro (by omega) hqn (n - (k + 1)) (k + 1) lv hh xs (by omega) (by omega) G hn0 SL
    obtain ⟨lv', h', e2, S', O'⟩ := ih (k + 1) lv1 h1 _ (by omega) (by rw [← he, List.append_assoc]) (G.same (O1.old _ hqn)) (Nat.le_trans hn0 O1.len) S1
    refine ⟨lv', h', ?_, S', O1.trans O'⟩
    rw [J16_0_step]
    unfold Jr16_0
    simp only [go_sem, Nat.reduceAdd, Nat.reduceLeDiff, Nat.reduceMul, Int.reduceBEq, Int.reduceBNe, Int.reduceLT, Int.reduceLE, Int.reduceGT, aBin_lss, hlt, aBin_add, w]
    rw [e]
    simp only [go_sem, Nat.reduceAdd, Nat.reduceLeDiff, Nat.reduceMul, Int.reduceBEq, Int.reduceBNe, Int.reduceLT, Int.reduceLE, Int.reduceGT, Jk16_0b0, aBin_add, w]
    exact e2
theorem gedges_s (G : Gr h q n nb) (hro : md.ro ≤ h.length) : ∃ lv h', C md 16 [(Value.pointer (some ⟨q, 0, none⟩))] h = some (lv, h') ∧ SlO h' h.length 2 eZ2 lv (allF n nb 0 n) ∧ Old h.length h h' := by
  have r0 := G.rd0
  obtain ⟨lv', h', e, S, O⟩ := gedges_loop (md := md) (s2 := .slice none 0 0) (n0 := h.length) h hro (lt_of G.hq) n 0 (.slice none 0 0) h [] (by omega) rfl G (Nat.le_refl _) (SlO.nil _ _ eZ2_len)
  refine ⟨lv', h', ?_, S, O⟩
  rw [C, call_eq, F16_eq]
  unfold F16
  simp only [go_sem, Nat.reduceAdd, Nat.reduceLeDiff, Nat.reduceMul, Int.reduceBEq, Int.reduceBNe, Int.reduceLT, Int.reduceLE, Int.reduceGT, okNil, okP_p, r0]
  exact e
/-! ### Parts -/
abbrev eV (v : Value) : List Value := [v]
theorem eV_len (v : Value) : (eV v).length = 1 := rfl
theorem tRows : SlT Try.prog 40 39 1 24 [.slice none 0 0] := ⟨by kernel_rfl, by kernel_rfl, by kernel_rfl, rfl, by decide, by decide, rfl⟩
theorem bRows1 {α : Type} {a : Option Addr} {l c : Nat} (h : Heap) (k : Value → Heap → Option α) : aBuildSlice Try.prog 40 1 [(0, .slice a l c)] h k = k ((Value.slice (some ⟨h.length, 0, none⟩) 1 1)) (h ++ [Blk.own [.slice a l c]]) := by kernel_rfl
/-- All to which there is a way. -/
noncomputable def compN (E : Nat → Nat → Bool) (n r : Nat) : List Nat := (List.range n).filter (wayB E r)
noncomputable def isRep (E : Nat → Nat → Bool) (r : Nat) : Bool := (List.range r).all fun x => !wayB E x r
noncomputable def reps (E : Nat → Nat → Bool) (k : Nat) : List Nat := (List.range k).filter (isRep E)
noncomputable def compI (E : Nat → Nat → Bool) (n r : Nat) : List Int := (compN E n r).map fun x : Nat => (x : Int)
/-- Rows of numbers at places of their own. -/
structure Rws (h : Heap) (n0 : Nat) (v : Value) (ps : List (List Int)) : Prop where
  ex : ∃ vs, SlO h n0 1 eV v vs ∧ vs.length = ps.length ∧ ∀ (i : Nat) (x : Value) (p : List Int), vs[i]? = some x → ps[i]? = some p → SlO h n0 1 eZ x p ∧ (x = .slice none 0 0 ∨ v = .slice none 0 0 ∨ slB x ≠ slB v)
theorem Rws.nil (h : Heap) (n0 : Nat) : Rws h n0 (.slice none 0 0) [] := ⟨[], SlO.nil _ _ eV_len, rfl, fun i x p h => by simp at h⟩
theorem Rws.old {h h' : Heap} {n0 : Nat} {v : Value} {ps : List (List Int)} (R : Rws h n0 v ps) (O : ∀ x, n0 ≤ x → x < h.length → h'[x]? = h[x]?) : Rws h' n0 v ps := by
  obtain ⟨vs, S, hl, hi⟩ := R.ex
  exact ⟨vs, S.at O, hl, fun i x p h1 h2 => ⟨(hi i x p h1 h2).1.at O, (hi i x p h1 h2).2⟩⟩
/-- One row more. -/
theorem Rws.add {h : Heap} {n0 : Nat} {v x : Value} {ps : List (List Int)} {p : List Int} (R : Rws h n0 v ps) (S : SlO h n0 1 eZ x p) (hx : x = .slice none 0 0 ∨ v = .slice none 0 0 ∨ slB x ≠ slB v) (hro : md.ro ≤ n0) (hn0 : n0 ≤ h.length) (hl : ps.length < 1000) :
    ∃ v' h', (∀ {α : Type} (kk : Value → Heap → Option α), aBuiltin Try.prog md .append #[40, 40] [v, (Value.slice (some ⟨h.length, 0, none⟩) 1 1)] (h ++ [Blk.own [x]]) kk = kk v' h') ∧ Rws h' n0 v' (ps ++ [p]) ∧ Old n0 h h' := by
  obtain ⟨vs, SV, hvl, hi⟩ := R.ex
  have hc : isCell x = true := by
    rcases S.sl.is with ⟨rfl, _⟩ | ⟨_, _, _, rfl, _⟩ <;> rfl
  obtain ⟨v', h', ea, S', l', f'⟩ := append_own2 (md := md) (ys := [x]) tRows SV hro hn0 (cs := [x]) (by simp [flat]) (by simp) (by simp [hc]) (by simp; omega)
  have S'' := S'.mono hn0
  have keep : ∀ {y : Value} {r : List Int}, SlO h n0 1 eZ y r → (y = .slice none 0 0 ∨ v = .slice none 0 0 ∨ slB y ≠ slB v) → SlO h' n0 1 eZ y r ∧ (y = .slice none 0 0 ∨ v' = .slice none 0 0 ∨ slB y ≠ slB v') := by
    intro y r Sy hy
    refine ⟨Sy.keep ?_, ?_⟩
    · rcases Sy.lo with q | q
      · exact .inl q
      · rcases hy with e | e | e
        · exact .inl e
        · exact .inr (f' _ q.2 (.inl e))
        · exact .inr (f' _ q.2 (.inr e))
    · rcases Sy.lo with q | q
      · exact .inl q
      · rcases S'.lo with z | z
        · exact .inr (.inl z)
        · exact .inr (.inr (by omega))
  refine ⟨v', h', fun kk => ea kk, ⟨vs ++ [x], S'', by simp [hvl], fun i y r h1 h2 => ?_⟩, ⟨by omega, fun y hy => ?_⟩⟩
  · by_cases hil : i < vs.length
    · rw [List.getElem?_append_left hil] at h1
      rw [List.getElem?_append_left (by omega)] at h2
      obtain ⟨q1, q2⟩ := hi i y r h1 h2
      exact keep q1 q2
    · rw [List.getElem?_append_right (by omega)] at h1
      rw [List.getElem?_append_right (by omega), ← hvl] at h2
      have hz : i - vs.length = 0 := by
        rcases Nat.eq_zero_or_pos (i - vs.length) with z | z
        · exact z
        · rw [List.getElem?_eq_none (by simp; omega)] at h1; cases h1
      rw [hz] at h1 h2
      simp at h1 h2
      subst h1; subst h2
      exact keep S hx
  · rcases SV.lo with q | q
    · exact f' y (by omega) (.inl q)
    · exact f' y (by omega) (.inr (by omega))
theorem Way.trans {E : Nat → Nat → Bool} {x y z : Nat} (a : Way E x y) (b : Way E y z) : Way E x z := by
  induction b with
  | here => exact a
  | step _ e ih => exact .step ih e
theorem Way.symm {E : Nat → Nat → Bool} (hs : ∀ v w, E v w = true → E w v = true) {x y : Nat} (a : Way E x y) : Way E y x := by
  induction a with
  | here => exact .here
  | step _ e ih => exact (Way.step .here (hs _ _ e)).trans ih
theorem eB_sym (N : Nb n nb) (Y : Sy nb) (v w : Nat) (h : eB n nb v w = true) : eB n nb w v = true := by
  unfold eB at h ⊢
  simp only [Bool.and_eq_true, decide_eq_true_eq] at h
  have := N.bit h.2
  rw [(Y w v).1, h.2]
  simp [this]
theorem Way.lt (N : Nb n nb) {x y : Nat} (a : Way (eB n nb) x y) (hx : x < n) : y < n := by
  induction a with
  | here => exact hx
  | step _ e _ =>
    unfold eB at e
    simp only [Bool.and_eq_true, decide_eq_true_eq] at e
    exact N.bit e.2
theorem prow_loop {n1 r R : Nat} {s2 s3 s4 s12 s13 : Value} (hro : md.ro ≤ n1) (h16 : n ≤ 16) (hR : R < 2 ^ n) (hw : ∀ w, R.testBit w = true ↔ Way (eB n nb) r w) : ∀ (m k : Nat) (lv : Value) (hh : Heap), k + m = n → n1 ≤ hh.length → SlO hh n1 1 eZ lv (((List.range k).filter (wayB (eB n nb) r)).map fun x : Nat => (x : Int)) →
    ∃ lv' h', J17_0b0 C md ((Value.pointer (some ⟨q, 0, none⟩))) s2 s3 s4 ((Value.int .u32 ((R : Int)))) lv s12 s13 ((Value.int .i64 ((n : Int)))) ((Value.int .i64 ((k : Int)))) hh = J17_0b1 C md ((Value.pointer (some ⟨q, 0, none⟩))) s2 s3 s4 lv' s12 s13 h' ∧ SlO h' n1 1 eZ lv' (compI (eB n nb) n r) ∧ Old n1 hh h' := by
  have h32 : R < 2 ^ 32 := Nat.lt_of_lt_of_le hR (Nat.pow_le_pow_right (by omega) (by omega))
  intro m
  induction m with
  | zero =>
    intro k lv hh hk hn S
    obtain rfl : k = n := by omega
    refine ⟨lv, hh, ?_, S, Old.refl _ _⟩
    rw [J17_0b0_step]
    unfold Jr17_0b0
    simp only [go_sem, Nat.reduceAdd, Nat.reduceLeDiff, Nat.reduceMul, Int.reduceBEq, Int.reduceBNe, Int.reduceLT, Int.reduceLE, Int.reduceGT, aBin_lss, Int.lt_irrefl, Jk17_0b0]
  | succ m ih =>
    intro k lv hh hk hn S
    have hlt : (k : Int) < (n : Int) := by omega
    have w : IntKind.wrap .i64 ((k : Int) + 1) = ((k + 1 : Nat) : Int) := by rw [wi (by omega) (by omega)]; rfl
    have b2 := (bit32 h32 (v := (k : Int)) (by omega) (by omega)).2
    have s := fun {α : Type} {ty : TypeId} {kk : Value → Option α} => and1 h32 (v := (k : Int)) (by omega) (by omega) (α := α) (ty := ty) (k := kk)
    simp only [Int.toNat_natCast] at b2 s
    have e : R.testBit k = wayB (eB n nb) r k := Bool.eq_iff_iff.2 ((hw _).trans wayB_t.symm)
    have hl : (((List.range k).filter (wayB (eB n nb) r)).map fun x : Nat => (x : Int)).length ≤ k := by
      rw [List.length_map]; exact Nat.le_trans (List.length_filter_le _ _) (by simp)
    have ih := ih (k + 1)
    rw [List.range_succ, List.filter_append, List.map_append] at ih
    cases hb : wayB (eB n nb) r k
    · rw [hb] at e
      obtain ⟨lv', h', e2, S', O'⟩ := ih lv hh (by omega) hn (by simpa [hb] using S)
      refine ⟨lv', h', ?_, S', O'⟩
      rw [J17_0b0_step]
      unfold Jr17_0b0
      simp only [go_sem, Nat.reduceAdd, Nat.reduceLeDiff, Nat.reduceMul, Int.reduceBEq, Int.reduceBNe, Int.reduceLT, Int.reduceLE, Int.reduceGT, aBin_lss, hlt, s, aBin_and, aBin_eql, b2, e, aBin_add, w]
      exact e2
    · rw [hb] at e
      obtain ⟨v1, h1, ea, S1, O1⟩ := append_own (md := md) (ys := [(k : Int)]) tInt S hro hn (cs := [(Value.int .i64 ((k : Int)))]) (by simp [flat]) (by simp) rfl (by simp only [List.length_cons, List.length_nil]; omega)
      simp only [List.length_cons, List.length_nil] at ea
      obtain ⟨lv', h', e2, S', O'⟩ := ih v1 h1 (by omega) (Nat.le_trans hn O1.len) (by simpa [hb] using S1)
      refine ⟨lv', h', ?_, S', O1.trans O'⟩
      rw [J17_0b0_step]
      unfold Jr17_0b0
      simp only [go_sem, Nat.reduceAdd, Nat.reduceLeDiff, Nat.reduceMul, Int.reduceBEq, Int.reduceBNe, Int.reduceLT, Int.reduceLE, Int.reduceGT, aBin_lss, hlt, s, aBin_and, aBin_eql, b2, e, bInt1, ea, aBin_add, w]
      exact e2
theorem isRep_t {E : Nat → Nat → Bool} {r : Nat} : isRep E r = true ↔ ∀ x, x < r → ¬ Way E x r := by
  unfold isRep
  rw [List.all_eq_true]
  constructor
  · intro h x hx hw
    have := h x (List.mem_range.2 hx)
    rw [wayB_t.2 hw] at this; cases this
  · intro h x hx
    cases hb : wayB E x r
    · rfl
    · exact absurd (wayB_t.1 hb) (h x (List.mem_range.1 hx))
theorem reps_len {E : Nat → Nat → Bool} (k : Nat) : (reps E k).length ≤ k := Nat.le_trans (List.length_filter_le _ _) (by simp)
theorem rws_addr {h : Heap} {n0 : Nat} {x : Value} {p : List Int} (S : SlO h n0 1 eZ x p) : ∃ a l c, x = .slice a l c := by
  rcases S.sl.is with ⟨rfl, _⟩ | ⟨_, _, _, rfl, _⟩ <;> exact ⟨_, _, _, rfl⟩
theorem parts_loop {n0 : Nat} {s2 : Value} (h0 : Heap) (hro : md.ro ≤ n0) (hqn : q < n0) : ∀ (m k : Nat) (lv : Value) (hh : Heap) (seen : Nat), k + m = n → Gr hh q n nb → n0 ≤ hh.length → seen < 2 ^ n → (∀ w, seen.testBit w = true ↔ ∃ x, x < k ∧ Way (eB n nb) x w) → Rws hh n0 lv ((reps (eB n nb) k).map (compI (eB n nb) n)) → (lv = .slice none 0 0 ∨ slB lv < hh.length) →
    ∃ lv' h', J17_0 C md h0 ((Value.pointer (some ⟨q, 0, none⟩))) s2 lv ((Value.int .u32 ((seen : Int)))) ((Value.int .i64 ((n : Int)))) ((Value.int .i64 ((k : Int)))) hh = some (lv', h') ∧ Rws h' n0 lv' ((reps (eB n nb) n).map (compI (eB n nb) n)) ∧ Old n0 hh h' := by
  intro m
  induction m with
  | zero =>
    intro k lv hh seen hk G hn0 hs hb R _
    obtain rfl : k = n := by omega
    refine ⟨lv, hh, ?_, R, Old.refl _ _⟩
    rw [J17_0_step]
    unfold Jr17_0
    simp only [go_sem, Nat.reduceAdd, Nat.reduceLeDiff, Nat.reduceMul, Int.reduceBEq, Int.reduceBNe, Int.reduceLT, Int.reduceLE, Int.reduceGT, aBin_lss, Int.lt_irrefl, Jk17_0]
  | succ m ih =>
    intro k lv hh seen hk G hn0 hs hb R hlb
    have h16 := G.n16
    have r0 := G.rd0
    have hlt : (k : Int) < (n : Int) := by omega
    have w : IntKind.wrap .i64 ((k : Int) + 1) = ((k + 1 : Nat) : Int) := by rw [wi (by omega) (by omega)]; rfl
    have h32 : seen < 2 ^ 32 := Nat.lt_of_lt_of_le hs (Nat.pow_le_pow_right (by omega) (by omega))
    have b2 := (bit32 h32 (v := (k : Int)) (by omega) (by omega)).2
    have s := fun {α : Type} {ty : TypeId} {kk : Value → Option α} => and1 h32 (v := (k : Int)) (by omega) (by omega) (α := α) (ty := ty) (k := kk)
    simp only [Int.toNat_natCast] at b2 s
    cases hbk : seen.testBit k
    · have rep : isRep (eB n nb) k = true := isRep_t.2 fun x hx hw => by rw [(hb k).2 ⟨x, hx, hw⟩] at hbk; cases hbk
      have er : reps (eB n nb) (k + 1) = reps (eB n nb) k ++ [k] := by unfold reps; rw [List.range_succ, List.filter_append]; simp [rep]
      obtain ⟨R2, q1, q2, q3⟩ := reach_s G (u := (k : Int)) (inB_t.2 ⟨by omega, by omega⟩)
      simp only [Int.toNat_natCast] at q2
      have r32 : R2 < 2 ^ 32 := Nat.lt_of_lt_of_le q1 (Nat.pow_le_pow_right (by omega) (by omega))
      have o := bOr32 h32 r32
      obtain ⟨v1, h1, e1, S1, O1⟩ := prow_loop (md := md) (q := q) (n1 := hh.length) (s2 := s2) (s3 := lv) (s4 := (Value.int .u32 (((seen ||| R2 : Nat) : Int)))) (s12 := (Value.int .i64 ((n : Int)))) (s13 := (Value.int .i64 ((k : Int)))) (by omega) h16 q1 q2 n 0 (.slice none 0 0) hh (by omega) (Nat.le_refl _) (SlO.nil _ _ eZ_len)
      have R1 := R.old (h' := h1) fun x _ hx => O1.old x hx
      have hx1 : v1 = .slice none 0 0 ∨ lv = .slice none 0 0 ∨ slB v1 ≠ slB lv := by
        rcases S1.lo with z | z
        · exact .inl z
        · rcases hlb with y | y
          · exact .inr (.inl y)
          · exact .inr (.inr (by omega))
      obtain ⟨v2, h2, e2, R2', O2⟩ := R1.add (md := md) (S1.mono hn0) hx1 hro (Nat.le_trans hn0 O1.len) (by rw [List.length_map]; have := reps_len (E := eB n nb) k; omega)
      obtain ⟨a1, l1, c1, ev⟩ := rws_addr S1
      have O12 := (O1.mono hn0).trans O2
      have hlb2 : v2 = .slice none 0 0 ∨ slB v2 < h2.length := by
        obtain ⟨vs, SV, _⟩ := R2'.ex
        exact SV.lo.imp id fun z => z.2
      obtain ⟨lv', h', e3, R3, O3⟩ := ih (k + 1) v2 h2 (seen ||| R2) (by omega) (G.same (O12.old _ hqn)) (Nat.le_trans hn0 O12.len) (Nat.or_lt_two_pow hs q1) (fun w => by
        rw [Nat.testBit_or, Bool.or_eq_true, hb, q2]
        constructor
        · rintro (⟨x, hx, hw⟩ | hw)
          · exact ⟨x, by omega, hw⟩
          · exact ⟨k, by omega, hw⟩
        · rintro ⟨x, hx, hw⟩
          by_cases e : x = k
          · subst e; exact .inr hw
          · exact .inl ⟨x, by omega, hw⟩) (by rw [er, List.map_append]; exact R2') hlb2
      refine ⟨lv', h', ?_, R3, O12.trans O3⟩
      rw [J17_0_step]
      unfold Jr17_0
      simp only [go_sem, Nat.reduceAdd, Nat.reduceLeDiff, Nat.reduceMul, Int.reduceBEq, Int.reduceBNe, Int.reduceLT, Int.reduceLE, Int.reduceGT, aBin_lss, hlt, s, aBin_and, aBin_eql, b2, hbk, q3, aBin_or, o, okNil, okP_p, r0]
      simp only [Int.natCast_zero] at e1
      rw [e1]
      unfold J17_0b1
      rw [ev] at e2 ⊢
      simp only [go_sem, Nat.reduceAdd, Nat.reduceLeDiff, Nat.reduceMul, Int.reduceBEq, Int.reduceBNe, Int.reduceLT, Int.reduceLE, Int.reduceGT, bRows1, e2, aBin_add, w]
      exact e3
    · have rep : isRep (eB n nb) k = false := by
        obtain ⟨x, hx, hw⟩ := (hb k).1 hbk
        cases hr : isRep (eB n nb) k
        · rfl
        · exact absurd hw (isRep_t.1 hr x hx)
      have er : reps (eB n nb) (k + 1) = reps (eB n nb) k := by unfold reps; rw [List.range_succ, List.filter_append]; simp [rep]
      obtain ⟨lv', h', e3, R3, O3⟩ := ih (k + 1) lv hh seen (by omega) G hn0 hs (fun w => by
        rw [hb]
        constructor
        · rintro ⟨x, hx, hw⟩; exact ⟨x, by omega, hw⟩
        · rintro ⟨x, hx, hw⟩
          by_cases e : x = k
          · subst e
            obtain ⟨y, hy, hyw⟩ := (hb x).1 hbk
            exact ⟨y, hy, hyw.trans hw⟩
          · exact ⟨x, by omega, hw⟩) (by rw [er]; exact R) hlb
      refine ⟨lv', h', ?_, R3, O3⟩
      rw [J17_0_step]
      unfold Jr17_0
      simp only [go_sem, Nat.reduceAdd, Nat.reduceLeDiff, Nat.reduceMul, Int.reduceBEq, Int.reduceBNe, Int.reduceLT, Int.reduceLE, Int.reduceGT, aBin_lss, hlt, s, aBin_and, aBin_eql, b2, hbk, aBin_add, w]
      exact e3
theorem parts_s (G : Gr h q n nb) (hro : md.ro ≤ h.length) : ∃ lv h', C md 17 [(Value.pointer (some ⟨q, 0, none⟩))] h = some (lv, h') ∧ Rws h' h.length lv ((reps (eB n nb) n).map (compI (eB n nb) n)) ∧ Old h.length h h' := by
  have r0 := G.rd0
  obtain ⟨lv', h', e, S, O⟩ := parts_loop (md := md) (s2 := .slice none 0 0) (n0 := h.length) h hro (lt_of G.hq) n 0 (.slice none 0 0) h 0 (by omega) G (Nat.le_refl _) (Nat.two_pow_pos n) (fun w => by simp) (Rws.nil _ _) (.inl rfl)
  refine ⟨lv', h', ?_, S, O⟩
  rw [C, call_eq, F17_eq]
  unfold F17
  simp only [go_sem, Nat.reduceAdd, Nat.reduceLeDiff, Nat.reduceMul, Int.reduceBEq, Int.reduceBNe, Int.reduceLT, Int.reduceLE, Int.reduceGT, okNil, okP_p, r0]
  simp only [Int.natCast_zero] at e
  exact e
end Go.Det.E
