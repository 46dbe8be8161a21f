/- A copy of a graph; whether two are one; an edge that comes joins two parts at most. -/
import Derived.Test.YtkbpnndheliokaaH9
set_option autoImplicit false
set_option linter.unusedVariables false
set_option linter.unusedSimpArgs false
namespace Go.Det.E
open Go.Proofs Go.Det
attribute [local congr] bind_c cond_c
theorem lay_from : ∀ (vs pre cs : List Value), cs.length = vs.length → lay (pre ++ cs) pre.length vs = pre ++ vs := by
  intro vs
  induction vs with
  | nil => intro pre cs hl; have : cs = [] := List.length_eq_zero_iff.1 (by simpa using hl); subst this; rfl
  | cons v vs ih =>
    intro pre cs hl
    cases cs with
    | nil => simp at hl
    | cons c cs =>
      rw [lay]
      have e : (pre ++ c :: cs).set pre.length v = (pre ++ [v]) ++ cs := by simp
      rw [e]
      have := ih (pre ++ [v]) cs (by simpa using hl)
      rw [List.length_append] at this
      simp only [List.length_cons, List.length_nil, Nat.zero_add] at this
      rw [this]; simp
theorem lay_all {vs cs : List Value} (h : cs.length = vs.length) : lay cs 0 vs = vs := lay_from vs [] cs h
variable {md : Md} {h hh : Heap} {q p n m : Nat} {nb nb' : List Nat} {u v : Int}
theorem grC_len (N : Nb n nb) : (grC n nb).length = 17 := by simp [grC, N.len]
theorem grC_cell : (grC n nb).all isCell = true := by simp [grC, isCell]
theorem grC_scalar : (grC n nb).all scalar = true := by simp [grC, scalar]
theorem copy_g (G : Gr h q n nb) (hro : md.ro ≤ h.length) (hlim : md.lim ≤ h.length) : C md 19 [(Value.pointer (some ⟨q, 0, none⟩))] h = some ((Value.pointer (some ⟨h.length, 0, none⟩)), h ++ [.own (grC n nb)]) := by
  rw [C, call_eq, F19_eq]
  unfold F19
  have r : rdN h q 0 17 = some (grC n nb) := by
    rw [rdN_own G.hq (by rw [grC_len G.N]; omega), List.drop_zero, List.take_of_length_le (by rw [grC_len G.N]; omega)]
  have st17 := fun (hh : Heap) (k' : Heap → Option (Value × Heap)) => st_N md 17 h.length 0 (grC n nb) hh k' (grC_len G.N) grC_cell
  have w : ∀ cs : List Value, cs.length = 17 → wrN md (h ++ [Blk.own cs]) h.length 0 (grC n nb) = some (h ++ [.own (grC n nb)]) := fun cs hc => by
    rw [wrN_new0 (bs := []) hro hlim (by rw [grC_len G.N, hc]; omega), lay_all (by rw [hc, grC_len G.N])]
  have w0 := w [(Value.int .i64 0), (Value.int .u32 0), (Value.int .u32 0), (Value.int .u32 0), (Value.int .u32 0), (Value.int .u32 0), (Value.int .u32 0), (Value.int .u32 0), (Value.int .u32 0), (Value.int .u32 0), (Value.int .u32 0), (Value.int .u32 0), (Value.int .u32 0), (Value.int .u32 0), (Value.int .u32 0), (Value.int .u32 0), (Value.int .u32 0)] rfl
  simp only [go_sem, Nat.reduceAdd, Nat.reduceLeDiff, Nat.reduceMul, Int.reduceBEq, Int.reduceBNe, Int.reduceLT, Int.reduceLE, Int.reduceGT, okNil, okP_p, r, st17, w0]
theorem cells_w : ∀ (k : Nat) (xs ys : List Nat), xs.length = k → ys.length = k → cellsEq (List.replicate k .i) (xs.map fun x : Nat => (Value.int .u32 ((x : Int)))) (ys.map fun x : Nat => (Value.int .u32 ((x : Int)))) = some (decide (xs = ys)) := by
  intro k
  induction k with
  | zero => intro xs ys h1 h2; rw [List.length_eq_zero_iff.1 h1, List.length_eq_zero_iff.1 h2]; rfl
  | succ k ih =>
    intro xs ys h1 h2
    cases xs with
    | nil => simp at h1
    | cons x xs =>
      cases ys with
      | nil => simp at h2
      | cons y ys =>
        simp only [List.replicate_succ, List.map_cons]
        rw [cellsEq_i (ih xs ys (by simpa using h1) (by simpa using h2))]
        congr 1
        rw [Bool.eq_iff_iff]
        simp
        omega
theorem arr16 {α : Type} {xs ys : List Nat} (hx : xs.length = 16) (hy : ys.length = 16) (k : Value → Option α) : aBin Try.prog .eql 80 (.agg (xs.map fun x : Nat => (Value.int .u32 ((x : Int)))).toArray) (.agg (ys.map fun x : Nat => (Value.int .u32 ((x : Int)))).toArray) k = k ((Value.bool (decide (xs = ys)))) :=
  aBin_eqlA (ks := List.replicate 16 .i) (by kernel_rfl) (by kernel_rfl) (by kernel_rfl) (by simp [hx]) (by simp [hy]) (cells_w 16 xs ys hx hy)
theorem gequal_s (G : Gr h q n nb) (G' : Gr h p m nb') : C md 20 [(Value.pointer (some ⟨q, 0, none⟩)), (Value.pointer (some ⟨p, 0, none⟩))] h = some ((Value.bool (decide (n = m) && decide (nb = nb'))), h) := by
  rw [C, call_eq, F20_eq]
  unfold F20
  have r0 := G.rd0
  have s0 := G'.rd0
  have rd16 : ∀ {q n : Nat} {nb : List Nat}, Gr h q n nb → rdN h q 1 16 = some (nb.map fun x : Nat => (Value.int .u32 ((x : Int)))) := by
    intro q n nb G
    rw [rdN_own G.hq (by rw [grC_len G.N]; omega)]
    simp only [grC, List.drop_succ_cons, List.drop_zero]
    rw [List.take_of_length_le (by simp [G.N.len])]
  have r1 := rd16 G
  have s1 := rd16 G'
  have ea := fun {α : Type} (k : Value → Option α) => arr16 G.N.len G'.N.len k
  by_cases e : n = m
  · have b : ((n : Int) == (m : Int)) = true := by simp [e]
    have d : decide (n = m) = true := decide_eq_true e
    simp only [go_sem, Nat.reduceAdd, Nat.reduceLeDiff, Nat.reduceMul, Int.reduceBEq, Int.reduceBNe, Int.reduceLT, Int.reduceLE, Int.reduceGT, okNil, okP_p, r0, s0, b, d, r1, s1, ea]
  · have b : ((n : Int) == (m : Int)) = false := by simp; omega
    have d : decide (n = m) = false := decide_eq_false e
    simp only [go_sem, Nat.reduceAdd, Nat.reduceLeDiff, Nat.reduceMul, Int.reduceBEq, Int.reduceBNe, Int.reduceLT, Int.reduceLE, Int.reduceGT, okNil, okP_p, r0, s0, b, d]
theorem nb_ext (N : Nb n nb) (N' : Nb n nb') (h : ∀ x y, (nb.getD x 0).testBit y = (nb'.getD x 0).testBit y) : nb = nb' := by
  refine List.ext_getElem (by rw [N.len, N'.len]) fun i h1 h2 => ?_
  have : nb.getD i 0 = nb'.getD i 0 := Nat.eq_of_testBit_eq fun y => h i y
  simpa [List.getD, h1, h2] using this
theorem tn_tn (N : Nb n nb) (h16 : n ≤ 16) {u v : Nat} (hu : u < n) (hv : v < n) (huv : u ≠ v) : tn (tn nb u v) u v = nb := by
  have N1 := tn_nb N h16 hu hv huv
  refine nb_ext (tn_nb N1 h16 hu hv huv) N fun x y => ?_
  rw [tn_bit N1 (by omega) (by omega) huv, tn_bit N (by omega) (by omega) huv]
  cases (nb.getD x 0).testBit y <;> cases (decide (x = u ∧ y = v) || decide (x = v ∧ y = u)) <;> rfl
/-- With one edge more. -/
theorem way_more {E E' : Nat → Nat → Bool} {u v : Nat} (he : ∀ a b, E' a b = true → E a b = true ∨ (a = u ∧ b = v) ∨ (a = v ∧ b = u)) {x y : Nat} (h : Way E' x y) :
    Way E x y ∨ (Way E x u ∧ Way E v y) ∨ (Way E x v ∧ Way E u y) := by
  induction h with
  | here => exact .inl .here
  | step _ e ih =>
    rcases he _ _ e with e | ⟨rfl, rfl⟩ | ⟨rfl, rfl⟩
    · rcases ih with h | ⟨h1, h2⟩ | ⟨h1, h2⟩
      · exact .inl (.step h e)
      · exact .inr (.inl ⟨h1, .step h2 e⟩)
      · exact .inr (.inr ⟨h1, .step h2 e⟩)
    · rcases ih with h | ⟨h1, h2⟩ | ⟨h1, h2⟩
      · exact .inr (.inl ⟨h, .here⟩)
      · exact .inr (.inl ⟨h1, .here⟩)
      · exact .inl h1
    · rcases ih with h | ⟨h1, h2⟩ | ⟨h1, h2⟩
      · exact .inr (.inr ⟨h, .here⟩)
      · exact .inl h1
      · exact .inr (.inr ⟨h1, .here⟩)
theorem one_at_most {p : Nat → Bool} : ∀ (l : List Nat), l.Nodup → (∀ x ∈ l, ∀ y ∈ l, p x = true → p y = true → x = y) → (l.filter p).length ≤ 1 := by
  intro l hn hp
  have nf := hn.filter p
  cases hl : l.filter p with
  | nil => simp
  | cons a t =>
    cases t with
    | nil => simp
    | cons b t =>
      exfalso
      rw [hl] at nf
      have ha : a ∈ l.filter p := by rw [hl]; simp
      have hb : b ∈ l.filter p := by rw [hl]; simp
      rw [List.mem_filter] at ha hb
      have := hp a ha.1 b hb.1 ha.2 hb.2
      subst this
      simp at nf
theorem filter_split {p r : Nat → Bool} (h : ∀ x, r x = true → p x = true) : ∀ l : List Nat, (l.filter p).length = (l.filter r).length + (l.filter fun x => p x && !r x).length := by
  intro l
  induction l with
  | nil => rfl
  | cons x l ih =>
    simp only [List.filter_cons]
    have := h x
    cases hr : r x <;> cases hq : p x <;> simp [hr, hq] at this ⊢ <;> omega
theorem reps_more {E E' : Nat → Nat → Bool} {u v n : Nat} (hs : ∀ a b, E a b = true → E b a = true) (hsub : ∀ a b, E a b = true → E' a b = true) (he : ∀ a b, E' a b = true → E a b = true ∨ (a = u ∧ b = v) ∨ (a = v ∧ b = u)) :
    (reps E' n).length ≤ (reps E n).length ∧ (reps E n).length ≤ (reps E' n).length + 1 := by
  have up : ∀ {x y}, Way E x y → Way E' x y := by
    intro x y h
    induction h with
    | here => exact .here
    | step _ e ih => exact .step ih (hsub _ _ e)
  have mono : ∀ r, isRep E' r = true → isRep E r = true := fun r h => isRep_t.2 fun x hx hw => isRep_t.1 h x hx (up hw)
  have sp := filter_split mono (List.range n)
  have low : ∀ {r x : Nat}, isRep E r = true → Way E x r → r ≤ x := by
    intro r x hr hw
    rcases Nat.lt_or_ge x r with h | h
    · exact absurd hw (isRep_t.1 hr x h)
    · exact h
  have key : ∀ r, isRep E r = true → isRep E' r = false → (Way E u r ∧ ∃ x, x < r ∧ Way E v x) ∨ (Way E v r ∧ ∃ x, x < r ∧ Way E u x) := by
    intro r h1 h2
    have : ∃ x, x < r ∧ Way E' x r := Classical.byContradiction fun q => by
      rw [isRep_t.2 fun x hx hw => q ⟨x, hx, hw⟩] at h2; cases h2
    obtain ⟨x, hx, hw⟩ := this
    rcases way_more he hw with h | ⟨h3, h4⟩ | ⟨h3, h4⟩
    · exact absurd h (isRep_t.1 h1 x hx)
    · exact .inr ⟨h4, x, hx, h3.symm hs⟩
    · exact .inl ⟨h4, x, hx, h3.symm hs⟩
  have one := one_at_most (p := fun x => isRep E x && !isRep E' x) (List.range n) List.nodup_range (fun a _ b _ ha hb => by
    simp only [Bool.and_eq_true, Bool.not_eq_true'] at ha hb
    rcases key a ha.1 ha.2 with ⟨k1, x, hx, k2⟩ | ⟨k1, x, hx, k2⟩ <;> rcases key b hb.1 hb.2 with ⟨l1, y, hy, l2⟩ | ⟨l1, y, hy, l2⟩
    · have := low ha.1 ((l1.symm hs).trans k1)
      have := low hb.1 ((k1.symm hs).trans l1)
      omega
    · have := low hb.1 ((k2.symm hs).trans l1)
      have := low ha.1 ((l2.symm hs).trans k1)
      omega
    · have := low hb.1 ((k2.symm hs).trans l1)
      have := low ha.1 ((l2.symm hs).trans k1)
      omega
    · have := low ha.1 ((l1.symm hs).trans k1)
      have := low hb.1 ((k1.symm hs).trans l1)
      omega)
  unfold reps
  omega
end Go.Det.E
