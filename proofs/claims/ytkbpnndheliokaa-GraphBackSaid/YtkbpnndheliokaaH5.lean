/- The set of edges that the statements keep: ways in it; a call on both. -/
import Derived.Test.YtkbpnndheliokaaH4
set_option autoImplicit false
set_option linter.unusedVariables false
set_option linter.unusedSimpArgs false
namespace Go.Det.E
open Go.Proofs Go.Det
attribute [local congr] bind_c cond_c
/-- A map that has a graph's edges. -/
def SM (n : Nat) (nb : List Nat) (es : List (MK × Value)) : Prop := ∀ x y : Int, (mGet es [x, y]).getD ((Value.bool false)) = (Value.bool (decide (0 ≤ x ∧ x < y ∧ y < (n : Int)) && bt nb x y))
theorem tSet : mapTy Try.prog 29 = some (.two .i64, 4) := by kernel_rfl
theorem zBool : zeroV Try.prog 4 = some ((Value.bool false)) := by kernel_rfl
theorem bPair {α : Type} (x y : Int) (k : Value → Option α) : aBuild Try.prog 34 [(0, (Value.int .i64 x)), (1, (Value.int .i64 y))] k = k ((Value.agg #[(Value.int .i64 x), (Value.int .i64 y)])) := by kernel_rfl
theorem bPairs {α : Type} (x y : Int) (h : Heap) (k : Value → Heap → Option α) : aBuildSlice Try.prog 85 1 [(0, (Value.agg #[(Value.int .i64 x), (Value.int .i64 y)]))] h k = k ((Value.slice (some ⟨h.length, 0, none⟩) 1 2)) (h ++ [Blk.own [(Value.int .i64 x), (Value.int .i64 y)]]) := by kernel_rfl
theorem tPairs : SlT Try.prog 85 34 2 16 [(Value.int .i64 0), (Value.int .i64 0)] := ⟨by kernel_rfl, by kernel_rfl, by kernel_rfl, rfl, by decide, by decide, rfl⟩
theorem SM.get {n : Nat} {nb : List Nat} {es : List (MK × Value)} {h : Heap} {b : Nat} (S : SM n nb es) (hb : h[b]? = some (.mp (.two .i64) es)) (x y : Int) {α : Type} (kk : Value → Option α) :
    aLookup Try.prog 29 (.map (some b)) ((Value.agg #[(Value.int .i64 x), (Value.int .i64 y)])) false h kk = kk ((Value.bool (decide (0 ≤ x ∧ x < y ∧ y < (n : Int)) && bt nb x y))) := by
  rw [aLookup_p tSet zBool keyOf_2 hb, S x y]
theorem SM.set {es : List (MK × Value)} {h : Heap} {b : Nat} {md : Md} (hb : h[b]? = some (.mp (.two .i64) es)) (hro : md.ro ≤ b) (x y : Int) (v : Bool) {α : Type} (kk : Heap → Option α) :
    aMapPut Try.prog md 29 (.map (some b)) ((Value.agg #[(Value.int .i64 x), (Value.int .i64 y)])) ((Value.bool v)) h kk = kk (h.set b (.mp (.two .i64) (mPut es [x, y] ((Value.bool v))))) := aMapPut_p tSet keyOf_2 hb rfl hro
theorem SM.nil {n : Nat} : SM n (List.replicate 16 0) [] := by
  intro x y
  have : bt (List.replicate 16 0) x y = false := by
    unfold bt
    rw [List.getD_eq_getElem?_getD, List.getElem?_replicate]
    split <;> simp
  rw [this]; simp [mGet]
/-- No edge to oneself; edges both ways. -/
def Sy (nb : List Nat) : Prop := ∀ x y : Nat, (nb.getD x 0).testBit y = (nb.getD y 0).testBit x ∧ (nb.getD x 0).testBit x = false
/-- Edges of a vertex, from another one on; of all vertices, from one on. -/
def rowF (nb : List Nat) (x : Nat) : Nat → Nat → List (Int × Int)
  | k, 0 => []
  | k, m + 1 => (if bt nb (x : Int) (k : Int) then [((x : Int), (k : Int))] else []) ++ rowF nb x (k + 1) m
def allF (n : Nat) (nb : List Nat) : Nat → Nat → List (Int × Int)
  | k, 0 => []
  | k, m + 1 => rowF nb k (k + 1) (n - (k + 1)) ++ allF n nb (k + 1) m
theorem rowF_mem {nb : List Nat} {x : Nat} {a b : Int} : ∀ (m k : Nat), (a, b) ∈ rowF nb x k m ↔ a = x ∧ (k : Int) ≤ b ∧ b < (k + m : Nat) ∧ bt nb a b = true := by
  intro m
  induction m with
  | zero => intro k; simp [rowF]; omega
  | succ m ih =>
    intro k
    rw [rowF, List.mem_append, ih]
    constructor
    · rintro (h | ⟨h1, h2, h3, h4⟩)
      · split at h
        · rename_i hb
          simp at h
          obtain ⟨rfl, rfl⟩ := h
          exact ⟨rfl, by omega, by omega, hb⟩
        · simp at h
      · exact ⟨h1, by omega, by omega, h4⟩
    · rintro ⟨h1, h2, h3, h4⟩
      by_cases hb : b = k
      · subst hb; subst h1
        left
        rw [if_pos h4]; simp
      · exact .inr ⟨h1, by omega, by omega, h4⟩
theorem allF_mem {n : Nat} {nb : List Nat} {a b : Int} : ∀ (m k : Nat), k + m = n → ((a, b) ∈ allF n nb k m ↔ (k : Int) ≤ a ∧ a < b ∧ b < (n : Int) ∧ bt nb a b = true) := by
  intro m
  induction m with
  | zero => intro k hk; simp [allF]; omega
  | succ m ih =>
    intro k hk
    rw [allF, List.mem_append, ih (k + 1) (by omega), rowF_mem]
    constructor
    · rintro (⟨h1, h2, h3, h4⟩ | ⟨h1, h2, h3, h4⟩)
      · exact ⟨by omega, by omega, by omega, h4⟩
      · exact ⟨by omega, h2, h3, h4⟩
    · rintro ⟨h1, h2, h3, h4⟩
      by_cases hb : a = k
      · exact .inl ⟨hb, by omega, by omega, h4⟩
      · exact .inr ⟨by omega, h2, h3, h4⟩
theorem rowF_len {nb : List Nat} {x : Nat} : ∀ (m k : Nat), (rowF nb x k m).length ≤ m := by
  intro m
  induction m with
  | zero => intro k; simp [rowF]
  | succ m ih => intro k; rw [rowF, List.length_append]; have := ih (k + 1); split <;> simp <;> omega
theorem allF_len {n : Nat} {nb : List Nat} : ∀ (m k : Nat), (allF n nb k m).length ≤ m * n := by
  intro m
  induction m with
  | zero => intro k; simp [allF]
  | succ m ih => intro k; rw [allF, List.length_append, Nat.succ_mul]; have := ih (k + 1); have := rowF_len (nb := nb) (x := k) (n - (k + 1)) (k + 1); omega
theorem allF_rng {n : Nat} {nb : List Nat} : ∀ e ∈ allF n nb 0 n, (0 ≤ e.1 ∧ e.1 < (n : Int)) ∧ 0 ≤ e.2 ∧ e.2 < (n : Int) := by
  rintro ⟨a, b⟩ he
  have := (allF_mem (n := n) (nb := nb) n 0 (by omega)).1 he
  simp only; omega
theorem way_is {n : Nat} {nb : List Nat} (N : Nb n nb) (S : Sy nb) {u v : Int} (hu : 0 ≤ u ∧ u < (n : Int)) (hv : 0 ≤ v ∧ v < (n : Int)) : wlB (allF n nb 0 n) u v = wayB (eB n nb) u.toNat v.toNat := by
  refine Bool.eq_iff_iff.2 ?_
  rw [wlB_t, wayB_t]
  constructor
  · intro h
    have : ∀ w, WayL (allF n nb 0 n) u w → (0 ≤ w ∧ w < (n : Int)) ∧ Way (eB n nb) u.toNat w.toNat := by
      intro w hw
      induction hw with
      | here => exact ⟨hu, .here⟩
      | step _ e ih =>
        rename_i a b _
        obtain ⟨ha, ih⟩ := ih
        rcases e with e | e
        · have := (allF_mem (n := n) (nb := nb) n 0 (by omega)).1 e
          refine ⟨by omega, .step ih ?_⟩
          unfold eB
          rw [show (nb.getD a.toNat 0).testBit b.toNat = true from this.2.2.2]
          simp; omega
        · have := (allF_mem (n := n) (nb := nb) n 0 (by omega)).1 e
          refine ⟨by omega, .step ih ?_⟩
          unfold eB
          rw [(S a.toNat b.toNat).1, show (nb.getD b.toNat 0).testBit a.toNat = true from this.2.2.2]
          simp; omega
    exact (this v h).2
  · intro h
    have : ∀ w, Way (eB n nb) u.toNat w → w < n ∧ WayL (allF n nb 0 n) u (w : Int) := by
      intro w hw
      induction hw with
      | here => exact ⟨by omega, by rw [Int.toNat_of_nonneg hu.1]; exact .here⟩
      | step _ e ih =>
        rename_i a b _
        obtain ⟨ha, ih⟩ := ih
        unfold eB at e
        simp only [Bool.and_eq_true, decide_eq_true_eq] at e
        have hb : b < n := N.bit e.2
        have hab : a ≠ b := fun q => by subst q; rw [(S a a).2] at e; cases e.2
        refine ⟨hb, .step ih ?_⟩
        by_cases q : a < b
        · exact .inl ((allF_mem n 0 (by omega)).2 ⟨by omega, by omega, by omega, e.2⟩)
        · refine .inr ((allF_mem n 0 (by omega)).2 ⟨by omega, by omega, by omega, ?_⟩)
          show (nb.getD b 0).testBit a = true
          rw [← (S a b).1]; exact e.2
    have := (this v.toNat h).2
    rwa [Int.toNat_of_nonneg hv.1] at this
variable {md : Md} {h hh : Heap} {q n mb : Nat} {nb : List Nat} {es : List (MK × Value)} {lv : Value} {u v : Int}
theorem row_loop {n0 x : Nat} {s1 s2 s8 s12 s13 : Value} (S : SM n nb es) (hro : md.ro ≤ n0) (h16 : n ≤ 16) : ∀ (m k : Nat) (lv : Value) (hh : Heap) (xs : List (Int × Int)), k + m = n → x < k → xs.length + m < 1000 → hh[mb]? = some (.mp (.two .i64) es) → mb < n0 → n0 ≤ hh.length → SlO hh n0 2 eZ2 lv xs →
    ∃ lv' h', J15_0b0 C md (.map (some mb)) s1 s2 ((Value.int .i64 ((n : Int)))) s8 lv ((Value.int .i64 ((x : Int)))) ((Value.int .i64 ((k : Int)))) s12 s13 hh = Jk15_0b0 C md .normal (.map (some mb)) s1 s2 ((Value.int .i64 ((n : Int)))) s8 lv' ((Value.int .i64 ((x : Int)))) ((Value.int .i64 ((n : Int)))) s12 s13 h' ∧ SlO h' n0 2 eZ2 lv' (xs ++ rowF nb x k m) ∧ Old n0 hh h' := by
  intro m
  induction m with
  | zero =>
    intro k lv hh xs hk hx hl hb hmb hn0 SL
    obtain rfl : k = n := by omega
    refine ⟨lv, hh, ?_, by simpa [rowF] using SL, Old.refl _ _⟩
    rw [J15_0b0_step]
    unfold Jr15_0b0
    simp only [go_sem, Nat.reduceAdd, Nat.reduceLeDiff, Nat.reduceMul, Int.reduceBEq, Int.reduceBNe, Int.reduceLT, Int.reduceLE, Int.reduceGT, aBin_lss, Int.lt_irrefl, Jk15_0b0]
  | succ m ih =>
    intro k lv hh xs hk hx hl hb hmb hn0 SL
    have hlt : (k : Int) < (n : Int) := by omega
    have w : IntKind.wrap .i64 ((k : Int) + 1) = ((k + 1 : Nat) : Int) := by rw [wi (by omega) (by omega)]; rfl
    have g := fun {α : Type} (kk : Value → Option α) => S.get hb (x : Int) (k : Int) kk
    have dt : decide (0 ≤ (x : Int) ∧ (x : Int) < (k : Int) ∧ (k : Int) < (n : Int)) = true := decide_eq_true ⟨by omega, by omega, by omega⟩
    simp only [dt, Bool.true_and] at g
    cases hbt : bt nb (x : Int) (k : Int)
    · obtain ⟨lv', h', e, S', O'⟩ := ih (k + 1) lv hh xs (by omega) (by omega) (by omega) hb hmb hn0 SL
      refine ⟨lv', h', ?_, by rw [rowF, hbt]; simpa using S', O'⟩
      rw [J15_0b0_step]
      unfold Jr15_0b0
      simp only [go_sem, Nat.reduceAdd, Nat.reduceLeDiff, Nat.reduceMul, Int.reduceBEq, Int.reduceBNe, Int.reduceLT, Int.reduceLE, Int.reduceGT, aBin_lss, hlt, bPair, g, hbt, aBin_add, w]
      exact e
    · obtain ⟨v1, h1, ea, S1, O1⟩ := append_own (md := md) (ys := [((x : Int), (k : Int))]) tPairs SL hro hn0 (cs := [(Value.int .i64 ((x : Int))), (Value.int .i64 ((k : Int)))]) (by simp [flat, eZ2]) (by simp) rfl (by simp; omega)
      simp only [List.length_cons, List.length_nil] at ea
      obtain ⟨lv', h', e, S', O'⟩ := ih (k + 1) v1 h1 _ (by omega) (by omega) (by simp; omega) ((O1.old _ hmb).trans hb) hmb (Nat.le_trans hn0 O1.len) S1
      refine ⟨lv', h', ?_, by rw [rowF, hbt]; simpa using S', O1.trans O'⟩
      rw [J15_0b0_step]
      unfold Jr15_0b0
      simp only [go_sem, Nat.reduceAdd, Nat.reduceLeDiff, Nat.reduceMul, Int.reduceBEq, Int.reduceBNe, Int.reduceLT, Int.reduceLE, Int.reduceGT, aBin_lss, hlt, bPair, g, hbt, bPairs, ea, aBin_add, w]
      exact e
theorem all_loop {n0 : Nat} {s8 : Value} (hh0 : Heap) (S : SM n nb es) (N : Nb n nb) (Y : Sy nb) (hro : md.ro ≤ n0) (h16 : n ≤ 16) (hu : 0 ≤ u ∧ u < (n : Int)) (hv : 0 ≤ v ∧ v < (n : Int)) : ∀ (m k : Nat) (lv : Value) (hh : Heap) (xs : List (Int × Int)), k + m = n → xs ++ allF n nb k m = allF n nb 0 n → hh[mb]? = some (.mp (.two .i64) es) → mb < n0 → n0 ≤ hh.length → SlO hh n0 2 eZ2 lv xs →
    J15_0 C md hh0 (.map (some mb)) ((Value.int .i64 u)) ((Value.int .i64 v)) ((Value.int .i64 ((n : Int)))) s8 lv ((Value.int .i64 ((n : Int)))) ((Value.int .i64 ((k : Int)))) hh = some ((Value.bool (wayB (eB n nb) u.toNat v.toNat)), hh0) := by
  intro m
  induction m with
  | zero =>
    intro k lv hh xs hk he hb hmb hn0 SL
    obtain rfl : k = n := by omega
    simp only [allF, List.append_nil] at he
    subst he
    have e := fun (md : Md) => joined10_s (md := md) (h := hh) (w := v) SL.sl (SL.lo.imp id fun q => q.2) (by have := allF_len (n := k) (nb := nb) k 0; have : k * k ≤ 16 * 16 := Nat.mul_le_mul h16 h16; omega) allF_rng h16 hu
    rw [way_is N Y hu hv] at e
    rw [J15_0_step]
    unfold Jr15_0
    simp only [go_sem, Nat.reduceAdd, Nat.reduceLeDiff, Nat.reduceMul, Int.reduceBEq, Int.reduceBNe, Int.reduceLT, Int.reduceLE, Int.reduceGT, aBin_lss, Int.lt_irrefl, Jk15_0, J15_1, e]
  | succ m ih =>
    intro k lv hh xs hk he hb hmb hn0 SL
    have hlt : (k : Int) < (n : Int) := by omega
    have w : IntKind.wrap .i64 ((k : Int) + 1) = ((k + 1 : Nat) : Int) := by rw [wi (by omega) (by omega)]; rfl
    rw [allF] at he
    have hl : xs.length ≤ 256 := by
      have := congrArg List.length he
      rw [List.length_append] at this
      have := allF_len (n := n) (nb := nb) n 0
      have : n * n ≤ 16 * 16 := Nat.mul_le_mul h16 h16
      omega
    obtain ⟨lv', h', e, S', O'⟩ := row_loop (md := md) (x := k) (s1 := (Value.int .i64 u)) (s2 := (Value.int .i64 v)) (s8 := s8) (s12 := (Value.int .i64 ((n : Int)))) (s13 := (Value.int .i64 ((k : Int)))) S hro h16 (n - (k + 1)) (k + 1) lv hh xs (by omega) (by omega) (by omega) hb hmb hn0 SL
    have e2 := ih (k + 1) lv' h' _ (by omega) (by rw [← he, List.append_assoc]) ((O'.old _ hmb).trans hb) hmb (Nat.le_trans hn0 O'.len) S'
    rw [J15_0_step]
    unfold Jr15_0
    simp only [go_sem, Nat.reduceAdd, Nat.reduceLeDiff, Nat.reduceMul, Int.reduceBEq, Int.reduceBNe, Int.reduceLT, Int.reduceLE, Int.reduceGT, aBin_lss, hlt, aBin_add, w]
    rw [e]
    simp only [go_sem, Nat.reduceAdd, Nat.reduceLeDiff, Nat.reduceMul, Int.reduceBEq, Int.reduceBNe, Int.reduceLT, Int.reduceLE, Int.reduceGT, Jk15_0b0, aBin_add, w]
    exact e2
theorem sjoined_s (S : SM n nb es) (N : Nb n nb) (Y : Sy nb) (h16 : n ≤ 16) (hu : 0 ≤ u ∧ u < (n : Int)) (hv : 0 ≤ v ∧ v < (n : Int)) (hb : h[mb]? = some (.mp (.two .i64) es)) :
    C md 15 [.map (some mb), (Value.int .i64 u), (Value.int .i64 v), (Value.int .i64 ((n : Int)))] h = some ((Value.bool (wayB (eB n nb) u.toNat v.toNat)), h) := by
  rw [C, call_eq, F15_eq]
  unfold F15
  exact all_loop (md := ⟨h.length, h.length⟩) h S N Y (Nat.le_refl _) h16 hu hv n 0 _ h [] (by omega) rfl hb (lt_of hb) (Nat.le_refl _) (SlO.nil _ _ eZ2_len)
theorem sthere (h : Heap) {b : Nat} (hb : rd h b 0 = some ((Value.int .i64 ((n : Int))))) (v : Int) : C md 38 [(Value.int .i64 v), (Value.pointer (some ⟨b, 0, none⟩))] h = some ((Value.bool (inB n v)), h) := by
  rw [C, call_eq, F38_eq]
  unfold F38
  by_cases h0 : v ≥ 0
  · by_cases h1 : v < (n : Int)
    · have : inB n v = true := inB_t.2 ⟨h0, h1⟩
      simp only [go_sem, Nat.reduceAdd, Nat.reduceLeDiff, Nat.reduceMul, Int.reduceBEq, Int.reduceBNe, Int.reduceLT, Int.reduceLE, Int.reduceGT, h0, hb, aBin_lss, h1, this]
    · have : inB n v = false := inB_f.2 fun q => h1 q.2
      simp only [go_sem, Nat.reduceAdd, Nat.reduceLeDiff, Nat.reduceMul, Int.reduceBEq, Int.reduceBNe, Int.reduceLT, Int.reduceLE, Int.reduceGT, h0, hb, aBin_lss, h1, this]
  · have : inB n v = false := inB_f.2 fun q => h0 q.1
    simp only [go_sem, Nat.reduceAdd, Nat.reduceLeDiff, Nat.reduceMul, Int.reduceBEq, Int.reduceBNe, Int.reduceLT, Int.reduceLE, Int.reduceGT, h0, this]
theorem gDo_sy (N : Nb n nb) (h16 : n ≤ 16) (Y : Sy nb) (k u v : Int) : Nb n (gDo n nb k u v).2.2 ∧ Sy (gDo n nb k u v).2.2 := by
  unfold gDo
  split
  · exact ⟨N, Y⟩
  · rename_i h0
    have h0' : wr n k u v = 0 := Classical.byContradiction h0
    split
    · exact ⟨N, Y⟩
    · rename_i h3
      split
      · exact ⟨N, Y⟩
      · obtain ⟨k1, k3, hu, hv, huv⟩ := wr_0 h0'
        have hu := inB_t.1 hu
        have hv := inB_t.1 hv
        have huv := huv h3
        refine ⟨tn_nb N h16 (by omega) (by omega) (by omega), fun x y => ⟨?_, ?_⟩⟩
        · rw [tn_bit N (by omega) (by omega) (by omega), tn_bit N (by omega) (by omega) (by omega), (Y x y).1]
          congr 1
          by_cases q1 : x = u.toNat ∧ y = v.toNat
          · have : y = v.toNat ∧ x = u.toNat := ⟨q1.2, q1.1⟩
            simp [q1, this]
          · by_cases q2 : x = v.toNat ∧ y = u.toNat
            · simp [q2]
            · have q1' : ¬ (y = v.toNat ∧ x = u.toNat) := fun q => q1 ⟨q.2, q.1⟩
              have q2' : ¬ (y = u.toNat ∧ x = v.toNat) := fun q => q2 ⟨q.2, q.1⟩
              simp [q1, q2, q1', q2']
        · rw [tn_bit N (by omega) (by omega) (by omega), (Y x x).2]
          have q1 : ¬ (x = u.toNat ∧ x = v.toNat) := by omega
          have q2 : ¬ (x = v.toNat ∧ x = u.toNat) := by omega
          simp [q1, q2]
theorem mm (u v : Int) : (if v < u then v else u) = min u v ∧ (if v > u then v else u) = max u v := by
  constructor
  · split <;> omega
  · split <;> omega
theorem SM.step (S : SM n nb es) (N : Nb n nb) (h16 : n ≤ 16) (Y : Sy nb) {k u v : Int} (h0 : wr n k u v = 0) (h3 : k ≠ 3) : SM n (gDo n nb k u v).2.2 (mPut es [min u v, max u v] ((Value.bool (k == 1)))) ∧ (gDo n nb k u v).1 = (bt nb u v != (k == 1)) := by
  obtain ⟨k1, k3, hu, hv, huv⟩ := wr_0 h0
  have hu := inB_t.1 hu
  have hv := inB_t.1 hv
  have huv := huv h3
  have hk1 : (k == 1) = decide (k = 1) := rfl
  have key : ∀ (nb' : List Nat), (∀ x y : Int, 0 ≤ x → x < y → y < (n : Int) → bt nb' x y = if x = min u v ∧ y = max u v then (k == 1) else bt nb x y) → SM n nb' (mPut es [min u v, max u v] ((Value.bool (k == 1)))) := by
    intro nb' hnb x y
    rw [mGet_put]
    by_cases hxy : [x, y] = [min u v, max u v]
    · rw [if_pos hxy]
      simp only [List.cons.injEq, and_true] at hxy
      obtain ⟨rfl, rfl⟩ := hxy
      have c : 0 ≤ min u v ∧ min u v < max u v ∧ max u v < (n : Int) := by omega
      rw [hnb _ _ c.1 c.2.1 c.2.2, if_pos ⟨rfl, rfl⟩]
      simp only [c, and_self, decide_true, Bool.true_and, Option.getD_some]
    · rw [if_neg hxy, S x y]
      by_cases c : 0 ≤ x ∧ x < y ∧ y < (n : Int)
      · have : ¬ (x = min u v ∧ y = max u v) := fun q => hxy (by rw [q.1, q.2])
        rw [hnb x y c.1 c.2.1 c.2.2, if_neg this]
      · simp only [c, decide_false, Bool.false_and]
  have bmm : bt nb (min u v) (max u v) = bt nb u v := by
    by_cases q : u < v
    · rw [Int.min_eq_left (by omega), Int.max_eq_right (by omega)]
    · rw [Int.min_eq_right (by omega), Int.max_eq_left (by omega)]; exact (Y _ _).1
  by_cases hb : bt nb u v = decide (k = 1)
  · have e : gDo n nb k u v = (false, 0, nb) := by unfold gDo; rw [if_neg (fun q => q h0), if_neg h3, if_pos hb]
    rw [e]
    refine ⟨key nb fun x y h1 h2 h3 => ?_, by rw [hb, hk1]; simp⟩
    split
    · rename_i q
      rw [q.1, q.2, bmm, hb, hk1]
    · rfl
  · have e : gDo n nb k u v = (true, 0, tn nb u.toNat v.toNat) := by unfold gDo; rw [if_neg (fun q => q h0), if_neg h3, if_neg hb]
    rw [e]
    refine ⟨key _ fun x y h1 h2 h3 => ?_, by rw [hk1]; revert hb; cases bt nb u v <;> cases decide (k = 1) <;> simp⟩
    unfold bt
    rw [tn_bit N (by omega) (by omega) (by omega)]
    by_cases q : x = min u v ∧ y = max u v
    · have c : (decide (x.toNat = u.toNat ∧ y.toNat = v.toNat) || decide (x.toNat = v.toNat ∧ y.toNat = u.toNat)) = true := by simp; omega
      rw [c, if_pos q, q.1, q.2]
      have b2 : ((nb.getD (min u v).toNat 0).testBit (max u v).toNat) = bt nb u v := bmm
      rw [b2, hk1]
      revert hb; cases bt nb u v <;> cases decide (k = 1) <;> simp
    · have c : (decide (x.toNat = u.toNat ∧ y.toNat = v.toNat) || decide (x.toNat = v.toNat ∧ y.toNat = u.toNat)) = false := by simp; omega
      rw [c, if_neg q]; simp
theorem step_s (G : Gr h q n nb) (Y : Sy nb) (S : SM n nb es) (hb : h[mb]? = some (.mp (.two .i64) es)) (hro : md.ro ≤ q) (hrm : md.ro ≤ mb) (hroh : md.ro ≤ h.length) (hlim : md.lim ≤ h.length) (k u v : Int) :
    ∃ h' es', C md 12 [(Value.pointer (some ⟨q, 0, none⟩)), .map (some mb), (Value.int .i64 ((n : Int))), (Value.agg #[(Value.int .i64 k), (Value.int .i64 u), (Value.int .i64 v)])] h = some ((Value.bool true), h') ∧ Gr h' q n (gDo n nb k u v).2.2 ∧ Sy (gDo n nb k u v).2.2 ∧ h'[mb]? = some (.mp (.two .i64) es') ∧ SM n (gDo n nb k u v).2.2 es' ∧ OG q mb h h' := by
  have ltq := lt_of G.hq
  have ltm := lt_of hb
  have hqm : q ≠ mb := fun e => by have := G.hq; rw [e, hb] at this; cases this
  have n16 := G.n16
  obtain ⟨N', Y'⟩ := gDo_sy G.N n16 Y k u v
  have G0 := G.app [Blk.own [(Value.int .i64 ((n : Int)))], Blk.own [(Value.int .i64 k), (Value.int .i64 u), (Value.int .i64 v)]]
  have ed := do_s (md := md) G0 hro k u v
  rw [List.set_append_left _ _ ltq] at ed
  obtain ⟨hB, eqB⟩ : ∃ hB, hB = h.set q (.own (grC n (gDo n nb k u v).2.2)) := ⟨_, rfl⟩
  rw [← eqB] at ed
  have lB : hB.length = h.length := by rw [eqB]; simp
  obtain ⟨H, eH⟩ : ∃ H, H = hB ++ [Blk.own [(Value.int .i64 ((n : Int)))], Blk.own [(Value.int .i64 k), (Value.int .i64 u), (Value.int .i64 v)]] := ⟨_, rfl⟩
  rw [← eH] at ed
  have lH : H.length = h.length + 2 := by rw [eH]; simp [lB]
  have H0 : H[h.length]? = some (.own [(Value.int .i64 ((n : Int)))]) := by rw [eH, ← lB]; simp
  have H1 : H[h.length + 1]? = some (.own [(Value.int .i64 k), (Value.int .i64 u), (Value.int .i64 v)]) := by rw [eH, ← lB, List.getElem?_append_right (by omega)]; simp
  have old : ∀ x, x < h.length → x ≠ q → H[x]? = h[x]? := fun x h1 h2 => by rw [eH, List.getElem?_append_left (by omega), eqB, set_else (Ne.symm h2)]
  have GH : Gr H q n (gDo n nb k u v).2.2 := ⟨by rw [eH, List.getElem?_append_left (by omega), eqB]; exact set_here G.hq, G.n1, G.n16, N'⟩
  have HM : H[mb]? = some (.mp (.two .i64) es) := (old mb ltm (Ne.symm hqm)).trans hb
  have r10 : rd H (h.length + 1) 0 = some ((Value.int .i64 k)) := by rw [rd_own H1]; rfl
  have r11 : rd H (h.length + 1) 1 = some ((Value.int .i64 u)) := by rw [rd_own H1]; rfl
  have r12 : rd H (h.length + 1) 2 = some ((Value.int .i64 v)) := by rw [rd_own H1]; rfl
  have st2 := fun (k' : Heap → Option (Value × Heap)) => st_N md 2 H.length 0 [(Value.int .i64 (min u v)), (Value.int .i64 (max u v))] (H ++ [Blk.own [(Value.int .i64 0), (Value.int .i64 0)]]) k' rfl rfl
  have wn : wrN md (H ++ [Blk.own [(Value.int .i64 0), (Value.int .i64 0)]]) H.length 0 [(Value.int .i64 (min u v)), (Value.int .i64 (max u v))] = some (H ++ [Blk.own [(Value.int .i64 (min u v)), (Value.int .i64 (max u v))]]) := wrN_new0 (bs := []) (by omega) (by omega) (by simp)
  obtain ⟨K, eK⟩ : ∃ K, K = H ++ [Blk.own [(Value.int .i64 (min u v)), (Value.int .i64 (max u v))]] := ⟨_, rfl⟩
  rw [← eK] at wn
  have lK : K.length = h.length + 3 := by rw [eK]; simp [lH]
  have oldK : ∀ x, x < H.length → K[x]? = H[x]? := fun x hx => by rw [eK, List.getElem?_append_left hx]
  have K1 := (oldK (h.length + 1) (by omega)).trans H1
  have K0 := (oldK h.length (by omega)).trans H0
  have KM := (oldK mb (by omega)).trans HM
  have GK : Gr K q n (gDo n nb k u v).2.2 := GH.same (oldK q (by omega))
  have s10 : rd K (h.length + 1) 0 = some ((Value.int .i64 k)) := by rw [rd_own K1]; rfl
  have s11 : rd K (h.length + 1) 1 = some ((Value.int .i64 u)) := by rw [rd_own K1]; rfl
  have s12 : rd K (h.length + 1) 2 = some ((Value.int .i64 v)) := by rw [rd_own K1]; rfl
  have s00 : rd K h.length 0 = some ((Value.int .i64 ((n : Int)))) := by rw [rd_own K0]; rfl
  have kN : rdN K H.length 0 2 = some [(Value.int .i64 (min u v)), (Value.int .i64 (max u v))] := by rw [eK, rdN_new0]; rfl
  have OK : OG q mb h K := ⟨by omega, fun x h1 h2 h3 => by rw [oldK x (by omega), old x h1 h2]⟩
  have eth := fun (m : Md) (x : Int) => sthere (md := m) (n := n) K s00 x
  have uB : Try.prog.underlying 4 = some .bool := by kernel_rfl
  have mn := mm u v
  have mn1 := mn.1
  have mn2 := mn.2
  by_cases hw : wr n k u v = 0
  · obtain ⟨k1, k3, hu, hv, huv⟩ := wr_0 hw
    have c1 : ¬ k < 1 := by omega
    have c3 : ¬ k > 3 := by omega
    by_cases hk3 : k = 3
    · have b3 : (k == 3) = true := by simp [hk3]
      have eg : gDo n nb k u v = (wy n nb u v, 0, nb) := by unfold gDo; rw [if_neg (fun q => q hw), if_pos hk3]
      have ew : wy n nb u v = wayB (eB n nb) u.toNat v.toNat := by unfold wy; rw [hu, hv]; rfl
      rw [eg] at ed GK Y' ⊢
      have ej := fun (m : Md) => sjoined_s (md := m) S G.N Y n16 (inB_t.1 hu) (inB_t.1 hv) KM
      refine ⟨K, es, ?_, GK, Y', KM, S, OK⟩
      rw [C, call_eq, F12_eq]
      unfold F12
      simp only [go_sem, Nat.reduceAdd, Nat.reduceLeDiff, Nat.reduceMul, Int.reduceBEq, Int.reduceBNe, Int.reduceLT, Int.reduceLE, Int.reduceGT, ed, r10, r11, r12, mn1, mn2, st2, wn, s10, s11, s12, c1, c3, aBin_gtr, eth, hu, clV_1, hv, aUn_not, b3, s00, ej, ew, aBin_eqlB uB]
    · have b3 : (k == 3) = false := by simp [hk3]
      have buv : (u == v) = false := by simp [huv hk3]
      obtain ⟨S', eyes⟩ := S.step G.N n16 Y hw hk3
      have e2 : (gDo n nb k u v).2.1 = 0 := by
        unfold gDo; rw [if_neg (fun q => q hw), if_neg hk3]; split <;> rfl
      have gm := fun {α : Type} (kk : Value → Option α) => S.get KM (min u v) (max u v) kk
      have c0 : 0 ≤ min u v ∧ min u v < max u v ∧ max u v < (n : Int) := by
        have := inB_t.1 hu; have := inB_t.1 hv; have := huv hk3; omega
      have d0 : decide (0 ≤ min u v ∧ min u v < max u v ∧ max u v < (n : Int)) = true := decide_eq_true c0
      have bmm : bt nb (min u v) (max u v) = bt nb u v := by
        by_cases q : u < v
        · rw [Int.min_eq_left (by omega), Int.max_eq_right (by omega)]
        · rw [Int.min_eq_right (by omega), Int.max_eq_left (by omega)]; exact (Y _ _).1
      simp only [d0, bmm, Bool.true_and] at gm
      have sm := fun {α : Type} (kk : Heap → Option α) => SM.set (md := md) KM hrm (min u v) (max u v) (k == 1) kk
      have K1' : (K.set mb (.mp (.two .i64) (mPut es [min u v, max u v] ((Value.bool (k == 1))))))[h.length + 1]? = some (.own [(Value.int .i64 k), (Value.int .i64 u), (Value.int .i64 v)]) := by rw [set_else (by omega)]; exact K1
      have t10 : rd (K.set mb (.mp (.two .i64) (mPut es [min u v, max u v] ((Value.bool (k == 1)))))) (h.length + 1) 0 = some ((Value.int .i64 k)) := by rw [rd_own K1']; rfl
      refine ⟨_, _, ?_, GK.same (set_else (Ne.symm hqm)), Y', set_here KM, S', ⟨by simp; omega, fun x h1 h2 h3 => by rw [set_else (Ne.symm h3)]; exact OK.oth x h1 h2 h3⟩⟩
      rw [C, call_eq, F12_eq]
      unfold F12
      have hbb : ((bt nb u v != (k == 1)) == (bt nb u v != (k == 1))) = true := by simp
      simp only [go_sem, Nat.reduceAdd, Nat.reduceLeDiff, Nat.reduceMul, Int.reduceBEq, Int.reduceBNe, Int.reduceLT, Int.reduceLE, Int.reduceGT, ed, e2, eyes, r10, r11, r12, mn1, mn2, st2, wn, s10, s11, s12, c1, c3, aBin_gtr, eth, hu, clV_1, hv, aUn_not, b3, buv, kN, gm, sm, t10, aBin_eql, aBin_neqB uB, aBin_eqlB uB, hbb]
  · have eg : gDo n nb k u v = (false, wr n k u v, nb) := by unfold gDo; rw [if_pos hw]
    rw [eg] at ed GK Y' ⊢
    refine ⟨K, es, ?_, GK, Y', KM, S, OK⟩
    rw [C, call_eq, F12_eq]
    unfold F12
    by_cases c1 : k < 1
    · have ew : wr n k u v = 10 := if_pos (.inl c1)
      rw [ew] at ed
      simp only [go_sem, Nat.reduceAdd, Nat.reduceLeDiff, Nat.reduceMul, Int.reduceBEq, Int.reduceBNe, Int.reduceLT, Int.reduceLE, Int.reduceGT, ed, r10, r11, r12, mn1, mn2, st2, wn, s10, s11, s12, c1, aUn_not]
    by_cases c3 : k > 3
    · have ew : wr n k u v = 10 := if_pos (.inr c3)
      rw [ew] at ed
      simp only [go_sem, Nat.reduceAdd, Nat.reduceLeDiff, Nat.reduceMul, Int.reduceBEq, Int.reduceBNe, Int.reduceLT, Int.reduceLE, Int.reduceGT, ed, r10, r11, r12, mn1, mn2, st2, wn, s10, s11, s12, c1, c3, aBin_gtr, aUn_not]
    have w1 : wr n k u v = bif !(inB n u && inB n v) then 30 else if u = v ∧ k ≠ 3 then 31 else 0 := if_neg (by omega)
    cases hu : inB n u
    · have ew : wr n k u v = 30 := by rw [w1, hu]; rfl
      rw [ew] at ed
      simp only [go_sem, Nat.reduceAdd, Nat.reduceLeDiff, Nat.reduceMul, Int.reduceBEq, Int.reduceBNe, Int.reduceLT, Int.reduceLE, Int.reduceGT, ed, r10, r11, r12, mn1, mn2, st2, wn, s10, s11, s12, c1, c3, aBin_gtr, eth, hu, aUn_not]
    cases hv : inB n v
    · have ew : wr n k u v = 30 := by rw [w1, hu, hv]; rfl
      rw [ew] at ed
      simp only [go_sem, Nat.reduceAdd, Nat.reduceLeDiff, Nat.reduceMul, Int.reduceBEq, Int.reduceBNe, Int.reduceLT, Int.reduceLE, Int.reduceGT, ed, r10, r11, r12, mn1, mn2, st2, wn, s10, s11, s12, c1, c3, aBin_gtr, eth, hu, clV_1, hv, aUn_not]
    have w2 : wr n k u v = if u = v ∧ k ≠ 3 then 31 else 0 := by rw [w1, hu, hv]; rfl
    by_cases huv : u = v ∧ k ≠ 3
    · have ew : wr n k u v = 31 := w2.trans (if_pos huv)
      rw [ew] at ed
      have b3 : (k == 3) = false := by simp [huv.2]
      have buv : (u == v) = true := by simp [huv.1]
      simp only [go_sem, Nat.reduceAdd, Nat.reduceLeDiff, Nat.reduceMul, Int.reduceBEq, Int.reduceBNe, Int.reduceLT, Int.reduceLE, Int.reduceGT, ed, r10, r11, r12, mn1, mn2, st2, wn, s10, s11, s12, c1, c3, aBin_gtr, eth, hu, clV_1, hv, aUn_not, b3, buv]
    · exact absurd (w2.trans (if_neg huv)) hw
end Go.Det.E
