/- The document's cells. -/
import Derived.Test.YtkbpnndheliokaaL7
import Derived.Test.YtkbpnndheliokaaL5
set_option autoImplicit false
set_option linter.unusedVariables false
set_option linter.unusedSimpArgs false
namespace Go.Det.E
open Go.Proofs Go.Det
attribute [local congr] bind_c cond_c
abbrev N4 := Int × Int × Int × Int
def cSt (k : Nat) : List N4 := (List.range k).map fun i : Nat => (1, (i : Int) + 1, 0, 0)
def slot7 (s : Nat) : List N4 := [(3, (s : Int), 0, 0), (4, (s : Int), 0, 0), (5, (s : Int), 0, 0), (6, (s : Int), 0, 0), (6, (s : Int), 1, 0), (7, (s : Int), 0, 0), (7, (s : Int), 1, 0)]
def cSl (k : Nat) : List N4 := (List.range k).flatMap slot7
def cHr (v k : Nat) : List N4 := (List.range k).map fun i : Nat => (8, (v : Int), (i : Int), 0)
def cHe (l k : Nat) : List N4 := (List.range k).flatMap fun v => cHr v l
def cEr (a k : Nat) : List N4 := (List.range k).map fun d : Nat => (9, (a : Int), ((a + 1 + d : Nat) : Int), 0)
def cEd (n k : Nat) : List N4 := (List.range k).flatMap fun a => cEr a (n - 1 - a)
def cFr (x k : Nat) : List N4 := (List.range k).map fun f : Nat => (10, ((x + 1 : Nat) : Int), (f : Int), 0)
def cFi (k : Nat) : List N4 := (List.range k).flatMap fun x => cFr x 7
theorem cSt_s (k : Nat) : cSt (k + 1) = cSt k ++ [(1, (k : Int) + 1, 0, 0)] := by simp [cSt, List.range_succ]
theorem cSl_s (k : Nat) : cSl (k + 1) = cSl k ++ slot7 k := by simp [cSl, List.range_succ]
theorem cHr_s (v k : Nat) : cHr v (k + 1) = cHr v k ++ [(8, (v : Int), (k : Int), 0)] := by simp [cHr, List.range_succ]
theorem cHe_s (l k : Nat) : cHe l (k + 1) = cHe l k ++ cHr k l := by simp [cHe, List.range_succ]
theorem cEr_s (a k : Nat) : cEr a (k + 1) = cEr a k ++ [(9, (a : Int), ((a + 1 + k : Nat) : Int), 0)] := by simp [cEr, List.range_succ]
theorem cEd_s (n k : Nat) : cEd n (k + 1) = cEd n k ++ cEr k (n - 1 - k) := by simp [cEd, List.range_succ]
theorem cFr_s (x k : Nat) : cFr x (k + 1) = cFr x k ++ [(10, ((x + 1 : Nat) : Int), (k : Int), 0)] := by simp [cFr, List.range_succ]
theorem cFi_s (k : Nat) : cFi (k + 1) = cFi k ++ cFr k 7 := by simp [cFi, List.range_succ]
theorem bNames7 {α : Type} {a b c d e f g : N4} (h : Heap) (k : Value → Heap → Option α) : aBuildSlice Try.prog 63 7 [(0, (Value.agg (List.toArray (enc4 a)))), (1, (Value.agg (List.toArray (enc4 b)))), (2, (Value.agg (List.toArray (enc4 c)))), (3, (Value.agg (List.toArray (enc4 d)))), (4, (Value.agg (List.toArray (enc4 e)))), (5, (Value.agg (List.toArray (enc4 f)))), (6, (Value.agg (List.toArray (enc4 g))))] h k = k ((Value.slice (some ⟨h.length, 0, none⟩) 7 4)) (h ++ [.own (flat enc4 [a, b, c, d, e, f, g])]) := by kernel_rfl
theorem app1 {md : Md} {h : Heap} {n0 : Nat} {s : Value} {xs : List N4} (S : SlO h n0 4 enc4 s xs) (hro : md.ro ≤ n0) (hn0 : n0 ≤ h.length) (hlen : xs.length < 50000) (y : N4) :
    ∃ v' h', (∀ {α : Type} (k : Value → Heap → Option α), aBuiltin Try.prog md .append #[63, 63] [s, .slice (some ⟨h.length, 0, none⟩) 1 4] (h ++ [.own (flat enc4 [y])]) k = k v' h') ∧ SlO h' n0 4 enc4 v' (xs ++ [y]) ∧ Old n0 h h' :=
  names_app (ys := [y]) S hro hn0 (by simp) rfl (by simp; omega)
variable {md : Md} {n0 b0 : Nat} {n l sn tn : Nat}
theorem cells_st (hro : md.ro ≤ n0) (hb0 : b0 < n0) (hR : Rt n sn tn) (h0 : Heap) (s2 : Value) : ∀ (m i : Nat) (s3 : Value) (h : Heap), i + m = tn → n0 ≤ h.length → h[b0]? = some (.own [(Value.int .i64 ((n : Int))), (Value.int .i64 ((sn : Int))), (Value.int .i64 ((tn : Int)))]) → SlO h n0 4 enc4 s3 (cSt i) →
    ∃ s3' h', J48_0 C md h0 ((Value.pointer (some ⟨b0, 0, none⟩))) s2 s3 ((Value.int .i64 ((i : Int) + 1))) h = J48_1 C md h0 ((Value.pointer (some ⟨b0, 0, none⟩))) s2 s3' h' ∧ SlO h' n0 4 enc4 s3' (cSt tn) ∧ Old n0 h h' := by
  have r := hR
  unfold Rt at r
  intro m
  induction m with
  | zero =>
    intro i s3 h hi hn0 hb S3
    obtain rfl : i = tn := by omega
    have r0 : rd h b0 2 = some ((Value.int .i64 ((i : Int)))) := by rw [rd_at hb]; rfl
    have f : ¬ (i : Int) + 1 ≤ (i : Int) := by omega
    refine ⟨s3, h, ?_, S3, Old.refl _ _⟩
    rw [J48_0_step]
    unfold Jr48_0
    simp only [go_sem, Nat.reduceAdd, Nat.reduceLeDiff, Nat.reduceMul, Int.reduceBEq, Int.reduceBNe, Int.reduceLT, Int.reduceLE, Int.reduceGT, r0, aBin_leq, f, Jk48_0]
  | succ m ih =>
    intro i s3 h hi hn0 hb S3
    have r0 : rd h b0 2 = some ((Value.int .i64 ((tn : Int)))) := by rw [rd_at hb]; rfl
    have f : (i : Int) + 1 ≤ (tn : Int) := by omega
    have w : IntKind.wrap .i64 ((i : Int) + 1 + 1) = ((i + 1 : Nat) : Int) + 1 := by rw [wi (by omega) (by omega)]; rfl
    obtain ⟨v', h', ha, S', O'⟩ := app1 S3 hro hn0 (by simp [cSt]; omega) (1, (i : Int) + 1, 0, 0)
    rw [← cSt_s] at S'
    obtain ⟨s3', h2, e2, S2, O2⟩ := ih (i + 1) v' h' (by omega) (Nat.le_trans hn0 O'.len) (by rw [O'.old _ hb0]; exact hb) S'
    refine ⟨s3', h2, ?_, S2, O'.trans O2⟩
    rw [J48_0_step]
    unfold Jr48_0
    simp only [go_sem, Nat.reduceAdd, Nat.reduceLeDiff, Nat.reduceMul, Int.reduceBEq, Int.reduceBNe, Int.reduceLT, Int.reduceLE, Int.reduceGT, r0, aBin_leq, f, bName, bNames1, ha, aBin_add, w]
    exact e2
/-- What is ahead, and so much of what comes. -/
theorem cells_sl (hro : md.ro ≤ n0) (hb0 : b0 < n0) (hR : Rt n sn tn) (pre : List N4) (hpre : pre.length < 1000) (h0 : Heap) (s2 : Value) : ∀ (m i : Nat) (s3 : Value) (h : Heap), i + m = sn → n0 ≤ h.length → h[b0]? = some (.own [(Value.int .i64 ((n : Int))), (Value.int .i64 ((sn : Int))), (Value.int .i64 ((tn : Int)))]) → SlO h n0 4 enc4 s3 (pre ++ cSl i) →
    ∃ s3' h', J48_2 C md h0 ((Value.pointer (some ⟨b0, 0, none⟩))) s2 s3 ((Value.int .i64 ((i : Int)))) h = J48_3 C md h0 ((Value.pointer (some ⟨b0, 0, none⟩))) s2 s3' h' ∧ SlO h' n0 4 enc4 s3' (pre ++ cSl sn) ∧ Old n0 h h' := by
  have r := hR
  unfold Rt at r
  have len : ∀ k, (cSl k).length = 7 * k := fun k => by
    induction k with
    | zero => rfl
    | succ k ih => rw [cSl_s, List.length_append, ih]; simp [slot7]; omega
  intro m
  induction m with
  | zero =>
    intro i s3 h hi hn0 hb S3
    obtain rfl : i = sn := by omega
    have r0 : rd h b0 1 = some ((Value.int .i64 ((i : Int)))) := by rw [rd_at hb]; rfl
    refine ⟨s3, h, ?_, S3, Old.refl _ _⟩
    rw [J48_2_step]
    unfold Jr48_2
    simp only [go_sem, Nat.reduceAdd, Nat.reduceLeDiff, Nat.reduceMul, Int.reduceBEq, Int.reduceBNe, Int.reduceLT, Int.reduceLE, Int.reduceGT, r0, aBin_lss, Int.lt_irrefl, Jk48_2]
  | succ m ih =>
    intro i s3 h hi hn0 hb S3
    have r0 : rd h b0 1 = some ((Value.int .i64 ((sn : Int)))) := by rw [rd_at hb]; rfl
    have f : (i : Int) < (sn : Int) := by omega
    have w : IntKind.wrap .i64 ((i : Int) + 1) = ((i + 1 : Nat) : Int) := by rw [wi (by omega) (by omega)]; rfl
    obtain ⟨v', h', ha, S', O'⟩ := names_app (ys := slot7 i) S3 hro hn0 (by simp [slot7]) rfl (by rw [List.length_append, len]; simp [slot7]; omega)
    rw [List.append_assoc, ← cSl_s] at S'
    have ha' : ∀ {α : Type} (k : Value → Heap → Option α), aBuiltin Try.prog md .append #[63, 63] [s3, .slice (some ⟨h.length, 0, none⟩) 7 4] (h ++ [.own (flat enc4 [(3, (i : Int), 0, 0), (4, (i : Int), 0, 0), (5, (i : Int), 0, 0), (6, (i : Int), 0, 0), (6, (i : Int), 1, 0), (7, (i : Int), 0, 0), (7, (i : Int), 1, 0)])]) k = k v' h' := ha
    obtain ⟨s3', h2, e2, S2, O2⟩ := ih (i + 1) v' h' (by omega) (Nat.le_trans hn0 O'.len) (by rw [O'.old _ hb0]; exact hb) S'
    refine ⟨s3', h2, ?_, S2, O'.trans O2⟩
    rw [J48_2_step]
    unfold Jr48_2
    simp only [go_sem, Nat.reduceAdd, Nat.reduceLeDiff, Nat.reduceMul, Int.reduceBEq, Int.reduceBNe, Int.reduceLT, Int.reduceLE, Int.reduceGT, r0, aBin_lss, f, bName, bNames7, ha', aBin_add, w]
    exact e2
theorem cells_hr (hro : md.ro ≤ n0) (hb0 : b0 < n0) (hR : Rt n sn tn) (hl : Lv (n : Int) = l) (pre : List N4) (hpre : pre.length < 2000) {v : Nat} (hv : v < 16) (s2 : Value) : ∀ (m i : Nat) (s3 : Value) (h : Heap), i + m = l → n0 ≤ h.length → h[b0]? = some (.own [(Value.int .i64 ((n : Int))), (Value.int .i64 ((sn : Int))), (Value.int .i64 ((tn : Int)))]) → SlO h n0 4 enc4 s3 (pre ++ cHr v i) →
    ∃ s3' h', J48_4b0 C md ((Value.pointer (some ⟨b0, 0, none⟩))) s2 s3 ((Value.int .i64 ((v : Int)))) ((Value.int .i64 ((i : Int)))) h = some (.inl (((Value.pointer (some ⟨b0, 0, none⟩)), s2, s3', (Value.int .i64 (((v + 1 : Nat) : Int)))), h')) ∧ SlO h' n0 4 enc4 s3' (pre ++ cHr v l) ∧ Old n0 h h' := by
  have lv := Lv_le hR
  intro m
  induction m with
  | zero =>
    intro i s3 h hi hn0 hb S3
    obtain rfl : i = l := by omega
    have r0 : rdN h b0 0 3 = some [(Value.int .i64 ((n : Int))), (Value.int .i64 ((sn : Int))), (Value.int .i64 ((tn : Int)))] := by rw [rdN_at hb (by simp [Blk.cells])]; rfl
    have w : IntKind.wrap .i64 ((v : Int) + 1) = ((v + 1 : Nat) : Int) := by rw [wi (by omega) (by omega)]; rfl
    refine ⟨s3, h, ?_, S3, Old.refl _ _⟩
    rw [J48_4b0_step]
    unfold Jr48_4b0
    simp only [go_sem, Nat.reduceAdd, Nat.reduceLeDiff, Nat.reduceMul, Int.reduceBEq, Int.reduceBNe, Int.reduceLT, Int.reduceLE, Int.reduceGT, r0, reflevels_s _ _ hR, hl, aBin_lss, Int.lt_irrefl, Jk48_4b0, aBin_add, w]
  | succ m ih =>
    intro i s3 h hi hn0 hb S3
    have r0 : rdN h b0 0 3 = some [(Value.int .i64 ((n : Int))), (Value.int .i64 ((sn : Int))), (Value.int .i64 ((tn : Int)))] := by rw [rdN_at hb (by simp [Blk.cells])]; rfl
    have f : (i : Int) < (l : Int) := by omega
    have w : IntKind.wrap .i64 ((i : Int) + 1) = ((i + 1 : Nat) : Int) := by rw [wi (by omega) (by omega)]; rfl
    obtain ⟨v', h', ha, S', O'⟩ := app1 S3 hro hn0 (by simp [cHr]; omega) (8, (v : Int), (i : Int), 0)
    rw [List.append_assoc, ← cHr_s] at S'
    obtain ⟨s3', h2, e2, S2, O2⟩ := ih (i + 1) v' h' (by omega) (Nat.le_trans hn0 O'.len) (by rw [O'.old _ hb0]; exact hb) S'
    refine ⟨s3', h2, ?_, S2, O'.trans O2⟩
    rw [J48_4b0_step]
    unfold Jr48_4b0
    simp only [go_sem, Nat.reduceAdd, Nat.reduceLeDiff, Nat.reduceMul, Int.reduceBEq, Int.reduceBNe, Int.reduceLT, Int.reduceLE, Int.reduceGT, r0, reflevels_s _ _ hR, hl, aBin_lss, f, bName, bNames1, ha, aBin_add, w]
    exact e2
theorem cells_he (hro : md.ro ≤ n0) (hb0 : b0 < n0) (hR : Rt n sn tn) (hl : Lv (n : Int) = l) (pre : List N4) (hpre : pre.length < 1000) (h0 : Heap) (s2 : Value) : ∀ (m i : Nat) (s3 : Value) (h : Heap), i + m = n → n0 ≤ h.length → h[b0]? = some (.own [(Value.int .i64 ((n : Int))), (Value.int .i64 ((sn : Int))), (Value.int .i64 ((tn : Int)))]) → SlO h n0 4 enc4 s3 (pre ++ cHe l i) →
    ∃ s3' h', J48_4 C md h0 ((Value.pointer (some ⟨b0, 0, none⟩))) s2 s3 ((Value.int .i64 ((i : Int)))) h = J48_5 C md h0 ((Value.pointer (some ⟨b0, 0, none⟩))) s2 s3' h' ∧ SlO h' n0 4 enc4 s3' (pre ++ cHe l n) ∧ Old n0 h h' := by
  have r := hR
  unfold Rt at r
  have lv := Lv_le hR
  have len : ∀ k, (cHe l k).length = l * k := fun k => by
    induction k with
    | zero => rfl
    | succ k ih => rw [cHe_s, List.length_append, ih]; simp [cHr, Nat.mul_succ]
  intro m
  induction m with
  | zero =>
    intro i s3 h hi hn0 hb S3
    obtain rfl : i = n := by omega
    have r0 : rd h b0 0 = some ((Value.int .i64 ((i : Int)))) := by rw [rd_at hb]; rfl
    refine ⟨s3, h, ?_, S3, Old.refl _ _⟩
    rw [J48_4_step]
    unfold Jr48_4
    simp only [go_sem, Nat.reduceAdd, Nat.reduceLeDiff, Nat.reduceMul, Int.reduceBEq, Int.reduceBNe, Int.reduceLT, Int.reduceLE, Int.reduceGT, r0, aBin_lss, Int.lt_irrefl, Jk48_4]
  | succ m ih =>
    intro i s3 h hi hn0 hb S3
    have r0 : rd h b0 0 = some ((Value.int .i64 ((n : Int)))) := by rw [rd_at hb]; rfl
    have f : (i : Int) < (n : Int) := by omega
    have hli : l * i ≤ 5 * 16 := Nat.mul_le_mul (by omega) (by omega)
    obtain ⟨v', h', e1, S', O'⟩ := cells_hr hro hb0 hR hl (pre ++ cHe l i) (by rw [List.length_append, len]; omega) (v := i) (by omega) s2 l 0 s3 h (by omega) hn0 hb (by simpa [cHr] using S3)
    rw [List.append_assoc, ← cHe_s] at S'
    obtain ⟨s3', h2, e2, S2, O2⟩ := ih (i + 1) v' h' (by omega) (Nat.le_trans hn0 O'.len) (by rw [O'.old _ hb0]; exact hb) S'
    refine ⟨s3', h2, ?_, S2, O'.trans O2⟩
    rw [J48_4_step]
    unfold Jr48_4
    simp only [go_sem, Nat.reduceAdd, Nat.reduceLeDiff, Nat.reduceMul, Int.reduceBEq, Int.reduceBNe, Int.reduceLT, Int.reduceLE, Int.reduceGT, r0, aBin_lss, f]
    rw [show ((0 : Int)) = ((0 : Nat) : Int) from rfl, e1]
    exact e2
theorem cells_er (hro : md.ro ≤ n0) (hb0 : b0 < n0) (hR : Rt n sn tn) (pre : List N4) (hpre : pre.length < 2000) {a : Nat} (ha16 : a < n) (s2 : Value) : ∀ (m i : Nat) (s3 : Value) (h : Heap), i + m = n - 1 - a → n0 ≤ h.length → h[b0]? = some (.own [(Value.int .i64 ((n : Int))), (Value.int .i64 ((sn : Int))), (Value.int .i64 ((tn : Int)))]) → SlO h n0 4 enc4 s3 (pre ++ cEr a i) →
    ∃ s3' h', J48_6b0 C md ((Value.pointer (some ⟨b0, 0, none⟩))) s2 s3 ((Value.int .i64 ((a : Int)))) ((Value.int .i64 (((a + 1 + i : Nat) : Int)))) h = some (.inl (((Value.pointer (some ⟨b0, 0, none⟩)), s2, s3', (Value.int .i64 (((a + 1 : Nat) : Int)))), h')) ∧ SlO h' n0 4 enc4 s3' (pre ++ cEr a (n - 1 - a)) ∧ Old n0 h h' := by
  have r := hR
  unfold Rt at r
  intro m
  induction m with
  | zero =>
    intro i s3 h hi hn0 hb S3
    obtain rfl : i = n - 1 - a := by omega
    have r0 : rd h b0 0 = some ((Value.int .i64 ((n : Int)))) := by rw [rd_at hb]; rfl
    have w : IntKind.wrap .i64 ((a : Int) + 1) = ((a + 1 : Nat) : Int) := by rw [wi (by omega) (by omega)]; rfl
    have f : ¬ ((a + 1 + (n - 1 - a) : Nat) : Int) < (n : Int) := by omega
    refine ⟨s3, h, ?_, S3, Old.refl _ _⟩
    rw [J48_6b0_step]
    unfold Jr48_6b0
    simp only [go_sem, Nat.reduceAdd, Nat.reduceLeDiff, Nat.reduceMul, Int.reduceBEq, Int.reduceBNe, Int.reduceLT, Int.reduceLE, Int.reduceGT, r0, aBin_lss, f, Jk48_6b0, aBin_add, w]
  | succ m ih =>
    intro i s3 h hi hn0 hb S3
    have r0 : rd h b0 0 = some ((Value.int .i64 ((n : Int)))) := by rw [rd_at hb]; rfl
    have f : ((a + 1 + i : Nat) : Int) < (n : Int) := by omega
    have w : IntKind.wrap .i64 (((a + 1 + i : Nat) : Int) + 1) = ((a + 1 + (i + 1) : Nat) : Int) := by rw [wi (by omega) (by omega)]; rfl
    obtain ⟨v', h', ha, S', O'⟩ := app1 S3 hro hn0 (by simp [cEr]; omega) (9, (a : Int), ((a + 1 + i : Nat) : Int), 0)
    rw [List.append_assoc, ← cEr_s] at S'
    obtain ⟨s3', h2, e2, S2, O2⟩ := ih (i + 1) v' h' (by omega) (Nat.le_trans hn0 O'.len) (by rw [O'.old _ hb0]; exact hb) S'
    refine ⟨s3', h2, ?_, S2, O'.trans O2⟩
    rw [J48_6b0_step]
    unfold Jr48_6b0
    simp only [go_sem, Nat.reduceAdd, Nat.reduceLeDiff, Nat.reduceMul, Int.reduceBEq, Int.reduceBNe, Int.reduceLT, Int.reduceLE, Int.reduceGT, r0, aBin_lss, f, bName, bNames1, ha, aBin_add, w]
    exact e2
end Go.Det.E
