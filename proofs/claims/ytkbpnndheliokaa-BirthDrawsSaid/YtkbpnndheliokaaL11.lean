/- The document's cells: all of them. -/
import Derived.Test.YtkbpnndheliokaaL10
set_option autoImplicit false
set_option linter.unusedVariables false
set_option linter.unusedSimpArgs false
namespace Go.Det.E
open Go.Proofs Go.Det
attribute [local congr] bind_c cond_c
variable {md : Md} {n0 b0 : Nat} {n l sn tn : Nat}
theorem cEd_len (n k : Nat) (hn : n ≤ 16) (hk : k ≤ n) : (cEd n k).length ≤ 16 * k := by
  induction k with
  | zero => simp [cEd]
  | succ k ih => rw [cEd_s, List.length_append]; have := ih (by omega); simp [cEr]; omega
theorem cells_ed (hro : md.ro ≤ n0) (hb0 : b0 < n0) (hR : Rt n sn tn) (pre : List N4) (hpre : pre.length < 1000) (h0 : Heap) (s2 : Value) : ∀ (m i : Nat) (s3 : Value) (h : Heap), i + m = n → n0 ≤ h.length → h[b0]? = some (.own [(Value.int .i64 ((n : Int))), (Value.int .i64 ((sn : Int))), (Value.int .i64 ((tn : Int)))]) → SlO h n0 4 enc4 s3 (pre ++ cEd n i) →
    ∃ s3' h', J48_6 C md h0 ((Value.pointer (some ⟨b0, 0, none⟩))) s2 s3 ((Value.int .i64 ((i : Int)))) h = J48_7 C md h0 ((Value.pointer (some ⟨b0, 0, none⟩))) s2 s3' h' ∧ SlO h' n0 4 enc4 s3' (pre ++ cEd n n) ∧ Old n0 h h' := by
  have r := hR
  unfold Rt at r
  intro m
  induction m with
  | zero =>
    intro i s3 h hi hn0 hb S3
    obtain rfl : i = n := by omega
    have r0 : rd h b0 0 = some ((Value.int .i64 ((i : Int)))) := by rw [rd_at hb]; rfl
    refine ⟨s3, h, ?_, S3, Old.refl _ _⟩
    rw [J48_6_step]
    unfold Jr48_6
    simp only [go_sem, Nat.reduceAdd, Nat.reduceLeDiff, Nat.reduceMul, Int.reduceBEq, Int.reduceBNe, Int.reduceLT, Int.reduceLE, Int.reduceGT, r0, aBin_lss, Int.lt_irrefl, Jk48_6]
  | succ m ih =>
    intro i s3 h hi hn0 hb S3
    have r0 : rd h b0 0 = some ((Value.int .i64 ((n : Int)))) := by rw [rd_at hb]; rfl
    have f : (i : Int) < (n : Int) := by omega
    have w : IntKind.wrap .i64 ((i : Int) + 1) = ((i + 1 + 0 : Nat) : Int) := by rw [wi (by omega) (by omega)]; rfl
    have len := cEd_len n i (by omega) (by omega)
    obtain ⟨v', h', e1, S', O'⟩ := cells_er hro hb0 hR (pre ++ cEd n i) (by rw [List.length_append]; omega) (a := i) (by omega) s2 (n - 1 - i) 0 s3 h (by omega) hn0 hb (by simpa [cEr] using S3)
    rw [List.append_assoc, ← cEd_s] at S'
    obtain ⟨s3', h2, e2, S2, O2⟩ := ih (i + 1) v' h' (by omega) (Nat.le_trans hn0 O'.len) (by rw [O'.old _ hb0]; exact hb) S'
    refine ⟨s3', h2, ?_, S2, O'.trans O2⟩
    rw [J48_6_step]
    unfold Jr48_6
    simp only [go_sem, Nat.reduceAdd, Nat.reduceLeDiff, Nat.reduceMul, Int.reduceBEq, Int.reduceBNe, Int.reduceLT, Int.reduceLE, Int.reduceGT, r0, aBin_lss, f, aBin_add]
    rw [w, e1]
    exact e2
theorem cells_fr (hro : md.ro ≤ n0) (hb0 : b0 < n0) (pre : List N4) (hpre : pre.length < 20000) {x : Nat} (hx : x < 1000) (s1 s2 : Value) : ∀ (m i : Nat) (s3 : Value) (h : Heap), i + m = 7 → n0 ≤ h.length → SlO h n0 4 enc4 s3 (pre ++ cFr x i) →
    ∃ s3' h', J48_8b0 C md s1 s2 s3 ((Value.int .i64 (((x + 1 : Nat) : Int)))) ((Value.int .i64 ((i : Int)))) h = some (.inl ((s1, s2, s3', (Value.int .i64 (((x + 1 + 1 : Nat) : Int)))), h')) ∧ SlO h' n0 4 enc4 s3' (pre ++ cFr x 7) ∧ Old n0 h h' := by
  intro m
  induction m with
  | zero =>
    intro i s3 h hi hn0 S3
    obtain rfl : i = 7 := by omega
    have w : IntKind.wrap .i64 (((x + 1 : Nat) : Int) + 1) = ((x + 1 + 1 : Nat) : Int) := by rw [wi (by omega) (by omega)]; rfl
    have f : ¬ ((7 : Nat) : Int) < 7 := by omega
    refine ⟨s3, h, ?_, S3, Old.refl _ _⟩
    rw [J48_8b0_step]
    unfold Jr48_8b0
    simp only [go_sem, Nat.reduceAdd, Nat.reduceLeDiff, Nat.reduceMul, Int.reduceBEq, Int.reduceBNe, Int.reduceLT, Int.reduceLE, Int.reduceGT, aBin_lss, f, Jk48_8b0, aBin_add, w]
  | succ m ih =>
    intro i s3 h hi hn0 S3
    have f : (i : Int) < 7 := by omega
    have w : IntKind.wrap .i64 ((i : Int) + 1) = ((i + 1 : Nat) : Int) := by rw [wi (by omega) (by omega)]; rfl
    obtain ⟨v', h', ha, S', O'⟩ := app1 S3 hro hn0 (by simp [cFr]; omega) (10, ((x + 1 : Nat) : Int), (i : Int), 0)
    rw [List.append_assoc, ← cFr_s] at S'
    obtain ⟨s3', h2, e2, S2, O2⟩ := ih (i + 1) v' h' (by omega) (Nat.le_trans hn0 O'.len) S'
    refine ⟨s3', h2, ?_, S2, O'.trans O2⟩
    rw [J48_8b0_step]
    unfold Jr48_8b0
    simp only [go_sem, Nat.reduceAdd, Nat.reduceLeDiff, Nat.reduceMul, Int.reduceBEq, Int.reduceBNe, Int.reduceLT, Int.reduceLE, Int.reduceGT, aBin_lss, f, bName, bNames1, ha, aBin_add, w]
    exact e2
theorem _root_.Go.Det.SlO.old {ε : Type} {h h' : Heap} {n0 sz : Nat} {enc : ε → List Value} {v : Value} {xs : List ε} (S : SlO h n0 sz enc v xs) (O : Old h.length h h') : SlO h' n0 sz enc v xs :=
  ⟨S.sl.heap fun hb => O.old _ hb, S.own.imp id fun ⟨h1, cs, h2⟩ => ⟨h1, cs, (O.old _ (List.getElem?_eq_some_iff.1 h2).1).trans h2⟩⟩
theorem cells_fi (hro : md.ro ≤ n0) (hb0 : b0 < n0) {nn : Nat} (hR : Rt n sn tn) (hnn : Nn n sn = nn) (pre : List N4) (hpre : pre.length < 5000) (h0 : Heap) (s2 : Value) : ∀ (m i : Nat) (s3 : Value) (h : Heap), i + m = nn → n0 ≤ h.length → h[b0]? = some (.own [(Value.int .i64 ((n : Int))), (Value.int .i64 ((sn : Int))), (Value.int .i64 ((tn : Int)))]) → SlO h n0 4 enc4 s3 (pre ++ cFi i) →
    ∃ s3' h', J48_8 C md h0 ((Value.pointer (some ⟨b0, 0, none⟩))) s2 s3 ((Value.int .i64 (((i + 1 : Nat) : Int)))) h = some (s3', h') ∧ SlO h' n0 4 enc4 s3' (pre ++ cFi nn) ∧ Old n0 h h' := by
  have cn := Cn_le hR
  have len : ∀ k, (cFi k).length = 7 * k := fun k => by
    induction k with
    | zero => rfl
    | succ k ih => rw [cFi_s, List.length_append, ih]; simp [cFr, Nat.mul_succ]
  intro m
  induction m with
  | zero =>
    intro i s3 h hi hn0 hb S3
    obtain rfl : i = nn := by omega
    have r0 : rdN h b0 0 3 = some [(Value.int .i64 ((n : Int))), (Value.int .i64 ((sn : Int))), (Value.int .i64 ((tn : Int)))] := by rw [rdN_at hb (by simp [Blk.cells])]; rfl
    obtain ⟨w, h1, e1, S1, O1⟩ := refnodes_s md h (by omega) hR
    have sl := fun {α : Type} (k : Value → Option α) => S1.len k
    rw [nodeL_len, hnn, Int.toNat_natCast] at sl
    have f : ¬ ((i + 1 : Nat) : Int) ≤ (i : Int) := by omega
    refine ⟨s3, h1, ?_, S3.old O1, O1.mono hn0⟩
    rw [J48_8_step]
    unfold Jr48_8
    simp only [go_sem, Nat.reduceAdd, Nat.reduceLeDiff, Nat.reduceMul, Int.reduceBEq, Int.reduceBNe, Int.reduceLT, Int.reduceLE, Int.reduceGT, r0, e1, sl, aBin_leq, f, Jk48_8]
  | succ m ih =>
    intro i s3 h hi hn0 hb S3
    have r0 : rdN h b0 0 3 = some [(Value.int .i64 ((n : Int))), (Value.int .i64 ((sn : Int))), (Value.int .i64 ((tn : Int)))] := by rw [rdN_at hb (by simp [Blk.cells])]; rfl
    obtain ⟨w, h1, e1, S1, O1⟩ := refnodes_s md h (by omega) hR
    have sl := fun {α : Type} (k : Value → Option α) => S1.len k
    rw [nodeL_len, hnn, Int.toNat_natCast] at sl
    have f : ((i + 1 : Nat) : Int) ≤ (nn : Int) := by omega
    have O1' := O1.mono hn0
    obtain ⟨v', h', e2, S', O'⟩ := cells_fr hro hb0 (pre ++ cFi i) (by rw [List.length_append, len]; omega) (x := i) (by omega) ((Value.pointer (some ⟨b0, 0, none⟩))) s2 7 0 s3 h1 (by omega) (Nat.le_trans hn0 O1.len) (by simpa [cFr] using S3.old O1)
    rw [List.append_assoc, ← cFi_s] at S'
    obtain ⟨s3', h2, e3, S2, O2⟩ := ih (i + 1) v' h' (by omega) (Nat.le_trans hn0 (Nat.le_trans O1.len O'.len)) (by rw [O'.old _ hb0, O1'.old _ hb0]; exact hb) S'
    refine ⟨s3', h2, ?_, S2, (O1'.trans O').trans O2⟩
    rw [J48_8_step]
    unfold Jr48_8
    simp only [go_sem, Nat.reduceAdd, Nat.reduceLeDiff, Nat.reduceMul, Int.reduceBEq, Int.reduceBNe, Int.reduceLT, Int.reduceLE, Int.reduceGT, r0, e1, sl, aBin_leq, f]
    rw [show ((0 : Int)) = ((0 : Nat) : Int) from rfl, e2]
    exact e3
/-- All cells' names, in order. -/
def cellL (n sn tn l nn : Nat) : List N4 := ((((cSt tn ++ [(2, 0, 0, 0)]) ++ cSl sn) ++ cHe l n) ++ cEd n n) ++ cFi nn
theorem refcells_s (md : Md) (h : Heap) (hro : md.ro ≤ h.length) {nn : Nat} (hR : Rt n sn tn) (hl : Lv (n : Int) = l) (hnn : Nn n sn = nn) :
    ∃ v h', C md 48 [(Value.agg #[(Value.int .i64 ((n : Int))), (Value.int .i64 ((sn : Int))), (Value.int .i64 ((tn : Int)))])] h = some (v, h') ∧ Sl h' 4 enc4 v (cellL n sn tn l nn) ∧ Old h.length h h' := by
  have r := hR
  unfold Rt at r
  have lv := Lv_le hR
  have hb : (h ++ [Blk.own [(Value.int .i64 ((n : Int))), (Value.int .i64 ((sn : Int))), (Value.int .i64 ((tn : Int)))]])[h.length]? = some (.own [(Value.int .i64 ((n : Int))), (Value.int .i64 ((sn : Int))), (Value.int .i64 ((tn : Int)))]) := by simp
  have n1 : h.length + 1 ≤ (h ++ [Blk.own [(Value.int .i64 ((n : Int))), (Value.int .i64 ((sn : Int))), (Value.int .i64 ((tn : Int)))]]).length := by simp
  have lsl : ∀ k, (cSl k).length = 7 * k := fun k => by
    induction k with
    | zero => rfl
    | succ k ih => rw [cSl_s, List.length_append, ih]; simp [slot7]; omega
  have lhe : ∀ k, (cHe l k).length = l * k := fun k => by
    induction k with
    | zero => rfl
    | succ k ih => rw [cHe_s, List.length_append, ih]; simp [cHr, Nat.mul_succ]
  have hln : l * n ≤ 5 * 16 := Nat.mul_le_mul (by omega) (by omega)
  have led := cEd_len n n (by omega) (by omega)
  obtain ⟨s3, h1, e1, S1, O1⟩ := cells_st (md := md) (n0 := h.length + 1) (b0 := h.length) (by omega) (by omega) hR h (.slice none 0 0) tn 0 (.slice none 0 0) _ (by omega) n1 hb (SlO.nil _ _ enc4_len)
  have n2 := Nat.le_trans n1 O1.len
  obtain ⟨s4, h2, e2, S2, O2⟩ := app1 (md := md) S1 (by omega) n2 (by simp [cSt]; omega) (2, 0, 0, 0)
  have n3 := Nat.le_trans n2 O2.len
  have hb1 : h1[h.length]? = _ := (O1.old _ (by omega)).trans hb
  have hb2 : h2[h.length]? = _ := (O2.old _ (by omega)).trans hb1
  obtain ⟨s5, h3, e3, S3, O3⟩ := cells_sl (md := md) (n0 := h.length + 1) (b0 := h.length) (by omega) (by omega) hR (cSt tn ++ [(2, 0, 0, 0)]) (by simp [cSt]; omega) h (.slice none 0 0) sn 0 s4 h2 (by omega) n3 hb2 (by rw [show cSl 0 = [] from rfl, List.append_nil]; exact S2)
  have n4 := Nat.le_trans n3 O3.len
  have hb3 : h3[h.length]? = _ := (O3.old _ (by omega)).trans hb2
  obtain ⟨s6, h4, e4, S4, O4⟩ := cells_he (md := md) (n0 := h.length + 1) (b0 := h.length) (by omega) (by omega) hR hl ((cSt tn ++ [(2, 0, 0, 0)]) ++ cSl sn) (by simp only [List.length_append, lsl]; simp [cSt]; omega) h (.slice none 0 0) n 0 s5 h3 (by omega) n4 hb3 (by rw [show cHe l 0 = [] from rfl, List.append_nil]; exact S3)
  have n5 := Nat.le_trans n4 O4.len
  have hb4 : h4[h.length]? = _ := (O4.old _ (by omega)).trans hb3
  obtain ⟨s7, h5, e5, S5, O5⟩ := cells_ed (md := md) (n0 := h.length + 1) (b0 := h.length) (by omega) (by omega) hR (((cSt tn ++ [(2, 0, 0, 0)]) ++ cSl sn) ++ cHe l n) (by simp only [List.length_append, lsl, lhe]; simp [cSt]; omega) h (.slice none 0 0) n 0 s6 h4 (by omega) n5 hb4 (by rw [show cEd n 0 = [] from rfl, List.append_nil]; exact S4)
  have n6 := Nat.le_trans n5 O5.len
  have hb5 : h5[h.length]? = _ := (O5.old _ (by omega)).trans hb4
  obtain ⟨s8, h6, e6, S6, O6⟩ := cells_fi (md := md) (n0 := h.length + 1) (b0 := h.length) (by omega) (by omega) hR hnn ((((cSt tn ++ [(2, 0, 0, 0)]) ++ cSl sn) ++ cHe l n) ++ cEd n n) (by simp only [List.length_append, lsl, lhe]; simp [cSt]; omega) h (.slice none 0 0) nn 0 s7 h5 (by omega) n6 hb5 (by rw [show cFi 0 = [] from rfl, List.append_nil]; exact S5)
  refine ⟨s8, h6, ?_, S6.sl, (Old.app _ (Nat.le_refl _)).trans (((((O1.trans O2).trans O3).trans O4).trans O5).trans O6 |>.mono (by omega))⟩
  rw [C, call_eq, F48_eq]
  unfold F48
  simp only []
  rw [show ((1 : Int)) = ((0 : Nat) : Int) + 1 from rfl, e1]
  unfold J48_1
  simp only []
  refine (e2 _).trans ?_
  rw [show ((0 : Int)) = ((0 : Nat) : Int) from rfl, e3]
  unfold J48_3
  rw [show ((0 : Int)) = ((0 : Nat) : Int) from rfl, e4]
  unfold J48_5
  rw [show ((0 : Int)) = ((0 : Nat) : Int) from rfl, e5]
  unfold J48_7
  exact e6
end Go.Det.E
