/- The document's nodes. -/
import Derived.Test.YtkbpnndheliokaaL4
set_option autoImplicit false
set_option linter.unusedVariables false
set_option linter.unusedSimpArgs false
namespace Go.Det.E
open Go.Proofs Go.Det
attribute [local congr] bind_c cond_c
theorem tNames : SlT Try.prog 63 100 4 32 [(Value.int .i64 0), (Value.int .i64 0), (Value.int .i64 0), (Value.int .i64 0)] := ⟨by kernel_rfl, by kernel_rfl, by kernel_rfl, rfl, by decide, by decide, rfl⟩
theorem bName {α : Type} {a b c d : Int} (k : Value → Option α) : aBuild Try.prog 100 [(0, (Value.int .i64 a)), (1, (Value.int .i64 b)), (2, (Value.int .i64 c)), (3, (Value.int .i64 d))] k = k ((Value.agg (List.toArray (enc4 (a, b, c, d))))) := by kernel_rfl
theorem bNames1 {α : Type} {x : Int × Int × Int × Int} (h : Heap) (k : Value → Heap → Option α) : aBuildSlice Try.prog 63 1 [(0, (Value.agg (List.toArray (enc4 x))))] h k = k ((Value.slice (some ⟨h.length, 0, none⟩) 1 4)) (h ++ [.own (flat enc4 [x])]) := by kernel_rfl
theorem bNames2 {α : Type} {x y : Int × Int × Int × Int} (h : Heap) (k : Value → Heap → Option α) : aBuildSlice Try.prog 63 2 [(0, (Value.agg (List.toArray (enc4 x)))), (1, (Value.agg (List.toArray (enc4 y))))] h k = k ((Value.slice (some ⟨h.length, 0, none⟩) 2 4)) (h ++ [.own (flat enc4 [x, y])]) := by kernel_rfl
theorem names_app {md : Md} {h : Heap} {n0 : Nat} {s : Value} {xs ys : List (Int × Int × Int × Int)} (S : SlO h n0 4 enc4 s xs) (hro : md.ro ≤ n0) (hn0 : n0 ≤ h.length) (hys : 0 < ys.length) (hc : (flat enc4 ys).all isCell = true) (hlen : xs.length + ys.length < 100000) :
    ∃ v' h', (∀ {α : Type} (k : Value → Heap → Option α), aBuiltin Try.prog md .append #[63, 63] [s, .slice (some ⟨h.length, 0, none⟩) ys.length 4] (h ++ [.own (flat enc4 ys)]) k = k v' h') ∧ SlO h' n0 4 enc4 v' (xs ++ ys) ∧ Old n0 h h' :=
  append_own tNames S hro hn0 rfl hys hc (by omega)
variable {md : Md} {n0 b0 : Nat} {S T : Int} {n l : Nat}
theorem nodes_v (hro : md.ro ≤ n0) (hb0 : b0 < n0) (hn : 1 ≤ n ∧ n ≤ 16) (hl : Lv (n : Int) = l) {i : Nat} (hi : i < l) (s2 : Value) : ∀ (m v : Nat) (s3 : Value) (h : Heap), v + m = n → n0 ≤ h.length → h[b0]? = some (.own [(Value.int .i64 ((n : Int))), (Value.int .i64 S), (Value.int .i64 T)]) → SlO h n0 4 enc4 s3 (nodeL n (i * n + v)) →
    ∃ s3' h', J49_0b0 C md ((Value.pointer (some ⟨b0, 0, none⟩))) s2 s3 ((Value.int .i64 ((i : Int)))) ((Value.int .i64 ((v : Int)))) h = some (.inl (((Value.pointer (some ⟨b0, 0, none⟩)), s2, s3', (Value.int .i64 (((i + 1 : Nat) : Int)))), h')) ∧ SlO h' n0 4 enc4 s3' (nodeL n ((i + 1) * n)) ∧ Old n0 h h' := by
  have hv16 : 1 ≤ (n : Int) ∧ (n : Int) ≤ 16 := by omega
  have hl5 : l ≤ 5 := by have := Lv_cases hv16; omega
  intro m
  induction m with
  | zero =>
    intro v s3 h hv hn0 hb S3
    obtain rfl : v = n := by omega
    have r0 : rd h b0 0 = some ((Value.int .i64 ((v : Int)))) := by rw [rd_at hb]; rfl
    have w : IntKind.wrap .i64 ((i : Int) + 1) = ((i + 1 : Nat) : Int) := by rw [wi (by omega) (by omega)]; rfl
    refine ⟨s3, h, ?_, by rw [Nat.succ_mul]; exact S3, Old.refl _ _⟩
    rw [J49_0b0_step]
    unfold Jr49_0b0
    simp only [go_sem, Nat.reduceAdd, Nat.reduceLeDiff, Nat.reduceMul, Int.reduceBEq, Int.reduceBNe, Int.reduceLT, Int.reduceLE, Int.reduceGT, r0, aBin_lss, Int.lt_irrefl, Jk49_0b0, aBin_add, w]
  | succ m ih =>
    intro v s3 h hv hn0 hb S3
    have r0 : rd h b0 0 = some ((Value.int .i64 ((n : Int)))) := by rw [rd_at hb]; rfl
    have hlt : (v : Int) < (n : Int) := by omega
    have e : nodeAt n ((i * n + v : Nat) : Int) = (1, (i : Int), (v : Int), 0) := by
      have := nodeAt_v (V := (n : Int)) (i := i) (v := v) hv16 (by omega) (by omega)
      rw [← this]; congr 1
    have hin : i * n ≤ 5 * 16 := Nat.mul_le_mul (by omega) (by omega)
    obtain ⟨v', h', ha, S', O'⟩ := names_app (ys := [(1, (i : Int), (v : Int), 0)]) S3 hro hn0 (by simp) rfl (by rw [nodeL_len]; simp; omega)
    have w : IntKind.wrap .i64 ((v : Int) + 1) = ((v + 1 : Nat) : Int) := by rw [wi (by omega) (by omega)]; rfl
    rw [← e, ← nodeL_succ] at S'
    obtain ⟨s3', h2, e2, S2, O2⟩ := ih (v + 1) v' h' (by omega) (Nat.le_trans hn0 O'.len) (by rw [O'.old _ hb0]; exact hb) S'
    refine ⟨s3', h2, ?_, S2, O'.trans O2⟩
    rw [J49_0b0_step]
    unfold Jr49_0b0
    simp only [List.length_cons, List.length_nil, Nat.zero_add] at ha
    simp only [go_sem, Nat.reduceAdd, Nat.reduceLeDiff, Nat.reduceMul, Int.reduceBEq, Int.reduceBNe, Int.reduceLT, Int.reduceLE, Int.reduceGT, r0, aBin_lss, hlt, bName, bNames1, ha, aBin_add, w]
    exact e2
theorem nodes_i (hro : md.ro ≤ n0) (hb0 : b0 < n0) (hR : Rt n S T) (hl : Lv (n : Int) = l) (h0 : Heap) (s2 : Value) : ∀ (m i : Nat) (s3 : Value) (h : Heap), i + m = l → n0 ≤ h.length → h[b0]? = some (.own [(Value.int .i64 ((n : Int))), (Value.int .i64 S), (Value.int .i64 T)]) → SlO h n0 4 enc4 s3 (nodeL n (i * n)) →
    ∃ s3' h', J49_0 C md h0 ((Value.pointer (some ⟨b0, 0, none⟩))) s2 s3 ((Value.int .i64 ((i : Int)))) h = J49_1 C md h0 ((Value.pointer (some ⟨b0, 0, none⟩))) s2 s3' h' ∧ SlO h' n0 4 enc4 s3' (nodeL n (l * n)) ∧ Old n0 h h' := by
  have hn : 1 ≤ n ∧ n ≤ 16 := by have := hR.1; omega
  intro m
  induction m with
  | zero =>
    intro i s3 h hi hn0 hb S3
    obtain rfl : i = l := by omega
    have r0 : rdN h b0 0 3 = some [(Value.int .i64 ((n : Int))), (Value.int .i64 S), (Value.int .i64 T)] := by rw [rdN_at hb (by simp [Blk.cells])]; rfl
    refine ⟨s3, h, ?_, S3, Old.refl _ _⟩
    rw [J49_0_step]
    unfold Jr49_0
    simp only [go_sem, Nat.reduceAdd, Nat.reduceLeDiff, Nat.reduceMul, Int.reduceBEq, Int.reduceBNe, Int.reduceLT, Int.reduceLE, Int.reduceGT, r0, reflevels_s _ _ hR, hl, aBin_lss, Int.lt_irrefl, Jk49_0]
  | succ m ih =>
    intro i s3 h hi hn0 hb S3
    have r0 : rdN h b0 0 3 = some [(Value.int .i64 ((n : Int))), (Value.int .i64 S), (Value.int .i64 T)] := by rw [rdN_at hb (by simp [Blk.cells])]; rfl
    have hlt : (i : Int) < (l : Int) := by omega
    obtain ⟨v', h', e1, S', O'⟩ := nodes_v (S := S) (T := T) hro hb0 hn hl (i := i) (by omega) s2 n 0 s3 h (by omega) hn0 hb S3
    obtain ⟨s3', h2, e2, S2, O2⟩ := ih (i + 1) v' h' (by omega) (Nat.le_trans hn0 O'.len) (by rw [O'.old _ hb0]; exact hb) S'
    refine ⟨s3', h2, ?_, S2, O'.trans O2⟩
    rw [J49_0_step]
    unfold Jr49_0
    simp only [go_sem, Nat.reduceAdd, Nat.reduceLeDiff, Nat.reduceMul, Int.reduceBEq, Int.reduceBNe, Int.reduceLT, Int.reduceLE, Int.reduceGT, r0, reflevels_s _ _ hR, hl, aBin_lss, hlt]
    rw [show ((0 : Int)) = ((0 : Nat) : Int) from rfl, e1]
    exact e2
theorem nodes_a (hro : md.ro ≤ n0) (hb0 : b0 < n0) (hR : Rt n S T) (hl : Lv (n : Int) = l) {s : Nat} (hs : s < 48) (s2 : Value) : ∀ (m i : Nat) (s3 : Value) (h : Heap), i + m = l → n0 ≤ h.length → h[b0]? = some (.own [(Value.int .i64 ((n : Int))), (Value.int .i64 S), (Value.int .i64 T)]) → SlO h n0 4 enc4 s3 (nodeL n (l * n + s * (2 * l) + 2 * i)) →
    ∃ s3' h', J49_2b0 C md ((Value.pointer (some ⟨b0, 0, none⟩))) s2 s3 ((Value.int .i64 ((s : Int)))) ((Value.int .i64 ((i : Int)))) h = some (.inl (((Value.pointer (some ⟨b0, 0, none⟩)), s2, s3', (Value.int .i64 (((s + 1 : Nat) : Int)))), h')) ∧ SlO h' n0 4 enc4 s3' (nodeL n (l * n + (s + 1) * (2 * l))) ∧ Old n0 h h' := by
  have hn : 1 ≤ n ∧ n ≤ 16 := by have := hR.1; omega
  have hv16 : 1 ≤ (n : Int) ∧ (n : Int) ≤ 16 := by omega
  have hl5 : l ≤ 5 := by have := Lv_cases hv16; omega
  intro m
  induction m with
  | zero =>
    intro i s3 h hi hn0 hb S3
    obtain rfl : i = l := by omega
    have r0 : rdN h b0 0 3 = some [(Value.int .i64 ((n : Int))), (Value.int .i64 S), (Value.int .i64 T)] := by rw [rdN_at hb (by simp [Blk.cells])]; rfl
    have w : IntKind.wrap .i64 ((s : Int) + 1) = ((s + 1 : Nat) : Int) := by rw [wi (by omega) (by omega)]; rfl
    refine ⟨s3, h, ?_, by rw [Nat.succ_mul, ← Nat.add_assoc]; exact S3, Old.refl _ _⟩
    rw [J49_2b0_step]
    unfold Jr49_2b0
    simp only [go_sem, Nat.reduceAdd, Nat.reduceLeDiff, Nat.reduceMul, Int.reduceBEq, Int.reduceBNe, Int.reduceLT, Int.reduceLE, Int.reduceGT, r0, reflevels_s _ _ hR, hl, aBin_lss, Int.lt_irrefl, Jk49_2b0, aBin_add, w]
  | succ m ih =>
    intro i s3 h hi hn0 hb S3
    have r0 : rdN h b0 0 3 = some [(Value.int .i64 ((n : Int))), (Value.int .i64 S), (Value.int .i64 T)] := by rw [rdN_at hb (by simp [Blk.cells])]; rfl
    have hlt : (i : Int) < (l : Int) := by omega
    have hln : l * n ≤ 5 * 16 := Nat.mul_le_mul (by omega) (by omega)
    have hsl : s * (2 * l) ≤ 48 * 10 := Nat.mul_le_mul (by omega) (by omega)
    have e : ∀ b : Nat, b < 2 → nodeAt n ((l * n + s * (2 * l) + 2 * i + b : Nat) : Int) = (2, (s : Int), (i : Int), (b : Int)) := by
      intro b hb
      have := nodeAt_s (V := (n : Int)) (s := s) (i := i) (b := b) hv16 (by omega) (by omega) (by omega)
      rw [← this, hl]
      congr 1
    have e0 := e 0 (by omega)
    have e1 := e 1 (by omega)
    obtain ⟨v', h', ha, S', O'⟩ := names_app (ys := [(2, (s : Int), (i : Int), 0), (2, (s : Int), (i : Int), 1)]) S3 hro hn0 (by simp) rfl (by rw [nodeL_len]; simp; omega)
    have w : IntKind.wrap .i64 ((i : Int) + 1) = ((i + 1 : Nat) : Int) := by rw [wi (by omega) (by omega)]; rfl
    have S'' : SlO h' n0 4 enc4 v' (nodeL n (l * n + s * (2 * l) + 2 * (i + 1))) := by
      have : nodeL n (l * n + s * (2 * l) + 2 * (i + 1)) = nodeL n (l * n + s * (2 * l) + 2 * i) ++ [(2, (s : Int), (i : Int), 0), (2, (s : Int), (i : Int), 1)] := by
        have e0' : nodeAt n ((l * n + s * (2 * l) + 2 * i : Nat) : Int) = (2, (s : Int), (i : Int), 0) := e0
        rw [show l * n + s * (2 * l) + 2 * (i + 1) = (l * n + s * (2 * l) + 2 * i) + 1 + 1 by omega, nodeL_succ, nodeL_succ, e0', e1, List.append_assoc]
        rfl
      rw [this]; exact S'
    obtain ⟨s3', h2, e2, S2, O2⟩ := ih (i + 1) v' h' (by omega) (Nat.le_trans hn0 O'.len) (by rw [O'.old _ hb0]; exact hb) S''
    refine ⟨s3', h2, ?_, S2, O'.trans O2⟩
    rw [J49_2b0_step]
    unfold Jr49_2b0
    simp only [List.length_cons, List.length_nil, Nat.zero_add, Nat.reduceAdd] at ha
    simp only [go_sem, Nat.reduceAdd, Nat.reduceLeDiff, Nat.reduceMul, Int.reduceBEq, Int.reduceBNe, Int.reduceLT, Int.reduceLE, Int.reduceGT, r0, reflevels_s _ _ hR, hl, aBin_lss, hlt, bName, bNames2, ha, aBin_add, w]
    exact e2
theorem nodes_l (hro : md.ro ≤ n0) (hb0 : b0 < n0) {sn : Nat} (hR : Rt n sn T) (hl : Lv (n : Int) = l) (h0 : Heap) (s2 : Value) : ∀ (m s : Nat) (s3 : Value) (h : Heap), s + m = sn → n0 ≤ h.length → h[b0]? = some (.own [(Value.int .i64 ((n : Int))), (Value.int .i64 ((sn : Int))), (Value.int .i64 T)]) → SlO h n0 4 enc4 s3 (nodeL n (l * n + s * (2 * l))) →
    ∃ s3' h', J49_2 C md h0 ((Value.pointer (some ⟨b0, 0, none⟩))) s2 s3 ((Value.int .i64 ((s : Int)))) h = some (s3', h') ∧ SlO h' n0 4 enc4 s3' (nodeL n (l * n + sn * (2 * l))) ∧ Old n0 h h' := by
  have hs48 : sn ≤ 48 := by have := hR.2.1; omega
  intro m
  induction m with
  | zero =>
    intro s s3 h hi hn0 hb S3
    obtain rfl : s = sn := by omega
    have r0 : rd h b0 1 = some ((Value.int .i64 ((s : Int)))) := by rw [rd_at hb]; rfl
    refine ⟨s3, h, ?_, S3, Old.refl _ _⟩
    rw [J49_2_step]
    unfold Jr49_2
    simp only [go_sem, Nat.reduceAdd, Nat.reduceLeDiff, Nat.reduceMul, Int.reduceBEq, Int.reduceBNe, Int.reduceLT, Int.reduceLE, Int.reduceGT, r0, aBin_lss, Int.lt_irrefl, Jk49_2]
  | succ m ih =>
    intro s s3 h hi hn0 hb S3
    have r0 : rd h b0 1 = some ((Value.int .i64 ((sn : Int)))) := by rw [rd_at hb]; rfl
    have hlt : (s : Int) < (sn : Int) := by omega
    obtain ⟨v', h', e1, S', O'⟩ := nodes_a (S := sn) (T := T) hro hb0 hR hl (s := s) (by omega) s2 l 0 s3 h (by omega) hn0 hb S3
    obtain ⟨s3', h2, e2, S2, O2⟩ := ih (s + 1) v' h' (by omega) (Nat.le_trans hn0 O'.len) (by rw [O'.old _ hb0]; exact hb) S'
    refine ⟨s3', h2, ?_, S2, O'.trans O2⟩
    rw [J49_2_step]
    unfold Jr49_2
    simp only [go_sem, Nat.reduceAdd, Nat.reduceLeDiff, Nat.reduceMul, Int.reduceBEq, Int.reduceBNe, Int.reduceLT, Int.reduceLE, Int.reduceGT, r0, aBin_lss, hlt]
    rw [show ((0 : Int)) = ((0 : Nat) : Int) from rfl, e1]
    exact e2
theorem refnodes_s (md : Md) (h : Heap) (hro : md.ro ≤ h.length) {V S T : Int} (hR : Rt V S T) :
    ∃ v h', C md 49 [(Value.agg #[(Value.int .i64 V), (Value.int .i64 S), (Value.int .i64 T)])] h = some (v, h') ∧ Sl h' 4 enc4 v (nodeL V (Nn V S).toNat) ∧ Old h.length h h' := by
  obtain ⟨n, rfl⟩ : ∃ n : Nat, V = n := ⟨V.toNat, by have := hR.1; omega⟩
  obtain ⟨sn, rfl⟩ : ∃ n : Nat, S = n := ⟨S.toNat, by have := hR.2.1; omega⟩
  obtain ⟨l, hl⟩ : ∃ l : Nat, Lv (n : Int) = l := ⟨(Lv n).toNat, by have := Lv_le hR; omega⟩
  have hb : (h ++ [Blk.own [(Value.int .i64 ((n : Int))), (Value.int .i64 ((sn : Int))), (Value.int .i64 T)]])[h.length]? = some (.own [(Value.int .i64 ((n : Int))), (Value.int .i64 ((sn : Int))), (Value.int .i64 T)]) := by simp
  have s0 : SlO (h ++ [Blk.own [(Value.int .i64 ((n : Int))), (Value.int .i64 ((sn : Int))), (Value.int .i64 T)]]) (h.length + 1) 4 enc4 (.slice none 0 0) (nodeL n (0 * n)) := by rw [Nat.zero_mul]; exact SlO.nil _ _ enc4_len
  obtain ⟨s3, h1, e1, S1, O1⟩ := nodes_i (md := md) (n0 := h.length + 1) (b0 := h.length) (by omega) (by omega) hR hl h (.slice none 0 0) l 0 _ _ (by omega) (by simp) hb s0
  obtain ⟨s4, h2, e2, S2, O2⟩ := nodes_l (md := md) (n0 := h.length + 1) (b0 := h.length) (by omega) (by omega) hR hl h (.slice none 0 0) sn 0 s3 h1 (by omega) (by have := O1.len; simp at this; omega) (by rw [O1.old _ (by omega)]; exact hb) (by rw [Nat.zero_mul]; exact S1)
  refine ⟨s4, h2, ?_, ?_, ((Old.app _ (Nat.le_refl _)).trans (O1.mono (by omega))).trans (O2.mono (by omega))⟩
  · rw [C, call_eq, F49_eq]
    unfold F49
    simp only []
    rw [show ((0 : Int)) = ((0 : Nat) : Int) from rfl, e1]
    unfold J49_1
    exact e2
  · have : (Nn n sn).toNat = l * n + sn * (2 * l) := by
      unfold Nn; rw [hl]
      have : (l : Int) * n + sn * (2 * l) = ((l * n + sn * (2 * l) : Nat) : Int) := by simp
      rw [this]; rfl
    rw [this]; exact S2.sl
end Go.Det.E
