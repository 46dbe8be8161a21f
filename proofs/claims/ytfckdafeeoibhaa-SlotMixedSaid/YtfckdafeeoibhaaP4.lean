/- A look tells what the document says that a cell means. -/
import Derived.Test.YtfckdafeeoibhaaP3
set_option autoImplicit false
set_option linter.unusedVariables false
set_option linter.unusedSimpArgs false
namespace Go.Det.E
open Go.Proofs Go.Det
attribute [local congr] bind_c cond_c
variable {md : Md} {h hh h' : Heap} {a b k bv bm bl bw br : Nat} {l c l' c' : List Int} {v s z : Int}
theorem LSt.step5 (P : LSt h hh a b bv bm bl bw br v l c) (A : Ar h' a b l' c') (w : Wd l') (hlen : hh.length ≤ h'.length) (f : ∀ y, y < hh.length → y ≠ a → y ≠ b → (y = bv ∨ y = bm ∨ y = bl ∨ y = bw ∨ y = br) → h'[y]? = hh[y]?) : LSt h h' a b bv bm bl bw br v l' c' := by
  obtain ⟨d1, d2, d3, d4, d5⟩ := P.d
  exact ⟨A, w, P.vw, by rw [f _ (lt_of P.hv) d1.1 d1.2 (by simp)]; exact P.hv, by rw [f _ (lt_of P.hm) d2.1 d2.2 (by simp)]; exact P.hm, by rw [f _ (lt_of P.hl) d3.1 d3.2 (by simp)]; exact P.hl,
    by rw [f _ (lt_of P.hw) d4.1 d4.2 (by simp)]; exact P.hw, by rw [f _ (lt_of P.hr) d5.1 d5.2 (by simp)]; exact P.hr, ⟨Nat.le_trans P.g.1 hlen, P.g.2⟩, P.d⟩
theorem uPl : Try.prog.underlying 87 = some (.pointer 147) := by kernel_rfl
theorem uB : Try.prog.underlying 4 = some .bool := by kernel_rfl
theorem Sx8 {t : Int} (h0 : 0 < t) (h1 : t ≤ 8) : Sx 8 t = t - 1 := by
  unfold Sx
  have : Bl (t - 1) 8 = true := Bl_t.2 ⟨by omega, by omega⟩
  rw [this]; rfl
theorem looks_mid (P : LSt h hh a b bv bm bl bw br v l c) (s0 : 0 ≤ s ∧ s < 18446744073709551616) (z0 : 0 ≤ z ∧ z < 18446744073709551616) (hl42 : l.length = 42) (hv : getI l 16 = v)
    (hs : W.rightB v = true → 0 < v / 4294967296 % 256 → getI l (Sx 8 (v / 4294967296 % 256)) = s) :
    ∃ g', J9_0 C ⟨0, h.length⟩ h ((Value.int .u64 s)) ((Value.int .u64 z)) ((Value.pointer (some ⟨bv, 0, none⟩))) ((Value.pointer (some ⟨a, 0, none⟩))) ((Value.pointer (some ⟨bm, 0, none⟩))) ((Value.pointer (some ⟨bl, 0, none⟩))) ((Value.pointer (some ⟨bw, 0, none⟩))) ((Value.pointer (some ⟨br, 0, none⟩))) hh = some ((Value.bool true), g') := by
  have la := lt_of P.A.ha
  have lb := lt_of P.A.hb
  have g := P.g
  have q1 := lt_of P.hv
  have q2 := lt_of P.hm
  have q3 := lt_of P.hl
  have q4 := lt_of P.hw
  have q5 := lt_of P.hr
  have rL : ∀ hx : Heap, hx[bl]? = some (.own [(Value.int .i64 2), (Value.int .i64 0), (Value.int .i64 8)]) → rdN hx bl 0 3 = some [(Value.int .i64 2), (Value.int .i64 0), (Value.int .i64 8)] := fun hx e => by rw [rdN_own e (by simp)]; rfl
  have rM : ∀ hx : Heap, hx[bm]? = some (.own [(Value.pointer (some ⟨a, 0, none⟩))]) → rdN hx bm 0 1 = some [(Value.pointer (some ⟨a, 0, none⟩))] := fun hx e => by rw [rdN_own e (by simp)]; rfl
  have nl := newlook_s (V := 2) (S := 0) (T := 8) ⟨0, h.length⟩ hh (Nat.zero_le _) g.1 16
  have P1 := P.step (P.A.app [Blk.own [(Value.int .i64 2), (Value.int .i64 0), (Value.int .i64 8)], Blk.own (lkC 2 0 8 16 0 0 0 0 false false 0)]) P.w (by simp) (fun y h1 _ _ => List.getElem?_append_left h1)
  have hk1 : (hh ++ [Blk.own [(Value.int .i64 2), (Value.int .i64 0), (Value.int .i64 8)], Blk.own (lkC 2 0 8 16 0 0 0 0 false false 0)])[hh.length + 1]? = some (.own (lkC 2 0 8 16 0 0 0 0 false false 0)) := by
    rw [List.getElem?_append_right (by omega), Nat.add_sub_cancel_left]; rfl
  have d1 := fun (md : Md) => done_s md hk1
  have v1 := fun (md : Md) => value_s md hk1
  obtain ⟨h2, c2, e2, A2, o2⟩ := means_e (md := ⟨0, h.length⟩) rt208 P1.A (Nat.zero_le _) (Nat.zero_le _) P1.w 16
  have P2 := P1.step A2 P.w (Nat.le_of_eq o2.len.symm) (fun y _ h1 h2 => o2.oth y h1 h2)
  have hk2 := (o2.oth (hh.length + 1) (by omega) (by omega)).trans hk1
  have w2 := fun (md : Md) => want_s P2 s0 md
  have l2 := o2.len
  simp only [List.length_append, List.length_cons, List.length_nil] at l2
  rw [hv] at e2
  have hm : mW v (getI l (Sx 8 (v / 4294967296 % 256))) = mW v s := by
    cases hr : W.rightB v
    · exact mW_any (.inl hr)
    · cases ht : (v / 4294967296 % 256 == 0)
      · have t8 := (W.rightW_iff.1 hr).2.2.1
        have t0 : v / 4294967296 % 256 ≠ 0 := by simpa using ht
        rw [hs hr (by omega)]
      · exact mW_any (.inr ht)
  rw [hm] at e2
  obtain ⟨h3, c3, e3, A3, hk3, l3, f3⟩ := lstep_1 (md := ⟨0, h.length⟩) (V := 2) (S := 0) (T := 8) P2.A P2.w (Nat.zero_le _) (Nat.zero_le _) (Nat.zero_le _) (by omega) (by omega) hv hk2
  have P3 := P2.step5 A3 P.w (Nat.le_of_eq l3.symm) (fun y _ h1 h2 h5 => f3 y h1 h2 (by omega))
  have rr2 : rd h2 br 0 = some ((Value.bool (W.rightB v))) := by rw [rd_own P2.hr]; rfl
  have rr3 : rd h3 br 0 = some ((Value.bool (W.rightB v))) := by rw [rd_own P3.hr]; rfl
  have rt3 : rd h3 bw 2 = some ((Value.int .i64 (v / 4294967296 % 256))) := by rw [rd_own P3.hw]; rfl
  have rlL := rL hh P.hl
  have rlL1 := rL _ P1.hl
  have rmM1 := rM _ P1.hm
  cases hr : W.rightB v
  · simp only [hr, cond_false, Bool.not_false, Bool.true_or] at e3 hk3
    obtain ⟨g', eg⟩ := looks_end (k := hh.length + 1) P3 s0 hk3 (.inr ⟨fun q => by rw [hr] at q; exact absurd q.2 (by simp), (mW_none hr).symm⟩)
    refine ⟨g', ?_⟩
    unfold J9_0
    simp only [go_sem, Nat.reduceAdd, Nat.reduceLeDiff, Nat.reduceMul, Int.reduceBEq, Int.reduceBNe, Int.reduceLT, Int.reduceLE, Int.reduceGT, rlL, at0_s, nl, aBin_eqlP uPl, d1, v1, aBin_neq, rmM1, rlL1, e2, clV_f, w2, bne_self_eq_false, e3, rr2, rr3, hr, cLE_t, aBin_neqB uB]
    exact eg
  · cases ht : (v / 4294967296 % 256 == 0)
    · simp only [hr, ht, cond_false, cond_true, Bool.not_true, Bool.false_or] at e3 hk3
      have t8 := (W.rightW_iff.1 hr).2.2.1
      have t0 : 0 < v / 4294967296 % 256 := by
        have : v / 4294967296 % 256 ≠ 0 := by simpa using ht
        omega
      have es := fun (md : Md) => state_s md h3 rt208 (a := v / 4294967296 % 256) (by unfold I64; omega)
      have rlL3 := rL _ P3.hl
      obtain ⟨h4, e4, A4, o4⟩ := st_x (md := ⟨0, h.length⟩) P3.A (Nat.zero_le _) (Nat.zero_le _) (Sx 8 (v / 4294967296 % 256)) z
      have w4 := P3.w.put (Sx 8 (v / 4294967296 % 256)) z0
      have P4 := P3.step A4 w4 (Nat.le_of_eq o4.len.symm) (fun y _ h1 h2 => o4.oth y h1 h2)
      have hk4 := (o4.oth (hh.length + 1) (by omega) (by omega)).trans hk3
      obtain ⟨h5, c5, e5, A5, hk5, l5, f5⟩ := lstep_h (md := ⟨0, h.length⟩) rt208 P4.A P4.w (Nat.zero_le _) (Nat.zero_le _) (by omega) (by omega) (by unfold I64; omega) hk4
      have hz : getI (putI l (Sx 8 (v / 4294967296 % 256)) z) (Sx 8 (v / 4294967296 % 256)) = z := by
        rw [getI_put, if_pos ⟨rfl, by rw [Sx8 t0 t8.2, hl42]; omega⟩]
      rw [hz] at hk5
      have P5 := P4.step5 A5 w4 (Nat.le_of_eq l5.symm) (fun y _ h1 h2 h5 => f5 y h1 h2 (by omega))
      have v5 := fun (md : Md) => value_s md hk5
      have w5 := fun (md : Md) => want_s P5 z0 md
      have hz2 : mT (v / 65536 % 65536) (v % 65536) (v / 4294967296 % 256) (v / 1099511627776) z = mW v z := (mW_word hr ht).symm
      obtain ⟨g', eg⟩ := looks_end (k := hh.length + 1) P5 s0 hk5 (.inl ⟨t0, hr⟩)
      refine ⟨g', ?_⟩
      unfold J9_0
      simp only [go_sem, Nat.reduceAdd, Nat.reduceLeDiff, Nat.reduceMul, Int.reduceBEq, Int.reduceBNe, Int.reduceLT, Int.reduceLE, Int.reduceGT, rlL, at0_s, nl, aBin_eqlP uPl, d1, v1, aBin_neq, rmM1, rlL1, e2, clV_f, w2, bne_self_eq_false, e3, rr2, rr3, hr, cLE_t, aBin_neqB uB, aBin_eql, rt3, ht, aBin_gtr, t0, rlL3, es, e4, e5, v5, hz2, w5]
      exact eg
    · simp only [hr, ht, cond_true, Bool.not_true, Bool.false_or] at e3 hk3
      have t0 : ¬ 0 < v / 4294967296 % 256 := by
        have : v / 4294967296 % 256 = 0 := by simpa using ht
        omega
      obtain ⟨g', eg⟩ := looks_end (k := hh.length + 1) P3 s0 hk3 (.inr ⟨fun q => t0 q.1, (mW_plain hr ht).symm⟩)
      refine ⟨g', ?_⟩
      unfold J9_0
      simp only [go_sem, Nat.reduceAdd, Nat.reduceLeDiff, Nat.reduceMul, Int.reduceBEq, Int.reduceBNe, Int.reduceLT, Int.reduceLE, Int.reduceGT, rlL, at0_s, nl, aBin_eqlP uPl, d1, v1, aBin_neq, rmM1, rlL1, e2, clV_f, w2, bne_self_eq_false, e3, rr2, rr3, hr, cLE_t, aBin_neqB uB, aBin_eql, rt3, ht, aBin_gtr, t0]
      exact eg
theorem looks_law : Law Try.prog cfg 9 [64, 64, 64] := by
  intro h avs ha
  obtain ⟨x1, r, rfl, a1, ha⟩ := args_cons ha
  obtain ⟨x2, r, rfl, a2, ha⟩ := args_cons ha
  obtain ⟨x3, r, rfl, a3, ha⟩ := args_cons ha
  obtain rfl := args_nil ha
  obtain ⟨v, rfl, v0⟩ := inU64 (arg1 (P := Try.prog) (by kernel_rfl) (by kernel_rfl) a1)
  obtain ⟨s, rfl, s0⟩ := inU64 (arg1 (P := Try.prog) (by kernel_rfl) (by kernel_rfl) a2)
  obtain ⟨z, rfl, z0⟩ := inU64 (arg1 (P := Try.prog) (by kernel_rfl) (by kernel_rfl) a3)
  obtain ⟨h3, a, b, e3, A3, O3, la, lb⟩ := begun_e ⟨0, h.length⟩ (h ++ [Blk.own [(Value.int .u64 v)]])
  simp only [List.length_append, List.length_cons, List.length_nil] at la lb O3
  have la3 := lt_of A3.ha
  have lb3 := lt_of A3.hb
  have l3 := O3.len
  have bv3 : h3[h.length]? = some (.own [(Value.int .u64 v)]) := (O3.old _ (by omega)).trans (by simp)
  have mo := fun (md : Md) => memof_s md h3 la3
  have st1 := fun (h' : Heap) (kk : Heap → Option (Value × Heap)) => st_N ⟨0, h.length⟩ 1 h3.length 0 [(Value.pointer (some ⟨a, 0, none⟩))] h' kk rfl rfl
  have hl3 : h.length ≤ h3.length := by omega
  have hl31 : h.length ≤ h3.length + 1 := by omega
  have A4 := A3.app [Blk.own [(Value.pointer (some ⟨a, 0, none⟩))], Blk.own [(Value.int .i64 2), (Value.int .i64 0), (Value.int .i64 8)]]
  obtain ⟨h5, e5, A5, o5⟩ := st_x (md := ⟨0, h.length⟩) A4 (Nat.zero_le _) (Nat.zero_le _) 16 v
  have l5 := o5.len
  simp only [List.length_append, List.length_cons, List.length_nil] at l5
  have bv5 : h5[h.length]? = some (.own [(Value.int .u64 v)]) := by rw [o5.oth _ (by omega) (by omega), List.getElem?_append_left (by omega)]; exact bv3
  have bm5 : h5[h3.length]? = some (.own [(Value.pointer (some ⟨a, 0, none⟩))]) := by rw [o5.oth _ (by omega) (by omega)]; simp
  have bl5 : h5[h3.length + 1]? = some (.own [(Value.int .i64 2), (Value.int .i64 0), (Value.int .i64 8)]) := by rw [o5.oth _ (by omega) (by omega), List.getElem?_append_right (by omega), Nat.add_sub_cancel_left]; rfl
  have w5 : Wd (putI (List.replicate 42 0) 16 v) := (Wd.zero 42).put 16 v0
  have rv : ∀ hx : Heap, hx[h.length]? = some (.own [(Value.int .u64 v)]) → rd hx h.length 0 = some ((Value.int .u64 v)) := fun hx e => by rw [rd_own e]; rfl
  have rv4 := rv (h3 ++ [Blk.own [(Value.pointer (some ⟨a, 0, none⟩))], Blk.own [(Value.int .i64 2), (Value.int .i64 0), (Value.int .i64 8)]]) (by rw [List.getElem?_append_left (by omega)]; exact bv3)
  have rv5 := rv h5 bv5
  have ps := fun (md : Md) (h : Heap) => W.parts_s v0.1 v0.2 md h
  have P : LSt h (h5 ++ [Blk.own [(Value.int .i64 (v / 65536 % 65536)), (Value.int .i64 (v % 65536)), (Value.int .i64 (v / 4294967296 % 256)), (Value.int .i64 (v / 1099511627776))], Blk.own [(Value.bool (W.rightB v))]]) a b h.length h3.length (h3.length + 1) h5.length (h5.length + 1) v (putI (List.replicate 42 0) 16 v) _ :=
    ⟨A5.app _, w5, v0, by rw [List.getElem?_append_left (by omega)]; exact bv5, by rw [List.getElem?_append_left (by omega)]; exact bm5, by rw [List.getElem?_append_left (by omega)]; exact bl5, by simp,
      by rw [List.getElem?_append_right (by omega), Nat.add_sub_cancel_left]; rfl, by simp; omega, by omega⟩
  have g16 : getI (putI (List.replicate 42 0) 16 v) 16 = v := by rw [getI_put, if_pos ⟨rfl, by simp⟩]
  have rb : W.rightW (v / 65536 % 65536) (v % 65536) (v / 4294967296 % 256) (v / 1099511627776) = W.rightB v := rfl
  have h5l : h.length ≤ h5.length := by omega
  have h5l1 : h.length ≤ h5.length + 1 := by omega
  rw [call_eq, F9_eq]
  unfold F9
  by_cases hq : W.rightB v = true ∧ 0 < v / 4294967296 % 256
  · have t8 := (W.rightW_iff.1 hq.1).2.2.1
    have es := fun (md : Md) (h : Heap) => state_s md h rt208 (a := v / 4294967296 % 256) (by unfold I64; omega)
    obtain ⟨h6, e6, A6, o6⟩ := st_x (md := ⟨0, h.length⟩) P.A (Nat.zero_le _) (Nat.zero_le _) (Sx 8 (v / 4294967296 % 256)) s
    have w6 := P.w.put (Sx 8 (v / 4294967296 % 256)) s0
    have P6 := P.step A6 w6 (Nat.le_of_eq o6.len.symm) (fun y _ h1 h2 => o6.oth y h1 h2)
    have sx := Sx8 hq.2 t8.2
    obtain ⟨g', eg⟩ := looks_mid P6 s0 z0 (by simp [putI_len]) (by rw [getI_put, if_neg (fun q => by rw [sx] at q; omega)]; exact g16)
      (fun _ _ => by rw [getI_put, if_pos ⟨rfl, by rw [sx, putI_len]; simp; omega⟩])
    have rl6 : rdN (h5 ++ [Blk.own [(Value.int .i64 (v / 65536 % 65536)), (Value.int .i64 (v % 65536)), (Value.int .i64 (v / 4294967296 % 256)), (Value.int .i64 (v / 1099511627776))], Blk.own [(Value.bool (W.rightB v))]]) (h3.length + 1) 0 3 = some [(Value.int .i64 2), (Value.int .i64 0), (Value.int .i64 8)] := by rw [rdN_own P.hl (by simp)]; rfl
    refine ⟨g', ?_⟩
    simp only [hq.1] at e6 rl6
    have hr := hq.1
    have ht := hq.2
    simp only [go_sem, Nat.reduceAdd, Nat.reduceLeDiff, Nat.reduceMul, Int.reduceBEq, Int.reduceBNe, Int.reduceLT, Int.reduceLE, Int.reduceGT, e3, aBin_eqlP uPa, mo, small_s, st1, hl3, hl31, at0_s, rv4, e5, rv5, ps, h5l, W.refright_s, rb, hr, h5l1, aBin_gtr, ht, rl6, es, e6]
    exact eg
  · obtain ⟨g', eg⟩ := looks_mid P s0 z0 (by simp [putI_len]) g16 (fun q1 q2 => absurd ⟨q1, q2⟩ hq)
    refine ⟨g', ?_⟩
    cases hr : W.rightB v
    · rw [hr] at eg
      simp only [go_sem, Nat.reduceAdd, Nat.reduceLeDiff, Nat.reduceMul, Int.reduceBEq, Int.reduceBNe, Int.reduceLT, Int.reduceLE, Int.reduceGT, e3, aBin_eqlP uPa, mo, small_s, st1, hl3, hl31, at0_s, rv4, e5, rv5, ps, h5l, W.refright_s, rb, hr, h5l1]
      exact eg
    · have ht : ¬ 0 < v / 4294967296 % 256 := fun q => hq ⟨hr, q⟩
      rw [hr] at eg
      simp only [go_sem, Nat.reduceAdd, Nat.reduceLeDiff, Nat.reduceMul, Int.reduceBEq, Int.reduceBNe, Int.reduceLT, Int.reduceLE, Int.reduceGT, e3, aBin_eqlP uPa, mo, small_s, st1, hl3, hl31, at0_s, rv4, e5, rv5, ps, h5l, W.refright_s, rb, hr, h5l1, aBin_gtr, ht]
      exact eg
end Go.Det.E
