/- The laws of the looks: what they begin with, and what a look tells. -/
import Derived.Test.YtfckdafeeoibhaaP2
import Derived.Test.YtfckdafeeoibhaaDetS
set_option autoImplicit false
set_option linter.unusedVariables false
set_option linter.unusedSimpArgs false
namespace Go.Det.E
open Go.Proofs Go.Det
attribute [local congr] bind_c cond_c
theorem awake08 (md : Md) (h : Heap) : C md 30 [] h = some ((Value.bool true), h) := free_ok 100 100 (by kernel_rfl) (by kernel_rfl) md h
theorem small_s (md : Md) (h : Heap) : C md 32 [] h = some ((Value.agg #[(Value.int .i64 2), (Value.int .i64 0), (Value.int .i64 8)]), h) := free_ok 100 100 (by kernel_rfl) (by kernel_rfl) md h
theorem at0_s (md : Md) (h : Heap) : C md 34 [(Value.int .i64 0)] h = some ((Value.int .i64 16), h) := free_ok 100 100 (by kernel_rfl) (by kernel_rfl) md h
theorem at1_s (md : Md) (h : Heap) : C md 34 [(Value.int .i64 1)] h = some ((Value.int .i64 23), h) := free_ok 100 100 (by kernel_rfl) (by kernel_rfl) md h
theorem cells42 (md : Md) (h : Heap) : C md 70 [(Value.agg #[(Value.int .i64 2), (Value.int .i64 0), (Value.int .i64 8)])] h = some ((Value.int .i64 42), h) := free_ok 100 100 (by kernel_rfl) (by kernel_rfl) md h
theorem rt208 : Rt 2 0 8 := by decide
theorem begun_e (md : Md) (h : Heap) :
    ∃ h' a b, C md 31 [] h = some ((Value.pointer (some ⟨a, 0, none⟩)), h') ∧ Ar h' a b (List.replicate 42 0) [0, 0, 0, 0, 0] ∧ Old h.length h h' ∧ h.length ≤ a ∧ h.length ≤ b := by
  obtain ⟨h', a, b, e, A, O, la, lb⟩ := new_e md h (n := 42) (by decide) (by decide)
  refine ⟨h', a, b, ?_, A, O, la, lb⟩
  rw [C, call_eq, F31_eq]
  unfold F31
  simp only [go_sem, Nat.reduceAdd, Nat.reduceLeDiff, Nat.reduceMul, Int.reduceBEq, Int.reduceBNe, Int.reduceLT, Int.reduceLE, Int.reduceGT, small_s, cells42, e]
variable {md : Md} {h hh h' : Heap} {a b k bv bm bl bw br : Nat} {l c l' c' : List Int} {v s : Int}
/-- What the law of the looks has in its blocks. -/
structure LSt (h hh : Heap) (a b bv bm bl bw br : Nat) (v : Int) (l c : List Int) : Prop where
  A : Ar hh a b l c
  w : Wd l
  vw : 0 ≤ v ∧ v < 18446744073709551616
  hv : hh[bv]? = some (.own [(Value.int .u64 v)])
  hm : hh[bm]? = some (.own [(Value.pointer (some ⟨a, 0, none⟩))])
  hl : hh[bl]? = some (.own [(Value.int .i64 2), (Value.int .i64 0), (Value.int .i64 8)])
  hw : hh[bw]? = some (.own [(Value.int .i64 (v / 65536 % 65536)), (Value.int .i64 (v % 65536)), (Value.int .i64 (v / 4294967296 % 256)), (Value.int .i64 (v / 1099511627776))])
  hr : hh[br]? = some (.own [(Value.bool (W.rightB v))])
  g : h.length ≤ hh.length ∧ h.length ≤ a ∧ h.length ≤ b ∧ h.length ≤ bv ∧ h.length ≤ bm ∧ h.length ≤ bl ∧ h.length ≤ bw ∧ h.length ≤ br
  d : (bv ≠ a ∧ bv ≠ b) ∧ (bm ≠ a ∧ bm ≠ b) ∧ (bl ≠ a ∧ bl ≠ b) ∧ (bw ≠ a ∧ bw ≠ b) ∧ (br ≠ a ∧ br ≠ b)
theorem LSt.step (P : LSt h hh a b bv bm bl bw br v l c) (A : Ar h' a b l' c') (w : Wd l') (hlen : hh.length ≤ h'.length) (f : ∀ y, y < hh.length → y ≠ a → y ≠ b → h'[y]? = hh[y]?) : LSt h h' a b bv bm bl bw br v l' c' := by
  obtain ⟨d1, d2, d3, d4, d5⟩ := P.d
  exact ⟨A, w, P.vw, by rw [f _ (lt_of P.hv) d1.1 d1.2]; exact P.hv, by rw [f _ (lt_of P.hm) d2.1 d2.2]; exact P.hm, by rw [f _ (lt_of P.hl) d3.1 d3.2]; exact P.hl,
    by rw [f _ (lt_of P.hw) d4.1 d4.2]; exact P.hw, by rw [f _ (lt_of P.hr) d5.1 d5.2]; exact P.hr, ⟨Nat.le_trans P.g.1 hlen, P.g.2⟩, P.d⟩
theorem mW_any {s' : Int} (hd : W.rightB v = false ∨ (v / 4294967296 % 256 == 0) = true) : mW v s = mW v s' := by
  unfold mW
  rcases hd with e | e
  · rw [e]; rfl
  · rw [e]; rfl
theorem mW_none (hd : W.rightB v = false) : mW v s = 0 := by unfold mW; rw [hd]; rfl
theorem mW_plain (hd : W.rightB v = true) (ht : (v / 4294967296 % 256 == 0) = true) : mW v s = v % 65536 := by unfold mW; rw [hd, ht]; rfl
theorem mW_word (hd : W.rightB v = true) (ht : (v / 4294967296 % 256 == 0) = false) : mW v s = mT (v / 65536 % 65536) (v % 65536) (v / 4294967296 % 256) (v / 1099511627776) s := by unfold mW; rw [hd, ht]; rfl
/-- What the law wants. -/
theorem want_s (P : LSt h hh a b bv bm bl bw br v l c) (s0 : 0 ≤ s ∧ s < 18446744073709551616) (md : Md) : C md 50 [(Value.int .u64 s), (Value.pointer (some ⟨br, 0, none⟩)), (Value.pointer (some ⟨bw, 0, none⟩)), (Value.pointer (some ⟨bv, 0, none⟩))] hh = some ((Value.int .i64 (mW v s)), hh) := by
  have r1 : rd hh br 0 = some ((Value.bool (W.rightB v))) := by rw [rd_own P.hr]; rfl
  have r2 : rd hh bw 2 = some ((Value.int .i64 (v / 4294967296 % 256))) := by rw [rd_own P.hw]; rfl
  have r3 : rd hh bv 0 = some ((Value.int .u64 v)) := by rw [rd_own P.hv]; rfl
  have em := fun (md : Md) => W.refmeans_s P.vw.1 P.vw.2 s0.1 s0.2 md hh
  rw [C, call_eq, F50_eq]
  unfold F50
  cases hr : W.rightB v
  · simp only [go_sem, Nat.reduceAdd, Nat.reduceLeDiff, Nat.reduceMul, Int.reduceBEq, Int.reduceBNe, Int.reduceLT, Int.reduceLE, Int.reduceGT, r1, hr, mW_none hr]
  · cases ht : (v / 4294967296 % 256 == 0)
    · have t0 : 0 < v / 4294967296 % 256 := by
        have : v / 4294967296 % 256 ≠ 0 := by simpa using ht
        omega
      rw [mW_word hr ht]
      by_cases hs : s < 33554432
      · have hs' : ¬ 33554432 ≤ s := by omega
        simp only [go_sem, Nat.reduceAdd, Nat.reduceLeDiff, Nat.reduceMul, Int.reduceBEq, Int.reduceBNe, Int.reduceLT, Int.reduceLE, Int.reduceGT, r1, r2, r3, hr, aBin_gtr, t0, aBin_geq, hs', em, mT, hs]
      · have hs' : 33554432 ≤ s := by omega
        simp only [go_sem, Nat.reduceAdd, Nat.reduceLeDiff, Nat.reduceMul, Int.reduceBEq, Int.reduceBNe, Int.reduceLT, Int.reduceLE, Int.reduceGT, r1, r2, r3, hr, aBin_gtr, t0, aBin_geq, hs', mT, hs]
    · have t0 : ¬ 0 < v / 4294967296 % 256 := by
        have : v / 4294967296 % 256 = 0 := by simpa using ht
        omega
      rw [mW_plain hr ht]
      have e : W.meansW (v / 65536 % 65536) (v % 65536) (v / 4294967296 % 256) (v / 1099511627776) (s / 2) (s % 2 == 1) = v % 65536 := by
        unfold W.meansW; rw [ht]; rfl
      simp only [go_sem, Nat.reduceAdd, Nat.reduceLeDiff, Nat.reduceMul, Int.reduceBEq, Int.reduceBNe, Int.reduceLT, Int.reduceLE, Int.reduceGT, r1, r2, r3, hr, aBin_gtr, t0, em, e]
theorem clV_f {α : Type} {rc : Rec} {md : Md} {f : FuncId} {fs cs : Array Value} {args : List Value} {h : Heap} {k : Value → Heap → Option α} : clV rc md (.func (.func f) fs cs) args h k = cl (rc md f (fs.toList ++ args ++ cs.toList) h) k := rfl
/-- The end of the law. -/
theorem looks_end {x o n t g val : Int} {hf : Bool} (P : LSt h hh a b bv bm bl bw br v l c) (s0 : 0 ≤ s ∧ s < 18446744073709551616) (hk : hh[k]? = some (.own (lkC 2 0 8 x o n t g hf true val))) 
    (hval : (0 < v / 4294967296 % 256 ∧ W.rightB v = true) ∨ (¬ (0 < v / 4294967296 % 256 ∧ W.rightB v = true) ∧ val = mW v s)) :
    ∃ g', J9_1 C ⟨0, h.length⟩ h ((Value.int .u64 s)) ((Value.pointer (some ⟨a, 0, none⟩))) ((Value.pointer (some ⟨bw, 0, none⟩))) ((Value.pointer (some ⟨br, 0, none⟩))) (.func (.func 50) #[] #[(Value.pointer (some ⟨br, 0, none⟩)), (Value.pointer (some ⟨bw, 0, none⟩)), (Value.pointer (some ⟨bv, 0, none⟩))]) ((Value.pointer (some ⟨k, 0, none⟩))) hh = some ((Value.bool true), g') := by
  have hro := P.g.1
  obtain ⟨c0, c1, c2, c3, c4, rfl⟩ := five P.A.hc
  have e1 := fun (md : Md) => counts_x (md := md) P.A
  have P4 := P.step (P.A.app [Blk.own [(Value.int .i64 c0), (Value.int .i64 c1), (Value.int .i64 c2), (Value.int .i64 c3), (Value.int .i64 c4)]]) P.w (by simp) (fun y h1 _ _ => List.getElem?_append_left h1)
  have e2 := fun (md : Md) => counts_x (md := md) P4.A
  have hk4 : (hh ++ [Blk.own [(Value.int .i64 c0), (Value.int .i64 c1), (Value.int .i64 c2), (Value.int .i64 c3), (Value.int .i64 c4)]])[k]? = some (.own (lkC 2 0 8 x o n t g hf true val)) := by rw [List.getElem?_append_left (lt_of hk)]; exact hk
  have d4 := fun (md : Md) => done_s md hk4
  have s4 := fun (md : Md) => lstep_d md ((Value.pointer (some ⟨a, 0, none⟩))) hk4
  have v4 := fun (md : Md) => value_s md hk4
  have w4 := fun (md : Md) => want_s P4 s0 md
  have r1 : rd (hh ++ [Blk.own [(Value.int .i64 c0), (Value.int .i64 c1), (Value.int .i64 c2), (Value.int .i64 c3), (Value.int .i64 c4)]]) br 0 = some ((Value.bool (W.rightB v))) := by rw [rd_own P4.hr]; rfl
  have r2 : rd (hh ++ [Blk.own [(Value.int .i64 c0), (Value.int .i64 c1), (Value.int .i64 c2), (Value.int .i64 c3), (Value.int .i64 c4)]]) bw 2 = some ((Value.int .i64 (v / 4294967296 % 256))) := by rw [rd_own P4.hw]; rfl
  refine ⟨(hh ++ [Blk.own [(Value.int .i64 c0), (Value.int .i64 c1), (Value.int .i64 c2), (Value.int .i64 c3), (Value.int .i64 c4)]]).take h.length, ?_⟩
  unfold J9_1
  rcases hval with ⟨ht, hr⟩ | ⟨hn, hval⟩
  · simp only [go_sem, Nat.reduceAdd, Nat.reduceLeDiff, Nat.reduceMul, Int.reduceBEq, Int.reduceBNe, Int.reduceLT, Int.reduceLE, Int.reduceGT, e1, hro, d4, s4, e2, eqCt, r2, aBin_gtr, ht, r1, hr, awake08]
  · by_cases ht : 0 < v / 4294967296 % 256
    · have hr : W.rightB v = false := by
        cases e : W.rightB v
        · rfl
        · exact absurd ⟨ht, e⟩ hn
      simp only [go_sem, Nat.reduceAdd, Nat.reduceLeDiff, Nat.reduceMul, Int.reduceBEq, Int.reduceBNe, Int.reduceLT, Int.reduceLE, Int.reduceGT, e1, hro, d4, s4, e2, eqCt, r2, aBin_gtr, ht, r1, hr, awake08, v4, clV_f, w4, hval, aBin_eql]
    · simp only [go_sem, Nat.reduceAdd, Nat.reduceLeDiff, Nat.reduceMul, Int.reduceBEq, Int.reduceBNe, Int.reduceLT, Int.reduceLE, Int.reduceGT, e1, hro, d4, s4, e2, eqCt, r2, aBin_gtr, ht, r1, awake08, v4, clV_f, w4, hval, aBin_eql]
end Go.Det.E
