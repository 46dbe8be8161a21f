/- Cells that are seen as they were, or as they are: what its functions answer. -/
import Derived.Test.YtfckdafeeoibhaaM2
import Derived.Test.YtfckdafeeoibhaaWN
set_option autoImplicit false
set_option linter.unusedVariables false
set_option linter.unusedSimpArgs false
namespace Go.Det.E
open Go.Proofs Go.Det
attribute [local congr] bind_c cond_c
variable {md : Md} {h : Heap} {a b : Nat} {l c : List Int} {V S T : Int}
/-- What a word means by its thread's state. -/
def mT (o n t g s : Int) : Int := bif decide (s < 33554432) then W.meansW o n t g (s / 2) (s % 2 == 1) else 0
def mW (v s : Int) : Int := bif W.rightB v then (bif v / 4294967296 % 256 == 0 then v % 65536 else mT (v / 65536 % 65536) (v % 65536) (v / 4294967296 % 256) (v / 1099511627776) s) else 0
theorem pmeans_s {s : Int} (s0 : 0 ≤ s ∧ s < 18446744073709551616) (md : Md) (h : Heap) (o n t g : Int) : C md 86 [(Value.agg #[(Value.int .i64 o), (Value.int .i64 n), (Value.int .i64 t), (Value.int .i64 g)]), (Value.int .u64 s)] h = some ((Value.int .i64 (mT o n t g s)), h) := by
  rw [C, call_eq, F86_eq]
  unfold F86 mT
  by_cases hs : s < 33554432
  · have e := fun (m : Md) (h : Heap) => W.tag_s s0.1 s0.2 m h
    simp only [hs, decide_true, cond_true, Bool.true_and] at e
    simp only [go_sem, Nat.reduceAdd, Nat.reduceLeDiff, Nat.reduceMul, Int.reduceBEq, Int.reduceBNe, Int.reduceLT, Int.reduceLE, Int.reduceGT, e, W.means_s, hs]
  · have e := fun (m : Md) (h : Heap) => W.tag_s s0.1 s0.2 m h
    simp only [hs, decide_false, cond_false, Bool.false_and] at e
    simp only [go_sem, Nat.reduceAdd, Nat.reduceLeDiff, Nat.reduceMul, Int.reduceBEq, Int.reduceBNe, Int.reduceLT, Int.reduceLE, Int.reduceGT, e, hs]
theorem means_e (hR : Rt V S T) (A : Ar h a b l c) (hro : md.ro ≤ a) (hr : md.ro ≤ h.length) (w : Wd l) (x : Int) :
    ∃ h' c', C md 41 [ifA a, (Value.agg #[(Value.int .i64 V), (Value.int .i64 S), (Value.int .i64 T)]), (Value.int .i64 x)] h = some ((Value.int .i64 (mW (getI l x) (getI l (Sx T (getI l x / 4294967296 % 256))))), h') ∧ Ar h' a b l c' ∧ Only a b h h' := by
  have la := lt_of A.ha
  have lb := lt_of A.hb
  obtain ⟨v, hv⟩ : ∃ v, v = getI l x := ⟨_, rfl⟩
  have vw := w.get x
  rw [← hv] at vw
  obtain ⟨h3, e3, A3, o3⟩ := pl_x (md := ⟨md.ro, h.length⟩) (A.app [Blk.own [(Value.int .i64 V), (Value.int .i64 S), (Value.int .i64 T)]]) hro x
  rw [← hv] at e3 ⊢
  have og : OG a b h h3 := (OG.refl.app _).only o3
  have l3 := og.len
  have hr3 : md.ro ≤ h3.length := Nat.le_trans hr l3
  have up := fun (m : Md) (h : Heap) => W.unpack_s vw.1 vw.2 m h
  have st4 := fun (α : Type) (o n t g : Int) (h' : Heap) (kk : Heap → Option α) => st_N ⟨md.ro, h.length⟩ 4 h3.length 0 [(Value.int .i64 o), (Value.int .i64 n), (Value.int .i64 t), (Value.int .i64 g)] h' kk rfl rfl
  cases hr' : W.rightB v
  · simp only [hr', cond_false] at up
    refine ⟨(h3 ++ [Blk.own [(Value.int .i64 0), (Value.int .i64 0), (Value.int .i64 0), (Value.int .i64 0)]]).take h.length, _, ?_, (A3.app _).take la lb, (og.app _).done⟩
    rw [C, call_eq, F41_eq]
    unfold F41
    simp only [go_sem, Nat.reduceAdd, Nat.reduceLeDiff, Nat.reduceMul, Int.reduceBEq, Int.reduceBNe, Int.reduceLT, Int.reduceLE, Int.reduceGT, clI_load, e3, up, st4, hr, hr3, l3, mW, hr']
  · simp only [hr', cond_true] at up
    cases ht : (v / 4294967296 % 256 == 0)
    · have t8 := (W.rightW_iff.1 hr').2.2.1
      have es := state_s ⟨md.ro, h.length⟩ (h3 ++ [Blk.own [(Value.int .i64 (v / 65536 % 65536)), (Value.int .i64 (v % 65536)), (Value.int .i64 (v / 4294967296 % 256)), (Value.int .i64 (v / 1099511627776))]]) hR (a := v / 4294967296 % 256) (by unfold I64; omega)
      obtain ⟨h5, e5, A5, o5⟩ := pl_x (md := ⟨md.ro, h.length⟩) (A3.app [Blk.own [(Value.int .i64 (v / 65536 % 65536)), (Value.int .i64 (v % 65536)), (Value.int .i64 (v / 4294967296 % 256)), (Value.int .i64 (v / 1099511627776))]]) hro (Sx T (v / 4294967296 % 256))
      have b5 : h5[h3.length]? = some (.own [(Value.int .i64 (v / 65536 % 65536)), (Value.int .i64 (v % 65536)), (Value.int .i64 (v / 4294967296 % 256)), (Value.int .i64 (v / 1099511627776))]) := by rw [o5.oth _ (by omega) (by omega)]; simp
      have r5 : rdN h5 h3.length 0 4 = some [(Value.int .i64 (v / 65536 % 65536)), (Value.int .i64 (v % 65536)), (Value.int .i64 (v / 4294967296 % 256)), (Value.int .i64 (v / 1099511627776))] := by rw [rdN_own b5 (by simp)]; rfl
      have bL : h3[h.length]? = some (.own [(Value.int .i64 V), (Value.int .i64 S), (Value.int .i64 T)]) := by rw [o3.oth _ (by omega) (by omega)]; simp
      have rL : rdN (h3 ++ [Blk.own [(Value.int .i64 (v / 65536 % 65536)), (Value.int .i64 (v % 65536)), (Value.int .i64 (v / 4294967296 % 256)), (Value.int .i64 (v / 1099511627776))]]) h.length 0 3 = some [(Value.int .i64 V), (Value.int .i64 S), (Value.int .i64 T)] := by
        rw [rdN_own (by rw [List.getElem?_append_left (lt_of bL)]; exact bL) (by simp)]; rfl
      have em := pmeans_s (w.get (Sx T (v / 4294967296 % 256))) ⟨md.ro, h.length⟩ h5 (v / 65536 % 65536) (v % 65536) (v / 4294967296 % 256) (v / 1099511627776)
      refine ⟨h5.take h.length, _, ?_, A5.take la lb, ((og.app _).only o5).done⟩
      rw [C, call_eq, F41_eq]
      unfold F41
      simp only [go_sem, Nat.reduceAdd, Nat.reduceLeDiff, Nat.reduceMul, Int.reduceBEq, Int.reduceBNe, Int.reduceLT, Int.reduceLE, Int.reduceGT, clI_load, e3, up, st4, hr, hr3, l3, mW, hr', W.plain_s, ht, rL, es, okN_load, e5, r5, cLE_t, em]
    · refine ⟨(h3 ++ [Blk.own [(Value.int .i64 (v / 65536 % 65536)), (Value.int .i64 (v % 65536)), (Value.int .i64 (v / 4294967296 % 256)), (Value.int .i64 (v / 1099511627776))]]).take h.length, _, ?_, (A3.app _).take la lb, (og.app _).done⟩
      rw [C, call_eq, F41_eq]
      unfold F41
      simp only [go_sem, Nat.reduceAdd, Nat.reduceLeDiff, Nat.reduceMul, Int.reduceBEq, Int.reduceBNe, Int.reduceLT, Int.reduceLE, Int.reduceGT, clI_load, e3, up, st4, hr, hr3, l3, mW, hr', W.plain_s, ht]
end Go.Det.E
