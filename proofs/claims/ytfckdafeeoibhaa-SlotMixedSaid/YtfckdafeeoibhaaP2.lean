/- A look: its steps. -/
import Derived.Test.YtfckdafeeoibhaaP1
set_option autoImplicit false
set_option linter.unusedVariables false
set_option linter.unusedSimpArgs false
namespace Go.Det.E
open Go.Proofs Go.Det
attribute [local congr] bind_c cond_c
variable {md : Md} {h : Heap} {a b k : Nat} {l c : List Int} {V S T : Int}
/-- A look at its block. -/
abbrev lkC (V S T x o n t g : Int) (hf dn : Bool) (val : Int) : List Value := [(Value.int .i64 V), (Value.int .i64 S), (Value.int .i64 T), (Value.int .i64 x), (Value.int .i64 o), (Value.int .i64 n), (Value.int .i64 t), (Value.int .i64 g), (Value.bool hf), (Value.bool dn), (Value.int .i64 val)]
theorem bLook {α : Type} {x : Int} (kk : Value → Option α) : aBuild Try.prog 147 [(0, (Value.agg #[(Value.int .i64 V), (Value.int .i64 S), (Value.int .i64 T)])), (1, (Value.int .i64 x))] kk = kk ((Value.agg (List.toArray (lkC V S T x 0 0 0 0 false false 0)))) := by kernel_rfl
theorem newlook_s (md : Md) (h : Heap) (hr : md.ro ≤ h.length) (hlim : md.lim ≤ h.length) (x : Int) : C md 44 [(Value.agg #[(Value.int .i64 V), (Value.int .i64 S), (Value.int .i64 T)]), (Value.int .i64 x)] h = some ((Value.pointer (some ⟨h.length + 1, 0, none⟩)), h ++ [Blk.own [(Value.int .i64 V), (Value.int .i64 S), (Value.int .i64 T)], Blk.own (lkC V S T x 0 0 0 0 false false 0)]) := by
  rw [C, call_eq, F44_eq]
  unfold F44
  simp only [go_sem, Nat.reduceAdd, Nat.reduceLeDiff, Nat.reduceMul, Int.reduceBEq, Int.reduceBNe, Int.reduceLT, Int.reduceLE, Int.reduceGT, bLook, cells_agg]
theorem done_s {x o n t g val : Int} {hf dn : Bool} (md : Md) (hk : h[k]? = some (.own (lkC V S T x o n t g hf dn val))) : C md 52 [(Value.pointer (some ⟨k, 0, none⟩))] h = some ((Value.bool dn), h) := by
  have r : rd h k 9 = some ((Value.bool dn)) := by rw [rd_own hk]; rfl
  rw [C, call_eq, F52_eq]
  unfold F52
  simp only [go_sem, Nat.reduceAdd, Nat.reduceLeDiff, Nat.reduceMul, Int.reduceBEq, Int.reduceBNe, Int.reduceLT, Int.reduceLE, Int.reduceGT, r]
theorem value_s {x o n t g val : Int} {hf dn : Bool} (md : Md) (hk : h[k]? = some (.own (lkC V S T x o n t g hf dn val))) : C md 46 [(Value.pointer (some ⟨k, 0, none⟩))] h = some ((Value.int .i64 val), h) := by
  have r : rd h k 10 = some ((Value.int .i64 val)) := by rw [rd_own hk]; rfl
  rw [C, call_eq, F46_eq]
  unfold F46
  simp only [go_sem, Nat.reduceAdd, Nat.reduceLeDiff, Nat.reduceMul, Int.reduceBEq, Int.reduceBNe, Int.reduceLT, Int.reduceLE, Int.reduceGT, r]
/-- A step of one that is done. -/
theorem lstep_d {x o n t g val : Int} {hf : Bool} (md : Md) (p : Value) (hk : h[k]? = some (.own (lkC V S T x o n t g hf true val))) : C md 45 [(Value.pointer (some ⟨k, 0, none⟩)), p] h = some ((Value.bool true), h) := by
  have r : rd h k 9 = some ((Value.bool true)) := by rw [rd_own hk]; rfl
  rw [C, call_eq, F45_eq]
  unfold F45 J45_0
  simp only [go_sem, Nat.reduceAdd, Nat.reduceLeDiff, Nat.reduceMul, Int.reduceBEq, Int.reduceBNe, Int.reduceLT, Int.reduceLE, Int.reduceGT, r, take_same (Nat.le_refl h.length)]
/-- The step that is the second. -/
theorem lstep_h {x o n t g val : Int} (hR : Rt V S T) (A : Ar h a b l c) (w : Wd l) (hro : md.ro ≤ a) (hkr : md.ro ≤ k) (hka : k ≠ a) (hkb : k ≠ b) (ht : I64 t) (hk : h[k]? = some (.own (lkC V S T x o n t g true false val))) :
    ∃ h' c', C md 45 [(Value.pointer (some ⟨k, 0, none⟩)), (Value.pointer (some ⟨a, 0, none⟩))] h = some ((Value.bool true), h') ∧ Ar h' a b l c' ∧ h'[k]? = some (.own (lkC V S T x o n t g true true (mT o n t g (getI l (Sx T t))))) ∧ h'.length = h.length ∧ ∀ y, y ≠ a → y ≠ b → y ≠ k → h'[y]? = h[y]? := by
  have r9 : rd h k 9 = some ((Value.bool false)) := by rw [rd_own hk]; rfl
  have r8 : rd h k 8 = some ((Value.bool true)) := by rw [rd_own hk]; rfl
  have r6 : rd h k 6 = some ((Value.int .i64 t)) := by rw [rd_own hk]; rfl
  have rL : rdN h k 0 3 = some [(Value.int .i64 V), (Value.int .i64 S), (Value.int .i64 T)] := by rw [rdN_own hk (by simp)]; rfl
  have es := state_s ⟨md.ro, h.length⟩ h hR ht
  obtain ⟨h1, e1, A1, o1⟩ := ld_x (md := ⟨md.ro, h.length⟩) A hro (Sx T t)
  have hk1 := (o1.oth k hka hkb).trans hk
  have rw1 : rdN h1 k 4 4 = some [(Value.int .i64 o), (Value.int .i64 n), (Value.int .i64 t), (Value.int .i64 g)] := by rw [rdN_own hk1 (by simp)]; rfl
  have em := pmeans_s (w.get (Sx T t)) ⟨md.ro, h.length⟩ h1 o n t g
  obtain ⟨h2, w2, hk2, l2, f2⟩ := put_e (md := ⟨md.ro, h.length⟩) hk1 hkr 10 [(Value.int .i64 (mT o n t g (getI l (Sx T t))))] (lkC V S T x o n t g true false (mT o n t g (getI l (Sx T t)))) rfl (by simp) rfl
  obtain ⟨h3, w3, hk3, l3, f3⟩ := put_e (md := ⟨md.ro, h.length⟩) hk2 hkr 9 [(Value.bool true)] (lkC V S T x o n t g true true (mT o n t g (getI l (Sx T t)))) rfl (by simp) rfl
  have ll : h3.length = h.length := l3.trans (l2.trans o1.len)
  have r3 : rd h3 k 9 = some ((Value.bool true)) := by rw [rd_own hk3]; rfl
  refine ⟨h3, _, ?_, A1.same ((f3 a hka.symm).trans (f2 a hka.symm)) ((f3 b hkb.symm).trans (f2 b hkb.symm)), hk3, ll, fun y h1 h2 h3 => (f3 y h3).trans ((f2 y h3).trans (o1.oth y h1 h2))⟩
  rw [C, call_eq, F45_eq]
  unfold F45 J45_0
  simp only [go_sem, Nat.reduceAdd, Nat.reduceLeDiff, Nat.reduceMul, Int.reduceBEq, Int.reduceBNe, Int.reduceLT, Int.reduceLE, Int.reduceGT, r9, r8, r6, rL, es, e1, rw1, em, w2, w3, r3, take_same (Nat.le_of_eq ll)]
/-- The first step. -/
theorem lstep_1 {x : Int} (A : Ar h a b l c) (w : Wd l) (hro : md.ro ≤ a) (hkr : md.ro ≤ k) (hr : md.ro ≤ h.length) (hka : k ≠ a) (hkb : k ≠ b) {v : Int} (hv : getI l x = v) (hk : h[k]? = some (.own (lkC V S T x 0 0 0 0 false false 0))) :
    ∃ h' c', C md 45 [(Value.pointer (some ⟨k, 0, none⟩)), (Value.pointer (some ⟨a, 0, none⟩))] h = some ((Value.bool (!(W.rightB v) || v / 4294967296 % 256 == 0)), h') ∧ Ar h' a b l c' ∧
      h'[k]? = some (.own (bif W.rightB v then (bif v / 4294967296 % 256 == 0 then lkC V S T x (v / 65536 % 65536) (v % 65536) (v / 4294967296 % 256) (v / 1099511627776) true true (v % 65536)
        else lkC V S T x (v / 65536 % 65536) (v % 65536) (v / 4294967296 % 256) (v / 1099511627776) true false 0) else lkC V S T x 0 0 0 0 true true 0)) ∧ h'.length = h.length ∧ ∀ y, y ≠ a → y ≠ b → y ≠ k → h'[y]? = h[y]? := by
  have vw := w.get x
  rw [hv] at vw
  have r9 : rd h k 9 = some ((Value.bool false)) := by rw [rd_own hk]; rfl
  have r8 : rd h k 8 = some ((Value.bool false)) := by rw [rd_own hk]; rfl
  have rx : rd h k 3 = some ((Value.int .i64 x)) := by rw [rd_own hk]; rfl
  obtain ⟨h1, e1, A1, o1⟩ := ld_x (md := ⟨md.ro, h.length⟩) A hro x
  rw [hv] at e1
  have up := fun (m : Md) (h : Heap) => W.unpack_s vw.1 vw.2 m h
  have l1 := o1.len
  have kl := lt_of hk
  have hk1 := (o1.oth k hka hkb).trans hk
  have la := lt_of A1.ha
  have lb := lt_of A1.hb
  have hr1 : md.ro ≤ h1.length := by omega
  have hl1 : h.length ≤ h1.length := by omega
  have fin : ∀ (o n t g : Int), ∃ h3, (∀ {α : Type} (kk : Heap → Option α), st ⟨md.ro, h.length⟩ 4 ((Value.pointer (some ⟨h1.length, 0, none⟩))) ((Value.agg #[(Value.int .i64 o), (Value.int .i64 n), (Value.int .i64 t), (Value.int .i64 g)])) (h1 ++ [Blk.own [(Value.int .i64 0), (Value.int .i64 0), (Value.int .i64 0), (Value.int .i64 0)]]) kk = kk (h1 ++ [Blk.own [(Value.int .i64 o), (Value.int .i64 n), (Value.int .i64 t), (Value.int .i64 g)]])) ∧
      (∃ h2, wrN ⟨md.ro, h.length⟩ (h1 ++ [Blk.own [(Value.int .i64 o), (Value.int .i64 n), (Value.int .i64 t), (Value.int .i64 g)]]) k 4 [(Value.int .i64 o), (Value.int .i64 n), (Value.int .i64 t), (Value.int .i64 g)] = some h2 ∧ wrN ⟨md.ro, h.length⟩ h2 k 8 [(Value.bool true)] = some h3) ∧ h3[k]? = some (.own (lkC V S T x o n t g true false 0)) ∧ h3.length = h.length + 1 ∧ (∀ y, y < h.length → y ≠ k → h3[y]? = h1[y]?) ∧ h3[h1.length]? = some (.own [(Value.int .i64 o), (Value.int .i64 n), (Value.int .i64 t), (Value.int .i64 g)]) := by
    intro o n t g
    obtain ⟨h2, w2, hk2, l2, f2⟩ := put_e (md := ⟨md.ro, h.length⟩) (h := h1 ++ [Blk.own [(Value.int .i64 o), (Value.int .i64 n), (Value.int .i64 t), (Value.int .i64 g)]]) (by rw [List.getElem?_append_left (by omega)]; exact hk1) hkr 4 [(Value.int .i64 o), (Value.int .i64 n), (Value.int .i64 t), (Value.int .i64 g)] (lkC V S T x o n t g false false 0) rfl (by simp) rfl
    obtain ⟨h3, w3, hk3, l3, f3⟩ := put_e (md := ⟨md.ro, h.length⟩) hk2 hkr 8 [(Value.bool true)] (lkC V S T x o n t g true false 0) rfl (by simp) rfl
    refine ⟨h3, ?_, ⟨h2, w2, w3⟩, hk3, by rw [l3, l2]; simp [l1], fun y h1 h2 => by rw [f3 y h2, f2 y h2, List.getElem?_append_left (by omega)], by rw [f3 _ (by omega), f2 _ (by omega)]; simp⟩
    intro α kk
    rw [st_N ⟨md.ro, h.length⟩ 4 h1.length 0 [(Value.int .i64 o), (Value.int .i64 n), (Value.int .i64 t), (Value.int .i64 g)] _ kk rfl rfl]
    simp only [go_sem, Nat.reduceAdd, Nat.reduceLeDiff, Nat.reduceMul, Int.reduceBEq, Int.reduceBNe, Int.reduceLT, Int.reduceLE, Int.reduceGT, hr1, hl1]
  have same : ∀ h3 : Heap, (∀ y, y < h.length → y ≠ k → h3[y]? = h1[y]?) → h3.length = h.length + 1 → Ar (h3.take h.length) a b l (cL l c x) ∧ (∀ y, y ≠ a → y ≠ b → y ≠ k → (h3.take h.length)[y]? = h[y]?) := by
    intro h3 f lf
    refine ⟨⟨?_, ?_, A1.hc, A1.ne⟩, fun y h1 h2 h3 => ?_⟩
    · rw [List.getElem?_take, if_pos (by omega), f a (by omega) hka.symm]; exact A1.ha
    · rw [List.getElem?_take, if_pos (by omega), f b (by omega) hkb.symm]; exact A1.hb
    · rw [List.getElem?_take]
      split
      · rename_i hy; rw [f y hy h3, o1.oth y h1 h2]
      · rw [List.getElem?_eq_none (by omega)]
  cases hr' : W.rightB v
  · simp only [hr', cond_false] at up
    obtain ⟨h3, s3, ⟨h2, w2, w3⟩, hk3, l3, f3, fw⟩ := fin 0 0 0 0
    obtain ⟨h4, w4, hk4, l4, f4⟩ := put_e (md := ⟨md.ro, h.length⟩) hk3 hkr 10 [(Value.int .i64 0)] (lkC V S T x 0 0 0 0 true false 0) rfl (by simp) rfl
    obtain ⟨h5, w5, hk5, l5, f5⟩ := put_e (md := ⟨md.ro, h.length⟩) hk4 hkr 9 [(Value.bool true)] (lkC V S T x 0 0 0 0 true true 0) rfl (by simp) rfl
    have r5 : rd h5 k 9 = some ((Value.bool true)) := by rw [rd_own hk5]; rfl
    have r3 : rd h3 h1.length 1 = some ((Value.int .i64 0)) := by rw [rd_own fw]; rfl
    obtain ⟨A5, s5⟩ := same h5 (fun y h1 h2 => by rw [f5 y h2, f4 y h2, f3 y h1 h2]) (by omega)
    refine ⟨h5.take h.length, _, ?_, A5, by rw [List.getElem?_take, if_pos (by omega)]; exact hk5, by rw [List.length_take]; omega, s5⟩
    rw [C, call_eq, F45_eq]
    unfold F45 J45_0
    simp only [go_sem, Nat.reduceAdd, Nat.reduceLeDiff, Nat.reduceMul, Int.reduceBEq, Int.reduceBNe, Int.reduceLT, Int.reduceLE, Int.reduceGT, r9, r8, rx, e1, up, s3, w2, w3, w4, w5, r5, r3]
  · simp only [hr', cond_true] at up
    obtain ⟨h3, s3, ⟨h2, w2, w3⟩, hk3, l3, f3, fw⟩ := fin (v / 65536 % 65536) (v % 65536) (v / 4294967296 % 256) (v / 1099511627776)
    have rw3 : rdN h3 h1.length 0 4 = some [(Value.int .i64 (v / 65536 % 65536)), (Value.int .i64 (v % 65536)), (Value.int .i64 (v / 4294967296 % 256)), (Value.int .i64 (v / 1099511627776))] := by rw [rdN_own fw (by simp)]; rfl
    cases ht : (v / 4294967296 % 256 == 0)
    · obtain ⟨A3, s3'⟩ := same h3 f3 l3
      have r3 : rd h3 k 9 = some ((Value.bool false)) := by rw [rd_own hk3]; rfl
      refine ⟨h3.take h.length, _, ?_, A3, by rw [List.getElem?_take, if_pos (by omega)]; exact hk3, by rw [List.length_take]; omega, s3'⟩
      rw [C, call_eq, F45_eq]
      unfold F45 J45_0
      simp only [go_sem, Nat.reduceAdd, Nat.reduceLeDiff, Nat.reduceMul, Int.reduceBEq, Int.reduceBNe, Int.reduceLT, Int.reduceLE, Int.reduceGT, r9, r8, rx, e1, up, s3, w2, w3, rw3, W.plain_s, ht, r3]
    · obtain ⟨h4, w4, hk4, l4, f4⟩ := put_e (md := ⟨md.ro, h.length⟩) hk3 hkr 10 [(Value.int .i64 (v % 65536))] (lkC V S T x (v / 65536 % 65536) (v % 65536) (v / 4294967296 % 256) (v / 1099511627776) true false (v % 65536)) rfl (by simp) rfl
      obtain ⟨h5, w5, hk5, l5, f5⟩ := put_e (md := ⟨md.ro, h.length⟩) hk4 hkr 9 [(Value.bool true)] (lkC V S T x (v / 65536 % 65536) (v % 65536) (v / 4294967296 % 256) (v / 1099511627776) true true (v % 65536)) rfl (by simp) rfl
      have r5 : rd h5 k 9 = some ((Value.bool true)) := by rw [rd_own hk5]; rfl
      have r3 : rd h3 h1.length 1 = some ((Value.int .i64 (v % 65536))) := by rw [rd_own fw]; rfl
      obtain ⟨A5, s5⟩ := same h5 (fun y h1 h2 => by rw [f5 y h2, f4 y h2, f3 y h1 h2]) (by omega)
      refine ⟨h5.take h.length, _, ?_, A5, by rw [List.getElem?_take, if_pos (by omega)]; exact hk5, by rw [List.length_take]; omega, s5⟩
      rw [C, call_eq, F45_eq]
      unfold F45 J45_0
      simp only [go_sem, Nat.reduceAdd, Nat.reduceLeDiff, Nat.reduceMul, Int.reduceBEq, Int.reduceBNe, Int.reduceLT, Int.reduceLE, Int.reduceGT, r9, r8, rx, e1, up, s3, w2, w3, w4, w5, rw3, W.plain_s, ht, r5, r3]
end Go.Det.E
