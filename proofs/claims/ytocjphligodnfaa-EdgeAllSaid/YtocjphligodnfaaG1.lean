/- What the functions of the edges do. -/
import Derived.Test.YtocjphligodnfaaM1
import Derived.Test.YtocjphligodnfaaL7
set_option autoImplicit false
set_option linter.unusedVariables false
set_option linter.unusedSimpArgs false
namespace Go.Det.E
open Go.Proofs Go.Det
attribute [local congr] bind_c cond_c
/-- Bits of small numbers. -/
theorem bit_and : ∀ s < 48, ∀ t < 2, bAnd .u64 ((2 * (s + 1) + t : Nat) : Int) 1 = ((t : Nat) : Int) := by decide +kernel
theorem bit_or : ∀ s < 48, ∀ t < 2, bOr .u64 ((2 * (s + 1) : Nat) : Int) ((t : Nat) : Int) = ((2 * (s + 1) + t : Nat) : Int) := by decide +kernel
theorem ends_or : ∀ u < 16, ∀ v < 16, bOr .i64 ((256 * u : Nat) : Int) ((v : Nat) : Int) = ((256 * u + v : Nat) : Int) := by decide +kernel
theorem ends_and : ∀ u < 16, ∀ v < 16, bAnd .i64 ((256 * u + v : Nat) : Int) 255 = ((v : Nat) : Int) := by decide +kernel
abbrev E4 (V S T : Int) (a : Nat) : Value := (Value.agg #[(Value.int .i64 V), (Value.int .i64 S), (Value.int .i64 T), ifA a])
def tN (t : Bool) : Int := if t then 1 else 0
/-- What the cell of two vertices has. -/
def encO : Option (Int × Bool) → Int
  | none => 0
  | some (s, t) => 2 * (s + 1) + tN t
def okO : Option (Int × Bool) → Prop
  | none => True
  | some (s, _) => 0 ≤ s ∧ s < 48
def resO : Option (Int × Bool) → Value
  | none => (Value.tuple #[(Value.int .i64 0), (Value.bool false), (Value.bool false)])
  | some (s, t) => (Value.tuple #[(Value.int .i64 s), (Value.bool t), (Value.bool true)])
def treeO : Option (Int × Bool) → Bool
  | none => false
  | some (_, t) => t
theorem bit_s (md : Md) (h : Heap) (t : Bool) : C md 64 [(Value.bool t)] h = some ((Value.int .u64 (tN t)), h) := by
  cases t <;> exact free_ok 100 10 (by kernel_rfl) (by kernel_rfl) md _
variable {md : Md} {h : Heap} {a b : Nat} {l c : List Int} {V S T : Int}
theorem find_e (hR : Rt V S T) (A : Ar h a b l c) (hro : md.ro ≤ a) (u v : Int) {o : Option (Int × Bool)} (ho : okO o) (hx : getI l (Ex V S T u v) = encO o) :
    ∃ h' c', C md 47 [E4 V S T a, (Value.int .i64 u), (Value.int .i64 v)] h = some (resO o, h') ∧ Ar h' a b l c' ∧ Only a b h h' := by
  have la := lt_of A.ha
  have lb := lt_of A.hb
  obtain ⟨h1, c1, e1, A1, o1⟩ := pload_e (md := ⟨md.ro, h.length⟩) (A.app [.own [(Value.int .i64 V), (Value.int .i64 S), (Value.int .i64 T), ifA a]]) hro (Ex V S T u v)
  refine ⟨h1.take h.length, c1, ?_, A1.take la lb, o1.take⟩
  rw [C, call_eq, F47_eq]
  unfold F47
  rw [hx] at e1
  cases o with
  | none =>
    simp only [encO] at e1
    simp only [go_sem, Nat.reduceAdd, Nat.reduceLeDiff, Nat.reduceMul, Int.reduceBEq, Int.reduceBNe, Int.reduceLT, Int.reduceLE, Int.reduceGT, edge_s _ _ hR, clI_load, e1, resO]
  | some p =>
    obtain ⟨s, t⟩ := p
    simp only [okO] at ho
    obtain ⟨sn, rfl⟩ : ∃ n : Nat, s = n := ⟨s.toNat, by omega⟩
    obtain ⟨tn, ht, ht2⟩ : ∃ n : Nat, tN t = n ∧ n < 2 := by cases t; exact ⟨0, rfl, by omega⟩; exact ⟨1, rfl, by omega⟩
    have e : encO (some ((sn : Int), t)) = ((2 * (sn + 1) + tn : Nat) : Int) := by simp only [encO, ht]; omega
    rw [e] at e1
    have h0 : (((2 * (sn + 1) + tn : Nat) : Int) == 0) = false := by simp; omega
    have f : Int.fdiv ((2 * (sn + 1) + tn : Nat) : Int) (2 ^ 1) = ((sn + 1 : Nat) : Int) := by rw [Int.fdiv_eq_ediv_of_nonneg _ (by decide)]; omega
    have w1 : IntKind.wrap .i64 ((sn + 1 : Nat) : Int) = ((sn + 1 : Nat) : Int) := wi (by omega) (by omega)
    have w2 : IntKind.wrap .i64 (((sn + 1 : Nat) : Int) - 1) = (sn : Int) := by rw [wi (by omega) (by omega)]; omega
    have bt := bit_and sn (by omega) tn ht2
    have bb : ((tn : Int) == 1) = t := by cases t <;> simp [tN] at ht <;> simp [← ht]
    simp only [go_sem, Nat.reduceAdd, Nat.reduceLeDiff, Nat.reduceMul, Int.reduceBEq, Int.reduceBNe, Int.reduceLT, Int.reduceLE, Int.reduceGT, edge_s _ _ hR, clI_load, e1, h0, f, w1, w2, bt, bb, resO]
theorem ends_e (hR : Rt V S T) (A : Ar h a b l c) (hro : md.ro ≤ a) (s : Int) {u v : Nat} (hu : u < 16) (hv : v < 16) (hx : getI l (Ox S T s 1) = ((256 * u + v : Nat) : Int)) :
    ∃ h' c', C md 63 [E4 V S T a, (Value.int .i64 s)] h = some ((Value.tuple #[(Value.int .i64 ((u : Int))), (Value.int .i64 ((v : Int)))]), h') ∧ Ar h' a b l c' ∧ Only a b h h' := by
  have la := lt_of A.ha
  have lb := lt_of A.hb
  obtain ⟨h1, c1, e1, A1, o1⟩ := pload_e (md := ⟨md.ro, h.length⟩) (A.app [.own [(Value.int .i64 V), (Value.int .i64 S), (Value.int .i64 T), ifA a]]) hro (Ox S T s 1)
  refine ⟨h1.take h.length, c1, ?_, A1.take la lb, o1.take⟩
  rw [C, call_eq, F63_eq]
  unfold F63
  rw [hx] at e1
  have w1 : IntKind.wrap .i64 ((256 * u + v : Nat) : Int) = ((256 * u + v : Nat) : Int) := wi (by omega) (by omega)
  have f : Int.fdiv ((256 * u + v : Nat) : Int) (2 ^ 8) = (u : Int) := by rw [Int.fdiv_eq_ediv_of_nonneg _ (by decide)]; omega
  have bt := ends_and u hu v hv
  simp only [go_sem, Nat.reduceAdd, Nat.reduceLeDiff, Nat.reduceMul, Int.reduceBEq, Int.reduceBNe, Int.reduceLT, Int.reduceLE, Int.reduceGT, ends_s _ _ hR, clI_load, e1, w1, f, bt]
theorem remove_e (hR : Rt V S T) (A : Ar h a b l c) (hro : md.ro ≤ a) (hrb : md.ro ≤ b) (u v : Int) :
    ∃ h' c', C md 59 [E4 V S T a, (Value.int .i64 u), (Value.int .i64 v)] h = some ((Value.tuple #[]), h') ∧ Ar h' a b (putI l (Ex V S T u v) 0) c' ∧ Only a b h h' := by
  have la := lt_of A.ha
  have lb := lt_of A.hb
  obtain ⟨h1, c1, e1, A1, o1⟩ := pstore_e (md := ⟨md.ro, h.length⟩) (A.app [.own [(Value.int .i64 V), (Value.int .i64 S), (Value.int .i64 T), ifA a]]) hro hrb (Ex V S T u v) 0
  refine ⟨h1.take h.length, c1, ?_, A1.take la lb, o1.take⟩
  rw [C, call_eq, F59_eq]
  unfold F59
  simp only [go_sem, Nat.reduceAdd, Nat.reduceLeDiff, Nat.reduceMul, Int.reduceBEq, Int.reduceBNe, Int.reduceLT, Int.reduceLE, Int.reduceGT, edge_s _ _ hR, clI_store, e1]
theorem lift_e (hR : Rt V S T) (A : Ar h a b l c) (hro : md.ro ≤ a) (hrb : md.ro ≤ b) (s : Int) {lv : Int} (h0 : 0 ≤ lv) (h1 : lv < 1000) :
    ∃ h' c', C md 50 [E4 V S T a, (Value.int .i64 s), (Value.int .i64 lv)] h = some ((Value.tuple #[]), h') ∧ Ar h' a b (putI l (Ox S T s 2) lv) c' ∧ Only a b h h' := by
  have la := lt_of A.ha
  have lb := lt_of A.hb
  obtain ⟨h1, c1, e1, A1, o1⟩ := pstore_e (md := ⟨md.ro, h.length⟩) (A.app [.own [(Value.int .i64 V), (Value.int .i64 S), (Value.int .i64 T), ifA a]]) hro hrb (Ox S T s 2) lv
  refine ⟨h1.take h.length, c1, ?_, A1.take la lb, o1.take⟩
  rw [C, call_eq, F50_eq]
  unfold F50
  have w1 : IntKind.wrap .u64 lv = lv := wu (by omega) (by omega)
  simp only [go_sem, Nat.reduceAdd, Nat.reduceLeDiff, Nat.reduceMul, Int.reduceBEq, Int.reduceBNe, Int.reduceLT, Int.reduceLE, Int.reduceGT, level_s _ _ hR, clI_store, w1, e1]
theorem enc_w {s : Nat} (hs : s < 48) (t : Bool) : bOr .u64 (IntKind.wrap .u64 (IntKind.wrap .u64 (IntKind.wrap .i64 ((s : Int) + 1)) * 2 ^ 1)) (tN t) = encO (some ((s : Int), t)) := by
  obtain ⟨tn, ht, ht2⟩ : ∃ n : Nat, tN t = n ∧ n < 2 := by cases t; exact ⟨0, rfl, by omega⟩; exact ⟨1, rfl, by omega⟩
  have w1 : IntKind.wrap .i64 ((s : Int) + 1) = (s : Int) + 1 := wi (by omega) (by omega)
  have w2 : IntKind.wrap .u64 ((s : Int) + 1) = (s : Int) + 1 := wu (by omega) (by omega)
  have w3 : IntKind.wrap .u64 (((s : Int) + 1) * 2 ^ 1) = ((2 * (s + 1) : Nat) : Int) := by rw [wu (by omega) (by omega)]; omega
  rw [w1, w2, w3, ht, bit_or s hs tn ht2]
  simp only [encO, ht]; omega
theorem turn_e (hR : Rt V S T) (A : Ar h a b l c) (hro : md.ro ≤ a) (hrb : md.ro ≤ b) {s : Nat} (hs : s < 48) {u v : Nat} (hu : u < 16) (hv : v < 16) (hx : getI l (Ox S T s 1) = ((256 * u + v : Nat) : Int)) (t : Bool) :
    ∃ h' c', C md 49 [E4 V S T a, (Value.int .i64 ((s : Int))), (Value.bool t)] h = some ((Value.tuple #[]), h') ∧ Ar h' a b (putI l (Ex V S T u v) (encO (some ((s : Int), t)))) c' ∧ Only a b h h' := by
  have la := lt_of A.ha
  have lb := lt_of A.hb
  obtain ⟨h1, c1, e1, A1, o1⟩ := ends_e (md := ⟨md.ro, h.length⟩) hR (A.app [.own [(Value.int .i64 V), (Value.int .i64 S), (Value.int .i64 T), ifA a]]) hro (s : Int) hu hv hx
  obtain ⟨h2, c2, e2, A2, o2⟩ := pstore_e (md := ⟨md.ro, h.length⟩) A1 hro hrb (Ex V S T u v) (encO (some ((s : Int), t)))
  have bx : h1[h.length]? = some (.own [(Value.int .i64 V), (Value.int .i64 S), (Value.int .i64 T), ifA a]) := o1.new la lb 0
  have r3 : rd h1 h.length 3 = some (ifA a) := by rw [rd_at bx]; rfl
  have r0 : rdN h1 h.length 0 3 = some [(Value.int .i64 V), (Value.int .i64 S), (Value.int .i64 T)] := by rw [rdN_at bx (by simp [Blk.cells])]; rfl
  refine ⟨h2.take h.length, c2, ?_, A2.take la lb, (o1.trans o2).take⟩
  rw [C, call_eq, F49_eq]
  unfold F49
  simp only [go_sem, Nat.reduceAdd, Nat.reduceLeDiff, Nat.reduceMul, Int.reduceBEq, Int.reduceBNe, Int.reduceLT, Int.reduceLE, Int.reduceGT, e1, r3, r0, edge_s _ _ hR, bit_s, enc_w hs t, clI_store, e2]
theorem put_e (hR : Rt V S T) (A : Ar h a b l c) (hro : md.ro ≤ a) (hrb : md.ro ≤ b) {s : Nat} (hs : s < 48) {u v : Int} (hu : 0 ≤ u ∧ u < 16) (hv : 0 ≤ v ∧ v < 16) {lv : Int} (h0 : 0 ≤ lv) (h1 : lv < 1000) (t : Bool) :
    ∃ h' c', C md 58 [E4 V S T a, (Value.int .i64 ((s : Int))), (Value.int .i64 u), (Value.int .i64 v), (Value.int .i64 lv), (Value.bool t)] h = some ((Value.tuple #[]), h') ∧ Ar h' a b (putI (putI (putI l (Ox S T s 1) (256 * mn u v + mx u v)) (Ox S T s 2) lv) (Ex V S T u v) (encO (some ((s : Int), t)))) c' ∧ Only a b h h' := by
  have la := lt_of A.ha
  have lb := lt_of A.hb
  obtain ⟨h1, c1, e1, A1, o1⟩ := pstore_e (md := ⟨md.ro, h.length⟩) (A.app [.own [(Value.int .i64 V), (Value.int .i64 S), (Value.int .i64 T), ifA a]]) hro hrb (Ox S T s 1) (256 * mn u v + mx u v)
  obtain ⟨h2, c2, e2, A2, o2⟩ := pstore_e (md := ⟨md.ro, h.length⟩) A1 hro hrb (Ox S T s 2) lv
  obtain ⟨h3, c3, e3, A3, o3⟩ := pstore_e (md := ⟨md.ro, h.length⟩) A2 hro hrb (Ex V S T u v) (encO (some ((s : Int), t)))
  have bx1 : h1[h.length]? = some (.own [(Value.int .i64 V), (Value.int .i64 S), (Value.int .i64 T), ifA a]) := o1.new la lb 0
  have bx2 : h2[h.length]? = some (.own [(Value.int .i64 V), (Value.int .i64 S), (Value.int .i64 T), ifA a]) := (o1.trans o2).new la lb 0
  have r1 : rd h1 h.length 3 = some (ifA a) := by rw [rd_at bx1]; rfl
  have r2 : rdN h1 h.length 0 3 = some [(Value.int .i64 V), (Value.int .i64 S), (Value.int .i64 T)] := by rw [rdN_at bx1 (by simp [Blk.cells])]; rfl
  have r3 : rd h2 h.length 3 = some (ifA a) := by rw [rd_at bx2]; rfl
  have r4 : rdN h2 h.length 0 3 = some [(Value.int .i64 V), (Value.int .i64 S), (Value.int .i64 T)] := by rw [rdN_at bx2 (by simp [Blk.cells])]; rfl
  refine ⟨h3.take h.length, c3, ?_, A3.take la lb, ((o1.trans o2).trans o3).take⟩
  rw [C, call_eq, F58_eq]
  unfold F58
  have em : (if v < u then v else u) = mn u v := rfl
  have ex : (if v > u then v else u) = mx u v := rfl
  have hm : 0 ≤ mn u v ∧ mn u v < 16 ∧ 0 ≤ mx u v ∧ mx u v < 16 := by unfold mn mx; split <;> split <;> omega
  obtain ⟨x, hx⟩ : ∃ n : Nat, mn u v = n := ⟨(mn u v).toNat, by omega⟩
  obtain ⟨y, hy⟩ : ∃ n : Nat, mx u v = n := ⟨(mx u v).toNat, by omega⟩
  have we : IntKind.wrap .u64 (bOr .i64 (IntKind.wrap .i64 (mn u v * 2 ^ 8)) (mx u v)) = 256 * mn u v + mx u v := by
    have w1 : IntKind.wrap .i64 (mn u v * 2 ^ 8) = ((256 * x : Nat) : Int) := by rw [wi (by omega) (by omega)]; omega
    rw [w1, hy, ends_or x (by omega) y (by omega), wu (by omega) (by omega)]; omega
  have wl : IntKind.wrap .u64 lv = lv := wu (by omega) (by omega)
  simp only [go_sem, Nat.reduceAdd, Nat.reduceLeDiff, Nat.reduceMul, Int.reduceBEq, Int.reduceBNe, Int.reduceLT, Int.reduceLE, Int.reduceGT, em, ex, we, wl, ends_s _ _ hR, level_s _ _ hR, edge_s _ _ hR, bit_s, enc_w hs t, clI_store, e1, r1, r2, e2, r3, r4, e3]
theorem get_e (hR : Rt V S T) (A : Ar h a b l c) (hro : md.ro ≤ a) (s : Int) {u v : Nat} (hu : u < 16) (hv : v < 16) (hx : getI l (Ox S T s 1) = ((256 * u + v : Nat) : Int))
    {lv : Int} (h0 : 0 ≤ lv) (h1 : lv < 1000) (hl : getI l (Ox S T s 2) = lv) {o : Option (Int × Bool)} (ho : okO o) (hf : getI l (Ex V S T u v) = encO o) :
    ∃ h' c', C md 48 [E4 V S T a, (Value.int .i64 s)] h = some ((Value.agg #[(Value.int .i64 ((u : Int))), (Value.int .i64 ((v : Int))), (Value.int .i64 lv), (Value.bool (treeO o))]), h') ∧ Ar h' a b l c' ∧ Only a b h h' := by
  have la := lt_of A.ha
  have lb := lt_of A.hb
  have A0 := A.app [.own [(Value.int .i64 V), (Value.int .i64 S), (Value.int .i64 T), ifA a], .own [(Value.int .i64 0), (Value.int .i64 0), (Value.int .i64 0), (Value.bool false)]]
  obtain ⟨h1, c1, e1, A1, o1⟩ := ends_e (md := ⟨md.ro, h.length⟩) hR A0 hro s hu hv hx
  obtain ⟨h2, c2, e2, A2, o2⟩ := find_e (md := ⟨md.ro, h.length⟩) hR A1 hro (u : Int) (v : Int) ho hf
  obtain ⟨h3, c3, e3, A3, o3⟩ := pload_e (md := ⟨md.ro, h.length⟩) A2 hro (Ox S T s 2)
  rw [hl] at e3
  have bx1 : h1[h.length]? = some (.own [(Value.int .i64 V), (Value.int .i64 S), (Value.int .i64 T), ifA a]) := o1.new la lb 0
  have bx2 : h2[h.length]? = some (.own [(Value.int .i64 V), (Value.int .i64 S), (Value.int .i64 T), ifA a]) := (o1.trans o2).new la lb 0
  have bx3 : h3[h.length + 1]? = some (.own [(Value.int .i64 0), (Value.int .i64 0), (Value.int .i64 0), (Value.bool false)]) := ((o1.trans o2).trans o3).new la lb 1
  have r1 : rdN h1 h.length 0 4 = some [(Value.int .i64 V), (Value.int .i64 S), (Value.int .i64 T), ifA a] := by rw [rdN_at bx1 (by simp [Blk.cells])]; rfl
  have r2 : rd h2 h.length 3 = some (ifA a) := by rw [rd_at bx2]; rfl
  have r3 : rdN h2 h.length 0 3 = some [(Value.int .i64 V), (Value.int .i64 S), (Value.int .i64 T)] := by rw [rdN_at bx2 (by simp [Blk.cells])]; rfl
  have wl : IntKind.wrap .i64 lv = lv := wi (by omega) (by omega)
  have hlen : h3.length = h.length + 2 := by have := o1.len; have := o2.len; have := o3.len; simp at *; omega
  have w : wrN ⟨md.ro, h.length⟩ h3 (h.length + 1) 0 [(Value.int .i64 ((u : Int))), (Value.int .i64 ((v : Int))), (Value.int .i64 lv), (Value.bool (treeO o))] = some (h3.set (h.length + 1) (.own [(Value.int .i64 ((u : Int))), (Value.int .i64 ((v : Int))), (Value.int .i64 lv), (Value.bool (treeO o))])) := by
    unfold wrN
    rw [bx3]
    simp only []
    rw [if_pos (by simp), if_pos ⟨by have := hro; show md.ro ≤ h.length + 1; omega, .inl (by show h.length ≤ h.length + 1; omega)⟩]
    rfl
  have st4 := fun (hh : Heap) (k : Heap → Option (Value × Heap)) => st_N ⟨md.ro, h.length⟩ 4 (h.length + 1) 0 [(Value.int .i64 ((u : Int))), (Value.int .i64 ((v : Int))), (Value.int .i64 lv), (Value.bool (treeO o))] hh k rfl rfl
  have r4 : rdN (h3.set (h.length + 1) (.own [(Value.int .i64 ((u : Int))), (Value.int .i64 ((v : Int))), (Value.int .i64 lv), (Value.bool (treeO o))])) (h.length + 1) 0 4 = some [(Value.int .i64 ((u : Int))), (Value.int .i64 ((v : Int))), (Value.int .i64 lv), (Value.bool (treeO o))] := by
    rw [rdN_at (set_here bx3) (by simp [Blk.cells])]; rfl
  have tk : (h3.set (h.length + 1) (.own [(Value.int .i64 ((u : Int))), (Value.int .i64 ((v : Int))), (Value.int .i64 lv), (Value.bool (treeO o))])).take h.length = h3.take h.length := by
    rw [List.take_set_of_le (by omega)]
  refine ⟨h3.take h.length, c3, ?_, A3.take la lb, ((o1.trans o2).trans o3).take⟩
  rw [C, call_eq, F48_eq]
  unfold F48
  have er : ∃ q z, resO o = (Value.tuple #[(Value.int .i64 q), (Value.bool (treeO o)), (Value.bool z)]) := by
    cases o with
    | none => exact ⟨_, _, rfl⟩
    | some p => exact ⟨_, _, rfl⟩
  obtain ⟨q, z, er⟩ := er
  rw [er] at e2
  simp only [go_sem, Nat.reduceAdd, Nat.reduceLeDiff, Nat.reduceMul, Int.reduceBEq, Int.reduceBNe, Int.reduceLT, Int.reduceLE, Int.reduceGT, e1, r1, e2, r2, r3, level_s _ _ hR, clI_load, e3, wl, st4, w, r4, tk]
end Go.Det.E
