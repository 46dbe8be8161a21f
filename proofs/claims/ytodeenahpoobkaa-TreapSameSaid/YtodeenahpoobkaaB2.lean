/- Nodes that are alone: what is stored. -/
import Derived.Test.YtodeenahpoobkaaE5
import Derived.Test.YtodeenahpoobkaaB1
set_option autoImplicit false
set_option linter.unusedVariables false
set_option linter.unusedSimpArgs false
namespace Go.Det.E
open Go.Proofs Go.Det
attribute [local congr] bind_c cond_c
variable {md : Md} {h hh : Heap} {a b n : Nat} {l c : List Int} {V S T x : Int}
def arcB (V x : Int) : Bool := !decide (x - 1 < Lv V * V)
def lvlB (V x : Int) : Int := if x - 1 < Lv V * V then (x - 1) / V else (x - 1 - Lv V * V) % (2 * Lv V) / 2
theorem thing_in (hx : Bl (x - 1) (Nn V S) = true) : ∃ vx sl sd, thing V S x = (Value.tuple #[(Value.agg (List.toArray (thC (arcB V x) (lvlB V x) vx sl sd))), (Value.bool true)]) := by
  unfold thing arcB lvlB
  rw [hx]
  simp only [cond_true, thAt]
  by_cases h : x - 1 < Lv V * V
  · exact ⟨_, _, _, by rw [if_pos h, if_pos h]; simp [h]; exact ⟨rfl, rfl, rfl⟩⟩
  · exact ⟨_, _, _, by rw [if_neg h, if_neg h]; simp [h]; exact ⟨rfl, rfl, rfl⟩⟩
theorem node_in (hR : Rt V S T) (hx : Bl (x - 1) (Nn V S) = true) : ∃ vx sl sd, ∀ (md : Md) (h : Heap), C md 42 [(Value.agg #[(Value.int .i64 V), (Value.int .i64 S), (Value.int .i64 T)]), (Value.int .i64 x)] h = some ((Value.tuple #[(Value.agg (List.toArray (thC (arcB V x) (lvlB V x) vx sl sd))), (Value.bool true)]), h) := by
  obtain ⟨vx, sl, sd, e⟩ := thing_in (V := V) (S := S) hx
  have h1 := Bl_t.1 hx
  have h2 := Cn_le hR
  exact ⟨vx, sl, sd, fun md h => by rw [node_s md h hR ⟨by omega, by omega⟩, e]⟩
theorem tput_e (hR : Rt V S T) (A : Ar h a b l c) (hro : md.ro ≤ a) (hrb : md.ro ≤ b) (hr : md.ro ≤ h.length) (hx : Bl (x - 1) (Nn V S) = true) (th tag f v : Int) :
    ∃ h' c', C md 82 [(Value.agg #[(Value.int .i64 V), (Value.int .i64 S), (Value.int .i64 T), ifA a, (Value.int .i64 th), (Value.int .i64 tag)]), (Value.int .i64 x), (Value.int .i64 f), (Value.int .i64 v)] h = some ((Value.tuple #[]), h') ∧ Ar h' a b (putI l (Fx V S T x f) (IntKind.wrap .u64 v)) c' ∧ Only a b h h' := by
  have la := lt_of A.ha
  have lb := lt_of A.hb
  have h1 := Bl_t.1 hx
  have h2 := Cn_le hR
  have fs := fun (m : Md) (h : Heap) => field_s m h (b := f) hR (a := x) ⟨by omega, by omega⟩
  obtain ⟨h3, e3, A3, o3⟩ := ps_x (md := ⟨md.ro, h.length⟩) (A.app [Blk.own [(Value.int .i64 V), (Value.int .i64 S), (Value.int .i64 T), ifA a, (Value.int .i64 th), (Value.int .i64 tag)]]) hro hrb (Fx V S T x f) (IntKind.wrap .u64 v)
  refine ⟨h3.take h.length, _, ?_, A3.take la lb, o3.take⟩
  rw [C, call_eq, F82_eq]
  unfold F82
  simp only [go_sem, Nat.reduceAdd, Nat.reduceLeDiff, Nat.reduceMul, Int.reduceBEq, Int.reduceBNe, Int.reduceLT, Int.reduceLE, Int.reduceGT, fs, okN_i, clI_store, e3]
theorem shown_e (hR : Rt V S T) (hx : Bl (x - 1) (Nn V S) = true) (mv : Value) (th tag : Int) (hr : md.ro ≤ h.length) : C md 85 [(Value.agg #[(Value.int .i64 V), (Value.int .i64 S), (Value.int .i64 T), mv, (Value.int .i64 th), (Value.int .i64 tag)]), (Value.int .i64 x)] h = some ((Value.bool (lvlB V x == 0)), h) := by
  obtain ⟨vx, sl, sd, e⟩ := node_in hR hx
  have s := fun (α : Type) (m : Md) (b : Nat) (h : Heap) (k : Heap → Option α) => st_N m 5 b 0 (thC (arcB V x) (lvlB V x) vx sl sd) h k rfl rfl
  unfold thC at s e
  have r2 : md.ro ≤ h.length + 1 := by omega
  rw [C, call_eq, F85_eq]
  unfold F85
  simp only [go_sem, Nat.reduceAdd, Nat.reduceLeDiff, Nat.reduceMul, Int.reduceBEq, Int.reduceBNe, Int.reduceLT, Int.reduceLE, Int.reduceGT, e, s, hr, r2]
/-- What hangs a node under none. -/
def hgL (l : List Int) (q : Int) (sh : Bool) : List Int := bif sh then chL l q (olW 1 0 (getI l q)) 0 1 0 else putI l q 0
theorem hang_e (hR : Rt V S T) (A : Ar h a b l c) (w : Wd l) (hro : md.ro ≤ a) (hrb : md.ro ≤ b) (hr : md.ro ≤ h.length) (hx : Bl (x - 1) (Nn V S) = true) :
    ∃ h' c', C md 69 [(Value.agg #[(Value.int .i64 V), (Value.int .i64 S), (Value.int .i64 T), ifA a, (Value.int .i64 1), (Value.int .i64 0)]), (Value.int .i64 x), (Value.int .i64 0)] h = some ((Value.tuple #[]), h') ∧ Ar h' a b (hgL l (Fx V S T x 2) (lvlB V x == 0)) c' ∧ Only a b h h' := by
  have la := lt_of A.ha
  have lb := lt_of A.hb
  have h1 := Bl_t.1 hx
  have h2 := Cn_le hR
  have x0 : (x == 0) = false := by simp; omega
  have fs := fun (m : Md) (h : Heap) => field_s m h (b := 2) hR (a := x) ⟨by omega, by omega⟩
  have lh : md.ro ≤ (h ++ [Blk.own [(Value.int .i64 V), (Value.int .i64 S), (Value.int .i64 T), ifA a, (Value.int .i64 1), (Value.int .i64 0)]]).length := by simp; omega
  have sh := shown_e (md := ⟨md.ro, h.length⟩) (h := h ++ [Blk.own [(Value.int .i64 V), (Value.int .i64 S), (Value.int .i64 T), ifA a, (Value.int .i64 1), (Value.int .i64 0)]]) hR hx (ifA a) 1 0 lh
  unfold hgL
  cases hs : (lvlB V x == 0)
  · rw [hs] at sh
    obtain ⟨h3, c3, e3, A3, o3⟩ := tput_e (md := ⟨md.ro, h.length⟩) hR (A.app [Blk.own [(Value.int .i64 V), (Value.int .i64 S), (Value.int .i64 T), ifA a, (Value.int .i64 1), (Value.int .i64 0)]]) hro hrb lh hx 1 0 2 0
    refine ⟨h3.take h.length, c3, ?_, A3.take la lb, o3.take⟩
    rw [C, call_eq, F69_eq]
    unfold F69
    simp only [go_sem, Nat.reduceAdd, Nat.reduceLeDiff, Nat.reduceMul, Int.reduceBEq, Int.reduceBNe, Int.reduceLT, Int.reduceLE, Int.reduceGT, x0, sh, e3]
  · rw [hs] at sh
    obtain ⟨h3, e3, A3, o3⟩ := write_e (md := ⟨md.ro, h.length⟩) (A.app [Blk.own [(Value.int .i64 V), (Value.int .i64 S), (Value.int .i64 T), ifA a, (Value.int .i64 1), (Value.int .i64 0)]]) hro hrb lh w (x := Fx V S T x 2) (y := 0) (th := 1) (tag := 0) rfl
    refine ⟨h3.take h.length, _, ?_, A3.take la lb, o3.take⟩
    rw [C, call_eq, F69_eq]
    unfold F69
    simp only [go_sem, Nat.reduceAdd, Nat.reduceLeDiff, Nat.reduceMul, Int.reduceBEq, Int.reduceBNe, Int.reduceLT, Int.reduceLE, Int.reduceGT, x0, sh, fs, e3]
theorem lone_e (hR : Rt V S T) (hx : Bl (x - 1) (Nn V S) = true) (mv : Value) (th tag : Int) (hr : md.ro ≤ h.length) : C md 83 [(Value.agg #[(Value.int .i64 V), (Value.int .i64 S), (Value.int .i64 T), mv, (Value.int .i64 th), (Value.int .i64 tag)]), (Value.int .i64 x), (Value.int .u64 0)] h = some ((Value.int .u64 (loneV V x)), h) := by
  obtain ⟨vx, sl, sd, e⟩ := node_in hR hx
  have s := fun (α : Type) (m : Md) (b : Nat) (h : Heap) (k : Heap → Option α) => st_N m 5 b 0 (thC (arcB V x) (lvlB V x) vx sl sd) h k rfl rfl
  unfold thC at s e
  have r2 : md.ro ≤ h.length + 1 := by omega
  have b1 : bOr .u64 (bOr .u64 (bOr .u64 1 (IntKind.wrap .u64 (0 * 2 ^ 32))) (IntKind.wrap .u64 (0 * 2 ^ 34))) 65536 = 65537 := by decide +kernel
  have b2 : bOr .u64 (bOr .u64 1 (IntKind.wrap .u64 (0 * 2 ^ 32))) (IntKind.wrap .u64 (0 * 2 ^ 34)) = 1 := by decide +kernel
  rw [C, call_eq, F83_eq]
  unfold F83 loneV
  cases ha : arcB V x
  · have : x - 1 < Lv V * V := by simpa [arcB] using ha
    rw [if_pos this]
    rw [ha] at e s
    simp only [go_sem, Nat.reduceAdd, Nat.reduceLeDiff, Nat.reduceMul, Int.reduceBEq, Int.reduceBNe, Int.reduceLT, Int.reduceLE, Int.reduceGT, e, s, hr, r2, b1]
  · have : ¬ x - 1 < Lv V * V := by simpa [arcB] using ha
    rw [if_neg this]
    rw [ha] at e s
    simp only [go_sem, Nat.reduceAdd, Nat.reduceLeDiff, Nat.reduceMul, Int.reduceBEq, Int.reduceBNe, Int.reduceLT, Int.reduceLE, Int.reduceGT, e, s, hr, r2, b2]
end Go.Det.E
