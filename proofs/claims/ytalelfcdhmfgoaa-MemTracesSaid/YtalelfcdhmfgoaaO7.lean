/- slices.Sort of whole numbers. -/
import Derived.Test.YtalelfcdhmfgoaaO6
set_option autoImplicit false
set_option linter.unusedVariables false
set_option linter.unusedSimpArgs false
namespace Go.Det.O
open Go.Det.E
open Go.Proofs Go.Det Go.Sort
attribute [local congr] bind_c cond_c
variable {md : Md} {h hh k h' h'' h0 : Heap} {v : Value} {d d' : Array Int} {i j a b c n pv p limit N : Nat} {x y aa bb : Int} {wb wp : Bool}
/-- A part of a row is sorted by the loop. -/
def PdqI (v : Value) (N : Nat) : Prop := ∀ (a b limit : Nat) (wb wp : Bool) (d : Array Int) (h h0 : Heap) (md : Md), b - a < N → a ≤ b → b ≤ d.size → d.size ≤ 100 → limit ≤ 100 → md.ro ≤ slB v → md.ro ≤ h.length → AR h v d → h.length = h0.length → Below ltInt a b d →
  ∃ h' d', J25_0 C md h0 v ((Value.int .i64 ((a : Int)))) ((Value.int .i64 ((b : Int)))) ((Value.int .i64 ((limit : Int)))) ((Value.bool wb)) ((Value.bool wp)) h = some ((Value.tuple #[]), h') ∧ AR h' v d' ∧ O1 v h h' ∧ PermIn a b d d' ∧ SortedIn ltInt a b d'
theorem PdqI.call (I : PdqI v N) (hab : b - a < N) (h1 : a ≤ b) (h2 : b ≤ d.size) (h3 : d.size ≤ 100) (h4 : limit ≤ 100) (hro : md.ro ≤ slB v) (hrl : md.ro ≤ h.length) (A : AR h v d) (B : Below ltInt a b d) :
    ∃ h' d', C md 25 [v, (Value.int .i64 ((a : Int))), (Value.int .i64 ((b : Int))), (Value.int .i64 ((limit : Int)))] h = some ((Value.tuple #[]), h') ∧ AR h' v d' ∧ O1 v h h' ∧ PermIn a b d d' ∧ SortedIn ltInt a b d' := by
  obtain ⟨h', d', e, z⟩ := I a b limit true true d h h ⟨md.ro, h.length⟩ hab h1 h2 h3 h4 hro hrl A rfl B
  refine ⟨h', d', ?_, z⟩
  rw [C, call_eq, F25_eq]
  unfold F25
  exact e
theorem swo : SWO ltInt := swo_ltInt
theorem pdq_b2 (I : PdqI v N) (hN : b - a = N) (h12 : 12 < b - a) (hb : b ≤ d.size) (hd : d.size ≤ 100) (hl : limit ≤ 100) (hro : md.ro ≤ slB v) (hrl : md.ro ≤ h.length) (A : AR h v d) (hlen : h.length = h0.length) (B : Below ltInt a b d) (hp1 : a ≤ pv) (hp2 : pv < b) :
    ∃ (a' b' : Nat) (wb' wp' : Bool) (h4 h' : Heap) (d' : Array Int), J25_0b2 C md v ((Value.int .i64 ((a : Int)))) ((Value.int .i64 ((b : Int)))) ((Value.int .i64 ((limit : Int)))) ((Value.bool wb)) ((Value.bool wp)) ((Value.int .i64 (((b - a : Nat) : Int)))) ((Value.int .i64 ((pv : Int)))) h = some (.inl ((v, (Value.int .i64 ((a' : Int))), (Value.int .i64 ((b' : Int))), (Value.int .i64 ((limit : Int))), (Value.bool wb'), (Value.bool wp')), h4)) ∧
      J25_0 C md h0 v ((Value.int .i64 ((a' : Int)))) ((Value.int .i64 ((b' : Int)))) ((Value.int .i64 ((limit : Int)))) ((Value.bool wb')) ((Value.bool wp')) h4 = some ((Value.tuple #[]), h') ∧ AR h' v d' ∧ O1 v h h' ∧ PermIn a b d d' ∧ SortedIn ltInt a b d' := by
  have nt : (!true) = false := rfl
  have nf : (!false) = true := rfl
  -- by the partition
  have part : ∃ (a' b' : Nat) (wb' wp' : Bool) (h4 h' : Heap) (d' : Array Int) (k1 : Heap) (mid : Nat) (ap : Bool), C md 35 [v, (Value.int .i64 ((a : Int))), (Value.int .i64 ((b : Int))), (Value.int .i64 ((pv : Int)))] h = some ((Value.tuple #[(Value.int .i64 ((mid : Int))), (Value.bool ap)]), k1) ∧ a ≤ mid ∧ mid < b ∧
      (((mid - a < b - mid) ∧ (∃ r, C md 25 [v, (Value.int .i64 ((a : Int))), (Value.int .i64 ((mid : Int))), (Value.int .i64 ((limit : Int)))] k1 = some (r, h4)) ∧ a' = mid + 1 ∧ b' = b ∧ wb' = decide (mid - a ≥ (b - a) / 8) ∧ wp' = ap) ∨
       (¬ (mid - a < b - mid) ∧ (∃ r, C md 25 [v, (Value.int .i64 (((mid + 1 : Nat) : Int))), (Value.int .i64 ((b : Int))), (Value.int .i64 ((limit : Int)))] k1 = some (r, h4)) ∧ a' = a ∧ b' = mid ∧ wb' = decide (b - mid ≥ (b - a) / 8) ∧ wp' = ap)) ∧
      J25_0 C md h0 v ((Value.int .i64 ((a' : Int)))) ((Value.int .i64 ((b' : Int)))) ((Value.int .i64 ((limit : Int)))) ((Value.bool wb')) ((Value.bool wp')) h4 = some ((Value.tuple #[]), h') ∧ AR h' v d' ∧ O1 v h h' ∧ PermIn a b d d' ∧ SortedIn ltInt a b d' := by
    obtain ⟨k1, e1, A1, o1⟩ := partition_s (md := md) (a := a) (b := b) (pv := pv) hro A (by omega) hb (by omega) (by omega)
    obtain ⟨q1, q2, q3, q4, q5, q6, q7⟩ := round_part swo (partition_holds (lt := ltInt)) hp1 hp2 hb B (d4 := (partition ltInt d a b pv).2.2) (mid := (partition ltInt d a b pv).1) (ap := (partition ltInt d a b pv).2.1) rfl
    generalize (partition ltInt d a b pv).1 = mid at e1 q1 q2 q4 q5 q6 q7
    generalize (partition ltInt d a b pv).2.1 = ap at e1
    generalize (partition ltInt d a b pv).2.2 = d1 at A1 q3 q4 q5 q6 q7
    by_cases hlt : mid - a < b - mid
    · obtain ⟨k2, d2, e2, A2, o2, P2, S2⟩ := I.call (md := md) (a := a) (b := mid) (limit := limit) (by omega) q1 (by omega) (by omega) hl hro (by rw [o1.len]; exact hrl) A1 q4
      obtain ⟨B2, fin⟩ := q6 d2 P2 S2
      have z2 : d2.size = d1.size := P2.1
      obtain ⟨k3, d3, e3, A3, o3, P3, S3⟩ := I (mid + 1) b limit (decide (mid - a ≥ (b - a) / 8)) ap d2 k2 h0 md (by omega) (by omega) (by omega) (by omega) hl hro (by rw [o2.len, o1.len]; exact hrl) A2 (by rw [o2.len, o1.len]; exact hlen) B2
      exact ⟨mid + 1, b, _, ap, k2, k3, d3, k1, mid, ap, e1, q1, q2, .inl ⟨hlt, ⟨_, e2⟩, rfl, rfl, rfl, rfl⟩, e3, A3, (o1.trans o2).trans o3, fin d3 P3 S3⟩
    · obtain ⟨k2, d2, e2, A2, o2, P2, S2⟩ := I.call (md := md) (a := mid + 1) (b := b) (limit := limit) (by omega) (by omega) (by omega) (by omega) hl hro (by rw [o1.len]; exact hrl) A1 q5
      obtain ⟨B2, fin⟩ := q7 d2 P2 S2
      have z2 : d2.size = d1.size := P2.1
      obtain ⟨k3, d3, e3, A3, o3, P3, S3⟩ := I a mid limit (decide (b - mid ≥ (b - a) / 8)) ap d2 k2 h0 md (by omega) q1 (by omega) (by omega) hl hro (by rw [o2.len, o1.len]; exact hrl) A2 (by rw [o2.len, o1.len]; exact hlen) B2
      exact ⟨a, mid, _, ap, k2, k3, d3, k1, mid, ap, e1, q1, q2, .inr ⟨hlt, ⟨_, e2⟩, rfl, rfl, rfl, rfl⟩, e3, A3, (o1.trans o2).trans o3, fin d3 P3 S3⟩
  have eight0 : (8 : Int) ≠ 0 := by decide
  have t8 : Int.tdiv ((b - a : Nat) : Int) 8 = (((b - a) / 8 : Nat) : Int) := by rw [Int.tdiv_eq_ediv_of_nonneg (by omega)]; omega
  have w8 : IntKind.wrap .i64 (((b - a) / 8 : Nat) : Int) = (((b - a) / 8 : Nat) : Int) := wi (by omega) (by omega)
  by_cases ha0 : a > 0
  · have c0 : ((a : Int) > 0) := by omega
    have wa : IntKind.wrap .i64 ((a : Int) - 1) = ((a - 1 : Nat) : Int) := by rw [wi (by omega) (by omega)]; omega
    obtain ⟨x1, r1⟩ := A.rd (i := a - 1) (by omega)
    obtain ⟨x2, r2⟩ := A.rd (i := pv) (by omega)
    cases hlt : ltInt d[a - 1]! d[pv]!
    · -- equal ones first
      obtain ⟨k1, e1, A1, o1⟩ := parteq_s (md := md) (a := a) (b := b) (pv := pv) hro A (by omega) hb (by omega) (by omega)
      obtain ⟨q1, q2, q3, q4, fin⟩ := round_eq swo (partitionEqual_holds (lt := ltInt)) ha0 hp1 hp2 hb B hlt (d4 := (partitionEqual ltInt d a b pv).2) (mid := (partitionEqual ltInt d a b pv).1) rfl
      generalize (partitionEqual ltInt d a b pv).1 = mid at e1 q1 q2 q4 fin
      generalize (partitionEqual ltInt d a b pv).2 = d1 at A1 q3 q4 fin
      obtain ⟨k3, d3, e3, A3, o3, P3, S3⟩ := I mid b limit wb wp d1 k1 h0 md (by omega) q2 (by omega) (by omega) hl hro (by rw [o1.len]; exact hrl) A1 (by rw [o1.len]; exact hlen) q4
      refine ⟨mid, b, wb, wp, k1, k3, d3, ?_, e3, A3, o1.trans o3, fin d3 P3 S3⟩
      unfold J25_0b2
      simp only [go_sem, Nat.reduceAdd, Nat.reduceLeDiff, Nat.reduceMul, Int.reduceBEq, Int.reduceBNe, Int.reduceLT, Int.reduceLE, Int.reduceGT, aBin_gtr, c0, aBin_sub, wa, ixSV_p, x1, r1, x2, r2, less_s, hlt, aUn_not, nf, e1]
    · obtain ⟨a', b', wb', wp', h4, h', d', k1, mid, ap, e1, m1, m2, hc, z⟩ := part
      refine ⟨a', b', wb', wp', h4, h', d', ?_, z⟩
      have v1 : IntKind.wrap .i64 ((mid : Int) - (a : Int)) = ((mid - a : Nat) : Int) := by rw [wi (by omega) (by omega)]; omega
      have v2 : IntKind.wrap .i64 ((b : Int) - (mid : Int)) = ((b - mid : Nat) : Int) := by rw [wi (by omega) (by omega)]; omega
      have v3 : IntKind.wrap .i64 ((mid : Int) + 1) = ((mid + 1 : Nat) : Int) := by rw [wi (by omega) (by omega)]; omega
      have g1 : decide ((((b - a) / 8 : Nat) : Int) ≤ ((mid - a : Nat) : Int)) = decide (mid - a ≥ (b - a) / 8) := by rw [decide_eq_decide]; omega
      have g2 : decide ((((b - a) / 8 : Nat) : Int) ≤ ((b - mid : Nat) : Int)) = decide (b - mid ≥ (b - a) / 8) := by rw [decide_eq_decide]; omega
      unfold J25_0b2
      rcases hc with ⟨l1, ⟨rr, e2⟩, ea, eb, ew, ep⟩ | ⟨l1, ⟨rr, e2⟩, ea, eb, ew, ep⟩
      · rw [ea, eb, ew, ep]
        have c1 : (((mid - a : Nat) : Int) < ((b - mid : Nat) : Int)) := by omega
        simp only [go_sem, Nat.reduceAdd, Nat.reduceLeDiff, Nat.reduceMul, Int.reduceBEq, Int.reduceBNe, Int.reduceLT, Int.reduceLE, Int.reduceGT, aBin_gtr, c0, aBin_sub, wa, ixSV_p, x1, r1, x2, r2, less_s, hlt, aUn_not, nt, e1, v1, v2, aBin_quo eight0, t8, w8, aBin_lss, c1, aBin_geq, g1, e2, v3]
      · rw [ea, eb, ew, ep]
        have c1 : ¬ (((mid - a : Nat) : Int) < ((b - mid : Nat) : Int)) := by omega
        simp only [go_sem, Nat.reduceAdd, Nat.reduceLeDiff, Nat.reduceMul, Int.reduceBEq, Int.reduceBNe, Int.reduceLT, Int.reduceLE, Int.reduceGT, aBin_gtr, c0, aBin_sub, wa, ixSV_p, x1, r1, x2, r2, less_s, hlt, aUn_not, nt, e1, v1, v2, aBin_quo eight0, t8, w8, aBin_lss, c1, aBin_geq, g2, v3, e2]
  · have c0 : ¬ ((a : Int) > 0) := by omega
    obtain ⟨a', b', wb', wp', h4, h', d', k1, mid, ap, e1, m1, m2, hc, z⟩ := part
    refine ⟨a', b', wb', wp', h4, h', d', ?_, z⟩
    have v1 : IntKind.wrap .i64 ((mid : Int) - (a : Int)) = ((mid - a : Nat) : Int) := by rw [wi (by omega) (by omega)]; omega
    have v2 : IntKind.wrap .i64 ((b : Int) - (mid : Int)) = ((b - mid : Nat) : Int) := by rw [wi (by omega) (by omega)]; omega
    have v3 : IntKind.wrap .i64 ((mid : Int) + 1) = ((mid + 1 : Nat) : Int) := by rw [wi (by omega) (by omega)]; omega
    have g1 : decide ((((b - a) / 8 : Nat) : Int) ≤ ((mid - a : Nat) : Int)) = decide (mid - a ≥ (b - a) / 8) := by rw [decide_eq_decide]; omega
    have g2 : decide ((((b - a) / 8 : Nat) : Int) ≤ ((b - mid : Nat) : Int)) = decide (b - mid ≥ (b - a) / 8) := by rw [decide_eq_decide]; omega
    unfold J25_0b2
    rcases hc with ⟨l1, ⟨rr, e2⟩, ea, eb, ew, ep⟩ | ⟨l1, ⟨rr, e2⟩, ea, eb, ew, ep⟩
    · rw [ea, eb, ew, ep]
      have c1 : (((mid - a : Nat) : Int) < ((b - mid : Nat) : Int)) := by omega
      simp only [go_sem, Nat.reduceAdd, Nat.reduceLeDiff, Nat.reduceMul, Int.reduceBEq, Int.reduceBNe, Int.reduceLT, Int.reduceLE, Int.reduceGT, aBin_gtr, c0, aBin_sub, e1, v1, v2, aBin_quo eight0, t8, w8, aBin_lss, c1, aBin_geq, g1, e2, v3]
    · rw [ea, eb, ew, ep]
      have c1 : ¬ (((mid - a : Nat) : Int) < ((b - mid : Nat) : Int)) := by omega
      simp only [go_sem, Nat.reduceAdd, Nat.reduceLeDiff, Nat.reduceMul, Int.reduceBEq, Int.reduceBNe, Int.reduceLT, Int.reduceLE, Int.reduceGT, aBin_gtr, c0, aBin_sub, e1, v1, v2, aBin_quo eight0, t8, w8, aBin_lss, c1, aBin_geq, g2, v3, e2]
end Go.Det.O
