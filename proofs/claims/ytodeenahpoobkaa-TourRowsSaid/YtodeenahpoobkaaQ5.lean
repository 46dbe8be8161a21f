/- The play of 10: a step. -/
import Derived.Test.YtodeenahpoobkaaQ4
set_option autoImplicit false
set_option linter.unusedVariables false
set_option linter.unusedSimpArgs false
namespace Go.Det.E
open Go.Proofs Go.Det Go.Det.U
attribute [local congr] bind_c cond_c
variable {h hh k h' : Heap} {a b q n n0 c : Nat} {V S T x y p f u w sl K LV SL U W : Int} {l0 : Int → Int} {pr : Int → Int} {s s' : NS} {r A B xs : List Int} {rv av bv RW LK lv lk X : Value} {i j m sn : Nat} {rs rs' : List (List Int)} {ps ps' : List (Int × Int)} {rss rss' : List (List (List Int))} {pss pss' : List (List (Int × Int))} {rvs lvs lks : List Value} {rvss : List (List Value)} {cs : List Value} {e : Int × Int}
abbrev opT (K LV SL U W : Int) : List Value := [(Value.int .i64 K), (Value.int .i64 LV), (Value.int .i64 SL), (Value.int .i64 U), (Value.int .i64 W)]
theorem op_at {b : Nat} (hc : k[b]? = some (.own (opT K LV SL U W))) : rd k b 0 = some ((Value.int .i64 K)) ∧ rd k b 1 = some ((Value.int .i64 LV)) ∧ rd k b 2 = some ((Value.int .i64 SL)) ∧ rd k b 3 = some ((Value.int .i64 U)) ∧ rd k b 4 = some ((Value.int .i64 W)) := ⟨by rw [rd_at hc]; rfl, by rw [rd_at hc]; rfl, by rw [rd_at hc]; rfl, by rw [rd_at hc]; rfl, by rw [rd_at hc]; rfl⟩
def Good (V S LV SL U W : Int) : Prop := (0 ≤ LV ∧ LV < Lv V) ∧ (0 ≤ SL ∧ SL < S) ∧ (0 ≤ U ∧ U < V) ∧ (0 ≤ W ∧ W < V)
set_option maxHeartbeats 4000000 in
set_option maxHeartbeats 4000000 in
set_option maxHeartbeats 4000000 in
set_option maxRecDepth 100000 in
theorem step_out (hR : Rt V S T) (H : H10 V S T l0 a b q n0 RW LK lvs lks rvss s rss pss h) (hn : n ≤ h.length) (hb : ¬ Good V S LV SL U W) : ∃ g, C ⟨0, n⟩ 34 [(Value.pointer (some ⟨q, 0, none⟩)), (Value.agg #[(Value.int .i64 K), (Value.int .i64 LV), (Value.int .i64 SL), (Value.int .i64 U), (Value.int .i64 W)])] h = some ((Value.bool true), g) ∧ h.length ≤ g.length ∧ ∀ y, y < h.length → g[y]? = h[y]? := by
  have q1 : (h ++ [Blk.own (opT K LV SL U W)])[q]? = some (.own (pC V S T a RW LK)) := by rw [List.getElem?_append_left (lt_of H.hq)]; exact H.hq
  have p31 := p3 q1
  have w3 := wrN_new1 (md := ⟨0, n⟩) (h := h) (b0 := Blk.own (opT K LV SL U W)) (bs := []) (i := 0) (cs := [(Value.int .i64 0), (Value.int .i64 0), (Value.int .i64 0)]) (vs := [(Value.int .i64 V), (Value.int .i64 S), (Value.int .i64 T)]) (Nat.zero_le _) hn (Nat.le_refl 3)
  have eL : lay [(Value.int .i64 0), (Value.int .i64 0), (Value.int .i64 0)] 0 [(Value.int .i64 V), (Value.int .i64 S), (Value.int .i64 T)] = [(Value.int .i64 V), (Value.int .i64 S), (Value.int .i64 T)] := rfl
  rw [eL] at w3
  have st3 := fun (hq : Heap) (kk : Heap → Option (Value × Heap)) => st_N ⟨0, n⟩ 3 (h.length + 1) 0 [(Value.int .i64 V), (Value.int .i64 S), (Value.int .i64 T)] hq kk rfl rfl
  generalize hg : h ++ [Blk.own (opT K LV SL U W), Blk.own [(Value.int .i64 V), (Value.int .i64 S), (Value.int .i64 T)]] = g at w3
  have lg : g.length = h.length + 2 := by rw [← hg]; simp
  have og : ∀ y, y < h.length → g[y]? = h[y]? := fun y hy => by rw [← hg, List.getElem?_append_left hy]
  have cg : g[h.length]? = some (Blk.own (opT K LV SL U W)) := by rw [← hg, List.getElem?_append_right (Nat.le_refl _)]; simp
  have cl : g[h.length + 1]? = some (Blk.own [(Value.int .i64 V), (Value.int .i64 S), (Value.int .i64 T)]) := by rw [← hg, List.getElem?_append_right (by omega)]; simp
  obtain ⟨z0, z1, z2, z3, z4⟩ := op_at cg
  have y3 : rdN g (h.length + 1) 0 3 = some [(Value.int .i64 V), (Value.int .i64 S), (Value.int .i64 T)] := by rw [rdN_at cl (Nat.le_refl 3)]; rfl
  have y0 : rd g (h.length + 1) 0 = some ((Value.int .i64 V)) := by rw [rd_at cl]; rfl
  have y1 : rd g (h.length + 1) 1 = some ((Value.int .i64 S)) := by rw [rd_at cl]; rfl
  have lvs' := fun (m : Md) (h : Heap) => levels_s m h hR
  refine ⟨g, ?_, by omega, og⟩
  rw [C, call_eq, F34_eq]
  unfold F34
  by_cases c1 : LV < 0
  · simp only [go_sem, Nat.reduceAdd, Nat.reduceLeDiff, Nat.reduceMul, Int.reduceBEq, Int.reduceBNe, Int.reduceLT, Int.reduceLE, Int.reduceGT, okNil, okP_p, p31, st3, w3, z0, z1, z2, z3, z4, y3, y0, y1, lvs', aBin_lss, aBin_geq, c1]
  by_cases c2 : LV ≥ Lv V
  · simp only [go_sem, Nat.reduceAdd, Nat.reduceLeDiff, Nat.reduceMul, Int.reduceBEq, Int.reduceBNe, Int.reduceLT, Int.reduceLE, Int.reduceGT, okNil, okP_p, p31, st3, w3, z0, z1, z2, z3, z4, y3, y0, y1, lvs', aBin_lss, aBin_geq, c1, c2]
  by_cases c3 : SL < 0
  · simp only [go_sem, Nat.reduceAdd, Nat.reduceLeDiff, Nat.reduceMul, Int.reduceBEq, Int.reduceBNe, Int.reduceLT, Int.reduceLE, Int.reduceGT, okNil, okP_p, p31, st3, w3, z0, z1, z2, z3, z4, y3, y0, y1, lvs', aBin_lss, aBin_geq, c1, c2, c3]
  by_cases c4 : SL ≥ S
  · simp only [go_sem, Nat.reduceAdd, Nat.reduceLeDiff, Nat.reduceMul, Int.reduceBEq, Int.reduceBNe, Int.reduceLT, Int.reduceLE, Int.reduceGT, okNil, okP_p, p31, st3, w3, z0, z1, z2, z3, z4, y3, y0, y1, lvs', aBin_lss, aBin_geq, c1, c2, c3, c4]
  by_cases c5 : U < 0
  · simp only [go_sem, Nat.reduceAdd, Nat.reduceLeDiff, Nat.reduceMul, Int.reduceBEq, Int.reduceBNe, Int.reduceLT, Int.reduceLE, Int.reduceGT, okNil, okP_p, p31, st3, w3, z0, z1, z2, z3, z4, y3, y0, y1, lvs', aBin_lss, aBin_geq, c1, c2, c3, c4, c5]
  by_cases c6 : U ≥ V
  · simp only [go_sem, Nat.reduceAdd, Nat.reduceLeDiff, Nat.reduceMul, Int.reduceBEq, Int.reduceBNe, Int.reduceLT, Int.reduceLE, Int.reduceGT, okNil, okP_p, p31, st3, w3, z0, z1, z2, z3, z4, y3, y0, y1, lvs', aBin_lss, aBin_geq, c1, c2, c3, c4, c5, c6]
  by_cases c7 : W < 0
  · simp only [go_sem, Nat.reduceAdd, Nat.reduceLeDiff, Nat.reduceMul, Int.reduceBEq, Int.reduceBNe, Int.reduceLT, Int.reduceLE, Int.reduceGT, okNil, okP_p, p31, st3, w3, z0, z1, z2, z3, z4, y3, y0, y1, lvs', aBin_lss, aBin_geq, c1, c2, c3, c4, c5, c6, c7]
  by_cases c8 : W ≥ V
  · simp only [go_sem, Nat.reduceAdd, Nat.reduceLeDiff, Nat.reduceMul, Int.reduceBEq, Int.reduceBNe, Int.reduceLT, Int.reduceLE, Int.reduceGT, okNil, okP_p, p31, st3, w3, z0, z1, z2, z3, z4, y3, y0, y1, lvs', aBin_lss, aBin_geq, c1, c2, c3, c4, c5, c6, c7, c8]
  · exact absurd ⟨⟨by omega, by omega⟩, ⟨by omega, by omega⟩, ⟨by omega, by omega⟩, ⟨by omega, by omega⟩⟩ hb
end Go.Det.E
/- The play of 10: a step. -/
namespace Go.Det.E
open Go.Proofs Go.Det Go.Det.U
attribute [local congr] bind_c cond_c
variable {h hh k h' : Heap} {a b q n n0 c : Nat} {V S T x y p f u w sl K LV SL U W : Int} {l0 : Int → Int} {pr : Int → Int} {s s' : NS} {r A B xs : List Int} {rv av bv RW LK lv lk X : Value} {i j m sn : Nat} {rs rs' : List (List Int)} {ps ps' : List (Int × Int)} {rss rss' : List (List (List Int))} {pss pss' : List (List (Int × Int))} {rvs lvs lks : List Value} {rvss : List (List Value)} {cs : List Value} {e : Int × Int}
set_option maxHeartbeats 8000000 in
set_option maxRecDepth 100000 in
theorem step_other (hR : Rt V S T) (H : H10 V S T l0 a b q n0 RW LK lvs lks rvss s rss pss h) (Wp : PW V S (prO V S T l0) c s rss pss) (hc : c < 10000) (hn0 : n ≤ n0) (hi : (i : Int) < Lv V) (hs : (sn : Int) < S) (hu : 0 ≤ U ∧ U < V) (hw : 0 ≤ W ∧ W < V) (k1 : (K == 1) = false) (k2 : (K == 2) = false) (k3 : (K == 3) = false) :
    ∃ lvs' rvss' s' rss' pss' h', C ⟨0, n⟩ 34 [(Value.pointer (some ⟨q, 0, none⟩)), (Value.agg #[(Value.int .i64 K), (Value.int .i64 ((i : Int))), (Value.int .i64 ((sn : Int))), (Value.int .i64 U), (Value.int .i64 W)])] h = some ((Value.bool true), h') ∧ H10 V S T l0 a b q n0 RW LK lvs' lks rvss' s' rss' pss' h' ∧ PW V S (prO V S T l0) (c + 2) s' rss' pss' ∧ h.length ≤ h'.length ∧ ∀ y, y < n0 → h'[y]? = h[y]? := by
  have hq0 := lt_of H.hq
  have lo := H.lo
  have hn : n ≤ h.length := by omega
  have q1 : (h ++ [Blk.own (opT K i sn U W)])[q]? = some (.own (pC V S T a RW LK)) := by rw [List.getElem?_append_left (lt_of H.hq)]; exact H.hq
  have p31 := p3 q1
  have w3 := wrN_new1 (md := ⟨0, n⟩) (h := h) (b0 := Blk.own (opT K i sn U W)) (bs := []) (i := 0) (cs := [(Value.int .i64 0), (Value.int .i64 0), (Value.int .i64 0)]) (vs := [(Value.int .i64 V), (Value.int .i64 S), (Value.int .i64 T)]) (Nat.zero_le _) hn (Nat.le_refl 3)
  have eL : lay [(Value.int .i64 0), (Value.int .i64 0), (Value.int .i64 0)] 0 [(Value.int .i64 V), (Value.int .i64 S), (Value.int .i64 T)] = [(Value.int .i64 V), (Value.int .i64 S), (Value.int .i64 T)] := rfl
  rw [eL] at w3
  have st3 := fun (hq : Heap) (kk : Heap → Option (Value × Heap)) => st_N ⟨0, n⟩ 3 (h.length + 1) 0 [(Value.int .i64 V), (Value.int .i64 S), (Value.int .i64 T)] hq kk rfl rfl
  generalize hg : h ++ [Blk.own (opT K i sn U W), Blk.own [(Value.int .i64 V), (Value.int .i64 S), (Value.int .i64 T)]] = g at w3
  have lg : g.length = h.length + 2 := by rw [← hg]; simp
  have og : ∀ y, y < h.length → g[y]? = h[y]? := fun y hy => by rw [← hg, List.getElem?_append_left hy]
  have cg : g[h.length]? = some (Blk.own (opT K i sn U W)) := by rw [← hg, List.getElem?_append_right (Nat.le_refl _)]; simp
  have cl : g[h.length + 1]? = some (Blk.own [(Value.int .i64 V), (Value.int .i64 S), (Value.int .i64 T)]) := by rw [← hg, List.getElem?_append_right (by omega)]; simp
  obtain ⟨z0, z1, z2, z3, z4⟩ := op_at cg
  have y3 : rdN g (h.length + 1) 0 3 = some [(Value.int .i64 V), (Value.int .i64 S), (Value.int .i64 T)] := by rw [rdN_at cl (Nat.le_refl 3)]; rfl
  have y0 : rd g (h.length + 1) 0 = some ((Value.int .i64 V)) := by rw [rd_at cl]; rfl
  have y1 : rd g (h.length + 1) 1 = some ((Value.int .i64 S)) := by rw [rd_at cl]; rfl
  have lvs' := fun (m : Md) (h : Heap) => levels_s m h hR
  have Hg := H.old og
  have c1 : ¬ ((i : Int) < 0) := by omega
  have c2 : ¬ ((i : Int) ≥ Lv V) := by omega
  have c3 : ¬ ((sn : Int) < 0) := by omega
  have c4 : ¬ ((sn : Int) ≥ S) := by omega
  have c5 : ¬ (U < 0) := by omega
  have c6 : ¬ (U ≥ V) := by omega
  have c7 : ¬ (W < 0) := by omega
  have c8 : ¬ (W ≥ V) := by omega
  obtain ⟨rs, ps, hrs, hps, w⟩ := Wp.lev hi
  obtain ⟨ll1, ll2, ll3⟩ := H.ll
  have il1 := (List.getElem?_eq_some_iff.1 hrs).1
  have il2 := (List.getElem?_eq_some_iff.1 hps).1
  obtain ⟨lvv, hlv⟩ : ∃ z, lvs[i]? = some z := ⟨lvs[i]'(by omega), List.getElem?_eq_getElem (by omega)⟩
  obtain ⟨rvs, hrv⟩ : ∃ z, rvss[i]? = some z := ⟨rvss[i]'(by omega), List.getElem?_eq_getElem (by omega)⟩
  obtain ⟨lk, hlk⟩ : ∃ z, lks[i]? = some z := ⟨lks[i]'(by omega), List.getElem?_eq_getElem (by omega)⟩
  have Xg := Hg.lr i lvv rvs rs hlv hrv hrs
  have cn := Wp.cnt i rs hrs
  have sm := fun {r} (hr : r ∈ rs) => WF.small hR hi w hr
  obtain ⟨A, hA, xA⟩ := w.cov U hu.1 hu.2
  obtain ⟨B, hB, xB⟩ := w.cov W hw.1 hw.2
  obtain ⟨ia, ha⟩ := List.mem_iff_getElem?.1 hA
  obtain ⟨ib, hb⟩ := List.mem_iff_getElem?.1 hB
  have rowA := row_s10 (n := n) (x := Vx V i U) Hg.hq Hg.rw hlv Xg (by omega) (fun r hr => sm hr) w.dj ha xA
  have rowB := row_s10 (n := n) (x := Vx V i W) Hg.hq Hg.rw hlv Xg (by omega) (fun r hr => sm hr) w.dj hb xB
  have vU := fun (m : Md) (h : Heap) => vertex_s m h (a := (i : Int)) (b := U) hR
  have vW := fun (m : Md) (h : Heap) => vertex_s m h (a := (i : Int)) (b := W) hR
  have a0 := fun (m : Md) (h : Heap) => arc_s m h (a := (sn : Int)) (b := (i : Int)) (c := 0) hR
  have a1 := fun (m : Md) (h : Heap) => arc_s m h (a := (sn : Int)) (b := (i : Int)) (c := 1) hR
  have psl : sn < ps.length := by have := w.len; omega
  obtain ⟨e, he⟩ : ∃ z, ps[sn]? = some z := ⟨ps[sn]'psl, List.getElem?_eq_getElem psl⟩
  have rK := pLK Hg.hq
  obtain ⟨ixK, rxK⟩ := Sl.getV Hg.lk hlk
  have P2 := Hg.lp i lk ps hlk hps
  have ixE := fun {α : Type} (kk : Value → Option α) => P2.ix (i := (sn : Int)) (by omega) (by omega) kk
  simp only [Int.toNat_natCast] at ixE
  have rE : rd g (slB lk) (slO lk + sn * 2) = some ((Value.int .i64 e.1)) := P2.cell he (j := 0) (by decide)
  have ia0 := fun {α : Type} (kk : Value → Option α) => ixA_p 1 (slB lk) (slO lk + sn * 2) 2 0 kk (by omega)
  simp only [show (0 : Int).toNat = 0 from rfl, Nat.zero_mul, Nat.add_zero] at ia0
  have nM : ∀ {y}, h.length ≤ y → ¬ Mt a b RW lks y := fun hy hm => by have := H.lt_mt hm; omega
  have nM0 : ∀ {y}, y < n0 → ¬ Mt a b RW lks y := fun hy hm => by have := H.lt_mt hm; omega
  have nS : ∀ {m sz : Nat} {ε : Type} {enc : ε → List Value} {k : Heap} {v : Value} {xs : List ε}, SlO k m sz enc v xs → h.length ≤ m → ¬ Mt a b RW lks (slB v) := fun {m sz ε enc k v xs} S hm => by
    rcases S.own with rfl | ⟨q1, _⟩
    · exact nM0 (show 0 < n0 by omega)
    · exact nM (by omega)
  have mR : Mt a b RW lks (slB RW) := .inr (.inr (.inl rfl))
  have mlk : Mt a b RW lks (slB lk) := .inr (.inr (.inr ⟨lk, List.mem_of_getElem? hlk, rfl⟩))
  have ltR := H.lt_mt mR
  have ltK := H.lt_mt mlk
  refine ⟨lvs, rvss, s, rss, pss, g, ?_, Hg, Wp.mono (by omega), by omega, fun y hy => og y (by omega)⟩
  rw [C, call_eq, F34_eq]
  unfold F34
  simp only [go_sem, Nat.reduceAdd, Nat.reduceLeDiff, Nat.reduceMul, Int.reduceBEq, Int.reduceBNe, Int.reduceLT, Int.reduceLE, Int.reduceGT, okNil, okP_p, p31, st3, w3, z0, z1, z2, z3, z4, y3, y0, y1, lvs', aBin_lss, aBin_geq, c1, c2, c3, c4, c5, c6, c7, c8, vU, vW, a0, a1, rowA, rowB, rK, ixK, rxK, ixE, ia0, rE, k1, k2, k3]
set_option maxHeartbeats 8000000 in
set_option maxRecDepth 100000 in
theorem step_link (hR : Rt V S T) (H : H10 V S T l0 a b q n0 RW LK lvs lks rvss s rss pss h) (Wp : PW V S (prO V S T l0) c s rss pss) (hc : c < 10000) (hn0 : n ≤ n0) (hi : (i : Int) < Lv V) (hs : (sn : Int) < S) (hu : 0 ≤ U ∧ U < V) (hw : 0 ≤ W ∧ W < V) :
    ∃ lvs' rvss' s' rss' pss' h', C ⟨0, n⟩ 34 [(Value.pointer (some ⟨q, 0, none⟩)), (Value.agg #[(Value.int .i64 1), (Value.int .i64 ((i : Int))), (Value.int .i64 ((sn : Int))), (Value.int .i64 U), (Value.int .i64 W)])] h = some ((Value.bool true), h') ∧ H10 V S T l0 a b q n0 RW LK lvs' lks rvss' s' rss' pss' h' ∧ PW V S (prO V S T l0) (c + 2) s' rss' pss' ∧ h.length ≤ h'.length ∧ ∀ y, y < n0 → h'[y]? = h[y]? := by
  have hq0 := lt_of H.hq
  have lo := H.lo
  have hn : n ≤ h.length := by omega
  have q1 : (h ++ [Blk.own (opT 1 i sn U W)])[q]? = some (.own (pC V S T a RW LK)) := by rw [List.getElem?_append_left (lt_of H.hq)]; exact H.hq
  have p31 := p3 q1
  have w3 := wrN_new1 (md := ⟨0, n⟩) (h := h) (b0 := Blk.own (opT 1 i sn U W)) (bs := []) (i := 0) (cs := [(Value.int .i64 0), (Value.int .i64 0), (Value.int .i64 0)]) (vs := [(Value.int .i64 V), (Value.int .i64 S), (Value.int .i64 T)]) (Nat.zero_le _) hn (Nat.le_refl 3)
  have eL : lay [(Value.int .i64 0), (Value.int .i64 0), (Value.int .i64 0)] 0 [(Value.int .i64 V), (Value.int .i64 S), (Value.int .i64 T)] = [(Value.int .i64 V), (Value.int .i64 S), (Value.int .i64 T)] := rfl
  rw [eL] at w3
  have st3 := fun (hq : Heap) (kk : Heap → Option (Value × Heap)) => st_N ⟨0, n⟩ 3 (h.length + 1) 0 [(Value.int .i64 V), (Value.int .i64 S), (Value.int .i64 T)] hq kk rfl rfl
  generalize hg : h ++ [Blk.own (opT 1 i sn U W), Blk.own [(Value.int .i64 V), (Value.int .i64 S), (Value.int .i64 T)]] = g at w3
  have lg : g.length = h.length + 2 := by rw [← hg]; simp
  have og : ∀ y, y < h.length → g[y]? = h[y]? := fun y hy => by rw [← hg, List.getElem?_append_left hy]
  have cg : g[h.length]? = some (Blk.own (opT 1 i sn U W)) := by rw [← hg, List.getElem?_append_right (Nat.le_refl _)]; simp
  have cl : g[h.length + 1]? = some (Blk.own [(Value.int .i64 V), (Value.int .i64 S), (Value.int .i64 T)]) := by rw [← hg, List.getElem?_append_right (by omega)]; simp
  obtain ⟨z0, z1, z2, z3, z4⟩ := op_at cg
  have y3 : rdN g (h.length + 1) 0 3 = some [(Value.int .i64 V), (Value.int .i64 S), (Value.int .i64 T)] := by rw [rdN_at cl (Nat.le_refl 3)]; rfl
  have y0 : rd g (h.length + 1) 0 = some ((Value.int .i64 V)) := by rw [rd_at cl]; rfl
  have y1 : rd g (h.length + 1) 1 = some ((Value.int .i64 S)) := by rw [rd_at cl]; rfl
  have lvs' := fun (m : Md) (h : Heap) => levels_s m h hR
  have Hg := H.old og
  have c1 : ¬ ((i : Int) < 0) := by omega
  have c2 : ¬ ((i : Int) ≥ Lv V) := by omega
  have c3 : ¬ ((sn : Int) < 0) := by omega
  have c4 : ¬ ((sn : Int) ≥ S) := by omega
  have c5 : ¬ (U < 0) := by omega
  have c6 : ¬ (U ≥ V) := by omega
  have c7 : ¬ (W < 0) := by omega
  have c8 : ¬ (W ≥ V) := by omega
  obtain ⟨rs, ps, hrs, hps, w⟩ := Wp.lev hi
  obtain ⟨ll1, ll2, ll3⟩ := H.ll
  have il1 := (List.getElem?_eq_some_iff.1 hrs).1
  have il2 := (List.getElem?_eq_some_iff.1 hps).1
  obtain ⟨lvv, hlv⟩ : ∃ z, lvs[i]? = some z := ⟨lvs[i]'(by omega), List.getElem?_eq_getElem (by omega)⟩
  obtain ⟨rvs, hrv⟩ : ∃ z, rvss[i]? = some z := ⟨rvss[i]'(by omega), List.getElem?_eq_getElem (by omega)⟩
  obtain ⟨lk, hlk⟩ : ∃ z, lks[i]? = some z := ⟨lks[i]'(by omega), List.getElem?_eq_getElem (by omega)⟩
  have Xg := Hg.lr i lvv rvs rs hlv hrv hrs
  have cn := Wp.cnt i rs hrs
  have sm := fun {r} (hr : r ∈ rs) => WF.small hR hi w hr
  obtain ⟨A, hA, xA⟩ := w.cov U hu.1 hu.2
  obtain ⟨B, hB, xB⟩ := w.cov W hw.1 hw.2
  obtain ⟨ia, ha⟩ := List.mem_iff_getElem?.1 hA
  obtain ⟨ib, hb⟩ := List.mem_iff_getElem?.1 hB
  have rowA := row_s10 (n := n) (x := Vx V i U) Hg.hq Hg.rw hlv Xg (by omega) (fun r hr => sm hr) w.dj ha xA
  have rowB := row_s10 (n := n) (x := Vx V i W) Hg.hq Hg.rw hlv Xg (by omega) (fun r hr => sm hr) w.dj hb xB
  have vU := fun (m : Md) (h : Heap) => vertex_s m h (a := (i : Int)) (b := U) hR
  have vW := fun (m : Md) (h : Heap) => vertex_s m h (a := (i : Int)) (b := W) hR
  have a0 := fun (m : Md) (h : Heap) => arc_s m h (a := (sn : Int)) (b := (i : Int)) (c := 0) hR
  have a1 := fun (m : Md) (h : Heap) => arc_s m h (a := (sn : Int)) (b := (i : Int)) (c := 1) hR
  have psl : sn < ps.length := by have := w.len; omega
  obtain ⟨e, he⟩ : ∃ z, ps[sn]? = some z := ⟨ps[sn]'psl, List.getElem?_eq_getElem psl⟩
  have rK := pLK Hg.hq
  obtain ⟨ixK, rxK⟩ := Sl.getV Hg.lk hlk
  have P2 := Hg.lp i lk ps hlk hps
  have ixE := fun {α : Type} (kk : Value → Option α) => P2.ix (i := (sn : Int)) (by omega) (by omega) kk
  simp only [Int.toNat_natCast] at ixE
  have rE : rd g (slB lk) (slO lk + sn * 2) = some ((Value.int .i64 e.1)) := P2.cell he (j := 0) (by decide)
  have ia0 := fun {α : Type} (kk : Value → Option α) => ixA_p 1 (slB lk) (slO lk + sn * 2) 2 0 kk (by omega)
  simp only [show (0 : Int).toNat = 0 from rfl, Nat.zero_mul, Nat.add_zero] at ia0
  have nM : ∀ {y}, h.length ≤ y → ¬ Mt a b RW lks y := fun hy hm => by have := H.lt_mt hm; omega
  have nM0 : ∀ {y}, y < n0 → ¬ Mt a b RW lks y := fun hy hm => by have := H.lt_mt hm; omega
  have nS : ∀ {m sz : Nat} {ε : Type} {enc : ε → List Value} {k : Heap} {v : Value} {xs : List ε}, SlO k m sz enc v xs → h.length ≤ m → ¬ Mt a b RW lks (slB v) := fun {m sz ε enc k v xs} S hm => by
    rcases S.own with rfl | ⟨q1, _⟩
    · exact nM0 (show 0 < n0 by omega)
    · exact nM (by omega)
  have mR : Mt a b RW lks (slB RW) := .inr (.inr (.inl rfl))
  have mlk : Mt a b RW lks (slB lk) := .inr (.inr (.inr ⟨lk, List.mem_of_getElem? hlk, rfl⟩))
  have ltR := H.lt_mt mR
  have ltK := H.lt_mt mlk
  have k1 : ((1 : Int) == 1) = true := rfl
  by_cases hab : ia = ib
  · have t1 : ((ia : Int) == (ib : Int)) = true := by subst hab; simp
    refine ⟨lvs, rvss, s, rss, pss, g, ?_, Hg, Wp.mono (by omega), by omega, fun y hy => og y (by omega)⟩
    rw [C, call_eq, F34_eq]
    unfold F34
    simp only [go_sem, Nat.reduceAdd, Nat.reduceLeDiff, Nat.reduceMul, Int.reduceBEq, Int.reduceBNe, Int.reduceLT, Int.reduceLE, Int.reduceGT, okNil, okP_p, p31, st3, w3, z0, z1, z2, z3, z4, y3, y0, y1, lvs', aBin_lss, aBin_geq, c1, c2, c3, c4, c5, c6, c7, c8, vU, vW, a0, a1, rowA, rowB, rK, ixK, rxK, ixE, ia0, rE, k1, t1]
  · have t1 : ((ia : Int) == (ib : Int)) = false := by rw [beq_eq_false_iff_ne]; omega
    rcases w.val sn e he with rfl | ⟨q1, _⟩
    · have t2 : ¬ ((-1 : Int) ≥ 0) := by decide
      have rR := pRW Hg.hq
      obtain ⟨ixR, rxR⟩ := Sl.getV Hg.rw hlv
      have rvl := Xg.len
      have ial := (List.getElem?_eq_some_iff.1 ha).1
      have ibl := (List.getElem?_eq_some_iff.1 hb).1
      obtain ⟨av, hav⟩ : ∃ z, rvs[ia]? = some z := ⟨rvs[ia]'(by omega), List.getElem?_eq_getElem (by omega)⟩
      obtain ⟨bv, hbv⟩ : ∃ z, rvs[ib]? = some z := ⟨rvs[ib]'(by omega), List.getElem?_eq_getElem (by omega)⟩
      obtain ⟨ixa, rxa⟩ := Sl.getV Xg.sl hav
      obtain ⟨ixb, rxb⟩ := Sl.getV Xg.sl hbv
      obtain ⟨p, hp⟩ := List.mem_iff_getElem?.1 xA
      obtain ⟨q', hq'⟩ := List.mem_iff_getElem?.1 xB
      obtain ⟨v1, k1', e1, S1, O1⟩ := refLinked (n := n) (t := Ax V S sn i 0) (kk := Ax V S sn i 1) (Xg.f2.get ia av A hav ha) (Xg.f2.get ib bv B hbv hb) (w.nod A hA) (w.nod B hB) hp hq' (sm hA) (sm hB)
      have l1 := O1.len
      have H1 := Hg.old O1.old
      have rR1 := pRW H1.hq
      obtain ⟨_, u1, u2, u3, u4⟩ := op_at ((O1.old _ (by omega)).trans cg)
      obtain ⟨v2, k2', e2, S2, O2⟩ := without_s10 (n := n) (i := ia) (k := ib) H1.hq H1.rw hlv (H1.lr i lvv rvs rs hlv hrv hrs) (by omega)
      have l2 := O2.len
      have H2 := H1.old O2.old
      have rR2 := pRW H2.hq
      obtain ⟨_, w1, w2', w3', w4⟩ := op_at ((O2.old _ (by omega)).trans ((O1.old _ (by omega)).trans cg))
      obtain ⟨a3, b3, d3, rfl⟩ := Sl.sliceV S1.sl
      have H3 := H2.old (h' := k2' ++ [Blk.own [.slice a3 b3 d3]]) fun y hy => List.getElem?_append_left hy
      have rR3 := pRW H3.hq
      obtain ⟨_, x1, x2, x3, x4⟩ := op_at (show (k2' ++ [Blk.own [.slice a3 b3 d3]])[h.length]? = _ by rw [List.getElem?_append_left (by omega), O2.old _ (by omega), O1.old _ (by omega)]; exact cg)
      obtain ⟨v4, k4, ea, S4, l4, f4⟩ := append_own2 (md := ⟨0, n⟩) (ys := [Value.slice a3 b3 d3]) tRows10 S2 (Nat.zero_le _) l2 (cs := [Value.slice a3 b3 d3]) (by simp [flat]) (by simp) rfl (by have := (wo_sub ia ib rvs 0).length_le; simp; omega)
      simp only [List.length_cons, List.length_nil, Nat.zero_add] at ea
      have f4' : ∀ y, y < k1'.length → k4[y]? = k1'[y]? := fun y hy => (f4 y (by omega) (S2.own.imp id fun q => by omega)).trans (O2.old y hy)
      have H4 := H1.old f4'
      have rR4 := pRW H4.hq
      obtain ⟨_, t1', t2', t3', t4'⟩ := op_at ((f4' _ (by omega)).trans ((O1.old _ (by omega)).trans cg))
      obtain ⟨a5, b5, d5, rfl⟩ := Sl.sliceV S4.sl
      have X4 : LR k4 (.slice a5 b5 d5) (wo ia ib 0 rvs ++ [.slice a3 b3 d3]) (wo ia ib 0 rs ++ [linkR A B p q' (Ax V S sn i 0) (Ax V S sn i 1)]) :=
        ⟨S4.sl, F2.app (F2.wo ia ib 0 (H4.lr i lvv rvs rs hlv hrv hrs).f2) ⟨S1.sl.heap fun hl => f4' _ hl, trivial⟩⟩
      obtain ⟨k5, e5, H5, l5, o5⟩ := H4.setRow (md := ⟨0, n⟩) (i := i) (by omega) X4 (nS S4 (by omega)) (fun rv hrv' => by
        rcases List.mem_append.1 hrv' with z | z
        · exact H.sv rvs (List.mem_of_getElem? hrv) rv ((wo_sub ia ib rvs 0).subset z)
        · simp only [List.mem_singleton] at z; subst z; exact nS S1 (by omega)) (Nat.zero_le _) (by show n ≤ _; omega)
      have rK5 := pLK H5.hq
      obtain ⟨_, rxK5⟩ := Sl.getV H5.lk hlk
      obtain ⟨_, s1', s2', s3', s4'⟩ := op_at ((o5 h.length (by omega)).trans ((f4' _ (by omega)).trans ((O1.old _ (by omega)).trans cg)))
      obtain ⟨k6, e6, H6, l6, o6⟩ := H5.setLk (md := ⟨0, n⟩) hlk hps psl (U, W) (Nat.zero_le _)
      simp only [] at e6
      have st2 := fun (hq : Heap) (kk : Heap → Option (Value × Heap)) => st_N ⟨0, n⟩ 2 (slB lk) (slO lk + sn * 2) [(Value.int .i64 U), (Value.int .i64 W)] hq kk rfl rfl
      have r6 := p6 H6.hq
      obtain ⟨_, j1, j2, j3, j4⟩ := op_at ((o6 h.length (by omega)).trans ((o5 h.length (by omega)).trans ((f4' _ (by omega)).trans ((O1.old _ (by omega)).trans cg))))
      have nl : ∀ e, ¬ Lk ps sn e := fun e h => by
        have := h.1
        rw [he] at this
        obtain rfl := Option.some.inj this
        exact absurd h.2 (by decide)
      have noarc : ∀ r ∈ rs, ∀ d, (d = 0 ∨ d = 1) → Ax V S sn i d ∉ r := fun r hr d hd h => by
        obtain ⟨e, he⟩ := w.arc hR hi hr hs hd h
        exact nl e he
      have ktn : Ax V S sn i 1 ≠ Ax V S sn i 0 := fun h => by have := (A_pos hR hi hi hs hs (.inr rfl) (.inl rfl) h).2.2; omega
      have nAB : (((A ++ [Ax V S sn i 0]) ++ B) ++ [Ax V S sn i 1]).Nodup := by
        refine List.nodup_append.2 ⟨List.nodup_append.2 ⟨List.nodup_append.2 ⟨w.nod A hA, by simp, fun y hy z hz e => ?_⟩, w.nod B hB, fun y hy z hz e => ?_⟩, by simp, fun y hy z hz e => ?_⟩
        · simp at hz; subst hz; subst e; exact noarc A hA 0 (.inl rfl) hy
        · subst e
          rcases List.mem_append.1 hy with h | h
          · exact pw_get w.dj ha hb hab y h hz
          · simp at h; subst h; exact noarc B hB 0 (.inl rfl) hz
        · simp at hz; subst hz; subst e
          rcases List.mem_append.1 hy with h | h
          · rcases List.mem_append.1 h with h | h
            · exact noarc A hA 1 (.inr rfl) h
            · simp at h; exact ktn h
          · exact noarc B hB 1 (.inr rfl) h
      have nixAB : ∀ y ∈ ((A ++ [Ax V S sn i 0]) ++ B) ++ [Ax V S sn i 1], NL V S i y := fun y hy => by
        simp only [List.mem_append, List.mem_singleton] at hy
        rcases hy with ((h | h) | h) | h
        · exact w.nl hA h
        · exact .inr ⟨sn, 0, hs, .inl rfl, h⟩
        · exact w.nl hB h
        · exact .inr ⟨sn, 1, hs, .inr rfl, h⟩
      obtain ⟨s7, k7, e7, A7, o7, I7, so7⟩ := rLink (n := n) (lv := (i : Int)) (sl := (sn : Int)) (u := U) (w := W) (i := p) (j := q') hR H6.th (Wp.hr i rs hrs A hA) (Wp.hr i rs hrs B hB) (Wp.al i ps hps sn hs nl 0 (.inl rfl)) (Wp.al i ps hps sn hs nl 1 (.inr rfl)) nAB (fun y hy => NL_nix hR hi (nixAB y hy)) hp hq'
      have l7 := o7.len
      have H7 := H6.only A7 fun y hy h1 h2 => o7.oth y h1 h2
      have r7 := p6 H7.hq
      have W7 := PW.link hR hi Wp hrs hps ha hb hab he hu hw hp hq' so7 I7
      have wf7 := W7.wf i _ _ (List.getElem?_set_self il1) (List.getElem?_set_self il2)
      have inR : linkR A B p q' (Ax V S sn i 0) (Ax V S sn i 1) ∈ wo ia ib 0 rs ++ [linkR A B p q' (Ax V S sn i 0) (Ax V S sn i 1)] := List.mem_append.2 (.inr (by simp))
      obtain ⟨v8, k8, e8, S8, A8, l8, o8⟩ := rList (n := n) hR A7 I7 (wf7.nod _ inR) (fun y hy => NL_nix hR hi (wf7.nl inR hy))
      have H8 := H7.only A8 o8
      have tr : ∀ y, y < k1'.length → ¬ Mt a b RW lks y → k8[y]? = k1'[y]? := fun y hy hm => by
        have na : y ≠ a := fun e => hm (.inl e)
        have nb : y ≠ b := fun e => hm (.inr (.inl e))
        have nr : y ≠ slB RW := fun e => hm (e ▸ mR)
        have nk : y ≠ slB lk := fun e => hm (e ▸ mlk)
        rw [o8 y (by omega) na nb, o7.oth y na nb, o6 y nk, o5 y nr, f4' y hy]
      have sm8 := same_t (n := n) S8.sl (S1.sl.heap fun hl => tr _ hl (nS S1 (by omega))) (WF.small hR hi wf7 inR)
      refine ⟨_, _, s7, _, _, k8, ?_, H8, W7.mono (by omega), by omega, fun y hy => by rw [tr y (by omega) (nM0 hy), O1.old y (by omega), og y (by omega)]⟩
      rw [C, call_eq, F34_eq]
      unfold F34
      simp only [go_sem, Nat.reduceAdd, Nat.reduceLeDiff, Nat.reduceMul, Int.reduceBEq, Int.reduceBNe, Int.reduceLT, Int.reduceLE, Int.reduceGT, okNil, okP_p, p31, st3, w3, z0, z1, z2, z3, z4, y3, y0, y1, lvs', aBin_lss, aBin_geq, c1, c2, c3, c4, c5, c6, c7, c8, vU, vW, a0, a1, rowA, rowB, rK, ixK, rxK, ixE, ia0, rE, k1, t1, t2, rR, ixR, rxR, ixa, rxa, ixb, rxb, e1, rR1, u1, u2, u3, u4, e2, w1, rR2, cLE_t, bRows10, x1, rR3, ea, t1', rR4, e5, rK5, rxK5, s1', s2', s3', s4', st2, e6, r6, j1, j2, j3, j4, e7, r7, e8, sm8]
    · have t2 : e.1 ≥ 0 := q1.1
      refine ⟨lvs, rvss, s, rss, pss, g, ?_, Hg, Wp.mono (by omega), by omega, fun y hy => og y (by omega)⟩
      rw [C, call_eq, F34_eq]
      unfold F34
      simp only [go_sem, Nat.reduceAdd, Nat.reduceLeDiff, Nat.reduceMul, Int.reduceBEq, Int.reduceBNe, Int.reduceLT, Int.reduceLE, Int.reduceGT, okNil, okP_p, p31, st3, w3, z0, z1, z2, z3, z4, y3, y0, y1, lvs', aBin_lss, aBin_geq, c1, c2, c3, c4, c5, c6, c7, c8, vU, vW, a0, a1, rowA, rowB, rK, ixK, rxK, ixE, ia0, rE, k1, t1, t2]
end Go.Det.E

/- The play of 10: a step. -/
namespace Go.Det.E
open Go.Proofs Go.Det Go.Det.U
attribute [local congr] bind_c cond_c
variable {h hh k h' : Heap} {a b q n n0 c : Nat} {V S T x y p f u w sl K LV SL U W : Int} {l0 : Int → Int} {pr : Int → Int} {s s' : NS} {r A B xs : List Int} {rv av bv RW LK lv lk X : Value} {i j m sn : Nat} {rs rs' : List (List Int)} {ps ps' : List (Int × Int)} {rss rss' : List (List (List Int))} {pss pss' : List (List (Int × Int))} {rvs lvs lks : List Value} {rvss : List (List Value)} {cs : List Value} {e : Int × Int}
theorem bRows10b {α : Type} {a a' : Option Addr} {l c l' c' : Nat} (h : Heap) (k : Value → Heap → Option α) : aBuildSlice Try.prog 43 2 [(0, .slice a l c), (1, .slice a' l' c')] h k = k ((Value.slice (some ⟨h.length, 0, none⟩) 2 1)) (h ++ [Blk.own [.slice a l c, .slice a' l' c']]) := by kernel_rfl
set_option maxHeartbeats 8000000 in
set_option maxRecDepth 100000 in
theorem step_cut (hR : Rt V S T) (H : H10 V S T l0 a b q n0 RW LK lvs lks rvss s rss pss h) (Wp : PW V S (prO V S T l0) c s rss pss) (hc : c < 10000) (hn0 : n ≤ n0) (hi : (i : Int) < Lv V) (hs : (sn : Int) < S) (hu : 0 ≤ U ∧ U < V) (hw : 0 ≤ W ∧ W < V) :
    ∃ lvs' rvss' s' rss' pss' h', C ⟨0, n⟩ 34 [(Value.pointer (some ⟨q, 0, none⟩)), (Value.agg #[(Value.int .i64 2), (Value.int .i64 ((i : Int))), (Value.int .i64 ((sn : Int))), (Value.int .i64 U), (Value.int .i64 W)])] h = some ((Value.bool true), h') ∧ H10 V S T l0 a b q n0 RW LK lvs' lks rvss' s' rss' pss' h' ∧ PW V S (prO V S T l0) (c + 2) s' rss' pss' ∧ h.length ≤ h'.length ∧ ∀ y, y < n0 → h'[y]? = h[y]? := by
  have hq0 := lt_of H.hq
  have lo := H.lo
  have hn : n ≤ h.length := by omega
  have q1 : (h ++ [Blk.own (opT 2 i sn U W)])[q]? = some (.own (pC V S T a RW LK)) := by rw [List.getElem?_append_left (lt_of H.hq)]; exact H.hq
  have p31 := p3 q1
  have w3 := wrN_new1 (md := ⟨0, n⟩) (h := h) (b0 := Blk.own (opT 2 i sn U W)) (bs := []) (i := 0) (cs := [(Value.int .i64 0), (Value.int .i64 0), (Value.int .i64 0)]) (vs := [(Value.int .i64 V), (Value.int .i64 S), (Value.int .i64 T)]) (Nat.zero_le _) hn (Nat.le_refl 3)
  have eL : lay [(Value.int .i64 0), (Value.int .i64 0), (Value.int .i64 0)] 0 [(Value.int .i64 V), (Value.int .i64 S), (Value.int .i64 T)] = [(Value.int .i64 V), (Value.int .i64 S), (Value.int .i64 T)] := rfl
  rw [eL] at w3
  have st3 := fun (hq : Heap) (kk : Heap → Option (Value × Heap)) => st_N ⟨0, n⟩ 3 (h.length + 1) 0 [(Value.int .i64 V), (Value.int .i64 S), (Value.int .i64 T)] hq kk rfl rfl
  generalize hg : h ++ [Blk.own (opT 2 i sn U W), Blk.own [(Value.int .i64 V), (Value.int .i64 S), (Value.int .i64 T)]] = g at w3
  have lg : g.length = h.length + 2 := by rw [← hg]; simp
  have og : ∀ y, y < h.length → g[y]? = h[y]? := fun y hy => by rw [← hg, List.getElem?_append_left hy]
  have cg : g[h.length]? = some (Blk.own (opT 2 i sn U W)) := by rw [← hg, List.getElem?_append_right (Nat.le_refl _)]; simp
  have cl : g[h.length + 1]? = some (Blk.own [(Value.int .i64 V), (Value.int .i64 S), (Value.int .i64 T)]) := by rw [← hg, List.getElem?_append_right (by omega)]; simp
  obtain ⟨z0, z1, z2, z3, z4⟩ := op_at cg
  have y3 : rdN g (h.length + 1) 0 3 = some [(Value.int .i64 V), (Value.int .i64 S), (Value.int .i64 T)] := by rw [rdN_at cl (Nat.le_refl 3)]; rfl
  have y0 : rd g (h.length + 1) 0 = some ((Value.int .i64 V)) := by rw [rd_at cl]; rfl
  have y1 : rd g (h.length + 1) 1 = some ((Value.int .i64 S)) := by rw [rd_at cl]; rfl
  have lvs' := fun (m : Md) (h : Heap) => levels_s m h hR
  have Hg := H.old og
  have c1 : ¬ ((i : Int) < 0) := by omega
  have c2 : ¬ ((i : Int) ≥ Lv V) := by omega
  have c3 : ¬ ((sn : Int) < 0) := by omega
  have c4 : ¬ ((sn : Int) ≥ S) := by omega
  have c5 : ¬ (U < 0) := by omega
  have c6 : ¬ (U ≥ V) := by omega
  have c7 : ¬ (W < 0) := by omega
  have c8 : ¬ (W ≥ V) := by omega
  obtain ⟨rs, ps, hrs, hps, w⟩ := Wp.lev hi
  obtain ⟨ll1, ll2, ll3⟩ := H.ll
  have il1 := (List.getElem?_eq_some_iff.1 hrs).1
  have il2 := (List.getElem?_eq_some_iff.1 hps).1
  obtain ⟨lvv, hlv⟩ : ∃ z, lvs[i]? = some z := ⟨lvs[i]'(by omega), List.getElem?_eq_getElem (by omega)⟩
  obtain ⟨rvs, hrv⟩ : ∃ z, rvss[i]? = some z := ⟨rvss[i]'(by omega), List.getElem?_eq_getElem (by omega)⟩
  obtain ⟨lk, hlk⟩ : ∃ z, lks[i]? = some z := ⟨lks[i]'(by omega), List.getElem?_eq_getElem (by omega)⟩
  have Xg := Hg.lr i lvv rvs rs hlv hrv hrs
  have cn := Wp.cnt i rs hrs
  have sm := fun {r} (hr : r ∈ rs) => WF.small hR hi w hr
  obtain ⟨A, hA, xA⟩ := w.cov U hu.1 hu.2
  obtain ⟨B, hB, xB⟩ := w.cov W hw.1 hw.2
  obtain ⟨ia, ha⟩ := List.mem_iff_getElem?.1 hA
  obtain ⟨ib, hb⟩ := List.mem_iff_getElem?.1 hB
  have rowA := row_s10 (n := n) (x := Vx V i U) Hg.hq Hg.rw hlv Xg (by omega) (fun r hr => sm hr) w.dj ha xA
  have rowB := row_s10 (n := n) (x := Vx V i W) Hg.hq Hg.rw hlv Xg (by omega) (fun r hr => sm hr) w.dj hb xB
  have vU := fun (m : Md) (h : Heap) => vertex_s m h (a := (i : Int)) (b := U) hR
  have vW := fun (m : Md) (h : Heap) => vertex_s m h (a := (i : Int)) (b := W) hR
  have a0 := fun (m : Md) (h : Heap) => arc_s m h (a := (sn : Int)) (b := (i : Int)) (c := 0) hR
  have a1 := fun (m : Md) (h : Heap) => arc_s m h (a := (sn : Int)) (b := (i : Int)) (c := 1) hR
  have psl : sn < ps.length := by have := w.len; omega
  obtain ⟨e, he⟩ : ∃ z, ps[sn]? = some z := ⟨ps[sn]'psl, List.getElem?_eq_getElem psl⟩
  have rK := pLK Hg.hq
  obtain ⟨ixK, rxK⟩ := Sl.getV Hg.lk hlk
  have P2 := Hg.lp i lk ps hlk hps
  have ixE := fun {α : Type} (kk : Value → Option α) => P2.ix (i := (sn : Int)) (by omega) (by omega) kk
  simp only [Int.toNat_natCast] at ixE
  have rE : rd g (slB lk) (slO lk + sn * 2) = some ((Value.int .i64 e.1)) := P2.cell he (j := 0) (by decide)
  have ia0 := fun {α : Type} (kk : Value → Option α) => ixA_p 1 (slB lk) (slO lk + sn * 2) 2 0 kk (by omega)
  simp only [show (0 : Int).toNat = 0 from rfl, Nat.zero_mul, Nat.add_zero] at ia0
  have nM : ∀ {y}, h.length ≤ y → ¬ Mt a b RW lks y := fun hy hm => by have := H.lt_mt hm; omega
  have nM0 : ∀ {y}, y < n0 → ¬ Mt a b RW lks y := fun hy hm => by have := H.lt_mt hm; omega
  have nS : ∀ {m sz : Nat} {ε : Type} {enc : ε → List Value} {k : Heap} {v : Value} {xs : List ε}, SlO k m sz enc v xs → h.length ≤ m → ¬ Mt a b RW lks (slB v) := fun {m sz ε enc k v xs} S hm => by
    rcases S.own with rfl | ⟨q1, _⟩
    · exact nM0 (show 0 < n0 by omega)
    · exact nM (by omega)
  have mR : Mt a b RW lks (slB RW) := .inr (.inr (.inl rfl))
  have mlk : Mt a b RW lks (slB lk) := .inr (.inr (.inr ⟨lk, List.mem_of_getElem? hlk, rfl⟩))
  have ltR := H.lt_mt mR
  have ltK := H.lt_mt mlk
  have k1 : ((2 : Int) == 1) = false := rfl
  have k2 : ((2 : Int) == 2) = true := rfl
  rcases w.val sn e he with rfl | ⟨q1, _⟩
  · have t2 : ¬ ((-1 : Int) ≥ 0) := by decide
    refine ⟨lvs, rvss, s, rss, pss, g, ?_, Hg, Wp.mono (by omega), by omega, fun y hy => og y (by omega)⟩
    rw [C, call_eq, F34_eq]
    unfold F34
    simp only [go_sem, Nat.reduceAdd, Nat.reduceLeDiff, Nat.reduceMul, Int.reduceBEq, Int.reduceBNe, Int.reduceLT, Int.reduceLE, Int.reduceGT, okNil, okP_p, p31, st3, w3, z0, z1, z2, z3, z4, y3, y0, y1, lvs', aBin_lss, aBin_geq, c1, c2, c3, c4, c5, c6, c7, c8, vU, vW, a0, a1, rowA, rowB, rK, ixK, rxK, ixE, ia0, rE, k1, k2, t2]
  · have t2 : e.1 ≥ 0 := q1.1
    obtain ⟨r, hr, f0⟩ := w.lin sn e ⟨he, q1.1⟩
    obtain ⟨ir, hir⟩ := List.mem_iff_getElem?.1 hr
    have rowC := row_s10 (n := n) (x := Ax V S sn i 0) Hg.hq Hg.rw hlv Xg (by omega) (fun r hr => sm hr) w.dj hir f0.1
    have tkn : Ax V S sn i 0 ≠ Ax V S sn i 1 := fun h => by have := (A_pos hR hi hi hs hs (.inl rfl) (.inr rfl) h).2.2; omega
    obtain ⟨cc, dd, P, I, Q, hcd, er⟩ := split_two f0.1 f0.2.1 tkn
    have hcd2 : (Ax V S sn i 0 = cc ∧ Ax V S sn i 1 = dd) ∨ (Ax V S sn i 0 = dd ∧ Ax V S sn i 1 = cc) := by
      rcases hcd with ⟨q, q'⟩ | ⟨q, q'⟩
      · exact .inl ⟨q.symm, q'.symm⟩
      · exact .inr ⟨q'.symm, q.symm⟩
    have rR := pRW Hg.hq
    obtain ⟨ixR, rxR⟩ := Sl.getV Hg.rw hlv
    have rvl := Xg.len
    have irl := (List.getElem?_eq_some_iff.1 hir).1
    obtain ⟨av, hav⟩ : ∃ z, rvs[ir]? = some z := ⟨rvs[ir]'(by omega), List.getElem?_eq_getElem (by omega)⟩
    obtain ⟨ixa, rxa⟩ := Sl.getV Xg.sl hav
    obtain ⟨v1, v1', k1', e1, S1, S1b, O1⟩ := refCut (n := n) (c' := Ax V S sn i 0) (d' := Ax V S sn i 1) (Xg.f2.get ir av r hav hir) (by omega) (sm hr) er hcd2 (w.nod r hr)
    have l1 := O1.len
    have H1 := Hg.old O1.old
    have rR1 := pRW H1.hq
    obtain ⟨_, u1, u2, u3, u4⟩ := op_at ((O1.old _ (by omega)).trans cg)
    obtain ⟨v2, k2', e2, S2, O2⟩ := without_s10 (n := n) (i := ir) (k := ir) H1.hq H1.rw hlv (H1.lr i lvv rvs rs hlv hrv hrs) (by omega)
    have l2 := O2.len
    have H2 := H1.old O2.old
    have rR2 := pRW H2.hq
    obtain ⟨_, w1, w2', w3', w4⟩ := op_at ((O2.old _ (by omega)).trans ((O1.old _ (by omega)).trans cg))
    obtain ⟨a3, b3, d3, rfl⟩ := Sl.sliceV S1.sl
    obtain ⟨a3', b3', d3', rfl⟩ := Sl.sliceV S1b.sl
    have H3 := H2.old (h' := k2' ++ [Blk.own [.slice a3 b3 d3, .slice a3' b3' d3']]) fun y hy => List.getElem?_append_left hy
    have rR3 := pRW H3.hq
    obtain ⟨_, x1, x2, x3, x4⟩ := op_at (show (k2' ++ [Blk.own [.slice a3 b3 d3, .slice a3' b3' d3']])[h.length]? = _ by rw [List.getElem?_append_left (by omega), O2.old _ (by omega), O1.old _ (by omega)]; exact cg)
    obtain ⟨v4, k4, ea, S4, l4, f4⟩ := append_own2 (md := ⟨0, n⟩) (ys := [Value.slice a3 b3 d3, Value.slice a3' b3' d3']) tRows10 S2 (Nat.zero_le _) l2 (cs := [Value.slice a3 b3 d3, Value.slice a3' b3' d3']) (by simp [flat]) (by simp) rfl (by have := (wo_sub ir ir rvs 0).length_le; simp; omega)
    simp only [List.length_cons, List.length_nil, Nat.zero_add] at ea
    have f4' : ∀ y, y < k1'.length → k4[y]? = k1'[y]? := fun y hy => (f4 y (by omega) (S2.own.imp id fun q => by omega)).trans (O2.old y hy)
    have H4 := H1.old f4'
    have rR4 := pRW H4.hq
    obtain ⟨_, t1', t2', t3', t4'⟩ := op_at ((f4' _ (by omega)).trans ((O1.old _ (by omega)).trans cg))
    obtain ⟨a5, b5, d5, rfl⟩ := Sl.sliceV S4.sl
    have X4 : LR k4 (.slice a5 b5 d5) (wo ir ir 0 rvs ++ [.slice a3 b3 d3, .slice a3' b3' d3']) (wo ir ir 0 rs ++ [I, P ++ Q]) :=
      ⟨S4.sl, F2.app (F2.wo ir ir 0 (H4.lr i lvv rvs rs hlv hrv hrs).f2) ⟨S1.sl.heap fun hl => f4' _ hl, S1b.sl.heap fun hl => f4' _ hl, trivial⟩⟩
    obtain ⟨k5, e5, H5, l5, o5⟩ := H4.setRow (md := ⟨0, n⟩) (i := i) (by omega) X4 (nS S4 (by omega)) (fun rv hrv' => by
      rcases List.mem_append.1 hrv' with z | z
      · exact H.sv rvs (List.mem_of_getElem? hrv) rv ((wo_sub ir ir rvs 0).subset z)
      · simp only [List.mem_cons, List.not_mem_nil, or_false] at z
        rcases z with z | z
        · subst z; exact nS S1 (by omega)
        · subst z; exact nS S1b (by omega)) (Nat.zero_le _) (by show n ≤ _; omega)
    have rK5 := pLK H5.hq
    obtain ⟨_, rxK5⟩ := Sl.getV H5.lk hlk
    obtain ⟨_, s1', s2', s3', s4'⟩ := op_at ((o5 h.length (by omega)).trans ((f4' _ (by omega)).trans ((O1.old _ (by omega)).trans cg)))
    obtain ⟨k6, e6, H6, l6, o6⟩ := H5.setLk (md := ⟨0, n⟩) hlk hps psl (-1, -1) (Nat.zero_le _)
    simp only [] at e6
    have st2 := fun (hq : Heap) (kk : Heap → Option (Value × Heap)) => st_N ⟨0, n⟩ 2 (slB lk) (slO lk + sn * 2) [(Value.int .i64 (-1)), (Value.int .i64 (-1))] hq kk rfl rfl
    have r6 := p6 H6.hq
    obtain ⟨_, j1, j2, j3, j4⟩ := op_at ((o6 h.length (by omega)).trans ((o5 h.length (by omega)).trans ((f4' _ (by omega)).trans ((O1.old _ (by omega)).trans cg))))
    obtain ⟨s7, k7, e7, A7, o7, I7, I7', I70, I71, so7⟩ := rCut (n := n) (lv := (i : Int)) (sl := (sn : Int)) hR H6.th hcd er (Wp.hr i rs hrs r hr) (w.nod r hr) (fun y hy => NL_nix hR hi (w.nl hr hy))
    have l7 := o7.len
    have H7 := H6.only A7 fun y hy h1 h2 => o7.oth y h1 h2
    have r7 := p6 H7.hq
    have W7 := PW.cut hR hi Wp hrs hps hir ⟨he, q1.1⟩ hcd er so7 I7 I7' I70 I71
    have wf7 := W7.wf i _ _ (List.getElem?_set_self il1) (List.getElem?_set_self il2)
    have inI : I ∈ wo ir ir 0 rs ++ [I, P ++ Q] := by simp
    have inO : P ++ Q ∈ wo ir ir 0 rs ++ [I, P ++ Q] := by simp
    obtain ⟨v8, k8, e8, S8, A8, l8, o8⟩ := rList (n := n) hR A7 I7 (wf7.nod _ inI) (fun y hy => NL_nix hR hi (wf7.nl inI hy))
    have H8 := H7.only A8 o8
    have r8 := p6 H8.hq
    obtain ⟨v9, k9, e9, S9, A9, l9, o9⟩ := rList (n := n) hR A8 I7' (wf7.nod _ inO) (fun y hy => NL_nix hR hi (wf7.nl inO hy))
    have H9 := H8.only A9 o9
    have tr : ∀ y, y < k1'.length → ¬ Mt a b RW lks y → k8[y]? = k1'[y]? := fun y hy hm => by
      have na : y ≠ a := fun e => hm (.inl e)
      have nb : y ≠ b := fun e => hm (.inr (.inl e))
      have nr : y ≠ slB RW := fun e => hm (e ▸ mR)
      have nk : y ≠ slB lk := fun e => hm (e ▸ mlk)
      rw [o8 y (by omega) na nb, o7.oth y na nb, o6 y nk, o5 y nr, f4' y hy]
    have tr9 : ∀ y, y < k1'.length → ¬ Mt a b RW lks y → k9[y]? = k1'[y]? := fun y hy hm => (o9 y (by omega) (fun e => hm (.inl e)) (fun e => hm (.inr (.inl e)))).trans (tr y hy hm)
    have sm8 := same_t (n := n) S8.sl (S1.sl.heap fun hl => tr _ hl (nS S1 (by omega))) (WF.small hR hi wf7 inI)
    have sm9 := same_t (n := n) S9.sl (S1b.sl.heap fun hl => tr9 _ hl (nS S1b (by omega))) (WF.small hR hi wf7 inO)
    refine ⟨_, _, s7, _, _, k9, ?_, H9, W7, by omega, fun y hy => by rw [tr9 y (by omega) (nM0 hy), O1.old y (by omega), og y (by omega)]⟩
    rw [C, call_eq, F34_eq]
    unfold F34
    simp only [go_sem, Nat.reduceAdd, Nat.reduceLeDiff, Nat.reduceMul, Int.reduceBEq, Int.reduceBNe, Int.reduceLT, Int.reduceLE, Int.reduceGT, okNil, okP_p, p31, st3, w3, z0, z1, z2, z3, z4, y3, y0, y1, lvs', aBin_lss, aBin_geq, c1, c2, c3, c4, c5, c6, c7, c8, vU, vW, a0, a1, rowA, rowB, rK, ixK, rxK, ixE, ia0, rE, k1, k2, t2, rowC, rR, ixR, rxR, ixa, rxa, e1, rR1, u1, u2, u3, u4, e2, w1, rR2, cLE_t, bRows10b, x1, rR3, ea, t1', rR4, e5, rK5, rxK5, s1', s2', s3', s4', st2, e6, r6, j1, j2, j3, j4, e7, r7, e8, sm8, r8, e9, sm9]
end Go.Det.E

/- The play of 10: a step. -/
namespace Go.Det.E
open Go.Proofs Go.Det Go.Det.U
attribute [local congr] bind_c cond_c
variable {h hh k h' : Heap} {a b q n n0 c : Nat} {V S T x y p f u w sl K LV SL U W : Int} {l0 : Int → Int} {pr : Int → Int} {s s' : NS} {r A B xs : List Int} {rv av bv RW LK lv lk X : Value} {i j m sn : Nat} {rs rs' : List (List Int)} {ps ps' : List (Int × Int)} {rss rss' : List (List (List Int))} {pss pss' : List (List (Int × Int))} {rvs lvs lks : List Value} {rvss : List (List Value)} {cs : List Value} {e : Int × Int}
/-! Slices of slices are appended. -/
abbrev S3 := Option Addr × Nat × Nat
abbrev sv3 (t : S3) : Value := .slice t.1 t.2.1 t.2.2
abbrev eS3 (t : S3) : List Value := [sv3 t]
theorem flat_s3 (ts : List S3) : flat eV (ts.map sv3) = flat eS3 ts := by
  induction ts with
  | nil => rfl
  | cons t ts ih => rw [List.map_cons, flat_cons, flat_cons, ih]
theorem Sl.to3 {ts : List S3} {v : Value} (S : Sl h 1 eV v (ts.map sv3)) : Sl h 1 eS3 v ts := by
  refine ⟨fun _ => rfl, ?_⟩
  rcases S.is with ⟨e1, e2⟩ | ⟨b, o, kb, e1, hb, hc, hl⟩
  · exact .inl ⟨e1, by simpa using e2⟩
  · rw [List.length_map] at e1 hc hl
    exact .inr ⟨b, o, kb, e1, hb, by rw [hc, flat_s3], hl⟩
theorem Sl.of3 {ts : List S3} {v : Value} (S : Sl h 1 eS3 v ts) : Sl h 1 eV v (ts.map sv3) := by
  refine ⟨fun _ => rfl, ?_⟩
  rcases S.is with ⟨e1, e2⟩ | ⟨b, o, kb, e1, hb, hc, hl⟩
  · exact .inl ⟨e1, by simp [e2]⟩
  · exact .inr ⟨b, o, kb, by rw [List.length_map]; exact e1, hb, by rw [List.length_map, hc, flat_s3], by rw [List.length_map]; exact hl⟩
theorem all3 : ∀ {rvs : List Value}, (∀ rv ∈ rvs, ∃ a l c, rv = Value.slice a l c) → ∃ ts : List S3, rvs = ts.map sv3 := by
  intro rvs
  induction rvs with
  | nil => intro _; exact ⟨[], rfl⟩
  | cons v rvs ih =>
    intro h
    obtain ⟨a, l, c, rfl⟩ := h v (by simp)
    obtain ⟨ts, rfl⟩ := ih fun rv hrv => h rv (by simp [hrv])
    exact ⟨(a, l, c) :: ts, rfl⟩
theorem app3 {n0 : Nat} {sv xv : Value} {rvs : List Value} (S : SlO h n0 1 eV sv []) (X : Sl h 1 eV xv rvs) (hsl : ∀ rv ∈ rvs, ∃ a l c, rv = Value.slice a l c) (hn0 : n0 ≤ h.length) (hl : rvs.length < 100000) :
    ∃ v' h', (∀ {α : Type} (k : Value → Heap → Option α), aBuiltin Try.prog ⟨0, n⟩ .append #[43, 43] [sv, xv] h k = k v' h') ∧ SlO h' n0 1 eV v' rvs ∧ Old n0 h h' := by
  obtain ⟨ts, rfl⟩ := all3 hsl
  rw [List.length_map] at hl
  have S3' : SlO h n0 1 eS3 sv [] := ⟨Sl.to3 (ts := []) S.sl, S.own⟩
  obtain ⟨v', h', e, S', O⟩ := append_sl (md := ⟨0, n⟩) tRows10 S3' (Sl.to3 X) (Nat.zero_le _) hn0 (fun x => rfl) (by simp; omega)
  exact ⟨v', h', e, ⟨Sl.of3 S'.sl, S'.own⟩, O⟩
set_option maxHeartbeats 8000000 in
set_option maxRecDepth 100000 in
theorem step_begin (hR : Rt V S T) (H : H10 V S T l0 a b q n0 RW LK lvs lks rvss s rss pss h) (Wp : PW V S (prO V S T l0) c s rss pss) (hc : c < 10000) (hn0 : n ≤ n0) (hi : (i : Int) < Lv V) (hs : (sn : Int) < S) (hu : 0 ≤ U ∧ U < V) (hw : 0 ≤ W ∧ W < V) :
    ∃ lvs' rvss' s' rss' pss' h', C ⟨0, n⟩ 34 [(Value.pointer (some ⟨q, 0, none⟩)), (Value.agg #[(Value.int .i64 3), (Value.int .i64 ((i : Int))), (Value.int .i64 ((sn : Int))), (Value.int .i64 U), (Value.int .i64 W)])] h = some ((Value.bool true), h') ∧ H10 V S T l0 a b q n0 RW LK lvs' lks rvss' s' rss' pss' h' ∧ PW V S (prO V S T l0) (c + 2) s' rss' pss' ∧ h.length ≤ h'.length ∧ ∀ y, y < n0 → h'[y]? = h[y]? := by
  have hq0 := lt_of H.hq
  have lo := H.lo
  have hn : n ≤ h.length := by omega
  have q1 : (h ++ [Blk.own (opT 3 i sn U W)])[q]? = some (.own (pC V S T a RW LK)) := by rw [List.getElem?_append_left (lt_of H.hq)]; exact H.hq
  have p31 := p3 q1
  have w3 := wrN_new1 (md := ⟨0, n⟩) (h := h) (b0 := Blk.own (opT 3 i sn U W)) (bs := []) (i := 0) (cs := [(Value.int .i64 0), (Value.int .i64 0), (Value.int .i64 0)]) (vs := [(Value.int .i64 V), (Value.int .i64 S), (Value.int .i64 T)]) (Nat.zero_le _) hn (Nat.le_refl 3)
  have eL : lay [(Value.int .i64 0), (Value.int .i64 0), (Value.int .i64 0)] 0 [(Value.int .i64 V), (Value.int .i64 S), (Value.int .i64 T)] = [(Value.int .i64 V), (Value.int .i64 S), (Value.int .i64 T)] := rfl
  rw [eL] at w3
  have st3 := fun (hq : Heap) (kk : Heap → Option (Value × Heap)) => st_N ⟨0, n⟩ 3 (h.length + 1) 0 [(Value.int .i64 V), (Value.int .i64 S), (Value.int .i64 T)] hq kk rfl rfl
  generalize hg : h ++ [Blk.own (opT 3 i sn U W), Blk.own [(Value.int .i64 V), (Value.int .i64 S), (Value.int .i64 T)]] = g at w3
  have lg : g.length = h.length + 2 := by rw [← hg]; simp
  have og : ∀ y, y < h.length → g[y]? = h[y]? := fun y hy => by rw [← hg, List.getElem?_append_left hy]
  have cg : g[h.length]? = some (Blk.own (opT 3 i sn U W)) := by rw [← hg, List.getElem?_append_right (Nat.le_refl _)]; simp
  have cl : g[h.length + 1]? = some (Blk.own [(Value.int .i64 V), (Value.int .i64 S), (Value.int .i64 T)]) := by rw [← hg, List.getElem?_append_right (by omega)]; simp
  obtain ⟨z0, z1, z2, z3, z4⟩ := op_at cg
  have y3 : rdN g (h.length + 1) 0 3 = some [(Value.int .i64 V), (Value.int .i64 S), (Value.int .i64 T)] := by rw [rdN_at cl (Nat.le_refl 3)]; rfl
  have y0 : rd g (h.length + 1) 0 = some ((Value.int .i64 V)) := by rw [rd_at cl]; rfl
  have y1 : rd g (h.length + 1) 1 = some ((Value.int .i64 S)) := by rw [rd_at cl]; rfl
  have lvs' := fun (m : Md) (h : Heap) => levels_s m h hR
  have Hg := H.old og
  have c1 : ¬ ((i : Int) < 0) := by omega
  have c2 : ¬ ((i : Int) ≥ Lv V) := by omega
  have c3 : ¬ ((sn : Int) < 0) := by omega
  have c4 : ¬ ((sn : Int) ≥ S) := by omega
  have c5 : ¬ (U < 0) := by omega
  have c6 : ¬ (U ≥ V) := by omega
  have c7 : ¬ (W < 0) := by omega
  have c8 : ¬ (W ≥ V) := by omega
  obtain ⟨rs, ps, hrs, hps, w⟩ := Wp.lev hi
  obtain ⟨ll1, ll2, ll3⟩ := H.ll
  have il1 := (List.getElem?_eq_some_iff.1 hrs).1
  have il2 := (List.getElem?_eq_some_iff.1 hps).1
  obtain ⟨lvv, hlv⟩ : ∃ z, lvs[i]? = some z := ⟨lvs[i]'(by omega), List.getElem?_eq_getElem (by omega)⟩
  obtain ⟨rvs, hrv⟩ : ∃ z, rvss[i]? = some z := ⟨rvss[i]'(by omega), List.getElem?_eq_getElem (by omega)⟩
  obtain ⟨lk, hlk⟩ : ∃ z, lks[i]? = some z := ⟨lks[i]'(by omega), List.getElem?_eq_getElem (by omega)⟩
  have Xg := Hg.lr i lvv rvs rs hlv hrv hrs
  have cn := Wp.cnt i rs hrs
  have sm := fun {r} (hr : r ∈ rs) => WF.small hR hi w hr
  obtain ⟨A, hA, xA⟩ := w.cov U hu.1 hu.2
  obtain ⟨B, hB, xB⟩ := w.cov W hw.1 hw.2
  obtain ⟨ia, ha⟩ := List.mem_iff_getElem?.1 hA
  obtain ⟨ib, hb⟩ := List.mem_iff_getElem?.1 hB
  have rowA := row_s10 (n := n) (x := Vx V i U) Hg.hq Hg.rw hlv Xg (by omega) (fun r hr => sm hr) w.dj ha xA
  have rowB := row_s10 (n := n) (x := Vx V i W) Hg.hq Hg.rw hlv Xg (by omega) (fun r hr => sm hr) w.dj hb xB
  have vU := fun (m : Md) (h : Heap) => vertex_s m h (a := (i : Int)) (b := U) hR
  have vW := fun (m : Md) (h : Heap) => vertex_s m h (a := (i : Int)) (b := W) hR
  have a0 := fun (m : Md) (h : Heap) => arc_s m h (a := (sn : Int)) (b := (i : Int)) (c := 0) hR
  have a1 := fun (m : Md) (h : Heap) => arc_s m h (a := (sn : Int)) (b := (i : Int)) (c := 1) hR
  have psl : sn < ps.length := by have := w.len; omega
  obtain ⟨e, he⟩ : ∃ z, ps[sn]? = some z := ⟨ps[sn]'psl, List.getElem?_eq_getElem psl⟩
  have rK := pLK Hg.hq
  obtain ⟨ixK, rxK⟩ := Sl.getV Hg.lk hlk
  have P2 := Hg.lp i lk ps hlk hps
  have ixE := fun {α : Type} (kk : Value → Option α) => P2.ix (i := (sn : Int)) (by omega) (by omega) kk
  simp only [Int.toNat_natCast] at ixE
  have rE : rd g (slB lk) (slO lk + sn * 2) = some ((Value.int .i64 e.1)) := P2.cell he (j := 0) (by decide)
  have ia0 := fun {α : Type} (kk : Value → Option α) => ixA_p 1 (slB lk) (slO lk + sn * 2) 2 0 kk (by omega)
  simp only [show (0 : Int).toNat = 0 from rfl, Nat.zero_mul, Nat.add_zero] at ia0
  have nM : ∀ {y}, h.length ≤ y → ¬ Mt a b RW lks y := fun hy hm => by have := H.lt_mt hm; omega
  have nM0 : ∀ {y}, y < n0 → ¬ Mt a b RW lks y := fun hy hm => by have := H.lt_mt hm; omega
  have nS : ∀ {m sz : Nat} {ε : Type} {enc : ε → List Value} {k : Heap} {v : Value} {xs : List ε}, SlO k m sz enc v xs → h.length ≤ m → ¬ Mt a b RW lks (slB v) := fun {m sz ε enc k v xs} S hm => by
    rcases S.own with rfl | ⟨q1, _⟩
    · exact nM0 (show 0 < n0 by omega)
    · exact nM (by omega)
  have mR : Mt a b RW lks (slB RW) := .inr (.inr (.inl rfl))
  have mlk : Mt a b RW lks (slB lk) := .inr (.inr (.inr ⟨lk, List.mem_of_getElem? hlk, rfl⟩))
  have ltR := H.lt_mt mR
  have ltK := H.lt_mt mlk
  have k1 : ((3 : Int) == 1) = false := rfl
  have k2 : ((3 : Int) == 2) = false := rfl
  have k3 : ((3 : Int) == 3) = true := rfl
  have rR := pRW Hg.hq
  obtain ⟨ixR, rxR⟩ := Sl.getV Hg.rw hlv
  have rvl := Xg.len
  have ial := (List.getElem?_eq_some_iff.1 ha).1
  obtain ⟨av, hav⟩ : ∃ z, rvs[ia]? = some z := ⟨rvs[ia]'(by omega), List.getElem?_eq_getElem (by omega)⟩
  obtain ⟨ixa, rxa⟩ := Sl.getV Xg.sl hav
  obtain ⟨p, hp⟩ := List.mem_iff_getElem?.1 xA
  obtain ⟨v1, k1', e1, S1, O1⟩ := refBegun (n := n) (Xg.f2.get ia av A hav ha) (w.nod A hA) hp (sm hA)
  have l1 := O1.len
  have H1 := Hg.old O1.old
  have rR1 := pRW H1.hq
  obtain ⟨_, rxR1⟩ := Sl.getV H1.rw hlv
  obtain ⟨_, u1, u2, u3, u4⟩ := op_at ((O1.old _ (by omega)).trans cg)
  have o2 : ∀ y, y < k1'.length → (k1' ++ [Blk.own []])[y]? = k1'[y]? := fun y hy => List.getElem?_append_left hy
  have H2 := H1.old o2
  have rR2 := pRW H2.hq
  obtain ⟨_, rxR2⟩ := Sl.getV H2.rw hlv
  obtain ⟨_, w1, w2', w3', w4⟩ := op_at ((o2 _ (by omega)).trans ((O1.old _ (by omega)).trans cg))
  have b2 : (k1' ++ [Blk.own []])[k1'.length]? = some (.own []) := List.getElem?_concat_length ..
  have S2 : SlO (k1' ++ [Blk.own []]) k1'.length 1 eV ((Value.slice (some ⟨k1'.length, 0, none⟩) 0 1)) [] := ⟨Sl.whole eV_len b2 rfl rfl, .inr ⟨Nat.le_refl _, _, b2⟩⟩
  obtain ⟨v4, k4, ea, S4, O4⟩ := app3 (n := n) S2 (H2.lr i lvv rvs rs hlv hrv hrs).sl (fun rv hrv' => by
    obtain ⟨j, hj⟩ := List.mem_iff_getElem?.1 hrv'
    obtain ⟨r', hr'⟩ : ∃ r', rs[j]? = some r' := ⟨rs[j]'(by have := (List.getElem?_eq_some_iff.1 hj).1; omega), List.getElem?_eq_getElem _⟩
    exact Sl.sliceV (Xg.f2.get j rv r' hj hr')) (by simp) (by omega)
  have f4' : ∀ y, y < k1'.length → k4[y]? = k1'[y]? := fun y hy => (O4.old y hy).trans (o2 y hy)
  have l4 := O4.len
  simp only [List.length_append, List.length_cons, List.length_nil] at l4
  have H4 := H1.old f4'
  obtain ⟨a3, b3, d3, rfl⟩ := Sl.sliceV S1.sl
  obtain ⟨bb4, cs4, hc4⟩ : k1'.length ≤ slB v4 ∧ ∃ cs, k4[slB v4]? = some (.own cs) := by
    rcases S4.own with q | q
    · subst q
      have := S4.nil_of
      rw [this] at hav
      simp at hav
    · exact q
  obtain ⟨k4b, e4b, S4b, l4b, _, o4b⟩ := Sl.put (md := ⟨0, n⟩) (x := Value.slice a3 b3 d3) S4.sl hc4 (show ia < rvs.length by omega) (Nat.zero_le _) (.inl (by show n ≤ _; omega))
  have ix4 := fun {α : Type} (kk : Value → Option α) => S4.sl.ix (i := (ia : Int)) (by omega) (by omega) kk
  simp only [Int.toNat_natCast, Nat.mul_one] at ix4 e4b
  have f4b : ∀ y, y < k1'.length → k4b[y]? = k1'[y]? := fun y hy => (o4b y (by omega)).trans (f4' y hy)
  have H4b := H1.old f4b
  have rR4 := pRW H4b.hq
  obtain ⟨_, t1', t2', t3', t4'⟩ := op_at ((f4b _ (by omega)).trans ((O1.old _ (by omega)).trans cg))
  obtain ⟨a5, b5, d5, rfl⟩ := Sl.sliceV S4.sl
  have Xf := (H4b.lr i lvv rvs rs hlv hrv hrs).f2
  have X4 : LR k4b (.slice a5 b5 d5) (rvs.set ia (.slice a3 b3 d3)) (rs.set ia (rotR A p)) :=
    ⟨S4b, F2.mk (by simp [rvl]) fun j rv r h1 h2 => by
      rcases set_get h1 with ⟨e, rfl⟩ | ⟨e, h1⟩
      · rcases set_get h2 with ⟨_, rfl⟩ | ⟨e', _⟩
        · exact S1.sl.heap fun hl => f4b _ hl
        · exact absurd e e'
      · rcases set_get h2 with ⟨e', _⟩ | ⟨_, h2⟩
        · exact absurd e' e
        · exact Xf.get j rv r h1 h2⟩
  obtain ⟨k5, e5, H5, l5, o5⟩ := H4b.setRow (md := ⟨0, n⟩) (i := i) (by omega) X4 (nM (by omega)) (fun rv hrv' => by
    rcases mem_set hrv' with z | z
    · subst z; exact nS S1 (by omega)
    · exact H.sv rvs (List.mem_of_getElem? hrv) rv z) (Nat.zero_le _) (by show n ≤ _; omega)
  have r6 := p6 H5.hq
  obtain ⟨_, s1', s2', s3', s4'⟩ := op_at ((o5 h.length (by omega)).trans ((f4b _ (by omega)).trans ((O1.old _ (by omega)).trans cg)))
  obtain ⟨s7, k7, e7, A7, o7, I7, so7⟩ := rBegin (n := n) (lv := (i : Int)) (u := U) hR H5.th (Wp.hr i rs hrs A hA) (w.nod A hA) (fun y hy => NL_nix hR hi (w.nl hA hy)) hp
  have l7 := o7.len
  have H7 := H5.only A7 fun y hy h1 h2 => o7.oth y h1 h2
  have r7 := p6 H7.hq
  have W7 := PW.begin hR hi Wp hrs hps ha so7 I7
  have wf7 := W7.wf i _ _ (List.getElem?_set_self il1) hps
  have inR : rotR A p ∈ rs.set ia (rotR A p) := List.mem_iff_getElem?.2 ⟨ia, by rw [List.getElem?_set_self ial]⟩
  obtain ⟨v8, k8, e8, S8, A8, l8, o8⟩ := rList (n := n) hR A7 I7 (wf7.nod _ inR) (fun y hy => NL_nix hR hi (wf7.nl inR hy))
  have H8 := H7.only A8 o8
  have tr : ∀ y, y < k1'.length → ¬ Mt a b RW lks y → k8[y]? = k1'[y]? := fun y hy hm => by
    have na : y ≠ a := fun e => hm (.inl e)
    have nb : y ≠ b := fun e => hm (.inr (.inl e))
    have nr : y ≠ slB RW := fun e => hm (e ▸ mR)
    rw [o8 y (by omega) na nb, o7.oth y na nb, o5 y nr, f4b y hy]
  have sm8 := same_t (n := n) S8.sl (S1.sl.heap fun hl => tr _ hl (nS S1 (by omega))) (WF.small hR hi wf7 inR)
  refine ⟨_, _, s7, _, _, k8, ?_, H8, W7.mono (by omega), by omega, fun y hy => by rw [tr y (by omega) (nM0 hy), O1.old y (by omega), og y (by omega)]⟩
  rw [C, call_eq, F34_eq]
  unfold F34
  simp only [go_sem, Nat.reduceAdd, Nat.reduceLeDiff, Nat.reduceMul, Int.reduceBEq, Int.reduceBNe, Int.reduceLT, Int.reduceLE, Int.reduceGT, okNil, okP_p, p31, st3, w3, z0, z1, z2, z3, z4, y3, y0, y1, lvs', aBin_lss, aBin_geq, c1, c2, c3, c4, c5, c6, c7, c8, vU, vW, a0, a1, rowA, rowB, rK, ixK, rxK, ixE, ia0, rE, k1, k2, k3, rR, ixR, rxR, ixa, rxa, e1, rR1, rxR1, u1, u2, u3, u4, rR2, rxR2, w1, cLE_t, ea, ix4, e4b, rR4, t1', e5, s1', s2', s3', s4', r6, e7, r7, e8, sm8]
end Go.Det.E
