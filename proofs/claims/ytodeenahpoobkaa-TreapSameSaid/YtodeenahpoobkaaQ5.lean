/- The laws of 09: is the machine awake. -/
import Derived.Test.YtodeenahpoobkaaQ2
import Derived.Test.YtodeenahpoobkaaE8
import Derived.Test.YtodeenahpoobkaaEC
set_option autoImplicit false
set_option linter.unusedVariables false
set_option linter.unusedSimpArgs false
namespace Go.Det.E
open Go.Proofs Go.Det Go.Det.U
attribute [local congr] bind_c cond_c
theorem take_same {h k : Heap} (hl : h.length ≤ k.length) (o : ∀ y, y < h.length → k[y]? = h[y]?) : k.take h.length = h := by
  refine List.ext_getElem? fun y => ?_
  by_cases hy : y < h.length
  · rw [List.getElem?_take_of_lt hy]; exact o y hy
  · rw [List.getElem?_eq_none (by rw [List.length_take]; omega), List.getElem?_eq_none (by omega)]
theorem awake9 (n : Nat) (h : Heap) : C ⟨0, n⟩ 14 [] h = some ((Value.bool true), h) := by
  have hR : Rt 3 0 1 := by unfold Rt; omega
  have hN : ((6 : Nat) : Int) = Nn 3 0 := by decide
  obtain ⟨k1, q, a, b, l0, s1, P, M, W, R, rvs, e1, Y1, l1, o1, lq, la, lb, lm, dr⟩ := begun9 (md := ⟨0, h.length⟩) (h := h) (ov := .slice none 0 0) (dv := .slice none 0 0) (D := []) hR hN rfl (Nat.le_refl _) (Sl.nil _ eU_len) (fun _ h => by simp at h) (by simp)
  have hm : ∀ y, mk0 y < 4 := fun _ => by show 0 < 4; omega
  have qa := Y1.g.qa
  have qb := Y1.g.qb
  have hq1 := Y1.g.hq
  have A1 := Y1.g.th
  have sg : ∀ y : Nat, 1 ≤ y → y < 7 → IsT mk0 (vxB 3) s1 (single y) 0 := fun y h1 h2 => (Y1.i.tr (single y) (singles_mem.2 ⟨y, rfl, h1, h2⟩)).2.2.2.2
  have pr0 : ∀ y : Nat, 1 ≤ y → y ≤ 6 → prO 3 0 1 l0 (y : Int) = 0 := fun y h1 h2 => dr y h1 h2
  have p1 := pr0 1 (by omega) (by omega)
  have p2 := pr0 2 (by omega) (by omega)
  have p3 := pr0 3 (by omega) (by omega)
  have ab12 : ab (prO 3 0 1 l0) 1 2 = true := ab_t.2 (.inr ⟨p1.trans p2.symm, by omega⟩)
  have ab13 : ab (prO 3 0 1 l0) 1 3 = true := ab_t.2 (.inr ⟨p1.trans p3.symm, by omega⟩)
  have ab23 : ab (prO 3 0 1 l0) 2 3 = true := ab_t.2 (.inr ⟨p2.trans p3.symm, by omega⟩)
  have nix : ∀ y : Int, 1 ≤ y → y ≤ 6 → Nix 3 0 y := fun y h1 h2 => ⟨h1, by rw [← hN]; exact h2⟩
  have T1 := plT hq1
  obtain ⟨la1, lb1⟩ := A1.la
  -- two nodes
  obtain ⟨s2, k2, f2, A2, o2, I2, so2⟩ := tMerge (md := ⟨0, h.length⟩) (A := single 1) (B := single 2) hR hm A1 (Nat.zero_le _) (Nat.zero_le _) (Nat.zero_le _) (sg 1 (by omega) (by omega)) (sg 2 (by omega) (by omega)) (by decide) (fun y hy => by simp [Tr.row] at hy; exact nix y (by omega) (by omega)) (by decide)
  have m2 : mergeT (prO 3 0 1 l0) (single 1) (single 2) = .nd .nil 1 (.nd .nil 2 .nil) := by
    show mergeT _ (.nd .nil 1 .nil) (.nd .nil 2 .nil) = _
    rw [merge_nd, ab12]; simp [mergeT]
  rw [m2] at f2 I2
  have T2 := plT (oat o2 hq1 qa qb)
  have J3 : IsT mk0 (vxB 3) s2 (single 3) 0 := (sg 3 (by omega) (by omega)).congr (so2.on fun y hy => by simp [Tr.row] at hy; subst hy; decide)
  -- three nodes
  obtain ⟨s3, k3, f3, A3, o3', I3, so3⟩ := tMerge (md := ⟨0, h.length⟩) (A := .nd .nil 1 (.nd .nil 2 .nil)) (B := single 3) hR hm A2 (Nat.zero_le _) (Nat.zero_le _) (Nat.zero_le _) I2 J3 (by decide) (fun y hy => by simp [Tr.row] at hy; exact nix y (by omega) (by omega)) (by decide)
  have m3 : mergeT (prO 3 0 1 l0) (.nd .nil 1 (.nd .nil 2 .nil)) (single 3) = .nd .nil 1 (.nd .nil 2 (.nd .nil 3 .nil)) := by
    show mergeT _ (.nd .nil 1 (.nd .nil 2 .nil)) (.nd .nil 3 .nil) = _
    rw [merge_nd, ab13]
    simp only [cond_true]
    rw [merge_nd, ab23]; simp [mergeT]
  rw [m3] at f3 I3
  have o3 := o2.trans o3'
  have T3 := plT (oat o3 hq1 qa qb)
  have r3 : ∀ y ∈ (Tr.nd .nil 1 (.nd .nil 2 (.nd .nil 3 .nil))).row, Nix 3 0 y := fun y hy => by simp [Tr.row] at hy; exact nix y (by omega) (by omega)
  -- a mark
  obtain ⟨s4, k4, f4, A4, o4', I4, so4⟩ := tMark (md := ⟨0, h.length⟩) (x := 3) (m := 1) hR hm A3 (Nat.zero_le _) (Nat.zero_le _) (Nat.zero_le _) I3 (by decide) r3 (by decide) (by decide) (by omega) true
  have hm4 := mkU_lt (mk := mk0) (x := 3) hm (show 1 < 2 by omega) true
  have o4 := o3.trans o4'
  have T4 := plT (oat o4 hq1 qa qb)
  -- split
  obtain ⟨s5, k5, f5, A5, o5', Ia, Ib, so5⟩ := tSplit (md := ⟨0, h.length⟩) hR hm4 A4 (Nat.zero_le _) (Nat.zero_le _) (Nat.zero_le _) I4 (by decide) r3 (by decide) 2
  have sp : splitT (.nd .nil 1 (.nd .nil 2 (.nd .nil 3 .nil))) (clampN 2 (Tr.nd .nil 1 (.nd .nil 2 (.nd .nil 3 .nil))).sz) = (.nd .nil 1 (.nd .nil 2 .nil), .nd .nil 3 .nil) := rfl
  rw [sp] at f5 Ia Ib
  have o5 := o4.trans o5'
  have T5 := plT (oat o5 hq1 qa qb)
  have ra : ∀ y ∈ (Tr.nd .nil 1 (.nd .nil 2 .nil)).row, Nix 3 0 y := fun y hy => by simp [Tr.row] at hy; exact nix y (by omega) (by omega)
  have rb : ∀ y ∈ (Tr.nd .nil 3 .nil).row, Nix 3 0 y := fun y hy => by simp [Tr.row] at hy; exact nix y (by omega) (by omega)
  -- what is told
  obtain ⟨oa, ka, sa⟩ := smok_tr (vx := vxB 3) hm4 (.nd .nil 1 (.nd .nil 2 .nil)) (by decide)
  obtain ⟨ob, kb, sb⟩ := smok_tr (vx := vxB 3) hm4 (.nd .nil 3 .nil) (by decide)
  obtain ⟨k6, f6, A6, o6'⟩ := tsize (md := ⟨0, h.length⟩) hR A5 (Nat.zero_le _) (rt_ch ra) ka ((sum_of Ia.body fun z hz => (ra z hz).1).trans sa)
  have o6 := o5.trans o6'
  have T6 := plT (oat o6 hq1 qa qb)
  obtain ⟨k7, f7, A7, o7'⟩ := tverts (md := ⟨0, h.length⟩) hR A6 (Nat.zero_le _) (rt_ch rb) kb ((sum_of Ib.body fun z hz => (rb z hz).1).trans sb)
  have o7 := o6.trans o7'
  have T7 := plT (oat o7 hq1 qa qb)
  obtain ⟨i8, k8, g8, f8, A8, o8'⟩ := tIndex (md := ⟨0, h.length⟩) (x := 2) hR hm4 A7 (Nat.zero_le _) (Nat.zero_le _) Ia (by decide) ra (by decide) (by decide)
  have o8 := o7.trans o8'
  have T8 := plT (oat o8 hq1 qa qb)
  obtain ⟨k9, f9, A9, o9'⟩ := tRoot (md := ⟨0, h.length⟩) (x := 2) hR A8 (Nat.zero_le _) (Nat.zero_le _) Ia ra (by decide)
  have o9 := o8.trans o9'
  have T9 := plT (oat o9 hq1 qa qb)
  obtain ⟨kA, fA, AA, oA'⟩ := tFirst (md := ⟨0, h.length⟩) (m := 1) hR hm4 A9 (Nat.zero_le _) (Nat.zero_le _) Ib.body rb (by decide) (by omega)
  have oA := o9.trans oA'
  have TA := plT (oat oA hq1 qa qb)
  obtain ⟨kB, fB, AB, oB'⟩ := tFirst (md := ⟨0, h.length⟩) (m := 1) hR hm4 AA (Nat.zero_le _) (Nat.zero_le _) Ia.body ra (by decide) (by omega)
  have oB := oA.trans oB'
  have TB := plT (oat oB hq1 qa qb)
  obtain ⟨sz3, nv3, al3, kk3, ee3⟩ := own_of (x := 3) hm4 Ib (by decide) (by decide) (fun y hy => (rb y hy).1)
  obtain ⟨kC, fC, AC, oC'⟩ := tMarked (md := ⟨0, h.length⟩) (m := 1) hR AB (Nat.zero_le _) (.inr (rb 3 (by decide))) kk3 ee3 (by omega)
  have oC := oB.trans oC'
  have TC := plT (oat oC hq1 qa qb)
  obtain ⟨vD, kD, fD, SD, AD, lD, oD⟩ := tList (md := ⟨0, h.length⟩) hR _ kC AC (Nat.zero_le _) (Nat.zero_le _) (Nat.zero_le _) Ia.body ra (by decide)
  have lC := oC.len
  have tk : kD.take h.length = h := take_same (by omega) fun y hy => by rw [oD y (by omega) (by omega) (by omega), oC.oth y (by omega) (by omega), o1 y hy]
  have i8v : i8 = 1 := by
    have : i8 < 2 := (List.getElem?_eq_some_iff.1 g8).1
    obtain rfl | rfl : i8 = 0 ∨ i8 = 1 := by omega
    · revert g8; decide
    · rfl
  have mk3 : mkU mk0 3 1 true 3 = 2 := by decide
  have fa : firstM (mkU mk0 3 1 true) 1 (Tr.nd .nil 3 .nil).row = 3 := by decide
  have fb : firstM (mkU mk0 3 1 true) 1 (Tr.nd .nil 1 (.nd .nil 2 .nil)).row = 0 := by decide
  have v3 : (Tr.nd .nil 3 .nil).nv (vxB 3) = 1 := by decide
  have z2 : ((Tr.nd .nil 1 (.nd .nil 2 .nil)).sz : Int) = 2 := by decide
  have lenD := fun {α : Type} (kk : Value → Option α) => SD.sl.len kk
  have ln2 : ((Tr.nd .nil 1 (.nd .nil 2 .nil)).row.length : Int) = 2 := by decide
  have bb : bitB (mkU mk0 3 1 true 3) 1 = true := by decide
  rw [i8v] at f8
  rw [fa] at fA
  rw [fb] at fB
  rw [v3] at f7
  rw [z2] at f6
  rw [bb] at fC
  rw [ln2] at lenD
  have f2 : C ⟨0, h.length⟩ 29 [(Value.agg #[(Value.int .i64 3), (Value.int .i64 0), (Value.int .i64 1), ifA a, (Value.int .i64 1), (Value.int .i64 0)]), (Value.int .i64 1), (Value.int .i64 2)] k1 = some ((Value.int .i64 1), k2) := f2
  have f3 : C ⟨0, h.length⟩ 29 [(Value.agg #[(Value.int .i64 3), (Value.int .i64 0), (Value.int .i64 1), ifA a, (Value.int .i64 1), (Value.int .i64 0)]), (Value.int .i64 1), (Value.int .i64 3)] k2 = some ((Value.int .i64 1), k3) := f3
  have f4 : C ⟨0, h.length⟩ 30 [(Value.agg #[(Value.int .i64 3), (Value.int .i64 0), (Value.int .i64 1), ifA a, (Value.int .i64 1), (Value.int .i64 0)]), (Value.int .i64 3), (Value.int .i64 1), (Value.bool true)] k3 = some ((Value.tuple #[]), k4) := f4
  have f5 : C ⟨0, h.length⟩ 28 [(Value.agg #[(Value.int .i64 3), (Value.int .i64 0), (Value.int .i64 1), ifA a, (Value.int .i64 1), (Value.int .i64 0)]), (Value.int .i64 1), (Value.int .i64 2)] k4 = some ((Value.tuple #[(Value.int .i64 1), (Value.int .i64 3)]), k5) := f5
  have f6 : C ⟨0, h.length⟩ 23 [(Value.agg #[(Value.int .i64 3), (Value.int .i64 0), (Value.int .i64 1), ifA a, (Value.int .i64 1), (Value.int .i64 0)]), (Value.int .i64 1)] k5 = some ((Value.int .i64 2), k6) := f6
  have f7 : C ⟨0, h.length⟩ 24 [(Value.agg #[(Value.int .i64 3), (Value.int .i64 0), (Value.int .i64 1), ifA a, (Value.int .i64 1), (Value.int .i64 0)]), (Value.int .i64 3)] k6 = some ((Value.int .i64 1), k7) := f7
  have f8 : C ⟨0, h.length⟩ 22 [(Value.agg #[(Value.int .i64 3), (Value.int .i64 0), (Value.int .i64 1), ifA a, (Value.int .i64 1), (Value.int .i64 0)]), (Value.int .i64 2)] k7 = some ((Value.int .i64 1), k8) := f8
  have f9 : C ⟨0, h.length⟩ 21 [(Value.agg #[(Value.int .i64 3), (Value.int .i64 0), (Value.int .i64 1), ifA a, (Value.int .i64 1), (Value.int .i64 0)]), (Value.int .i64 2)] k8 = some ((Value.int .i64 1), k9) := f9
  have fA : C ⟨0, h.length⟩ 26 [(Value.agg #[(Value.int .i64 3), (Value.int .i64 0), (Value.int .i64 1), ifA a, (Value.int .i64 1), (Value.int .i64 0)]), (Value.int .i64 3), (Value.int .i64 1)] k9 = some ((Value.int .i64 3), kA) := fA
  have fB : C ⟨0, h.length⟩ 26 [(Value.agg #[(Value.int .i64 3), (Value.int .i64 0), (Value.int .i64 1), ifA a, (Value.int .i64 1), (Value.int .i64 0)]), (Value.int .i64 1), (Value.int .i64 1)] kA = some ((Value.int .i64 0), kB) := fB
  have fC : C ⟨0, h.length⟩ 25 [(Value.agg #[(Value.int .i64 3), (Value.int .i64 0), (Value.int .i64 1), ifA a, (Value.int .i64 1), (Value.int .i64 0)]), (Value.int .i64 3), (Value.int .i64 1)] kB = some ((Value.bool true), kC) := fC
  have fD : C ⟨0, h.length⟩ 20 [(Value.agg #[(Value.int .i64 3), (Value.int .i64 0), (Value.int .i64 1), ifA a, (Value.int .i64 1), (Value.int .i64 0)]), (Value.int .i64 1)] kC = some (vD, kD) := fD
  have uP : Try.prog.underlying 30 = some (.pointer 49) := by kernel_rfl
  rw [C, call_eq, F14_eq]
  unfold F14
  simp only [go_sem, Nat.reduceAdd, Nat.reduceLeDiff, Nat.reduceMul, Int.reduceBEq, Int.reduceBNe, Int.reduceLT, Int.reduceLE, Int.reduceGT, e1, aBin_eqlP uP, okNil, okP_p, T1, f2, T2, cLE_t, f3, T3, f4, T4, f5, T5, aBin_eql, f6, T6, f7, T7, f8, T8, f9, T9, fA, TA, fB, TB, fC, TC, fD, lenD, tk]
end Go.Det.E
/- Bits of a node's marks in the document's list. -/
namespace Go.Det.E
open Go.Proofs Go.Det Go.Det.U
attribute [local congr] bind_c cond_c
variable {md : Md} {h hh k h' : Heap} {a b q n0 : Nat} {V S T x v p f : Int} {D : List Int} {l0 : Int → Int} {s s' : NS} {dv ov P M W R R' : Value} {N : Nat} {mk mk' : Int → Nat} {ts ts' : List Tr} {rvs rvs' : List Value} {ops : List Op9} {pr : Int → Int}
theorem i_shr9 {α : Type} {o m : Nat} (ho : o < 4) (hm : m < 2) (kk : Value → Option α) : aBin Try.prog .shr 3 ((Value.int .i64 ((o : Int)))) ((Value.int .i64 ((m : Int)))) kk = kk ((Value.int .i64 (((o / 2 ^ m : Nat) : Int)))) := by
  obtain rfl | rfl : m = 0 ∨ m = 1 := by omega
  all_goals (obtain rfl | rfl | rfl | rfl : o = 0 ∨ o = 1 ∨ o = 2 ∨ o = 3 := by omega) <;> kernel_rfl
theorem i_bit1 {o m : Nat} (ho : o < 4) (hm : m < 2) : (bAnd .i64 ((o / 2 ^ m : Nat) : Int) 1 == 1) = bitB o m := by
  obtain rfl | rfl : m = 0 ∨ m = 1 := by omega
  all_goals (obtain rfl | rfl | rfl | rfl : o = 0 ∨ o = 1 ∨ o = 2 ∨ o = 3 := by omega) <;> kernel_rfl
end Go.Det.E

/- TreapSame: a second play; its marks. -/
namespace Go.Det.U
theorem hp_congr {pr pr' : Int → Int} {t : Tr} (h : ∀ y ∈ t.row, pr' y = pr y) (a : t.hp pr) : t.hp pr' := by
  induction t with
  | nil => trivial
  | nd l x r hl hr =>
    obtain ⟨a1, a2, a3, a4⟩ := a
    have hx := h x (by simp [Tr.row])
    have ab' : ∀ y, pr' y = pr y → ab pr' x y = ab pr x y := fun y hy => by unfold ab; rw [hx, hy]
    exact ⟨fun y hy => (ab' y (h y (by simp [Tr.row, hy]))).trans (a1 y hy), fun y hy => (ab' y (h y (by simp [Tr.row, hy]))).trans (a2 y hy), hl (fun y hy => h y (by simp [Tr.row, hy])) a3, hr (fun y hy => h y (by simp [Tr.row, hy])) a4⟩
end Go.Det.U
namespace Go.Det.E
open Go.Proofs Go.Det Go.Det.U
attribute [local congr] bind_c cond_c
variable {md : Md} {h hh k h' : Heap} {a b q a2 b2 q2 n0 : Nat} {V S T x v p f : Int} {D : List Int} {l0 l2 : Int → Int} {s s' : NS} {dv ov P M W R R' : Value} {N : Nat} {mk mk' mq : Int → Nat} {vx : Int → Bool} {ts ts' : List Tr} {rvs rvs' : List Value} {ops : List Op9} {pr : Int → Int} {ns : List RN}
abbrev sg (y : Int) : Tr := .nd .nil y .nil
theorem Sl.slB_lt {ε : Type} {enc : ε → List Value} {sz : Nat} {v : Value} {xs : List ε} (S : Sl h sz enc v xs) (hp : 0 < h.length) : slB v < h.length := by
  rcases S.is with ⟨rfl, rfl⟩ | ⟨b, o, kk, rfl, hb, hc, hl⟩
  · exact hp
  · exact (List.getElem?_eq_some_iff.1 hb).1
/-- The second play while it is marked: its tree memory, its block, and nothing else has changed. -/
structure QH (V S T : Int) (l2 : Int → Int) (s : NS) (k0 : Heap) (q2 a2 b2 : Nat) (cs : List Value) (k : Heap) : Prop where
  th : TH V S T l2 a2 b2 s k
  hq : k[q2]? = some (.own cs)
  la : k0.length ≤ a2
  lb : k0.length ≤ b2
  lq : k0.length ≤ q2
  qa : q2 ≠ a2
  qb : q2 ≠ b2
  old : ∀ y, y < k0.length → k[y]? = k0[y]?
theorem QH.only {cs : List Value} {k0 k' : Heap} (Q : QH V S T l2 s k0 q2 a2 b2 cs k) (A : TH V S T l2 a2 b2 s' k') (o : Only a2 b2 k k') : QH V S T l2 s' k0 q2 a2 b2 cs k' :=
  ⟨A, (o.oth q2 Q.qa Q.qb).trans Q.hq, Q.la, Q.lb, Q.lq, Q.qa, Q.qb, fun y hy => by
    have := Q.la
    have := Q.lb
    exact (o.oth y (by omega) (by omega)).trans (Q.old y hy)⟩
/-- All nodes alone, with marks. -/
def Alo (V S : Int) (mk : Int → Nat) (s : NS) : Prop := (∀ y, mk y < 4) ∧ ∀ y, Nix V S y → IsT mk (vxB V) s (sg y) 0
theorem Alo.mark {m : Nat} {on : Bool} (Z : Alo V S mk s) (hm : m < 2) (It : IsT (mkU mk x m on) (vxB V) s' (sg x) 0) (so : SameOut [x] s s') : Alo V S (mkU mk x m on) s' := by
  refine ⟨mkU_lt Z.1 hm on, fun y hy => ?_⟩
  by_cases e : y = x
  · subst e; exact It
  · have d : ∀ z ∈ (sg y).row, z ∉ [x] := fun z hz => by simp [Tr.row] at hz; subst hz; simpa using e
    exact (IsT.marks (mk' := mkU mk x m on) (fun z hz => mkU_ne (x := x) fun e2 => d z hz (by simp [e2])) (Z.2 y hy)).congr (so.on d)
theorem bits_all {o : Nat} (ho : o < 4) : (bif bitB o 1 then markS (bif bitB o 0 then markS 0 0 true else 0) 1 true else (bif bitB o 0 then markS 0 0 true else 0)) = o := by
  obtain rfl | rfl | rfl | rfl : o = 0 ∨ o = 1 ∨ o = 2 ∨ o = 3 := by omega
  all_goals decide
/-- A node's marks are set. -/
theorem same_m {k0 : Heap} {R2 P2 M2 W2 s2 s3 s46 s47 : Value} {o : Nat} (hR : Rt V S T) (ho : o < 4) (hx : Nix V S x) (Q : QH V S T l2 s k0 q2 a2 b2 (plC V S T a2 R2 P2 M2 W2) k) (Z : Alo V S mq s) (h0 : mq x = 0) :
    ∃ mq' s' k', J6_2b0 C ⟨0, n0⟩ s2 s3 ((Value.pointer (some ⟨q2, 0, none⟩))) ((Value.int .i64 x)) ((Value.int .i64 ((o : Int)))) s46 s47 ((Value.int .i64 p)) ((Value.int .i64 0)) k = (aBin Try.prog .add 3 ((Value.int .i64 p)) ((Value.int .i64 1)) fun v1 => some (.inl ((s2, s3, (Value.pointer (some ⟨q2, 0, none⟩)), s46, s47, v1), k'))) ∧ QH V S T l2 s' k0 q2 a2 b2 (plC V S T a2 R2 P2 M2 W2) k' ∧ Alo V S mq' s' ∧ mq' x = o ∧ ∀ y, y ≠ x → mq' y = mq y := by
  have cn := Cn_le hR
  have gx : (0 : Int) < x := by have := hx.1; omega
  have one : ∀ (m : Nat) (mq : Int → Nat) (s : NS) (k : Heap), m < 2 → QH V S T l2 s k0 q2 a2 b2 (plC V S T a2 R2 P2 M2 W2) k → Alo V S mq s →
      ∃ mq' s' k', J6_2b0 C ⟨0, n0⟩ s2 s3 ((Value.pointer (some ⟨q2, 0, none⟩))) ((Value.int .i64 x)) ((Value.int .i64 ((o : Int)))) s46 s47 ((Value.int .i64 p)) ((Value.int .i64 ((m : Int)))) k = J6_2b0 C ⟨0, n0⟩ s2 s3 ((Value.pointer (some ⟨q2, 0, none⟩))) ((Value.int .i64 x)) ((Value.int .i64 ((o : Int)))) s46 s47 ((Value.int .i64 p)) ((Value.int .i64 ((m : Int) + 1))) k' ∧ QH V S T l2 s' k0 q2 a2 b2 (plC V S T a2 R2 P2 M2 W2) k' ∧ Alo V S mq' s' ∧ mq' x = (bif bitB o m then markS (mq x) m true else mq x) ∧ ∀ y, y ≠ x → mq' y = mq y := by
    intro m mq s k hm Q Z
    have q1 := fun {α : Type} (kk : Value → Option α) => i_shr9 ho hm kk
    have q3 := i_bit1 ho hm
    have rT := plT Q.hq
    have hlt : (m : Int) < 2 := by omega
    have w : IntKind.wrap .i64 ((m : Int) + 1) = (m : Int) + 1 := wi (by omega) (by omega)
    cases hb : bitB o m
    · rw [hb] at q3
      refine ⟨mq, s, k, ?_, Q, Z, rfl, fun _ _ => rfl⟩
      rw [J6_2b0_step]
      unfold Jr6_2b0
      simp only [go_sem, Nat.reduceAdd, Nat.reduceLeDiff, Nat.reduceMul, Int.reduceBEq, Int.reduceBNe, Int.reduceLT, Int.reduceLE, Int.reduceGT, aBin_lss, hlt, aBin_gtr, gx, q1, aBin_and, aBin_eql, q3, aBin_add, w]
    · rw [hb] at q3
      obtain ⟨s1, k1, f1, A1, o1, I1, so1⟩ := tMark (md := ⟨0, n0⟩) (m := m) hR Z.1 Q.th (Nat.zero_le _) (Nat.zero_le _) (Nat.zero_le _) (Z.2 x hx) (by simp [Tr.row]) (fun y hy => by simp [Tr.row] at hy; subst hy; exact hx) (by show 0 + 0 + 1 < 60000; omega) (x := x) (by simp [Tr.row]) hm true
      refine ⟨mkU mq x m true, s1, k1, ?_, Q.only A1 o1, Z.mark hm I1 so1, if_pos rfl, fun y hy => if_neg hy⟩
      rw [J6_2b0_step]
      unfold Jr6_2b0
      simp only [go_sem, Nat.reduceAdd, Nat.reduceLeDiff, Nat.reduceMul, Int.reduceBEq, Int.reduceBNe, Int.reduceLT, Int.reduceLE, Int.reduceGT, aBin_lss, hlt, aBin_gtr, gx, q1, aBin_and, aBin_eql, q3, okNil, okP_p, rT, f1, aBin_add, w]
  obtain ⟨mq1, s1, k1, e1, Q1, Z1, x1, y1⟩ := one 0 mq s k (by omega) Q Z
  obtain ⟨mq2, s2', k2, e2, Q2, Z2, x2, y2⟩ := one 1 mq1 s1 k1 (by omega) Q1 Z1
  refine ⟨mq2, s2', k2, ?_, Q2, Z2, by rw [x2, x1, h0]; exact bits_all ho, fun y hy => (y2 y hy).trans (y1 y hy)⟩
  have z0 : (((0 : Nat) : Int)) = 0 := rfl
  have z1 : ((0 : Int) + 1) = ((1 : Nat) : Int) := rfl
  have z2 : (((1 : Nat) : Int) + 1) = 2 := rfl
  rw [z0, z1] at e1
  rw [z2] at e2
  rw [e1, e2, J6_2b0_step]
  unfold Jr6_2b0
  simp only [go_sem, Nat.reduceAdd, Nat.reduceLeDiff, Nat.reduceMul, Int.reduceBEq, Int.reduceBNe, Int.reduceLT, Int.reduceLE, Int.reduceGT, aBin_lss, Int.lt_irrefl, Jk6_2b0]
theorem same_0 {s2 s3 s46 s47 : Value} {o : Int} : J6_2b0 C ⟨0, n0⟩ s2 s3 ((Value.pointer (some ⟨q2, 0, none⟩))) ((Value.int .i64 0)) ((Value.int .i64 o)) s46 s47 ((Value.int .i64 p)) ((Value.int .i64 0)) k = (aBin Try.prog .add 3 ((Value.int .i64 p)) ((Value.int .i64 1)) fun v1 => some (.inl ((s2, s3, (Value.pointer (some ⟨q2, 0, none⟩)), s46, s47, v1), k))) := by
  have w0 : IntKind.wrap .i64 ((0 : Int) + 1) = 1 := rfl
  have w1 : IntKind.wrap .i64 ((1 : Int) + 1) = 2 := rfl
  have l0 : (0 : Int) < 2 := by omega
  have l1 : (1 : Int) < 2 := by omega
  have e0 : J6_2b0 C ⟨0, n0⟩ s2 s3 ((Value.pointer (some ⟨q2, 0, none⟩))) ((Value.int .i64 0)) ((Value.int .i64 o)) s46 s47 ((Value.int .i64 p)) ((Value.int .i64 0)) k = J6_2b0 C ⟨0, n0⟩ s2 s3 ((Value.pointer (some ⟨q2, 0, none⟩))) ((Value.int .i64 0)) ((Value.int .i64 o)) s46 s47 ((Value.int .i64 p)) ((Value.int .i64 1)) k := by
    rw [J6_2b0_step]
    unfold Jr6_2b0
    simp only [go_sem, Nat.reduceAdd, Nat.reduceLeDiff, Nat.reduceMul, Int.reduceBEq, Int.reduceBNe, Int.reduceLT, Int.reduceLE, Int.reduceGT, aBin_lss, l0, aBin_gtr, Int.lt_irrefl, aBin_add, w0]
  have e1 : J6_2b0 C ⟨0, n0⟩ s2 s3 ((Value.pointer (some ⟨q2, 0, none⟩))) ((Value.int .i64 0)) ((Value.int .i64 o)) s46 s47 ((Value.int .i64 p)) ((Value.int .i64 1)) k = J6_2b0 C ⟨0, n0⟩ s2 s3 ((Value.pointer (some ⟨q2, 0, none⟩))) ((Value.int .i64 0)) ((Value.int .i64 o)) s46 s47 ((Value.int .i64 p)) ((Value.int .i64 2)) k := by
    rw [J6_2b0_step]
    unfold Jr6_2b0
    simp only [go_sem, Nat.reduceAdd, Nat.reduceLeDiff, Nat.reduceMul, Int.reduceBEq, Int.reduceBNe, Int.reduceLT, Int.reduceLE, Int.reduceGT, aBin_lss, l1, aBin_gtr, Int.lt_irrefl, aBin_add, w1]
  rw [e0, e1, J6_2b0_step]
  unfold Jr6_2b0
  simp only [go_sem, Nat.reduceAdd, Nat.reduceLeDiff, Nat.reduceMul, Int.reduceBEq, Int.reduceBNe, Int.reduceLT, Int.reduceLE, Int.reduceGT, aBin_lss, Int.lt_irrefl, Jk6_2b0]
theorem same_marks {k0 : Heap} {R2 P2 M2 W2 s2 s3 : Value} {ms : List Int} (hR : Rt V S T) (hN : (N : Int) = Nn V S) (hmk : ∀ y, mk y < 4) (SM : Sl k0 1 eZ M ms) (h0 : 0 < k0.length) (hlm : ms.length = N + 1) (gm : ∀ x : Nat, 1 ≤ x → x ≤ N → ms[x]? = some (mk x : Int)) : ∀ (c i : Nat) (k : Heap) (s : NS) (mq : Int → Nat), i + c = N + 1 → QH V S T l2 s k0 q2 a2 b2 (plC V S T a2 R2 P2 M2 W2) k → Alo V S mq s → (∀ y : Int, Nix V S y → y < i → mq y = mk y) → (∀ y : Int, Nix V S y → i ≤ y → mq y = 0) →
    ∃ mq' s' k', J6_2 C ⟨0, n0⟩ hh s2 s3 ((Value.pointer (some ⟨q2, 0, none⟩))) M ((Value.int .i64 (((N + 1 : Nat) : Int)))) ((Value.int .i64 ((i : Int)))) k = J6_3 C ⟨0, n0⟩ hh s2 s3 ((Value.pointer (some ⟨q2, 0, none⟩))) k' ∧ QH V S T l2 s' k0 q2 a2 b2 (plC V S T a2 R2 P2 M2 W2) k' ∧ Alo V S mq' s' ∧ ∀ y : Int, Nix V S y → mq' y = mk y := by
  have cn := Cn_le hR
  intro c
  induction c with
  | zero =>
    intro i k s mq hi Q Z hd hz
    obtain rfl : i = N + 1 := by omega
    refine ⟨mq, s, k, ?_, Q, Z, fun y hy => hd y hy (by have := hy.2; omega)⟩
    rw [J6_2_step]
    unfold Jr6_2
    simp only [go_sem, Nat.reduceAdd, Nat.reduceLeDiff, Nat.reduceMul, Int.reduceBEq, Int.reduceBNe, Int.reduceLT, Int.reduceLE, Int.reduceGT, aBin_lss, Int.lt_irrefl, Jk6_2]
  | succ c ih =>
    intro i k s mq hi Q Z hd hz
    have hlt : (i : Int) < ((N + 1 : Nat) : Int) := by omega
    have w : IntKind.wrap .i64 ((i : Int) + 1) = ((i + 1 : Nat) : Int) := by rw [wi (by omega) (by omega)]; rfl
    have X : Sl k 1 eZ M ms := SM.heap fun hl => Q.old _ hl
    by_cases hi0 : i = 0
    · subst hi0
      obtain ⟨z, hzz⟩ : ∃ z, ms[0]? = some z := ⟨ms[0]'(by omega), List.getElem?_eq_getElem (by omega)⟩
      obtain ⟨ix, rx⟩ := Sl.getI X hzz
      obtain ⟨mq', s', k', e, r⟩ := ih 1 k s mq (by omega) Q Z (fun y hy h1 => by have := hy.1; omega) (fun y hy h1 => hz y hy (by omega))
      refine ⟨mq', s', k', ?_, r⟩
      have e0 := same_0 (n0 := n0) (k := k) (q2 := q2) (s2 := s2) (s3 := s3) (s46 := M) (s47 := (Value.int .i64 (((N + 1 : Nat) : Int)))) (o := z) (p := 0)
      rw [J6_2_step]
      unfold Jr6_2
      have z0 : (((0 : Nat) : Int)) = 0 := rfl
      have z1 : (((0 + 1 : Nat) : Int)) = 1 := rfl
      rw [z0] at ix w hlt ⊢
      simp only [Nat.add_zero] at ix rx
      simp only [go_sem, Nat.reduceAdd, Nat.reduceLeDiff, Nat.reduceMul, Int.reduceBEq, Int.reduceBNe, Int.reduceLT, Int.reduceLE, Int.reduceGT, aBin_lss, hlt, ixSV_p, ix, rx, e0, aBin_add, w]
      exact e
    · have hx : Nix V S (i : Int) := ⟨by omega, by omega⟩
      obtain ⟨ix, rx⟩ := Sl.getI X (gm i (by omega) (by omega))
      obtain ⟨mq1, s1, k1, em, Q1, Z1, x1, y1⟩ := same_m (n0 := n0) (s2 := s2) (s3 := s3) (s46 := M) (s47 := (Value.int .i64 (((N + 1 : Nat) : Int)))) (p := (i : Int)) hR (hmk (i : Int)) hx Q Z (hz _ hx (Int.le_refl _))
      obtain ⟨mq', s', k', e, r⟩ := ih (i + 1) k1 s1 mq1 (by omega) Q1 Z1 (fun y hy h1 => by
        by_cases e : y = i
        · subst e; exact x1
        · rw [y1 y e]; exact hd y hy (by omega)) (fun y hy h1 => by rw [y1 y (by omega)]; exact hz y hy (by omega))
      refine ⟨mq', s', k', ?_, r⟩
      rw [J6_2_step]
      unfold Jr6_2
      simp only [go_sem, Nat.reduceAdd, Nat.reduceLeDiff, Nat.reduceMul, Int.reduceBEq, Int.reduceBNe, Int.reduceLT, Int.reduceLE, Int.reduceGT, aBin_lss, hlt, ixSV_p, ix, rx, em, aBin_add, w]
      exact e
end Go.Det.E

/- TreapSame: each row is merged from its end; the document's rows are right for the second play. -/
namespace Go.Det.E
open Go.Proofs Go.Det Go.Det.U
attribute [local congr] bind_c cond_c
variable {md : Md} {h hh k h' : Heap} {a b q a2 b2 q2 n0 : Nat} {V S T x v p f : Int} {D : List Int} {l0 l2 : Int → Int} {s s' : NS} {dv ov P M W R R' : Value} {N : Nat} {mk mk' mq : Int → Nat} {vx : Int → Bool} {ts ts' : List Tr} {rvs rvs' : List Value} {ops : List Op9} {pr : Int → Int} {ns : List RN}
theorem drop_one {l : List Int} {i : Nat} (h : i < l.length) : l.drop i = l.getD i 0 :: l.drop (i + 1) := by
  rw [List.drop_eq_getElem_cons h, List.getD_eq_getElem?_getD, List.getElem?_eq_getElem h]; rfl
theorem same_in {k0 : Heap} {R2 P2 M2 W2 s2 s3 rv s78 s79 s80 : Value} {t : Tr} (hR : Rt V S T) (hN : (N : Int) = Nn V S) (hmk : ∀ y, mk y < 4) (X0 : Sl k0 1 eZ rv t.row) (h0 : 0 < k0.length) (hn : t.row.Nodup) (h0r : ∀ y ∈ t.row, Nix V S y) : ∀ (c j : Nat) (k : Heap) (s : NS) (u : Tr), j + c = t.row.length → QH V S T l2 s k0 q2 a2 b2 (plC V S T a2 R2 P2 M2 W2) k → u.hp (prO V S T l2) → u.row = t.row.drop c → IsT mk (vxB V) s u 0 → (∀ y ∈ t.row.take c, IsT mk (vxB V) s (sg y) 0) →
    ∃ u' s' k', J6_4b0 C ⟨0, n0⟩ s2 s3 ((Value.pointer (some ⟨q2, 0, none⟩))) rv ((Value.int .i64 u.rt)) s78 s79 s80 ((Value.int .i64 ((t.row.length : Int)))) ((Value.int .i64 ((j : Int)))) k = J6_4b1 C ⟨0, n0⟩ s2 s3 ((Value.pointer (some ⟨q2, 0, none⟩))) rv ((Value.int .i64 u'.rt)) s78 s79 s80 k' ∧ QH V S T l2 s' k0 q2 a2 b2 (plC V S T a2 R2 P2 M2 W2) k' ∧ u'.hp (prO V S T l2) ∧ u'.row = t.row ∧ IsT mk (vxB V) s' u' 0 ∧ SameOut t.row s s' := by
  have cn := Cn_le hR
  have hsz := row_small hN hn h0r
  have rl := t.row_len
  intro c
  induction c with
  | zero =>
    intro j k s u hj Q hu er I Z
    obtain rfl : j = t.row.length := by omega
    refine ⟨u, s, k, ?_, Q, hu, er, I, SameOut.refl _ _⟩
    rw [J6_4b0_step]
    unfold Jr6_4b0
    simp only [go_sem, Nat.reduceAdd, Nat.reduceLeDiff, Nat.reduceMul, Int.reduceBEq, Int.reduceBNe, Int.reduceLT, Int.reduceLE, Int.reduceGT, aBin_lss, Int.lt_irrefl, Jk6_4b0]
  | succ c ih =>
    intro j k s u hj Q hu er I Z
    have hlt : (j : Int) < (t.row.length : Int) := by omega
    have w : IntKind.wrap .i64 ((j : Int) + 1) = ((j + 1 : Nat) : Int) := by rw [wi (by omega) (by omega)]; rfl
    have w1 : IntKind.wrap .i64 (IntKind.wrap .i64 ((t.row.length : Int) - 1) - (j : Int)) = ((c : Nat) : Int) := by rw [wi (x := (t.row.length : Int) - 1) (by omega) (by omega), wi (by omega) (by omega)]; omega
    have X : Sl k 1 eZ rv t.row := X0.heap fun hl => Q.old _ hl
    have len := fun {α : Type} (kk : Value → Option α) => X.len kk
    obtain ⟨ix, rx⟩ := Sl.getI X (row_at (row := t.row) (i := c) (by omega))
    have hxm := getD_mem (row := t.row) (i := c) (by omega)
    have tk := take_one (row := t.row) (i := c) (by omega)
    have dk := drop_one (l := t.row) (i := c) (by omega)
    generalize hxe : t.row.getD c 0 = x at *
    have rT := plT Q.hq
    have hrow : (sg x).row ++ u.row = t.row.drop c := by rw [er, dk]; rfl
    have hsub : ∀ y ∈ (sg x).row ++ u.row, y ∈ t.row := fun y hy => List.mem_of_mem_drop (hrow ▸ hy)
    have hnd : ((sg x).row ++ u.row).Nodup := by rw [hrow]; exact hn.sublist (List.drop_sublist _ _)
    have usz : u.sz ≤ t.row.length := by rw [← u.row_len, er, List.length_drop]; omega
    obtain ⟨s1, k1, f1, A1, o1, I1, so1⟩ := tMerge (md := ⟨0, n0⟩) (A := sg x) (B := u) hR hmk Q.th (Nat.zero_le _) (Nat.zero_le _) (Nat.zero_le _) (Z x (by rw [tk]; simp)) I hnd (fun y hy => h0r y (hsub y hy)) (by show 0 + 0 + 1 + u.sz < 60000; omega)
    have hm := merge_hp (pr := prO V S T l2) _ (sg x) u (Nat.le_refl _) ⟨fun y hy => by simp [Tr.row] at hy, fun y hy => by simp [Tr.row] at hy, trivial, trivial⟩ hu hnd
    have hmr := merge_row (pr := prO V S T l2) _ (sg x) u (Nat.le_refl _)
    generalize mergeT (prO V S T l2) (sg x) u = m at f1 I1 hm hmr
    have xr : (sg x).rt = x := rfl
    rw [xr] at f1
    have disj : ∀ y ∈ t.row.take c, y ∉ (sg x).row ++ u.row := fun y hy hq => by
      rw [hrow] at hq
      have := hn
      rw [← List.take_append_drop c t.row] at this
      exact (List.nodup_append.1 this).2.2 y hy y hq rfl
    obtain ⟨u', s', k', e, Q', hu', er', I', so'⟩ := ih (j + 1) k1 s1 m (by omega) (Q.only A1 o1) hm (by rw [hmr, hrow]) I1 (fun y hy => (Z y (by rw [tk]; simp [hy])).congr (so1.on fun z hz => by simp [Tr.row] at hz; subst hz; exact disj z hy))
    refine ⟨u', s', k', ?_, Q', hu', er', I', (so1.mono hsub).trans so'⟩
    rw [J6_4b0_step]
    unfold Jr6_4b0
    simp only [go_sem, Nat.reduceAdd, Nat.reduceLeDiff, Nat.reduceMul, Int.reduceBEq, Int.reduceBNe, Int.reduceLT, Int.reduceLE, Int.reduceGT, aBin_lss, hlt, okNil, okP_p, rT, len, aBin_sub, w1, ixSV_p, ix, rx, f1, aBin_add, w]
    exact e
theorem same_rows {k0 : Heap} {R2 P2 M2 W2 s2 : Value} (hR : Rt V S T) (hN : (N : Int) = Nn V S) (I : PI V S (prO V S T l0) mk s' ts) (hts : ts.length ≤ N) (G : PG V S T l0 mk s' ts N k0 q a b R P M W rvs) (he : ∀ y : Int, Nix V S y → prO V S T l2 y = prO V S T l0 y) : ∀ (c i : Nat) (k : Heap) (s : NS), i + c = ts.length → QH V S T l2 s k0 q2 a2 b2 (plC V S T a2 R2 P2 M2 W2) k → (∀ t ∈ ts.take i, IsT mk (vxB V) s t 0) → (∀ t ∈ ts.drop i, ∀ y ∈ t.row, IsT mk (vxB V) s (sg y) 0) →
    ∃ s3 k', J6_4 C ⟨0, n0⟩ hh s2 ((Value.pointer (some ⟨q, 0, none⟩))) ((Value.pointer (some ⟨q2, 0, none⟩))) R ((Value.int .i64 ((ts.length : Int)))) ((Value.int .i64 ((i : Int)))) k = J6_5 C ⟨0, n0⟩ hh ((Value.pointer (some ⟨q, 0, none⟩))) ((Value.pointer (some ⟨q2, 0, none⟩))) k' ∧ QH V S T l2 s3 k0 q2 a2 b2 (plC V S T a2 R2 P2 M2 W2) k' ∧ ∀ t ∈ ts, IsT mk (vxB V) s3 t 0 := by
  have cn := Cn_le hR
  intro c
  induction c with
  | zero =>
    intro i k s hi Q Z1 Z2
    obtain rfl : i = ts.length := by omega
    rw [List.take_length] at Z1
    refine ⟨s, k, ?_, Q, Z1⟩
    rw [J6_4_step]
    unfold Jr6_4
    simp only [go_sem, Nat.reduceAdd, Nat.reduceLeDiff, Nat.reduceMul, Int.reduceBEq, Int.reduceBNe, Int.reduceLT, Int.reduceLE, Int.reduceGT, aBin_lss, Int.lt_irrefl, Jk6_4]
  | succ c ih =>
    intro i k s hi Q Z1 Z2
    have G1 := G.old Q.old
    have hrl := G.ro.len
    have hlt : (i : Int) < (ts.length : Int) := by omega
    have w : IntKind.wrap .i64 ((i : Int) + 1) = ((i + 1 : Nat) : Int) := by rw [wi (by omega) (by omega)]; rfl
    have dk : ts.drop i = ts[i]'(by omega) :: ts.drop (i + 1) := List.drop_eq_getElem_cons (by omega)
    have tk : ts.take (i + 1) = ts.take i ++ [ts[i]'(by omega)] := by rw [List.take_add_one, List.getElem?_eq_getElem (by omega)]; rfl
    have ht : ts[i]? = some (ts[i]'(by omega)) := List.getElem?_eq_getElem (by omega)
    generalize ts[i]'(by omega) = t at *
    obtain ⟨rv, hv⟩ : ∃ t, rvs[i]? = some t := ⟨rvs[i]'(by omega), List.getElem?_eq_getElem (by omega)⟩
    obtain ⟨ix, rx⟩ := Sl.getV G1.ro.sl hv
    have htm := List.mem_of_getElem? ht
    obtain ⟨a1, a2', a3, a4, a5⟩ := I.tr t htm
    have hsz := row_small hN a2' a3
    have rl := t.row_len
    have X : Sl k 1 eZ rv t.row := G1.ro.at_ i rv t hv ht
    have len := fun {α : Type} (kk : Value → Option α) => X.len kk
    obtain ⟨u, s1, k1, e1, Q1, hu, er, I1, so1⟩ := same_in (n0 := n0) (s2 := s2) (s3 := (Value.pointer (some ⟨q, 0, none⟩))) (s78 := R) (s79 := (Value.int .i64 ((ts.length : Int)))) (s80 := (Value.int .i64 ((i : Int)))) hR hN I.mkl (G.ro.at_ i rv t hv ht) (by have := lt_of G.hq; omega) a2' a3 t.row.length 0 k s .nil (by omega) Q trivial (by rw [List.drop_length]; rfl) trivial (fun y hy => Z2 t (by rw [dk]; simp) y (List.mem_of_mem_take hy))
    obtain rfl : u = t := hp_uniq hu (hp_congr (fun y hy => he y (a3 y hy)) a1) er (er ▸ a2')
    have G2 := G.old Q1.old
    have rF := plF G2.hq
    have ro1 := fo_root (md := ⟨0, n0⟩) (R := R) G2.fo (G2.ro.at_ i rv u hv ht) a1 (fun y hy => by have := a3 y hy; omega) (by omega)
    have hD : ∀ w ∈ ts, w ≠ u → ∀ y ∈ w.row, y ∉ u.row := fun w hw hne => by
      obtain ⟨j, hj⟩ := List.mem_iff_getElem?.1 hw
      refine I.ap j i w u (fun e => ?_) hj ht
      subst e
      rw [ht] at hj
      exact hne (Option.some.inj hj).symm
    have hnot : ∀ w ∈ ts.take i ++ ts.drop (i + 1), ∀ y ∈ w.row, y ∉ u.row := fun w hw y hy => by
      obtain ⟨j, hj, hji⟩ : ∃ j, ts[j]? = some w ∧ j ≠ i := by
        rcases List.mem_append.1 hw with q | q
        · obtain ⟨j, hj⟩ := List.mem_iff_getElem?.1 q
          have hl := (List.getElem?_eq_some_iff.1 hj).1
          rw [List.length_take] at hl
          rw [List.getElem?_take_of_lt (by omega)] at hj
          exact ⟨j, hj, by omega⟩
        · obtain ⟨j, hj⟩ := List.mem_iff_getElem?.1 q
          rw [List.getElem?_drop] at hj
          exact ⟨_, hj, by omega⟩
      exact I.ap j i w u hji hj ht y hy
    obtain ⟨s3, k', e2, Q2, z⟩ := ih (i + 1) k1 s1 (by omega) Q1 (fun w hw => by
      rw [tk] at hw
      rcases List.mem_append.1 hw with q | q
      · exact (Z1 w q).congr (so1.on (hnot w (by simp [q])))
      · simp at q; subst q; exact I1) (fun w hw y hy => (Z2 w (by rw [dk]; simp [hw]) y hy).congr (so1.on fun z hz => by simp [Tr.row] at hz; subst hz; exact hnot w (by simp [hw]) z hy))
    refine ⟨s3, k', ?_, Q2, z⟩
    have z0 : (((0 : Nat) : Int)) = 0 := rfl
    rw [rt_0, z0] at e1
    rw [J6_4_step]
    unfold Jr6_4
    simp only [go_sem, Nat.reduceAdd, Nat.reduceLeDiff, Nat.reduceMul, Int.reduceBEq, Int.reduceBNe, Int.reduceLT, Int.reduceLE, Int.reduceGT, aBin_lss, hlt, ixSV_p, ix, rx, len]
    rw [e1]
    unfold J6_4b1
    simp only [go_sem, Nat.reduceAdd, Nat.reduceLeDiff, Nat.reduceMul, Int.reduceBEq, Int.reduceBNe, Int.reduceLT, Int.reduceLE, Int.reduceGT, okNil, okP_p, rF, ro1, aBin_neq, bne_self_eq_false, aBin_add, w]
    exact e2
end Go.Det.E

/- TreapSame. -/
namespace Go.Det.E
open Go.Proofs Go.Det Go.Det.U
attribute [local congr] bind_c cond_c
variable {md : Md} {h hh k h' : Heap} {a b q a2 b2 q2 n0 : Nat} {V S T x v p f : Int} {D : List Int} {l0 l2 : Int → Int} {s s' : NS} {dv ov P M W R R' : Value} {N : Nat} {mk mk' mq : Int → Nat} {vx : Int → Bool} {ts ts' : List Tr} {rvs rvs' : List Value} {ops : List Op9} {pr : Int → Int} {ns : List RN}
theorem bCase9 {α : Type} {V S T : Int} {a : Option Addr} {l c : Nat} (k : Value → Option α) : aBuild Try.prog 27 [(0, (Value.agg #[(Value.int .i64 V), (Value.int .i64 S), (Value.int .i64 T)])), (1, .slice a l c)] k = k ((Value.agg (List.toArray ([(Value.int .i64 V), (Value.int .i64 S), (Value.int .i64 T), .slice a l c, .slice none 0 0])))) := by kernel_rfl
theorem same_end {k0 : Heap} {R2 P2 M2 W2 : Value} (hR : Rt V S T) (hN : (N : Int) = Nn V S) (I : PI V S (prO V S T l0) mk s' ts) (hts : ts.length ≤ N) (G : PG V S T l0 mk s' ts N k0 q a b R P M W rvs) (he : ∀ y : Int, Nix V S y → prO V S T l2 y = prO V S T l0 y) (hk0 : h.length ≤ k0.length) (Q : QH V S T l2 s k0 q2 a2 b2 (plC V S T a2 R2 P2 M2 W2) k) (Z : ∀ t ∈ ts, IsT mk (vxB V) s t 0) : ∃ g, J6_5 C ⟨0, h.length⟩ h ((Value.pointer (some ⟨q, 0, none⟩))) ((Value.pointer (some ⟨q2, 0, none⟩))) k = some ((Value.bool true), g) := by
  have cn := Cn_le hR
  have hp : 0 < k0.length := by have := lt_of G.hq; omega
  have Q' := Q
  obtain ⟨th, hq, la, lb, lq, qa, qb, old⟩ := Q
  have G1 := G.old old
  have rF := plF G1.hq
  obtain ⟨us, Su, lu, gu⟩ := G.fo.pri
  obtain ⟨ms, Sm, lm, gm⟩ := G.fo.mar
  obtain ⟨ws, Sw, lw, gw⟩ := G.fo.ver
  have bR := Sl.slB_lt G.ro.sl hp
  have bP := Sl.slB_lt Su hp
  have bM := Sl.slB_lt Sm hp
  have bW := Sl.slB_lt Sw hp
  have bV : ∀ rv ∈ rvs, slB rv < k0.length := fun rv hrv => by
    obtain ⟨j, hj⟩ := List.mem_iff_getElem?.1 hrv
    obtain ⟨t, ht⟩ : ∃ t, ts[j]? = some t := ⟨ts[j]'(by have := (List.getElem?_eq_some_iff.1 hj).1; have := G.ro.len; omega), List.getElem?_eq_getElem _⟩
    exact Sl.slB_lt (G.ro.at_ j rv t hj ht) hp
  have wq : wrN ⟨0, h.length⟩ k q2 10 [R, P, M, W] = some (k.set q2 (.own (plC V S T a2 R P M W))) := by
    have := wr_at (md := ⟨0, h.length⟩) (i := 10) (vs := [R, P, M, W]) hq (by show 10 + 4 ≤ 14; omega) (Nat.zero_le _) (.inl (by show h.length ≤ _; omega))
    rw [this]; rfl
  have stq := fun (kk : Heap → Option (Value × Heap)) => st_N ⟨0, h.length⟩ 4 q2 10 [R, P, M, W] k kk rfl (by
    obtain ⟨_, _, _, e1⟩ := Sl.sliceV G.ro.sl
    obtain ⟨_, _, _, e2⟩ := Sl.sliceV Su
    obtain ⟨_, _, _, e3⟩ := Sl.sliceV Sm
    obtain ⟨_, _, _, e4⟩ := Sl.sliceV Sw
    rw [e1, e2, e3, e4]; rfl)
  generalize hk1 : k.set q2 (.own (plC V S T a2 R P M W)) = k1 at wq
  have o1 : ∀ y, y ≠ q2 → k1[y]? = k[y]? := fun y hy => by rw [← hk1]; exact set_else hy
  have q1 : k1[q2]? = some (.own (plC V S T a2 R P M W)) := by rw [← hk1]; exact set_same (lt_of hq)
  have o2 : ∀ y, y < k0.length → k1[y]? = k0[y]? := fun y hy => (o1 y (by omega)).trans (old y hy)
  obtain ⟨mo, em, hmo, hlo⟩ := G.own
  have G2 : PG V S T l2 mk s ts N k1 q2 a2 b2 R P M W rvs :=
    ⟨th.old (o1 a2 (Ne.symm qa)) (o1 b2 (Ne.symm qb)), q1, ⟨⟨us, Su.heap fun _ => o2 _ bP, lu, fun y h1 h2 => by rw [gu y h1 h2, he (y : Int) ⟨by omega, by omega⟩]⟩, ⟨ms, Sm.heap fun _ => o2 _ bM, lm, gm⟩, ⟨ws, Sw.heap fun _ => o2 _ bW, lw, gw⟩⟩, G.ro.heap o2, qa, qb, ⟨by omega, by omega, by omega, G.sepR.2.2.2⟩, ⟨by omega, by omega, by omega, G.sepP.2.2.2⟩, ⟨by omega, by omega, by omega, G.sepW.2.2.2⟩, fun rv hrv => ⟨by have := bV rv hrv; omega, by have := bV rv hrv; omega, by have := bV rv hrv; omega, (G.sepV rv hrv).2.2.2⟩, ⟨by omega, by omega, by omega⟩, ⟨mo, em, (o2 _ bM).trans hmo, hlo⟩⟩
  have I2 : PI V S (prO V S T l2) mk s ts := ⟨I.mkl, fun t ht => by
    obtain ⟨a1, a2', a3, a4, a5⟩ := I.tr t ht
    exact ⟨hp_congr (fun y hy => he y (a3 y hy)) a1, a2', a3, a4, Z t ht⟩, I.ap, I.cov⟩
  obtain ⟨k2, e2, G3, l3, o3⟩ := is_s (md := ⟨0, h.length⟩) hR hN I2 G2 (by omega) rfl
  refine ⟨k2.take h.length, ?_⟩
  unfold J6_5
  simp only [go_sem, Nat.reduceAdd, Nat.reduceLeDiff, Nat.reduceMul, Int.reduceBEq, Int.reduceBNe, Int.reduceLT, Int.reduceLE, Int.reduceGT, okNil, okP_p, rF, stq, wq, e2, awake9]
theorem same_loop {hb : Heap} (sp : Value) (hR : Rt V S T) (hN : (N : Int) = Nn V S) (hNp : 1 ≤ N) (lhb : hb.length = h.length + 1) (SO : Sl hb 5 encO ov ops) (hl : ops.length ≤ 60) (qa : hb.length ≤ q ∧ hb.length ≤ a ∧ hb.length ≤ b ∧ hb.length ≤ slB M) : ∀ (m i : Nat) (k : Heap) (mk : Int → Nat) (s : NS) (ts : List Tr) (R : Value) (rvs : List Value), i + m = ops.length → Play V S T N l0 q a b P M W mk s ts R rvs k → hb.length ≤ k.length → (∀ y, y < hb.length → k[y]? = hb[y]?) →
    ∃ mk' s' ts' R' rvs' k', J6_0 C ⟨0, h.length⟩ h sp ((Value.bool false)) ((Value.pointer (some ⟨q, 0, none⟩))) ov ((Value.int .i64 ((ops.length : Int)))) ((Value.int .i64 ((i : Int)))) k = J6_1 C ⟨0, h.length⟩ h sp ((Value.bool false)) ((Value.pointer (some ⟨q, 0, none⟩))) k' ∧ Play V S T N l0 q a b P M W mk' s' ts' R' rvs' k' ∧ hb.length ≤ k'.length ∧ ∀ y, y < hb.length → k'[y]? = hb[y]? := by
  have cn := Cn_le hR
  intro m
  induction m with
  | zero =>
    intro i k mk s ts R rvs hi Y hlk ok
    obtain rfl : i = ops.length := by omega
    refine ⟨mk, s, ts, R, rvs, k, ?_, Y, hlk, ok⟩
    rw [J6_0_step]
    unfold Jr6_0
    simp only [go_sem, Nat.reduceAdd, Nat.reduceLeDiff, Nat.reduceMul, Int.reduceBEq, Int.reduceBNe, Int.reduceLT, Int.reduceLE, Int.reduceGT, aBin_lss, Int.lt_irrefl, Jk6_0]
  | succ m ih =>
    intro i k mk s ts R rvs hi Y hlk ok
    have hlt : (i : Int) < (ops.length : Int) := by omega
    have w : IntKind.wrap .i64 ((i : Int) + 1) = ((i + 1 : Nat) : Int) := by rw [wi (by omega) (by omega)]; rfl
    obtain ⟨o, ho⟩ : ∃ o, ops[i]? = some o := ⟨ops[i]'(by omega), List.getElem?_eq_getElem (by omega)⟩
    have S1 : Sl k 5 encO ov ops := SO.heap fun hl => ok _ hl
    have ix := fun {α : Type} (kk : Value → Option α) => S1.ix (i := (i : Int)) (by omega) hlt kk
    have el := S1.elem ho
    simp only [Int.toNat_natCast] at ix
    have st5 := fun (kk : Heap → Option (((Value × Value × Value × Value × Value × Value) × Heap) ⊕ (Exit × (Value × Value × Value × Value × Value × Value) × Heap))) => st_N ⟨0, h.length⟩ 5 k.length 0 (encO o) (k ++ [Blk.own [(Value.int .i64 0), (Value.int .i64 0), (Value.int .i64 0), (Value.int .i64 0), (Value.bool false)]]) kk rfl rfl
    have w5 : wrN ⟨0, h.length⟩ (k ++ [Blk.own [(Value.int .i64 0), (Value.int .i64 0), (Value.int .i64 0), (Value.int .i64 0), (Value.bool false)]]) k.length 0 (encO o) = some (k ++ [Blk.own (encO o)]) := wrN_new0 (bs := []) (Nat.zero_le _) (by show h.length ≤ _; omega) (by simp)
    have r5 : rdN (k ++ [Blk.own (encO o)]) k.length 0 5 = some (encO o) := by rw [rdN_new0]; rfl
    have G1 := Y.g.old (h' := k ++ [Blk.own (encO o)]) fun y hy => List.getElem?_append_left hy
    have l1 : (k ++ [Blk.own (encO o)]).length = k.length + 1 := by simp
    have o1 : ∀ y, y < k.length → (k ++ [Blk.own (encO o)])[y]? = k[y]? := fun y hy => List.getElem?_append_left hy
    obtain ⟨mk2, s2, ts2, R2, rvs2, k2, e2, Y2, L2⟩ := step9 (md := ⟨0, h.length⟩) hR hN hNp ⟨G1, Y.i, Y.len⟩ rfl (by show h.length ≤ _; omega) o
    have ll2 := L2.len
    have ok2 : ∀ y, y < hb.length → k2[y]? = hb[y]? := fun y hy => by rw [L2.old y (by omega) (by omega) (by omega) (by omega) (by omega), o1 y (by omega), ok y hy]
    obtain ⟨mk3, s3, ts3, R3, rvs3, k3, eg, z⟩ := ih (i + 1) k2 mk2 s2 ts2 R2 rvs2 (by omega) Y2 (by omega) ok2
    refine ⟨mk3, s3, ts3, R3, rvs3, k3, ?_, z⟩
    rw [J6_0_step]
    unfold Jr6_0
    simp only [go_sem, Nat.reduceAdd, Nat.reduceLeDiff, Nat.reduceMul, Int.reduceBEq, Int.reduceBNe, Int.reduceLT, Int.reduceLE, Int.reduceGT, aBin_lss, hlt, ixSV_p, ix, el, st5, w5, r5, e2, aBin_add, w]
    exact eg
theorem same_1 (hR : Rt V S T) (hN : (N : Int) = Nn V S) (wD : Wd D) (lD : D.length < 60000) (s2 : Value) (Y : Play V S T N l0 q a b P M W mk s ts R rvs k) (hlk : h.length < k.length) (hc : k[h.length]? = some (.own [(Value.int .i64 V), (Value.int .i64 S), (Value.int .i64 T), dv, ov])) (SD : Sl k 1 eU dv D) (dr : ∀ y : Nat, 1 ≤ y → y ≤ N → prO V S T l0 (y : Int) = drw D y) : ∃ g, J6_1 C ⟨0, h.length⟩ h ((Value.pointer (some ⟨h.length, 0, none⟩))) s2 ((Value.pointer (some ⟨q, 0, none⟩))) k = some ((Value.bool true), g) := by
  have cn := Cn_le hR
  obtain ⟨G, I, hts⟩ := Y
  obtain ⟨ad, ld, cd, rfl⟩ := Sl.sliceV SD
  have r3 : rdN k h.length 0 3 = some [(Value.int .i64 V), (Value.int .i64 S), (Value.int .i64 T)] := by rw [rdN_at hc (by show 3 ≤ 5; omega)]; rfl
  have rd3 : rd k h.length 3 = some (.slice ad ld cd) := by rw [rd_at hc]; rfl
  obtain ⟨k1, q2, a2, b2, l2, s1, P2, M2, W2, R2, rvs2, e1, Y1, l1, o1, lq, la, lb, lm, dr2⟩ := begun9 (md := ⟨0, h.length⟩) (h := k) (ov := .slice none 0 0) hR hN rfl (by show h.length ≤ _; omega) SD wD lD
  have he : ∀ y : Int, Nix V S y → prO V S T l2 y = prO V S T l0 y := fun y hy => by
    have h1 := hy.1
    have h2 := hy.2
    have d1 := dr y.toNat (by omega) (by omega)
    have d2 := dr2 y.toNat (by omega) (by omega)
    rw [show ((y.toNat : Nat) : Int) = y by omega] at d1 d2
    rw [d1, d2]
  have Q1 : QH V S T l2 s1 k q2 a2 b2 (plC V S T a2 R2 P2 M2 W2) k1 := ⟨Y1.g.th, Y1.g.hq, la, lb, lq, Y1.g.qa, Y1.g.qb, o1⟩
  have Z1 : Alo V S mk0 s1 := ⟨fun _ => by show 0 < 4; omega, fun y hy => by
    have h1 := hy.1
    have h2 := hy.2
    have := (Y1.i.tr (single y.toNat) (singles_mem.2 ⟨y.toNat, rfl, by omega, by omega⟩)).2.2.2.2
    unfold single at this
    rw [show ((y.toNat : Nat) : Int) = y by omega] at this
    exact this⟩
  have G1 := G.old o1
  obtain ⟨ms, Sm, lms, gm⟩ := G.fo.mar
  have hp : 0 < k.length := by omega
  have rM : rd k1 q 12 = some M := by rw [rd_at G1.hq]; rfl
  have lenM := fun {α : Type} (kk : Value → Option α) => Sm.len kk
  rw [lms] at lenM
  have uP : Try.prog.underlying 30 = some (.pointer 49) := by kernel_rfl
  obtain ⟨mq, s3, k3, e3, Q3, Z3, hq3⟩ := same_marks (n0 := h.length) (hh := h) (s2 := s2) (s3 := (Value.pointer (some ⟨q, 0, none⟩))) hR hN I.mkl Sm hp lms gm (N + 1) 0 k1 s1 mk0 (by omega) Q1 Z1 (fun y hy h1 => by have := hy.1; omega) (fun y hy h1 => rfl)
  have G3 := G.old Q3.old
  have rR := plR G3.hq
  have lenR := fun {α : Type} (kk : Value → Option α) => G.ro.sl.len kk
  rw [G.ro.len] at lenR
  obtain ⟨s4, k4, e4, Q4, Z4⟩ := same_rows (n0 := h.length) (hh := h) (s2 := s2) hR hN I hts G he ts.length 0 k3 s3 (by omega) Q3 (fun t ht => by simp at ht) (fun t ht y hy => by
    rw [List.drop_zero] at ht
    have hy2 := (I.tr t ht).2.2.1 y hy
    exact IsT.marks (fun z hz => by simp [Tr.row] at hz; subst hz; exact (hq3 _ hy2).symm) (Z3.2 y hy2))
  obtain ⟨g, e5⟩ := same_end (h := h) hR hN I hts G he (by omega) Q4 Z4
  refine ⟨g, ?_⟩
  have z0 : (((0 : Nat) : Int)) = 0 := rfl
  rw [z0] at e3 e4
  unfold J6_1
  simp only [go_sem, Nat.reduceAdd, Nat.reduceLeDiff, Nat.reduceMul, Int.reduceBEq, Int.reduceBNe, Int.reduceLT, Int.reduceLE, Int.reduceGT, r3, rd3, bCase9, e1, aBin_eqlP uP, okNil, okP_p, rM, lenM]
  rw [e3]
  unfold J6_3
  simp only [go_sem, Nat.reduceAdd, Nat.reduceLeDiff, Nat.reduceMul, Int.reduceBEq, Int.reduceBNe, Int.reduceLT, Int.reduceLE, Int.reduceGT, okNil, okP_p, rR, lenR]
  rw [e4]
  exact e5
theorem same09_law : Law Try.prog cfg 6 [27] := by
  intro h avs ha
  obtain ⟨x, r, rfl, a0, ha⟩ := args_cons ha
  obtain rfl := args_nil ha
  obtain ⟨V, S, T, dv, ov, D, ops, rfl, SD, wD, SO⟩ := arg_case a0
  have rt := right9 (md := ⟨0, h.length⟩) (h := h ++ [Blk.own [(Value.int .i64 V), (Value.int .i64 S), (Value.int .i64 T), dv, ov]]) (V := V) (S := S) (T := T) (Nat.zero_le _) (by show h.length ≤ _; simp) SD.app SO.app
  rw [call_eq, F6_eq]
  unfold F6
  by_cases hq : Rt V S T ∧ V ≤ 4 ∧ S ≤ 3 ∧ (D.length : Int) ≤ 60 ∧ (ops.length : Int) ≤ 60
  · rw [decide_eq_true hq] at rt
    obtain ⟨hR, h4, h3, hD, hO⟩ := hq
    have cn := Cn_le hR
    obtain ⟨N, hN⟩ : ∃ N : Nat, (N : Int) = Nn V S := ⟨(Nn V S).toNat, by omega⟩
    have hNp : 1 ≤ N := by omega
    obtain ⟨h1, q, a, b, l0, s, P, M, W, R, rvs, e1, Y1, l1, o1, lq, la, lb, lm, dr⟩ := begun9 (md := ⟨0, h.length⟩) (h := h ++ [Blk.own [(Value.int .i64 V), (Value.int .i64 S), (Value.int .i64 T), dv, ov]]) (ov := ov) hR hN rfl (by show h.length ≤ _; simp) SD.app wD (by omega)
    simp only [List.length_append, List.length_cons, List.length_nil] at l1 o1 lq la lb lm
    have c1 : h1[h.length]? = some (Blk.own [(Value.int .i64 V), (Value.int .i64 S), (Value.int .i64 T), dv, ov]) := by rw [o1 _ (by omega)]; exact List.getElem?_concat_length ..
    have rO : rd h1 h.length 4 = some ov := by rw [rd_at c1]; rfl
    have len := fun {α : Type} (k : Value → Option α) => SO.len k
    have SD1 : Sl (h ++ [Blk.own [(Value.int .i64 V), (Value.int .i64 S), (Value.int .i64 T), dv, ov]]) 1 eU dv D := SD.app
    obtain ⟨mk2, s2, ts2, R2, rvs2, k2, eg, Y2, hl2, ok2⟩ := same_loop (h := h) (l0 := l0) (hb := h ++ [Blk.own [(Value.int .i64 V), (Value.int .i64 S), (Value.int .i64 T), dv, ov]]) ((Value.pointer (some ⟨h.length, 0, none⟩))) hR hN hNp (by simp only [List.length_append, List.length_cons, List.length_nil]) SO.app (by omega) (by simp only [List.length_append, List.length_cons, List.length_nil]; exact ⟨by omega, by omega, by omega, by omega⟩) ops.length 0 h1 _ s _ R rvs (by omega) Y1 (by simp only [List.length_append, List.length_cons, List.length_nil]; omega) fun y hy => o1 y (by simpa using hy)
    simp only [List.length_append, List.length_cons, List.length_nil] at hl2 ok2
    obtain ⟨g, eJ⟩ := same_1 (h := h) (dv := dv) (ov := ov) hR hN wD (by omega) ((Value.bool false)) Y2 (by omega) (by rw [ok2 _ (by omega)]; exact List.getElem?_concat_length ..) (SD1.heap fun hl => ok2 _ (by simpa using hl)) dr
    have uP : Try.prog.underlying 30 = some (.pointer 49) := by kernel_rfl
    refine ⟨g, ?_⟩
    simp only [go_sem, Nat.reduceAdd, Nat.reduceLeDiff, Nat.reduceMul, Int.reduceBEq, Int.reduceBNe, Int.reduceLT, Int.reduceLE, Int.reduceGT, rt, e1, aBin_eqlP uP, rO, len]
    exact eg.trans eJ
  · rw [decide_eq_false hq] at rt
    exact ⟨_, by simp only [go_sem, Nat.reduceAdd, Nat.reduceLeDiff, Nat.reduceMul, Int.reduceBEq, Int.reduceBNe, Int.reduceLT, Int.reduceLE, Int.reduceGT, rt, awake9]; rfl⟩
end Go.Det.E
