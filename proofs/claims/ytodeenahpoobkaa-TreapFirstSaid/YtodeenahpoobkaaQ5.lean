/- The laws of 09: is the machine awake. -/
import Derived.Test.YtodeenahpoobkaaE9
import Derived.Test.YtodeenahpoobkaaEA
import Derived.Test.YtodeenahpoobkaaQ2
import Derived.Test.YtodeenahpoobkaaE8
set_option autoImplicit false
set_option linter.unusedVariables false
set_option linter.unusedSimpArgs false
namespace Go.Det.E
open Go.Proofs Go.Det Go.Det.U
attribute [local congr] bind_c cond_c
theorem take_same {h k : Heap} (hl : h.length ≤ k.length) (o : ∀ y, y < h.length → k[y]? = h[y]?) : k.take h.length = h := by
  refine List.ext_getElem? fun y => ?_
  by_cases hy : y < h.length
  · rw [List.getElem?_take_of_lt hy]; exact o y hy
  · rw [List.getElem?_eq_none (by rw [List.length_take]; omega), List.getElem?_eq_none (by omega)]
theorem awake9 (n : Nat) (h : Heap) : C ⟨0, n⟩ 14 [] h = some ((Value.bool true), h) := by
  have hR : Rt 3 0 1 := by unfold Rt; omega
  have hN : ((6 : Nat) : Int) = Nn 3 0 := by decide
  obtain ⟨k1, q, a, b, l0, s1, P, M, W, R, rvs, e1, Y1, l1, o1, lq, la, lb, lm, dr⟩ := begun9 (md := ⟨0, h.length⟩) (h := h) (ov := .slice none 0 0) (dv := .slice none 0 0) (D := []) hR hN rfl (Nat.le_refl _) (Sl.nil _ eU_len) (fun _ h => by simp at h) (by simp)
  have hm : ∀ y, mk0 y < 4 := fun _ => by show 0 < 4; omega
  have qa := Y1.g.qa
  have qb := Y1.g.qb
  have hq1 := Y1.g.hq
  have A1 := Y1.g.th
  have sg : ∀ y : Nat, 1 ≤ y → y < 7 → IsT mk0 (vxB 3) s1 (single y) 0 := fun y h1 h2 => (Y1.i.tr (single y) (singles_mem.2 ⟨y, rfl, h1, h2⟩)).2.2.2.2
  have pr0 : ∀ y : Nat, 1 ≤ y → y ≤ 6 → prO 3 0 1 l0 (y : Int) = 0 := fun y h1 h2 => dr y h1 h2
  have p1 := pr0 1 (by omega) (by omega)
  have p2 := pr0 2 (by omega) (by omega)
  have p3 := pr0 3 (by omega) (by omega)
  have ab12 : ab (prO 3 0 1 l0) 1 2 = true := ab_t.2 (.inr ⟨p1.trans p2.symm, by omega⟩)
  have ab13 : ab (prO 3 0 1 l0) 1 3 = true := ab_t.2 (.inr ⟨p1.trans p3.symm, by omega⟩)
  have ab23 : ab (prO 3 0 1 l0) 2 3 = true := ab_t.2 (.inr ⟨p2.trans p3.symm, by omega⟩)
  have nix : ∀ y : Int, 1 ≤ y → y ≤ 6 → Nix 3 0 y := fun y h1 h2 => ⟨h1, by rw [← hN]; exact h2⟩
  have T1 := plT hq1
  obtain ⟨la1, lb1⟩ := A1.la
  -- two nodes
  obtain ⟨s2, k2, f2, A2, o2, I2, so2⟩ := tMerge (md := ⟨0, h.length⟩) (A := single 1) (B := single 2) hR hm A1 (Nat.zero_le _) (Nat.zero_le _) (Nat.zero_le _) (sg 1 (by omega) (by omega)) (sg 2 (by omega) (by omega)) (by decide) (fun y hy => by simp [Tr.row] at hy; exact nix y (by omega) (by omega)) (by decide)
  have m2 : mergeT (prO 3 0 1 l0) (single 1) (single 2) = .nd .nil 1 (.nd .nil 2 .nil) := by
    show mergeT _ (.nd .nil 1 .nil) (.nd .nil 2 .nil) = _
    rw [merge_nd, ab12]; simp [mergeT]
  rw [m2] at f2 I2
  have T2 := plT (oat o2 hq1 qa qb)
  have J3 : IsT mk0 (vxB 3) s2 (single 3) 0 := (sg 3 (by omega) (by omega)).congr (so2.on fun y hy => by simp [Tr.row] at hy; subst hy; decide)
  -- three nodes
  obtain ⟨s3, k3, f3, A3, o3', I3, so3⟩ := tMerge (md := ⟨0, h.length⟩) (A := .nd .nil 1 (.nd .nil 2 .nil)) (B := single 3) hR hm A2 (Nat.zero_le _) (Nat.zero_le _) (Nat.zero_le _) I2 J3 (by decide) (fun y hy => by simp [Tr.row] at hy; exact nix y (by omega) (by omega)) (by decide)
  have m3 : mergeT (prO 3 0 1 l0) (.nd .nil 1 (.nd .nil 2 .nil)) (single 3) = .nd .nil 1 (.nd .nil 2 (.nd .nil 3 .nil)) := by
    show mergeT _ (.nd .nil 1 (.nd .nil 2 .nil)) (.nd .nil 3 .nil) = _
    rw [merge_nd, ab13]
    simp only [cond_true]
    rw [merge_nd, ab23]; simp [mergeT]
  rw [m3] at f3 I3
  have o3 := o2.trans o3'
  have T3 := plT (oat o3 hq1 qa qb)
  have r3 : ∀ y ∈ (Tr.nd .nil 1 (.nd .nil 2 (.nd .nil 3 .nil))).row, Nix 3 0 y := fun y hy => by simp [Tr.row] at hy; exact nix y (by omega) (by omega)
  -- a mark
  obtain ⟨s4, k4, f4, A4, o4', I4, so4⟩ := tMark (md := ⟨0, h.length⟩) (x := 3) (m := 1) hR hm A3 (Nat.zero_le _) (Nat.zero_le _) (Nat.zero_le _) I3 (by decide) r3 (by decide) (by decide) (by omega) true
  have hm4 := mkU_lt (mk := mk0) (x := 3) hm (show 1 < 2 by omega) true
  have o4 := o3.trans o4'
  have T4 := plT (oat o4 hq1 qa qb)
  -- split
  obtain ⟨s5, k5, f5, A5, o5', Ia, Ib, so5⟩ := tSplit (md := ⟨0, h.length⟩) hR hm4 A4 (Nat.zero_le _) (Nat.zero_le _) (Nat.zero_le _) I4 (by decide) r3 (by decide) 2
  have sp : splitT (.nd .nil 1 (.nd .nil 2 (.nd .nil 3 .nil))) (clampN 2 (Tr.nd .nil 1 (.nd .nil 2 (.nd .nil 3 .nil))).sz) = (.nd .nil 1 (.nd .nil 2 .nil), .nd .nil 3 .nil) := rfl
  rw [sp] at f5 Ia Ib
  have o5 := o4.trans o5'
  have T5 := plT (oat o5 hq1 qa qb)
  have ra : ∀ y ∈ (Tr.nd .nil 1 (.nd .nil 2 .nil)).row, Nix 3 0 y := fun y hy => by simp [Tr.row] at hy; exact nix y (by omega) (by omega)
  have rb : ∀ y ∈ (Tr.nd .nil 3 .nil).row, Nix 3 0 y := fun y hy => by simp [Tr.row] at hy; exact nix y (by omega) (by omega)
  -- what is told
  obtain ⟨oa, ka, sa⟩ := smok_tr (vx := vxB 3) hm4 (.nd .nil 1 (.nd .nil 2 .nil)) (by decide)
  obtain ⟨ob, kb, sb⟩ := smok_tr (vx := vxB 3) hm4 (.nd .nil 3 .nil) (by decide)
  obtain ⟨k6, f6, A6, o6'⟩ := tsize (md := ⟨0, h.length⟩) hR A5 (Nat.zero_le _) (rt_ch ra) ka ((sum_of Ia.body fun z hz => (ra z hz).1).trans sa)
  have o6 := o5.trans o6'
  have T6 := plT (oat o6 hq1 qa qb)
  obtain ⟨k7, f7, A7, o7'⟩ := tverts (md := ⟨0, h.length⟩) hR A6 (Nat.zero_le _) (rt_ch rb) kb ((sum_of Ib.body fun z hz => (rb z hz).1).trans sb)
  have o7 := o6.trans o7'
  have T7 := plT (oat o7 hq1 qa qb)
  obtain ⟨i8, k8, g8, f8, A8, o8'⟩ := tIndex (md := ⟨0, h.length⟩) (x := 2) hR hm4 A7 (Nat.zero_le _) (Nat.zero_le _) Ia (by decide) ra (by decide) (by decide)
  have o8 := o7.trans o8'
  have T8 := plT (oat o8 hq1 qa qb)
  obtain ⟨k9, f9, A9, o9'⟩ := tRoot (md := ⟨0, h.length⟩) (x := 2) hR A8 (Nat.zero_le _) (Nat.zero_le _) Ia ra (by decide)
  have o9 := o8.trans o9'
  have T9 := plT (oat o9 hq1 qa qb)
  obtain ⟨kA, fA, AA, oA'⟩ := tFirst (md := ⟨0, h.length⟩) (m := 1) hR hm4 A9 (Nat.zero_le _) (Nat.zero_le _) Ib.body rb (by decide) (by omega)
  have oA := o9.trans oA'
  have TA := plT (oat oA hq1 qa qb)
  obtain ⟨kB, fB, AB, oB'⟩ := tFirst (md := ⟨0, h.length⟩) (m := 1) hR hm4 AA (Nat.zero_le _) (Nat.zero_le _) Ia.body ra (by decide) (by omega)
  have oB := oA.trans oB'
  have TB := plT (oat oB hq1 qa qb)
  obtain ⟨sz3, nv3, al3, kk3, ee3⟩ := own_of (x := 3) hm4 Ib (by decide) (by decide) (fun y hy => (rb y hy).1)
  obtain ⟨kC, fC, AC, oC'⟩ := tMarked (md := ⟨0, h.length⟩) (m := 1) hR AB (Nat.zero_le _) (.inr (rb 3 (by decide))) kk3 ee3 (by omega)
  have oC := oB.trans oC'
  have TC := plT (oat oC hq1 qa qb)
  obtain ⟨vD, kD, fD, SD, AD, lD, oD⟩ := tList (md := ⟨0, h.length⟩) hR _ kC AC (Nat.zero_le _) (Nat.zero_le _) (Nat.zero_le _) Ia.body ra (by decide)
  have lC := oC.len
  have tk : kD.take h.length = h := take_same (by omega) fun y hy => by rw [oD y (by omega) (by omega) (by omega), oC.oth y (by omega) (by omega), o1 y hy]
  have i8v : i8 = 1 := by
    have : i8 < 2 := (List.getElem?_eq_some_iff.1 g8).1
    obtain rfl | rfl : i8 = 0 ∨ i8 = 1 := by omega
    · revert g8; decide
    · rfl
  have mk3 : mkU mk0 3 1 true 3 = 2 := by decide
  have fa : firstM (mkU mk0 3 1 true) 1 (Tr.nd .nil 3 .nil).row = 3 := by decide
  have fb : firstM (mkU mk0 3 1 true) 1 (Tr.nd .nil 1 (.nd .nil 2 .nil)).row = 0 := by decide
  have v3 : (Tr.nd .nil 3 .nil).nv (vxB 3) = 1 := by decide
  have z2 : ((Tr.nd .nil 1 (.nd .nil 2 .nil)).sz : Int) = 2 := by decide
  have lenD := fun {α : Type} (kk : Value → Option α) => SD.sl.len kk
  have ln2 : ((Tr.nd .nil 1 (.nd .nil 2 .nil)).row.length : Int) = 2 := by decide
  have bb : bitB (mkU mk0 3 1 true 3) 1 = true := by decide
  rw [i8v] at f8
  rw [fa] at fA
  rw [fb] at fB
  rw [v3] at f7
  rw [z2] at f6
  rw [bb] at fC
  rw [ln2] at lenD
  have f2 : C ⟨0, h.length⟩ 29 [(Value.agg #[(Value.int .i64 3), (Value.int .i64 0), (Value.int .i64 1), ifA a, (Value.int .i64 1), (Value.int .i64 0)]), (Value.int .i64 1), (Value.int .i64 2)] k1 = some ((Value.int .i64 1), k2) := f2
  have f3 : C ⟨0, h.length⟩ 29 [(Value.agg #[(Value.int .i64 3), (Value.int .i64 0), (Value.int .i64 1), ifA a, (Value.int .i64 1), (Value.int .i64 0)]), (Value.int .i64 1), (Value.int .i64 3)] k2 = some ((Value.int .i64 1), k3) := f3
  have f4 : C ⟨0, h.length⟩ 30 [(Value.agg #[(Value.int .i64 3), (Value.int .i64 0), (Value.int .i64 1), ifA a, (Value.int .i64 1), (Value.int .i64 0)]), (Value.int .i64 3), (Value.int .i64 1), (Value.bool true)] k3 = some ((Value.tuple #[]), k4) := f4
  have f5 : C ⟨0, h.length⟩ 28 [(Value.agg #[(Value.int .i64 3), (Value.int .i64 0), (Value.int .i64 1), ifA a, (Value.int .i64 1), (Value.int .i64 0)]), (Value.int .i64 1), (Value.int .i64 2)] k4 = some ((Value.tuple #[(Value.int .i64 1), (Value.int .i64 3)]), k5) := f5
  have f6 : C ⟨0, h.length⟩ 23 [(Value.agg #[(Value.int .i64 3), (Value.int .i64 0), (Value.int .i64 1), ifA a, (Value.int .i64 1), (Value.int .i64 0)]), (Value.int .i64 1)] k5 = some ((Value.int .i64 2), k6) := f6
  have f7 : C ⟨0, h.length⟩ 24 [(Value.agg #[(Value.int .i64 3), (Value.int .i64 0), (Value.int .i64 1), ifA a, (Value.int .i64 1), (Value.int .i64 0)]), (Value.int .i64 3)] k6 = some ((Value.int .i64 1), k7) := f7
  have f8 : C ⟨0, h.length⟩ 22 [(Value.agg #[(Value.int .i64 3), (Value.int .i64 0), (Value.int .i64 1), ifA a, (Value.int .i64 1), (Value.int .i64 0)]), (Value.int .i64 2)] k7 = some ((Value.int .i64 1), k8) := f8
  have f9 : C ⟨0, h.length⟩ 21 [(Value.agg #[(Value.int .i64 3), (Value.int .i64 0), (Value.int .i64 1), ifA a, (Value.int .i64 1), (Value.int .i64 0)]), (Value.int .i64 2)] k8 = some ((Value.int .i64 1), k9) := f9
  have fA : C ⟨0, h.length⟩ 26 [(Value.agg #[(Value.int .i64 3), (Value.int .i64 0), (Value.int .i64 1), ifA a, (Value.int .i64 1), (Value.int .i64 0)]), (Value.int .i64 3), (Value.int .i64 1)] k9 = some ((Value.int .i64 3), kA) := fA
  have fB : C ⟨0, h.length⟩ 26 [(Value.agg #[(Value.int .i64 3), (Value.int .i64 0), (Value.int .i64 1), ifA a, (Value.int .i64 1), (Value.int .i64 0)]), (Value.int .i64 1), (Value.int .i64 1)] kA = some ((Value.int .i64 0), kB) := fB
  have fC : C ⟨0, h.length⟩ 25 [(Value.agg #[(Value.int .i64 3), (Value.int .i64 0), (Value.int .i64 1), ifA a, (Value.int .i64 1), (Value.int .i64 0)]), (Value.int .i64 3), (Value.int .i64 1)] kB = some ((Value.bool true), kC) := fC
  have fD : C ⟨0, h.length⟩ 20 [(Value.agg #[(Value.int .i64 3), (Value.int .i64 0), (Value.int .i64 1), ifA a, (Value.int .i64 1), (Value.int .i64 0)]), (Value.int .i64 1)] kC = some (vD, kD) := fD
  have uP : Try.prog.underlying 30 = some (.pointer 49) := by kernel_rfl
  rw [C, call_eq, F14_eq]
  unfold F14
  simp only [go_sem, Nat.reduceAdd, Nat.reduceLeDiff, Nat.reduceMul, Int.reduceBEq, Int.reduceBNe, Int.reduceLT, Int.reduceLE, Int.reduceGT, e1, aBin_eqlP uP, okNil, okP_p, T1, f2, T2, cLE_t, f3, T3, f4, T4, f5, T5, aBin_eql, f6, T6, f7, T7, f8, T8, f9, T9, fA, TA, fB, TB, fC, TC, fD, lenD, tk]
end Go.Det.E
/- TreapBack. -/
namespace Go.Det.E
open Go.Proofs Go.Det Go.Det.U
attribute [local congr] bind_c cond_c
variable {md : Md} {h hh k h' : Heap} {a b q : Nat} {V S T x v p f : Int} {D : List Int} {l0 : Int → Int} {s s' : NS} {dv ov P M W R R' : Value} {N : Nat} {mk mk' : Int → Nat} {ts ts' : List Tr} {rvs rvs' : List Value} {ops : List Op9} {pr : Int → Int}
theorem PI.same {t : Tr} (I : PI V S pr mk s ts) (ht : t ∈ ts) (It : IsT mk (vxB V) s' t 0) (so : SameOut t.row s s') : PI V S pr mk s' ts := by
  obtain ⟨i, hi⟩ := List.mem_iff_getElem?.1 ht
  refine ⟨I.mkl, fun u hu => ?_, I.ap, I.cov⟩
  obtain ⟨a1, a2, a3, a4, a5⟩ := I.tr u hu
  refine ⟨a1, a2, a3, a4, ?_⟩
  obtain ⟨j, hj⟩ := List.mem_iff_getElem?.1 hu
  by_cases e : j = i
  · subst e
    rw [hi] at hj
    obtain rfl := Option.some.inj hj
    exact It
  · exact a5.congr (so.on (I.ap j i u t e hj hi))
theorem back_loop (rowv kv : Value) (hR : Rt V S T) (hN : (N : Int) = Nn V S) (hNp : 1 ≤ N) (SO : Sl h 5 encO ov ops) (hl : ops.length ≤ 60) (qa : h.length ≤ q ∧ h.length ≤ a ∧ h.length ≤ b ∧ h.length ≤ slB M) : ∀ (m i : Nat) (k : Heap) (mk : Int → Nat) (s : NS) (ts : List Tr) (R : Value) (rvs : List Value), i + m = ops.length → Play V S T N l0 q a b P M W mk s ts R rvs k → h.length ≤ k.length → (∀ y, y < h.length → k[y]? = h[y]?) →
    ∃ mk' s' ts' R' rvs' k', J5_0 C ⟨0, h.length⟩ h rowv kv ((Value.bool false)) ((Value.pointer (some ⟨q, 0, none⟩))) ov ((Value.int .i64 ((ops.length : Int)))) ((Value.int .i64 ((i : Int)))) k = J5_1 C ⟨0, h.length⟩ h rowv kv ((Value.pointer (some ⟨q, 0, none⟩))) k' ∧ Play V S T N l0 q a b P M W mk' s' ts' R' rvs' k' ∧ h.length ≤ k'.length ∧ ∀ y, y < h.length → k'[y]? = h[y]? := by
  have cn := Cn_le hR
  intro m
  induction m with
  | zero =>
    intro i k mk s ts R rvs hi Y hlk ok
    obtain rfl : i = ops.length := by omega
    refine ⟨mk, s, ts, R, rvs, k, ?_, Y, hlk, ok⟩
    rw [J5_0_step]
    unfold Jr5_0
    simp only [go_sem, Nat.reduceAdd, Nat.reduceLeDiff, Nat.reduceMul, Int.reduceBEq, Int.reduceBNe, Int.reduceLT, Int.reduceLE, Int.reduceGT, aBin_lss, Int.lt_irrefl, Jk5_0]
  | succ m ih =>
    intro i k mk s ts R rvs hi Y hlk ok
    have hlt : (i : Int) < (ops.length : Int) := by omega
    have w : IntKind.wrap .i64 ((i : Int) + 1) = ((i + 1 : Nat) : Int) := by rw [wi (by omega) (by omega)]; rfl
    obtain ⟨o, ho⟩ : ∃ o, ops[i]? = some o := ⟨ops[i]'(by omega), List.getElem?_eq_getElem (by omega)⟩
    have S1 : Sl k 5 encO ov ops := SO.heap fun hl => ok _ hl
    have ix := fun {α : Type} (kk : Value → Option α) => S1.ix (i := (i : Int)) (by omega) hlt kk
    have el := S1.elem ho
    simp only [Int.toNat_natCast] at ix
    have st5 := fun (kk : Heap → Option (((Value × Value × Value × Value × Value × Value × Value) × Heap) ⊕ (Exit × (Value × Value × Value × Value × Value × Value × Value) × Heap))) => st_N ⟨0, h.length⟩ 5 k.length 0 (encO o) (k ++ [Blk.own [(Value.int .i64 0), (Value.int .i64 0), (Value.int .i64 0), (Value.int .i64 0), (Value.bool false)]]) kk rfl rfl
    have w5 : wrN ⟨0, h.length⟩ (k ++ [Blk.own [(Value.int .i64 0), (Value.int .i64 0), (Value.int .i64 0), (Value.int .i64 0), (Value.bool false)]]) k.length 0 (encO o) = some (k ++ [Blk.own (encO o)]) := wrN_new0 (bs := []) (Nat.zero_le _) hlk (by simp)
    have r5 : rdN (k ++ [Blk.own (encO o)]) k.length 0 5 = some (encO o) := by rw [rdN_new0]; rfl
    have G1 := Y.g.old (h' := k ++ [Blk.own (encO o)]) fun y hy => List.getElem?_append_left hy
    have l1 : (k ++ [Blk.own (encO o)]).length = k.length + 1 := by simp
    have o1 : ∀ y, y < k.length → (k ++ [Blk.own (encO o)])[y]? = k[y]? := fun y hy => List.getElem?_append_left hy
    obtain ⟨mk2, s2, ts2, R2, rvs2, k2, e2, Y2, L2⟩ := step9 (md := ⟨0, h.length⟩) hR hN hNp ⟨G1, Y.i, Y.len⟩ rfl qa.1 o
    have ll2 := L2.len
    have ok2 : ∀ y, y < h.length → k2[y]? = h[y]? := fun y hy => by rw [L2.old y (by omega) (by omega) (by omega) (by omega) (by omega), o1 y (by omega), ok y hy]
    obtain ⟨mk3, s3, ts3, R3, rvs3, k3, eg, z⟩ := ih (i + 1) k2 mk2 s2 ts2 R2 rvs2 (by omega) Y2 (by omega) ok2
    refine ⟨mk3, s3, ts3, R3, rvs3, k3, ?_, z⟩
    rw [J5_0_step]
    unfold Jr5_0
    simp only [go_sem, Nat.reduceAdd, Nat.reduceLeDiff, Nat.reduceMul, Int.reduceBEq, Int.reduceBNe, Int.reduceLT, Int.reduceLE, Int.reduceGT, aBin_lss, hlt, ixSV_p, ix, el, st5, w5, r5, e2, aBin_add, w]
    exact eg
theorem back_end (hR : Rt V S T) (hN : (N : Int) = Nn V S) (hNp : 1 ≤ N) (Y : Play V S T N l0 q a b P M W mk s ts R rvs k) (row K : Int) : ∃ g, J5_1 C ⟨0, h.length⟩ h ((Value.int .i64 row)) ((Value.int .i64 K)) ((Value.pointer (some ⟨q, 0, none⟩))) k = some ((Value.bool true), g) := by
  obtain ⟨G, I, hl⟩ := Y
  have cn := Cn_le hR
  have hts := ts_pos hN hNp I
  obtain ⟨i, ei, hi⟩ := row_s (md := ⟨0, h.length⟩) G hts (by omega) row
  by_cases c1 : i < 0
  · refine ⟨k.take h.length, ?_⟩
    unfold J5_1
    simp only [go_sem, Nat.reduceAdd, Nat.reduceLeDiff, Nat.reduceMul, Int.reduceBEq, Int.reduceBNe, Int.reduceLT, Int.reduceLE, Int.reduceGT, ei, c1, awake9]
  obtain ⟨n, rfl⟩ : ∃ n : Nat, i = n := ⟨i.toNat, by omega⟩
  have hrl := G.ro.len
  obtain ⟨t1, ht1⟩ : ∃ t, ts[n]? = some t := ⟨ts[n]'(by omega), List.getElem?_eq_getElem (by omega)⟩
  obtain ⟨v1, hv1⟩ : ∃ t, rvs[n]? = some t := ⟨rvs[n]'(by omega), List.getElem?_eq_getElem (by omega)⟩
  obtain ⟨a1, a2, a3, a4, a5⟩ := I.tr t1 (List.mem_of_getElem? ht1)
  have hsz := row_small hN a2 a3
  rw [Tr.row_len] at hsz
  obtain ⟨ix1, rx1⟩ := Sl.getV G.ro.sl hv1
  have X1 : Sl k 1 eZ v1 t1.row := G.ro.at_ n v1 t1 hv1 ht1
  have rR := plR G.hq
  have rT := plT G.hq
  have rF := plF G.hq
  have sm : ∀ {u : Tr}, (∀ y ∈ u.row, Nix V S y) → ∀ y ∈ u.row, 1 ≤ y ∧ y ≤ N := fun hu y hy => by have := hu y hy; omega
  have ro1 := fo_root (md := ⟨0, h.length⟩) (R := R) G.fo X1 a1 (sm a3) (by omega)
  obtain ⟨s2, k2, e2, A2, o2, Iu, Iw, so2⟩ := tSplit (md := ⟨0, h.length⟩) hR I.mkl G.th (Nat.zero_le _) (Nat.zero_le _) (Nat.zero_le _) a5 a2 a3 (by omega) K
  obtain ⟨p1, p2⟩ := split_row t1 (clampN K t1.sz)
  obtain ⟨hp1, hp2⟩ := split_hp t1 (clampN K t1.sz) a1
  generalize (splitT t1 (clampN K t1.sz)).1 = u at *
  generalize (splitT t1 (clampN K t1.sz)).2 = w at *
  have hrow : u.row ++ w.row = t1.row := by rw [p1, p2, List.take_append_drop]
  have hnd : (u.row ++ w.row).Nodup := hrow ▸ a2
  have h0 : ∀ y ∈ u.row ++ w.row, Nix V S y := fun y hy => a3 y (hrow ▸ hy)
  have hu0 : ∀ y ∈ u.row, Nix V S y := fun y hy => h0 y (List.mem_append.2 (.inl hy))
  have hw0 : ∀ y ∈ w.row, Nix V S y := fun y hy => h0 y (List.mem_append.2 (.inr hy))
  have su : u.sz + w.sz = t1.sz := by
    have := congrArg List.length hrow
    rw [List.length_append, Tr.row_len, Tr.row_len, Tr.row_len] at this; exact this
  have hq2 := oat o2 G.hq G.qa G.qb
  have rT2 := plT hq2
  obtain ⟨ou, ku, eu⟩ := smok_tr (vx := vxB V) I.mkl u (by omega)
  obtain ⟨ow, kw, ew⟩ := smok_tr (vx := vxB V) I.mkl w (by omega)
  obtain ⟨k3, e3, A3, o3'⟩ := tsize (md := ⟨0, h.length⟩) hR A2 (Nat.zero_le _) (rt_ch hu0) ku ((sum_of Iu.body fun z hz => (hu0 z hz).1).trans eu)
  have o3 := o2.trans o3'
  have rT3 := plT (oat o3 G.hq G.qa G.qb)
  obtain ⟨k4, e4, A4, o4'⟩ := tsize (md := ⟨0, h.length⟩) hR A3 (Nat.zero_le _) (rt_ch hw0) kw ((sum_of Iw.body fun z hz => (hw0 z hz).1).trans ew)
  have o4 := o3.trans o4'
  have fr : ∀ {g : Heap} {sg : NS}, TH V S T l0 a b sg g → Only a b k g → PG V S T l0 mk sg ts N g q a b R P M W rvs := fun A o => G.only A fun y hy h1 h2 => o.oth y h1 h2
  have G2 := fr A2 o2
  have G3 := fr A3 o3
  have G4 := fr A4 o4
  have rR2 := plR G2.hq
  have rR3 := plR G3.hq
  have rR4 := plR G4.hq
  obtain ⟨_, rx2⟩ := Sl.getV G2.ro.sl hv1
  obtain ⟨_, rx3⟩ := Sl.getV G3.ro.sl hv1
  obtain ⟨ix4, rx4⟩ := Sl.getV G4.ro.sl hv1
  have len4 := fun {α : Type} (kk : Value → Option α) => X1.len kk
  have rT4 := plT G4.hq
  have wz : (IntKind.wrap .i64 ((u.sz : Int) + (w.sz : Int)) != (t1.row.length : Int)) = false := by
    rw [Tr.row_len, wi (by omega) (by omega)]
    simp; omega
  obtain ⟨s5, k5, e5, A5, o5', I5, so5⟩ := tMerge (md := ⟨0, h.length⟩) hR I.mkl A4 (Nat.zero_le _) (Nat.zero_le _) (Nat.zero_le _) Iu Iw hnd h0 (by omega)
  have hM := merge_row (pr := prO V S T l0) _ u w (Nat.le_refl _)
  have hH := merge_hp (pr := prO V S T l0) _ u w (Nat.le_refl _) hp1 hp2 hnd
  have eM : mergeT (prO V S T l0) u w = t1 := hp_uniq hH a1 (by rw [hM, hrow]) (by rw [hM]; exact hnd)
  rw [eM] at e5 I5
  have o5 := o4.trans o5'
  have so : SameOut t1.row s s5 := so2.trans (hrow ▸ so5)
  have G5 := fr A5 o5
  obtain ⟨k6, e6, G6, l6, o6⟩ := is_s (md := ⟨0, h.length⟩) hR hN (I.same (List.mem_of_getElem? ht1) I5 so) G5 (by omega) rfl
  have b1 : (t1.rt == t1.rt) = true := by simp
  refine ⟨k6.take h.length, ?_⟩
  unfold J5_1
  simp only [go_sem, Nat.reduceAdd, Nat.reduceLeDiff, Nat.reduceMul, Int.reduceBEq, Int.reduceBNe, Int.reduceLT, Int.reduceLE, Int.reduceGT, ei, c1, okNil, okP_p, rF, rR, ix1, rx1, ro1, rT, e2, rT2, e3, rT3, cLE_t, e4, rR4, rR3, rR2, ix4, rx4, rx3, rx2, len4, wz, rT4, e5, b1, e6, awake9]
theorem back09_law : Law Try.prog cfg 5 [27, 3, 3] := by
  intro h avs ha
  obtain ⟨x, r, rfl, a0, ha⟩ := args_cons ha
  obtain ⟨rv, r, rfl, ar, ha⟩ := args_cons ha
  obtain ⟨kv, r, rfl, ak, ha⟩ := args_cons ha
  obtain rfl := args_nil ha
  obtain ⟨row, rfl, _⟩ := inI64 (arg1 (P := Try.prog) (by kernel_rfl) (by kernel_rfl) ar)
  obtain ⟨K, rfl, _⟩ := inI64 (arg1 (P := Try.prog) (by kernel_rfl) (by kernel_rfl) ak)
  obtain ⟨V, S, T, dv, ov, D, ops, rfl, SD, wD, SO⟩ := arg_case a0
  have rt := right9 (md := ⟨0, h.length⟩) (h := h ++ [Blk.own [(Value.int .i64 V), (Value.int .i64 S), (Value.int .i64 T), dv, ov]]) (V := V) (S := S) (T := T) (Nat.zero_le _) (by show h.length ≤ _; simp) SD.app SO.app
  rw [call_eq, F5_eq]
  unfold F5
  by_cases hq : Rt V S T ∧ V ≤ 4 ∧ S ≤ 3 ∧ (D.length : Int) ≤ 60 ∧ (ops.length : Int) ≤ 60
  · rw [decide_eq_true hq] at rt
    obtain ⟨hR, h4, h3, hD, hO⟩ := hq
    have cn := Cn_le hR
    obtain ⟨N, hN⟩ : ∃ N : Nat, (N : Int) = Nn V S := ⟨(Nn V S).toNat, by omega⟩
    have hNp : 1 ≤ N := by omega
    obtain ⟨h1, q, a, b, l0, s, P, M, W, R, rvs, e1, Y1, l1, o1, lq, la, lb, lm, dr⟩ := begun9 (md := ⟨0, h.length⟩) (h := h ++ [Blk.own [(Value.int .i64 V), (Value.int .i64 S), (Value.int .i64 T), dv, ov]]) (ov := ov) hR hN rfl (by show h.length ≤ _; simp) SD.app wD (by omega)
    simp only [List.length_append, List.length_cons, List.length_nil] at l1 o1 lq la lb lm
    have c1 : h1[h.length]? = some (Blk.own [(Value.int .i64 V), (Value.int .i64 S), (Value.int .i64 T), dv, ov]) := by rw [o1 _ (by omega)]; exact List.getElem?_concat_length ..
    have rO : rd h1 h.length 4 = some ov := by rw [rd_at c1]; rfl
    have len := fun {α : Type} (k : Value → Option α) => SO.len k
    obtain ⟨mk2, s2, ts2, R2, rvs2, k2, eg, Y2, _⟩ := back_loop (l0 := l0) ((Value.int .i64 row)) ((Value.int .i64 K)) hR hN hNp SO (by omega) ⟨by omega, by omega, by omega, by omega⟩ ops.length 0 h1 _ s _ R rvs (by omega) Y1 (by omega) fun y hy => by rw [o1 y (by omega), List.getElem?_append_left hy]
    obtain ⟨g, ef⟩ := back_end (h := h) hR hN hNp Y2 row K
    have uP : Try.prog.underlying 30 = some (.pointer 49) := by kernel_rfl
    refine ⟨g, ?_⟩
    simp only [go_sem, Nat.reduceAdd, Nat.reduceLeDiff, Nat.reduceMul, Int.reduceBEq, Int.reduceBNe, Int.reduceLT, Int.reduceLE, Int.reduceGT, rt, e1, aBin_eqlP uP, rO, len]
    exact eg.trans ef
  · rw [decide_eq_false hq] at rt
    exact ⟨_, by simp only [go_sem, Nat.reduceAdd, Nat.reduceLeDiff, Nat.reduceMul, Int.reduceBEq, Int.reduceBNe, Int.reduceLT, Int.reduceLE, Int.reduceGT, rt, awake9]; rfl⟩
end Go.Det.E

/- TreapFirst. -/
namespace Go.Det.E
open Go.Proofs Go.Det Go.Det.U
attribute [local congr] bind_c cond_c
variable {md : Md} {h hh k h' : Heap} {a b q n0 : Nat} {V S T x v p f : Int} {D : List Int} {l0 : Int → Int} {s s' : NS} {dv ov P M W R R' : Value} {N : Nat} {mk mk' : Int → Nat} {ts ts' : List Tr} {rvs rvs' : List Value} {ops : List Op9} {pr : Int → Int}
theorem i_shr {α : Type} {o m : Nat} (ho : o < 4) (hm : m < 2) (kk : Value → Option α) : aBin Try.prog .shr 3 ((Value.int .i64 ((o : Int)))) ((Value.int .i64 ((m : Int)))) kk = kk ((Value.int .i64 (((o / 2 ^ m : Nat) : Int)))) := by
  obtain rfl | rfl : m = 0 ∨ m = 1 := by omega
  all_goals (obtain rfl | rfl | rfl | rfl : o = 0 ∨ o = 1 ∨ o = 2 ∨ o = 3 := by omega) <;> kernel_rfl
theorem i_bit {o m : Nat} (ho : o < 4) (hm : m < 2) : (bAnd .i64 ((o / 2 ^ m : Nat) : Int) 1 == 0) = !bitB o m := by
  obtain rfl | rfl : m = 0 ∨ m = 1 := by omega
  all_goals (obtain rfl | rfl | rfl | rfl : o = 0 ∨ o = 1 ∨ o = 2 ∨ o = 3 := by omega) <;> kernel_rfl
theorem i_shl3 {α : Type} {m : Nat} (hm : m < 2) (kk : Value → Option α) : aBin Try.prog .shl 3 ((Value.int .i64 1)) ((Value.int .i64 ((m : Int)))) kk = kk ((Value.int .i64 (((2 ^ m : Nat) : Int)))) := by
  obtain rfl | rfl : m = 0 ∨ m = 1 := by omega
  all_goals kernel_rfl
theorem bit_clr {o m : Nat} (ho : o < 4) (hm : m < 2) : bitB (markS o m false) m = false := by
  obtain rfl | rfl : m = 0 ∨ m = 1 := by omega
  all_goals (obtain rfl | rfl | rfl | rfl : o = 0 ∨ o = 1 ∨ o = 2 ∨ o = 3 := by omega) <;> decide
theorem first_in {t : Tr} {rv s4 sR sL sI : Value} {i : Nat} {m : Nat} (hm2 : m < 2) (hR : Rt V S T) (hN : (N : Int) = Nn V S) (n : Nat) (ht : ts[n]? = some t) (hv : rvs[n]? = some rv) : ∀ (c j : Nat) (k : Heap) (mk : Int → Nat) (s : NS), j + c = t.row.length → Play V S T N l0 q a b P M W mk s ts R rvs k → (∀ y ∈ t.row.take j, bitB (mk y) m = false) →
    ∃ mk' s' k', J7_2b0 C ⟨0, n0⟩ ((Value.int .i64 ((m : Int)))) s4 ((Value.pointer (some ⟨q, 0, none⟩))) ((Value.int .i64 t.rt)) sR sL sI rv ((Value.int .i64 ((t.row.length : Int)))) ((Value.int .i64 ((j : Int)))) k = J7_2b1 C ⟨0, n0⟩ ((Value.int .i64 ((m : Int)))) s4 ((Value.pointer (some ⟨q, 0, none⟩))) ((Value.int .i64 t.rt)) sR sL sI k' ∧ Play V S T N l0 q a b P M W mk' s' ts R rvs k' ∧ (∀ y ∈ t.row, bitB (mk' y) m = false) := by
  have cn := Cn_le hR
  intro c
  induction c with
  | zero =>
    intro j k mk s hj Y hb
    obtain rfl : j = t.row.length := by omega
    refine ⟨mk, s, k, ?_, Y, by rwa [List.take_length] at hb⟩
    rw [J7_2b0_step]
    unfold Jr7_2b0
    simp only [go_sem, Nat.reduceAdd, Nat.reduceLeDiff, Nat.reduceMul, Int.reduceBEq, Int.reduceBNe, Int.reduceLT, Int.reduceLE, Int.reduceGT, aBin_lss, Int.lt_irrefl, Jk7_2b0]
  | succ c ih =>
    intro j k mk s hj Y hb
    obtain ⟨G, I, hl⟩ := Y
    obtain ⟨a1, a2, a3, a4, a5⟩ := I.tr t (List.mem_of_getElem? ht)
    have hsz := row_small hN a2 a3
    have rl := t.row_len
    have hlt : (j : Int) < (t.row.length : Int) := by omega
    have w : IntKind.wrap .i64 ((j : Int) + 1) = ((j + 1 : Nat) : Int) := by rw [wi (by omega) (by omega)]; rfl
    have X : Sl k 1 eZ rv t.row := G.ro.at_ n rv t hv ht
    obtain ⟨ix, rx⟩ := Sl.getI X (row_at (row := t.row) (i := j) (by omega))
    have hxm := getD_mem (row := t.row) (i := j) (by omega)
    have tk := take_one (row := t.row) (i := j) (by omega)
    generalize hxe : t.row.getD j 0 = x at *
    have hx := a3 x hxm
    have rM : rd k q 12 = some M := by rw [rd_at G.hq]; rfl
    obtain ⟨im, rm⟩ := G.getM (x := x) ⟨hx.1, by omega⟩
    have q1 := fun {α : Type} (kk : Value → Option α) => i_shr (I.mkl x) hm2 kk
    have q2 := i_bit (I.mkl x) hm2
    cases hbx : bitB (mk x) m
    · rw [hbx] at q2
      obtain ⟨mk', s', k', e, z⟩ := ih (j + 1) k mk s (by omega) ⟨G, I, hl⟩ (fun y hy => by
        rw [tk] at hy
        rcases List.mem_append.1 hy with h1 | h1
        · exact hb y h1
        · simp only [List.mem_singleton] at h1; subst h1; exact hbx)
      refine ⟨mk', s', k', ?_, z⟩
      rw [J7_2b0_step]
      unfold Jr7_2b0
      simp only [go_sem, Nat.reduceAdd, Nat.reduceLeDiff, Nat.reduceMul, Int.reduceBEq, Int.reduceBNe, Int.reduceLT, Int.reduceLE, Int.reduceGT, aBin_lss, hlt, ixSV_p, ix, rx, okNil, okP_p, rM, im, rm, q1, aBin_and, aBin_eql, q2, Bool.not_false, aBin_add, w]
      exact e
    · rw [hbx] at q2
      have rT := plT G.hq
      obtain ⟨k2, f2, A2, o2⟩ := tFirst (md := ⟨0, n0⟩) hR I.mkl G.th (Nat.zero_le _) (Nat.zero_le _) a5.body a3 (by omega) hm2
      have ef : firstM mk m t.row = x := by
        have hd : t.row = t.row.take j ++ x :: t.row.drop (j + 1) := by
          have := List.take_append_drop (j + 1) t.row
          rw [tk, List.append_assoc] at this
          exact this.symm
        rw [hd, firstM_app _ _ _ _ hb, firstM, hbx]; rfl
      rw [ef] at f2
      have G2 := G.only A2 fun y hy h1 h2 => o2.oth y h1 h2
      have rT2 := plT G2.hq
      obtain ⟨s3, k3, f3, A3, o3, I3, so3⟩ := tMark (md := ⟨0, n0⟩) (m := m) hR I.mkl A2 (Nat.zero_le _) (Nat.zero_le _) (Nat.zero_le _) a5 a2 a3 (by omega) hxm hm2 false
      have G3 := G2.only A3 fun y hy h1 h2 => o3.oth y h1 h2
      have rM3 : rd k3 q 12 = some M := by rw [rd_at G3.hq]; rfl
      obtain ⟨im3, rm3⟩ := G3.getM (x := x) ⟨hx.1, by omega⟩
      have q3 := fun {α : Type} (kk : Value → Option α) => i_shl3 hm2 kk
      have q4 := fun {α : Type} (kk : Value → Option α) => i_clr (I.mkl x) hm2 kk
      have mF : mkU mk x m false x = markS (mk x) m false := if_pos rfl
      obtain ⟨k4, e4, G4, l4, o4⟩ := G3.setM (md := ⟨0, n0⟩) (mk' := mkU mk x m false) ⟨hx.1, by omega⟩ (fun y hy => if_neg hy) (Nat.zero_le _)
      rw [mF] at e4
      obtain ⟨mk', s', k', e, z⟩ := ih (j + 1) k4 (mkU mk x m false) s3 (by omega) ⟨G4, I.mark hm2 (List.mem_of_getElem? ht) hxm I3 so3, hl⟩ (fun y hy => by
        rw [tk] at hy
        by_cases e : y = x
        · subst e; rw [mF]; exact bit_clr (I.mkl y) hm2
        · rw [mkU_ne e]
          rcases List.mem_append.1 hy with h1 | h1
          · exact hb y h1
          · simp only [List.mem_singleton] at h1; exact absurd h1 e)
      refine ⟨mk', s', k', ?_, z⟩
      rw [J7_2b0_step]
      unfold Jr7_2b0
      simp only [go_sem, Nat.reduceAdd, Nat.reduceLeDiff, Nat.reduceMul, Int.reduceBEq, Int.reduceBNe, Int.reduceLT, Int.reduceLE, Int.reduceGT, aBin_lss, hlt, ixSV_p, ix, rx, okNil, okP_p, rM, im, rm, q1, aBin_and, aBin_eql, q2, Bool.not_true, rT, f2, bne_self, rT2, f3, rM3, im3, rm3, q3, q4, e4, aBin_add, w]
      exact e
theorem first_rows {m : Nat} (hm2 : m < 2) (hR : Rt V S T) (hN : (N : Int) = Nn V S) (s4 : Value) : ∀ (c i : Nat) (k : Heap) (mk : Int → Nat) (s : NS), i + c = ts.length → Play V S T N l0 q a b P M W mk s ts R rvs k →
    ∃ g, J7_2 C ⟨0, h.length⟩ h ((Value.int .i64 ((m : Int)))) s4 ((Value.pointer (some ⟨q, 0, none⟩))) R ((Value.int .i64 ((ts.length : Int)))) ((Value.int .i64 ((i : Int)))) k = some ((Value.bool true), g) := by
  have cn := Cn_le hR
  intro c
  induction c with
  | zero =>
    intro i k mk s hi Y
    obtain rfl : i = ts.length := by omega
    obtain ⟨k2, e2, G2, l2, o2⟩ := is_s (md := ⟨0, h.length⟩) hR hN Y.i Y.g (by have := Y.len; omega) rfl
    refine ⟨k2.take h.length, ?_⟩
    rw [J7_2_step]
    unfold Jr7_2
    simp only [go_sem, Nat.reduceAdd, Nat.reduceLeDiff, Nat.reduceMul, Int.reduceBEq, Int.reduceBNe, Int.reduceLT, Int.reduceLE, Int.reduceGT, aBin_lss, Int.lt_irrefl, Jk7_2]
    unfold J7_3
    simp only [go_sem, Nat.reduceAdd, Nat.reduceLeDiff, Nat.reduceMul, Int.reduceBEq, Int.reduceBNe, Int.reduceLT, Int.reduceLE, Int.reduceGT, e2, awake9]
  | succ c ih =>
    intro i k mk s hi Y
    obtain ⟨G, I, hl⟩ := Y
    have hrl := G.ro.len
    have hlt : (i : Int) < (ts.length : Int) := by omega
    have w : IntKind.wrap .i64 ((i : Int) + 1) = ((i + 1 : Nat) : Int) := by rw [wi (by omega) (by omega)]; rfl
    obtain ⟨t, ht⟩ : ∃ t, ts[i]? = some t := ⟨ts[i]'(by omega), List.getElem?_eq_getElem (by omega)⟩
    obtain ⟨rv, hv⟩ : ∃ t, rvs[i]? = some t := ⟨rvs[i]'(by omega), List.getElem?_eq_getElem (by omega)⟩
    obtain ⟨ix, rx⟩ := Sl.getV G.ro.sl hv
    obtain ⟨a1, a2, a3, a4, a5⟩ := I.tr t (List.mem_of_getElem? ht)
    have hsz := row_small hN a2 a3
    have rl := t.row_len
    have X : Sl k 1 eZ rv t.row := G.ro.at_ i rv t hv ht
    have len := fun {α : Type} (kk : Value → Option α) => X.len kk
    have rF := plF G.hq
    have ro1 := fo_root (md := ⟨0, h.length⟩) (R := R) G.fo X a1 (fun y hy => by have := a3 y hy; omega) (by omega)
    obtain ⟨mk2, s2, k2, e2, Y2, nb⟩ := first_in (n0 := h.length) (s4 := s4) (sR := R) (sL := (Value.int .i64 ((ts.length : Int)))) (sI := (Value.int .i64 ((i : Int)))) (i := i) hm2 hR hN i ht hv t.row.length 0 k mk s (by omega) ⟨G, I, hl⟩ (fun y hy => by simp at hy)
    obtain ⟨b1, b2, b3, b4, b5⟩ := Y2.i.tr t (List.mem_of_getElem? ht)
    have rT2 := plT Y2.g.hq
    obtain ⟨k3, f3, A3, o3⟩ := tFirst (md := ⟨0, h.length⟩) hR Y2.i.mkl Y2.g.th (Nat.zero_le _) (Nat.zero_le _) b5.body b3 (by omega) hm2
    rw [firstM_no nb] at f3
    obtain ⟨g, eg⟩ := ih (i + 1) k3 mk2 s2 (by omega) ⟨Y2.g.only A3 fun y hy h1 h2 => o3.oth y h1 h2, Y2.i, Y2.len⟩
    refine ⟨g, ?_⟩
    have z0 : ((0 : Int) != 0) = false := rfl
    simp only [Int.natCast_zero] at e2
    rw [J7_2_step]
    unfold Jr7_2
    simp only [go_sem, Nat.reduceAdd, Nat.reduceLeDiff, Nat.reduceMul, Int.reduceBEq, Int.reduceBNe, Int.reduceLT, Int.reduceLE, Int.reduceGT, aBin_lss, hlt, ixSV_p, ix, rx, okNil, okP_p, rF, ro1, len]
    rw [e2]
    unfold J7_2b1
    simp only [go_sem, Nat.reduceAdd, Nat.reduceLeDiff, Nat.reduceMul, Int.reduceBEq, Int.reduceBNe, Int.reduceLT, Int.reduceLE, Int.reduceGT, okNil, okP_p, rT2, f3, z0, aBin_add, w]
    exact eg
theorem first_loop (rowv : Value) (hR : Rt V S T) (hN : (N : Int) = Nn V S) (hNp : 1 ≤ N) (SO : Sl h 5 encO ov ops) (hl : ops.length ≤ 60) (qa : h.length ≤ q ∧ h.length ≤ a ∧ h.length ≤ b ∧ h.length ≤ slB M) : ∀ (m i : Nat) (k : Heap) (mk : Int → Nat) (s : NS) (ts : List Tr) (R : Value) (rvs : List Value), i + m = ops.length → Play V S T N l0 q a b P M W mk s ts R rvs k → h.length ≤ k.length → (∀ y, y < h.length → k[y]? = h[y]?) →
    ∃ mk' s' ts' R' rvs' k', J7_0 C ⟨0, h.length⟩ h rowv ((Value.bool false)) ((Value.pointer (some ⟨q, 0, none⟩))) ov ((Value.int .i64 ((ops.length : Int)))) ((Value.int .i64 ((i : Int)))) k = J7_1 C ⟨0, h.length⟩ h rowv ((Value.bool false)) ((Value.pointer (some ⟨q, 0, none⟩))) k' ∧ Play V S T N l0 q a b P M W mk' s' ts' R' rvs' k' ∧ h.length ≤ k'.length ∧ ∀ y, y < h.length → k'[y]? = h[y]? := by
  have cn := Cn_le hR
  intro m
  induction m with
  | zero =>
    intro i k mk s ts R rvs hi Y hlk ok
    obtain rfl : i = ops.length := by omega
    refine ⟨mk, s, ts, R, rvs, k, ?_, Y, hlk, ok⟩
    rw [J7_0_step]
    unfold Jr7_0
    simp only [go_sem, Nat.reduceAdd, Nat.reduceLeDiff, Nat.reduceMul, Int.reduceBEq, Int.reduceBNe, Int.reduceLT, Int.reduceLE, Int.reduceGT, aBin_lss, Int.lt_irrefl, Jk7_0]
  | succ m ih =>
    intro i k mk s ts R rvs hi Y hlk ok
    have hlt : (i : Int) < (ops.length : Int) := by omega
    have w : IntKind.wrap .i64 ((i : Int) + 1) = ((i + 1 : Nat) : Int) := by rw [wi (by omega) (by omega)]; rfl
    obtain ⟨o, ho⟩ : ∃ o, ops[i]? = some o := ⟨ops[i]'(by omega), List.getElem?_eq_getElem (by omega)⟩
    have S1 : Sl k 5 encO ov ops := SO.heap fun hl => ok _ hl
    have ix := fun {α : Type} (kk : Value → Option α) => S1.ix (i := (i : Int)) (by omega) hlt kk
    have el := S1.elem ho
    simp only [Int.toNat_natCast] at ix
    have st5 := fun (kk : Heap → Option (((Value × Value × Value × Value × Value × Value) × Heap) ⊕ (Exit × (Value × Value × Value × Value × Value × Value) × Heap))) => st_N ⟨0, h.length⟩ 5 k.length 0 (encO o) (k ++ [Blk.own [(Value.int .i64 0), (Value.int .i64 0), (Value.int .i64 0), (Value.int .i64 0), (Value.bool false)]]) kk rfl rfl
    have w5 : wrN ⟨0, h.length⟩ (k ++ [Blk.own [(Value.int .i64 0), (Value.int .i64 0), (Value.int .i64 0), (Value.int .i64 0), (Value.bool false)]]) k.length 0 (encO o) = some (k ++ [Blk.own (encO o)]) := wrN_new0 (bs := []) (Nat.zero_le _) hlk (by simp)
    have r5 : rdN (k ++ [Blk.own (encO o)]) k.length 0 5 = some (encO o) := by rw [rdN_new0]; rfl
    have G1 := Y.g.old (h' := k ++ [Blk.own (encO o)]) fun y hy => List.getElem?_append_left hy
    have l1 : (k ++ [Blk.own (encO o)]).length = k.length + 1 := by simp
    have o1 : ∀ y, y < k.length → (k ++ [Blk.own (encO o)])[y]? = k[y]? := fun y hy => List.getElem?_append_left hy
    obtain ⟨mk2, s2, ts2, R2, rvs2, k2, e2, Y2, L2⟩ := step9 (md := ⟨0, h.length⟩) hR hN hNp ⟨G1, Y.i, Y.len⟩ rfl qa.1 o
    have ll2 := L2.len
    have ok2 : ∀ y, y < h.length → k2[y]? = h[y]? := fun y hy => by rw [L2.old y (by omega) (by omega) (by omega) (by omega) (by omega), o1 y (by omega), ok y hy]
    obtain ⟨mk3, s3, ts3, R3, rvs3, k3, eg, z⟩ := ih (i + 1) k2 mk2 s2 ts2 R2 rvs2 (by omega) Y2 (by omega) ok2
    refine ⟨mk3, s3, ts3, R3, rvs3, k3, ?_, z⟩
    rw [J7_0_step]
    unfold Jr7_0
    simp only [go_sem, Nat.reduceAdd, Nat.reduceLeDiff, Nat.reduceMul, Int.reduceBEq, Int.reduceBNe, Int.reduceLT, Int.reduceLE, Int.reduceGT, aBin_lss, hlt, ixSV_p, ix, el, st5, w5, r5, e2, aBin_add, w]
    exact eg
theorem first09_law : Law Try.prog cfg 7 [27, 3] := by
  intro h avs ha
  obtain ⟨x, r, rfl, a0, ha⟩ := args_cons ha
  obtain ⟨mv, r, rfl, am, ha⟩ := args_cons ha
  obtain rfl := args_nil ha
  obtain ⟨mi, rfl, _⟩ := inI64 (arg1 (P := Try.prog) (by kernel_rfl) (by kernel_rfl) am)
  obtain ⟨V, S, T, dv, ov, D, ops, rfl, SD, wD, SO⟩ := arg_case a0
  have rt := right9 (md := ⟨0, h.length⟩) (h := h ++ [Blk.own [(Value.int .i64 V), (Value.int .i64 S), (Value.int .i64 T), dv, ov]]) (V := V) (S := S) (T := T) (Nat.zero_le _) (by show h.length ≤ _; simp) SD.app SO.app
  rw [call_eq, F7_eq]
  unfold F7
  by_cases hq : Rt V S T ∧ V ≤ 4 ∧ S ≤ 3 ∧ (D.length : Int) ≤ 60 ∧ (ops.length : Int) ≤ 60
  · rw [decide_eq_true hq] at rt
    obtain ⟨hR, h4, h3, hD, hO⟩ := hq
    by_cases m0 : mi < 0
    · exact ⟨_, by simp only [go_sem, Nat.reduceAdd, Nat.reduceLeDiff, Nat.reduceMul, Int.reduceBEq, Int.reduceBNe, Int.reduceLT, Int.reduceLE, Int.reduceGT, rt, aBin_lss, m0, awake9]; rfl⟩
    by_cases m1 : (1 : Int) < mi
    · exact ⟨_, by simp only [go_sem, Nat.reduceAdd, Nat.reduceLeDiff, Nat.reduceMul, Int.reduceBEq, Int.reduceBNe, Int.reduceLT, Int.reduceLE, Int.reduceGT, rt, aBin_lss, m0, aBin_gtr, m1, awake9]; rfl⟩
    obtain ⟨m, rfl⟩ : ∃ m : Nat, mi = m := ⟨mi.toNat, by omega⟩
    have hm2 : m < 2 := by omega
    have cn := Cn_le hR
    obtain ⟨N, hN⟩ : ∃ N : Nat, (N : Int) = Nn V S := ⟨(Nn V S).toNat, by omega⟩
    have hNp : 1 ≤ N := by omega
    obtain ⟨h1, q, a, b, l0, s, P, M, W, R, rvs, e1, Y1, l1, o1, lq, la, lb, lm, dr⟩ := begun9 (md := ⟨0, h.length⟩) (h := h ++ [Blk.own [(Value.int .i64 V), (Value.int .i64 S), (Value.int .i64 T), dv, ov]]) (ov := ov) hR hN rfl (by show h.length ≤ _; simp) SD.app wD (by omega)
    simp only [List.length_append, List.length_cons, List.length_nil] at l1 o1 lq la lb lm
    have c1 : h1[h.length]? = some (Blk.own [(Value.int .i64 V), (Value.int .i64 S), (Value.int .i64 T), dv, ov]) := by rw [o1 _ (by omega)]; exact List.getElem?_concat_length ..
    have rO : rd h1 h.length 4 = some ov := by rw [rd_at c1]; rfl
    have len := fun {α : Type} (k : Value → Option α) => SO.len k
    obtain ⟨mk2, s2, ts2, R2, rvs2, k2, eg, Y2, _⟩ := first_loop (l0 := l0) ((Value.int .i64 ((m : Int)))) hR hN hNp SO (by omega) ⟨by omega, by omega, by omega, by omega⟩ ops.length 0 h1 _ s _ R rvs (by omega) Y1 (by omega) fun y hy => by rw [o1 y (by omega), List.getElem?_append_left hy]
    obtain ⟨g, ef⟩ := first_rows (h := h) hm2 hR hN ((Value.bool false)) ts2.length 0 k2 mk2 s2 (by omega) Y2
    have uP : Try.prog.underlying 30 = some (.pointer 49) := by kernel_rfl
    have rR := plR Y2.g.hq
    have lenR := fun {α : Type} (kk : Value → Option α) => Y2.g.ro.sl.len kk
    rw [Y2.g.ro.len] at lenR
    have eJ : J7_1 C ⟨0, h.length⟩ h ((Value.int .i64 ((m : Int)))) ((Value.bool false)) ((Value.pointer (some ⟨q, 0, none⟩))) k2 = some ((Value.bool true), g) := by
      unfold J7_1
      simp only [go_sem, Nat.reduceAdd, Nat.reduceLeDiff, Nat.reduceMul, Int.reduceBEq, Int.reduceBNe, Int.reduceLT, Int.reduceLE, Int.reduceGT, okNil, okP_p, rR, lenR]
      exact ef
    refine ⟨g, ?_⟩
    simp only [go_sem, Nat.reduceAdd, Nat.reduceLeDiff, Nat.reduceMul, Int.reduceBEq, Int.reduceBNe, Int.reduceLT, Int.reduceLE, Int.reduceGT, rt, aBin_lss, m0, aBin_gtr, m1, e1, aBin_eqlP uP, rO, len]
    exact eg.trans eJ
  · rw [decide_eq_false hq] at rt
    exact ⟨_, by simp only [go_sem, Nat.reduceAdd, Nat.reduceLeDiff, Nat.reduceMul, Int.reduceBEq, Int.reduceBNe, Int.reduceLT, Int.reduceLE, Int.reduceGT, rt, awake9]; rfl⟩
end Go.Det.E
