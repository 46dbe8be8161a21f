/- The laws of 09: is the machine awake. -/
import Derived.Test.YtodeenahpoobkaaQ2
import Derived.Test.YtodeenahpoobkaaE8
import Derived.Test.YtodeenahpoobkaaEB
set_option autoImplicit false
set_option linter.unusedVariables false
set_option linter.unusedSimpArgs false
namespace Go.Det.E
open Go.Proofs Go.Det Go.Det.U
attribute [local congr] bind_c cond_c
theorem take_same {h k : Heap} (hl : h.length ≤ k.length) (o : ∀ y, y < h.length → k[y]? = h[y]?) : k.take h.length = h := by
  refine List.ext_getElem? fun y => ?_
  by_cases hy : y < h.length
  · rw [List.getElem?_take_of_lt hy]; exact o y hy
  · rw [List.getElem?_eq_none (by rw [List.length_take]; omega), List.getElem?_eq_none (by omega)]
theorem awake9 (n : Nat) (h : Heap) : C ⟨0, n⟩ 14 [] h = some ((Value.bool true), h) := by
  have hR : Rt 3 0 1 := by unfold Rt; omega
  have hN : ((6 : Nat) : Int) = Nn 3 0 := by decide
  obtain ⟨k1, q, a, b, l0, s1, P, M, W, R, rvs, e1, Y1, l1, o1, lq, la, lb, lm, dr⟩ := begun9 (md := ⟨0, h.length⟩) (h := h) (ov := .slice none 0 0) (dv := .slice none 0 0) (D := []) hR hN rfl (Nat.le_refl _) (Sl.nil _ eU_len) (fun _ h => by simp at h) (by simp)
  have hm : ∀ y, mk0 y < 4 := fun _ => by show 0 < 4; omega
  have qa := Y1.g.qa
  have qb := Y1.g.qb
  have hq1 := Y1.g.hq
  have A1 := Y1.g.th
  have sg : ∀ y : Nat, 1 ≤ y → y < 7 → IsT mk0 (vxB 3) s1 (single y) 0 := fun y h1 h2 => (Y1.i.tr (single y) (singles_mem.2 ⟨y, rfl, h1, h2⟩)).2.2.2.2
  have pr0 : ∀ y : Nat, 1 ≤ y → y ≤ 6 → prO 3 0 1 l0 (y : Int) = 0 := fun y h1 h2 => dr y h1 h2
  have p1 := pr0 1 (by omega) (by omega)
  have p2 := pr0 2 (by omega) (by omega)
  have p3 := pr0 3 (by omega) (by omega)
  have ab12 : ab (prO 3 0 1 l0) 1 2 = true := ab_t.2 (.inr ⟨p1.trans p2.symm, by omega⟩)
  have ab13 : ab (prO 3 0 1 l0) 1 3 = true := ab_t.2 (.inr ⟨p1.trans p3.symm, by omega⟩)
  have ab23 : ab (prO 3 0 1 l0) 2 3 = true := ab_t.2 (.inr ⟨p2.trans p3.symm, by omega⟩)
  have nix : ∀ y : Int, 1 ≤ y → y ≤ 6 → Nix 3 0 y := fun y h1 h2 => ⟨h1, by rw [← hN]; exact h2⟩
  have T1 := plT hq1
  obtain ⟨la1, lb1⟩ := A1.la
  -- two nodes
  obtain ⟨s2, k2, f2, A2, o2, I2, so2⟩ := tMerge (md := ⟨0, h.length⟩) (A := single 1) (B := single 2) hR hm A1 (Nat.zero_le _) (Nat.zero_le _) (Nat.zero_le _) (sg 1 (by omega) (by omega)) (sg 2 (by omega) (by omega)) (by decide) (fun y hy => by simp [Tr.row] at hy; exact nix y (by omega) (by omega)) (by decide)
  have m2 : mergeT (prO 3 0 1 l0) (single 1) (single 2) = .nd .nil 1 (.nd .nil 2 .nil) := by
    show mergeT _ (.nd .nil 1 .nil) (.nd .nil 2 .nil) = _
    rw [merge_nd, ab12]; simp [mergeT]
  rw [m2] at f2 I2
  have T2 := plT (oat o2 hq1 qa qb)
  have J3 : IsT mk0 (vxB 3) s2 (single 3) 0 := (sg 3 (by omega) (by omega)).congr (so2.on fun y hy => by simp [Tr.row] at hy; subst hy; decide)
  -- three nodes
  obtain ⟨s3, k3, f3, A3, o3', I3, so3⟩ := tMerge (md := ⟨0, h.length⟩) (A := .nd .nil 1 (.nd .nil 2 .nil)) (B := single 3) hR hm A2 (Nat.zero_le _) (Nat.zero_le _) (Nat.zero_le _) I2 J3 (by decide) (fun y hy => by simp [Tr.row] at hy; exact nix y (by omega) (by omega)) (by decide)
  have m3 : mergeT (prO 3 0 1 l0) (.nd .nil 1 (.nd .nil 2 .nil)) (single 3) = .nd .nil 1 (.nd .nil 2 (.nd .nil 3 .nil)) := by
    show mergeT _ (.nd .nil 1 (.nd .nil 2 .nil)) (.nd .nil 3 .nil) = _
    rw [merge_nd, ab13]
    simp only [cond_true]
    rw [merge_nd, ab23]; simp [mergeT]
  rw [m3] at f3 I3
  have o3 := o2.trans o3'
  have T3 := plT (oat o3 hq1 qa qb)
  have r3 : ∀ y ∈ (Tr.nd .nil 1 (.nd .nil 2 (.nd .nil 3 .nil))).row, Nix 3 0 y := fun y hy => by simp [Tr.row] at hy; exact nix y (by omega) (by omega)
  -- a mark
  obtain ⟨s4, k4, f4, A4, o4', I4, so4⟩ := tMark (md := ⟨0, h.length⟩) (x := 3) (m := 1) hR hm A3 (Nat.zero_le _) (Nat.zero_le _) (Nat.zero_le _) I3 (by decide) r3 (by decide) (by decide) (by omega) true
  have hm4 := mkU_lt (mk := mk0) (x := 3) hm (show 1 < 2 by omega) true
  have o4 := o3.trans o4'
  have T4 := plT (oat o4 hq1 qa qb)
  -- split
  obtain ⟨s5, k5, f5, A5, o5', Ia, Ib, so5⟩ := tSplit (md := ⟨0, h.length⟩) hR hm4 A4 (Nat.zero_le _) (Nat.zero_le _) (Nat.zero_le _) I4 (by decide) r3 (by decide) 2
  have sp : splitT (.nd .nil 1 (.nd .nil 2 (.nd .nil 3 .nil))) (clampN 2 (Tr.nd .nil 1 (.nd .nil 2 (.nd .nil 3 .nil))).sz) = (.nd .nil 1 (.nd .nil 2 .nil), .nd .nil 3 .nil) := rfl
  rw [sp] at f5 Ia Ib
  have o5 := o4.trans o5'
  have T5 := plT (oat o5 hq1 qa qb)
  have ra : ∀ y ∈ (Tr.nd .nil 1 (.nd .nil 2 .nil)).row, Nix 3 0 y := fun y hy => by simp [Tr.row] at hy; exact nix y (by omega) (by omega)
  have rb : ∀ y ∈ (Tr.nd .nil 3 .nil).row, Nix 3 0 y := fun y hy => by simp [Tr.row] at hy; exact nix y (by omega) (by omega)
  -- what is told
  obtain ⟨oa, ka, sa⟩ := smok_tr (vx := vxB 3) hm4 (.nd .nil 1 (.nd .nil 2 .nil)) (by decide)
  obtain ⟨ob, kb, sb⟩ := smok_tr (vx := vxB 3) hm4 (.nd .nil 3 .nil) (by decide)
  obtain ⟨k6, f6, A6, o6'⟩ := tsize (md := ⟨0, h.length⟩) hR A5 (Nat.zero_le _) (rt_ch ra) ka ((sum_of Ia.body fun z hz => (ra z hz).1).trans sa)
  have o6 := o5.trans o6'
  have T6 := plT (oat o6 hq1 qa qb)
  obtain ⟨k7, f7, A7, o7'⟩ := tverts (md := ⟨0, h.length⟩) hR A6 (Nat.zero_le _) (rt_ch rb) kb ((sum_of Ib.body fun z hz => (rb z hz).1).trans sb)
  have o7 := o6.trans o7'
  have T7 := plT (oat o7 hq1 qa qb)
  obtain ⟨i8, k8, g8, f8, A8, o8'⟩ := tIndex (md := ⟨0, h.length⟩) (x := 2) hR hm4 A7 (Nat.zero_le _) (Nat.zero_le _) Ia (by decide) ra (by decide) (by decide)
  have o8 := o7.trans o8'
  have T8 := plT (oat o8 hq1 qa qb)
  obtain ⟨k9, f9, A9, o9'⟩ := tRoot (md := ⟨0, h.length⟩) (x := 2) hR A8 (Nat.zero_le _) (Nat.zero_le _) Ia ra (by decide)
  have o9 := o8.trans o9'
  have T9 := plT (oat o9 hq1 qa qb)
  obtain ⟨kA, fA, AA, oA'⟩ := tFirst (md := ⟨0, h.length⟩) (m := 1) hR hm4 A9 (Nat.zero_le _) (Nat.zero_le _) Ib.body rb (by decide) (by omega)
  have oA := o9.trans oA'
  have TA := plT (oat oA hq1 qa qb)
  obtain ⟨kB, fB, AB, oB'⟩ := tFirst (md := ⟨0, h.length⟩) (m := 1) hR hm4 AA (Nat.zero_le _) (Nat.zero_le _) Ia.body ra (by decide) (by omega)
  have oB := oA.trans oB'
  have TB := plT (oat oB hq1 qa qb)
  obtain ⟨sz3, nv3, al3, kk3, ee3⟩ := own_of (x := 3) hm4 Ib (by decide) (by decide) (fun y hy => (rb y hy).1)
  obtain ⟨kC, fC, AC, oC'⟩ := tMarked (md := ⟨0, h.length⟩) (m := 1) hR AB (Nat.zero_le _) (.inr (rb 3 (by decide))) kk3 ee3 (by omega)
  have oC := oB.trans oC'
  have TC := plT (oat oC hq1 qa qb)
  obtain ⟨vD, kD, fD, SD, AD, lD, oD⟩ := tList (md := ⟨0, h.length⟩) hR _ kC AC (Nat.zero_le _) (Nat.zero_le _) (Nat.zero_le _) Ia.body ra (by decide)
  have lC := oC.len
  have tk : kD.take h.length = h := take_same (by omega) fun y hy => by rw [oD y (by omega) (by omega) (by omega), oC.oth y (by omega) (by omega), o1 y hy]
  have i8v : i8 = 1 := by
    have : i8 < 2 := (List.getElem?_eq_some_iff.1 g8).1
    obtain rfl | rfl : i8 = 0 ∨ i8 = 1 := by omega
    · revert g8; decide
    · rfl
  have mk3 : mkU mk0 3 1 true 3 = 2 := by decide
  have fa : firstM (mkU mk0 3 1 true) 1 (Tr.nd .nil 3 .nil).row = 3 := by decide
  have fb : firstM (mkU mk0 3 1 true) 1 (Tr.nd .nil 1 (.nd .nil 2 .nil)).row = 0 := by decide
  have v3 : (Tr.nd .nil 3 .nil).nv (vxB 3) = 1 := by decide
  have z2 : ((Tr.nd .nil 1 (.nd .nil 2 .nil)).sz : Int) = 2 := by decide
  have lenD := fun {α : Type} (kk : Value → Option α) => SD.sl.len kk
  have ln2 : ((Tr.nd .nil 1 (.nd .nil 2 .nil)).row.length : Int) = 2 := by decide
  have bb : bitB (mkU mk0 3 1 true 3) 1 = true := by decide
  rw [i8v] at f8
  rw [fa] at fA
  rw [fb] at fB
  rw [v3] at f7
  rw [z2] at f6
  rw [bb] at fC
  rw [ln2] at lenD
  have f2 : C ⟨0, h.length⟩ 29 [(Value.agg #[(Value.int .i64 3), (Value.int .i64 0), (Value.int .i64 1), ifA a, (Value.int .i64 1), (Value.int .i64 0)]), (Value.int .i64 1), (Value.int .i64 2)] k1 = some ((Value.int .i64 1), k2) := f2
  have f3 : C ⟨0, h.length⟩ 29 [(Value.agg #[(Value.int .i64 3), (Value.int .i64 0), (Value.int .i64 1), ifA a, (Value.int .i64 1), (Value.int .i64 0)]), (Value.int .i64 1), (Value.int .i64 3)] k2 = some ((Value.int .i64 1), k3) := f3
  have f4 : C ⟨0, h.length⟩ 30 [(Value.agg #[(Value.int .i64 3), (Value.int .i64 0), (Value.int .i64 1), ifA a, (Value.int .i64 1), (Value.int .i64 0)]), (Value.int .i64 3), (Value.int .i64 1), (Value.bool true)] k3 = some ((Value.tuple #[]), k4) := f4
  have f5 : C ⟨0, h.length⟩ 28 [(Value.agg #[(Value.int .i64 3), (Value.int .i64 0), (Value.int .i64 1), ifA a, (Value.int .i64 1), (Value.int .i64 0)]), (Value.int .i64 1), (Value.int .i64 2)] k4 = some ((Value.tuple #[(Value.int .i64 1), (Value.int .i64 3)]), k5) := f5
  have f6 : C ⟨0, h.length⟩ 23 [(Value.agg #[(Value.int .i64 3), (Value.int .i64 0), (Value.int .i64 1), ifA a, (Value.int .i64 1), (Value.int .i64 0)]), (Value.int .i64 1)] k5 = some ((Value.int .i64 2), k6) := f6
  have f7 : C ⟨0, h.length⟩ 24 [(Value.agg #[(Value.int .i64 3), (Value.int .i64 0), (Value.int .i64 1), ifA a, (Value.int .i64 1), (Value.int .i64 0)]), (Value.int .i64 3)] k6 = some ((Value.int .i64 1), k7) := f7
  have f8 : C ⟨0, h.length⟩ 22 [(Value.agg #[(Value.int .i64 3), (Value.int .i64 0), (Value.int .i64 1), ifA a, (Value.int .i64 1), (Value.int .i64 0)]), (Value.int .i64 2)] k7 = some ((Value.int .i64 1), k8) := f8
  have f9 : C ⟨0, h.length⟩ 21 [(Value.agg #[(Value.int .i64 3), (Value.int .i64 0), (Value.int .i64 1), ifA a, (Value.int .i64 1), (Value.int .i64 0)]), (Value.int .i64 2)] k8 = some ((Value.int .i64 1), k9) := f9
  have fA : C ⟨0, h.length⟩ 26 [(Value.agg #[(Value.int .i64 3), (Value.int .i64 0), (Value.int .i64 1), ifA a, (Value.int .i64 1), (Value.int .i64 0)]), (Value.int .i64 3), (Value.int .i64 1)] k9 = some ((Value.int .i64 3), kA) := fA
  have fB : C ⟨0, h.length⟩ 26 [(Value.agg #[(Value.int .i64 3), (Value.int .i64 0), (Value.int .i64 1), ifA a, (Value.int .i64 1), (Value.int .i64 0)]), (Value.int .i64 1), (Value.int .i64 1)] kA = some ((Value.int .i64 0), kB) := fB
  have fC : C ⟨0, h.length⟩ 25 [(Value.agg #[(Value.int .i64 3), (Value.int .i64 0), (Value.int .i64 1), ifA a, (Value.int .i64 1), (Value.int .i64 0)]), (Value.int .i64 3), (Value.int .i64 1)] kB = some ((Value.bool true), kC) := fC
  have fD : C ⟨0, h.length⟩ 20 [(Value.agg #[(Value.int .i64 3), (Value.int .i64 0), (Value.int .i64 1), ifA a, (Value.int .i64 1), (Value.int .i64 0)]), (Value.int .i64 1)] kC = some (vD, kD) := fD
  have uP : Try.prog.underlying 30 = some (.pointer 49) := by kernel_rfl
  rw [C, call_eq, F14_eq]
  unfold F14
  simp only [go_sem, Nat.reduceAdd, Nat.reduceLeDiff, Nat.reduceMul, Int.reduceBEq, Int.reduceBNe, Int.reduceLT, Int.reduceLE, Int.reduceGT, e1, aBin_eqlP uP, okNil, okP_p, T1, f2, T2, cLE_t, f3, T3, f4, T4, f5, T5, aBin_eql, f6, T6, f7, T7, f8, T8, f9, T9, fA, TA, fB, TB, fC, TC, fD, lenD, tk]
end Go.Det.E
/- Bits of a node's marks in the document's list. -/
namespace Go.Det.E
open Go.Proofs Go.Det Go.Det.U
attribute [local congr] bind_c cond_c
variable {md : Md} {h hh k h' : Heap} {a b q n0 : Nat} {V S T x v p f : Int} {D : List Int} {l0 : Int → Int} {s s' : NS} {dv ov P M W R R' : Value} {N : Nat} {mk mk' : Int → Nat} {ts ts' : List Tr} {rvs rvs' : List Value} {ops : List Op9} {pr : Int → Int}
theorem i_shr9 {α : Type} {o m : Nat} (ho : o < 4) (hm : m < 2) (kk : Value → Option α) : aBin Try.prog .shr 3 ((Value.int .i64 ((o : Int)))) ((Value.int .i64 ((m : Int)))) kk = kk ((Value.int .i64 (((o / 2 ^ m : Nat) : Int)))) := by
  obtain rfl | rfl : m = 0 ∨ m = 1 := by omega
  all_goals (obtain rfl | rfl | rfl | rfl : o = 0 ∨ o = 1 ∨ o = 2 ∨ o = 3 := by omega) <;> kernel_rfl
theorem i_bit1 {o m : Nat} (ho : o < 4) (hm : m < 2) : (bAnd .i64 ((o / 2 ^ m : Nat) : Int) 1 == 1) = bitB o m := by
  obtain rfl | rfl : m = 0 ∨ m = 1 := by omega
  all_goals (obtain rfl | rfl | rfl | rfl : o = 0 ∨ o = 1 ∨ o = 2 ∨ o = 3 := by omega) <;> kernel_rfl
end Go.Det.E

/- TreapTells: what a node tells; a row's nodes, one by one. -/
namespace Go.Det.E
open Go.Proofs Go.Det Go.Det.U
attribute [local congr] bind_c cond_c
variable {md : Md} {h hh k h' : Heap} {a b q n0 : Nat} {V S T x v p f : Int} {D : List Int} {l0 : Int → Int} {s s' : NS} {dv ov P M W R R' : Value} {N : Nat} {mk mk' : Int → Nat} {vx : Int → Bool} {ts ts' : List Tr} {rvs rvs' : List Value} {ops : List Op9} {pr : Int → Int} {ns : List RN}
theorem tell_own {t : Tr} {p : Int} (hm : ∀ y, mk y < 4) (I : IsT mk vx s t p) (Td : Told mk vx ns t p) (h0 : ∀ y ∈ t.row, 1 ≤ y) (hz : t.sz < 60000) (hx : x ∈ t.row) : ∃ (sz nv all : Nat) (pa l r : Int), SMok sz nv (mk x) all ∧ sumV s x = SM sz nv (mk x) all ∧ ns[x.toNat]? = some ⟨pa, l, r, sz, nv, mk x, all⟩ := by
  induction t generalizing p with
  | nil => simp [Tr.row] at hx
  | nd l y r ihl ihr =>
    obtain ⟨a1, a2, a3, a4, a5, a6⟩ := I
    obtain ⟨t1, t2, t3⟩ := Td
    simp only [Tr.sz] at hz
    have h0l : ∀ z ∈ l.row, 1 ≤ z := fun z hz => h0 z (by simp [Tr.row, hz])
    have h0r : ∀ z ∈ r.row, 1 ≤ z := fun z hz => h0 z (by simp [Tr.row, hz])
    have hy := h0 y (by simp [Tr.row])
    simp only [Tr.row, List.mem_append, List.mem_cons] at hx
    rcases hx with q | q | q
    · exact ihl a5 t2 h0l (by omega) q
    · subst q
      have n0 := l.nv_le vx
      have n1 := r.nv_le vx
      refine ⟨l.sz + r.sz + 1, l.nv vx + r.nv vx + (bif vx x then 1 else 0), (mk x ||| l.am mk) ||| r.am mk, p, l.rt, r.rt, ⟨by omega, by cases vx x <;> simp <;> omega, hm x, Nat.or_lt_two_pow (n := 2) (Nat.or_lt_two_pow (n := 2) (hm x) (l.am_lt hm)) (r.am_lt hm)⟩, ?_, ?_⟩
      · unfold sumV; rw [if_neg (by omega), a4]; rfl
      · rw [t1]; rfl
    · exact ihr a6 t3 h0r (by omega) q
theorem firstM_in (mk : Int → Nat) (m : Nat) (l : List Int) : firstM mk m l = 0 ∨ firstM mk m l ∈ l := by
  induction l with
  | nil => exact .inl rfl
  | cons x l ih =>
    rw [firstM]
    cases bitB (mk x) m
    · exact ih.imp id fun h => by simp [h]
    · exact .inr (by simp)
/-- The first marked one, one node on. -/
theorem firstM_one (mk : Int → Nat) (m : Nat) (l : List Int) (hl : ∀ y ∈ l, 1 ≤ y) : firstM mk m (l ++ [x]) = if firstM mk m l = 0 ∧ bitB (mk x) m = true then x else firstM mk m l := by
  by_cases h : ∃ y ∈ l, bitB (mk y) m = true
  · rw [firstM_l _ _ _ _ h, if_neg]
    rintro ⟨e, _⟩
    induction l with
    | nil => obtain ⟨y, hy, _⟩ := h; simp at hy
    | cons z l ih =>
      rw [firstM] at e
      cases hz : bitB (mk z) m
      · rw [hz] at e
        obtain ⟨y, hy, hb⟩ := h
        rcases List.mem_cons.1 hy with rfl | hy
        · rw [hz] at hb; cases hb
        · exact ih (fun y hy => hl y (by simp [hy])) ⟨y, hy, hb⟩ e
      · rw [hz] at e
        have := hl z (by simp)
        simp only [cond_true] at e
        omega
  · have no : ∀ y ∈ l, bitB (mk y) m = false := fun y hy => by
      cases hb : bitB (mk y) m
      · rfl
      · exact absurd ⟨y, hy, hb⟩ h
    rw [firstM_app _ _ _ _ no, firstM_no no, firstM, firstM]
    cases bitB (mk x) m <;> simp
theorem lay_same {cs : List Value} {m : Nat} {v : Value} (h : cs[m]? = some v) : lay cs m [v] = cs := by
  show cs.set m v = cs
  refine List.ext_getElem? fun j => ?_
  by_cases e : m = j
  · subst e
    rw [List.getElem?_set_self (List.getElem?_eq_some_iff.1 h).1, h]
  · rw [List.getElem?_set_ne e]
abbrev fC (f0 f1 : Int) : Blk := .own [(Value.int .i64 f0), (Value.int .i64 f1)]
/-- A round over a mark. -/
theorem tells_m {t : Tr} {k0 g : Heap} {fb : Nat} {f0 f1 : Int} {s2 s6 s9 s10 s45 s46 s47 s69 s70 : Value} (hR : Rt V S T) (hN : (N : Int) = Nn V S) (G : PG V S T l0 mk s ts N k0 q a b R P M W rvs) (I : PI V S pr mk s ts) (ht : t ∈ ts) (hx : x ∈ t.row) (A : TH V S T l0 a b s g) (o : ∀ y, y < k0.length → y ≠ a → y ≠ b → g[y]? = k0[y]?) (hfb : k0.length ≤ fb) (hg : g[fb]? = some (fC f0 f1)) :
    ∃ g', J4_2b0b0 C ⟨0, n0⟩ s2 ((Value.pointer (some ⟨q, 0, none⟩))) s6 s9 s10 ((Value.pointer (some ⟨fb, 0, none⟩))) ((Value.int .i64 x)) s45 s46 s47 s69 s70 ((Value.int .i64 p)) ((Value.int .i64 0)) g = (aBin Try.prog .add 3 ((Value.int .i64 p)) ((Value.int .i64 1)) fun v1 => some (.inl ((s2, (Value.pointer (some ⟨q, 0, none⟩)), s6, s9, s10, (Value.pointer (some ⟨fb, 0, none⟩)), s45, s46, s47, s69, s70, v1), g'))) ∧ TH V S T l0 a b s g' ∧ g'.length = g.length ∧ (∀ y, y ≠ a → y ≠ b → y ≠ fb → g'[y]? = g[y]?) ∧ g'[fb]? = some (fC (if f0 = 0 ∧ bitB (mk x) 0 = true then x else f0) (if f1 = 0 ∧ bitB (mk x) 1 = true then x else f1)) := by
  have cn := Cn_le hR
  obtain ⟨la, lb⟩ := G.th.la
  have fa : fb ≠ a := by omega
  have fbb : fb ≠ b := by omega
  obtain ⟨a1, a2, a3, a4, a5⟩ := I.tr t ht
  have hX := a3 x hx
  have hsz := row_small hN a2 a3
  have rl := t.row_len
  obtain ⟨sz, nv, all, ok, es⟩ := own_of I.mkl a5 hx (by omega) fun y hy => (a3 y hy).1
  -- one round
  have one : ∀ (m : Nat) (g1 : Heap) (f : Int), m < 2 → TH V S T l0 a b s g1 → g1.length = g.length → (∀ y, y ≠ a → y ≠ b → y ≠ fb → g1[y]? = g[y]?) → ∀ cs, g1[fb]? = some (.own cs) → cs.length = 2 → cs[m]? = some ((Value.int .i64 f)) →
      ∃ g2, J4_2b0b0 C ⟨0, n0⟩ s2 ((Value.pointer (some ⟨q, 0, none⟩))) s6 s9 s10 ((Value.pointer (some ⟨fb, 0, none⟩))) ((Value.int .i64 x)) s45 s46 s47 s69 s70 ((Value.int .i64 p)) ((Value.int .i64 ((m : Int)))) g1 = J4_2b0b0 C ⟨0, n0⟩ s2 ((Value.pointer (some ⟨q, 0, none⟩))) s6 s9 s10 ((Value.pointer (some ⟨fb, 0, none⟩))) ((Value.int .i64 x)) s45 s46 s47 s69 s70 ((Value.int .i64 p)) ((Value.int .i64 ((m : Int) + 1))) g2 ∧ TH V S T l0 a b s g2 ∧ g2.length = g.length ∧ (∀ y, y ≠ a → y ≠ b → y ≠ fb → g2[y]? = g[y]?) ∧ g2[fb]? = some (.own (lay cs m [(Value.int .i64 (if f = 0 ∧ bitB (mk x) m = true then x else f))])) := by
    intro m g1 f hm A1 l1 o1 cs hc hcl hf
    have G1 := G.only A1 fun y hy h1 h2 => (o1 y h1 h2 (by omega)).trans (o y hy h1 h2)
    have rM : rd g1 q 12 = some M := by rw [rd_at G1.hq]; rfl
    obtain ⟨im, rm⟩ := G1.getM (x := x) ⟨hX.1, by omega⟩
    have q1 := fun {α : Type} (kk : Value → Option α) => i_shr9 (I.mkl x) hm kk
    have q2 := i_bit1 (I.mkl x) hm
    have rT := plT G1.hq
    obtain ⟨g2, f2, A2, o2⟩ := tMarked (md := ⟨0, n0⟩) hR A1 (Nat.zero_le _) (.inr hX) ok es hm
    have l2 := o2.len
    have c2 : g2[fb]? = some (.own cs) := (o2.oth _ fa fbb).trans hc
    have hlt : (m : Int) < 2 := by omega
    have w : IntKind.wrap .i64 ((m : Int) + 1) = (m : Int) + 1 := wi (by omega) (by omega)
    have uB : Try.prog.underlying 4 = some .bool := by kernel_rfl
    have ia := fun {α : Type} (kk : Value → Option α) => ixA_p 1 fb 0 2 (m : Int) kk (by omega)
    simp only [Int.toNat_natCast, Nat.zero_add, Nat.mul_one] at ia
    have rf : rd g2 fb m = some ((Value.int .i64 f)) := by rw [rd_at c2]; exact hf
    have same : lay cs m [(Value.int .i64 f)] = cs := lay_same hf
    have wr : ∀ v, wrN ⟨0, n0⟩ g2 fb m [(Value.int .i64 v)] = some (g2.set fb (.own (lay cs m [(Value.int .i64 v)]))) := fun v => wr_at c2 (by rw [hcl]; simp; omega) (Nat.zero_le _) (.inr rfl)
    cases hb : bitB (mk x) m
    · rw [hb] at q2 f2
      refine ⟨g2, ?_, A2, l2.trans l1, fun y h1 h2 h3 => (o2.oth y h1 h2).trans (o1 y h1 h2 h3), ?_⟩
      · rw [J4_2b0b0_step]
        unfold Jr4_2b0b0
        simp only [go_sem, Nat.reduceAdd, Nat.reduceLeDiff, Nat.reduceMul, Int.reduceBEq, Int.reduceBNe, Int.reduceLT, Int.reduceLE, Int.reduceGT, aBin_lss, hlt, okNil, okP_p, rM, im, rm, q1, aBin_and, aBin_eql, q2, rT, f2, aBin_neqB uB, aBin_add, w]
      · simp [c2, same]
    · rw [hb] at q2 f2
      by_cases hf0 : f = 0
      · subst hf0
        have z : ((0 : Int) == 0) = true := rfl
        refine ⟨g2.set fb (.own (lay cs m [(Value.int .i64 x)])), ?_, A2.old (set_else (Ne.symm fa)) (set_else (Ne.symm fbb)), by rw [List.length_set]; omega, fun y h1 h2 h3 => (set_else h3).trans ((o2.oth y h1 h2).trans (o1 y h1 h2 h3)), ?_⟩
        · rw [J4_2b0b0_step]
          unfold Jr4_2b0b0
          simp only [go_sem, Nat.reduceAdd, Nat.reduceLeDiff, Nat.reduceMul, Int.reduceBEq, Int.reduceBNe, Int.reduceLT, Int.reduceLE, Int.reduceGT, aBin_lss, hlt, okNil, okP_p, rM, im, rm, q1, aBin_and, aBin_eql, q2, rT, f2, aBin_neqB uB, ixAV_p, ia, rf, z, wr, aBin_add, w]
        · simp only [and_self, if_true]
          exact set_same (lt_of c2)
      · have z : (f == 0) = false := by rw [beq_eq_false_iff_ne]; exact hf0
        refine ⟨g2, ?_, A2, l2.trans l1, fun y h1 h2 h3 => (o2.oth y h1 h2).trans (o1 y h1 h2 h3), ?_⟩
        · rw [J4_2b0b0_step]
          unfold Jr4_2b0b0
          simp only [go_sem, Nat.reduceAdd, Nat.reduceLeDiff, Nat.reduceMul, Int.reduceBEq, Int.reduceBNe, Int.reduceLT, Int.reduceLE, Int.reduceGT, aBin_lss, hlt, okNil, okP_p, rM, im, rm, q1, aBin_and, aBin_eql, q2, rT, f2, aBin_neqB uB, ixAV_p, ia, rf, z, aBin_add, w]
        · simp [hf0, c2, same]
  obtain ⟨g1, e1, A1, l1, o1, c1⟩ := one 0 g f0 (by omega) A rfl (fun _ _ _ _ => rfl) _ hg rfl rfl
  obtain ⟨g2, e2, A2, l2, o2, c2⟩ := one 1 g1 f1 (by omega) A1 l1 o1 _ c1 rfl rfl
  refine ⟨g2, ?_, A2, l2, o2, c2⟩
  have z0 : (((0 : Nat) : Int)) = 0 := rfl
  have z1 : ((0 : Int) + 1) = ((1 : Nat) : Int) := rfl
  have z2 : (((1 : Nat) : Int) + 1) = 2 := rfl
  rw [z0, z1] at e1
  rw [z2] at e2
  rw [e1, e2, J4_2b0b0_step]
  unfold Jr4_2b0b0
  simp only [go_sem, Nat.reduceAdd, Nat.reduceLeDiff, Nat.reduceMul, Int.reduceBEq, Int.reduceBNe, Int.reduceLT, Int.reduceLE, Int.reduceGT, aBin_lss, Int.lt_irrefl, Jk4_2b0b0]
end Go.Det.E

/- TreapTells: a row; all rows; nothing. -/
namespace Go.Det.E
open Go.Proofs Go.Det Go.Det.U
attribute [local congr] bind_c cond_c
variable {md : Md} {h hh k h' : Heap} {a b q n0 : Nat} {V S T x v p f : Int} {D : List Int} {l0 : Int → Int} {s s' : NS} {dv ov P M W R R' : Value} {N : Nat} {mk mk' : Int → Nat} {vx : Int → Bool} {ts ts' : List Tr} {rvs rvs' : List Value} {ops : List Op9} {pr : Int → Int} {ns : List RN}
theorem tells_in {t : Tr} {k0 : Heap} {fb ob n : Nat} {s2 s45 s46 s47 rv lv : Value} (hR : Rt V S T) (hN : (N : Int) = Nn V S) (G : PG V S T l0 mk s ts N k0 q a b R P M W rvs) (I : PI V S pr mk s ts) (ht : ts[n]? = some t) (hv : rvs[n]? = some rv) (Td : Told mk (vxB V) ns t 0) (ho : k0[ob]? = some (.own (flat eRN ns))) (hl : ns.length = N + 1) (oa : ob ≠ a) (obb : ob ≠ b) (L : Sl k0 1 eZ lv t.row) (lva : slB lv ≠ a) (lvb : slB lv ≠ b) (hfb : k0.length ≤ fb) : ∀ (c j : Nat) (g : Heap), j + c = t.row.length → TH V S T l0 a b s g → k0.length ≤ g.length → (∀ y, y < k0.length → y ≠ a → y ≠ b → g[y]? = k0[y]?) → g[fb]? = some (fC (firstM mk 0 (t.row.take j)) (firstM mk 1 (t.row.take j))) →
    ∃ g', J4_2b0 C ⟨0, n0⟩ s2 ((Value.pointer (some ⟨q, 0, none⟩))) ((Value.slice (some ⟨ob, 0, none⟩) (N + 1) 7)) ((Value.int .i64 t.rt)) lv ((Value.pointer (some ⟨fb, 0, none⟩))) s45 s46 s47 rv ((Value.int .i64 ((t.row.length : Int)))) ((Value.int .i64 ((j : Int)))) g = J4_2b1 C ⟨0, n0⟩ s2 ((Value.pointer (some ⟨q, 0, none⟩))) ((Value.slice (some ⟨ob, 0, none⟩) (N + 1) 7)) ((Value.int .i64 t.rt)) ((Value.pointer (some ⟨fb, 0, none⟩))) s45 s46 s47 g' ∧ TH V S T l0 a b s g' ∧ k0.length ≤ g'.length ∧ (∀ y, y < k0.length → y ≠ a → y ≠ b → g'[y]? = k0[y]?) ∧ g'[fb]? = some (fC (firstM mk 0 t.row) (firstM mk 1 t.row)) := by
  have cn := Cn_le hR
  obtain ⟨la, lb⟩ := G.th.la
  have lo := lt_of ho
  have lq := lt_of G.hq
  have htm := List.mem_of_getElem? ht
  obtain ⟨a1, a2, a3, a4, a5⟩ := I.tr t htm
  have hsz := row_small hN a2 a3
  have rl := t.row_len
  intro c
  induction c with
  | zero =>
    intro j g hj A lg o hf
    obtain rfl : j = t.row.length := by omega
    rw [List.take_length] at hf
    refine ⟨g, ?_, A, lg, o, hf⟩
    rw [J4_2b0_step]
    unfold Jr4_2b0
    simp only [go_sem, Nat.reduceAdd, Nat.reduceLeDiff, Nat.reduceMul, Int.reduceBEq, Int.reduceBNe, Int.reduceLT, Int.reduceLE, Int.reduceGT, aBin_lss, Int.lt_irrefl, Jk4_2b0]
  | succ c ih =>
    intro j g hj A lg o hf
    have hlt : (j : Int) < (t.row.length : Int) := by omega
    have w : IntKind.wrap .i64 ((j : Int) + 1) = ((j + 1 : Nat) : Int) := by rw [wi (by omega) (by omega)]; rfl
    have G1 := G.only A o
    have X : Sl g 1 eZ rv t.row := G1.ro.at_ n rv t hv ht
    have X2 : Sl g 1 eZ lv t.row := L.heap fun hl => o _ hl lva lvb
    have hjr := row_at (row := t.row) (i := j) (by omega)
    obtain ⟨ix, rx⟩ := Sl.getI X hjr
    obtain ⟨ix2, rx2⟩ := Sl.getI X2 hjr
    have hxm := getD_mem (row := t.row) (i := j) (by omega)
    have tk := take_one (row := t.row) (i := j) (by omega)
    generalize hxe : t.row.getD j 0 = x at *
    have hx := a3 x hxm
    obtain ⟨sz, nv, all, pa, cl, cr, ok, es, en⟩ := tell_own I.mkl a5 Td (fun y hy => (a3 y hy).1) (by omega) hxm
    have rT := plT G1.hq
    obtain ⟨g1, f1, A1, o1⟩ := tRoot (md := ⟨0, n0⟩) hR A (Nat.zero_le _) (Nat.zero_le _) a5 a3 hxm
    have rT1 := plT (oat o1 G1.hq G.qa G.qb)
    obtain ⟨i, g2, er, f2, A2, o2'⟩ := tIndex (md := ⟨0, n0⟩) hR I.mkl A1 (Nat.zero_le _) (Nat.zero_le _) a5 a2 a3 (by omega) hxm
    obtain rfl : j = i := (List.getElem?_inj (show j < t.row.length by omega) a2).1 (hjr.trans er.symm)
    have o2 := o1.trans o2'
    have rT2 := plT (oat o2 G1.hq G.qa G.qb)
    obtain ⟨g3, f3, A3, o3'⟩ := tsize (md := ⟨0, n0⟩) hR A2 (Nat.zero_le _) (.inr hx) ok es
    have o3 := o2.trans o3'
    have rT3 := plT (oat o3 G1.hq G.qa G.qb)
    obtain ⟨g4, f4, A4, o4'⟩ := tverts (md := ⟨0, n0⟩) hR A3 (Nat.zero_le _) (.inr hx) ok es
    have o4 := o3.trans o4'
    have l4 := o4.len
    have hog : g[ob]? = some (.own (flat eRN ns)) := (o ob lo oa obb).trans ho
    have S2 : Sl g2 7 eRN ((Value.slice (some ⟨ob, 0, none⟩) (N + 1) 7)) ns := Sl.whole eRN_len (oat o2 hog oa obb) rfl (by omega)
    have S3 : Sl g3 7 eRN ((Value.slice (some ⟨ob, 0, none⟩) (N + 1) 7)) ns := Sl.whole eRN_len (oat o3 hog oa obb) rfl (by omega)
    have S4 : Sl g4 7 eRN ((Value.slice (some ⟨ob, 0, none⟩) (N + 1) 7)) ns := Sl.whole eRN_len (oat o4 hog oa obb) rfl (by omega)
    have ixn := fun {α : Type} (kk : Value → Option α) => S2.ix (i := x) (by omega) (by omega) kk
    have c2 := S2.cell en (j := 3) (by decide)
    have c3 := S3.cell en (j := 3) (by decide)
    have d3 := S3.cell en (j := 4) (by decide)
    have d4 := S4.cell en (j := 4) (by decide)
    have ex : (slB ((Value.slice (some ⟨ob, 0, none⟩) (N + 1) 7))) = ob ∧ (slO ((Value.slice (some ⟨ob, 0, none⟩) (N + 1) 7))) = 0 := ⟨rfl, rfl⟩
    simp only [ex.1, ex.2, Nat.zero_add, List.getElem?_cons_succ, List.getElem?_cons_zero] at ixn c2 c3 d3 d4
    have og4 : ∀ y, y < k0.length → y ≠ a → y ≠ b → g4[y]? = k0[y]? := fun y hy h1 h2 => (o4.oth y h1 h2).trans (o y hy h1 h2)
    obtain ⟨g5, em, A5, l5, o5, f5⟩ := tells_m (n0 := n0) (s2 := s2) (s6 := (Value.slice (some ⟨ob, 0, none⟩) (N + 1) 7)) (s9 := (Value.int .i64 t.rt)) (s10 := lv) (s45 := s45) (s46 := s46) (s47 := s47) (s69 := rv) (s70 := (Value.int .i64 ((t.row.length : Int)))) (p := (j : Int)) hR hN G I htm hxm A4 og4 hfb (oat o4 hf (by omega) (by omega))
    have nn : ∀ y ∈ t.row.take j, (1 : Int) ≤ y := fun y hy => (a3 y (List.mem_of_mem_take hy)).1
    rw [← firstM_one mk 0 _ nn, ← firstM_one mk 1 _ nn, ← tk] at f5
    obtain ⟨g', e', z⟩ := ih (j + 1) g5 (by omega) A5 (by omega) (fun y hy h1 h2 => (o5 y h1 h2 (by omega)).trans (og4 y hy h1 h2)) f5
    refine ⟨g', ?_, z⟩
    rw [J4_2b0_step]
    unfold Jr4_2b0
    simp only [go_sem, Nat.reduceAdd, Nat.reduceLeDiff, Nat.reduceMul, Int.reduceBEq, Int.reduceBNe, Int.reduceLT, Int.reduceLE, Int.reduceGT, aBin_lss, hlt, ixSV_p, ix, rx, ix2, rx2, bne_self_eq_false, okNil, okP_p, rT, f1, rT1, f2, rT2, f3, rT3, f4, aBin_neq, ixn, c2, c3, d3, d4, em, aBin_add, w]
    exact e'
end Go.Det.E

/- TreapTells. -/
namespace Go.Det.E
open Go.Proofs Go.Det Go.Det.U
attribute [local congr] bind_c cond_c
variable {md : Md} {h hh k h' : Heap} {a b q n0 : Nat} {V S T x v p f : Int} {D : List Int} {l0 : Int → Int} {s s' : NS} {dv ov P M W R R' : Value} {N : Nat} {mk mk' : Int → Nat} {vx : Int → Bool} {ts ts' : List Tr} {rvs rvs' : List Value} {ops : List Op9} {pr : Int → Int} {ns : List RN}
theorem tRoot0 (md : Md) (h : Heap) : C md 21 [(Value.agg #[(Value.int .i64 V), (Value.int .i64 S), (Value.int .i64 T), ifA a, (Value.int .i64 1), (Value.int .i64 0)]), (Value.int .i64 0)] h = some ((Value.int .i64 0), h) := by
  have z : ((0 : Int) != 0) = false := rfl
  rw [C, call_eq, F21_eq]
  unfold F21
  simp only [go_sem, Nat.reduceAdd, Nat.reduceLeDiff, Nat.reduceMul, Int.reduceBEq, Int.reduceBNe, Int.reduceLT, Int.reduceLE, Int.reduceGT]
  rw [J21_0_step]
  unfold Jr21_0
  simp only [go_sem, Nat.reduceAdd, Nat.reduceLeDiff, Nat.reduceMul, Int.reduceBEq, Int.reduceBNe, Int.reduceLT, Int.reduceLE, Int.reduceGT, aBin_neq, z, Jk21_0]
theorem tells_end (hR : Rt V S T) (hm : ∀ y, mk y < 4) (s2 : Value) (G : PG V S T l0 mk s ts N k q a b R P M W rvs) : ∃ g, J4_3 C ⟨0, h.length⟩ h ((Value.pointer (some ⟨q, 0, none⟩))) k = some ((Value.bool true), g) := by
  have k0 : SMok 0 0 0 0 := ⟨by decide, by decide, by decide, by decide⟩
  have s0 : sumV s 0 = SM 0 0 0 0 := by rw [SM0]; rfl
  have rT := plT G.hq
  obtain ⟨g1, f1, A1, o1⟩ := tsize (md := ⟨0, h.length⟩) hR G.th (Nat.zero_le _) (.inl rfl) k0 s0
  have rT1 := plT (oat o1 G.hq G.qa G.qb)
  obtain ⟨g2, f2, A2, o2'⟩ := tverts (md := ⟨0, h.length⟩) hR A1 (Nat.zero_le _) (.inl rfl) k0 s0
  have o2 := o1.trans o2'
  have rT2 := plT (oat o2 G.hq G.qa G.qb)
  obtain ⟨g3, f3, A3, o3'⟩ := tFirst (md := ⟨0, h.length⟩) (mk := mk) (t := .nil) hR hm A2 (Nat.zero_le _) (Nat.zero_le _) trivial (fun y hy => by simp [Tr.row] at hy) (by decide) (m := 0) (by omega)
  have o3 := o2.trans o3'
  have q3 := oat o3 G.hq G.qa G.qb
  have rT3 := plT q3
  obtain ⟨v, g4, f4, S4, A4, l4, o4⟩ := tList (md := ⟨0, h.length⟩) (mk := mk) hR .nil g3 A3 (Nat.zero_le _) (Nat.zero_le _) (Nat.zero_le _) trivial (fun y hy => by simp [Tr.row] at hy) (by decide)
  have rT4 := plT ((o4 q (lt_of q3) G.qa G.qb).trans q3)
  have len := fun {α : Type} (kk : Value → Option α) => S4.sl.len kk
  have r5 := fun (m : Md) (h : Heap) => tRoot0 (V := V) (S := S) (T := T) (a := a) m h
  have fn : firstM mk 0 Tr.nil.row = 0 := rfl
  have ln : ((Tr.nil.row.length : Nat) : Int) = 0 := rfl
  have z0 : (((0 : Nat) : Int)) = 0 := rfl
  rw [rt_0, fn, z0] at f3
  rw [rt_0] at f4
  rw [z0] at f1 f2
  rw [ln] at len
  refine ⟨g4.take h.length, ?_⟩
  unfold J4_3
  simp only [go_sem, Nat.reduceAdd, Nat.reduceLeDiff, Nat.reduceMul, Int.reduceBEq, Int.reduceBNe, Int.reduceLT, Int.reduceLE, Int.reduceGT, okNil, okP_p, rT, f1, rT1, f2, rT2, f3, rT3, f4, rT4, len, r5, aBin_eql, awake9]
theorem tells_rows {ob : Nat} (s2 : Value) (hR : Rt V S T) (hN : (N : Int) = Nn V S) (I : PI V S (prO V S T l0) mk s ts) (hts : ts.length ≤ N) (Td : ∀ t ∈ ts, Told mk (vxB V) ns t 0) (hl : ns.length = N + 1) (oa : ob ≠ a) (obb : ob ≠ b) : ∀ (c i : Nat) (k : Heap), i + c = ts.length → h.length ≤ k.length → PG V S T l0 mk s ts N k q a b R P M W rvs → k[ob]? = some (.own (flat eRN ns)) →
    ∃ g, J4_2 C ⟨0, h.length⟩ h s2 ((Value.pointer (some ⟨q, 0, none⟩))) ((Value.slice (some ⟨ob, 0, none⟩) (N + 1) 7)) R ((Value.int .i64 ((ts.length : Int)))) ((Value.int .i64 ((i : Int)))) k = some ((Value.bool true), g) := by
  have cn := Cn_le hR
  intro c
  induction c with
  | zero =>
    intro i k hi hlk G ho
    obtain rfl : i = ts.length := by omega
    obtain ⟨g, e⟩ := tells_end (h := h) hR I.mkl s2 G
    refine ⟨g, ?_⟩
    rw [J4_2_step]
    unfold Jr4_2
    simp only [go_sem, Nat.reduceAdd, Nat.reduceLeDiff, Nat.reduceMul, Int.reduceBEq, Int.reduceBNe, Int.reduceLT, Int.reduceLE, Int.reduceGT, aBin_lss, Int.lt_irrefl, Jk4_2]
    exact e
  | succ c ih =>
    intro i k hi hlk G ho
    have hrl := G.ro.len
    obtain ⟨la, lb⟩ := G.th.la
    have lo := lt_of ho
    have hlt : (i : Int) < (ts.length : Int) := by omega
    have w : IntKind.wrap .i64 ((i : Int) + 1) = ((i + 1 : Nat) : Int) := by rw [wi (by omega) (by omega)]; rfl
    obtain ⟨t, ht⟩ : ∃ t, ts[i]? = some t := ⟨ts[i]'(by omega), List.getElem?_eq_getElem (by omega)⟩
    obtain ⟨rv, hv⟩ : ∃ t, rvs[i]? = some t := ⟨rvs[i]'(by omega), List.getElem?_eq_getElem (by omega)⟩
    obtain ⟨ix, rx⟩ := Sl.getV G.ro.sl hv
    have htm := List.mem_of_getElem? ht
    obtain ⟨a1, a2, a3, a4, a5⟩ := I.tr t htm
    have hsz := row_small hN a2 a3
    have rl := t.row_len
    have X : Sl k 1 eZ rv t.row := G.ro.at_ i rv t hv ht
    have len := fun {α : Type} (kk : Value → Option α) => X.len kk
    have rF := plF G.hq
    have rT := plT G.hq
    have ro1 := fo_root (md := ⟨0, h.length⟩) (R := R) G.fo X a1 (fun y hy => by have := a3 y hy; omega) (by omega)
    obtain ⟨lv, k2, f2, S2, A2, l2, o2⟩ := tList (md := ⟨0, h.length⟩) hR t k G.th (Nat.zero_le _) (Nat.zero_le _) (Nat.zero_le _) a5.body a3 (by omega)
    have len2 := fun {α : Type} (kk : Value → Option α) => S2.sl.len kk
    have G2 := G.only A2 o2
    have ho2 : k2[ob]? = some (.own (flat eRN ns)) := (o2 ob lo oa obb).trans ho
    have lvk : k.length ≤ slB lv := by
      rcases S2.own with e | ⟨e, _⟩
      · have hne : t.row ≠ [] := fun e => by
          cases t with
          | nil => exact a4 rfl
          | nd l x r => simp [Tr.row] at e
        rw [e] at S2
        exact absurd S2.nil_of hne
      · exact e
    generalize hk3 : k2 ++ [fC 0 0] = k3
    have l3 : k3.length = k2.length + 1 := by rw [← hk3]; simp
    have o3 : ∀ y, y < k2.length → k3[y]? = k2[y]? := fun y hy => by rw [← hk3, List.getElem?_append_left hy]
    have c3 : k3[k2.length]? = some (fC 0 0) := by rw [← hk3]; exact List.getElem?_concat_length ..
    have st2 := fun (hq : Heap) (kk : Heap → Option (((Value × Value × Value × Value × Value × Value) × Heap) ⊕ (Exit × (Value × Value × Value × Value × Value × Value) × Heap))) => st_N ⟨0, h.length⟩ 2 k2.length 0 [(Value.int .i64 0), (Value.int .i64 0)] hq kk rfl rfl
    have w2 : wrN ⟨0, h.length⟩ k3 k2.length 0 [(Value.int .i64 0), (Value.int .i64 0)] = some k3 := by
      rw [← hk3]
      exact wrN_new0 (md := ⟨0, h.length⟩) (h := k2) (bs := []) (i := 0) (cs := [(Value.int .i64 0), (Value.int .i64 0)]) (vs := [(Value.int .i64 0), (Value.int .i64 0)]) (Nat.zero_le _) (by show h.length ≤ _; omega) (by simp)
    obtain ⟨k4, e4, A4, l4, o4, f4⟩ := tells_in (n0 := h.length) (s2 := s2) (s45 := R) (s46 := (Value.int .i64 ((ts.length : Int)))) (s47 := (Value.int .i64 ((i : Int)))) (fb := k2.length) hR hN G2 I ht hv (Td t htm) ho2 hl oa obb S2.sl (by omega) (by omega) (Nat.le_refl _) t.row.length 0 k3 (by omega) (A2.old (o3 a (by omega)) (o3 b (by omega))) (by omega) (fun y hy _ _ => o3 y hy) (by rw [List.take_zero]; exact c3)
    have G4 := G2.only A4 o4
    have rT4 := plT G4.hq
    obtain ⟨k5, f5, A5, o5⟩ := tFirst (md := ⟨0, h.length⟩) hR I.mkl A4 (Nat.zero_le _) (Nat.zero_le _) a5.body a3 (by omega) (m := 0) (by omega)
    have G5 := G4.only A5 fun y hy h1 h2 => o5.oth y h1 h2
    have rT5 := plT G5.hq
    obtain ⟨k6, f6, A6, o6⟩ := tFirst (md := ⟨0, h.length⟩) hR I.mkl A5 (Nat.zero_le _) (Nat.zero_le _) a5.body a3 (by omega) (m := 1) (by omega)
    have G6 := G5.only A6 fun y hy h1 h2 => o6.oth y h1 h2
    have c5 := oat o5 f4 (by omega) (by omega)
    have c6 := oat o6 c5 (by omega) (by omega)
    have ra4 : rd k4 k2.length 0 = some ((Value.int .i64 (firstM mk 0 t.row))) := by rw [rd_at f4]; rfl
    have ra5 : rd k5 k2.length 0 = some ((Value.int .i64 (firstM mk 0 t.row))) := by rw [rd_at c5]; rfl
    have rb5 : rd k5 k2.length 1 = some ((Value.int .i64 (firstM mk 1 t.row))) := by rw [rd_at c5]; rfl
    have rb6 : rd k6 k2.length 1 = some ((Value.int .i64 (firstM mk 1 t.row))) := by rw [rd_at c6]; rfl
    have ia0 := fun {α : Type} (kk : Value → Option α) => ixA_p 1 k2.length 0 2 0 kk (by omega)
    have ia1 := fun {α : Type} (kk : Value → Option α) => ixA_p 1 k2.length 0 2 1 kk (by omega)
    have z0 : (((0 : Nat) : Int)) = 0 := rfl
    have z1 : (((1 : Nat) : Int)) = 1 := rfl
    have t0 : (0 : Int).toNat = 0 := rfl
    have t1 : (1 : Int).toNat = 1 := rfl
    rw [z0] at f5 e4
    rw [z1] at f6
    simp only [t0, t1, Nat.zero_add, Nat.mul_one] at ia0 ia1
    have l5 := o5.len
    have l6 := o6.len
    obtain ⟨g, eg⟩ := ih (i + 1) k6 (by omega) (by omega) G6 (by rw [o6.oth ob oa obb, o5.oth ob oa obb, o4 ob (by omega) oa obb]; exact ho2)
    refine ⟨g, ?_⟩
    rw [J4_2_step]
    unfold Jr4_2
    simp only [go_sem, Nat.reduceAdd, Nat.reduceLeDiff, Nat.reduceMul, Int.reduceBEq, Int.reduceBNe, Int.reduceLT, Int.reduceLE, Int.reduceGT, aBin_lss, hlt, ixSV_p, ix, rx, okNil, okP_p, rF, ro1, rT, f2, len2, len, bne_self_eq_false, hk3, st2, w2]
    rw [e4]
    unfold J4_2b1
    simp only [go_sem, Nat.reduceAdd, Nat.reduceLeDiff, Nat.reduceMul, Int.reduceBEq, Int.reduceBNe, Int.reduceLT, Int.reduceLE, Int.reduceGT, okNil, okP_p, rT4, f5, ia0, ra4, ra5, cLE_t, rT5, f6, ia1, rb5, rb6, bne_self_eq_false, aBin_neq, aBin_add, w]
    exact eg
theorem tells_loop (hR : Rt V S T) (hN : (N : Int) = Nn V S) (hNp : 1 ≤ N) (SO : Sl h 5 encO ov ops) (hl : ops.length ≤ 60) (qa : h.length ≤ q ∧ h.length ≤ a ∧ h.length ≤ b ∧ h.length ≤ slB M) : ∀ (m i : Nat) (k : Heap) (mk : Int → Nat) (s : NS) (ts : List Tr) (R : Value) (rvs : List Value), i + m = ops.length → Play V S T N l0 q a b P M W mk s ts R rvs k → h.length ≤ k.length → (∀ y, y < h.length → k[y]? = h[y]?) →
    ∃ mk' s' ts' R' rvs' k', J4_0 C ⟨0, h.length⟩ h ((Value.bool false)) ((Value.pointer (some ⟨q, 0, none⟩))) ov ((Value.int .i64 ((ops.length : Int)))) ((Value.int .i64 ((i : Int)))) k = J4_1 C ⟨0, h.length⟩ h ((Value.bool false)) ((Value.pointer (some ⟨q, 0, none⟩))) k' ∧ Play V S T N l0 q a b P M W mk' s' ts' R' rvs' k' ∧ h.length ≤ k'.length ∧ ∀ y, y < h.length → k'[y]? = h[y]? := by
  have cn := Cn_le hR
  intro m
  induction m with
  | zero =>
    intro i k mk s ts R rvs hi Y hlk ok
    obtain rfl : i = ops.length := by omega
    refine ⟨mk, s, ts, R, rvs, k, ?_, Y, hlk, ok⟩
    rw [J4_0_step]
    unfold Jr4_0
    simp only [go_sem, Nat.reduceAdd, Nat.reduceLeDiff, Nat.reduceMul, Int.reduceBEq, Int.reduceBNe, Int.reduceLT, Int.reduceLE, Int.reduceGT, aBin_lss, Int.lt_irrefl, Jk4_0]
  | succ m ih =>
    intro i k mk s ts R rvs hi Y hlk ok
    have hlt : (i : Int) < (ops.length : Int) := by omega
    have w : IntKind.wrap .i64 ((i : Int) + 1) = ((i + 1 : Nat) : Int) := by rw [wi (by omega) (by omega)]; rfl
    obtain ⟨o, ho⟩ : ∃ o, ops[i]? = some o := ⟨ops[i]'(by omega), List.getElem?_eq_getElem (by omega)⟩
    have S1 : Sl k 5 encO ov ops := SO.heap fun hl => ok _ hl
    have ix := fun {α : Type} (kk : Value → Option α) => S1.ix (i := (i : Int)) (by omega) hlt kk
    have el := S1.elem ho
    simp only [Int.toNat_natCast] at ix
    have st5 := fun (kk : Heap → Option (((Value × Value × Value × Value × Value × Value) × Heap) ⊕ (Exit × (Value × Value × Value × Value × Value × Value) × Heap))) => st_N ⟨0, h.length⟩ 5 k.length 0 (encO o) (k ++ [Blk.own [(Value.int .i64 0), (Value.int .i64 0), (Value.int .i64 0), (Value.int .i64 0), (Value.bool false)]]) kk rfl rfl
    have w5 : wrN ⟨0, h.length⟩ (k ++ [Blk.own [(Value.int .i64 0), (Value.int .i64 0), (Value.int .i64 0), (Value.int .i64 0), (Value.bool false)]]) k.length 0 (encO o) = some (k ++ [Blk.own (encO o)]) := wrN_new0 (bs := []) (Nat.zero_le _) hlk (by simp)
    have r5 : rdN (k ++ [Blk.own (encO o)]) k.length 0 5 = some (encO o) := by rw [rdN_new0]; rfl
    have G1 := Y.g.old (h' := k ++ [Blk.own (encO o)]) fun y hy => List.getElem?_append_left hy
    have l1 : (k ++ [Blk.own (encO o)]).length = k.length + 1 := by simp
    have o1 : ∀ y, y < k.length → (k ++ [Blk.own (encO o)])[y]? = k[y]? := fun y hy => List.getElem?_append_left hy
    obtain ⟨mk2, s2, ts2, R2, rvs2, k2, e2, Y2, L2⟩ := step9 (md := ⟨0, h.length⟩) hR hN hNp ⟨G1, Y.i, Y.len⟩ rfl qa.1 o
    have ll2 := L2.len
    have ok2 : ∀ y, y < h.length → k2[y]? = h[y]? := fun y hy => by rw [L2.old y (by omega) (by omega) (by omega) (by omega) (by omega), o1 y (by omega), ok y hy]
    obtain ⟨mk3, s3, ts3, R3, rvs3, k3, eg, z⟩ := ih (i + 1) k2 mk2 s2 ts2 R2 rvs2 (by omega) Y2 (by omega) ok2
    refine ⟨mk3, s3, ts3, R3, rvs3, k3, ?_, z⟩
    rw [J4_0_step]
    unfold Jr4_0
    simp only [go_sem, Nat.reduceAdd, Nat.reduceLeDiff, Nat.reduceMul, Int.reduceBEq, Int.reduceBNe, Int.reduceLT, Int.reduceLE, Int.reduceGT, aBin_lss, hlt, ixSV_p, ix, el, st5, w5, r5, e2, aBin_add, w]
    exact eg
theorem tells_1 (hR : Rt V S T) (hN : (N : Int) = Nn V S) (s2 : Value) (Y : Play V S T N l0 q a b P M W mk s ts R rvs k) (hlk : h.length ≤ k.length) : ∃ g, J4_1 C ⟨0, h.length⟩ h s2 ((Value.pointer (some ⟨q, 0, none⟩))) k = some ((Value.bool true), g) := by
  have cn := Cn_le hR
  obtain ⟨G, I, hts⟩ := Y
  obtain ⟨la, lb⟩ := G.th.la
  have small : ∀ t ∈ ts, t.sz < 60000 := fun t ht => by
    have := len_small (V := V) (S := S) (N := N) (fun y hy => by omega) t.row (I.tr t ht).2.1 (I.tr t ht).2.2.1
    rw [Tr.row_len] at this; omega
  obtain ⟨k1, ns, e1, l1, o1, b1, c1, d1⟩ := fo_nodes (md := ⟨0, h.length⟩) (R := R) I.mkl G.ro G.fo (by omega) (by omega) (fun t ht => ⟨(I.tr t ht).1, (I.tr t ht).2.1, fun y hy => by have := (I.tr t ht).2.2.1 y hy; omega, small t ht⟩) I.ap (Nat.zero_le _)
  have G1 := G.old o1
  have rF := plF G.hq
  have rR := plR G1.hq
  have len := fun {α : Type} (kk : Value → Option α) => G1.ro.sl.len kk
  rw [G1.ro.len] at len
  obtain ⟨g, eg⟩ := tells_rows (h := h) s2 hR hN I hts d1 c1 (by omega) (by omega) ts.length 0 k1 (by omega) (by omega) G1 b1
  refine ⟨g, ?_⟩
  unfold J4_1
  simp only [go_sem, Nat.reduceAdd, Nat.reduceLeDiff, Nat.reduceMul, Int.reduceBEq, Int.reduceBNe, Int.reduceLT, Int.reduceLE, Int.reduceGT, okNil, okP_p, rF, e1, rR, len]
  exact eg
theorem tells09_law : Law Try.prog cfg 4 [27] := by
  intro h avs ha
  obtain ⟨x, r, rfl, a0, ha⟩ := args_cons ha
  obtain rfl := args_nil ha
  obtain ⟨V, S, T, dv, ov, D, ops, rfl, SD, wD, SO⟩ := arg_case a0
  have rt := right9 (md := ⟨0, h.length⟩) (h := h ++ [Blk.own [(Value.int .i64 V), (Value.int .i64 S), (Value.int .i64 T), dv, ov]]) (V := V) (S := S) (T := T) (Nat.zero_le _) (by show h.length ≤ _; simp) SD.app SO.app
  rw [call_eq, F4_eq]
  unfold F4
  by_cases hq : Rt V S T ∧ V ≤ 4 ∧ S ≤ 3 ∧ (D.length : Int) ≤ 60 ∧ (ops.length : Int) ≤ 60
  · rw [decide_eq_true hq] at rt
    obtain ⟨hR, h4, h3, hD, hO⟩ := hq
    have cn := Cn_le hR
    obtain ⟨N, hN⟩ : ∃ N : Nat, (N : Int) = Nn V S := ⟨(Nn V S).toNat, by omega⟩
    have hNp : 1 ≤ N := by omega
    obtain ⟨h1, q, a, b, l0, s, P, M, W, R, rvs, e1, Y1, l1, o1, lq, la, lb, lm, dr⟩ := begun9 (md := ⟨0, h.length⟩) (h := h ++ [Blk.own [(Value.int .i64 V), (Value.int .i64 S), (Value.int .i64 T), dv, ov]]) (ov := ov) hR hN rfl (by show h.length ≤ _; simp) SD.app wD (by omega)
    simp only [List.length_append, List.length_cons, List.length_nil] at l1 o1 lq la lb lm
    have c1 : h1[h.length]? = some (Blk.own [(Value.int .i64 V), (Value.int .i64 S), (Value.int .i64 T), dv, ov]) := by rw [o1 _ (by omega)]; exact List.getElem?_concat_length ..
    have rO : rd h1 h.length 4 = some ov := by rw [rd_at c1]; rfl
    have len := fun {α : Type} (k : Value → Option α) => SO.len k
    obtain ⟨mk2, s2, ts2, R2, rvs2, k2, eg, Y2, hl2, _⟩ := tells_loop (l0 := l0) hR hN hNp SO (by omega) ⟨by omega, by omega, by omega, by omega⟩ ops.length 0 h1 _ s _ R rvs (by omega) Y1 (by omega) fun y hy => by rw [o1 y (by omega), List.getElem?_append_left hy]
    obtain ⟨g, eJ⟩ := tells_1 (h := h) hR hN ((Value.bool false)) Y2 hl2
    have uP : Try.prog.underlying 30 = some (.pointer 49) := by kernel_rfl
    refine ⟨g, ?_⟩
    simp only [go_sem, Nat.reduceAdd, Nat.reduceLeDiff, Nat.reduceMul, Int.reduceBEq, Int.reduceBNe, Int.reduceLT, Int.reduceLE, Int.reduceGT, rt, e1, aBin_eqlP uP, rO, len]
    exact eg.trans eJ
  · rw [decide_eq_false hq] at rt
    exact ⟨_, by simp only [go_sem, Nat.reduceAdd, Nat.reduceLeDiff, Nat.reduceMul, Int.reduceBEq, Int.reduceBNe, Int.reduceLT, Int.reduceLE, Int.reduceGT, rt, awake9]; rfl⟩
end Go.Det.E
