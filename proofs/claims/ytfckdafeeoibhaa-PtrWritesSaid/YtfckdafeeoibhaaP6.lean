/- A pen's write is one load and one store, and so is its cleaning. -/
import Derived.Test.YtfckdafeeoibhaaP5
set_option autoImplicit false
set_option linter.unusedVariables false
set_option linter.unusedSimpArgs false
namespace Go.Det.E
open Go.Proofs Go.Det
attribute [local congr] bind_c cond_c
variable {md : Md} {h hh h' : Heap} {a b : Nat} {l c : List Int}
theorem chL_no {x o n t g v : Int} (hv : getI l x = v) (hr : W.rightB v = false) : chL l x o n t g = l ∧ chC l c x o n t g = cL l c x := by
  unfold chL chC; rw [hv, hr]; exact ⟨rfl, rfl⟩
theorem chL_yes {x o n t g v : Int} (hv : getI l x = v) (hr : W.rightB v = true) (hw : W.rightW o n t g = true) (hi : inR l x) : chL l x o n t g = putI l x (W.bitsW o n t g) ∧ chC l c x o n t g = up (up c 0) 1 := by
  unfold chL chC; rw [hv, hr, hw, cS_in hi, cL_in hi]; exact ⟨rfl, rfl⟩
theorem snL_yes {x tag : Int} {d : Bool} (ht : 0 ≤ tag ∧ tag ≤ 16777215) (hi : inR l x) : snL l x tag d = putI l x (W.stW tag d) ∧ snC l c x tag = up c 1 := by
  unfold snL snC; rw [W.inW_iff.2 ht, cS_in hi]; exact ⟨rfl, rfl⟩
theorem inR_put {l : List Int} {i j v : Int} (hi : inR l i) : inR (putI l j v) i := by unfold inR at hi ⊢; rw [putI_len]; exact hi
theorem getI_same {l : List Int} {i v : Int} (hi : inR l i) : getI (putI l i v) i = v := by rw [getI_put, if_pos ⟨rfl, hi⟩]
theorem getI_else {l : List Int} {i j v : Int} (hij : i ≠ j) : getI (putI l i v) j = getI l j := by rw [getI_put, if_neg (fun q => hij q.1)]
theorem Sx83 : Sx 8 3 = 2 := by decide
/-- The second half of the law: cleaned, begun, committed, ended. -/
theorem writes_end {bm bl bp bn : Nat} {x tag old v : Int} (hx : 0 ≤ x ∧ x ≤ 65535) (ht : 0 ≤ tag ∧ tag < 16777215) (ho : W.rightW old x 3 tag = true) (hold : old = olW 3 tag v)
    (A : Ar hh a b l [2, 2, 0, 0, 0]) (w : Wd l) (hl : l.length = 42) (hgot : getI l 23 = W.bitsW old x 3 tag) (la : h.length ≤ a) (lb : h.length ≤ b) (hlen : h.length ≤ hh.length)
    (B : Bk a b hh [(bm, [(Value.pointer (some ⟨a, 0, none⟩))]), (bl, [(Value.int .i64 2), (Value.int .i64 0), (Value.int .i64 8)]), (bp, [(Value.int .i64 3), (Value.int .i64 tag)]), (bn, [(Value.int .i64 0), (Value.int .i64 1), (Value.int .i64 0), (Value.int .i64 0), (Value.int .i64 0)])]) :
    ∃ g', J10_0 C ⟨0, h.length⟩ h ((Value.int .i64 x)) ((Value.int .i64 tag)) ((Value.pointer (some ⟨a, 0, none⟩))) ((Value.pointer (some ⟨bm, 0, none⟩))) ((Value.pointer (some ⟨bl, 0, none⟩))) ((Value.pointer (some ⟨bp, 0, none⟩))) ((Value.pointer (some ⟨bn, 0, none⟩))) ((Value.int .u64 (W.bitsW old x 3 tag))) ((Value.int .i64 old)) hh = some ((Value.bool true), g') := by
  have i23 : inR l 23 := ⟨by omega, by rw [hl]; omega⟩
  have i2 : inR l 2 := ⟨by omega, by rw [hl]; omega⟩
  obtain ⟨b0, b64, p1, p2, p3, p4⟩ := W.bits_of ho
  have rB := W.bits_right ho
  have bWord : ∀ {α : Type} (k : Value → Option α), aBuild Try.prog 92 [(0, (Value.int .i64 old)), (1, (Value.int .i64 x)), (2, (Value.int .i64 3)), (3, (Value.int .i64 tag))] k = k ((Value.agg #[(Value.int .i64 old), (Value.int .i64 x), (Value.int .i64 3), (Value.int .i64 tag)])) := fun k => by kernel_rfl
  have rbits := fun (md : Md) (h : Heap) => W.refbits_s ho md h
  have rP : ∀ hx : Heap, Bk a b hx [(bm, [(Value.pointer (some ⟨a, 0, none⟩))]), (bl, [(Value.int .i64 2), (Value.int .i64 0), (Value.int .i64 8)]), (bp, [(Value.int .i64 3), (Value.int .i64 tag)]), (bn, [(Value.int .i64 0), (Value.int .i64 1), (Value.int .i64 0), (Value.int .i64 0), (Value.int .i64 0)])] → rdN hx bp 0 2 = some [(Value.int .i64 3), (Value.int .i64 tag)] ∧ rdN hx bm 0 1 = some [(Value.pointer (some ⟨a, 0, none⟩))] ∧ rdN hx bl 0 3 = some [(Value.int .i64 2), (Value.int .i64 0), (Value.int .i64 8)] ∧ rd hx bn 1 = some ((Value.int .i64 1)) := by
    intro hx B
    refine ⟨?_, ?_, ?_, ?_⟩
    · rw [rdN_own (B.at (y := bp) (cs := [(Value.int .i64 3), (Value.int .i64 tag)]) (by simp)) (by simp)]; rfl
    · rw [rdN_own (B.at (y := bm) (cs := [(Value.pointer (some ⟨a, 0, none⟩))]) (by simp)) (by simp)]; rfl
    · rw [rdN_own (B.at (y := bl) (cs := [(Value.int .i64 2), (Value.int .i64 0), (Value.int .i64 8)]) (by simp)) (by simp)]; rfl
    · rw [rd_own (B.at (y := bn) (cs := [(Value.int .i64 0), (Value.int .i64 1), (Value.int .i64 0), (Value.int .i64 0), (Value.int .i64 0)]) (by simp))]; rfl
  have ew : W.rightW (W.bitsW old x 3 tag % 65536) (W.bitsW old x 3 tag % 65536) 0 0 = true := by
    rw [p2]; exact W.rightW_iff.2 ⟨hx, hx, by omega, by omega, .inr ⟨rfl, rfl⟩⟩
  have ebits : W.bitsW x x 0 0 = x * 65537 := by unfold W.bitsW; omega
  -- cleaned
  obtain ⟨h1, e1, A1, o1⟩ := clean_e (md := ⟨0, h.length⟩) A (Nat.zero_le _) (Nat.zero_le _) (Nat.zero_le _) w (x := 23) (th := 3) (tag := tag) hgot
  rw [(chL_yes hgot rB ew i23 (c := [2, 2, 0, 0, 0])).1, (chL_yes hgot rB ew i23 (c := [2, 2, 0, 0, 0])).2, p2, ebits] at A1
  have B1 := B.only o1
  have A1' : Ar h1 a b (putI l 23 (x * 65537)) [3, 3, 0, 0, 0] := A1
  have w1 : Wd (putI l 23 (x * 65537)) := w.put 23 ⟨by omega, by omega⟩
  -- begun
  obtain ⟨h2, e2, A2, o2⟩ := begin_e (md := ⟨0, h.length⟩) rt208 A1' (Nat.zero_le _) (Nat.zero_le _) (Nat.zero_le _) (th := 3) (tag := tag) (by unfold I64; omega)
  have i2' : inR (putI l 23 (x * 65537)) 2 := inR_put i2
  rw [Sx83, (snL_yes (d := false) (c := [3, 3, 0, 0, 0]) ⟨ht.1, by omega⟩ i2').1, (snL_yes (d := false) (c := [3, 3, 0, 0, 0]) ⟨ht.1, by omega⟩ i2').2] at A2
  have A2' : Ar h2 a b (putI (putI l 23 (x * 65537)) 2 (W.stW tag false)) [3, 4, 0, 0, 0] := A2
  have B2 := B1.only o2
  obtain ⟨h3, e3, A3, o3⟩ := ld_x (md := ⟨0, h.length⟩) A2' (Nat.zero_le _) 2
  rw [getI_same i2'] at e3
  rw [cL_in (inR_put i2')] at A3
  have B3 := B2.only o3
  have A3' : Ar h3 a b (putI (putI l 23 (x * 65537)) 2 (W.stW tag false)) [4, 4, 0, 0, 0] := A3
  -- committed
  obtain ⟨h4, e4, A4, o4⟩ := commit_e (md := ⟨0, h.length⟩) rt208 A3' (Nat.zero_le _) (Nat.zero_le _) (Nat.zero_le _) (th := 3) (tag := tag) (by unfold I64; omega)
  have i4 : inR (putI (putI l 23 (x * 65537)) 2 (W.stW tag false)) 2 := inR_put i2'
  rw [Sx83, (snL_yes (d := true) (c := [4, 4, 0, 0, 0]) ⟨ht.1, by omega⟩ i4).1, (snL_yes (d := true) (c := [4, 4, 0, 0, 0]) ⟨ht.1, by omega⟩ i4).2] at A4
  have A4' : Ar h4 a b (putI (putI (putI l 23 (x * 65537)) 2 (W.stW tag false)) 2 (W.stW tag true)) [4, 5, 0, 0, 0] := A4
  have B4 := B3.only o4
  obtain ⟨h5, e5, A5, o5⟩ := ld_x (md := ⟨0, h.length⟩) A4' (Nat.zero_le _) 2
  rw [getI_same i4] at e5
  rw [cL_in (inR_put i4)] at A5
  have B5 := B4.only o5
  have A5' : Ar h5 a b (putI (putI (putI l 23 (x * 65537)) 2 (W.stW tag false)) 2 (W.stW tag true)) [5, 5, 0, 0, 0] := A5
  -- ended
  have wt : IntKind.wrap .i64 (tag + 1) = tag + 1 := wi (by omega) (by omega)
  obtain ⟨h6, e6, A6, o6⟩ := end_e (md := ⟨0, h.length⟩) rt208 A5' (Nat.zero_le _) (Nat.zero_le _) (Nat.zero_le _) (th := 3) (tag := tag) (by unfold I64; omega)
  have i6 : inR (putI (putI (putI l 23 (x * 65537)) 2 (W.stW tag false)) 2 (W.stW tag true)) 2 := inR_put i4
  rw [wt, Sx83, (snL_yes (d := false) (c := [5, 5, 0, 0, 0]) ⟨by omega, by omega⟩ i6).1, (snL_yes (d := false) (c := [5, 5, 0, 0, 0]) ⟨by omega, by omega⟩ i6).2] at A6
  have A6' : Ar h6 a b (putI (putI (putI (putI l 23 (x * 65537)) 2 (W.stW tag false)) 2 (W.stW tag true)) 2 (W.stW (tag + 1) false)) [5, 6, 0, 0, 0] := A6
  have B6 := B5.only o6
  obtain ⟨h7, e7, A7, o7⟩ := ld_x (md := ⟨0, h.length⟩) A6' (Nat.zero_le _) 2
  rw [getI_same i6] at e7
  rw [cL_in (inR_put i6)] at A7
  have B7 := B6.only o7
  have A7' : Ar h7 a b (putI (putI (putI (putI l 23 (x * 65537)) 2 (W.stW tag false)) 2 (W.stW tag true)) 2 (W.stW (tag + 1) false)) [6, 6, 0, 0, 0] := A7
  obtain ⟨h8, e8, A8, o8⟩ := ld_x (md := ⟨0, h.length⟩) A7' (Nat.zero_le _) 23
  rw [getI_else (by omega), getI_else (by omega), getI_else (by omega), getI_same i23] at e8
  rw [cL_in (inR_put (inR_put (inR_put (inR_put i23))))] at A8
  have B8 := B7.only o8
  have A8' : Ar h8 a b (putI (putI (putI (putI l 23 (x * 65537)) 2 (W.stW tag false)) 2 (W.stW tag true)) 2 (W.stW (tag + 1) false)) [7, 6, 0, 0, 0] := A8
  have e9 := fun (m : Md) => counts_x (md := m) A8'
  have B9 := B8.app [Blk.own [(Value.int .i64 7), (Value.int .i64 6), (Value.int .i64 0), (Value.int .i64 0), (Value.int .i64 0)]]
  have s3 := fun (m : Md) (h : Heap) => state_s m h rt208 (a := 3) (by unfold I64; omega)
  rw [Sx83] at s3
  obtain ⟨q1, q2, q3, _⟩ := rP _ B
  obtain ⟨q4, q5, _, _⟩ := rP _ B1
  obtain ⟨_, _, q6, _⟩ := rP _ B1
  obtain ⟨_, _, q7, _⟩ := rP _ B2
  obtain ⟨q8, q9, q10, _⟩ := rP _ B3
  obtain ⟨_, _, q11, _⟩ := rP _ B4
  obtain ⟨q12, q13, q14, _⟩ := rP _ B5
  obtain ⟨_, _, q15, _⟩ := rP _ B6
  obtain ⟨_, _, _, q16⟩ := rP _ B9
  have l8 : h.length ≤ h8.length := by have := o1.len; have := o2.len; have := o3.len; have := o4.len; have := o5.len; have := o6.len; have := o7.len; have := o8.len; omega
  have w15 : IntKind.wrap .i64 (1 + 5) = 6 := by decide
  have rp := fun (m : Md) (h : Heap) => W.refplain_s hx.1 hx.2 m h
  have rs1 := fun (m : Md) (h : Heap) (d : Bool) => W.refstate_s ht.1 (by omega : tag ≤ 16777215) m d h
  have rs2 := fun (m : Md) (h : Heap) (d : Bool) => W.refstate_s (g := tag + 1) (by omega) (by omega) m d h
  refine ⟨(h8 ++ [Blk.own [(Value.int .i64 7), (Value.int .i64 6), (Value.int .i64 0), (Value.int .i64 0), (Value.int .i64 0)]]).take h.length, ?_⟩
  unfold J10_0
  simp only [go_sem, Nat.reduceAdd, Nat.reduceLeDiff, Nat.reduceMul, Int.reduceBEq, Int.reduceBNe, Int.reduceLT, Int.reduceLE, Int.reduceGT, bWord, rbits, aBin_neq, aBin_eql, aBin_add, at1_s, q1, q2, q3, q4, q5, q6, q7, q8, q9, q10, q11, q12, q13, q14, q15, q16, e1, e2, e3, e4, e5, e6, e7, e8, e9, s3, l8, rp, rs1, rs2, wt, bne_self_eq_false, awake08, w15]
theorem writes_law : Law Try.prog cfg 10 [64, 3, 3] := by
  intro h avs ha
  obtain ⟨x1, r, rfl, a1, ha⟩ := args_cons ha
  obtain ⟨x2, r, rfl, a2, ha⟩ := args_cons ha
  obtain ⟨x3, r, rfl, a3, ha⟩ := args_cons ha
  obtain rfl := args_nil ha
  obtain ⟨v, rfl, v0⟩ := inU64 (arg1 (P := Try.prog) (by kernel_rfl) (by kernel_rfl) a1)
  obtain ⟨x, rfl, _⟩ := inI64 (arg1 (P := Try.prog) (by kernel_rfl) (by kernel_rfl) a2)
  obtain ⟨tag, rfl, _⟩ := inI64 (arg1 (P := Try.prog) (by kernel_rfl) (by kernel_rfl) a3)
  rw [call_eq, F10_eq]
  unfold F10
  have tk : h.take h.length = h := take_same (Nat.le_refl _)
  by_cases hx0 : x < 0
  · exact ⟨h, by simp only [go_sem, Nat.reduceAdd, Nat.reduceLeDiff, Nat.reduceMul, Int.reduceBEq, Int.reduceBNe, Int.reduceLT, Int.reduceLE, Int.reduceGT, hx0, awake08, tk]⟩
  by_cases hx1 : 65535 < x
  · exact ⟨h, by simp only [go_sem, Nat.reduceAdd, Nat.reduceLeDiff, Nat.reduceMul, Int.reduceBEq, Int.reduceBNe, Int.reduceLT, Int.reduceLE, Int.reduceGT, hx0, aBin_gtr, hx1, awake08, tk]⟩
  by_cases ht0 : tag < 0
  · exact ⟨h, by simp only [go_sem, Nat.reduceAdd, Nat.reduceLeDiff, Nat.reduceMul, Int.reduceBEq, Int.reduceBNe, Int.reduceLT, Int.reduceLE, Int.reduceGT, hx0, aBin_gtr, hx1, aBin_lss, ht0, awake08, tk]⟩
  by_cases ht1 : 16777215 ≤ tag
  · exact ⟨h, by simp only [go_sem, Nat.reduceAdd, Nat.reduceLeDiff, Nat.reduceMul, Int.reduceBEq, Int.reduceBNe, Int.reduceLT, Int.reduceLE, Int.reduceGT, hx0, aBin_gtr, hx1, aBin_lss, ht0, aBin_geq, ht1, awake08, tk]⟩
  obtain ⟨h3, a, b, e3, A3, O3, la, lb⟩ := begun_e ⟨0, h.length⟩ h
  have la3 := lt_of A3.ha
  have lb3 := lt_of A3.hb
  have hl3 : h.length ≤ h3.length := O3.len
  have hl31 : h.length ≤ h3.length + 1 := by omega
  have hl32 : h.length ≤ h3.length + 2 := by omega
  have mo := fun (md : Md) => memof_s md h3 la3
  have st1 := fun (h' : Heap) (kk : Heap → Option (Value × Heap)) => st_N ⟨0, h.length⟩ 1 h3.length 0 [(Value.pointer (some ⟨a, 0, none⟩))] h' kk rfl rfl
  have A4 := A3.app [Blk.own [(Value.pointer (some ⟨a, 0, none⟩))], Blk.own [(Value.int .i64 2), (Value.int .i64 0), (Value.int .i64 8)], Blk.own [(Value.int .i64 3), (Value.int .i64 tag)]]
  have B4 : Bk a b (h3 ++ [Blk.own [(Value.pointer (some ⟨a, 0, none⟩))], Blk.own [(Value.int .i64 2), (Value.int .i64 0), (Value.int .i64 8)], Blk.own [(Value.int .i64 3), (Value.int .i64 tag)]]) [(h3.length, [(Value.pointer (some ⟨a, 0, none⟩))]), (h3.length + 1, [(Value.int .i64 2), (Value.int .i64 0), (Value.int .i64 8)]), (h3.length + 2, [(Value.int .i64 3), (Value.int .i64 tag)])] := by
    intro p hp
    simp only [List.mem_cons, List.not_mem_nil, or_false] at hp
    rcases hp with rfl | rfl | rfl
    · exact ⟨by simp, by simp; omega, by simp; omega⟩
    · exact ⟨by rw [List.getElem?_append_right (by simp), Nat.add_sub_cancel_left]; rfl, by simp; omega, by simp; omega⟩
    · exact ⟨by rw [List.getElem?_append_right (by simp), Nat.add_sub_cancel_left]; rfl, by simp; omega, by simp; omega⟩
  have i23 : inR (List.replicate 42 0) 23 := ⟨by omega, by simp⟩
  obtain ⟨h5, e5, A5, o5⟩ := st_x (md := ⟨0, h.length⟩) A4 (Nat.zero_le _) (Nat.zero_le _) 23 v
  rw [cS_in i23] at A5
  have A5' : Ar h5 a b (putI (List.replicate 42 0) 23 v) [0, 1, 0, 0, 0] := A5
  have B5 := B4.only o5
  have l5 := o5.len
  simp only [List.length_append, List.length_cons, List.length_nil] at l5
  have hl5 : h.length ≤ h5.length := by omega
  have hl51 : h.length ≤ h5.length + 1 := by omega
  have w5 : Wd (putI (List.replicate 42 0) 23 v) := (Wd.zero 42).put 23 v0
  have i5 : inR (putI (List.replicate 42 0) 23 v) 23 := inR_put i23
  have g5 : getI (putI (List.replicate 42 0) 23 v) 23 = v := getI_same i23
  have ps := fun (md : Md) (h : Heap) => W.parts_s v0.1 v0.2 md h
  have A6 := A5'.app [Blk.own [(Value.int .i64 (v / 65536 % 65536)), (Value.int .i64 (v % 65536)), (Value.int .i64 (v / 4294967296 % 256)), (Value.int .i64 (v / 1099511627776))]]
  have e6 := fun (m : Md) => counts_x (md := m) A6
  have A7 := A5'.app [Blk.own [(Value.int .i64 (v / 65536 % 65536)), (Value.int .i64 (v % 65536)), (Value.int .i64 (v / 4294967296 % 256)), (Value.int .i64 (v / 1099511627776))], Blk.own [(Value.int .i64 0), (Value.int .i64 1), (Value.int .i64 0), (Value.int .i64 0), (Value.int .i64 0)]]
  have B7 : Bk a b (h5 ++ [Blk.own [(Value.int .i64 (v / 65536 % 65536)), (Value.int .i64 (v % 65536)), (Value.int .i64 (v / 4294967296 % 256)), (Value.int .i64 (v / 1099511627776))], Blk.own [(Value.int .i64 0), (Value.int .i64 1), (Value.int .i64 0), (Value.int .i64 0), (Value.int .i64 0)]])
      [(h5.length + 1, [(Value.int .i64 0), (Value.int .i64 1), (Value.int .i64 0), (Value.int .i64 0), (Value.int .i64 0)]), (h5.length, [(Value.int .i64 (v / 65536 % 65536)), (Value.int .i64 (v % 65536)), (Value.int .i64 (v / 4294967296 % 256)), (Value.int .i64 (v / 1099511627776))]), (h3.length, [(Value.pointer (some ⟨a, 0, none⟩))]), (h3.length + 1, [(Value.int .i64 2), (Value.int .i64 0), (Value.int .i64 8)]), (h3.length + 2, [(Value.int .i64 3), (Value.int .i64 tag)])] := by
    refine ((B5.app _).cons ?_ ?_ ?_).cons ?_ ?_ ?_
    · simp
    · omega
    · omega
    · rw [List.getElem?_append_right (by simp), Nat.add_sub_cancel_left]; rfl
    · omega
    · omega
  have q1 : rdN (h5 ++ [Blk.own [(Value.int .i64 (v / 65536 % 65536)), (Value.int .i64 (v % 65536)), (Value.int .i64 (v / 4294967296 % 256)), (Value.int .i64 (v / 1099511627776))], Blk.own [(Value.int .i64 0), (Value.int .i64 1), (Value.int .i64 0), (Value.int .i64 0), (Value.int .i64 0)]]) (h3.length + 2) 0 2 = some [(Value.int .i64 3), (Value.int .i64 tag)] := by
    rw [rdN_own (B7.at (cs := [(Value.int .i64 3), (Value.int .i64 tag)]) (by simp)) (by simp)]; rfl
  have q2 : rdN (h5 ++ [Blk.own [(Value.int .i64 (v / 65536 % 65536)), (Value.int .i64 (v % 65536)), (Value.int .i64 (v / 4294967296 % 256)), (Value.int .i64 (v / 1099511627776))], Blk.own [(Value.int .i64 0), (Value.int .i64 1), (Value.int .i64 0), (Value.int .i64 0), (Value.int .i64 0)]]) h3.length 0 1 = some [(Value.pointer (some ⟨a, 0, none⟩))] := by
    rw [rdN_own (B7.at (cs := [(Value.pointer (some ⟨a, 0, none⟩))]) (by simp)) (by simp)]; rfl
  obtain ⟨h8, e8, A8, o8⟩ := write_e (md := ⟨0, h.length⟩) A7 (Nat.zero_le _) (Nat.zero_le _) (Nat.zero_le _) w5 (x := 23) (y := x) (th := 3) (tag := tag) g5
  have B8 := B7.only o8
  have q3 : rdN h8 h5.length 0 4 = some [(Value.int .i64 (v / 65536 % 65536)), (Value.int .i64 (v % 65536)), (Value.int .i64 (v / 4294967296 % 256)), (Value.int .i64 (v / 1099511627776))] := by
    rw [rdN_own (B8.at (cs := [(Value.int .i64 (v / 65536 % 65536)), (Value.int .i64 (v % 65536)), (Value.int .i64 (v / 4294967296 % 256)), (Value.int .i64 (v / 1099511627776))]) (by simp)) (by simp)]; rfl
  obtain ⟨h9, e9, A9, o9⟩ := ld_x (md := ⟨0, h.length⟩) A8 (Nat.zero_le _) 23
  have B9 := B8.only o9
  have l8 := o8.len
  have l9 := o9.len
  simp only [List.length_append, List.length_cons, List.length_nil] at l8
  have hl9 : h.length ≤ h9.length := by omega
  have rw9 : h9[h5.length]? = some (.own [(Value.int .i64 (v / 65536 % 65536)), (Value.int .i64 (v % 65536)), (Value.int .i64 (v / 4294967296 % 256)), (Value.int .i64 (v / 1099511627776))]) := B9.at (by simp)
  have q4 : rdN h9 h5.length 0 4 = some [(Value.int .i64 (v / 65536 % 65536)), (Value.int .i64 (v % 65536)), (Value.int .i64 (v / 4294967296 % 256)), (Value.int .i64 (v / 1099511627776))] := by rw [rdN_own rw9 (by simp)]; rfl
  have rb : W.rightW (v / 65536 % 65536) (v % 65536) (v / 4294967296 % 256) (v / 1099511627776) = W.rightB v := rfl
  cases hr : W.rightB v
  · rw [(chL_no (c := [0, 1, 0, 0, 0]) g5 hr).1, (chL_no (c := [0, 1, 0, 0, 0]) g5 hr).2, cL_in i5] at A8
    rw [(chL_no (c := [0, 1, 0, 0, 0]) g5 hr).1] at A9 e9
    rw [(chL_no (c := [0, 1, 0, 0, 0]) g5 hr).2, cL_in i5, cL_in i5] at A9
    rw [g5] at e9
    have A9' : Ar h9 a b (putI (List.replicate 42 0) 23 v) [2, 1, 0, 0, 0] := A9
    have e10 := fun (m : Md) => counts_x (md := m) A9'
    have bn := (B9.app [Blk.own [(Value.int .i64 2), (Value.int .i64 1), (Value.int .i64 0), (Value.int .i64 0), (Value.int .i64 0)]]).at (y := h5.length + 1) (cs := [(Value.int .i64 0), (Value.int .i64 1), (Value.int .i64 0), (Value.int .i64 0), (Value.int .i64 0)]) (by simp)
    have q5 : rd (h9 ++ [Blk.own [(Value.int .i64 2), (Value.int .i64 1), (Value.int .i64 0), (Value.int .i64 0), (Value.int .i64 0)]]) (h5.length + 1) 1 = some ((Value.int .i64 1)) := by rw [rd_own bn]; rfl
    have q6 : rd (h9 ++ [Blk.own [(Value.int .i64 2), (Value.int .i64 1), (Value.int .i64 0), (Value.int .i64 0), (Value.int .i64 0)]]) (h5.length + 1) 0 = some ((Value.int .i64 0)) := by rw [rd_own bn]; rfl
    have w2 : IntKind.wrap .i64 (0 + 2) = 2 := by decide
    refine ⟨(h9 ++ [Blk.own [(Value.int .i64 2), (Value.int .i64 1), (Value.int .i64 0), (Value.int .i64 0), (Value.int .i64 0)]]).take h.length, ?_⟩
    simp only [go_sem, Nat.reduceAdd, Nat.reduceLeDiff, Nat.reduceMul, Int.reduceBEq, Int.reduceBNe, Int.reduceLT, Int.reduceLE, Int.reduceGT, hx0, aBin_gtr, hx1, aBin_lss, ht0, aBin_geq, ht1, e3, aBin_eqlP uPa, mo, small_s, hl3, hl31, hl32, st1, at1_s, e5, ps, hl5, hl51, e6, q1, q2, e8, e9, q4, W.refright_s, rb, hr, e10, hl9, q5, q6, aBin_eql, aBin_add, w2, awake08]
  · have hp := W.rightW_iff.1 hr
    have ho : W.rightW (olW 3 tag v) x 3 tag = true := by
      refine W.rightW_iff.2 ⟨?_, ⟨by omega, by omega⟩, by omega, by omega, .inl (by omega)⟩
      unfold olW
      cases (v / 4294967296 % 256 != 3 || v / 1099511627776 != tag)
      · exact hp.1
      · exact hp.2.1
    rw [(chL_yes (c := [0, 1, 0, 0, 0]) g5 hr ho i5).1, (chL_yes (c := [0, 1, 0, 0, 0]) g5 hr ho i5).2, cL_in (inR_put i5)] at A9
    rw [(chL_yes (c := [0, 1, 0, 0, 0]) g5 hr ho i5).1, getI_same i5] at e9
    have A9' : Ar h9 a b (putI (putI (List.replicate 42 0) 23 v) 23 (W.bitsW (olW 3 tag v) x 3 tag)) [2, 2, 0, 0, 0] := A9
    have hb := W.bits_of ho
    obtain ⟨g', eg⟩ := writes_end (h := h) (bm := h3.length) (bl := h3.length + 1) (bp := h3.length + 2) (bn := h5.length + 1) (v := v) ⟨by omega, by omega⟩ ⟨by omega, by omega⟩ ho rfl A9' (w5.put 23 ⟨hb.1, hb.2.1⟩) (by simp [putI_len]) (getI_same i5) la lb hl9
      (fun p hp => B9 p (by simp only [List.mem_cons, List.not_mem_nil, or_false] at hp ⊢; rcases hp with h | h | h | h <;> simp [h]))
    have r0 : rd h9 h5.length 0 = some ((Value.int .i64 (v / 65536 % 65536))) := by rw [rd_own rw9]; rfl
    have r1 : rd h9 h5.length 1 = some ((Value.int .i64 (v % 65536))) := by rw [rd_own rw9]; rfl
    have r2 : rd h9 h5.length 2 = some ((Value.int .i64 (v / 4294967296 % 256))) := by rw [rd_own rw9]; rfl
    have r3 : rd h9 h5.length 3 = some ((Value.int .i64 (v / 1099511627776))) := by rw [rd_own rw9]; rfl
    refine ⟨g', ?_⟩
    cases c1 : (v / 4294967296 % 256 == 3)
    · have ol : olW 3 tag v = v % 65536 := by unfold olW; simp only [bne, c1]; rfl
      rw [ol] at eg e9
      simp only [go_sem, Nat.reduceAdd, Nat.reduceLeDiff, Nat.reduceMul, Int.reduceBEq, Int.reduceBNe, Int.reduceLT, Int.reduceLE, Int.reduceGT, hx0, aBin_gtr, hx1, aBin_lss, ht0, aBin_geq, ht1, e3, aBin_eqlP uPa, mo, small_s, hl3, hl31, hl32, st1, at1_s, e5, ps, hl5, hl51, e6, q1, q2, e8, e9, q4, W.refright_s, rb, hr, r0, r1, r2, r3, c1]
      exact eg
    · cases c2 : (v / 1099511627776 == tag)
      · have ol : olW 3 tag v = v % 65536 := by unfold olW; simp only [bne, c1, c2]; rfl
        rw [ol] at eg e9
        simp only [go_sem, Nat.reduceAdd, Nat.reduceLeDiff, Nat.reduceMul, Int.reduceBEq, Int.reduceBNe, Int.reduceLT, Int.reduceLE, Int.reduceGT, hx0, aBin_gtr, hx1, aBin_lss, ht0, aBin_geq, ht1, e3, aBin_eqlP uPa, mo, small_s, hl3, hl31, hl32, st1, at1_s, e5, ps, hl5, hl51, e6, q1, q2, e8, e9, q4, W.refright_s, rb, hr, r0, r1, r2, r3, c1, c2, aBin_eql]
        exact eg
      · have ol : olW 3 tag v = v / 65536 % 65536 := by unfold olW; simp only [bne, c1, c2]; rfl
        rw [ol] at eg e9
        simp only [go_sem, Nat.reduceAdd, Nat.reduceLeDiff, Nat.reduceMul, Int.reduceBEq, Int.reduceBNe, Int.reduceLT, Int.reduceLE, Int.reduceGT, hx0, aBin_gtr, hx1, aBin_lss, ht0, aBin_geq, ht1, e3, aBin_eqlP uPa, mo, small_s, hl3, hl31, hl32, st1, at1_s, e5, ps, hl5, hl51, e6, q1, q2, e8, e9, q4, W.refright_s, rb, hr, r0, r1, r2, r3, c1, c2, aBin_eql]
        exact eg
end Go.Det.E
