/- The law of the edges' slots: the pairs counted. -/
import Derived.Test.YtocjphligodnfaaG14
set_option autoImplicit false
set_option linter.unusedVariables false
set_option linter.unusedSimpArgs false
namespace Go.Det.E
open Go.Proofs Go.Det
attribute [local congr] bind_c cond_c
theorem slotsR_pre (all : List One) (i d e : Nat) : slotsR all i d <+: slotsR all i (d + e) := by
  induction e with
  | zero => exact List.prefix_refl _
  | succ e ih => exact ih.trans (by rw [Nat.add_succ, slotsR]; exact List.prefix_append _ _)
theorem slotsA_pre (all : List One) (n i e : Nat) : slotsA all n i <+: slotsA all n (i + e) := by
  induction e with
  | zero => exact List.prefix_refl _
  | succ e ih => exact ih.trans (by rw [Nat.add_succ, slotsA]; exact List.prefix_append _ _)
theorem slots_at {all : List One} {n i d : Nat} {s : Int} (hd : i + 1 + d < n) (h : slotP all i (i + 1 + d) = [s]) : (slotsA all n n)[(slotsA all n i ++ slotsR all i d).length]? = some s := by
  have h1 : slotsA all n i ++ slotsR all i (d + 1) <+: slotsA all n n := by
    have a := slotsA_pre all n (i + 1) (n - (i + 1))
    rw [show i + 1 + (n - (i + 1)) = n by omega] at a
    refine List.IsPrefix.trans ?_ a
    have b := slotsR_pre all i (d + 1) (n - 1 - i - (d + 1))
    rw [show d + 1 + (n - 1 - i - (d + 1)) = n - 1 - i by omega] at b
    rw [slotsA]
    exact (List.prefix_append_right_inj _).2 b
  obtain ⟨t, ht⟩ := h1
  rw [← ht, slotsR, h]
  rw [← List.append_assoc, List.append_assoc _ [s] t, List.getElem?_append_right (Nat.le_refl _), Nat.sub_self]
  rfl
variable {md : Md} {h : Heap} {p a b ob : Nat} {S T : Int} {l c : List Int} {v ids : Value} {n : Nat} {all : List One}
theorem count_v (hR : Rt n S T) (P : Pl h p a b n S T l c v all) (I : EI n S T l all) (hm : all.length < 100000) (bo : h[ob]? = some (.own [(Value.int .i64 ((n : Int))), (Value.int .i64 S), (Value.int .i64 T)])) (SI : Sl h 1 encI ids (slotsA all n n)) {i : Nat} (hi : i < n) (s4 : Value) : ∀ (m d : Nat), i + 1 + d + m = n →
    J9_2b0 C md ((Value.pointer (some ⟨ob, 0, none⟩))) s4 ((Value.pointer (some ⟨p, 0, none⟩))) ids ((Value.int .i64 (((slotsA all n i ++ slotsR all i d).length : Int)))) ((Value.int .i64 ((i : Int)))) ((Value.int .i64 (((i + 1 + d : Nat) : Int)))) ((Value.int .i64 ((n : Int)))) ((Value.int .i64 ((i : Int)))) h = some (.inl (((Value.pointer (some ⟨ob, 0, none⟩)), s4, (Value.pointer (some ⟨p, 0, none⟩)), ids, (Value.int .i64 (((slotsA all n (i + 1)).length : Int))), (Value.int .i64 ((n : Int))), (Value.int .i64 (((i + 1 : Nat) : Int)))), h)) := by
  have r := hR
  unfold Rt at r
  have r0 : rd h ob 0 = some ((Value.int .i64 ((n : Int)))) := by rw [rd_own bo]; rfl
  have hA := slotsA_len all (n := n) (by omega) n
  intro m
  induction m with
  | zero =>
    intro d hd
    have hlt : ¬ ((i + 1 + d : Nat) : Int) < (n : Int) := by omega
    have e : IntKind.wrap .i64 ((i : Int) + 1) = ((i + 1 : Nat) : Int) := by rw [wi (by omega) (by omega)]; rfl
    have hd' : slotsA all n i ++ slotsR all i d = slotsA all n (i + 1) := by rw [slotsA, show n - 1 - i = d by omega]
    rw [hd', J9_2b0_step]
    unfold Jr9_2b0
    simp only [go_sem, Nat.reduceAdd, Nat.reduceLeDiff, Nat.reduceMul, Int.reduceBEq, Int.reduceBNe, Int.reduceLT, Int.reduceLE, Int.reduceGT, r0, aBin_lss, hlt, Jk9_2b0, aBin_add, e]
  | succ m ih =>
    intro d hd
    have hlt : ((i + 1 + d : Nat) : Int) < (n : Int) := by omega
    have e : IntKind.wrap .i64 (((i + 1 + d : Nat) : Int) + 1) = ((i + 1 + (d + 1) : Nat) : Int) := by rw [wi (by omega) (by omega)]; omega
    have mm := mm_of (u := (i : Int)) (v := ((i + 1 + d : Nat) : Int)) (by omega)
    have bE := between_s (md := md) P.hp P.sl.sl hm (i : Int) ((i + 1 + d : Nat) : Int)
    have nx := ih (d + 1) (by omega)
    rcases pair_of I (u := (i : Int)) (v := ((i + 1 + d : Nat) : Int)) (by omega) (by omega) (by omega) with ⟨h1, h2⟩ | ⟨k, x, h1, h2, h3, h4, h5⟩
    · rw [h1] at bE
      rw [mm.1, mm.2] at h1
      have sp : slotP all i (i + 1 + d) = [] := by unfold slotP; rw [h1]; simp
      rw [slotsR, sp, List.append_nil] at nx
      have ng : (-1 : Int) < 0 := by omega
      rw [J9_2b0_step]
      unfold Jr9_2b0
      simp only [go_sem, Nat.reduceAdd, Nat.reduceLeDiff, Nat.reduceMul, Int.reduceBEq, Int.reduceBNe, Int.reduceLT, Int.reduceLE, Int.reduceGT, r0, aBin_lss, hlt, bE, ng, aBin_add, e]
      exact nx
    · rw [h1] at bE
      rw [mm.1, mm.2] at h1
      have sp : slotP all i (i + 1 + d) = [x.s] := by
        unfold slotP
        rw [h1]
        have : ((k : Int)).toNat = k := by omega
        have h0 : decide ((k : Int) < 0) = false := by simp
        rw [this, h2, h0]
      have at' := slots_at (all := all) (n := n) (by omega) sp
      rw [slotsR, sp, ← List.append_assoc, List.length_append (bs := [x.s])] at nx
      generalize (slotsA all n i ++ slotsR all i d).length = cnt at at' nx ⊢
      have hcl := (List.getElem?_eq_some_iff.1 at').1
      have hkl := (List.getElem?_eq_some_iff.1 h2).1
      have ng : ¬ (k : Int) < 0 := by omega
      have ngc : ¬ (((slotsA all n n).length : Int) ≤ (cnt : Int)) := by omega
      have len := fun {α : Type} (kk : Value → Option α) => SI.len kk
      have ixi := fun {α : Type} (kk : Value → Option α) => SI.ix (i := (cnt : Int)) (by omega) (by omega) kk
      have ci := SI.cell at' (j := 0) (by omega)
      have ix := fun {α : Type} (kk : Value → Option α) => P.sl.sl.ix (i := (k : Int)) (by omega) (by omega) kk
      have c0 := P.sl.sl.cell h2 (j := 0) (by omega)
      have r7 : rd h p 7 = some v := by rw [rd_at P.hp]; rfl
      simp only [Nat.add_zero, Nat.mul_one] at ci c0
      have z : (x.s != x.s) = false := by simp
      have e2 : IntKind.wrap .i64 ((cnt : Int) + 1) = ((cnt + 1 : Nat) : Int) := by rw [wi (by omega) (by omega)]; rfl
      rw [J9_2b0_step]
      unfold Jr9_2b0
      simp only [go_sem, Nat.reduceAdd, Nat.reduceLeDiff, Nat.reduceMul, Int.reduceBEq, Int.reduceBNe, Int.reduceLT, Int.reduceLE, Int.reduceGT, r0, aBin_lss, hlt, bE, ng, len, aBin_geq, ge_iff_le, ngc, ixi, ci, r7, ix, c0, aBin_neq, z, aBin_add, e2, e]
      exact nx
end Go.Det.E
