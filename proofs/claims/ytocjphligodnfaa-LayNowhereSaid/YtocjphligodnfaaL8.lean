/- What isn't there has no node, and no cell: the law. -/
import Derived.Test.YtocjphligodnfaaL7
set_option autoImplicit false
set_option linter.unusedVariables false
set_option linter.unusedSimpArgs false
namespace Go.Det.E
open Go.Proofs Go.Det
theorem eOk_e (V a b : Int) : ((a != b) && Bl a V && Bl b V) = eOk V a b := by
  rw [Bool.eq_iff_iff, eOk_t]
  have e1 : mn a b = if b < a then b else a := rfl
  have e2 : mx a b = if b > a then b else a := rfl
  simp only [Bool.and_eq_true, bne_iff_ne, Bl_t]
  constructor
  · rintro ⟨⟨h1, h2⟩, h3⟩
    split at e1 <;> split at e2 <;> (refine ⟨h1, ?_, ?_, ?_⟩ <;> omega)
  · rintro ⟨h1, h2, h3, h4⟩
    split at e1 <;> split at e2 <;> (refine ⟨⟨h1, ?_⟩, ?_⟩ <;> omega)
section
attribute [local congr] bind_c cond_c
set_option maxRecDepth 100000 in
theorem nowhere_not {V S T : Int} (hR : ¬ Rt V S T) (md : Md) (h : Heap) (a b : Int) : F6 (call Try.prog cfg) md V S T a b h = some ((Value.bool true), h) := by
  unfold F6
  simp only [go_sem, Nat.reduceAdd, Nat.reduceLeDiff, Nat.reduceMul, Int.reduceBEq, Int.reduceBNe, Int.reduceLT, Int.reduceLE, Int.reduceGT, refof_s, refright_s, hR, awake5]
end
attribute [local congr] bind_c cond_ctx
theorem two_in (V a b : Int) : (Vx V a b != 0) = (Bl a (Lv V) && Bl b V) ∧ ∀ S c, (Ax V S a b c != 0) = true → True := ⟨by
  unfold Vx
  cases h : (Bl a (Lv V) && Bl b V)
  · rfl
  · simp only [Bool.and_eq_true] at h
    have h1 := Bl_t.1 h.1
    have h2 := Bl_t.1 h.2
    have := Int.mul_nonneg h1.1 (show 0 ≤ V by omega)
    simp only [cond_true, bne_iff_ne]; omega, fun _ _ _ => trivial⟩
theorem vx_ne (V a b : Int) : (Vx V a b != 0) = (Bl a (Lv V) && Bl b V) := (two_in V a b).1
theorem ax_ne {V S T : Int} (hR : Rt V S T) (a b c : Int) : (Ax V S a b c != 0) = (Bl a S && (Bl b (Lv V) && Bl c 2)) := by
  unfold Ax
  cases h : (Bl a S && (Bl b (Lv V) && Bl c 2))
  · rfl
  · simp only [Bool.and_eq_true] at h
    have h1 := Bl_t.1 h.1
    have h2 := Bl_t.1 h.2.1
    have h3 := Bl_t.1 h.2.2
    have l := Nn_le hR
    have := Int.mul_nonneg h1.1 (show 0 ≤ 2 * Lv V by omega)
    simp only [cond_true, bne_iff_ne]; omega
theorem and_e (x y : Bool) : (bif x then y else false) = (x && y) := by cases x <;> rfl
theorem or_e (x y : Bool) : (bif x then true else y) = (x || y) := by cases x <;> rfl
set_option maxHeartbeats 40000000 in
set_option maxRecDepth 100000 in
set_option maxRecDepth 100000 in

theorem nowhere_law : Law Try.prog cfg 6 [23, 3, 3] := by
  intro h avs ha
  obtain ⟨v, r, rfl, a, ha⟩ := args_cons ha
  obtain ⟨v2, r, rfl, a2, ha⟩ := args_cons ha
  obtain ⟨v3, r, rfl, a3, ha⟩ := args_cons ha
  obtain rfl := args_nil ha
  obtain ⟨V, S, T, rfl, hV, hS, hT⟩ := arg_lay a
  obtain ⟨a, rfl, ha'⟩ := inI64 (arg1 (P := Try.prog) (by kernel_rfl) (by kernel_rfl) a2)
  obtain ⟨b, rfl, hb'⟩ := inI64 (arg1 (P := Try.prog) (by kernel_rfl) (by kernel_rfl) a3)
  refine ⟨h, ?_⟩
  rw [call_eq, F6_eq]
  by_cases hR : Rt V S T
  · have r := hR
    unfold Rt at r
    have o := order hR
    have hb : (h ++ [Blk.own [(Value.int .i64 V), (Value.int .i64 S), (Value.int .i64 T)], Blk.own [(Value.int .i64 (Lv V))]])[h.length]? = some (.own [(Value.int .i64 V), (Value.int .i64 S), (Value.int .i64 T)]) := by simp
    have hc : (h ++ [Blk.own [(Value.int .i64 V), (Value.int .i64 S), (Value.int .i64 T)], Blk.own [(Value.int .i64 (Lv V))]])[h.length + 1]? = some (.own [(Value.int .i64 (Lv V))]) := by simp
    have e1 := fun x => c_vertex (md := ⟨0, h.length⟩) hb x
    have e2 := fun x => c_slot (md := ⟨0, h.length⟩) hb x
    have e3 := fun x => c_level (md := ⟨0, h.length⟩) hc x
    have e5 := fun x t => c_is (md := ⟨0, h.length⟩) hR hb x t
    simp only [bl_e] at e1 e2 e3
    have e4 := fun x => c_side (md := ⟨0, h.length⟩) (h := h ++ [Blk.own [(Value.int .i64 V), (Value.int .i64 S), (Value.int .i64 T)], Blk.own [(Value.int .i64 (Lv V))]]) x
    simp only [sd_e] at e4
    have i1 : isB (Cn V S T) (Sx T a) (decide (1 ≤ a) && decide (a ≤ T)) = true := by
      have e : (decide (1 ≤ a) && decide (a ≤ T)) = Bl (a - 1) T := by
        unfold Bl; congr 1 <;> congr 1 <;> apply propext <;> omega
      rw [e]
      have := sx_in (a := a) hR
      exact is_t (fun h => by have := this.1 h; omega) (fun h => this.2 h) (by omega)
    have io : ∀ f, 0 ≤ f ∧ f < 7 → isB (Cn V S T) (Ox S T a f) (Bl a S) = true := fun f hf => by
      have := ox_in (a := a) hR hf
      exact is_t (fun h => by have := this.1 h; omega) (fun h => this.2 h) (by omega)
    have i2 := io 0 (by omega)
    have i3 := io 1 (by omega)
    have i4 := io 2 (by omega)
    have i5 : isB (Cn V S T) (Nx S T a b) (Bl a S && Bl b 2) = true := by
      unfold Nx
      cases h : Bl b 2
      · rw [Bool.and_false]; exact is_t (fun h => by cases h) (fun _ => rfl) (by omega)
      · rw [Bool.and_true]; have := Bl_t.1 h; exact io (3 + b) (by omega)
    have i6 : isB (Cn V S T) (Px S T a b) (Bl a S && Bl b 2) = true := by
      unfold Px
      cases h : Bl b 2
      · rw [Bool.and_false]; exact is_t (fun h => by cases h) (fun _ => rfl) (by omega)
      · rw [Bool.and_true]; have := Bl_t.1 h; exact io (5 + b) (by omega)
    have i7 : isB (Cn V S T) (Hx V S T a b) (Bl a V && Bl b (Lv V)) = true := by
      have := hx_in (a := a) (b := b) hR
      exact is_t (fun h => by have := this.1 h; omega) (fun h => this.2 h) (by omega)
    have i8 : isB (Cn V S T) (Ex V S T a b) ((a != b) && Bl a V && Bl b V) = true := by
      have e := eOk_e V a b
      rw [e]
      have := ex_in (a := a) (b := b) hR
      exact is_t (fun h => by have := this.1 h; omega) (fun h => this.2 h) (by omega)
    have i9 : isB (Cn V S T) (Fx V S T a b) (decide (1 ≤ a) && decide (a ≤ Nn V S) && decide (0 ≤ b) && decide (b < 7)) = true := by
      have e : (decide (1 ≤ a) && decide (a ≤ Nn V S) && decide (0 ≤ b) && decide (b < 7)) = (Bl (a - 1) (Nn V S) && Bl b 7) := by
        rw [Bool.eq_iff_iff]
        simp only [Bool.and_eq_true, decide_eq_true_eq, Bl_t]
        constructor <;> (intro; omega)
      rw [e]
      have := fx_in (a := a) (b := b) hR
      exact is_t (fun h => by have := this.1 h; omega) (fun h => this.2 h) (by omega)
    unfold F6
    simp (maxSteps := 30000000) +contextual only [↓cond_t, ↓cond_f, go_sem, Nat.reduceAdd, Nat.reduceLeDiff, Nat.reduceMul, Int.reduceBEq, Int.reduceBNe, Int.reduceLT, Int.reduceLE, Int.reduceGT, ge_iff_le, refof_s, refright_s, hR, levels_s _ _ hR, nodes_s _ _ hR, cells_s _ _ hR, vertex_s _ _ hR, arc_s _ _ hR, e1, e2, e3, e4, e5, clV_0, clV_1, bind_cond, snd_cond, fst_cond, cBn_cond, wantV_cond, Bool.cond_self, vx_ne, ax_ne hR, aBin_neqB u4', aBin_neq, aBin_leq, aBin_geq, aBin_lss, and_e,
      Bl_t.2 (show (0 : Int) ≤ 0 ∧ 0 < Lv V by omega), Bl_t.2 (show (0 : Int) ≤ 0 ∧ (0 : Int) < 2 by omega),
      state_s _ _ hR ha', free_s, nextfree_s _ _ hR, ends_s _ _ hR, level_s _ _ hR, next_s _ _ hR, prev_s _ _ hR, head_s _ _ hR, edge_s _ _ hR, field_s _ _ hR ha', i1, i2, i3, i4, i5, i6, i7, i8, i9, awake5]
  · exact nowhere_not hR _ _ _ _
end Go.Det.E
