/- What isn't there has no node, and no cell. -/
import Derived.Test.YtodeenahpoobkaaL3
import Derived.Test.YtodeenahpoobkaaDetZ
set_option autoImplicit false
set_option linter.unusedVariables false
set_option linter.unusedSimpArgs false
namespace Go.Det.E
open Go.Proofs Go.Det
attribute [local congr] bind_c cond_ctx
theorem u4' : Try.prog.underlying 4 = some .bool := by kernel_rfl
variable {md : Md} {h : Heap} {b : Nat} {V S T L : Int}
def isB (C at' : Int) (there : Bool) : Bool := bif (bif decide (0 ≤ at') == there then (bif there then true else at' == -1) else false) then decide (at' < C) else false
theorem is_t {C x : Int} {t : Bool} (h1 : t = true → 0 ≤ x ∧ x < C) (h2 : t = false → x = -1) (hC : 0 ≤ C) : isB C x t = true := by
  unfold isB
  cases t
  · have := h2 rfl; subst this
    have : (-1 : Int) < C := by omega
    simp [this]
  · have := h1 rfl
    simp [this.1, this.2]
theorem bl_e (x n : Int) : (bif decide (0 ≤ x) then decide (x < n) else false) = Bl x n := by unfold Bl; cases decide (0 ≤ x) <;> rfl
theorem sd_e (x : Int) : (bif x == 0 then true else x == 1) = Bl x 2 := by
  by_cases h : 0 ≤ x ∧ x < 2
  · rw [Bl_t.2 h]
    have : x = 0 ∨ x = 1 := by omega
    rcases this with rfl | rfl <;> rfl
  · rw [Bl_f.2 h]
    have h0 : x ≠ 0 := by omega
    have h1 : x ≠ 1 := by omega
    simp [h0, h1]
/-- The edges' vertices, in order. -/
def pairs (V : Nat) : List (Nat × Nat) := (List.range V).flatMap fun a => (List.range (V - 1 - a)).map fun d => (a, a + 1 + d)
def eN (V a b : Nat) : Nat := a * (2 * V - a - 1) / 2 + b - a - 1
theorem eI_nat {V a b : Nat} (h : a < b) (hb : b < V) : eI V a b = (eN V a b : Nat) := by
  unfold eI eN
  have : (2 * (V : Int) - a - 1) = ((2 * V - a - 1 : Nat) : Int) := by omega
  rw [this, ← Int.natCast_mul]
  generalize a * (2 * V - a - 1) = z
  omega
set_option maxRecDepth 100000 in
theorem pairs_all : ∀ V < 17, ∀ b < V, ∀ a < b, (pairs V)[eN V a b]? = some (a, b) := by decide +kernel
theorem pairs_len : ∀ V < 17, (pairs V).length = V * (V - 1) / 2 := by decide +kernel
theorem eI_le {V a b : Int} (hV : 1 ≤ V ∧ V ≤ 16) (ha : 0 ≤ a) (hab : a < b) (hb : b < V) : 0 ≤ eI V a b ∧ eI V a b < V * (V - 1) / 2 := by
  obtain ⟨n, rfl⟩ : ∃ n : Nat, V = n := ⟨V.toNat, by omega⟩
  obtain ⟨x, rfl⟩ : ∃ n : Nat, a = n := ⟨a.toNat, by omega⟩
  obtain ⟨y, rfl⟩ : ∃ n : Nat, b = n := ⟨b.toNat, by omega⟩
  rw [eI_nat (by omega) (by omega)]
  have h1 := pairs_all n (by omega) y (by omega) x (by omega)
  have h2 := (List.getElem?_eq_some_iff.1 h1).1
  rw [pairs_len n (by omega)] at h2
  have e : ((n : Int) * (n - 1)) = ((n * (n - 1) : Nat) : Int) := by rw [Int.natCast_mul, Int.natCast_sub (by omega)]; rfl
  rw [e]
  omega
theorem eI_inj {V a b c d : Int} (hV : 1 ≤ V ∧ V ≤ 16) (ha : 0 ≤ a) (hab : a < b) (hb : b < V) (hc : 0 ≤ c) (hcd : c < d) (hd : d < V) (h : eI V a b = eI V c d) : a = c ∧ b = d := by
  obtain ⟨n, rfl⟩ : ∃ n : Nat, V = n := ⟨V.toNat, by omega⟩
  obtain ⟨x, rfl⟩ : ∃ n : Nat, a = n := ⟨a.toNat, by omega⟩
  obtain ⟨y, rfl⟩ : ∃ n : Nat, b = n := ⟨b.toNat, by omega⟩
  obtain ⟨z, rfl⟩ : ∃ n : Nat, c = n := ⟨c.toNat, by omega⟩
  obtain ⟨w, rfl⟩ : ∃ n : Nat, d = n := ⟨d.toNat, by omega⟩
  rw [eI_nat (by omega) (by omega), eI_nat (by omega) (by omega)] at h
  have h1 := pairs_all n (by omega) y (by omega) x (by omega)
  have h2 := pairs_all n (by omega) w (by omega) z (by omega)
  have : eN n x y = eN n z w := by omega
  rw [this, h2] at h1
  simp at h1
  omega
/-- Where the cells of each kind lie. -/
theorem sx_in {V S T a : Int} (hR : Rt V S T) : (Bl (a - 1) T = true → Sx T a = a - 1 ∧ 0 ≤ Sx T a ∧ Sx T a < T) ∧ (Bl (a - 1) T = false → Sx T a = -1) := by
  unfold Sx
  refine ⟨fun h => ?_, fun h => by rw [h]; rfl⟩
  rw [h]; have := Bl_t.1 h; simp only [cond_true, true_and]; omega
theorem ox_in {V S T a f : Int} (hR : Rt V S T) (hf : 0 ≤ f ∧ f < 7) : (Bl a S = true → Ox S T a f = T + 1 + a * 7 + f ∧ T + 1 ≤ Ox S T a f ∧ Ox S T a f < Hd S T) ∧ (Bl a S = false → Ox S T a f = -1) := by
  unfold Ox Hd
  have r := hR
  unfold Rt at r
  refine ⟨fun h => ?_, fun h => by rw [h]; rfl⟩
  rw [h]; have := Bl_t.1 h; simp only [cond_true, true_and]; omega
theorem hx_in {V S T a b : Int} (hR : Rt V S T) : ((Bl a V && Bl b (Lv V)) = true → Hx V S T a b = Hd S T + a * Lv V + b ∧ Hd S T ≤ Hx V S T a b ∧ Hx V S T a b < Eg V S T) ∧ ((Bl a V && Bl b (Lv V)) = false → Hx V S T a b = -1) := by
  unfold Hx Eg
  have lv := Lv_le hR
  refine ⟨fun h => ?_, fun h => by rw [h]; rfl⟩
  rw [h]
  simp only [Bool.and_eq_true] at h
  have h1 := Bl_t.1 h.1
  have h2 := Bl_t.1 h.2
  simp only [cond_true, true_and]
  have := Int.mul_nonneg h1.1 (show 0 ≤ Lv V by omega)
  have : (a + 1) * Lv V ≤ V * Lv V := Int.mul_le_mul_of_nonneg_right (by omega) (by omega)
  rw [Int.add_mul] at this
  omega
def eOk (V a b : Int) : Bool := !((mn a b == mx a b) || (!Bl (mn a b) V || !Bl (mx a b) V))
theorem eOk_t {V a b : Int} : eOk V a b = true ↔ a ≠ b ∧ 0 ≤ mn a b ∧ mn a b < mx a b ∧ mx a b < V := by
  unfold eOk
  have : mn a b = mx a b ↔ a = b := by unfold mn mx; split <;> split <;> omega
  have : mn a b ≤ mx a b := by unfold mn mx; split <;> split <;> omega
  simp only [Bool.not_eq_true', Bool.or_eq_false_iff, Bool.not_eq_false', beq_eq_false_iff_ne, Bl_t]
  omega
theorem ex_in {V S T a b : Int} (hR : Rt V S T) : (eOk V a b = true → Ex V S T a b = Eg V S T + eI V (mn a b) (mx a b) ∧ Eg V S T ≤ Ex V S T a b ∧ Ex V S T a b < Nd V S T) ∧ (eOk V a b = false → Ex V S T a b = -1) := by
  refine ⟨fun h => ?_, fun h => ?_⟩
  · have h1 := eOk_t.1 h
    unfold eOk at h
    rw [Bool.not_eq_true'] at h
    unfold Ex
    rw [h]
    have := eI_le hR.1 h1.2.1 h1.2.2.1 h1.2.2.2
    unfold Nd
    simp only [cond_false, true_and]
    omega
  · unfold eOk at h
    rw [Bool.not_eq_false'] at h
    unfold Ex
    rw [h]; rfl
theorem fx_in {V S T a b : Int} (hR : Rt V S T) : ((Bl (a - 1) (Nn V S) && Bl b 7) = true → Fx V S T a b = Nd V S T + (a - 1) * 7 + b ∧ Nd V S T ≤ Fx V S T a b ∧ Fx V S T a b < Cn V S T) ∧ ((Bl (a - 1) (Nn V S) && Bl b 7) = false → Fx V S T a b = -1) := by
  unfold Fx Cn
  refine ⟨fun h => ?_, fun h => by rw [h]; rfl⟩
  rw [h]
  simp only [Bool.and_eq_true] at h
  have h1 := Bl_t.1 h.1
  have h2 := Bl_t.1 h.2
  simp only [cond_true, true_and]
  omega
theorem order {V S T : Int} (hR : Rt V S T) : 0 < T ∧ T < Hd S T ∧ Hd S T ≤ Eg V S T ∧ Eg V S T ≤ Nd V S T ∧ Nd V S T ≤ Cn V S T ∧ Cn V S T ≤ 5000 ∧ 1 ≤ Lv V ∧ Lv V ≤ 5 ∧ Hd S T = T + 1 + S * 7 := by
  have e := Eg_le hR
  have n := Nd_le hR
  have c := Cn_le hR
  have lv := Lv_le hR
  have cn : Cn V S T = Nd V S T + Nn V S * 7 := rfl
  have r := hR
  unfold Rt at r
  omega
end Go.Det.E
