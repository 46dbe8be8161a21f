/- The cells of any lay are the document's. -/
import Derived.Test.YtodeenahpoobkaaL11
set_option autoImplicit false
set_option linter.unusedVariables false
set_option linter.unusedSimpArgs false
namespace Go.Det.E
open Go.Proofs Go.Det
attribute [local congr] bind_c cond_c
/-- A cell's name is that of a number. -/
inductive Nm (V S T j : Int) : N4 → Prop
  | k1 (a : Int) (h : Sx T a = j) (ha : I64 a) : Nm V S T j (1, a, 0, 0)
  | k2 (h : T = j) : Nm V S T j (2, 0, 0, 0)
  | k3 (a : Int) (h : Ox S T a 0 = j) : Nm V S T j (3, a, 0, 0)
  | k4 (a : Int) (h : Ox S T a 1 = j) : Nm V S T j (4, a, 0, 0)
  | k5 (a : Int) (h : Ox S T a 2 = j) : Nm V S T j (5, a, 0, 0)
  | k6 (a b : Int) (h : Nx S T a b = j) : Nm V S T j (6, a, b, 0)
  | k7 (a b : Int) (h : Px S T a b = j) : Nm V S T j (7, a, b, 0)
  | k8 (a b : Int) (h : Hx V S T a b = j) : Nm V S T j (8, a, b, 0)
  | k9 (a b : Int) (h : Ex V S T a b = j) (h2 : Ex V S T b a = j) : Nm V S T j (9, a, b, 0)
  | k10 (a b : Int) (h : Fx V S T a b = j) (ha : I64 a) : Nm V S T j (10, a, b, 0)
def Ix (V S T base : Int) (xs : List N4) : Prop := ∀ (i : Nat) (x : N4), xs[i]? = some x → Nm V S T (base + i) x
theorem Ix.app {V S T b b' : Int} {xs ys : List N4} (h1 : Ix V S T b xs) (h2 : Ix V S T b' ys) (hb : b' = b + xs.length) : Ix V S T b (xs ++ ys) := by
  intro i x hi
  by_cases h : i < xs.length
  · rw [List.getElem?_append_left h] at hi; exact h1 i x hi
  · rw [List.getElem?_append_right (by omega)] at hi
    have := h2 _ x hi
    rw [show b' + ((i - xs.length : Nat) : Int) = b + i by omega] at this
    exact this
theorem Ix.nil {V S T b : Int} : Ix V S T b [] := fun i x h => by simp at h
theorem Ix.map {V S T b : Int} {k : Nat} {g : Nat → N4} (h : ∀ i, i < k → Nm V S T (b + i) (g i)) : Ix V S T b ((List.range k).map g) := by
  intro i x hi
  rw [List.getElem?_map] at hi
  cases hr : (List.range k)[i]? with
  | none => rw [hr] at hi; cases hi
  | some j =>
    rw [hr] at hi
    simp only [Option.map_some, Option.some.injEq] at hi
    subst hi
    have hk := (List.getElem?_eq_some_iff.1 hr).1
    rw [List.length_range] at hk
    rw [List.getElem?_range hk] at hr
    cases hr
    exact h _ hk
theorem fsum : ∀ n < 17, ∀ k < n, (k + 1) * (2 * n - (k + 1) - 1) / 2 = k * (2 * n - k - 1) / 2 + (n - 1 - k) := by decide +kernel
theorem ftot : ∀ n < 17, n * (2 * n - n - 1) / 2 = n * (n - 1) / 2 := by decide +kernel
variable {n l sn tn : Nat}
theorem cEd_len' (hn : n < 17) : ∀ k, k ≤ n → (cEd n k).length = k * (2 * n - k - 1) / 2 := by
  intro k
  induction k with
  | zero => intro _; simp [cEd]
  | succ k ih => intro hk; rw [cEd_s, List.length_append, ih (by omega), fsum n hn k (by omega)]; simp [cEr]
theorem cell_ix {nn : Nat} (hR : Rt n sn tn) (hl : Lv (n : Int) = l) (hnn : Nn n sn = nn) : Ix n sn tn 0 (cellL n sn tn l nn) ∧ (cellL n sn tn l nn).length = Cn n sn tn := by
  have r := hR
  unfold Rt at r
  have o := order hR
  have lv := Lv_le hR
  have cn := Cn_le hR
  have len1 : ∀ k, (cSl k).length = 7 * k := fun k => by
    induction k with
    | zero => rfl
    | succ k ih => rw [cSl_s, List.length_append, ih]; simp [slot7]; omega
  have len2 : ∀ k, (cHe l k).length = l * k := fun k => by
    induction k with
    | zero => rfl
    | succ k ih => rw [cHe_s, List.length_append, ih]; simp [cHr, Nat.mul_succ]
  have len3 := cEd_len' (n := n) (by omega)
  have len4 : ∀ k, (cFi k).length = 7 * k := fun k => by
    induction k with
    | zero => rfl
    | succ k ih => rw [cFi_s, List.length_append, ih]; simp [cFr, Nat.mul_succ]
  have a1 : Ix n sn tn 0 (cSt tn) := by
    refine Ix.map fun i hi => .k1 _ ?_ ⟨by omega, by omega⟩
    have := (sx_in (a := (i : Int) + 1) hR).1 (Bl_t.2 (by omega))
    omega
  have a2 : Ix n sn tn tn [(2, 0, 0, 0)] := by
    intro i x hi
    rcases i with _ | i
    · simp at hi; subst hi; exact .k2 (by simp)
    · simp at hi
  have ox : ∀ (k : Nat) (f : Int), k < sn → 0 ≤ f ∧ f < 7 → Ox sn tn k f = tn + 1 + k * 7 + f := fun k f hk hf => ((ox_in (a := (k : Int)) hR hf).1 (Bl_t.2 (by omega))).1
  have a3 : ∀ k, k ≤ sn → Ix n sn tn (tn + 1) (cSl k) := by
    intro k
    induction k with
    | zero => intro _; exact Ix.nil
    | succ k ih =>
      intro hk
      rw [cSl_s]
      refine (ih (by omega)).app (b' := tn + 1 + 7 * k) ?_ (by rw [len1]; simp)
      have b0 : Bl (0 : Int) 2 = true := rfl
      have b1 : Bl (1 : Int) 2 = true := rfl
      intro i x hi
      rcases i with _ | _ | _ | _ | _ | _ | _ | i
      · simp [slot7] at hi; subst hi; exact .k3 _ (by rw [ox k 0 (by omega) (by omega)]; simp; omega)
      · simp [slot7] at hi; subst hi; exact .k4 _ (by rw [ox k 1 (by omega) (by omega)]; simp; omega)
      · simp [slot7] at hi; subst hi; exact .k5 _ (by rw [ox k 2 (by omega) (by omega)]; simp; omega)
      · simp [slot7] at hi; subst hi; exact .k6 _ _ (by unfold Nx; rw [b0]; simp only [cond_true]; rw [ox k (3 + 0) (by omega) (by omega)]; simp; omega)
      · simp [slot7] at hi; subst hi; exact .k6 _ _ (by unfold Nx; rw [b1]; simp only [cond_true]; rw [ox k (3 + 1) (by omega) (by omega)]; simp; omega)
      · simp [slot7] at hi; subst hi; exact .k7 _ _ (by unfold Px; rw [b0]; simp only [cond_true]; rw [ox k (5 + 0) (by omega) (by omega)]; simp; omega)
      · simp [slot7] at hi; subst hi; exact .k7 _ _ (by unfold Px; rw [b1]; simp only [cond_true]; rw [ox k (5 + 1) (by omega) (by omega)]; simp; omega)
      · simp [slot7] at hi
  have a4 : ∀ k, k ≤ n → Ix n sn tn (Hd sn tn) (cHe l k) := by
    intro k
    induction k with
    | zero => intro _; exact Ix.nil
    | succ k ih =>
      intro hk
      rw [cHe_s]
      refine (ih (by omega)).app (b' := Hd sn tn + l * k) (Ix.map fun i hi => .k8 _ _ ?_) (by rw [len2]; simp)
      have := ((hx_in (a := (k : Int)) (b := (i : Int)) hR).1 (by rw [Bool.and_eq_true]; exact ⟨Bl_t.2 (by omega), Bl_t.2 (by omega)⟩)).1
      rw [this, hl, Int.mul_comm]
  have a5 : ∀ k, k ≤ n → Ix n sn tn (Eg n sn tn) (cEd n k) := by
    intro k
    induction k with
    | zero => intro _; exact Ix.nil
    | succ k ih =>
      intro hk
      rw [cEd_s]
      refine (ih (by omega)).app (b' := Eg n sn tn + (cEd n k).length) (Ix.map fun d hd => ?_) rfl
      have e1 : mn (k : Int) ((k + 1 + d : Nat) : Int) = k := by unfold mn; rw [if_neg (by omega)]
      have e2 : mx (k : Int) ((k + 1 + d : Nat) : Int) = ((k + 1 + d : Nat) : Int) := by unfold mx; rw [if_pos (by omega)]
      have e3 : mn ((k + 1 + d : Nat) : Int) (k : Int) = k := by unfold mn; rw [if_pos (by omega)]
      have e4 : mx ((k + 1 + d : Nat) : Int) (k : Int) = ((k + 1 + d : Nat) : Int) := by unfold mx; rw [if_neg (by omega)]
      have g1 := ((ex_in (a := (k : Int)) (b := ((k + 1 + d : Nat) : Int)) hR).1 (eOk_t.2 (by rw [e1, e2]; omega))).1
      have g2 := ((ex_in (a := ((k + 1 + d : Nat) : Int)) (b := (k : Int)) hR).1 (eOk_t.2 (by rw [e3, e4]; omega))).1
      rw [e1, e2] at g1
      rw [e3, e4] at g2
      have q : eI n k ((k + 1 + d : Nat) : Int) = ((cEd n k).length : Int) + d := by
        rw [eI_nat (by omega) (by omega), len3 k (by omega)]
        unfold eN
        omega
      exact .k9 _ _ (by rw [g1, q]; omega) (by rw [g2, q]; omega)
  have a6 : ∀ k, k ≤ nn → Ix n sn tn (Nd n sn tn) (cFi k) := by
    intro k
    induction k with
    | zero => intro _; exact Ix.nil
    | succ k ih =>
      intro hk
      rw [cFi_s]
      refine (ih (by omega)).app (b' := Nd n sn tn + 7 * k) (Ix.map fun f hf => .k10 _ _ ?_ ⟨by omega, by omega⟩) (by rw [len4]; simp)
      have := ((fx_in (a := ((k + 1 : Nat) : Int)) (b := (f : Int)) hR).1 (by rw [Bool.and_eq_true]; exact ⟨Bl_t.2 (by omega), Bl_t.2 (by omega)⟩)).1
      rw [this]; omega
  have hd : Hd sn tn = tn + 1 + sn * 7 := rfl
  have eg : Eg n sn tn = Hd sn tn + n * l := by unfold Eg; rw [hl]
  have nd : Nd n sn tn = Eg n sn tn + ((n * (n - 1) / 2 : Nat) : Int) := by
    unfold Nd
    have e : ((n : Int) * (n - 1)) = ((n * (n - 1) : Nat) : Int) := by rw [Int.natCast_mul, Int.natCast_sub (by omega)]; rfl
    rw [e]; omega
  have cnn : Cn n sn tn = Nd n sn tn + nn * 7 := by unfold Cn; rw [hnn]
  have e5 : (cEd n n).length = n * (n - 1) / 2 := by rw [len3 n (Nat.le_refl _), ftot n (by omega)]
  have lst : (cSt tn).length = tn := by simp [cSt]
  refine ⟨((((a1.app a2 (by rw [lst]; omega)).app (a3 sn (Nat.le_refl _)) ?_).app (a4 n (Nat.le_refl _)) ?_).app (a5 n (Nat.le_refl _)) ?_).app (a6 nn (Nat.le_refl _)) ?_, ?_⟩
  · rw [List.length_append, lst]; simp
  · simp only [List.length_append, lst, len1, List.length_cons, List.length_nil]; omega
  · simp only [List.length_append, lst, len1, len2, List.length_cons, List.length_nil]; rw [eg, hd]; simp only [Int.natCast_add, Int.natCast_mul]; rw [Int.mul_comm (n : Int)]; omega
  · simp only [List.length_append, lst, len1, len2, e5, List.length_cons, List.length_nil]; rw [nd, eg, hd]; simp only [Int.natCast_add, Int.natCast_mul]; rw [Int.mul_comm (n : Int)]; omega
  · unfold cellL; simp only [List.length_append, lst, len1, len2, len4, e5, List.length_cons, List.length_nil]; rw [cnn, nd, eg, hd]; simp only [Int.natCast_add, Int.natCast_mul]; rw [Int.mul_comm (n : Int)]; omega
end Go.Det.E
