/- Memory as it is at first: what is stored, cell by cell. -/
import Derived.Test.YtodeenahpoobkaaQ0
import Derived.Test.YtodeenahpoobkaaL12
set_option autoImplicit false
set_option linter.unusedVariables false
set_option linter.unusedSimpArgs false
namespace Go.Det.E
open Go.Proofs Go.Det
variable {n : Nat} {l : List Int} {V S T p x q i : Int}
/-- The cells of a node, from q on. -/
def ndL (l : List Int) (q p lone lock : Int) (sh : Bool) : List Int :=
  let l3 := putI (putI (putI l (q + 5) p) (q + 3) 0) (q + 4) 0
  let l4 := bif sh then chL l3 (q + 2) (olW 1 0 (getI l3 (q + 2))) 0 1 0 else putI l3 (q + 2) 0
  let l5 := putI l4 (q + 6) lone
  putI (chL l5 (q + 2) (getI l5 (q + 2) % 65536) (getI l5 (q + 2) % 65536) 0 0) q lock
theorem chL_len (l : List Int) (x o n t g : Int) : (chL l x o n t g).length = l.length := by
  unfold chL
  cases W.rightB (getI l x) && W.rightW o n t g
  · rfl
  · exact putI_len _ _ _
theorem ndL_len (l : List Int) (q p lone lock : Int) (sh : Bool) : (ndL l q p lone lock sh).length = l.length := by
  unfold ndL
  simp only [putI_len, chL_len]
  cases sh <;> simp only [cond_true, cond_false, putI_len, chL_len]
theorem nd_get {lone lock : Int} {sh : Bool} (h0 : getI l (q + 2) = 0) (hq : 0 ≤ q) (hq6 : q + 6 < l.length) (i : Int) :
    getI (ndL l q p lone lock sh) i = if i = q then lock else if i = q + 5 then p else if i = q + 6 then lone else if i = q + 2 ∨ i = q + 3 ∨ i = q + 4 then 0 else getI l i := by
  have r0 : W.rightB 0 = true := by decide +kernel
  have r1 : W.rightW (olW 1 0 0) 0 1 0 = true := by decide +kernel
  have b1 : W.bitsW (olW 1 0 0) 0 1 0 = 4294967296 := by decide +kernel
  have r2 : W.rightB 4294967296 = true := by decide +kernel
  have r3 : W.rightW 0 0 0 0 = true := by decide +kernel
  have b3 : W.bitsW 0 0 0 0 = 0 := by decide +kernel
  have v3 : getI (putI (putI (putI l (q + 5) p) (q + 3) 0) (q + 4) 0) (q + 2) = 0 := by
    rw [getI_else (by omega), getI_else (by omega), getI_else (by omega), h0]
  unfold ndL
  cases sh
  · simp only [cond_false]
    generalize hl4 : putI (putI (putI (putI l (q + 5) p) (q + 3) 0) (q + 4) 0) (q + 2) 0 = l4
    have e4 : l4.length = l.length := by rw [← hl4]; simp only [putI_len]
    have v5 : getI (putI l4 (q + 6) lone) (q + 2) = 0 := by
      rw [getI_else (by omega), ← hl4, getI_same ⟨by omega, by simp only [putI_len]; omega⟩]
    have c5 : chL (putI l4 (q + 6) lone) (q + 2) (0 % 65536) (0 % 65536) 0 0 = putI (putI l4 (q + 6) lone) (q + 2) 0 := by
      unfold chL
      rw [v5]
      simp only [Int.zero_emod, r0, r3, b3, Bool.and_self, cond_true]
    rw [v5, c5, ← hl4]
    simp only [getI_put, putI_len]
    repeat' split
    all_goals first | rfl | omega
  · simp only [cond_true]
    rw [v3]
    have c4 : chL (putI (putI (putI l (q + 5) p) (q + 3) 0) (q + 4) 0) (q + 2) (olW 1 0 0) 0 1 0 = putI (putI (putI (putI l (q + 5) p) (q + 3) 0) (q + 4) 0) (q + 2) 4294967296 := by
      unfold chL
      rw [v3]
      simp only [r0, r1, b1, Bool.and_self, cond_true]
    rw [c4]
    generalize hl4 : putI (putI (putI (putI l (q + 5) p) (q + 3) 0) (q + 4) 0) (q + 2) 4294967296 = l4
    have e4 : l4.length = l.length := by rw [← hl4]; simp only [putI_len]
    have v5 : getI (putI l4 (q + 6) lone) (q + 2) = 4294967296 := by
      rw [getI_else (by omega), ← hl4, getI_same ⟨by omega, by simp only [putI_len]; omega⟩]
    have m5 : (4294967296 : Int) % 65536 = 0 := by decide
    have c5 : chL (putI l4 (q + 6) lone) (q + 2) 0 0 0 0 = putI (putI l4 (q + 6) lone) (q + 2) 0 := by
      unfold chL
      rw [v5]
      simp only [r2, r3, b3, Bool.and_self, cond_true]
    rw [v5, m5, c5, ← hl4]
    simp only [getI_put, putI_len]
    repeat' split
    all_goals first | rfl | omega
/-- What a field of a node is at first. -/
def loneV (V x : Int) : Int := if x - 1 < Lv V * V then 65537 else 1
def lockV (V x : Int) : Int := if x - 1 < V then 0 else 65535
def fv (V x p f : Int) : Int := if f = 0 then lockV V x else if f = 5 then p else if f = 6 then loneV V x else 0
/-- Memory behind the first nodes. -/
def ndsL (V S T : Int) (sh : Int → Bool) (pr : Int → Int) (l : List Int) : Nat → List Int
  | 0 => l
  | k + 1 => ndL (ndsL V S T sh pr l k) (Nd V S T + (k : Int) * 7) (pr ((k : Int) + 1)) (loneV V ((k : Int) + 1)) (lockV V ((k : Int) + 1)) (sh ((k : Int) + 1))
theorem ndsL_len (sh : Int → Bool) (pr : Int → Int) : ∀ k, (ndsL V S T sh pr l k).length = l.length := by
  intro k
  induction k with
  | zero => rfl
  | succ k ih => rw [ndsL, ndL_len, ih]
theorem nds_get (hR : Rt V S T) (sh : Int → Bool) (pr : Int → Int) (hl : (l.length : Int) = Cn V S T) (hz : ∀ i, Nd V S T ≤ i → getI l i = 0) : ∀ k : Nat, (k : Int) ≤ Nn V S → ∀ i,
    getI (ndsL V S T sh pr l k) i = if Nd V S T ≤ i ∧ i < Nd V S T + (k : Int) * 7 then fv V ((i - Nd V S T) / 7 + 1) (pr ((i - Nd V S T) / 7 + 1)) ((i - Nd V S T) % 7) else getI l i := by
  have cn : Cn V S T = Nd V S T + Nn V S * 7 := rfl
  have nd := (order hR)
  intro k
  induction k with
  | zero =>
    intro _ i
    rw [if_neg (by omega)]; rfl
  | succ k ih =>
    intro hk i
    have ih := ih (by omega)
    rw [ndsL, nd_get (by rw [ih, if_neg (by omega), hz _ (by omega)]) (by omega) (by rw [ndsL_len]; omega)]
    by_cases hi : Nd V S T + (k : Int) * 7 ≤ i ∧ i < Nd V S T + (k : Int) * 7 + 7
    · have e1 : (i - Nd V S T) / 7 = k := by omega
      have e2 : getI (ndsL V S T sh pr l k) i = 0 := by rw [ih, if_neg (by omega), hz i (by omega)]
      have e3 : Nd V S T ≤ i ∧ i < Nd V S T + ((k + 1 : Nat) : Int) * 7 := ⟨by omega, by omega⟩
      rw [if_pos e3, e1, e2]
      unfold fv
      repeat' split
      all_goals first | rfl | omega
    · have n1 : ¬ i = Nd V S T + (k : Int) * 7 := by omega
      have n2 : ¬ i = Nd V S T + (k : Int) * 7 + 5 := by omega
      have n3 : ¬ i = Nd V S T + (k : Int) * 7 + 6 := by omega
      have n4 : ¬ (i = Nd V S T + (k : Int) * 7 + 2 ∨ i = Nd V S T + (k : Int) * 7 + 3 ∨ i = Nd V S T + (k : Int) * 7 + 4) := by omega
      rw [if_neg n1, if_neg n2, if_neg n3, if_neg n4, ih]
      by_cases h2 : Nd V S T ≤ i ∧ i < Nd V S T + (k : Int) * 7
      · have h3 : Nd V S T ≤ i ∧ i < Nd V S T + ((k + 1 : Nat) : Int) * 7 := ⟨h2.1, by omega⟩
        rw [if_pos h2, if_pos h3]
      · have h3 : ¬ (Nd V S T ≤ i ∧ i < Nd V S T + ((k + 1 : Nat) : Int) * 7) := by omega
        rw [if_neg h2, if_neg h3]
/-- The cells ahead of the nodes. -/
def hd0 (T : Int) (n : Nat) (i : Int) : Int :=
  if i = T then (if n = 0 then 0 else 1)
  else if T + 1 ≤ i ∧ i < T + 1 + (n : Int) * 7 ∧ (i - T - 1) % 7 = 0 ∧ (i - T - 1) / 7 + 1 < n then (i - T - 1) / 7 + 2 else 0
theorem ini_all (hl : T + 1 + (n : Int) * 7 ≤ l.length) (hT : 1 ≤ T) (hz : ∀ i, getI l i = 0) : ∀ k, k ≤ n → ∀ i, getI (ini T n l k) i = if T + 1 ≤ i ∧ i < T + 1 + (k : Int) * 7 ∧ (i - T - 1) % 7 = 0 then (i - T - 1) / 7 + 2 else 0 := by
  intro k
  induction k with
  | zero => intro _ i; rw [if_neg (by omega)]; exact hz i
  | succ k ih =>
    intro hk i
    rw [ini, getI_put, ini_len, ih (by omega), Ox_in (by omega) (by omega)]
    by_cases h : T + 1 + (k : Int) * 7 = i
    · rw [if_pos ⟨h, by omega, by omega⟩, if_pos ⟨by omega, by omega, by omega⟩]; omega
    · rw [if_neg fun q => h q.1]
      by_cases h2 : T + 1 ≤ i ∧ i < T + 1 + (k : Int) * 7 ∧ (i - T - 1) % 7 = 0
      · rw [if_pos h2, if_pos ⟨h2.1, by omega, h2.2.2⟩]
      · rw [if_neg h2, if_neg (by omega)]
theorem init_all (hl : T + 1 + (n : Int) * 7 ≤ l.length) (hT : 1 ≤ T) (hz : ∀ i, getI l i = 0) (i : Int) : getI (initL T n l) i = hd0 T n i := by
  unfold initL hd0
  by_cases hn : n = 0
  · rw [if_pos hn, getI_put, hz i, hn]
    simp only [if_true]
    repeat' split
    all_goals first | rfl | omega
  · rw [if_neg hn, getI_put, getI_put, putI_len, ini_len, ini_all hl hT hz n (Nat.le_refl _) i, Ox_in (by omega) (by omega), if_neg hn]
    repeat' split
    all_goals first | rfl | omega
end Go.Det.E
