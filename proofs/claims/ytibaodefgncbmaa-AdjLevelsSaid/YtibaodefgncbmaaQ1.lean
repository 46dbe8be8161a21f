/- What isn't there has no node, and no cell. -/
import Derived.Test.YtibaodefgncbmaaQ0
import Derived.Test.YtibaodefgncbmaaDetZ
import Derived.Test.YtibaodefgncbmaaE5
set_option autoImplicit false
set_option linter.unusedVariables false
set_option linter.unusedSimpArgs false
namespace Go.Det.E
open Go.Proofs Go.Det
attribute [local congr] bind_c cond_ctx
variable {md : Md} {h : Heap} {b : Nat} {V S T L : Int}
/-- The edges' vertices, in order. -/
def pairs (V : Nat) : List (Nat × Nat) := (List.range V).flatMap fun a => (List.range (V - 1 - a)).map fun d => (a, a + 1 + d)
def eN (V a b : Nat) : Nat := a * (2 * V - a - 1) / 2 + b - a - 1
theorem eI_nat {V a b : Nat} (h : a < b) (hb : b < V) : eI V a b = (eN V a b : Nat) := by
  unfold eI eN
  have : (2 * (V : Int) - a - 1) = ((2 * V - a - 1 : Nat) : Int) := by omega
  rw [this, ← Int.natCast_mul]
  generalize a * (2 * V - a - 1) = z
  omega
set_option maxRecDepth 100000 in
theorem pairs_all : ∀ V < 17, ∀ b < V, ∀ a < b, (pairs V)[eN V a b]? = some (a, b) := by decide +kernel
theorem pairs_len : ∀ V < 17, (pairs V).length = V * (V - 1) / 2 := by decide +kernel
theorem eI_le {V a b : Int} (hV : 1 ≤ V ∧ V ≤ 16) (ha : 0 ≤ a) (hab : a < b) (hb : b < V) : 0 ≤ eI V a b ∧ eI V a b < V * (V - 1) / 2 := by
  obtain ⟨n, rfl⟩ : ∃ n : Nat, V = n := ⟨V.toNat, by omega⟩
  obtain ⟨x, rfl⟩ : ∃ n : Nat, a = n := ⟨a.toNat, by omega⟩
  obtain ⟨y, rfl⟩ : ∃ n : Nat, b = n := ⟨b.toNat, by omega⟩
  rw [eI_nat (by omega) (by omega)]
  have h1 := pairs_all n (by omega) y (by omega) x (by omega)
  have h2 := (List.getElem?_eq_some_iff.1 h1).1
  rw [pairs_len n (by omega)] at h2
  have e : ((n : Int) * (n - 1)) = ((n * (n - 1) : Nat) : Int) := by rw [Int.natCast_mul, Int.natCast_sub (by omega)]; rfl
  rw [e]
  omega
theorem eI_inj {V a b c d : Int} (hV : 1 ≤ V ∧ V ≤ 16) (ha : 0 ≤ a) (hab : a < b) (hb : b < V) (hc : 0 ≤ c) (hcd : c < d) (hd : d < V) (h : eI V a b = eI V c d) : a = c ∧ b = d := by
  obtain ⟨n, rfl⟩ : ∃ n : Nat, V = n := ⟨V.toNat, by omega⟩
  obtain ⟨x, rfl⟩ : ∃ n : Nat, a = n := ⟨a.toNat, by omega⟩
  obtain ⟨y, rfl⟩ : ∃ n : Nat, b = n := ⟨b.toNat, by omega⟩
  obtain ⟨z, rfl⟩ : ∃ n : Nat, c = n := ⟨c.toNat, by omega⟩
  obtain ⟨w, rfl⟩ : ∃ n : Nat, d = n := ⟨d.toNat, by omega⟩
  rw [eI_nat (by omega) (by omega), eI_nat (by omega) (by omega)] at h
  have h1 := pairs_all n (by omega) y (by omega) x (by omega)
  have h2 := pairs_all n (by omega) w (by omega) z (by omega)
  have : eN n x y = eN n z w := by omega
  rw [this, h2] at h1
  simp at h1
  omega
theorem ox_in {V S T a f : Int} (hR : Rt V S T) (hf : 0 ≤ f ∧ f < 7) : (Bl a S = true → Ox S T a f = T + 1 + a * 7 + f ∧ T + 1 ≤ Ox S T a f ∧ Ox S T a f < Hd S T) ∧ (Bl a S = false → Ox S T a f = -1) := by
  unfold Ox Hd
  have r := hR
  unfold Rt at r
  refine ⟨fun h => ?_, fun h => by rw [h]; rfl⟩
  rw [h]; have := Bl_t.1 h; simp only [cond_true, true_and]; omega
theorem hx_in {V S T a b : Int} (hR : Rt V S T) : ((Bl a V && Bl b (Lv V)) = true → Hx V S T a b = Hd S T + a * Lv V + b ∧ Hd S T ≤ Hx V S T a b ∧ Hx V S T a b < Eg V S T) ∧ ((Bl a V && Bl b (Lv V)) = false → Hx V S T a b = -1) := by
  unfold Hx Eg
  have lv := Lv_le hR
  refine ⟨fun h => ?_, fun h => by rw [h]; rfl⟩
  rw [h]
  simp only [Bool.and_eq_true] at h
  have h1 := Bl_t.1 h.1
  have h2 := Bl_t.1 h.2
  simp only [cond_true, true_and]
  have := Int.mul_nonneg h1.1 (show 0 ≤ Lv V by omega)
  have : (a + 1) * Lv V ≤ V * Lv V := Int.mul_le_mul_of_nonneg_right (by omega) (by omega)
  rw [Int.add_mul] at this
  omega
def eOk (V a b : Int) : Bool := !((mn a b == mx a b) || (!Bl (mn a b) V || !Bl (mx a b) V))
theorem eOk_t {V a b : Int} : eOk V a b = true ↔ a ≠ b ∧ 0 ≤ mn a b ∧ mn a b < mx a b ∧ mx a b < V := by
  unfold eOk
  have : mn a b = mx a b ↔ a = b := by unfold mn mx; split <;> split <;> omega
  have : mn a b ≤ mx a b := by unfold mn mx; split <;> split <;> omega
  simp only [Bool.not_eq_true', Bool.or_eq_false_iff, Bool.not_eq_false', beq_eq_false_iff_ne, Bl_t]
  omega
theorem ex_in {V S T a b : Int} (hR : Rt V S T) : (eOk V a b = true → Ex V S T a b = Eg V S T + eI V (mn a b) (mx a b) ∧ Eg V S T ≤ Ex V S T a b ∧ Ex V S T a b < Nd V S T) ∧ (eOk V a b = false → Ex V S T a b = -1) := by
  refine ⟨fun h => ?_, fun h => ?_⟩
  · have h1 := eOk_t.1 h
    unfold eOk at h
    rw [Bool.not_eq_true'] at h
    unfold Ex
    rw [h]
    have := eI_le hR.1 h1.2.1 h1.2.2.1 h1.2.2.2
    unfold Nd
    simp only [cond_false, true_and]
    omega
  · unfold eOk at h
    rw [Bool.not_eq_false'] at h
    unfold Ex
    rw [h]; rfl
theorem fx_in {V S T a b : Int} (hR : Rt V S T) : ((Bl (a - 1) (Nn V S) && Bl b 7) = true → Fx V S T a b = Nd V S T + (a - 1) * 7 + b ∧ Nd V S T ≤ Fx V S T a b ∧ Fx V S T a b < Cn V S T) ∧ ((Bl (a - 1) (Nn V S) && Bl b 7) = false → Fx V S T a b = -1) := by
  unfold Fx Cn
  refine ⟨fun h => ?_, fun h => by rw [h]; rfl⟩
  rw [h]
  simp only [Bool.and_eq_true] at h
  have h1 := Bl_t.1 h.1
  have h2 := Bl_t.1 h.2
  simp only [cond_true, true_and]
  omega
theorem order {V S T : Int} (hR : Rt V S T) : 0 < T ∧ T < Hd S T ∧ Hd S T ≤ Eg V S T ∧ Eg V S T ≤ Nd V S T ∧ Nd V S T ≤ Cn V S T ∧ Cn V S T ≤ 5000 ∧ 1 ≤ Lv V ∧ Lv V ≤ 5 ∧ Hd S T = T + 1 + S * 7 := by
  have e := Eg_le hR
  have n := Nd_le hR
  have c := Cn_le hR
  have lv := Lv_le hR
  have cn : Cn V S T = Nd V S T + Nn V S * 7 := rfl
  have r := hR
  unfold Rt at r
  omega
end Go.Det.E
/- The nodes of a lay, by the code and by the document. -/
namespace Go.Det.E
open Go.Proofs Go.Det
attribute [local congr] bind_c cond_c
/-- What a thing's cells are. -/
abbrev thC (arc : Bool) (level vertex slot side : Int) : List Value := [(Value.bool arc), (Value.int .i64 level), (Value.int .i64 vertex), (Value.int .i64 slot), (Value.int .i64 side)]
def thAt (V y : Int) : List Value := if y < Lv V * V then thC false (y / V) (y % V) 0 0 else thC true ((y - Lv V * V) % (2 * Lv V) / 2) 0 ((y - Lv V * V) / (2 * Lv V)) ((y - Lv V * V) % 2)
def thing (V S x : Int) : Value := bif Bl (x - 1) (Nn V S) then (Value.tuple #[(Value.agg (List.toArray (thAt V (x - 1)))), (Value.bool true)]) else (Value.tuple #[(Value.agg (List.toArray (thC false 0 0 0 0))), (Value.bool false)])
theorem b34a {α : Type} {a b : Int} (k : Value → Option α) : aBuild Try.prog 102 [(1, (Value.int .i64 a)), (2, (Value.int .i64 b))] k = k ((Value.agg (List.toArray (thC false a b 0 0)))) := by kernel_rfl
theorem b34b {α : Type} {a b c : Int} (k : Value → Option α) : aBuild Try.prog 102 [(0, (Value.bool true)), (3, (Value.int .i64 a)), (1, (Value.int .i64 b)), (4, (Value.int .i64 c))] k = k ((Value.agg (List.toArray (thC true b 0 a c)))) := by kernel_rfl
theorem node_s (md : Md) (h : Heap) {V S T x : Int} (hR : Rt V S T) (hx : I64 x) : C md 68 [(Value.agg #[(Value.int .i64 V), (Value.int .i64 S), (Value.int .i64 T)]), (Value.int .i64 x)] h = some (thing V S x, h) := by
  rw [C, call_eq, F68_eq]
  unfold F68 thing
  have l := Lv_le hR
  have nl := Nn_le hR
  have nn : Nn V S = Lv V * V + S * (2 * Lv V) := rfl
  have r := hR
  unfold Rt at r
  have p := Bl_pred (n := Nn V S) hx (by omega)
  cases h1 : Bl (x - 1) (Nn V S)
  · rw [h1] at p
    have s := fun (h : Heap) (k : Heap → Option (Value × Heap)) => st_N ⟨0, 0⟩ 5 1 0 (thC false 0 0 0 0) h k rfl rfl
    unfold thC at s
    simp only [go_sem, Nat.reduceAdd, Nat.reduceLeDiff, Nat.reduceMul, Int.reduceBEq, Int.reduceBNe, Int.reduceLT, Int.reduceLE, Int.reduceGT, nodes_s _ _ hR, bel_s, p, s, thC]
  · rw [h1] at p
    have h1' := Bl_t.1 h1
    have w1 : IntKind.wrap .i64 (x - 1) = x - 1 := wi (by omega) (by omega)
    have w2 : IntKind.wrap .i64 (Lv V * V) = Lv V * V := wi (by omega) (by omega)
    rw [w1] at p
    have q : ∀ a b : Int, 0 ≤ a → a < 100000 → 1 ≤ b → intOp .quo a b .i64 = some ((Value.int .i64 (a / b))) := fun a b h0 h2 h3 => by
      have : b ≠ 0 := by omega
      simp only [intOp, this, if_false]
      rw [Int.tdiv_eq_ediv_of_nonneg h0, wi (by have := Int.ediv_nonneg h0 (show (0:Int) ≤ b by omega); omega) (by have := Int.ediv_le_self b h0; omega)]
    have m : ∀ a b : Int, 0 ≤ a → 1 ≤ b → intOp .rem a b .i64 = some ((Value.int .i64 (a % b))) := fun a b h0 h3 => by
      have : b ≠ 0 := by omega
      simp only [intOp, this, if_false]
      rw [Int.tmod_eq_emod_of_nonneg h0]
    by_cases hlt : x - 1 < Lv V * V
    · have s := fun (h : Heap) (k : Heap → Option (Value × Heap)) => st_N ⟨0, 0⟩ 5 1 0 (thC false ((x - 1) / V) ((x - 1) % V) 0 0) h k rfl rfl
      have e : thAt V (x - 1) = thC false ((x - 1) / V) ((x - 1) % V) 0 0 := by unfold thAt; rw [if_pos hlt]
      have q1 := q (x - 1) V (by omega) (by omega) (by omega)
      have m1 := m (x - 1) V (by omega) (by omega)
      rw [e]
      simp only [go_sem, Nat.reduceAdd, Nat.reduceLeDiff, Nat.reduceMul, Int.reduceBEq, Int.reduceBNe, Int.reduceLT, Int.reduceLE, Int.reduceGT, nodes_s _ _ hR, bel_s, p, w1, levels_s _ _ hR, w2, hlt, q1, m1, b34a, s]
    · have e : thAt V (x - 1) = thC true ((x - 1 - Lv V * V) % (2 * Lv V) / 2) 0 ((x - 1 - Lv V * V) / (2 * Lv V)) ((x - 1 - Lv V * V) % 2) := by unfold thAt; rw [if_neg hlt]
      have s := fun (h : Heap) (k : Heap → Option (Value × Heap)) => st_N ⟨0, 0⟩ 5 1 0 (thC true ((x - 1 - Lv V * V) % (2 * Lv V) / 2) 0 ((x - 1 - Lv V * V) / (2 * Lv V)) ((x - 1 - Lv V * V) % 2)) h k rfl rfl
      have w3 : IntKind.wrap .i64 (x - 1 - Lv V * V) = x - 1 - Lv V * V := wi (by omega) (by omega)
      have q1 := q (x - 1 - Lv V * V) (2 * Lv V) (by omega) (by omega) (by omega)
      have m1 := m (x - 1 - Lv V * V) (2 * Lv V) (by omega) (by omega)
      have m2 : Int.tmod (x - 1 - Lv V * V) 2 = (x - 1 - Lv V * V) % 2 := Int.tmod_eq_emod_of_nonneg (by omega)
      have g0 : 0 ≤ (x - 1 - Lv V * V) % (2 * Lv V) := Int.emod_nonneg _ (by omega)
      have g1 : (x - 1 - Lv V * V) % (2 * Lv V) < 2 * Lv V := Int.emod_lt_of_pos _ (by omega)
      have t : Int.tdiv ((x - 1 - Lv V * V) % (2 * Lv V)) 2 = (x - 1 - Lv V * V) % (2 * Lv V) / 2 := Int.tdiv_eq_ediv_of_nonneg (by omega)
      have w4 : IntKind.wrap .i64 ((x - 1 - Lv V * V) % (2 * Lv V) / 2) = (x - 1 - Lv V * V) % (2 * Lv V) / 2 := wi (by omega) (by omega)
      have q2 := fun (kk : Value → Option (Value × Heap)) => aBin_quo (P := Try.prog) (ty := 3) (kd := .i64) (a := (x - 1 - Lv V * V) % (2 * Lv V)) (b := 2) (k := kk) (by decide)
      rw [e]
      simp only [go_sem, Nat.reduceAdd, Nat.reduceLeDiff, Nat.reduceMul, Int.reduceBEq, Int.reduceBNe, Int.reduceLT, Int.reduceLE, Int.reduceGT, nodes_s _ _ hR, arcs_s _ _ hR, bel_s, p, w1, levels_s _ _ hR, w2, hlt, w3, q1, m1, m2, q2, t, w4]
      rw [b34b]
      simp only [go_sem, Nat.reduceAdd, Nat.reduceLeDiff, Nat.reduceMul, Int.reduceBEq, Int.reduceBNe, Int.reduceLT, Int.reduceLE, Int.reduceGT, s]
end Go.Det.E

/- The document's nodes. -/
namespace Go.Det.E
open Go.Proofs Go.Det
attribute [local congr] bind_c cond_c
variable {md : Md} {n0 b0 : Nat} {S T : Int} {n l : Nat}
end Go.Det.E

/- The document's cells. -/
namespace Go.Det.E
open Go.Proofs Go.Det
attribute [local congr] bind_c cond_c
abbrev N4 := Int × Int × Int × Int
variable {md : Md} {n0 b0 : Nat} {n l sn tn : Nat}
end Go.Det.E

/- The document's cells: all of them. -/
namespace Go.Det.E
open Go.Proofs Go.Det
attribute [local congr] bind_c cond_c
variable {md : Md} {n0 b0 : Nat} {n l sn tn : Nat}
theorem _root_.Go.Det.SlO.old {ε : Type} {h h' : Heap} {n0 sz : Nat} {enc : ε → List Value} {v : Value} {xs : List ε} (S : SlO h n0 sz enc v xs) (O : Old h.length h h') : SlO h' n0 sz enc v xs :=
  ⟨S.sl.heap fun hb => O.old _ hb, S.own.imp id fun ⟨h1, cs, h2⟩ => ⟨h1, cs, (O.old _ (List.getElem?_eq_some_iff.1 h2).1).trans h2⟩⟩
end Go.Det.E

/- The cells of any lay are the document's. -/
namespace Go.Det.E
open Go.Proofs Go.Det
attribute [local congr] bind_c cond_c
/-- A cell's name is that of a number. -/
inductive Nm (V S T j : Int) : N4 → Prop
  | k1 (a : Int) (h : Sx T a = j) (ha : I64 a) : Nm V S T j (1, a, 0, 0)
  | k2 (h : T = j) : Nm V S T j (2, 0, 0, 0)
  | k3 (a : Int) (h : Ox S T a 0 = j) : Nm V S T j (3, a, 0, 0)
  | k4 (a : Int) (h : Ox S T a 1 = j) : Nm V S T j (4, a, 0, 0)
  | k5 (a : Int) (h : Ox S T a 2 = j) : Nm V S T j (5, a, 0, 0)
  | k6 (a b : Int) (h : Nx S T a b = j) : Nm V S T j (6, a, b, 0)
  | k7 (a b : Int) (h : Px S T a b = j) : Nm V S T j (7, a, b, 0)
  | k8 (a b : Int) (h : Hx V S T a b = j) : Nm V S T j (8, a, b, 0)
  | k9 (a b : Int) (h : Ex V S T a b = j) (h2 : Ex V S T b a = j) : Nm V S T j (9, a, b, 0)
  | k10 (a b : Int) (h : Fx V S T a b = j) (ha : I64 a) : Nm V S T j (10, a, b, 0)
def Ix (V S T base : Int) (xs : List N4) : Prop := ∀ (i : Nat) (x : N4), xs[i]? = some x → Nm V S T (base + i) x
theorem Ix.app {V S T b b' : Int} {xs ys : List N4} (h1 : Ix V S T b xs) (h2 : Ix V S T b' ys) (hb : b' = b + xs.length) : Ix V S T b (xs ++ ys) := by
  intro i x hi
  by_cases h : i < xs.length
  · rw [List.getElem?_append_left h] at hi; exact h1 i x hi
  · rw [List.getElem?_append_right (by omega)] at hi
    have := h2 _ x hi
    rw [show b' + ((i - xs.length : Nat) : Int) = b + i by omega] at this
    exact this
theorem Ix.nil {V S T b : Int} : Ix V S T b [] := fun i x h => by simp at h
theorem Ix.map {V S T b : Int} {k : Nat} {g : Nat → N4} (h : ∀ i, i < k → Nm V S T (b + i) (g i)) : Ix V S T b ((List.range k).map g) := by
  intro i x hi
  rw [List.getElem?_map] at hi
  cases hr : (List.range k)[i]? with
  | none => rw [hr] at hi; cases hi
  | some j =>
    rw [hr] at hi
    simp only [Option.map_some, Option.some.injEq] at hi
    subst hi
    have hk := (List.getElem?_eq_some_iff.1 hr).1
    rw [List.length_range] at hk
    rw [List.getElem?_range hk] at hr
    cases hr
    exact h _ hk
variable {n l sn tn : Nat}
end Go.Det.E

/- Memory as it is at first: what is stored, cell by cell. -/
namespace Go.Det.E
open Go.Proofs Go.Det
variable {n : Nat} {l : List Int} {V S T p x q i : Int}
end Go.Det.E

/- Nodes that are alone: what is stored. -/
namespace Go.Det.E
open Go.Proofs Go.Det
attribute [local congr] bind_c cond_c
variable {md : Md} {h hh : Heap} {a b n : Nat} {l c : List Int} {V S T x : Int}
def arcB (V x : Int) : Bool := !decide (x - 1 < Lv V * V)
def lvlB (V x : Int) : Int := if x - 1 < Lv V * V then (x - 1) / V else (x - 1 - Lv V * V) % (2 * Lv V) / 2
theorem thing_in (hx : Bl (x - 1) (Nn V S) = true) : ∃ vx sl sd, thing V S x = (Value.tuple #[(Value.agg (List.toArray (thC (arcB V x) (lvlB V x) vx sl sd))), (Value.bool true)]) := by
  unfold thing arcB lvlB
  rw [hx]
  simp only [cond_true, thAt]
  by_cases h : x - 1 < Lv V * V
  · exact ⟨_, _, _, by rw [if_pos h, if_pos h]; simp [h]; exact ⟨rfl, rfl, rfl⟩⟩
  · exact ⟨_, _, _, by rw [if_neg h, if_neg h]; simp [h]; exact ⟨rfl, rfl, rfl⟩⟩
theorem node_in (hR : Rt V S T) (hx : Bl (x - 1) (Nn V S) = true) : ∃ vx sl sd, ∀ (md : Md) (h : Heap), C md 68 [(Value.agg #[(Value.int .i64 V), (Value.int .i64 S), (Value.int .i64 T)]), (Value.int .i64 x)] h = some ((Value.tuple #[(Value.agg (List.toArray (thC (arcB V x) (lvlB V x) vx sl sd))), (Value.bool true)]), h) := by
  obtain ⟨vx, sl, sd, e⟩ := thing_in (V := V) (S := S) hx
  have h1 := Bl_t.1 hx
  have h2 := Cn_le hR
  exact ⟨vx, sl, sd, fun md h => by rw [node_s md h hR ⟨by omega, by omega⟩, e]⟩
theorem tput_e (hR : Rt V S T) (A : Ar h a b l c) (hro : md.ro ≤ a) (hrb : md.ro ≤ b) (hr : md.ro ≤ h.length) (hx : Bl (x - 1) (Nn V S) = true) (th tag f v : Int) :
    ∃ h' c', C md 52 [(Value.agg #[(Value.int .i64 V), (Value.int .i64 S), (Value.int .i64 T), ifA a, (Value.int .i64 th), (Value.int .i64 tag)]), (Value.int .i64 x), (Value.int .i64 f), (Value.int .i64 v)] h = some ((Value.tuple #[]), h') ∧ Ar h' a b (putI l (Fx V S T x f) (IntKind.wrap .u64 v)) c' ∧ Only a b h h' := by
  have la := lt_of A.ha
  have lb := lt_of A.hb
  have h1 := Bl_t.1 hx
  have h2 := Cn_le hR
  have fs := fun (m : Md) (h : Heap) => field_s m h (b := f) hR (a := x) ⟨by omega, by omega⟩
  obtain ⟨h3, e3, A3, o3⟩ := ps_x (md := ⟨md.ro, h.length⟩) (A.app [Blk.own [(Value.int .i64 V), (Value.int .i64 S), (Value.int .i64 T), ifA a, (Value.int .i64 th), (Value.int .i64 tag)]]) hro hrb (Fx V S T x f) (IntKind.wrap .u64 v)
  refine ⟨h3.take h.length, _, ?_, A3.take la lb, o3.take⟩
  rw [C, call_eq, F52_eq]
  unfold F52
  simp only [go_sem, Nat.reduceAdd, Nat.reduceLeDiff, Nat.reduceMul, Int.reduceBEq, Int.reduceBNe, Int.reduceLT, Int.reduceLE, Int.reduceGT, fs, okN_i, clI_store, e3]
theorem shown_e (hR : Rt V S T) (hx : Bl (x - 1) (Nn V S) = true) (mv : Value) (th tag : Int) (hr : md.ro ≤ h.length) : C md 66 [(Value.agg #[(Value.int .i64 V), (Value.int .i64 S), (Value.int .i64 T), mv, (Value.int .i64 th), (Value.int .i64 tag)]), (Value.int .i64 x)] h = some ((Value.bool (lvlB V x == 0)), h) := by
  obtain ⟨vx, sl, sd, e⟩ := node_in hR hx
  have s := fun (α : Type) (m : Md) (b : Nat) (h : Heap) (k : Heap → Option α) => st_N m 5 b 0 (thC (arcB V x) (lvlB V x) vx sl sd) h k rfl rfl
  unfold thC at s e
  have r2 : md.ro ≤ h.length + 1 := by omega
  rw [C, call_eq, F66_eq]
  unfold F66
  simp only [go_sem, Nat.reduceAdd, Nat.reduceLeDiff, Nat.reduceMul, Int.reduceBEq, Int.reduceBNe, Int.reduceLT, Int.reduceLE, Int.reduceGT, e, s, hr, r2]
end Go.Det.E

/- Memory as it is at first. -/
namespace Go.Det.E
open Go.Proofs Go.Det
attribute [local congr] bind_c cond_c
variable {md : Md} {h hh g : Heap} {a b n : Nat} {l c D : List Int} {V S T x : Int}
end Go.Det.E
