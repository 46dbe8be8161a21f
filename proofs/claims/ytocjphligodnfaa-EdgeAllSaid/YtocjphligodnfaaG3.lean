/- The cells of edges: plain law. -/
import Derived.Test.YtocjphligodnfaaG2
import Derived.Test.YtocjphligodnfaaL9
set_option autoImplicit false
set_option linter.unusedVariables false
set_option linter.unusedSimpArgs false
namespace Go.Det.E
open Go.Proofs Go.Det
/-- Cells that have just the edges of a list. -/
structure EI (V S T : Int) (l : List Int) (all : List One) : Prop where
  len : (l.length : Int) = Cn V S T
  each : ∀ x ∈ all, (0 ≤ x.s ∧ x.s < S) ∧ (0 ≤ x.u ∧ x.u < x.v ∧ x.v < V) ∧ (0 ≤ x.lv ∧ x.lv < Lv V) ∧ getI l (Ox S T x.s 1) = 256 * x.u + x.v ∧ getI l (Ox S T x.s 2) = x.lv ∧ getI l (Ex V S T x.u x.v) = encO (some (x.s, x.t))
  none : ∀ u v, 0 ≤ u → u < v → v < V → (∀ x ∈ all, ¬ (x.u = u ∧ x.v = v)) → getI l (Ex V S T u v) = 0
  ds : all.Pairwise (fun x y => x.s ≠ y.s)
  dp : all.Pairwise (fun x y => ¬ (x.u = y.u ∧ x.v = y.v))
theorem ox_at {V S T s f : Int} (hR : Rt V S T) (hs : 0 ≤ s ∧ s < S) (hf : 0 ≤ f ∧ f < 7) : Ox S T s f = T + 1 + s * 7 + f ∧ T + 1 ≤ Ox S T s f ∧ Ox S T s f < Hd S T := (ox_in hR hf).1 (Bl_t.2 hs)
theorem mm_of {u v : Int} (h : u < v) : mn u v = u ∧ mx u v = v := by unfold mn mx; exact ⟨if_neg (by omega), if_pos (by omega)⟩
theorem mm_le {u v : Int} (h : u ≠ v) : mn u v < mx u v := by unfold mn mx; split <;> split <;> omega
theorem mm_cases (u v : Int) : (mn u v = u ∧ mx u v = v) ∨ (mn u v = v ∧ mx u v = u) := by
  unfold mn mx
  by_cases h1 : v < u
  · right; exact ⟨if_pos h1, if_neg (by omega)⟩
  · left; rw [if_neg h1]; refine ⟨rfl, ?_⟩; split <;> omega
theorem mm_mm {u v : Int} (h : u ≠ v) : mn (mn u v) (mx u v) = mn u v ∧ mx (mn u v) (mx u v) = mx u v := mm_of (mm_le h)
theorem ex_mm {V S T u v : Int} (h : u ≠ v) : Ex V S T u v = Ex V S T (mn u v) (mx u v) := by unfold Ex; rw [(mm_mm h).1, (mm_mm h).2]
theorem ex_at {V S T u v : Int} (hR : Rt V S T) (hu : 0 ≤ u) (huv : u < v) (hv : v < V) : Eg V S T ≤ Ex V S T u v ∧ Ex V S T u v < Nd V S T := by
  have m := mm_of huv
  have := (ex_in (a := u) (b := v) hR).1 (eOk_t.2 (by rw [m.1, m.2]; omega))
  omega
theorem ex_ne {V S T u v w z : Int} (hR : Rt V S T) (hu : 0 ≤ u) (huv : u < v) (hv : v < V) (hw : 0 ≤ w) (hwz : w < z) (hz : z < V) (hne : ¬ (u = w ∧ v = z)) : Ex V S T u v ≠ Ex V S T w z := by
  intro h
  have a1 := ex_at hR hu huv hv
  have o := order hR
  have := ex_inj hR (by omega) h
  rw [(mm_of huv).1, (mm_of huv).2, (mm_of hwz).1, (mm_of hwz).2] at this
  exact hne this
theorem EI.put {V S T : Int} {l : List Int} {all : List One} (hR : Rt V S T) (I : EI V S T l all) {y : One} (hs : 0 ≤ y.s ∧ y.s < S) (hp : 0 ≤ y.u ∧ y.u < y.v ∧ y.v < V) (hl : 0 ≤ y.lv ∧ y.lv < Lv V)
    (n1 : ∀ x ∈ all, x.s ≠ y.s) (n2 : ∀ x ∈ all, ¬ (x.u = y.u ∧ x.v = y.v)) :
    EI V S T (putI (putI (putI l (Ox S T y.s 1) (256 * y.u + y.v)) (Ox S T y.s 2) y.lv) (Ex V S T y.u y.v) (encO (some (y.s, y.t)))) (all ++ [y]) := by
  have o := order hR
  have k1 := ox_at hR hs (f := 1) (by omega)
  have k2 := ox_at hR hs (f := 2) (by omega)
  have k3 := ex_at hR hp.1 hp.2.1 hp.2.2
  have len := I.len
  have g : ∀ j, getI (putI (putI (putI l (Ox S T y.s 1) (256 * y.u + y.v)) (Ox S T y.s 2) y.lv) (Ex V S T y.u y.v) (encO (some (y.s, y.t)))) j =
      if Ex V S T y.u y.v = j then encO (some (y.s, y.t)) else if Ox S T y.s 2 = j then y.lv else if Ox S T y.s 1 = j then 256 * y.u + y.v else getI l j := by
    intro j
    rw [getI_put, getI_put, getI_put]
    simp only [putI_len]
    have e1 : (Ex V S T y.u y.v = j ∧ 0 ≤ Ex V S T y.u y.v ∧ Ex V S T y.u y.v < (l.length : Int)) ↔ Ex V S T y.u y.v = j := by constructor <;> (intro h; omega)
    have e2 : (Ox S T y.s 2 = j ∧ 0 ≤ Ox S T y.s 2 ∧ Ox S T y.s 2 < (l.length : Int)) ↔ Ox S T y.s 2 = j := by constructor <;> (intro h; omega)
    have e3 : (Ox S T y.s 1 = j ∧ 0 ≤ Ox S T y.s 1 ∧ Ox S T y.s 1 < (l.length : Int)) ↔ Ox S T y.s 1 = j := by constructor <;> (intro h; omega)
    simp only [e1, e2, e3]
  refine ⟨by rw [putI_len, putI_len, putI_len]; exact len, ?_, ?_, ?_, ?_⟩
  · intro x hx
    rcases List.mem_append.1 hx with hx | hx
    · obtain ⟨q1, q2, q3, q4, q5, q6⟩ := I.each x hx
      have m1 := ox_at hR q1 (f := 1) (by omega)
      have m2 := ox_at hR q1 (f := 2) (by omega)
      have m3 := ex_at hR q2.1 q2.2.1 q2.2.2
      have hne := n1 x hx
      have m4 := ex_ne hR hp.1 hp.2.1 hp.2.2 q2.1 q2.2.1 q2.2.2 (fun h => n2 x hx ⟨h.1.symm, h.2.symm⟩)
      refine ⟨q1, q2, q3, ?_, ?_, ?_⟩
      · rw [g, if_neg (by omega), if_neg (by omega), if_neg (by omega)]; exact q4
      · rw [g, if_neg (by omega), if_neg (by omega), if_neg (by omega)]; exact q5
      · rw [g, if_neg m4, if_neg (by omega), if_neg (by omega)]; exact q6
    · rw [List.mem_singleton] at hx
      subst hx
      refine ⟨hs, hp, hl, ?_, ?_, ?_⟩
      · rw [g, if_neg (by omega), if_neg (by omega), if_pos rfl]
      · rw [g, if_neg (by omega), if_pos rfl]
      · rw [g, if_pos rfl]
  · intro u v h1 h2 h3 h4
    have m3 := ex_at hR h1 h2 h3
    have m4 := ex_ne hR hp.1 hp.2.1 hp.2.2 h1 h2 h3 (fun h => h4 y (by simp) h)
    rw [g, if_neg m4, if_neg (by omega), if_neg (by omega)]
    exact I.none u v h1 h2 h3 fun x hx => h4 x (by simp [hx])
  · exact List.pairwise_append.2 ⟨I.ds, List.pairwise_singleton _ _, fun x hx z hz => by rw [List.mem_singleton] at hz; subst hz; exact n1 x hx⟩
  · exact List.pairwise_append.2 ⟨I.dp, List.pairwise_singleton _ _, fun x hx z hz => by rw [List.mem_singleton] at hz; subst hz; exact n2 x hx⟩
theorem EI.gone {V S T : Int} {l : List Int} {all : List One} (hR : Rt V S T) (I : EI V S T l all) {u v : Int} (hu : 0 ≤ u) (huv : u < v) (hv : v < V) (n2 : ∀ x ∈ all, ¬ (x.u = u ∧ x.v = v)) :
    EI V S T (putI l (Ex V S T u v) 0) all := by
  have o := order hR
  have k3 := ex_at hR hu huv hv
  have len := I.len
  refine ⟨by rw [putI_len]; exact len, ?_, ?_, I.ds, I.dp⟩
  · intro x hx
    obtain ⟨q1, q2, q3, q4, q5, q6⟩ := I.each x hx
    have m1 := ox_at hR q1 (f := 1) (by omega)
    have m2 := ox_at hR q1 (f := 2) (by omega)
    have m4 := ex_ne hR hu huv hv q2.1 q2.2.1 q2.2.2 (fun h => n2 x hx ⟨h.1.symm, h.2.symm⟩)
    refine ⟨q1, q2, q3, ?_, ?_, ?_⟩
    · rw [getI_put, if_neg (by omega)]; exact q4
    · rw [getI_put, if_neg (by omega)]; exact q5
    · rw [getI_put, if_neg (fun h => m4 h.1)]; exact q6
  · intro w z h1 h2 h3 h4
    rw [getI_put]
    split
    · rfl
    · exact I.none w z h1 h2 h3 h4
theorem EI.without {V S T : Int} {l : List Int} {us bs : List One} {y : One} (hR : Rt V S T) (I : EI V S T l (us ++ y :: bs)) : EI V S T (putI l (Ex V S T y.u y.v) 0) (us ++ bs) := by
  have o := order hR
  obtain ⟨_, hp, _⟩ := I.each y (by simp)
  have k3 := ex_at hR hp.1 hp.2.1 hp.2.2
  have len := I.len
  have ds := I.ds
  have dp := I.dp
  rw [List.pairwise_append, List.pairwise_cons] at ds dp
  have n2 : ∀ x ∈ us ++ bs, ¬ (x.u = y.u ∧ x.v = y.v) := by
    intro x hx
    rcases List.mem_append.1 hx with hx | hx
    · exact dp.2.2 x hx y (by simp)
    · exact fun h => dp.2.1.1 x hx ⟨h.1.symm, h.2.symm⟩
  refine ⟨by rw [putI_len]; exact len, ?_, ?_, ?_, ?_⟩
  · intro x hx
    obtain ⟨q1, q2, q3, q4, q5, q6⟩ := I.each x (by rcases List.mem_append.1 hx with h | h <;> simp [h])
    have m1 := ox_at hR q1 (f := 1) (by omega)
    have m2 := ox_at hR q1 (f := 2) (by omega)
    have m4 := ex_ne hR hp.1 hp.2.1 hp.2.2 q2.1 q2.2.1 q2.2.2 (fun h => n2 x hx ⟨h.1.symm, h.2.symm⟩)
    refine ⟨q1, q2, q3, ?_, ?_, ?_⟩
    · rw [getI_put, if_neg (by omega)]; exact q4
    · rw [getI_put, if_neg (by omega)]; exact q5
    · rw [getI_put, if_neg (fun h => m4 h.1)]; exact q6
  · intro w z h1 h2 h3 h4
    rw [getI_put]
    by_cases e : y.u = w ∧ y.v = z
    · rw [e.1, e.2]
      rw [if_pos ⟨rfl, by rw [e.1, e.2] at k3; omega⟩]
    · rw [if_neg (fun h => ex_ne hR hp.1 hp.2.1 hp.2.2 h1 h2 h3 e h.1)]
      refine I.none w z h1 h2 h3 fun x hx => ?_
      rcases List.mem_append.1 hx with hx | hx
      · exact h4 x (by simp [hx])
      · rcases List.mem_cons.1 hx with rfl | hx
        · exact e
        · exact h4 x (by simp [hx])
  · exact List.pairwise_append.2 ⟨ds.1, ds.2.1.2, fun x hx z hz => ds.2.2 x hx z (by simp [hz])⟩
  · exact List.pairwise_append.2 ⟨dp.1, dp.2.1.2, fun x hx z hz => dp.2.2 x hx z (by simp [hz])⟩
/-- One edge's bit, or level, is another one. -/
theorem EI.change {V S T : Int} {l : List Int} {us bs : List One} {y : One} (hR : Rt V S T) (I : EI V S T l (us ++ y :: bs)) {lv : Int} (t : Bool) (hl : 0 ≤ lv ∧ lv < Lv V) :
    EI V S T (putI l (Ex V S T y.u y.v) (encO (some (y.s, t)))) (us ++ { y with t := t } :: bs) ∧ EI V S T (putI l (Ox S T y.s 2) lv) (us ++ { y with lv := lv } :: bs) := by
  have o := order hR
  obtain ⟨y1, hp, y3, y4, y5, y6⟩ := I.each y (by simp)
  have k3 := ex_at hR hp.1 hp.2.1 hp.2.2
  have k2 := ox_at hR y1 (f := 2) (by omega)
  have k1 := ox_at hR y1 (f := 1) (by omega)
  have len := I.len
  have ds := I.ds
  have dp := I.dp
  rw [List.pairwise_append, List.pairwise_cons] at ds dp
  have n1 : ∀ x ∈ us ++ bs, x.s ≠ y.s := by
    intro x hx
    rcases List.mem_append.1 hx with hx | hx
    · exact ds.2.2 x hx y (by simp)
    · exact fun h => ds.2.1.1 x hx h.symm
  have n2 : ∀ x ∈ us ++ bs, ¬ (x.u = y.u ∧ x.v = y.v) := by
    intro x hx
    rcases List.mem_append.1 hx with hx | hx
    · exact dp.2.2 x hx y (by simp)
    · exact fun h => dp.2.1.1 x hx ⟨h.1.symm, h.2.symm⟩
  have split : ∀ {z x : One}, x ∈ us ++ z :: bs → x = z ∨ x ∈ us ++ bs := by
    intro z x hx
    rcases List.mem_append.1 hx with hx | hx
    · right; simp [hx]
    · rcases List.mem_cons.1 hx with rfl | hx
      · left; rfl
      · right; simp [hx]
  have old : ∀ {x : One}, x ∈ us ++ bs → x ∈ us ++ y :: bs := fun hx => by rcases List.mem_append.1 hx with h | h <;> simp [h]
  constructor
  · refine ⟨by rw [putI_len]; exact len, ?_, ?_, ?_, ?_⟩
    · intro x hx
      rcases split hx with rfl | hx
      · refine ⟨y1, hp, y3, ?_, ?_, ?_⟩
        · rw [getI_put, if_neg (by first | omega | (simp only; omega))]; exact y4
        · rw [getI_put, if_neg (by first | omega | (simp only; omega))]; exact y5
        · rw [getI_put, if_pos ⟨rfl, by first | omega | (simp only; omega)⟩]
      · obtain ⟨q1, q2, q3, q4, q5, q6⟩ := I.each x (old hx)
        have m1 := ox_at hR q1 (f := 1) (by omega)
        have m2 := ox_at hR q1 (f := 2) (by omega)
        have m4 := ex_ne hR hp.1 hp.2.1 hp.2.2 q2.1 q2.2.1 q2.2.2 (fun h => n2 x hx ⟨h.1.symm, h.2.symm⟩)
        refine ⟨q1, q2, q3, ?_, ?_, ?_⟩
        · rw [getI_put, if_neg (by omega)]; exact q4
        · rw [getI_put, if_neg (by omega)]; exact q5
        · rw [getI_put, if_neg (fun h => m4 h.1)]; exact q6
    · intro w z h1 h2 h3 h4
      have e := h4 { y with t := t } (by simp)
      rw [getI_put, if_neg (fun h => ex_ne hR hp.1 hp.2.1 hp.2.2 h1 h2 h3 e h.1)]
      refine I.none w z h1 h2 h3 fun x hx => ?_
      rcases split hx with rfl | hx
      · exact e
      · exact h4 x (by rcases List.mem_append.1 hx with h | h <;> simp [h])
    · exact List.pairwise_append.2 ⟨ds.1, List.pairwise_cons.2 ⟨ds.2.1.1, ds.2.1.2⟩, fun x hx z hz => by
        rcases List.mem_cons.1 hz with rfl | hz
        · exact ds.2.2 x hx y (by simp)
        · exact ds.2.2 x hx z (by simp [hz])⟩
    · exact List.pairwise_append.2 ⟨dp.1, List.pairwise_cons.2 ⟨dp.2.1.1, dp.2.1.2⟩, fun x hx z hz => by
        rcases List.mem_cons.1 hz with rfl | hz
        · exact dp.2.2 x hx y (by simp)
        · exact dp.2.2 x hx z (by simp [hz])⟩
  · refine ⟨by rw [putI_len]; exact len, ?_, ?_, ?_, ?_⟩
    · intro x hx
      rcases split hx with rfl | hx
      · refine ⟨y1, hp, hl, ?_, ?_, ?_⟩
        · rw [getI_put, if_neg (by first | omega | (simp only; omega))]; exact y4
        · rw [getI_put, if_pos ⟨rfl, by first | omega | (simp only; omega)⟩]
        · rw [getI_put, if_neg (by first | omega | (simp only; omega))]; exact y6
      · obtain ⟨q1, q2, q3, q4, q5, q6⟩ := I.each x (old hx)
        have m1 := ox_at hR q1 (f := 1) (by omega)
        have m2 := ox_at hR q1 (f := 2) (by omega)
        have m3 := ex_at hR q2.1 q2.2.1 q2.2.2
        have hne := n1 x hx
        refine ⟨q1, q2, q3, ?_, ?_, ?_⟩
        · rw [getI_put, if_neg (by omega)]; exact q4
        · rw [getI_put, if_neg (by omega)]; exact q5
        · rw [getI_put, if_neg (by omega)]; exact q6
    · intro w z h1 h2 h3 h4
      have e := h4 { y with lv := lv } (by simp)
      have m3 := ex_at hR h1 h2 h3
      rw [getI_put, if_neg (by omega)]
      refine I.none w z h1 h2 h3 fun x hx => ?_
      rcases split hx with rfl | hx
      · exact e
      · exact h4 x (by rcases List.mem_append.1 hx with h | h <;> simp [h])
    · exact List.pairwise_append.2 ⟨ds.1, List.pairwise_cons.2 ⟨ds.2.1.1, ds.2.1.2⟩, fun x hx z hz => by
        rcases List.mem_cons.1 hz with rfl | hz
        · exact ds.2.2 x hx y (by simp)
        · exact ds.2.2 x hx z (by simp [hz])⟩
    · exact List.pairwise_append.2 ⟨dp.1, List.pairwise_cons.2 ⟨dp.2.1.1, dp.2.1.2⟩, fun x hx z hz => by
        rcases List.mem_cons.1 hz with rfl | hz
        · exact dp.2.2 x hx y (by simp)
        · exact dp.2.2 x hx z (by simp [hz])⟩
end Go.Det.E
