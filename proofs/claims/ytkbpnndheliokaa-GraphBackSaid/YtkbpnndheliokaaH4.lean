/- The document's ways: what a search from edge to edge finds. -/
import Derived.Test.YtkbpnndheliokaaH3
import Derived.Test.YtkbpnndheliokaaI1
set_option autoImplicit false
set_option linter.unusedVariables false
set_option linter.unusedSimpArgs false
namespace Go.Det.E
open Go.Proofs Go.Det
attribute [local congr] bind_c cond_c
/-- A way by a list of edges. -/
inductive WayL (g : List (Int × Int)) (u : Int) : Int → Prop
  | here : WayL g u u
  | step {a b : Int} (h : WayL g u a) (e : (a, b) ∈ g ∨ (b, a) ∈ g) : WayL g u b
theorem WayL.closed {g : List (Int × Int)} {u : Int} {p : Int → Prop} (hu : p u) (hc : ∀ a b, p a → ((a, b) ∈ g ∨ (b, a) ∈ g) → p b) : ∀ {w}, WayL g u w → p w := by
  intro w h
  induction h with
  | here => exact hu
  | step _ e ih => exact hc _ _ ih e
def addE (x : Int) (xs : List Int) (e : Int × Int) : List Int :=
  let ys := if e.1 = x ∧ e.2 ∉ xs then xs ++ [e.2] else xs
  if e.2 = x ∧ e.1 ∉ ys then ys ++ [e.1] else ys
def sweep (x : Int) (xs : List Int) (g : List (Int × Int)) : List Int := g.foldl (addE x) xs
/-- What a search has so far. -/
structure Fnd (G : List (Int × Int)) (u : Int) (n : Nat) (xs : List Int) : Prop where
  nd : xs.Nodup
  way : ∀ y ∈ xs, WayL G u y
  rng : ∀ y ∈ xs, 0 ≤ y ∧ y < (n : Int)
theorem add_ok {G : List (Int × Int)} {u x : Int} {n : Nat} {xs : List Int} {e : Int × Int} (F : Fnd G u n xs) (hx : x ∈ xs) (he : e ∈ G) (hr : (0 ≤ e.1 ∧ e.1 < (n : Int)) ∧ 0 ≤ e.2 ∧ e.2 < (n : Int)) :
    Fnd G u n (addE x xs e) ∧ (∃ zs, addE x xs e = xs ++ zs) ∧ (e.1 = x → e.2 ∈ addE x xs e) ∧ (e.2 = x → e.1 ∈ addE x xs e) := by
  obtain ⟨a, b⟩ := e
  simp only at hr
  have one : ∀ {ys : List Int} {y z : Int}, Fnd G u n ys → y ∈ ys → (y, z) ∈ G ∨ (z, y) ∈ G → (0 ≤ z ∧ z < (n : Int)) → z ∉ ys → Fnd G u n (ys ++ [z]) := by
    intro ys y z F hy hz hr hn
    refine ⟨List.nodup_append.2 ⟨F.nd, by simp, fun a ha c hc => by simp at hc; subst hc; intro e; subst e; exact hn ha⟩, fun w hw => ?_, fun w hw => ?_⟩
    · rcases List.mem_append.1 hw with h | h
      · exact F.way w h
      · simp at h; subst h; exact .step (F.way y hy) hz
    · rcases List.mem_append.1 hw with h | h
      · exact F.rng w h
      · simp at h; subst h; exact hr
  unfold addE
  simp only
  by_cases h1 : a = x ∧ b ∉ xs
  · rw [if_pos h1]
    have F1 := one F (h1.1 ▸ hx) (.inl he) hr.2 h1.2
    by_cases h2 : b = x ∧ a ∉ xs ++ [b]
    · exfalso; rw [h1.1] at h2; exact h2.2 (List.mem_append.2 (.inl hx))
    · rw [if_neg h2]
      refine ⟨F1, ⟨[b], rfl⟩, fun _ => by simp, fun q => ?_⟩
      exact Classical.byContradiction fun hn => h2 ⟨q, hn⟩
  · rw [if_neg h1]
    by_cases h2 : b = x ∧ a ∉ xs
    · rw [if_pos h2]
      have F1 := one F (h2.1 ▸ hx) (.inr he) hr.1 h2.2
      refine ⟨F1, ⟨[a], rfl⟩, fun q => ?_, fun _ => by simp⟩
      exact List.mem_append.2 (.inl (Classical.byContradiction fun hn => h1 ⟨q, hn⟩))
    · rw [if_neg h2]
      refine ⟨F, ⟨[], by simp⟩, fun q => ?_, fun q => ?_⟩
      · exact Classical.byContradiction fun hn => h1 ⟨q, hn⟩
      · exact Classical.byContradiction fun hn => h2 ⟨q, hn⟩
theorem sweep_ok {G : List (Int × Int)} {u x : Int} {n : Nat} (hr : ∀ e ∈ G, (0 ≤ e.1 ∧ e.1 < (n : Int)) ∧ 0 ≤ e.2 ∧ e.2 < (n : Int)) : ∀ (g : List (Int × Int)) (xs : List Int), (∀ e ∈ g, e ∈ G) → Fnd G u n xs → x ∈ xs →
    Fnd G u n (sweep x xs g) ∧ (∃ zs, sweep x xs g = xs ++ zs) ∧ ∀ b, ((x, b) ∈ g ∨ (b, x) ∈ g) → b ∈ sweep x xs g := by
  intro g
  induction g with
  | nil => intro xs _ F _; exact ⟨F, ⟨[], by simp [sweep]⟩, fun b hb => by simp at hb⟩
  | cons e g ih =>
    intro xs hg F hx
    obtain ⟨F1, ⟨z1, p1⟩, a1, b1⟩ := add_ok F hx (hg e (by simp)) (hr e (hg e (by simp)))
    obtain ⟨F2, ⟨z2, p2⟩, c2⟩ := ih (addE x xs e) (fun y hy => hg y (by simp [hy])) F1 (by rw [p1]; exact List.mem_append.2 (.inl hx))
    have es : sweep x xs (e :: g) = sweep x (addE x xs e) g := rfl
    rw [es]
    refine ⟨F2, ⟨z1 ++ z2, by rw [p2, p1, List.append_assoc]⟩, fun b hb => ?_⟩
    have up : ∀ y, y ∈ addE x xs e → y ∈ sweep x (addE x xs e) g := fun y hy => by rw [p2]; exact List.mem_append.2 (.inl hy)
    rcases hb with hb | hb
    · rcases List.mem_cons.1 hb with h | h
      · subst h; exact up _ (a1 rfl)
      · exact c2 b (.inl h)
    · rcases List.mem_cons.1 hb with h | h
      · subst h; exact up _ (b1 rfl)
      · exact c2 b (.inr h)
theorem Fnd.len {G : List (Int × Int)} {u : Int} {n : Nat} {xs : List Int} (F : Fnd G u n xs) : xs.length ≤ n := by
  have h1 : xs ⊆ (List.range n).map (fun k : Nat => (k : Int)) := by
    intro y hy
    have := F.rng y hy
    rw [List.mem_map]
    exact ⟨y.toNat, List.mem_range.2 (by omega), by omega⟩
  have := F.nd.length_le_of_subset h1
  simpa using this
/-- All before a place of a search have their neighbours in it. -/
def Cl (G : List (Int × Int)) (xs : List Int) (i : Nat) : Prop := ∀ j a, j < i → xs[j]? = some a → ∀ b, ((a, b) ∈ G ∨ (b, a) ∈ G) → b ∈ xs
theorem found {G : List (Int × Int)} {u : Int} {n : Nat} {xs : List Int} (F : Fnd G u n xs) (hu : u ∈ xs) (hc : Cl G xs xs.length) (w : Int) : w ∈ xs ↔ WayL G u w := by
  refine ⟨F.way w, fun h => WayL.closed (p := fun w => w ∈ xs) hu (fun a b ha hb => ?_) h⟩
  obtain ⟨j, hj, e⟩ := List.mem_iff_getElem.1 ha
  exact hc j a hj (by rw [List.getElem?_eq_getElem hj, e]) b hb
theorem tInt : SlT Try.prog 39 3 1 8 [(Value.int .i64 0)] := ⟨by kernel_rfl, by kernel_rfl, by kernel_rfl, rfl, by decide, by decide, rfl⟩
theorem bInt1 {α : Type} {x : Int} (h : Heap) (k : Value → Heap → Option α) : aBuildSlice Try.prog 39 1 [(0, (Value.int .i64 x))] h k = k ((Value.slice (some ⟨h.length, 0, none⟩) 1 1)) (h ++ [Blk.own [(Value.int .i64 x)]]) := by kernel_rfl
variable {md : Md} {h hh : Heap} {v gv : Value} {xs : List Int} {g : List (Int × Int)} {u x : Int} {n : Nat}
theorem has10_loop (S : Sl hh 1 eZ v xs) (x : Int) (s4 : Value) (hlen : xs.length < 1000000) (hx4 : s4 = (Value.bool false)) : ∀ (m k : Nat), k + m = xs.length → (∀ j y, j < k → xs[j]? = some y → y ≠ x) →
    J68_0 C md h v ((Value.int .i64 x)) s4 ((Value.int .i64 ((k : Int)))) hh = some ((Value.bool (decide (x ∈ xs))), h) := by
  have len := fun {α : Type} (kk : Value → Option α) => S.len kk
  subst hx4
  intro m
  induction m with
  | zero =>
    intro k hk hno
    obtain rfl : k = xs.length := by omega
    have : decide (x ∈ xs) = false := decide_eq_false fun hm => by
      obtain ⟨j, hj, e⟩ := List.mem_iff_getElem.1 hm
      exact hno j x hj (by rw [List.getElem?_eq_getElem hj, e]) rfl
    rw [J68_0_step]
    unfold Jr68_0
    simp only [go_sem, Nat.reduceAdd, Nat.reduceLeDiff, Nat.reduceMul, Int.reduceBEq, Int.reduceBNe, Int.reduceLT, Int.reduceLE, Int.reduceGT, len, aBin_lss, Int.lt_irrefl, Jk68_0, this]
  | succ m ih =>
    intro k hk hno
    obtain ⟨y, hy⟩ : ∃ y, xs[k]? = some y := ⟨xs[k]'(by omega), List.getElem?_eq_getElem (by omega)⟩
    have hlt : (k : Int) < (xs.length : Int) := by omega
    obtain ⟨ix, r⟩ := Sl.getI S hy
    have w : IntKind.wrap .i64 ((k : Int) + 1) = ((k + 1 : Nat) : Int) := by rw [wi (by omega) (by omega)]; rfl
    rw [J68_0_step]
    unfold Jr68_0
    by_cases e : y = x
    · have b : (y == x) = true := by simp [e]
      have : decide (x ∈ xs) = true := decide_eq_true (e ▸ List.mem_of_getElem? hy)
      simp only [go_sem, Nat.reduceAdd, Nat.reduceLeDiff, Nat.reduceMul, Int.reduceBEq, Int.reduceBNe, Int.reduceLT, Int.reduceLE, Int.reduceGT, len, aBin_lss, hlt, ixSV_p, ix, r, aBin_eql, b, Jk68_0, this]
    · have b : (y == x) = false := by simp [e]
      simp only [go_sem, Nat.reduceAdd, Nat.reduceLeDiff, Nat.reduceMul, Int.reduceBEq, Int.reduceBNe, Int.reduceLT, Int.reduceLE, Int.reduceGT, len, aBin_lss, hlt, ixSV_p, ix, r, aBin_eql, b, aBin_add, w]
      exact ih (k + 1) (by omega) fun j z hj hz => by
        by_cases q : j = k
        · subst q; rw [hy] at hz; cases hz; exact e
        · exact hno j z (by omega) hz
theorem has10_s (S : Sl h 1 eZ v xs) (x : Int) (hlen : xs.length < 1000000) : C md 68 [v, (Value.int .i64 x)] h = some ((Value.bool (decide (x ∈ xs))), h) := by
  rw [C, call_eq, F68_eq]
  unfold F68
  have e := has10_loop (md := ⟨h.length, h.length⟩) (h := h) S x _ hlen rfl xs.length 0 (by omega) (fun j y hj => by omega)
  exact e
/-- The second half of a round. -/
theorem half2 {n0 i k : Nat} {a b : Int} {s2 s6 : Value} (S : SlO hh n0 1 eZ v xs) (hi : xs[i]? = some x) (hro : md.ro ≤ n0) (hn0 : n0 ≤ hh.length) (hlen : xs.length < 1000) (hk : k < 1000) :
    ∃ v' h', J41_0b0b0 C md gv s2 s6 v ((Value.int .i64 ((i : Int)))) ((Value.int .i64 ((k : Int)))) ((Value.int .i64 a)) ((Value.int .i64 b)) hh = some (.inl ((gv, s2, s6, v', (Value.int .i64 ((i : Int))), (Value.int .i64 (((k + 1 : Nat) : Int)))), h')) ∧
      SlO h' n0 1 eZ v' (if b = x ∧ a ∉ xs then xs ++ [a] else xs) ∧ Old n0 hh h' := by
  obtain ⟨ix, r⟩ := Sl.getI S.sl hi
  have w : IntKind.wrap .i64 ((k : Int) + 1) = ((k + 1 : Nat) : Int) := by rw [wi (by omega) (by omega)]; rfl
  unfold J41_0b0b0
  by_cases e : b = x
  · have be : (b == x) = true := by simp [e]
    have eh := fun (m : Md) => has10_s (md := m) S.sl a (by omega)
    by_cases ha : a ∈ xs
    · have c : ¬ (b = x ∧ a ∉ xs) := fun q => q.2 ha
      refine ⟨v, hh, ?_, by rw [if_neg c]; exact S, Old.refl _ _⟩
      simp only [go_sem, Nat.reduceAdd, Nat.reduceLeDiff, Nat.reduceMul, Int.reduceBEq, Int.reduceBNe, Int.reduceLT, Int.reduceLE, Int.reduceGT, ixSV_p, ix, r, aBin_eql, be, eh, ha, aUn_not, aBin_add, w]
    · have c : b = x ∧ a ∉ xs := ⟨e, ha⟩
      obtain ⟨v', h', ea, S', O'⟩ := append_own (md := md) (ys := [a]) tInt S hro hn0 (cs := [(Value.int .i64 a)]) (by simp [flat]) (by simp) rfl (by simp; omega)
      refine ⟨v', h', ?_, by rw [if_pos c]; exact S', O'⟩
      simp only [List.length_cons, List.length_nil] at ea
      simp only [go_sem, Nat.reduceAdd, Nat.reduceLeDiff, Nat.reduceMul, Int.reduceBEq, Int.reduceBNe, Int.reduceLT, Int.reduceLE, Int.reduceGT, ixSV_p, ix, r, aBin_eql, be, eh, ha, aUn_not, bInt1, ea, aBin_add, w]
  · have be : (b == x) = false := by simp [e]
    have c : ¬ (b = x ∧ a ∉ xs) := fun q => e q.1
    refine ⟨v, hh, ?_, by rw [if_neg c]; exact S, Old.refl _ _⟩
    simp only [go_sem, Nat.reduceAdd, Nat.reduceLeDiff, Nat.reduceMul, Int.reduceBEq, Int.reduceBNe, Int.reduceLT, Int.reduceLE, Int.reduceGT, ixSV_p, ix, r, aBin_eql, be, aBin_add, w]
theorem sweep_loop {n0 i : Nat} {s2 s6 : Value} (hro : md.ro ≤ n0) (hg : g.length < 1000) (hr : ∀ e ∈ g, (0 ≤ e.1 ∧ e.1 < (n : Int)) ∧ 0 ≤ e.2 ∧ e.2 < (n : Int)) (h16 : n ≤ 16) (hi16 : i < 1000) : ∀ (rest pre : List (Int × Int)) (xs : List Int) (v : Value) (hh : Heap),
    pre ++ rest = g → SlO hh n0 1 eZ v xs → Sl hh 2 eZ2 gv g → gv = .slice none 0 0 ∨ slB gv < n0 → n0 ≤ hh.length → Fnd g u n xs → xs[i]? = some x →
    ∃ v' h', J41_0b0 C md gv s2 s6 v ((Value.int .i64 ((i : Int)))) ((Value.int .i64 ((pre.length : Int)))) hh = some (.inl ((gv, s2, s6, v', (Value.int .i64 (((i + 1 : Nat) : Int)))), h')) ∧ SlO h' n0 1 eZ v' (sweep x xs rest) ∧ Old n0 hh h' := by
  intro rest
  induction rest with
  | nil =>
    intro pre xs v hh e S SG hb hn0 F hi
    rw [List.append_nil] at e
    subst e
    have len := fun {α : Type} (kk : Value → Option α) => SG.len kk
    have w : IntKind.wrap .i64 ((i : Int) + 1) = ((i + 1 : Nat) : Int) := by rw [wi (by omega) (by omega)]; rfl
    refine ⟨v, hh, ?_, S, Old.refl _ _⟩
    rw [J41_0b0_step]
    unfold Jr41_0b0
    simp only [go_sem, Nat.reduceAdd, Nat.reduceLeDiff, Nat.reduceMul, Int.reduceBEq, Int.reduceBNe, Int.reduceLT, Int.reduceLE, Int.reduceGT, len, aBin_lss, Int.lt_irrefl, Jk41_0b0, aBin_add, w]
  | cons y rest ih =>
    intro pre xs v hh e S SG hb hn0 F hi
    have hy : g[pre.length]? = some y := by rw [← e]; simp
    have hlt : (pre.length : Int) < (g.length : Int) := by have := (List.getElem?_eq_some_iff.1 hy).1; omega
    have hm : y ∈ g := List.mem_of_getElem? hy
    have len := fun {α : Type} (kk : Value → Option α) => SG.len kk
    obtain ⟨ig, r1, r2⟩ := Sl.getE SG hy
    obtain ⟨ix, r⟩ := Sl.getI S.sl hi
    have hxm : x ∈ xs := List.mem_of_getElem? hi
    obtain ⟨F1, ⟨zs, ez⟩, _, _⟩ := add_ok F hxm hm (hr y hm)
    have hlen := F.len
    obtain ⟨⟨y1, _⟩, y2, _⟩ := hr y hm
    have y0 : ¬ y.1 < 0 := by omega
    have ga : ∀ {α : Type} (kk : Value → Option α), ixA 2 1 ((Value.pointer (some ⟨slB gv, slO gv + pre.length * 2, none⟩))) 0 kk = kk ((Value.pointer (some ⟨slB gv, slO gv + pre.length * 2, none⟩))) := fun kk => ixA_p 1 (slB gv) (slO gv + pre.length * 2) 2 0 kk ⟨by omega, by omega⟩
    have gb : ∀ {α : Type} (kk : Value → Option α), ixA 2 1 ((Value.pointer (some ⟨slB gv, slO gv + pre.length * 2, none⟩))) 1 kk = kk ((Value.pointer (some ⟨slB gv, slO gv + pre.length * 2 + 1, none⟩))) := fun kk => ixA_p 1 (slB gv) (slO gv + pre.length * 2) 2 1 kk ⟨by omega, by omega⟩
    have gbl : slB gv < n0 := by
      rcases hb with h | h
      · exfalso
        rcases SG.is with ⟨_, q⟩ | ⟨_, _, _, q, _⟩
        · rw [q] at hm; simp at hm
        · rw [h] at q; cases q
      · exact h
    have fin : ∀ (v1 : Value) (h1 : Heap), SlO h1 n0 1 eZ v1 (if y.1 = x ∧ y.2 ∉ xs then xs ++ [y.2] else xs) → Old n0 hh h1 →
        ∃ v' h', ((J41_0b0b0 C md gv s2 s6 v1 ((Value.int .i64 ((i : Int)))) ((Value.int .i64 ((pre.length : Int)))) ((Value.int .i64 y.1)) ((Value.int .i64 y.2)) h1).bind fun x => match x with
          | .inl (s, h) => J41_0b0 C md s.1 s.2.1 s.2.2.1 s.2.2.2.1 s.2.2.2.2.1 s.2.2.2.2.2 h
          | .inr (e, s, h) => Jk41_0b0 C md e s.1 s.2.1 s.2.2.1 s.2.2.2.1 s.2.2.2.2.1 s.2.2.2.2.2 h) = some (.inl ((gv, s2, s6, v', (Value.int .i64 (((i + 1 : Nat) : Int)))), h')) ∧ SlO h' n0 1 eZ v' (sweep x xs (y :: rest)) ∧ Old n0 hh h' := by
      intro v1 h1 S1 O1
      have hi1 : (if y.1 = x ∧ y.2 ∉ xs then xs ++ [y.2] else xs)[i]? = some x := by
        split
        · rw [List.getElem?_append_left (List.getElem?_eq_some_iff.1 hi).1]; exact hi
        · exact hi
      have hl1 : (if y.1 = x ∧ y.2 ∉ xs then xs ++ [y.2] else xs).length < 1000 := by split <;> (try simp) <;> omega
      obtain ⟨v2, h2, e2, S2, O2⟩ := half2 (gv := gv) (k := pre.length) (a := y.1) (b := y.2) (s2 := s2) (s6 := s6) S1 hi1 hro (Nat.le_trans hn0 O1.len) hl1 (by have := congrArg List.length e; simp at this; omega)
      have O12 := O1.trans O2
      have eadd : (if y.2 = x ∧ y.1 ∉ (if y.1 = x ∧ y.2 ∉ xs then xs ++ [y.2] else xs) then (if y.1 = x ∧ y.2 ∉ xs then xs ++ [y.2] else xs) ++ [y.1] else (if y.1 = x ∧ y.2 ∉ xs then xs ++ [y.2] else xs)) = addE x xs y := rfl
      rw [eadd] at S2
      obtain ⟨v3, h3, e3, S3, O3⟩ := ih (pre ++ [y]) (addE x xs y) v2 h2 (by rw [← e]; simp) S2 (SG.heap fun _ => O12.old _ gbl) (.inr gbl) (Nat.le_trans hn0 O12.len) F1 (by rw [ez, List.getElem?_append_left (List.getElem?_eq_some_iff.1 hi).1]; exact hi)
      refine ⟨v3, h3, ?_, S3, O12.trans O3⟩
      rw [e2]
      rw [List.length_append] at e3
      exact e3
    rw [J41_0b0_step]
    unfold Jr41_0b0
    by_cases e1 : y.1 = x
    · have be : (y.1 == x) = true := by simp [e1]
      have eh := fun (m : Md) => has10_s (md := m) S.sl y.2 (by omega)
      by_cases ha : y.2 ∈ xs
      · have c : ¬ (y.1 = x ∧ y.2 ∉ xs) := fun q => q.2 ha
        simp only [go_sem, Nat.reduceAdd, Nat.reduceLeDiff, Nat.reduceMul, Int.reduceBEq, Int.reduceBNe, Int.reduceLT, Int.reduceLE, Int.reduceGT, len, aBin_lss, hlt, ixSV_p, ig, ga, gb, r1, r2, y0, ix, r, be, eh, ha, aUn_not]
        refine fin v hh ?_ (Old.refl _ _)
        rw [if_neg c]; exact S
      · have c : y.1 = x ∧ y.2 ∉ xs := ⟨e1, ha⟩
        obtain ⟨v1, h1, ea, S1, O1⟩ := append_own (md := md) (ys := [y.2]) tInt S hro hn0 (cs := [(Value.int .i64 y.2)]) (by simp [flat]) (by simp) rfl (by simp; omega)
        simp only [List.length_cons, List.length_nil] at ea
        simp only [go_sem, Nat.reduceAdd, Nat.reduceLeDiff, Nat.reduceMul, Int.reduceBEq, Int.reduceBNe, Int.reduceLT, Int.reduceLE, Int.reduceGT, len, aBin_lss, hlt, ixSV_p, ig, ga, gb, r1, r2, y0, ix, r, be, eh, ha, aUn_not, ea]
        refine fin v1 h1 ?_ O1
        rw [if_pos c]; exact S1
    · have be : (y.1 == x) = false := by simp [e1]
      have c : ¬ (y.1 = x ∧ y.2 ∉ xs) := fun q => e1 q.1
      simp only [go_sem, Nat.reduceAdd, Nat.reduceLeDiff, Nat.reduceMul, Int.reduceBEq, Int.reduceBNe, Int.reduceLT, Int.reduceLE, Int.reduceGT, len, aBin_lss, hlt, ixSV_p, ig, ga, gb, r1, r2, y0, ix, r, be]
      refine fin v hh ?_ (Old.refl _ _)
      rw [if_neg c]; exact S
theorem Sl.heap' {ε : Type} {h h' : Heap} {n0 sz : Nat} {enc : ε → List Value} {v : Value} {xs : List ε} (S : Sl h sz enc v xs) (hb : v = .slice none 0 0 ∨ slB v < n0) (O : Old n0 h h') : Sl h' sz enc v xs := by
  rcases hb with e | hb
  · rcases S.is with ⟨rfl, rfl⟩ | ⟨_, _, _, q, _⟩
    · exact Sl.nil _ S.he
    · rw [e] at q; cases q
  · exact S.heap fun _ => O.old _ hb
theorem seek_loop {n0 : Nat} {s6 : Value} {w : Int} (hro : md.ro ≤ n0) (hg : g.length < 1000) (hr : ∀ e ∈ g, (0 ≤ e.1 ∧ e.1 < (n : Int)) ∧ 0 ≤ e.2 ∧ e.2 < (n : Int)) (h16 : n ≤ 16) : ∀ (m i : Nat) (xs : List Int) (v : Value) (hh : Heap),
    n + 1 ≤ i + m → SlO hh n0 1 eZ v xs → Sl hh 2 eZ2 gv g → gv = .slice none 0 0 ∨ slB gv < n0 → n0 ≤ hh.length → Fnd g u n xs → u ∈ xs → Cl g xs i → i ≤ xs.length →
    ∃ ys : List Int, (∀ z, z ∈ ys ↔ WayL g u z) ∧ J41_0 C md h gv ((Value.int .i64 w)) s6 v ((Value.int .i64 ((i : Int)))) hh = some ((Value.bool (decide (w ∈ ys))), h) := by
  intro m
  induction m with
  | zero =>
    intro i xs v hh hm S SG hb hn0 F hu hc hi
    have := F.len; omega
  | succ m ih =>
    intro i xs v hh hm S SG hb hn0 F hu hc hi
    have len := fun {α : Type} (kk : Value → Option α) => S.sl.len kk
    have hl := F.len
    by_cases hi2 : i = xs.length
    · refine ⟨xs, found F hu (hi2 ▸ hc), ?_⟩
      subst hi2
      have eh := fun (m : Md) => has10_s (md := m) S.sl w (by omega)
      rw [J41_0_step]
      unfold Jr41_0
      simp only [go_sem, Nat.reduceAdd, Nat.reduceLeDiff, Nat.reduceMul, Int.reduceBEq, Int.reduceBNe, Int.reduceLT, Int.reduceLE, Int.reduceGT, len, aBin_lss, Int.lt_irrefl, Jk41_0, J41_1, eh]
    · obtain ⟨x, hx⟩ : ∃ x, xs[i]? = some x := ⟨xs[i]'(by omega), List.getElem?_eq_getElem (by omega)⟩
      have hlt : (i : Int) < (xs.length : Int) := by omega
      have hxm := List.mem_of_getElem? hx
      obtain ⟨F1, ⟨zs, ez⟩, c1⟩ := sweep_ok hr g xs (fun e he => he) F hxm
      obtain ⟨v', h', e, S', O'⟩ := sweep_loop (md := md) (gv := gv) (g := g) (n := n) (x := x) (u := u) (n0 := n0) (i := i) (s2 := (Value.int .i64 w)) (s6 := s6) hro hg hr h16 (by omega) g [] xs v hh rfl S SG hb hn0 F hx
      have hlen : (sweep x xs g).length = xs.length + zs.length := by rw [ez]; simp
      have hc' : Cl g (sweep x xs g) (i + 1) := by
        intro j a hj ha b hab
        by_cases q : j = i
        · subst q
          rw [ez, List.getElem?_append_left (by omega), hx] at ha
          cases ha
          exact c1 b hab
        · rw [ez, List.getElem?_append_left (by omega)] at ha
          rw [ez]
          exact List.mem_append.2 (.inl (hc j a (by omega) ha b hab))
      obtain ⟨ys, h1, h2⟩ := ih (i + 1) (sweep x xs g) v' h' (by omega) S' (Sl.heap' SG hb O') hb (Nat.le_trans hn0 O'.len) F1 (by rw [ez]; exact List.mem_append.2 (.inl hu)) hc' (by omega)
      refine ⟨ys, h1, ?_⟩
      rw [J41_0_step]
      unfold Jr41_0
      simp only [List.length_nil, Int.natCast_zero] at e
      simp only [go_sem, Nat.reduceAdd, Nat.reduceLeDiff, Nat.reduceMul, Int.reduceBEq, Int.reduceBNe, Int.reduceLT, Int.reduceLE, Int.reduceGT, len, aBin_lss, hlt]
      rw [e]
      exact h2
noncomputable def wlB (g : List (Int × Int)) (u v : Int) : Bool := @decide (WayL g u v) (Classical.propDecidable _)
theorem wlB_t {g : List (Int × Int)} {u v : Int} : wlB g u v = true ↔ WayL g u v := by unfold wlB; exact @decide_eq_true_iff _ (Classical.propDecidable _)
theorem joined10_s {w : Int} (SG : Sl h 2 eZ2 gv g) (hb : gv = .slice none 0 0 ∨ slB gv < h.length) (hg : g.length < 1000) (hr : ∀ e ∈ g, (0 ≤ e.1 ∧ e.1 < (n : Int)) ∧ 0 ≤ e.2 ∧ e.2 < (n : Int)) (h16 : n ≤ 16) (hu : 0 ≤ u ∧ u < (n : Int)) :
    C md 41 [gv, (Value.int .i64 u), (Value.int .i64 w)] h = some ((Value.bool (wlB g u w)), h) := by
  rw [C, call_eq, F41_eq]
  unfold F41
  have hb0 : (h ++ [Blk.own [(Value.int .i64 u)]])[h.length]? = some (.own [(Value.int .i64 u)]) := by simp
  have S : SlO (h ++ [Blk.own [(Value.int .i64 u)]]) h.length 1 eZ ((Value.slice (some ⟨h.length, 0, none⟩) 1 1)) [u] := ⟨Sl.whole eZ_len hb0 (by simp [Blk.cells, flat]) (by simp), .inr ⟨Nat.le_refl _, _, hb0⟩⟩
  have F : Fnd g u n [u] := ⟨by simp, fun y hy => by simp at hy; subst hy; exact .here, fun y hy => by simp at hy; subst hy; exact hu⟩
  obtain ⟨ys, h1, h2⟩ := seek_loop (md := ⟨h.length, h.length⟩) (h := h) (s6 := (Value.bool false)) (w := w) (Nat.le_refl _) hg hr h16 (n + 1) 0 [u] _ _ (by omega) S SG.app hb (by simp) F (by simp) (fun j a hj => by omega) (by simp)
  have : decide (w ∈ ys) = wlB g u w := Bool.eq_iff_iff.2 (by rw [wlB_t, ← h1]; simp)
  rw [this] at h2
  exact h2
end Go.Det.E
