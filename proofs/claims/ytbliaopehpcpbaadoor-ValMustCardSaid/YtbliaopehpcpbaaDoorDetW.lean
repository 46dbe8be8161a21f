/- Slices of things: more of them appended, parts of them, one cell written. -/
import Derived.Test.YtbliaopehpcpbaaDoorDetY
import Derived.Test.YtbliaopehpcpbaaDoorDetU
set_option autoImplicit false
set_option linter.unusedVariables false
set_option linter.unusedSimpArgs false
namespace Go.Det
variable {P : Program} {ε : Type}
theorem SlO.mono {h : Heap} {m n sz : Nat} {enc : ε → List Value} {v : Value} {xs : List ε} (S : SlO h n sz enc v xs) (hm : m ≤ n) : SlO h m sz enc v xs :=
  ⟨S.sl, S.own.imp id fun ⟨h1, h2⟩ => ⟨by omega, h2⟩⟩
theorem flat_all {enc : ε → List Value} (hc : ∀ x, (enc x).all isCell = true) (xs : List ε) : (flat enc xs).all isCell = true := by
  induction xs with
  | nil => rfl
  | cons x xs ih => rw [flat_cons, List.all_append, hc, ih]; rfl
theorem append_sl {md : Md} {h : Heap} {n0 sz bytes : Nat} {enc : ε → List Value} {s x : Value} {xs ys : List ε} {ty e : TypeId} {z : List Value} (T : SlT P ty e sz bytes z) (S : SlO h n0 sz enc s xs) (X : Sl h sz enc x ys) (hro : md.ro ≤ n0) (hn0 : n0 ≤ h.length)
    (hcell : ∀ x, (enc x).all isCell = true) (hlen : (xs.length + ys.length) * bytes ≤ 140737488355328) :
    ∃ v' h', (∀ {α : Type} (k : Value → Heap → Option α), aBuiltin P md .append #[ty, ty] [s, x] h k = k v' h') ∧ SlO h' n0 sz enc v' (xs ++ ys) ∧ Old n0 h h' := by
  have he := S.sl.he
  obtain ⟨j, hj, e1, e2⟩ := T.info
  have src : srcCells sz x h = some (ys.length, flat enc ys) := by
    rcases X.is with ⟨rfl, rfl⟩ | ⟨b, o, kk, rfl, hb, hc, hl2⟩
    · rfl
    · unfold srcCells
      simp only []
      rw [rdN_at hb hl2, hc]
  by_cases hy : ys.length = 0
  · have : ys = [] := List.length_eq_zero_iff.1 hy
    subst this
    refine ⟨s, h, fun k => ?_, by simpa using S, Old.refl _ _⟩
    rcases S.sl.is with ⟨rfl, rfl⟩ | ⟨b, o, kk, rfl, hb, hc, hl2⟩
    · simp only [aBuiltin]
      unfold aAppend
      simp only [T.hu, hj, T.hz, e1, e2, src]
      rw [if_pos ⟨T.hs, T.hl, T.hb⟩, if_pos hy, if_pos trivial]
    · simp only [aBuiltin]
      unfold aAppend
      simp only [T.hu, hj, T.hz, e1, e2, src]
      rw [if_pos ⟨T.hs, T.hl, T.hb⟩, if_pos hy]
  · have hcs := flat_all hcell ys
    rcases S.sl.is with ⟨rfl, rfl⟩ | ⟨b, o, kk, rfl, hb, hc, hl2⟩
    · refine ⟨.slice (some ⟨h.length, 0, none⟩) ys.length sz, h ++ [.own (flat enc ys)], fun k => ?_, ?_, Old.app _ hn0⟩
      · simp only [aBuiltin]
        unfold aAppend
        simp only [T.hu, hj, T.hz, e1, e2, src]
        rw [if_pos ⟨T.hs, T.hl, T.hb⟩, if_neg hy, if_pos ⟨by simpa using hlen, hcs⟩, if_pos (by simp)]
      · have hb : (h ++ [Blk.own (flat enc ys)])[h.length]? = some (.own (flat enc ys)) := by simp
        exact ⟨by simpa using Sl.whole he hb rfl rfl, .inr ⟨hn0, _, hb⟩⟩
    · obtain ⟨hn, cs0, hown⟩ := S.own.resolve_left (by simp)
      simp only [slB] at hn hown
      have hk : kk = .own cs0 := by rw [hb] at hown; exact Option.some.inj hown
      subst hk
      have hbl : b < h.length := (List.getElem?_eq_some_iff.1 hb).1
      simp only [Blk.cells] at hc hl2
      refine ⟨.slice (some ⟨h.length, 0, none⟩) (xs.length + ys.length) sz, h.set b .dead ++ [.own ((cs0.drop o).take (xs.length * sz) ++ flat enc ys)], fun k => ?_, ?_, ?_⟩
      · simp only [aBuiltin]
        unfold aAppend
        simp only [T.hu, hj, T.hz, e1, e2, src]
        have hs := T.hs
        rw [if_pos ⟨T.hs, T.hl, T.hb⟩, if_neg hy, if_pos ⟨hlen, hcs⟩, if_neg (by omega), if_pos trivial]
        simp only [hb]
        rw [if_pos ⟨hl2, by omega⟩]
      · have hb2 : (h.set b .dead ++ [Blk.own ((cs0.drop o).take (xs.length * sz) ++ flat enc ys)])[h.length]? = some (.own ((cs0.drop o).take (xs.length * sz) ++ flat enc ys)) := by
          have : (h.set b .dead).length = h.length := by simp
          rw [← this, List.getElem?_append_right (Nat.le_refl _)]; simp
        exact ⟨by simpa using Sl.whole (xs := xs ++ ys) he hb2 (by simp only [Blk.cells]; rw [hc, flat_app]) (by simp), .inr ⟨hn0, _, hb2⟩⟩
      · refine ⟨by simp, fun x hx => ?_⟩
        rw [List.getElem?_append_left (by simp; omega), List.getElem?_set_ne (by omega)]
/-- The first ones. -/
theorem Sl.pre {h : Heap} {sz bytes : Nat} {enc : ε → List Value} {v : Value} {xs : List ε} {ty e : TypeId} {z : List Value} (T : SlT P ty e sz bytes z) (S : Sl h sz enc v xs) {k : Int} (h0 : 0 ≤ k) (h1 : k ≤ xs.length) :
    ∃ v', (∀ {α : Type} (kk : Value → Option α), aSlice P ty v none (some (.int .i64 k)) none kk = kk v') ∧ Sl h sz enc v' (xs.take k.toNat) := by
  obtain ⟨j, hj, e1, e2⟩ := T.info
  rcases S.is with ⟨rfl, rfl⟩ | ⟨b, o, kb, rfl, hb, hc, hl2⟩
  · have : k = 0 := by simp at h1; omega
    subst this
    refine ⟨.slice none 0 0, fun kk => ?_, by simpa using Sl.nil h S.he⟩
    unfold aSlice
    simp [T.hu, hj]
  · refine ⟨.slice (some ⟨b, o, none⟩) k.toNat sz, fun kk => ?_, ?_⟩
    · unfold aSlice
      simp only [T.hu, hj]
      rw [if_pos ⟨by omega, h0, h1, .inr e1.symm⟩]
      simp
    · have hk : (xs.take k.toNat).length = k.toNat := by rw [List.length_take]; omega
      have hm : k.toNat * sz ≤ xs.length * sz := Nat.mul_le_mul_right _ (by omega)
      refine Sl.part S.he hb ?_ (by rw [hk]; omega) hk.symm
      rw [hk, ← flat_take S.he, ← hc, List.take_take, Nat.min_eq_left hm]
/-- The last ones. -/
theorem Sl.suf {h : Heap} {sz bytes : Nat} {enc : ε → List Value} {v : Value} {xs : List ε} {ty e : TypeId} {z : List Value} (T : SlT P ty e sz bytes z) (S : Sl h sz enc v xs) {k : Int} (h0 : 0 ≤ k) (h1 : k ≤ xs.length) :
    ∃ v', (∀ {α : Type} (kk : Value → Option α), aSlice P ty v (some (.int .i64 k)) none none kk = kk v') ∧ Sl h sz enc v' (xs.drop k.toNat) := by
  obtain ⟨j, hj, e1, e2⟩ := T.info
  rcases S.is with ⟨rfl, rfl⟩ | ⟨b, o, kb, rfl, hb, hc, hl2⟩
  · have : k = 0 := by simp at h1; omega
    subst this
    refine ⟨.slice none 0 0, fun kk => ?_, by simpa using Sl.nil h S.he⟩
    unfold aSlice
    simp [T.hu, hj]
  · have hk : (xs.drop k.toNat).length = xs.length - k.toNat := List.length_drop
    have hm : k.toNat * sz + (xs.length - k.toNat) * sz = xs.length * sz := by rw [← Nat.add_mul]; congr 1; omega
    refine ⟨.slice (some ⟨b, o + k.toNat * sz, none⟩) (xs.length - k.toNat) sz, fun kk => ?_, ?_⟩
    · unfold aSlice
      simp only [T.hu, hj]
      rw [if_pos ⟨h0, h1, by omega, .inr e1.symm⟩]
      have : ((xs.length : Int) - k).toNat = xs.length - k.toNat := by omega
      rw [this, e1]
    · refine Sl.part S.he hb ?_ (by rw [hk]; omega) hk.symm
      have := flat_drop S.he xs k.toNat
      rw [← hc, List.drop_take, List.drop_drop] at this
      rw [hk, ← this]
      congr 1
      omega
theorem flat_set {enc : ε → List Value} {sz : Nat} (he : ∀ x, (enc x).length = sz) : ∀ (xs : List ε) {k j : Nat} {x x' : ε} {w : Value}, xs[k]? = some x → j < sz → enc x' = (enc x).set j w → (flat enc xs).set (k * sz + j) w = flat enc (xs.set k x') := by
  intro xs
  induction xs with
  | nil => intro k j x x' w hk; simp at hk
  | cons y xs ih =>
    intro k j x x' w hk hj hx
    cases k with
    | zero =>
      simp only [List.getElem?_cons_zero, Option.some.injEq] at hk
      subst hk
      rw [flat_cons, List.set_cons_zero, flat_cons, Nat.zero_mul, Nat.zero_add, List.set_append_left _ _ (by rw [he]; exact hj), hx]
    | succ k =>
      rw [flat_cons, List.set_cons_succ, flat_cons, List.set_append_right _ _ (by rw [he, Nat.succ_mul]; omega), ← ih (by simpa using hk) hj hx]
      congr 2
      rw [he, Nat.succ_mul]; omega
/-- A cell of a thing is written. -/
theorem SlO.write {md : Md} {h : Heap} {n0 sz : Nat} {enc : ε → List Value} {v : Value} {xs : List ε} (S : SlO h n0 sz enc v xs) (hro : md.ro ≤ n0) {k j : Nat} {x x' : ε} {w : Value} (hk : xs[k]? = some x) (hj : j < sz) (hx : enc x' = (enc x).set j w) (hw : scalar w = true) :
    ∃ h', wrN md h (slB v) (slO v + k * sz + j) [w] = some h' ∧ SlO h' n0 sz enc v (xs.set k x') ∧ (∀ b, b ≠ slB v → h'[b]? = h[b]?) ∧ h'.length = h.length ∧ n0 ≤ slB v := by
  have he := S.sl.he
  have hkl := (List.getElem?_eq_some_iff.1 hk).1
  rcases S.sl.is with ⟨rfl, rfl⟩ | ⟨b, o, kb, rfl, hb, hc, hl2⟩
  · simp at hk
  · obtain ⟨hn, cs, hown⟩ := S.own.resolve_left (by simp)
    simp only [slB] at hn hown
    have hkb : kb = .own cs := by rw [hb] at hown; exact Option.some.inj hown
    subst hkb
    simp only [Blk.cells] at hc hl2
    have hlt : k * sz + j < xs.length * sz := by
      have : (k + 1) * sz ≤ xs.length * sz := Nat.mul_le_mul_right _ hkl
      rw [Nat.succ_mul] at this; omega
    have hbl : b < h.length := (List.getElem?_eq_some_iff.1 hb).1
    refine ⟨h.set b (.own (cs.set (o + k * sz + j) w)), ?_, ?_, fun c hc => ?_, by simp, hn⟩
    · show wrN md h b (o + k * sz + j) [w] = _
      unfold wrN
      rw [hb]
      simp only []
      rw [if_pos (by simp only [List.length_cons, List.length_nil]; omega), if_pos ⟨by omega, .inr (by simp [hw])⟩]
      rfl
    · have hb' : (h.set b (.own (cs.set (o + k * sz + j) w)))[b]? = some (.own (cs.set (o + k * sz + j) w)) := by rw [List.getElem?_set_self hbl]
      refine ⟨⟨he, .inr ⟨b, o, _, by simp, hb', ?_, by simp only [Blk.cells, List.length_set]; exact hl2⟩⟩, .inr ⟨hn, _, hb'⟩⟩
      simp only [Blk.cells, List.length_set]
      rw [← flat_set he xs hk hj hx, ← hc]
      rw [show o + k * sz + j = o + (k * sz + j) by omega]
      generalize k * sz + j = q at hlt ⊢
      generalize xs.length * sz = n at hlt hl2 ⊢
      refine List.ext_getElem? fun i => ?_
      simp only [List.getElem?_take, List.getElem?_drop, List.getElem?_set, List.length_take, List.length_drop]
      by_cases e : q = i
      · subst e
        rw [if_pos hlt, if_pos rfl, if_pos (by omega), if_pos rfl, if_pos (by omega)]
      · by_cases hi : i < n
        · rw [if_pos hi, if_neg (by omega), if_neg e, if_pos hi]
        · rw [if_neg hi, if_neg e, if_neg hi]
    · have hc' : c ≠ b := hc
      rw [List.getElem?_set_ne (Ne.symm hc')]
end Go.Det
namespace Go.Det
theorem okP_p (a : Addr) : okPtr (.pointer (some a)) = true := nrf rfl
theorem okP_i (t : TypeId) (v : Value) : okPtr (.iface t v) = true := nrf rfl
theorem okP_f (f : FuncId) (x y : Array Value) : okPtr (.func (.func f) x y) = true := nrf rfl
attribute [go_sem] okP_p okP_i okP_f
theorem okN_p (P : Program) (a : Addr) : okNil P (.pointer (some a)) = true := nrf rfl
theorem okN_i (P : Program) (t : TypeId) (v : Value) : okNil P (.iface t v) = true := nrf rfl
theorem okN_f (P : Program) (f : FuncId) (x y : Array Value) : okNil P (.func (.func f) x y) = true := nrf rfl
attribute [go_sem] okN_p okN_i okN_f
end Go.Det
