/- Slices of things of several cells, in a heap. -/
import Derived.Test.YtbliaopehpcpbaaDoorDetV
import Derived.Test.YtbliaopehpcpbaaDoorDetS
set_option autoImplicit false
set_option linter.unusedVariables false
set_option linter.unusedSimpArgs false
namespace Go.Det
variable {P : Program} {α : Type} {ε : Type}

theorem rd_at {h : Heap} {b i : Nat} {k : Blk} (hb : h[b]? = some k) : rd h b i = k.cells[i]? := by unfold rd; rw [hb]
theorem rdN_at {h : Heap} {b i n : Nat} {k : Blk} (hb : h[b]? = some k) (hi : i + n ≤ k.cells.length) : rdN h b i n = some ((k.cells.drop i).take n) := by unfold rdN; rw [hb]; exact if_pos hi

/-- Things one behind the other in cells. -/
def flat (enc : ε → List Value) (xs : List ε) : List Value := (xs.map enc).flatten
theorem flat_nil (enc : ε → List Value) : flat enc [] = [] := rfl
theorem flat_cons (enc : ε → List Value) (x : ε) (xs : List ε) : flat enc (x :: xs) = enc x ++ flat enc xs := rfl
theorem flat_app (enc : ε → List Value) (xs ys : List ε) : flat enc (xs ++ ys) = flat enc xs ++ flat enc ys := by simp [flat]
theorem flat_len {enc : ε → List Value} {sz : Nat} (he : ∀ x, (enc x).length = sz) (xs : List ε) : (flat enc xs).length = xs.length * sz := by
  induction xs with
  | nil => simp [flat_nil]
  | cons x xs ih => simp [flat_cons, ih, he, Nat.succ_mul, Nat.add_comm]
theorem flat_take {enc : ε → List Value} {sz : Nat} (he : ∀ x, (enc x).length = sz) (xs : List ε) (n : Nat) : (flat enc xs).take (n * sz) = flat enc (xs.take n) := by
  induction xs generalizing n with
  | nil => simp [flat_nil]
  | cons x xs ih =>
    cases n with
    | zero => simp [flat_nil]
    | succ n =>
      rw [flat_cons, List.take_succ_cons, flat_cons, ← ih n, Nat.succ_mul, Nat.add_comm, ← he x, List.take_length_add_append]
theorem flat_drop {enc : ε → List Value} {sz : Nat} (he : ∀ x, (enc x).length = sz) (xs : List ε) (n : Nat) : (flat enc xs).drop (n * sz) = flat enc (xs.drop n) := by
  induction xs generalizing n with
  | nil => simp [flat_nil]
  | cons x xs ih =>
    cases n with
    | zero => simp
    | succ n =>
      rw [flat_cons, List.drop_succ_cons, ← ih n, Nat.succ_mul, Nat.add_comm, ← he x, List.drop_length_add_append]
theorem flat_cell {enc : ε → List Value} {sz : Nat} (he : ∀ x, (enc x).length = sz) (xs : List ε) {k j : Nat} {x : ε} (hk : xs[k]? = some x) (hj : j < sz) : (flat enc xs)[k * sz + j]? = (enc x)[j]? := by
  have h1 : (flat enc xs).drop (k * sz) = flat enc (xs.drop k) := flat_drop he xs k
  have hkl := (List.getElem?_eq_some_iff.1 hk).1
  have h2 : xs.drop k = x :: xs.drop (k + 1) := by
    rw [List.drop_eq_getElem_cons hkl]
    rw [List.getElem?_eq_getElem hkl] at hk
    rw [Option.some.inj hk]
  have h3 : ((flat enc xs).drop (k * sz))[j]? = (flat enc xs)[k * sz + j]? := by rw [List.getElem?_drop]
  rw [← h3, h1, h2, flat_cons, List.getElem?_append_left (by rw [he]; exact hj)]
theorem flat_at {enc : ε → List Value} {sz : Nat} (he : ∀ x, (enc x).length = sz) (xs : List ε) {k : Nat} {x : ε} (hk : xs[k]? = some x) : ((flat enc xs).drop (k * sz)).take sz = enc x := by
  have hkl := (List.getElem?_eq_some_iff.1 hk).1
  have h2 : xs.drop k = x :: xs.drop (k + 1) := by
    rw [List.drop_eq_getElem_cons hkl]
    rw [List.getElem?_eq_getElem hkl] at hk
    rw [Option.some.inj hk]
  rw [flat_drop he, h2, flat_cons, List.take_left' (he x)]

/-- A slice of things. -/
structure Sl (h : Heap) (sz : Nat) (enc : ε → List Value) (v : Value) (xs : List ε) : Prop where
  he : ∀ x, (enc x).length = sz
  is : (v = .slice none 0 0 ∧ xs = []) ∨ ∃ b o k, v = .slice (some ⟨b, o, none⟩) xs.length sz ∧ h[b]? = some k ∧ (k.cells.drop o).take (xs.length * sz) = flat enc xs ∧ o + xs.length * sz ≤ k.cells.length

theorem Sl.nil (h : Heap) {sz : Nat} {enc : ε → List Value} (he : ∀ x, (enc x).length = sz) : Sl h sz enc (.slice none 0 0) [] := ⟨he, .inl ⟨rfl, rfl⟩⟩
theorem Sl.part {h : Heap} {sz b o n : Nat} {enc : ε → List Value} {xs : List ε} {k : Blk} (he : ∀ x, (enc x).length = sz) (hb : h[b]? = some k) (hc : (k.cells.drop o).take (xs.length * sz) = flat enc xs) (hl : o + xs.length * sz ≤ k.cells.length) (hn : n = xs.length) :
    Sl h sz enc (.slice (some ⟨b, o, none⟩) n sz) xs := ⟨he, .inr ⟨b, o, k, by rw [hn], hb, hc, hl⟩⟩
theorem Sl.whole {h : Heap} {sz b n : Nat} {enc : ε → List Value} {xs : List ε} {k : Blk} (he : ∀ x, (enc x).length = sz) (hb : h[b]? = some k) (hc : k.cells = flat enc xs) (hn : n = xs.length) : Sl h sz enc (.slice (some ⟨b, 0, none⟩) n sz) xs :=
  Sl.part he hb (by rw [hc, List.drop_zero, ← flat_len he, List.take_length]) (by rw [hc, flat_len he]; omega) hn
theorem Sl.len {h : Heap} {sz : Nat} {enc : ε → List Value} {v : Value} {xs : List ε} (S : Sl h sz enc v xs) (k : Value → Option α) : lenS v k = k (.int .i64 xs.length) := by
  rcases S.is with ⟨rfl, rfl⟩ | ⟨b, o, kk, rfl, _⟩ <;> rfl
/-- Where a slice begins. -/
def slB : Value → Nat
  | .slice (some a) _ _ => a.block
  | _ => 0
def slO : Value → Nat
  | .slice (some a) _ _ => a.off
  | _ => 0
theorem Sl.ix {h : Heap} {sz : Nat} {enc : ε → List Value} {v : Value} {xs : List ε} (S : Sl h sz enc v xs) {i : Int} (h0 : 0 ≤ i) (h1 : i < xs.length) (k : Value → Option α) : ixS sz v i k = k (.pointer (some ⟨slB v, slO v + i.toNat * sz, none⟩)) := by
  rcases S.is with ⟨rfl, rfl⟩ | ⟨b, o, kk, rfl, _⟩
  · simp at h1; omega
  · exact ixS_p sz b o xs.length sz i k ⟨h0, h1⟩
theorem Sl.cell {h : Heap} {sz : Nat} {enc : ε → List Value} {v : Value} {xs : List ε} (S : Sl h sz enc v xs) {k j : Nat} {x : ε} (hk : xs[k]? = some x) (hj : j < sz) : rd h (slB v) (slO v + k * sz + j) = (enc x)[j]? := by
  have hkl := (List.getElem?_eq_some_iff.1 hk).1
  rcases S.is with ⟨rfl, rfl⟩ | ⟨b, o, kk, rfl, hb, hc, hl⟩
  · simp at hk
  · show rd h b (o + k * sz + j) = _
    rw [rd_at hb]
    have := flat_cell S.he xs hk hj
    rw [← hc, List.getElem?_take, List.getElem?_drop] at this
    have hlt : k * sz + j < xs.length * sz := by
      have : (k + 1) * sz ≤ xs.length * sz := Nat.mul_le_mul_right _ hkl
      rw [Nat.succ_mul] at this; omega
    rw [if_pos hlt, ← Nat.add_assoc] at this
    exact this
theorem Sl.elem {h : Heap} {sz : Nat} {enc : ε → List Value} {v : Value} {xs : List ε} (S : Sl h sz enc v xs) {k : Nat} {x : ε} (hk : xs[k]? = some x) : rdN h (slB v) (slO v + k * sz) sz = some (enc x) := by
  have hkl := (List.getElem?_eq_some_iff.1 hk).1
  rcases S.is with ⟨rfl, rfl⟩ | ⟨b, o, kk, rfl, hb, hc, hl⟩
  · simp at hk
  · show rdN h b (o + k * sz) sz = _
    have hlt : k * sz + sz ≤ xs.length * sz := by
      have : (k + 1) * sz ≤ xs.length * sz := Nat.mul_le_mul_right _ hkl
      rw [Nat.succ_mul] at this; omega
    rw [rdN_at hb (by omega)]
    have := flat_at S.he xs hk
    rw [← hc, List.drop_take, List.take_take, List.drop_drop, Nat.min_eq_left (by omega)] at this
    rw [this]
/-- A slice is what it is in a heap with the same block. -/
theorem Sl.heap {h h' : Heap} {sz : Nat} {enc : ε → List Value} {v : Value} {xs : List ε} (S : Sl h sz enc v xs) (hh : slB v < h.length → h'[slB v]? = h[slB v]?) : Sl h' sz enc v xs := by
  refine ⟨S.he, ?_⟩
  rcases S.is with ⟨rfl, rfl⟩ | ⟨b, o, kk, rfl, hb, hc, hl⟩
  · exact .inl ⟨rfl, rfl⟩
  · exact .inr ⟨b, o, kk, rfl, (hh (List.getElem?_eq_some_iff.1 hb).1).trans hb, hc, hl⟩
theorem Sl.app {h : Heap} {bs : List Blk} {sz : Nat} {enc : ε → List Value} {v : Value} {xs : List ε} (S : Sl h sz enc v xs) : Sl (h ++ bs) sz enc v xs := S.heap fun hb => List.getElem?_append_left hb
theorem Sl.lt {h : Heap} {sz : Nat} {enc : ε → List Value} {v : Value} {xs : List ε} (S : Sl h sz enc v xs) (hx : xs ≠ []) : slB v < h.length := by
  rcases S.is with ⟨rfl, rfl⟩ | ⟨b, o, kk, rfl, hb, hc, hl⟩
  · exact absurd rfl hx
  · exact (List.getElem?_eq_some_iff.1 hb).1
end Go.Det
namespace Go.Det
variable {P : Program} {ε : Type}
/-- The blocks below a number are as they were. -/
structure Old (n : Nat) (h h' : Heap) : Prop where
  len : h.length ≤ h'.length
  old : ∀ b, b < n → h'[b]? = h[b]?
theorem Old.refl (n : Nat) (h : Heap) : Old n h h := ⟨Nat.le_refl _, fun _ _ => rfl⟩
theorem Old.trans {n : Nat} {h h' h'' : Heap} (a : Old n h h') (b : Old n h' h'') : Old n h h'' := ⟨Nat.le_trans a.len b.len, fun x hx => (b.old x hx).trans (a.old x hx)⟩
theorem Old.app {n : Nat} {h : Heap} (bs : Heap) (hn : n ≤ h.length) : Old n h (h ++ bs) := ⟨by simp, fun b hb => List.getElem?_append_left (by omega)⟩
theorem Old.mono {m n : Nat} {h h' : Heap} (a : Old n h h') (hm : m ≤ n) : Old m h h' := ⟨a.len, fun b hb => a.old b (by omega)⟩
/-- A slice that may be appended to. -/
structure SlO (h : Heap) (n0 sz : Nat) (enc : ε → List Value) (v : Value) (xs : List ε) : Prop where
  sl : Sl h sz enc v xs
  own : v = .slice none 0 0 ∨ (n0 ≤ slB v ∧ ∃ cs, h[slB v]? = some (.own cs))
theorem SlO.nil (h : Heap) (n0 : Nat) {sz : Nat} {enc : ε → List Value} (he : ∀ x, (enc x).length = sz) : SlO h n0 sz enc (.slice none 0 0) [] := ⟨Sl.nil h he, .inl rfl⟩
theorem append_own {md : Md} {h : Heap} {n0 sz bytes : Nat} {enc : ε → List Value} {s : Value} {xs ys : List ε} {ty e : TypeId} {z cs : List Value} (T : SlT P ty e sz bytes z) (S : SlO h n0 sz enc s xs) (hro : md.ro ≤ n0) (hn0 : n0 ≤ h.length)
    (hcs : cs = flat enc ys) (hys : 0 < ys.length) (hcell : cs.all isCell = true) (hlen : (xs.length + ys.length) * bytes ≤ 140737488355328) :
    ∃ v' h', (∀ {α : Type} (k : Value → Heap → Option α), aBuiltin P md .append #[ty, ty] [s, .slice (some ⟨h.length, 0, none⟩) ys.length sz] (h ++ [.own cs]) k = k v' h') ∧ SlO h' n0 sz enc v' (xs ++ ys) ∧ Old n0 h h' := by
  have he := S.sl.he
  have hl : cs.length = ys.length * sz := by rw [hcs, flat_len he]
  have hrd : rdN (h ++ [Blk.own cs]) h.length 0 (ys.length * sz) = some cs := by
    rw [rdN_new0, rdN_zero]
    simp [Blk.cells, hl, List.take_of_length_le]
  have new : ∀ (h1 : Heap) (l : List Value), l = flat enc (xs ++ ys) → SlO (h1 ++ [.own l]) n0 sz enc (.slice (some ⟨h1.length, 0, none⟩) (xs.length + ys.length) sz) (xs ++ ys) ∨ h1.length < n0 := by
    intro h1 l hl
    by_cases hn : n0 ≤ h1.length
    · left
      have hb : (h1 ++ [Blk.own l])[h1.length]? = some (.own l) := by simp
      exact ⟨Sl.whole he hb hl (by simp), .inr ⟨hn, l, hb⟩⟩
    · right; omega
  obtain ⟨j, hj, e1, e2⟩ := T.info
  rcases S.sl.is with ⟨rfl, rfl⟩ | ⟨b, o, kk, rfl, hb, hc, hl2⟩
  · refine ⟨.slice (some ⟨(h ++ [Blk.own cs]).length, 0, none⟩) ys.length sz, (h ++ [Blk.own cs]) ++ [.own cs], fun k => ?_, ?_, ?_⟩
    · simp only [aBuiltin]
      unfold aAppend
      simp only [T.hu, hj, T.hz, e1, e2, srcCells, hrd]
      rw [if_pos ⟨T.hs, T.hl, T.hb⟩, if_neg (by omega), if_pos ⟨by simpa using hlen, hcell⟩, if_pos (by simp)]
    · have := (new (h ++ [Blk.own cs]) cs (by simpa using hcs)).resolve_right (by simp; omega)
      simpa using this
    · exact (Old.app [Blk.own cs] hn0).trans (Old.app [Blk.own cs] (by simp; omega))
  · obtain ⟨hn, cs0, hown⟩ := S.own.resolve_left (by simp)
    have hbl : b < h.length := (List.getElem?_eq_some_iff.1 hb).1
    simp only [slB] at hn hown
    have hk : kk = .own cs0 := by rw [hb] at hown; exact Option.some.inj hown
    subst hk
    have hb' : (h ++ [Blk.own cs])[b]? = some (.own cs0) := by rw [List.getElem?_append_left hbl]; exact hb
    simp only [Blk.cells] at hc hl2
    refine ⟨.slice (some ⟨(h ++ [Blk.own cs]).length, 0, none⟩) (xs.length + ys.length) sz, (h ++ [Blk.own cs]).set b .dead ++ [.own ((cs0.drop o).take (xs.length * sz) ++ cs)], fun k => ?_, ?_, ?_⟩
    · exact append_p T hb' hl2 (by omega) hys hrd hcell hlen k
    · have := (new ((h ++ [Blk.own cs]).set b .dead) ((cs0.drop o).take (xs.length * sz) ++ cs) (by rw [hc, hcs, flat_app])).resolve_right (by simp; omega)
      simpa using this
    · refine ⟨by simp; omega, fun x hx => ?_⟩
      rw [List.getElem?_append_left (by simp; omega), List.getElem?_set_ne (by omega), List.getElem?_append_left (by omega)]
end Go.Det
