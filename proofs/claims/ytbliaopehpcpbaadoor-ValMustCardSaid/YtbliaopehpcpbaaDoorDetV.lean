/- Laws of slices: made, appended to. -/
import Derived.Test.YtbliaopehpcpbaaDoorDetR
set_option autoImplicit false
set_option linter.unusedVariables false
set_option linter.unusedSimpArgs false
namespace Go.Det
variable {P : Program} {α : Type}

/-- What is known of a slice's type. -/
structure SlT (P : Program) (ty e : TypeId) (size bytes : Nat) (z : List Value) : Prop where
  hu : P.underlying ty = some (.slice e)
  hi : (P.info? e).map (fun j => (j.size, j.bytes)) = some (size, bytes)
  hz : zeroOf P e = some z
  hl : z.length = size
  hs : 0 < size
  hb : 0 < bytes
  hsc : z.all scalar = true

theorem SlT.info {ty e : TypeId} {size bytes : Nat} {z : List Value} (T : SlT P ty e size bytes z) : ∃ j, P.info? e = some j ∧ j.size = size ∧ j.bytes = bytes := by
  have := T.hi
  cases h : P.info? e with
  | none => rw [h] at this; cases this
  | some j => rw [h] at this; simp at this; exact ⟨j, rfl, this.1, this.2⟩

theorem make_p {ty e : TypeId} {size bytes : Nat} {z : List Value} (T : SlT P ty e size bytes z) {n c : Int} (h0 : 0 ≤ n) (h1 : n ≤ c) (h2 : bytes * c ≤ 140737488355328) (h3 : c ≤ 9223372036854775807) (h : Heap) (k : Value → Heap → Option α) :
    aMakeSlice P ty (.int .i64 n) (.int .i64 c) h k = k (.slice (some ⟨h.length, 0, none⟩) n.toNat size) (h ++ [.own (repL n.toNat z)]) := by
  obtain ⟨j, hj, e1, e2⟩ := T.info
  unfold aMakeSlice
  simp only [T.hu, hj, T.hz, e1, e2]
  rw [if_pos ⟨T.hl.symm, T.hs, T.hsc⟩, if_pos ⟨h0, h1, h3, h2⟩]

theorem append_p {ty e : TypeId} {size bytes : Nat} {z : List Value} (T : SlT P ty e size bytes z) {md : Md} {h : Heap} {b o len n b' o' cap' : Nat} {cs l : List Value} (hb : h[b]? = some (.own cs)) (hl : o + len * size ≤ cs.length) (hro : md.ro ≤ b)
    (hn : 0 < n) (hr : rdN h b' o' (n * size) = some l) (hc : l.all isCell = true) (hz : (len + n) * bytes ≤ 140737488355328) (k : Value → Heap → Option α) :
    aBuiltin P md .append #[ty, ty] [.slice (some ⟨b, o, none⟩) len size, .slice (some ⟨b', o', none⟩) n cap'] h k =
      k (.slice (some ⟨h.length, 0, none⟩) (len + n) size) (h.set b .dead ++ [.own ((cs.drop o).take (len * size) ++ l)]) := by
  obtain ⟨j, hj, e1, e2⟩ := T.info
  have hs := T.hs
  simp only [aBuiltin]
  unfold aAppend
  simp only [T.hu, hj, T.hz, e1, e2, srcCells, hr]
  rw [if_pos ⟨T.hs, T.hl, T.hb⟩, if_neg (by omega), if_pos ⟨hz, hc⟩, if_neg (by omega), if_pos trivial]
  simp only [hb]
  rw [if_pos ⟨hl, hro⟩]
theorem append_0 {ty e : TypeId} {size bytes : Nat} {z : List Value} (T : SlT P ty e size bytes z) {md : Md} {h : Heap} {b o len cap b' o' cap' : Nat} (hr : rdN h b' o' 0 = some []) (k : Value → Heap → Option α) :
    aBuiltin P md .append #[ty, ty] [.slice (some ⟨b, o, none⟩) len cap, .slice (some ⟨b', o', none⟩) 0 cap'] h k = k (.slice (some ⟨b, o, none⟩) len cap) h := by
  obtain ⟨j, hj, e1, e2⟩ := T.info
  simp only [aBuiltin]
  unfold aAppend
  simp only [T.hu, hj, T.hz, e1, e2, srcCells, Nat.zero_mul, hr]
  rw [if_pos ⟨T.hs, T.hl, T.hb⟩, if_pos trivial]
end Go.Det
