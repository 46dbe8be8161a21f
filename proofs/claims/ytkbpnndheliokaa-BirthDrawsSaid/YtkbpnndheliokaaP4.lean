/- A look tells what the document says that a cell means. -/
import Derived.Test.YtkbpnndheliokaaP3
set_option autoImplicit false
set_option linter.unusedVariables false
set_option linter.unusedSimpArgs false
namespace Go.Det.E
open Go.Proofs Go.Det
attribute [local congr] bind_c cond_c
variable {md : Md} {h hh h' : Heap} {a b k bv bm bl bw br : Nat} {l c l' c' : List Int} {v s z : Int}
theorem LSt.step5 (P : LSt h hh a b bv bm bl bw br v l c) (A : Ar h' a b l' c') (w : Wd l') (hlen : hh.length ≤ h'.length) (f : ∀ y, y < hh.length → y ≠ a → y ≠ b → (y = bv ∨ y = bm ∨ y = bl ∨ y = bw ∨ y = br) → h'[y]? = hh[y]?) : LSt h h' a b bv bm bl bw br v l' c' := by
  obtain ⟨d1, d2, d3, d4, d5⟩ := P.d
  exact ⟨A, w, P.vw, by rw [f _ (lt_of P.hv) d1.1 d1.2 (by simp)]; exact P.hv, by rw [f _ (lt_of P.hm) d2.1 d2.2 (by simp)]; exact P.hm, by rw [f _ (lt_of P.hl) d3.1 d3.2 (by simp)]; exact P.hl,
    by rw [f _ (lt_of P.hw) d4.1 d4.2 (by simp)]; exact P.hw, by rw [f _ (lt_of P.hr) d5.1 d5.2 (by simp)]; exact P.hr, ⟨Nat.le_trans P.g.1 hlen, P.g.2⟩, P.d⟩
theorem uB : Try.prog.underlying 4 = some .bool := by kernel_rfl
theorem Sx8 {t : Int} (h0 : 0 < t) (h1 : t ≤ 8) : Sx 8 t = t - 1 := by
  unfold Sx
  have : Bl (t - 1) 8 = true := Bl_t.2 ⟨by omega, by omega⟩
  rw [this]; rfl
end Go.Det.E
