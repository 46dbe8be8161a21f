/- The laws of the looks: what they begin with, and what a look tells. -/
import Derived.Test.YtkbpnndheliokaaP2
import Derived.Test.YtkbpnndheliokaaDetS
set_option autoImplicit false
set_option linter.unusedVariables false
set_option linter.unusedSimpArgs false
namespace Go.Det.E
open Go.Proofs Go.Det
attribute [local congr] bind_c cond_c
theorem cells42 (md : Md) (h : Heap) : C md 28 [(Value.agg #[(Value.int .i64 2), (Value.int .i64 0), (Value.int .i64 8)])] h = some ((Value.int .i64 42), h) := free_ok 100 100 (by kernel_rfl) (by kernel_rfl) md h
theorem rt208 : Rt 2 0 8 := by decide
variable {md : Md} {h hh h' : Heap} {a b k bv bm bl bw br : Nat} {l c l' c' : List Int} {v s : Int}
/-- What the law of the looks has in its blocks. -/
structure LSt (h hh : Heap) (a b bv bm bl bw br : Nat) (v : Int) (l c : List Int) : Prop where
  A : Ar hh a b l c
  w : Wd l
  vw : 0 ≤ v ∧ v < 18446744073709551616
  hv : hh[bv]? = some (.own [(Value.int .u64 v)])
  hm : hh[bm]? = some (.own [(Value.pointer (some ⟨a, 0, none⟩))])
  hl : hh[bl]? = some (.own [(Value.int .i64 2), (Value.int .i64 0), (Value.int .i64 8)])
  hw : hh[bw]? = some (.own [(Value.int .i64 (v / 65536 % 65536)), (Value.int .i64 (v % 65536)), (Value.int .i64 (v / 4294967296 % 256)), (Value.int .i64 (v / 1099511627776))])
  hr : hh[br]? = some (.own [(Value.bool (W.rightB v))])
  g : h.length ≤ hh.length ∧ h.length ≤ a ∧ h.length ≤ b ∧ h.length ≤ bv ∧ h.length ≤ bm ∧ h.length ≤ bl ∧ h.length ≤ bw ∧ h.length ≤ br
  d : (bv ≠ a ∧ bv ≠ b) ∧ (bm ≠ a ∧ bm ≠ b) ∧ (bl ≠ a ∧ bl ≠ b) ∧ (bw ≠ a ∧ bw ≠ b) ∧ (br ≠ a ∧ br ≠ b)
theorem LSt.step (P : LSt h hh a b bv bm bl bw br v l c) (A : Ar h' a b l' c') (w : Wd l') (hlen : hh.length ≤ h'.length) (f : ∀ y, y < hh.length → y ≠ a → y ≠ b → h'[y]? = hh[y]?) : LSt h h' a b bv bm bl bw br v l' c' := by
  obtain ⟨d1, d2, d3, d4, d5⟩ := P.d
  exact ⟨A, w, P.vw, by rw [f _ (lt_of P.hv) d1.1 d1.2]; exact P.hv, by rw [f _ (lt_of P.hm) d2.1 d2.2]; exact P.hm, by rw [f _ (lt_of P.hl) d3.1 d3.2]; exact P.hl,
    by rw [f _ (lt_of P.hw) d4.1 d4.2]; exact P.hw, by rw [f _ (lt_of P.hr) d5.1 d5.2]; exact P.hr, ⟨Nat.le_trans P.g.1 hlen, P.g.2⟩, P.d⟩
theorem mW_any {s' : Int} (hd : W.rightB v = false ∨ (v / 4294967296 % 256 == 0) = true) : mW v s = mW v s' := by
  unfold mW
  rcases hd with e | e
  · rw [e]; rfl
  · rw [e]; rfl
theorem mW_none (hd : W.rightB v = false) : mW v s = 0 := by unfold mW; rw [hd]; rfl
theorem mW_plain (hd : W.rightB v = true) (ht : (v / 4294967296 % 256 == 0) = true) : mW v s = v % 65536 := by unfold mW; rw [hd, ht]; rfl
theorem mW_word (hd : W.rightB v = true) (ht : (v / 4294967296 % 256 == 0) = false) : mW v s = mT (v / 65536 % 65536) (v % 65536) (v / 4294967296 % 256) (v / 1099511627776) s := by unfold mW; rw [hd, ht]; rfl
theorem clV_f {α : Type} {rc : Rec} {md : Md} {f : FuncId} {fs cs : Array Value} {args : List Value} {h : Heap} {k : Value → Heap → Option α} : clV rc md (.func (.func f) fs cs) args h k = cl (rc md f (fs.toList ++ args ++ cs.toList) h) k := rfl
end Go.Det.E
