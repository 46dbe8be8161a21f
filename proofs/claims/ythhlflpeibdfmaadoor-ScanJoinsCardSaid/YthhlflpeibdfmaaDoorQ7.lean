/- Scanning: what a row of like runes amounts to. -/
import Derived.Test.YthhlflpeibdfmaaDoorQ6
set_option autoImplicit false
set_option linter.unusedVariables false
set_option linter.unusedSimpArgs false
namespace Go.Det.E
open Go.Proofs Go.Det
open Go.Lib (decodeL)
attribute [local congr] bind_c cond_c
theorem encs_nil : encs [] = [] := rfl
theorem encs_app (t u : List Int) : encs (t ++ u) = encs t ++ encs u := by simp [encs]
theorem encs_one (r : Int) : encs [r] = (Utf8.encode r).data.toList := by simp [encs]
theorem enc_eq (r : Nat) (hr : r ≤ 1114111) : (Utf8.encode (r : Int)).data.toList = Lib.encodeRune (r : Int) := by
  have tb : ∀ (z : Int) (a : Nat), z = (a : Int) → z.toNat.toUInt8 = UInt8.ofNat a := fun z a h => by rw [h, Int.toNat_natCast]
  unfold Utf8.encode Lib.encodeRune
  by_cases hv : Utf8.valid (r : Int) = true
  · simp only [hv, if_true, Int.toNat_natCast]
    have hv' : r < 55296 ∨ 57344 ≤ r := by
      unfold Utf8.valid at hv
      simp at hv
      omega
    by_cases h1 : r < 128
    · rw [if_pos h1, Lib.encodeRuneZ_one (by omega) (by omega)]
      simp
    · rw [if_neg h1]
      by_cases h2 : r < 2048
      · rw [if_pos h2, Lib.encodeRuneZ_two (by omega) (by omega)]
        simp only [List.map_cons, List.map_nil]
        rw [tb _ (192 + r / 64) (by omega), tb _ (128 + r % 64) (by omega)]
      · rw [if_neg h2]
        by_cases h3 : r < 65536
        · rw [if_pos h3, Lib.encodeRuneZ_three (by omega)]
          simp only [List.map_cons, List.map_nil]
          rw [tb _ (224 + r / 4096) (by omega), tb _ (128 + r / 64 % 64) (by omega), tb _ (128 + r % 64) (by omega)]
        · rw [if_neg h3, Lib.encodeRuneZ_four (by omega) (by omega)]
          simp only [List.map_cons, List.map_nil]
          rw [tb _ (240 + r / 262144) (by omega), tb _ (128 + r / 4096 % 64) (by omega), tb _ (128 + r / 64 % 64) (by omega), tb _ (128 + r % 64) (by omega)]
  · have hv' : 55296 ≤ r ∧ r ≤ 57343 := by
      unfold Utf8.valid at hv
      simp at hv
      omega
    simp only [hv, Bool.false_eq_true, if_false]
    rw [Lib.encodeRuneZ_bad (by omega)]
    decide
theorem cls_five (r : Int) : cls r = 0 ∨ cls r = 1 ∨ cls r = 2 ∨ cls r = 3 ∨ cls r = 4 := by
  unfold cls
  repeat' split
  all_goals omega
theorem cls_bad : cls 65533 = 0 := by decide
/-- A rune that isn't wrong encodes to the bytes that it was read from. -/
theorem enc_back {l : List UInt8} (hne : l ≠ []) (hc : cls ((decodeL l).1 : Int) ≠ 0) : encs [((decodeL l).1 : Int)] = l.take (decodeL l).2 := by
  rw [encs_one, enc_eq _ (Lib.decodeL_rune l)]
  refine Lib.encode_decode l hne fun q => hc ?_
  rw [q.1]; exact cls_bad
theorem fin_neut {l : List Tok} {k : Int} (hk : k ≠ 2 ∧ k ≠ 3) (t : List Int) : fin l k t = some l := by unfold fin; rw [if_neg hk.1, if_neg hk.2]
/-- Behind a blank or a sign it's all one which it was. -/
theorem neut : ∀ (is : List (Nat × Nat)) (p : Nat) (l : List Tok) {k k' : Int} (f f' : Nat), (k = 0 ∨ k = 1 ∨ k = 4) → (k' = 0 ∨ k' = 1 ∨ k' = 4) → mach is p l k f [] = mach is p l k' f' [] := by
  intro is
  induction is with
  | nil => intro p l k k' f f' hk hk'; rw [mach, mach, fin_neut (by omega), fin_neut (by omega)]
  | cons x is ih =>
    obtain ⟨r, w⟩ := x
    intro p l k k' f f' hk hk'
    rw [mach, mach, fin_neut (by omega), fin_neut (by omega)]
    by_cases c0 : cls (r : Int) = 0
    · simp only [if_pos c0]; split <;> split <;> rfl
    · simp only [if_neg c0]
      by_cases c4 : cls (r : Int) = 4
      · simp only [if_pos c4]
        split <;> split <;> exact ih _ _ _ _ (by omega) (by omega)
      · simp only [if_neg c4]
        by_cases c23 : cls (r : Int) = 2 ∨ cls (r : Int) = 3
        · simp only [if_pos c23]
          rw [if_neg (by omega), if_neg (by omega)]
        · simp only [if_neg c23]
          by_cases c1 : cls (r : Int) = 1
          · split <;> split <;> exact ih _ _ _ _ (by omega) (by omega)
          · have := cls_five (r : Int)
            omega
def wid (ts : List (Nat × Nat)) : Nat := (ts.map (·.2)).sum
theorem wid_cons (x : Nat × Nat) (ts : List (Nat × Nat)) : wid (x :: ts) = x.2 + wid ts := by simp [wid]
def rns (ts : List (Nat × Nat)) : List Int := ts.map fun x => (x.1 : Int)
/-- A row of like runes. -/
theorem mach_run {k : Int} (hk : k = 2 ∨ k = 3) {rest : List (Nat × Nat)} (hrest : rest = [] ∨ ∃ y ys, rest = y :: ys ∧ cls (y.1 : Int) ≠ k) : ∀ (ts : List (Nat × Nat)) (p : Nat) (l : List Tok) (f : Nat) (t : List Int), (∀ x ∈ ts, cls (x.1 : Int) = k) →
    mach (ts ++ rest) p l k f t = (match fin l k (t ++ rns ts) with | none => ([], f, 41) | some l' => mach rest (p + wid ts) l' 1 0 []) := by
  intro ts
  induction ts with
  | nil =>
    intro p l f t _
    have e : t ++ rns [] = t := by simp [rns]
    rw [e, List.nil_append]
    rcases hrest with rfl | ⟨⟨r, w⟩, ys, rfl, hc⟩
    · rw [mach]
      cases fin l k t with
      | none => rfl
      | some l' => rfl
    · rw [mach, if_neg hc]
      cases fin l k t with
      | none => rfl
      | some l' =>
        show _ = mach ((r, w) :: ys) (p + 0) l' 1 0 []
        rw [neut ((r, w) :: ys) (p + 0) l' (k' := 0) 0 p (by omega) (by omega), mach, Nat.add_zero, fin_neut (by omega)]
        by_cases c0 : cls (r : Int) = 0
        · simp only [if_pos c0]
        · simp only [if_neg c0]
  | cons x ts ih =>
    obtain ⟨r, w⟩ := x
    intro p l f t hx
    have hr := hx (r, w) (List.mem_cons_self ..)
    have hr' : cls (r : Int) = k := hr
    rw [List.cons_append, mach, if_pos hr', if_neg (by omega), if_neg (by omega), if_pos (by omega), ih _ _ _ _ fun y hy => hx y (List.mem_cons_of_mem _ hy)]
    have e : t ++ [(r : Int)] ++ rns ts = t ++ rns ((r, w) :: ts) := by simp [rns]
    rw [e, wid_cons, Nat.add_assoc]
end Go.Det.E
