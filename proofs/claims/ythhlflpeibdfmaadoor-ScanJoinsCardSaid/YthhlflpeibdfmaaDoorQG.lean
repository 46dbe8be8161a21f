/- Scanning: what is known of the library's table of powers of ten; numbers' texts and joined texts by their contracts. -/
import Derived.Test.YthhlflpeibdfmaaDoorQE
import Derived.Test.YthhlflpeibdfmaaDoorQS
import Derived.Test.YthhlflpeibdfmaaDoorDetM
import Derived.Test.YthhlflpeibdfmaaDoorDetP
import Derived.Lib.LaidTab
import Derived.Lib.AppendIntMem
import Derived.Stop.LaidErr
set_option autoImplicit false
set_option linter.unusedVariables false
set_option linter.unusedSimpArgs false
namespace Go.Det.E
open Go.Proofs Go.Det
open Go.RowKit (Below)
variable {nm : String}
def tabP (b : Nat) (hp : Array Obj) : Prop := 1 < b ∧ ∃ e fz, hp[1]? = some (.cells (Lib.pow10Tab.map fun z => Value.int .u64 z).toArray e fz)
abbrev Gl03 : Gl := ⟨tabP, fun {b hp hp'} h _ hk => ⟨h.1, by obtain ⟨e, fz, h2⟩ := h.2; exact ⟨e, fz, (hk 1 h.1).trans h2⟩⟩, fun {b b' hp} h hb _ => ⟨Nat.lt_of_lt_of_le h.1 hb, h.2⟩⟩
theorem tab_of (gTab : Tryd.prog.globalNamed nm = some 1) {b : Nat} {w : World} (h : tabP b w.heap) : Lib.TabIs Tryd.prog w nm .u64 Lib.pow10Tab := by
  obtain ⟨_, e, fz, h2⟩ := h
  unfold Lib.TabIs World.var?
  rw [gTab]
  simp only [Option.bind_some, h2]
theorem tab_to (gTab : Tryd.prog.globalNamed nm = some 1) {w : World} (h : Lib.TabIs Tryd.prog w nm .u64 Lib.pow10Tab) : tabP w.heap.size w.heap := by
  unfold Lib.TabIs World.var? at h
  rw [gTab] at h
  simp only [Option.bind_some] at h
  split at h
  · rename_i cs e fz h2
    cases h
    exact ⟨(Array.getElem?_eq_some_iff.1 h2).1, e, fz, h2⟩
  · cases h
/-- From a row's list of what is laid. -/
theorem tab_laid (gTab : Tryd.prog.globalNamed nm = some 1) {w : World} {x y : String × DataW Unit} {r : List (String × DataW Unit)} (h : laidMet Tryd.prog (x :: y :: (nm, Lib.tabData .u64 Lib.pow10Tab) :: r) w) : Gl03.p w.heap.size w.heap :=
  tab_to gTab (Lib.tabIs_of_head gTab (t := 87) (e := 81) (n := 20) (by kernel_rfl) (by kernel_rfl) (by kernel_rfl) (by kernel_rfl) (by kernel_rfl) h.tail.tail)
theorem strsOf_eq : ∀ {l : List Value} {xs : List ByteArray}, strsOf l = some xs → l = xs.map fun s => .string s := by
  intro l
  induction l with
  | nil => intro xs h; cases h; rfl
  | cons v l ih =>
    intro xs h
    cases v <;> (try (simp [strsOf] at h; done))
    rename_i s
    simp only [strsOf] at h
    split at h
    · rename_i ys hy
      cases h
      rw [ih hy]; rfl
    · cases h
theorem ext_join {h : Heap} {a s v : Value} (hx : extJoin h a s = some v) {ρ : Ren} {base : Nat} {β : Nat → Nat} {lim : Nat} {w : World} {cargs : Array Value} (H : @HR Gl03 base ρ β lim h w) (hl : LRel ρ h.length [a, s] cargs.toList) :
    Calls Tryd.prog 23 cargs w fun e w' => e = .returned v ∧ Below w.heap.size w w' := by
  letI := Gl03
  obtain ⟨c, r, e, hv, hr⟩ := hl.cons_inv
  obtain ⟨c', r', rfl, hv', hr'⟩ := hr.cons_inv
  obtain rfl := hr'.nil_inv
  have ec : cargs = #[c, c'] := Array.toList_inj.1 e
  rw [ec]
  unfold extJoin at hx
  split at hx
  · rename_i sep
    cases hx
    rw [hv'.scalar_eq rfl, hv.scalar_eq rfl]
    exact (Tryd.strings_Join_none none 0 sep w).mono fun e w' ⟨he, hw⟩ => ⟨he, hw ▸ Below.refl _ _⟩
  · rename_i b o n sep
    rw [hv'.scalar_eq rfl]
    split at hx
    · rename_i l hrd
      split at hx
      · rename_i xs hxs
        split at hx
        · rename_i hlen
          cases hx
          obtain rfl := strsOf_eq hxs
          have hn : n = xs.length := by have := (rdN_get hrd).1; simpa using this.symm
          obtain ⟨l', g1, g2⟩ := H.rdN hrd
          have el : l' = xs.map fun s => .string s := g1.scalars (by simp [scalar])
          subst el
          cases hv with
          | sc v h => cases h
          | slice b o l c c' h hl h0 hc =>
            subst hn
            by_cases hx0 : xs = []
            · subst hx0
              exact (Tryd.strings_Join_none (some ⟨(ρ b).blk, (ρ b).off + o, none⟩) c' sep w).mono fun e w' ⟨he, hw⟩ => ⟨he, hw ▸ Below.refl _ _⟩
            · have hcell : ∀ (j : Nat) x, xs[j]? = some x → w.cell? ⟨(ρ b).blk, (ρ b).off + o + j, none⟩ = some (.string x) := fun j x hj => g2 j _ (by rw [List.getElem?_map, hj]; rfl)
              have hbk : (ρ b).blk < w.heap.size := by
                cases xs with
                | nil => exact absurd rfl hx0
                | cons x xs =>
                  obtain ⟨arr, ty, fz, q, _⟩ := cell?_block (hcell 0 x rfl)
                  exact (Array.getElem?_eq_some_iff.1 q).1
              exact Tryd.strings_Join (ρ b).blk ((ρ b).off + o) c' xs sep w hcell hbk hlen.1 hl hlen.2
          | slice0 b o c a h =>
            have hx0 : xs = [] := List.length_eq_zero_iff.1 hn.symm
            subst hx0
            exact (Tryd.strings_Join_none (some a) 0 sep w).mono fun e w' ⟨he, hw⟩ => ⟨he, hw ▸ Below.refl _ _⟩
        · cases hx
      · cases hx
    · cases hx
  · cases hx
theorem ext_ok : @ExtOk Gl03 Tryd.prog cfg := by
  letI := Gl03
  intro f args h v hx _
  replace hx : extX f args h = some v := hx
  unfold extX at hx
  split at hx
  case h_3 => cases hx
  case h_2 =>
    rename_i a s
    cases hf : Nat.beq f 23
    · rw [hf] at hx; cases hx
    rw [hf] at hx
    obtain rfl := Nat.eq_of_beq_eq_true hf
    exact ⟨⟨Tryd.f23, Tryd.func23, by kernel_rfl, by kernel_rfl⟩, fun base ρ β lim w cargs H hl => ext_join hx H hl⟩
  rename_i a
  cases hf : Nat.beq f 29
  · rw [hf] at hx; cases hx
  rw [hf] at hx
  obtain rfl := Nat.eq_of_beq_eq_true hf
  replace hx : extItoa a = some v := hx
  unfold extItoa at hx
  split at hx
  case h_2 => cases hx
  rename_i n
  split at hx
  case isFalse => cases hx
  rename_i hn
  rw [itoaF_eq hn.1 hn.2] at hx
  cases hx
  refine ⟨⟨Tryd.f29, Tryd.func29, by kernel_rfl, by kernel_rfl⟩, fun base ρ β lim w cargs H hl => ?_⟩
  obtain ⟨c, r, e, hv, hr⟩ := hl.cons_inv
  rw [hr.nil_inv] at e
  rw [hv.int_inv] at e
  have ec : cargs = #[.int .i64 n] := Array.toList_inj.1 e
  rw [ec]
  refine (Any.strconv_Itoa Tryd.laysM171 n hn.1 hn.2 w (tab_of (by kernel_rfl) (b := base) H.mp.gl)).mono fun e w' hh => ?_
  obtain ⟨e1, k, os, rfl⟩ := hh
  exact ⟨e1, Lib.below_grow _ _ (Nat.le_refl _) _ _⟩
end Go.Det.E
