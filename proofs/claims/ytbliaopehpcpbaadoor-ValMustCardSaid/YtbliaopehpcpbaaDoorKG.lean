/- What is known of the library's table of powers of ten; numbers' texts by their contract. -/
import Derived.Test.YtbliaopehpcpbaaDoorE1
import Derived.Test.YtbliaopehpcpbaaDoorSh
import Derived.Test.YtbliaopehpcpbaaDoorKM
import Derived.Test.YtbliaopehpcpbaaDoorDetM
import Derived.Lib.LaidTab
import Derived.Lib.AppendIntMem
import Derived.Stop.LaidErr
set_option autoImplicit false
set_option linter.unusedVariables false
set_option linter.unusedSimpArgs false
namespace Go.Det.E
open Go.Proofs Go.Det
variable {nm : String}
def tabP (b : Nat) (hp : Array Obj) : Prop := 0 < b ∧ ∃ e fz, hp[0]? = some (.cells (Lib.pow10Tab.map fun z => Value.int .u64 z).toArray e fz)
abbrev Gl03 : Gl := ⟨tabP, fun {b hp hp'} h _ hk => ⟨h.1, by obtain ⟨e, fz, h2⟩ := h.2; exact ⟨e, fz, (hk 0 h.1).trans h2⟩⟩, fun {b b' hp} h hb _ => ⟨Nat.lt_of_lt_of_le h.1 hb, h.2⟩⟩
theorem tab_of (gTab : Tryd.prog.globalNamed nm = some 0) {b : Nat} {w : World} (h : tabP b w.heap) : Lib.TabIs Tryd.prog w nm .u64 Lib.pow10Tab := by
  obtain ⟨_, e, fz, h2⟩ := h
  unfold Lib.TabIs World.var?
  rw [gTab]
  simp only [Option.bind_some, h2]
theorem tab_to (gTab : Tryd.prog.globalNamed nm = some 0) {w : World} (h : Lib.TabIs Tryd.prog w nm .u64 Lib.pow10Tab) : tabP w.heap.size w.heap := by
  unfold Lib.TabIs World.var? at h
  rw [gTab] at h
  simp only [Option.bind_some] at h
  split at h
  · rename_i cs e fz h2
    cases h
    exact ⟨(Array.getElem?_eq_some_iff.1 h2).1, e, fz, h2⟩
  · cases h
/-- From a row's list of what is laid. -/
theorem tab_laid (gTab : Tryd.prog.globalNamed nm = some 0) {w : World} {x y : String × DataW Unit} {r : List (String × DataW Unit)} (h : laidMet Tryd.prog (x :: y :: (nm, Lib.tabData .u64 Lib.pow10Tab) :: r) w) : Gl03.p w.heap.size w.heap :=
  tab_to gTab (Lib.tabIs_of_head gTab (t := 60) (e := 53) (n := 20) (by kernel_rfl) (by kernel_rfl) (by kernel_rfl) (by kernel_rfl) (by kernel_rfl) h.tail.tail)
theorem num_ok {h : Heap} {a v : Value} (hx : extNum a = some v) {ρ : Ren} {n : Nat} {w : World} {c : Value} (hv : VRel ρ n a c) : Calls Tryd.prog 17 #[c] w fun e w' => e = .returned v ∧ RowKit.Below w.heap.size w w' := by
  unfold extNum at hx
  split at hx
  · cases hx
    rw [hv.scalar_eq rfl]
    exact Kmust.num_no _ (.inl rfl) w
  · rename_i t n
    obtain ⟨c', rfl, hc⟩ := hv.iface_some
    rw [hc.scalar_eq rfl]
    split at hx
    · rename_i ht
      cases hx; subst ht
      exact Kmust.num_yes n w
    · rename_i ht
      cases hx
      exact Kmust.num_no _ (.inr ⟨t, _, rfl, ht⟩) w
  · rename_i t u hne
    obtain ⟨c', rfl, hc⟩ := hv.iface_some
    split at hx
    · cases hx
    · rename_i ht
      cases hx
      exact Kmust.num_no _ (.inr ⟨t, _, rfl, ht⟩) w
  · cases hx
theorem str_ok {h : Heap} {a v : Value} (hx : extStr a = some v) {ρ : Ren} {n : Nat} {w : World} {c : Value} (hv : VRel ρ n a c) : Calls Tryd.prog 18 #[c] w fun e w' => e = .returned v ∧ RowKit.Below w.heap.size w w' := by
  unfold extStr at hx
  split at hx
  · cases hx
    rw [hv.scalar_eq rfl]
    exact Kmust.str_no _ (.inl rfl) w
  · rename_i t n
    obtain ⟨c', rfl, hc⟩ := hv.iface_some
    rw [hc.scalar_eq rfl]
    split at hx
    · rename_i ht
      cases hx; subst ht
      exact Kmust.str_yes n w
    · rename_i ht
      cases hx
      exact Kmust.str_no _ (.inr ⟨t, _, rfl, ht⟩) w
  · rename_i t u hne
    obtain ⟨c', rfl, hc⟩ := hv.iface_some
    split at hx
    · cases hx
    · rename_i ht
      cases hx
      exact Kmust.str_no _ (.inr ⟨t, _, rfl, ht⟩) w
  · cases hx
theorem ext_ok : @ExtOk Gl03 Tryd.prog cfg := by
  letI := Gl03
  intro f args h v hx _
  replace hx : extX f args h = some v := hx
  unfold extX at hx
  split at hx
  case h_2 => cases hx
  rename_i a
  cases hf : Nat.beq f 29
  · rw [hf] at hx
    simp only [cond_false] at hx
    cases hn : Nat.beq f 17
    · rw [hn] at hx
      simp only [cond_false] at hx
      cases hs : Nat.beq f 18
      · rw [hs] at hx; cases hx
      · rw [hs] at hx
        simp only [cond_true] at hx
        obtain rfl := Nat.eq_of_beq_eq_true hs
        refine ⟨⟨Tryd.f18, Tryd.func18, by kernel_rfl, by kernel_rfl⟩, fun base ρ β lim w cargs H hl => ?_⟩
        obtain ⟨c, r, e, hv, hr⟩ := hl.cons_inv
        rw [hr.nil_inv] at e
        have ec : cargs = #[c] := Array.toList_inj.1 e
        rw [ec]
        exact str_ok (h := h) hx hv
    · rw [hn] at hx
      simp only [cond_true] at hx
      obtain rfl := Nat.eq_of_beq_eq_true hn
      refine ⟨⟨Tryd.f17, Tryd.func17, by kernel_rfl, by kernel_rfl⟩, fun base ρ β lim w cargs H hl => ?_⟩
      obtain ⟨c, r, e, hv, hr⟩ := hl.cons_inv
      rw [hr.nil_inv] at e
      have ec : cargs = #[c] := Array.toList_inj.1 e
      rw [ec]
      exact num_ok (h := h) hx hv
  rw [hf] at hx
  simp only [cond_true] at hx
  obtain rfl := Nat.eq_of_beq_eq_true hf
  unfold extItoa at hx
  split at hx
  case h_2 => cases hx
  rename_i n
  split at hx
  case isFalse => cases hx
  rename_i hn
  cases hx
  refine ⟨⟨Tryd.f29, Tryd.func29, by kernel_rfl, by kernel_rfl⟩, fun base ρ β lim w cargs H hl => ?_⟩
  obtain ⟨c, r, e, hv, hr⟩ := hl.cons_inv
  rw [hr.nil_inv] at e
  rw [hv.int_inv] at e
  have ec : cargs = #[.int .i64 n] := Array.toList_inj.1 e
  rw [ec]
  refine (Any.strconv_Itoa Tryd.laysM171 n hn.1 hn.2 w (tab_of (by kernel_rfl) (b := base) H.mp.gl)).mono fun e w' hh => ?_
  obtain ⟨e1, k, os, rfl⟩ := hh
  exact ⟨e1, Lib.below_grow _ _ (Nat.le_refl _) _ _⟩
end Go.Det.E
