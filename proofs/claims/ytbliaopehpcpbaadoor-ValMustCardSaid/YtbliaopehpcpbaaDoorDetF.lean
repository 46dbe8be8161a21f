/- Each operation of the frame beside the model's run of it: slices, numbers, comparisons, append. -/
import Derived.Test.YtbliaopehpcpbaaDoorDetE
import Derived.ChangeKeysEq
set_option autoImplicit false
set_option linter.unusedVariables false
set_option linter.unusedSimpArgs false
set_option linter.unusedSectionVars false
namespace Go.Det
open Go.RowKit (Below)

variable {P : Program} {base : Nat} {ρ : Ren} {β : Nat → Nat} {md : Md} {h : Heap} {w : World} {α : Type} {r : α} {n : Nat}

/-! ### Slicing -/

/-- Related bounds. -/
def ORel (ρ : Ren) (n : Nat) : Option Value → Option Value → Prop
  | none, none => True
  | some a, some b => VRel ρ n a b
  | _, _ => False

theorem ORel.int_inv {x : Option Value} {k : IntKind} {i : Int} (h : ORel ρ n (some (.int k i)) x) : x = some (.int k i) := by
  cases x with
  | none => exact h.elim
  | some v => rw [VRel.int_inv h]

theorem ORel.none_inv {x : Option Value} (h : ORel ρ n none x) : x = none := by
  cases x with
  | none => rfl
  | some v => exact h.elim

theorem run_sliceBound (i : Int) (y : Nat) (code : BoundsCode) (h0 : 0 ≤ i) (h1 : i ≤ y) (w : World) : (Instr.sliceBound (.int .i64 i) y code).run P w = .ok i.toNat w := by
  simp [Instr.sliceBound, asIntOf, h0, h1]

def lowOf : Option Value → Option Int
  | some (.int .i64 l) => some l
  | none => some 0
  | _ => none
def highOf (len : Nat) : Option Value → Option Int
  | some (.int .i64 r) => some r
  | none => some (len : Int)
  | _ => none

theorem lowOf_cases {lo clo : Option Value} {l : Int} (h : lowOf lo = some l) (hr : ORel ρ n lo clo) : (clo = none ∧ l = 0) ∨ clo = some (.int .i64 l) := by
  unfold lowOf at h
  split at h
  · cases h; exact .inr hr.int_inv
  · cases h; exact .inl ⟨hr.none_inv, rfl⟩
  · cases h

theorem highOf_cases {len : Nat} {lo clo : Option Value} {l : Int} (h : highOf len lo = some l) (hr : ORel ρ n lo clo) : (clo = none ∧ l = len) ∨ clo = some (.int .i64 l) := by
  unfold highOf at h
  split at h
  · cases h; exact .inr hr.int_inv
  · cases h; exact .inl ⟨hr.none_inv, rfl⟩
  · cases h

theorem run_sliceBounds2 {clo chi : Option Value} {l r : Int} (isS : Bool) (len cap : Nat) (hlo : (clo = none ∧ l = 0) ∨ clo = some (.int .i64 l))
    (hhi : (chi = none ∧ r = len) ∨ chi = some (.int .i64 r)) (h0 : 0 ≤ l) (hlr : l ≤ r) (hr : r ≤ len) (hc : len ≤ cap) (w : World) :
    (Instr.sliceBounds isS len cap clo chi none).run P w = .ok (l.toNat, r.toNat, cap) w := by
  have e1 : ∀ code, (Instr.sliceBound (.int .i64 r) cap code).run P w = .ok r.toNat w := fun code => run_sliceBound _ _ _ (by omega) (by omega) w
  have e2 : ∀ code, (Instr.sliceBound (.int .i64 l) r.toNat code).run P w = .ok l.toNat w := fun code => run_sliceBound _ _ _ h0 (by omega) w
  rcases hlo with ⟨rfl, rfl⟩ | rfl <;> rcases hhi with ⟨rfl, rfl⟩ | rfl
  · simp [Instr.sliceBounds]
  · simp [Instr.sliceBounds, e1]
  · simp only [Int.toNat_natCast] at e2
    simp [Instr.sliceBounds, e2]
  · simp [Instr.sliceBounds, e1, e2]

theorem slice_sound {ty : TypeId} {x cx : Value} {lo hi mx clo chi cmx : Option Value} {k : Value → Option α} (hx : VRel ρ n x cx) (hlo : ORel ρ n lo clo) (hhi : ORel ρ n hi chi)
    (hmx : ORel ρ n mx cmx) (hk : aSlice P ty x lo hi mx k = some r) : Val P ρ n w (Instr.sliceAt ty cx clo chi cmx) k r := by
  unfold aSlice at hk
  split at hk
  · rename_i e a len cap hu
    rw [hmx.none_inv]
    split at hk
    · rename_i j hj
      split at hk
      · rename_i l rr hl hr
        have hl' := lowOf_cases (lo := lo) (by unfold lowOf; exact hl) hlo
        have hr' := highOf_cases (len := len) (lo := hi) (by unfold highOf; exact hr) hhi
        split at hk
        · rename_i hb
          obtain ⟨b0, b1, b2, b3⟩ := hb
          split at hk
          · rename_i b o
            rcases hx.slice_inv with ⟨hbn, c', rfl, hlc, h0, hc⟩ | ⟨rfl, a', rfl⟩
            · have hbd := run_sliceBounds2 (P := P) true len c' hl' hr' b0 b1 b2 hlc w
              by_cases hcl : c' = l.toNat
              · refine ⟨_, .slice (some ⟨(ρ b).blk, (ρ b).off + o, none⟩) 0 0, hk, ?_, ?_⟩
                · rw [hcl] at hbd
                  simp [Instr.sliceAt, Instr.slice, run_underlying hu, hbd, run_sizeOf' hj, hcl]
                  omega
                · have : (rr - l).toNat = 0 := by omega
                  rw [this]; exact .slice0 b _ cap _ hbn
              · refine ⟨_, .slice (some ⟨(ρ b).blk, (ρ b).off + (o + l.toNat * j.size), none⟩) (rr - l).toNat (c' - l.toNat), hk, ?_, ?_⟩
                · simp [Instr.sliceAt, Instr.slice, run_underlying hu, hbd, run_sizeOf' hj, hcl, Addr.add_lit, Nat.add_assoc]
                  omega
                · refine .slice b _ _ cap _ hbn (by omega) (fun hz => by have := h0 hz; omega) (fun hz => ?_)
                  have hcap : cap = j.size := b3.resolve_left hz
                  subst hcap
                  have h2 := hc hz
                  have h3 : l.toNat * j.size + (c' - l.toNat) * j.size = c' * j.size := by
                    rw [← Nat.add_mul]; congr 1; omega
                  omega
            · obtain rfl : l = 0 := by omega
              obtain rfl : rr = 0 := by omega
              have hbd := run_sliceBounds2 (P := P) true 0 0 hl' hr' b0 b1 b2 (Nat.le_refl _) w
              refine ⟨_, _, hk, ?_, .slice0 b _ cap a' hx.slice_lt⟩
              simp [Instr.sliceAt, Instr.slice, run_underlying hu, hbd, run_sizeOf' hj]
          · have hcx : cx = .slice none len cap := hx.scalar_eq rfl
            subst hcx
            split at hk
            · rename_i hz
              obtain ⟨rfl, rfl⟩ := hz
              obtain rfl : l = 0 := by omega
              obtain rfl : rr = 0 := by omega
              have hbd := run_sliceBounds2 (P := P) true 0 0 hl' hr' b0 b1 b2 (Nat.le_refl _) w
              refine ⟨_, .slice none 0 0, hk, ?_, .sc _ rfl⟩
              simp [Instr.sliceAt, Instr.slice, run_underlying hu, hbd, run_sizeOf' hj]
            · cases hk
          · cases hk
        · cases hk
      · cases hk
    · cases hk
  · rename_i e a len cap m hu
    rw [hmx.int_inv]
    split at hk
    · rename_i rr
      rw [hlo.none_inv, hhi.int_inv]
      split at hk
      · rename_i hz
        obtain ⟨rfl, rfl⟩ := hz
        split at hk
        · rename_i j hj
          have e1 : ∀ y code, (Instr.sliceBound (.int .i64 0) y code).run P w = .ok 0 w := fun y code => run_sliceBound 0 y code (by omega) (by omega) w
          split at hk
          · rename_i b o
            rcases hx.slice_inv with ⟨hbn, c', rfl, hlc, h0, hc⟩ | ⟨rfl, a', rfl⟩
            · refine ⟨_, .slice (some ⟨(ρ b).blk, (ρ b).off + o, none⟩) 0 0, hk, ?_, .slice0 b o 0 _ hx.slice_lt⟩
              simp [Instr.sliceAt, Instr.slice, run_underlying hu, Instr.sliceBounds, e1, run_sizeOf' hj]
            · refine ⟨_, .slice (some a') 0 0, hk, ?_, .slice0 b o 0 _ hx.slice_lt⟩
              simp [Instr.sliceAt, Instr.slice, run_underlying hu, Instr.sliceBounds, e1, run_sizeOf' hj]
          · have hcx := hx.scalar_eq rfl
            subst hcx
            refine ⟨_, .slice none 0 0, hk, ?_, .sc _ rfl⟩
            simp [Instr.sliceAt, Instr.slice, run_underlying hu, Instr.sliceBounds, e1, run_sizeOf' hj]
          · cases hk
        · cases hk
      · cases hk
    · cases hk
  · rename_i s hu
    rw [hmx.none_inv, hx.string_inv]
    split at hk
    · rename_i l rr hl hr
      have hl' := lowOf_cases (lo := lo) (by unfold lowOf; exact hl) hlo
      have hr' := highOf_cases (len := s.size) (lo := hi) (by unfold highOf; exact hr) hhi
      split at hk
      · rename_i hb
        obtain ⟨b0, b1, b2⟩ := hb
        have hbd := run_sliceBounds2 (P := P) false s.size s.size hl' hr' b0 b1 b2 (Nat.le_refl _) w
        refine ⟨_, _, hk, ?_, .sc _ rfl⟩
        simp [Instr.sliceAt, Instr.slice, run_underlying hu, hbd]
      · cases hk
    · cases hk
  · cases hk

/-! ### Numbers, bools, strings -/

theorem run_binOp_int (op : BinOp) (ty : TypeId) (k : IntKind) (a b : Int) {v : Value} (hs : op ≠ .shl ∧ op ≠ .shr) (hv : intOp op a b k = some v) :
    (binOp op ty (.int k a) (.int k b)).run P w = .ok v w := by
  cases op <;> simp only [intOp] at hv
  case quo =>
    split at hv
    · cases hv
    · rename_i hb; cases hv; simp [binOp_quo, Op.intDiv, hb]
  case rem =>
    split at hv
    · cases hv
    · rename_i hb; cases hv; simp [binOp_rem, Op.intDiv, hb]
  case shl => exact absurd rfl hs.1
  case shr => exact absurd rfl hs.2
  all_goals (cases hv; simp [binOp, Op.intArith, Op.intBits, Op.intCmp])

theorem run_shift (op : BinOp) (k yk : IntKind) (a b : Int) {v : Value} (hv : shOp op a b k = some v) : (Op.shift op k a yk b).run P w = .ok v w := by
  unfold shOp at hv
  split at hv
  · cases hv
  · rename_i hb
    cases op <;> simp only [] at hv <;> first | (cases hv; done) | (cases hv; simp [Op.shift, hb])

theorem bif_mono {γ : Type} {q : Bool} {A A' B : Option γ} {r : Option γ} (h : (bif q then A else B) = r) (hA : A = r → A' = r) : (bif q then A' else B) = r := by
  cases q
  · exact h
  · exact hA h

/-- The comparison of the frame is the model's. -/
theorem cellsEq_rel : ∀ (ks : List CK) (xs ys cxs cys : List Value) {b : Bool}, LRel ρ n xs cxs → LRel ρ n ys cys → cellsEq ks xs ys = some b → cellsEq ks cxs cys = some b := by
  intro ks
  induction ks with
  | nil =>
    intro xs ys cxs cys b hx hy hb
    cases xs <;> cases ys <;> simp only [cellsEq] at hb <;> first | (cases hb; done) | skip
    rw [hx.nil_inv, hy.nil_inv]; exact hb
  | cons k ks ih =>
    intro xs ys cxs cys b hx hy hb
    cases xs with
    | nil => cases k <;> simp [cellsEq] at hb
    | cons x xs =>
      cases ys with
      | nil => cases k <;> cases x <;> simp [cellsEq] at hb
      | cons y ys =>
        obtain ⟨cx, cxs, rfl, h1, h2⟩ := hx.cons_inv
        obtain ⟨cy, cys, rfl, h3, h4⟩ := hy.cons_inv
        have ih' := ih xs ys cxs cys (b := b) h2 h4
        cases k <;> cases x <;> cases y <;> simp only [cellsEq] at hb <;> (try (cases hb; done))
        all_goals
          rw [h1.scalar_eq rfl, h3.scalar_eq rfl]
          simp only [cellsEq]
        · split at hb
          · rename_i hk; rw [if_pos hk]; exact bif_mono hb ih'
          · cases hb
        · exact bif_mono hb ih'
        · exact bif_mono hb ih'

theorem bif_app {q : Bool} {A A' : Option Bool} {C : Option Bool} (h : A' = match A with | some true => C | some false => some false | none => none) :
    (bif q then A' else some false) = match (bif q then A else some false) with | some true => C | some false => some false | none => none := by
  cases q
  · rfl
  · exact h

theorem cellsEq_append : ∀ (ks ks' : List CK) (xs xs' ys ys' : List Value), xs.length = ks.length → ys.length = ks.length →
    cellsEq (ks ++ ks') (xs ++ xs') (ys ++ ys') = match cellsEq ks xs ys with | some true => cellsEq ks' xs' ys' | some false => some false | none => none := by
  intro ks
  induction ks with
  | nil =>
    intro ks' xs xs' ys ys' h1 h2
    rw [List.length_eq_zero_iff.1 h1, List.length_eq_zero_iff.1 h2]; rfl
  | cons k ks ih =>
    intro ks' xs xs' ys ys' h1 h2
    cases xs with
    | nil => simp at h1
    | cons x xs =>
      cases ys with
      | nil => simp at h2
      | cons y ys =>
        have ih' := ih ks' xs xs' ys ys' (by simpa using h1) (by simpa using h2)
        cases k <;> cases x <;> cases y <;> simp only [List.cons_append, cellsEq]
        · split
          · exact bif_app ih'
          · rfl
        · exact bif_app ih'
        · exact bif_app ih'

theorem bif_true {q : Bool} {A : Option Bool} (h : (bif q then A else some false) = some true) : A = some true := by
  cases q
  · cases h
  · exact h

theorem cellsEq_len : ∀ (ks : List CK) (xs ys : List Value), cellsEq ks xs ys = some true → xs.length = ks.length ∧ ys.length = ks.length := by
  intro ks
  induction ks with
  | nil => intro xs ys h; cases xs <;> cases ys <;> simp [cellsEq] at h ⊢
  | cons k ks ih =>
    intro xs ys h
    cases xs with
    | nil => cases k <;> simp [cellsEq] at h
    | cons x xs =>
      cases ys with
      | nil => cases k <;> cases x <;> simp [cellsEq] at h
      | cons y ys =>
        have : cellsEq ks xs ys = some true := by
          cases k <;> cases x <;> cases y <;> simp only [cellsEq] at h <;> (try (cases h; done))
          · split at h
            · exact bif_true h
            · cases h
          · exact bif_true h
          · exact bif_true h
        obtain ⟨h1, h2⟩ := ih xs ys this
        simp [h1, h2]

end Go.Det
