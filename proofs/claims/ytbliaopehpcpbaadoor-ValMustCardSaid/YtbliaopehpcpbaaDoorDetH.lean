/- Each operation of the frame beside the model's run of it: operators, conversions, built-in functions. -/
import Derived.Test.YtbliaopehpcpbaaDoorDetG
set_option autoImplicit false
set_option linter.unusedVariables false
set_option linter.unusedSimpArgs false
set_option linter.unusedSectionVars false
namespace Go.Det
open Go.RowKit (Below)

variable {P : Program} {base : Nat} {ρ : Ren} {β : Nat → Nat} {md : Md} {h : Heap} {w : World} {α : Type} {r : α} {n : Nat}

theorem VRel.ptr_some {a : Addr} {c : Value} (h : VRel ρ n (.pointer (some a)) c) : ∃ a', c = .pointer (some a') := by
  cases h with
  | sc _ h => simp [scalar] at h
  | ptr b o h => exact ⟨_, rfl⟩

theorem VRel.slice_some {a : Addr} {l k : Nat} {c : Value} (h : VRel ρ n (.slice (some a) l k) c) : ∃ a' l' k', c = .slice (some a') l' k' := by
  cases h with
  | sc _ h => simp [scalar] at h
  | slice => exact ⟨_, _, _, rfl⟩
  | slice0 => exact ⟨_, _, _, rfl⟩

theorem VRel.func_some {fn : Fn} {a b : Array Value} {c : Value} (h : VRel ρ n (.func fn a b) c) : ∃ a' b', c = .func fn a' b' ∧ LRel ρ n a.toList a'.toList ∧ LRel ρ n b.toList b'.toList := by
  cases h with
  | sc _ h => simp [scalar] at h
  | func fn fs cs fs' cs' h1 h2 h3 h4 => exact ⟨_, _, rfl, LRel.of_array h1 h2, LRel.of_array h3 h4⟩

theorem VRel.iface_some {t : TypeId} {v c : Value} (h : VRel ρ n (.iface t v) c) : ∃ c', c = .iface t c' ∧ VRel ρ n v c' := by
  cases h with
  | sc _ h => simp [scalar] at h
  | iface t v c h => exact ⟨_, rfl, h⟩

theorem eq_sound' (D : Nat) (hD : 8 ≤ D + 1) {ty : TypeId} {x y cx cy : Value} {b : Bool} (hx : VRel ρ n x cx) (hy : VRel ρ n y cy) (hb : aEq P ty x y = some b) (w : World) :
    (Op.equalIn (D + 1) ty cx cy).run P w = .ok b w := by
  unfold aEq at hb
  split at hb
  · rename_i p q
    rw [hx.bool_inv, hy.bool_inv]
    split at hb
    · rename_i hu; cases hb; rw [run_equalIn_bool' w _ ty p q hu]
    · cases hb
  · rw [hx.scalar_eq rfl, hy.scalar_eq rfl]
    split at hb
    · rename_i hu; cases hb; simp [Op.equalIn, run_underlying hu]
    · cases hb
  · obtain ⟨a', rfl⟩ := hy.ptr_some
    rw [hx.scalar_eq rfl]
    split at hb
    · rename_i hu; cases hb; simp [Op.equalIn, run_underlying hu]
    · cases hb
  · obtain ⟨a', rfl⟩ := hx.ptr_some
    rw [hy.scalar_eq rfl]
    split at hb
    · rename_i hu; cases hb; simp [Op.equalIn, run_underlying hu]
    · cases hb
  · rw [hx.scalar_eq rfl, hy.scalar_eq rfl]
    split at hb
    · rename_i hu; cases hb; simp [Op.equalIn, run_underlying hu]
    · cases hb
  · obtain ⟨a', l', k', rfl⟩ := hy.slice_some
    rw [hx.scalar_eq rfl]
    split at hb
    · rename_i hu; cases hb; simp [Op.equalIn, run_underlying hu]
    · cases hb
  · obtain ⟨a', l', k', rfl⟩ := hx.slice_some
    rw [hy.scalar_eq rfl]
    split at hb
    · rename_i hu; cases hb; simp [Op.equalIn, run_underlying hu]
    · cases hb
  · obtain ⟨a', b', rfl, _⟩ := hy.func_some
    rw [hx.scalar_eq rfl]
    split at hb
    · rename_i hu; cases hb; simp [Op.equalIn, run_underlying hu]
    · cases hb
  · obtain ⟨a', b', rfl, _⟩ := hx.func_some
    rw [hy.scalar_eq rfl]
    split at hb
    · rename_i hu; cases hb; simp [Op.equalIn, run_underlying hu]
    · cases hb
  · obtain ⟨a', rfl, _⟩ := hy.iface_some
    rw [hx.scalar_eq rfl]
    split at hb
    · rename_i hu; cases hb; simp [Op.equalIn, run_underlying hu]
    · cases hb
  · obtain ⟨a', rfl, _⟩ := hx.iface_some
    rw [hy.scalar_eq rfl]
    split at hb
    · rename_i hu; cases hb; simp [Op.equalIn, run_underlying hu]
    · cases hb
  · rename_i xs ys
    cases hg : P.eqGuardType P.depth ty
    · simp only [hg, cond_false] at hb
      split at hb
      · rename_i d hu
        cases ha : isAggD d
        · simp [ha] at hb
        · simp only [ha, cond_true] at hb
          split at hb
          · rename_i ks hk
            split at hb
            · rename_i hl
              obtain ⟨cxs, rfl, lx⟩ := hx.agg_inv
              obtain ⟨cys, rfl, ly⟩ := hy.agg_inv
              have := cellsEq_rel ks _ _ _ _ lx ly hb
              exact eqAt 8 ty ks hk (D + 1) cxs.toList cys.toList b _ _ hD (by rw [← lx.1]; exact hl.1) (by rw [← ly.1]; exact hl.2) this ⟨d, hu, .inl ⟨ha, by simp⟩⟩ ⟨d, hu, .inl ⟨ha, by simp⟩⟩ w
            · cases hb
          · cases hb
      · cases hb
    · simp [hg] at hb
  · cases hb

theorem eq_sound {ty : TypeId} {x y cx cy : Value} {b : Bool} (hx : VRel ρ n x cx) (hy : VRel ρ n y cy) (hb : aEq P ty x y = some b) (w : World) : (Op.equal ty cx cy).run P w = .ok b w :=
  eq_sound' 9999 (by omega) hx hy hb w

theorem run_eqGuard {op : BinOp} {ty : TypeId} {ox oy : Operand} {x y cx cy : Value} {b : Bool} (hx : VRel ρ n x cx) (hy : VRel ρ n y cy) (hb : aEq P ty x y = some b) (w : World) :
    (eqGuard op ty ox oy cx cy).run P w = .ok () w := by
  cases cx with
  | nilIface =>
    have : x = .nilIface := by cases hx <;> rfl
    subst this
    cases cy with
    | nilIface =>
      have : y = .nilIface := by cases hy <;> rfl
      subst this
      simp [aEq] at hb
    | _ => cases op <;> rfl
  | agg cxs =>
    cases cy with
    | agg cys =>
      have : ∃ xs ys, x = .agg xs ∧ y = .agg ys := by
        cases hx with
        | sc _ h => simp [scalar] at h
        | agg => cases hy with
          | sc _ h => simp [scalar] at h
          | agg => exact ⟨_, _, rfl, rfl⟩
      obtain ⟨xs, ys, rfl, rfl⟩ := this
      have hg : P.eqGuardType P.depth ty = false := by
        cases hg : P.eqGuardType P.depth ty
        · rfl
        · simp [aEq, hg] at hb
      exact run_eqGuard_agg w op ty ox oy cxs cys hg
    | _ => cases op <;> rfl
  | _ => cases op <;> rfl

theorem aEq_not {ty : TypeId} {x y : Value} {b : Bool} (hb : aEq P ty x y = some b) : (∀ k i, x ≠ .int k i) ∧ (∀ k i, y ≠ .int k i) ∧ (∀ a c, ¬ (x = .string a ∧ y = .string c) ∨ True) := by
  refine ⟨fun k i e => ?_, fun k i e => ?_, fun _ _ => .inr trivial⟩
  · subst e; simp [aEq] at hb
  · subst e; cases x <;> simp [aEq] at hb

theorem VRel.not_int {x c : Value} (h : VRel ρ n x c) (hx : ∀ k i, x ≠ .int k i) : ∀ k i, c ≠ .int k i := by
  intro k i e
  subst e
  cases h with
  | sc _ _ => exact hx _ _ rfl

theorem run_eql_gen {ty : TypeId} {x y cx cy : Value} {b : Bool} (hx : VRel ρ n x cx) (hy : VRel ρ n y cy) (hb : aEq P ty x y = some b) (hns : ∀ a, x ≠ .string a) (w : World) :
    (binOp .eql ty cx cy).run P w = .ok (.bool b) w ∧ (binOp .neq ty cx cy).run P w = .ok (.bool !b) w := by
  have he := eq_sound hx hy hb w
  have hnx := hx.not_int (aEq_not hb).1
  have hny := hy.not_int (aEq_not hb).2.1
  have e1 : binOp .eql ty cx cy = (do pure (.bool (← Op.equal ty cx cy))) := by
    cases hx with
    | sc v hs =>
      cases x <;> first | (simp [scalar] at hs; done) | exact absurd rfl (hns _) | exact absurd rfl (hnx _ _) | skip
      all_goals first | rfl | (cases cy <;> first | rfl | (simp [aEq] at hb; done) | skip)
      all_goals (cases hy; simp [aEq] at hb)
    | _ => first | rfl | (cases cy <;> rfl)
  have e2 : binOp .neq ty cx cy = (do pure (.bool (!(← Op.equal ty cx cy)))) := by
    cases hx with
    | sc v hs =>
      cases x <;> first | (simp [scalar] at hs; done) | exact absurd rfl (hns _) | exact absurd rfl (hnx _ _) | skip
      all_goals first | rfl | (cases cy <;> first | rfl | (simp [aEq] at hb; done) | skip)
      all_goals (cases hy; simp [aEq] at hb)
    | _ => first | rfl | (cases cy <;> rfl)
  rw [e1, e2]
  simp [he]

theorem bin_sound {op : BinOp} {ty : TypeId} {ox oy : Operand} {x y cx cy : Value} {k : Value → Option α} (hx : VRel ρ n x cx) (hy : VRel ρ n y cy) (hk : aBin P op ty x y k = some r) :
    Val P ρ n w (do eqGuard op ty ox oy cx cy; binOp op ty cx cy) k r := by
  unfold aBin at hk
  split at hk
  · rename_i ka a kb b
    rw [hx.int_inv, hy.int_inv]
    rw [eqGuard_at_int]
    split at hk
    · split at hk
      · rename_i v hv
        exact ⟨v, v, hk, by simp only [Sem.run_bind, Sem.run_pure, Result.andThen_ok, binOp_shl]; exact run_shift .shl ka kb a b hv, .sc v (by
          unfold shOp at hv; split at hv; · cases hv
          · cases hv; rfl)⟩
      · cases hk
    · split at hk
      · rename_i v hv
        exact ⟨v, v, hk, by simp only [Sem.run_bind, Sem.run_pure, Result.andThen_ok, binOp_shr]; exact run_shift .shr ka kb a b hv, .sc v (by
          unfold shOp at hv; split at hv; · cases hv
          · cases hv; rfl)⟩
      · cases hk
    · rename_i n1 n2
      split at hk
      · rename_i e; subst e
        split at hk
        · rename_i v hv
          refine ⟨v, v, hk, by simp only [Sem.run_bind, Sem.run_pure, Result.andThen_ok]; exact run_binOp_int op ty ka a b ⟨n1, n2⟩ hv, .sc v ?_⟩
          unfold intOp at hv
          split at hv <;> first | (cases hv; rfl) | (split at hv <;> cases hv; rfl) | cases hv
        · cases hk
      · cases hk
  · rename_i a b
    rw [hx.string_inv, hy.string_inv, eqGuard_at_string]
    split at hk <;> first | (cases hk; done) | skip
    · exact ⟨_, _, hk, by simp [binOp, Op.stringOp, ByteArray.toList_eq], .sc _ rfl⟩
    · exact ⟨_, _, hk, by simp [binOp, Op.stringOp, ByteArray.toList_eq], .sc _ rfl⟩
    · split at hk
      · cases hk
      · rename_i hle
        exact ⟨_, .string (a ++ b), hk, by simp only [Sem.run_bind, Sem.run_pure, Result.andThen_ok, binOp, Op.stringOp, if_neg hle], .sc _ rfl⟩
    · exact ⟨_, _, hk, by simp [binOp, Op.stringOp, ByteArray.toList_eq], .sc _ rfl⟩
    · exact ⟨_, _, hk, by simp [binOp, Op.stringOp, ByteArray.toList_eq], .sc _ rfl⟩
    · exact ⟨_, _, hk, by simp [binOp, Op.stringOp, ByteArray.toList_eq], .sc _ rfl⟩
    · exact ⟨_, _, hk, by simp [binOp, Op.stringOp, ByteArray.toList_eq], .sc _ rfl⟩
  · rename_i hni hns
    split at hk
    · split at hk
      · rename_i b hb
        refine ⟨_, .bool b, hk, ?_, .sc _ rfl⟩
        simp only [Sem.run_bind, run_eqGuard hx hy hb, Result.andThen_ok]
        refine (run_eql_gen hx hy hb (fun a e => ?_) w).1
        subst e
        unfold aEq at hb; split at hb <;> simp_all
      · cases hk
    · split at hk
      · rename_i b hb
        refine ⟨_, .bool !b, hk, ?_, .sc _ rfl⟩
        simp only [Sem.run_bind, run_eqGuard hx hy hb, Result.andThen_ok]
        refine (run_eql_gen hx hy hb (fun a e => ?_) w).2
        subst e
        unfold aEq at hb; split at hb <;> simp_all
      · cases hk
    · cases hk

theorem un_sound {op : UnOp} {x cx : Value} {k : Value → Option α} (hx : VRel ρ n x cx) (hk : aUn op x k = some r) : Val P ρ n w (Op.unary op cx) k r := by
  unfold aUn at hk
  split at hk
  · rw [hx.int_inv]; exact ⟨_, _, hk, by simp [Op.unary, Op.intArith], .sc _ rfl⟩
  · rw [hx.bool_inv]; exact ⟨_, _, hk, by simp [Op.unary], .sc _ rfl⟩
  · rw [hx.int_inv]; exact ⟨_, _, hk, by simp [Op.unary, Op.intBits], .sc _ rfl⟩
  · cases hk

theorem conv_sound {src dst : TypeId} {x cx : Value} {k : Value → Option α} (hx : VRel ρ n x cx) (hk : aConv P src dst x k = some r) : Val P ρ n w (convert src dst cx) k r := by
  unfold aConv at hk
  split at hk
  · rename_i d kd k' m h1 h2
    rw [hx.int_inv]
    exact ⟨_, _, hk, by simp [convert, run_underlying h1, run_underlying h2, Conv.intToInt], .sc _ rfl⟩
  · rename_i d s h1 h2
    rw [hx.string_inv]
    exact ⟨_, .string s, hk, by simp [convert, run_underlying h1, run_underlying h2], .sc _ rfl⟩
  · rename_i k1 fk k' m h1 h2
    rw [hx.int_inv]
    exact ⟨_, _, hk, by simp [convert, run_underlying h1, run_underlying h2, Conv.intToFloat], .sc _ rfl⟩
  · rename_i k1 k' m h1 h2
    rw [hx.int_inv]
    exact ⟨_, _, hk, by simp [convert, run_underlying h1, run_underlying h2, Conv.intToString], .sc _ rfl⟩
  · cases hk

theorem len_sound {ty : TypeId} {x cx : Value} {tys : Array TypeId} {k : Value → Option α} (ht : tys[0]? = some ty) (hx : VRel ρ n x cx) (hk : aLen P ty x k = some r) (t : TypeId) :
    Val P ρ n w (Builtin.len_ tys t #[cx]) k r := by
  unfold aLen at hk
  split at hk
  · rename_i s hu
    rw [hx.string_inv]
    exact ⟨_, _, hk, by simp [Builtin.len_, ht, run_underlying hu, goInt], .sc _ rfl⟩
  · rename_i m e hu
    exact ⟨_, _, hk, by simp [Builtin.len_, ht, run_underlying hu, goInt], .sc _ rfl⟩
  · rename_i e a l c hu
    refine ⟨_, .int .i64 l, hk, ?_, .sc _ rfl⟩
    cases a with
    | none => rw [hx.scalar_eq rfl]; simp [Builtin.len_, ht, run_underlying hu, goInt]
    | some a =>
      cases hx with
      | sc _ h => simp [scalar] at h
      | slice => simp [Builtin.len_, ht, run_underlying hu, goInt]
      | slice0 => simp [Builtin.len_, ht, run_underlying hu, goInt]
  · cases hk

theorem foldO_run {f : Value → Value → Option Value} {g : Value → Value → Sem Value} (hf : ∀ x y v, f x y = some v → scalar x = true ∧ scalar y = true ∧ scalar v = true ∧ ∀ w, (g x y).run P w = .ok v w) :
    ∀ (xs cxs : List Value) (x cx v : Value), LRel ρ n xs cxs → VRel ρ n x cx → foldO f xs x = some v → ∃ cv, (cxs.foldlM g cx).run P w = .ok cv w ∧ VRel ρ n v cv := by
  intro xs
  induction xs with
  | nil =>
    intro cxs x cx v hl hx hv
    rw [hl.nil_inv]
    simp only [foldO] at hv; cases hv
    exact ⟨cx, by simp, hx⟩
  | cons y ys ih =>
    intro cxs x cx v hl hx hv
    obtain ⟨cy, cys, rfl, hy, hl'⟩ := hl.cons_inv
    simp only [foldO] at hv
    split at hv
    · rename_i u hu
      obtain ⟨s1, s2, s3, hg⟩ := hf _ _ _ hu
      rw [hx.scalar_eq s1, hy.scalar_eq s2]
      obtain ⟨cv, g1, g2⟩ := ih cys u u v hl' (.sc u s3) hv
      exact ⟨cv, by simp [hg w, g1], g2⟩
    · cases hv

theorem min_run (x y v : Value) (h : aMin2 x y = some v) : scalar x = true ∧ scalar y = true ∧ scalar v = true ∧ ∀ w, (Builtin.min2 x y).run P w = .ok v w := by
  unfold aMin2 at h
  split at h
  · cases h; exact ⟨rfl, rfl, rfl, fun w => by simp [Builtin.min2]⟩
  · cases h
theorem max_run (x y v : Value) (h : aMax2 x y = some v) : scalar x = true ∧ scalar y = true ∧ scalar v = true ∧ ∀ w, (Builtin.max2 x y).run P w = .ok v w := by
  unfold aMax2 at h
  split at h
  · cases h; exact ⟨rfl, rfl, rfl, fun w => by simp [Builtin.max2]⟩
  · cases h

end Go.Det
