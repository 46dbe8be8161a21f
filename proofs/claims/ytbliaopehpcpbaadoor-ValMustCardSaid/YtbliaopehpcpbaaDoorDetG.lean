/- Each operation of the frame beside the model's run of it: comparisons. -/
import Derived.Test.YtbliaopehpcpbaaDoorDetF
set_option autoImplicit false
set_option linter.unusedVariables false
set_option linter.unusedSimpArgs false
set_option linter.unusedSectionVars false
namespace Go.Det
open Go.RowKit (Below)

variable {P : Program} {base : Nat} {ρ : Ren} {β : Nat → Nat} {md : Md} {h : Heap} {w : World} {α : Type} {r : α} {n : Nat}

theorem underlying_info {ty : TypeId} {d : TypeDesc} (h : P.underlying ty = some d) : ∃ i, P.info? ty = some i := by
  unfold Program.underlying at h
  split at h
  · rename_i i hi; exact ⟨_, hi⟩
  · rename_i i _ hi; exact ⟨_, hi⟩
  · cases h

/-- Cells as a value of a type. -/
def asVal (P : Program) (ty : TypeId) (l : List Value) (v : Value) : Prop :=
  ∃ d, P.underlying ty = some d ∧ ((isAggD d = true ∧ v = .agg l.toArray) ∨ (isAggD d = false ∧ l[0]? = some v))

theorem run_part {ty : TypeId} {cs : Array Value} {off m : Nat} (hm : m = P.cellsOf ty) (hl : off + m ≤ cs.size) (h1 : ∀ d, P.underlying ty = some d → isAggD d = false → m = 1)
    (hu : (P.underlying ty).isSome = true) : ∃ v, (∀ w, (part ty cs off).run P w = .ok v w) ∧ asVal P ty ((cs.toList.drop off).take m) v := by
  obtain ⟨d, hd⟩ := Option.isSome_iff_exists.1 hu
  obtain ⟨i, hi⟩ := underlying_info hd
  cases ha : isAggD d
  · have : m = 1 := h1 d hd ha
    subst this
    have hlt : off < cs.size := by omega
    refine ⟨cs[off], fun w => ?_, d, hd, .inr ⟨ha, ?_⟩⟩
    · simp [part, run_isAgg hd, ha, hlt]
    · simp [List.getElem?_take, List.getElem?_drop, hlt]
  · refine ⟨.agg (cs.extract off (off + i.size)), fun w => ?_, d, hd, .inl ⟨ha, ?_⟩⟩
    · simp [part, run_isAgg hd, ha, run_sizeOf' hi]
    · have : m = i.size := by rw [hm]; simp [Program.cellsOf, hi]
      subst this
      congr 1
      apply Array.ext'
      simp [Array.toList_extract, List.extract_eq_take_drop]

theorem kinds_one {d : Nat} {ty : TypeId} {ks : List CK} (hk : kindsOf P d ty = some ks) : (P.underlying ty).isSome = true ∧ ∀ dd, P.underlying ty = some dd → isAggD dd = false → ks.length = 1 := by
  cases d with
  | zero => simp [kindsOf] at hk
  | succ d =>
    simp only [kindsOf] at hk
    split at hk <;> first | (cases hk; done) | skip
    all_goals (rename_i hu; refine ⟨by simp [hu], fun dd hd ha => ?_⟩; rw [hu] at hd; cases hd)
    · cases hk; rfl
    · cases hk; rfl
    · cases hk; rfl
    · simp [isAggD] at ha
    · simp [isAggD] at ha

/-- What is asked of the comparison at a type. -/
def EqAt (P : Program) (d : Nat) (ty : TypeId) : Prop :=
  ∀ ks, kindsOf P d ty = some ks → ∀ D xs ys b vx vy, d ≤ D → xs.length = ks.length → ys.length = ks.length → cellsEq ks xs ys = some b → asVal P ty xs vx → asVal P ty ys vy →
    ∀ w, (Op.equalIn D ty vx vy).run P w = .ok b w

theorem eqFields_sound {d D : Nat} (ih : ∀ ty, EqAt P d ty) (hD : d ≤ D) (XS YS : Array Value) : ∀ (fs : List Field) (n : Nat) (ks : List CK), fieldKinds P (kindsOf P d) fs n = some ks →
    XS.size = n + ks.length → YS.size = n + ks.length → ∀ b, cellsEq ks (XS.toList.drop n) (YS.toList.drop n) = some b → ∀ w, (Op.eqFields D XS YS fs).run P w = .ok b w := by
  intro fs
  induction fs with
  | nil =>
    intro n ks hk h1 h2 b hb w
    simp only [fieldKinds] at hk; cases hk
    have e1 : XS.toList.drop n = [] := by simp at h1 ⊢; omega
    have e2 : YS.toList.drop n = [] := by simp at h2 ⊢; omega
    rw [e1, e2] at hb
    simp [cellsEq] at hb
    subst hb
    simp [Op.eqFields]
  | cons fd fs ihf =>
    intro n ks hk h1 h2 b hb w
    simp only [fieldKinds] at hk
    split at hk
    · rename_i hc
      obtain ⟨c1, c2⟩ := hc
      split at hk
      · rename_i l hl
        split at hk
        · rename_i hlen
          split at hk
          · rename_i rest hr
            cases hk
            rw [List.length_append] at h1 h2
            obtain ⟨g1, g2⟩ := kinds_one hl
            have hsplit : ∀ Z : List Value, Z.drop n = (Z.drop n).take l.length ++ Z.drop (n + l.length) := fun Z => by
              rw [← List.drop_drop, List.take_append_drop]
            rw [hsplit XS.toList, hsplit YS.toList, cellsEq_append _ _ _ _ _ _ (by simp; omega) (by simp; omega)] at hb
            obtain ⟨vx, rx, ax⟩ := run_part (P := P) (ty := fd.type) (cs := XS) (off := n) (m := l.length) hlen (by omega) (fun dd h ha => g2 dd h ha) g1
            obtain ⟨vy, ry, ay⟩ := run_part (P := P) (ty := fd.type) (cs := YS) (off := n) (m := l.length) hlen (by omega) (fun dd h ha => g2 dd h ha) g1
            have hne : fd.name ≠ "_" := by simpa using c1
            have step : ∀ q, cellsEq l ((XS.toList.drop n).take l.length) ((YS.toList.drop n).take l.length) = some q → (Op.equalIn D fd.type vx vy).run P w = .ok q w := fun q hq =>
              ih fd.type l hl D _ _ q vx vy hD (by simp; omega) (by simp; omega) hq ax ay w
            simp only [Op.eqFields, hne, ne_eq, not_false_iff, if_true, Sem.run_bind, c2, rx, ry, Result.andThen_ok]
            split at hb
            · rename_i hq
              rw [step true hq]
              simp only [Result.andThen_ok, Bool.not_true, Bool.false_eq_true, if_false]
              exact ihf (n + l.length) rest hr (by omega) (by omega) b hb w
            · rename_i hq
              cases hb
              rw [step false hq]
              simp
            · cases hb
          · cases hk
        · cases hk
      · cases hk
    · cases hk

theorem eqItems_sound {d D : Nat} {e : TypeId} {l : List CK} (ih : EqAt P d e) (hD : d ≤ D) (hl : kindsOf P d e = some l) (hlen : l.length = P.cellsOf e) (XS YS : Array Value) :
    ∀ (m s : Nat), XS.size = s * l.length + (repK m l).length → YS.size = s * l.length + (repK m l).length → ∀ b,
      cellsEq (repK m l) (XS.toList.drop (s * l.length)) (YS.toList.drop (s * l.length)) = some b → ∀ w, (Op.eqItems D e (P.cellsOf e) XS YS (List.range' s m)).run P w = .ok b w := by
  intro m
  induction m with
  | zero =>
    intro s h1 h2 b hb w
    have e1 : XS.toList.drop (s * l.length) = [] := by simp [repK] at h1 ⊢; omega
    have e2 : YS.toList.drop (s * l.length) = [] := by simp [repK] at h2 ⊢; omega
    rw [e1, e2] at hb
    simp [repK, cellsEq] at hb
    subst hb
    simp [Op.eqItems]
  | succ m ihm =>
    intro s h1 h2 b hb w
    simp only [repK, List.length_append] at h1 h2 hb
    obtain ⟨g1, g2⟩ := kinds_one hl
    have hsplit : ∀ Z : List Value, Z.drop (s * l.length) = (Z.drop (s * l.length)).take l.length ++ Z.drop ((s + 1) * l.length) := fun Z => by
      rw [show (s + 1) * l.length = s * l.length + l.length by rw [Nat.add_mul]; omega, ← List.drop_drop, List.take_append_drop]
    rw [hsplit XS.toList, hsplit YS.toList, cellsEq_append _ _ _ _ _ _ (by simp; omega) (by simp; omega)] at hb
    obtain ⟨vx, rx, ax⟩ := run_part (P := P) (ty := e) (cs := XS) (off := s * l.length) (m := l.length) hlen (by omega) (fun dd h ha => g2 dd h ha) g1
    obtain ⟨vy, ry, ay⟩ := run_part (P := P) (ty := e) (cs := YS) (off := s * l.length) (m := l.length) hlen (by omega) (fun dd h ha => g2 dd h ha) g1
    have step : ∀ q, cellsEq l ((XS.toList.drop (s * l.length)).take l.length) ((YS.toList.drop (s * l.length)).take l.length) = some q → (Op.equalIn D e vx vy).run P w = .ok q w := fun q hq =>
      ih l hl D _ _ q vx vy hD (by simp; omega) (by simp; omega) hq ax ay w
    have next := ihm (s + 1) (by rw [Nat.add_mul]; omega) (by rw [Nat.add_mul]; omega)
    rw [hlen] at rx ry next
    simp only [List.range'_succ, Op.eqItems, Sem.run_bind, rx, ry, Result.andThen_ok]
    split at hb
    · rename_i hq
      rw [step true hq]
      simp only [Result.andThen_ok, Bool.not_true, Bool.false_eq_true, if_false]
      exact next b (by rw [← hlen]; exact hb) w
    · rename_i hq
      cases hb
      rw [step false hq]
      simp
    · cases hb

theorem asVal_agg {ty : TypeId} {l : List Value} {v : Value} {d : TypeDesc} (hu : P.underlying ty = some d) (ha : isAggD d = true) (h : asVal P ty l v) : v = .agg l.toArray := by
  obtain ⟨d', h1, h2⟩ := h
  rw [hu] at h1; cases h1
  rcases h2 with ⟨_, h2⟩ | ⟨h2, _⟩
  · exact h2
  · rw [ha] at h2; cases h2

theorem asVal_one {ty : TypeId} {l : List Value} {v : Value} {d : TypeDesc} (hu : P.underlying ty = some d) (ha : isAggD d = false) (h : asVal P ty l v) : l[0]? = some v := by
  obtain ⟨d', h1, h2⟩ := h
  rw [hu] at h1; cases h1
  rcases h2 with ⟨h2, _⟩ | ⟨_, h2⟩
  · rw [ha] at h2; cases h2
  · exact h2

theorem eqAt (d : Nat) : ∀ ty, EqAt P d ty := by
  induction d with
  | zero => intro ty ks hk; simp [kindsOf] at hk
  | succ d ih =>
    intro ty ks hk D xs ys b vx vy hD hx hy hb hvx hvy w
    obtain ⟨D, rfl⟩ : ∃ m, D = m + 1 := ⟨D - 1, by omega⟩
    simp only [kindsOf] at hk
    split at hk
    · rename_i hu
      cases hk
      have h1 := asVal_one hu rfl hvx
      have h2 := asVal_one hu rfl hvy
      obtain ⟨x, rfl⟩ : ∃ x, xs = [x] := List.length_eq_one_iff.1 hx
      obtain ⟨y, rfl⟩ : ∃ y, ys = [y] := List.length_eq_one_iff.1 hy
      simp at h1 h2; subst h1; subst h2
      cases x <;> cases y <;> simp only [cellsEq] at hb <;> (try (cases hb; done))
      rename_i p q
      rw [run_equalIn_bool' w D ty p q hu]
      cases hpq : p == q <;> simp [hpq] at hb <;> simp [hb]
    · rename_i k hu
      cases hk
      have h1 := asVal_one hu rfl hvx
      have h2 := asVal_one hu rfl hvy
      obtain ⟨x, rfl⟩ : ∃ x, xs = [x] := List.length_eq_one_iff.1 hx
      obtain ⟨y, rfl⟩ : ∃ y, ys = [y] := List.length_eq_one_iff.1 hy
      simp at h1 h2; subst h1; subst h2
      cases x <;> cases y <;> simp only [cellsEq] at hb <;> (try (cases hb; done))
      split at hb
      · rename_i hkk; subst hkk
        rename_i p q
        rw [run_equalIn_int w D ty _ k p q hu]
        cases hpq : p == q <;> simp [hpq] at hb <;> simp [hb]
      · cases hb
    · rename_i hu
      cases hk
      have h1 := asVal_one hu rfl hvx
      have h2 := asVal_one hu rfl hvy
      obtain ⟨x, rfl⟩ : ∃ x, xs = [x] := List.length_eq_one_iff.1 hx
      obtain ⟨y, rfl⟩ : ∃ y, ys = [y] := List.length_eq_one_iff.1 hy
      simp at h1 h2; subst h1; subst h2
      cases x <;> cases y <;> simp only [cellsEq] at hb <;> (try (cases hb; done))
      rename_i p q
      rw [run_equalIn_string w D ty p q hu, ByteArray.toList_eq, ByteArray.toList_eq]
      cases hpq : p.data.toList == q.data.toList <;> simp [hpq] at hb <;> simp [hb]
    · rename_i fs hu
      cases hs : P.stoodInHeld ty
      · simp only [hs, cond_false] at hk
        rw [asVal_agg hu rfl hvx, asVal_agg hu rfl hvy]
        have hf : P.fieldsOf ty = fs := by simp [Program.fieldsOf, hu]
        rw [run_equalIn_struct w D ty _ _ (by rw [hf]; exact hu) hs, hf]
        exact eqFields_sound ih (by omega) _ _ fs.toList 0 ks hk (by simpa using hx) (by simpa using hy) b (by simpa using hb) w
      · simp [hs] at hk
    · rename_i m e hu
      split at hk
      · rename_i i hi
        split at hk
        · rename_i l hl
          split at hk
          · rename_i hlen
            cases hk
            rw [asVal_agg hu rfl hvx, asVal_agg hu rfl hvy]
            rw [run_equalIn_array w D _ _ hu hi, List.range_eq_range']
            exact eqItems_sound (ih e) (by omega) hl hlen _ _ m 0 (by simpa using hx) (by simpa using hy) b (by simpa using hb) w
          · cases hk
        · cases hk
      · cases hk
    · cases hk

theorem kinds_agg_len {d : Nat} {ty : TypeId} {ks : List CK} : kindsOf P d ty = some ks → ∀ xs ys b, cellsEq ks xs ys = some b → True := fun _ _ _ _ _ => trivial

end Go.Det
