/- Opening the arguments of a law. -/
import Derived.Test.YtbliaopehpcpbaaDoorDetP
set_option autoImplicit false
set_option linter.unusedVariables false
set_option linter.unusedSimpArgs false
namespace Go.Det
variable {P : Program} {h : Heap}

theorem args_cons {t : TypeId} {ts : List TypeId} {vs : List Value} (a : TyArgs P h (t :: ts) vs) : ∃ v rest, vs = v :: rest ∧ TyArg P h t v ∧ TyArgs P h ts rest := a
theorem args_nil {vs : List Value} (a : TyArgs P h [] vs) : vs = [] := a

theorem inI {k : IntKind} {v : Value} (a : TyS h (.i k) v) : ∃ n, v = .int k n ∧ k.min ≤ n ∧ n ≤ k.max := by
  cases a with
  | i k n hw => simp only [Lit.wf, Bool.and_eq_true, decide_eq_true_eq] at hw; exact ⟨n, rfl, hw⟩
theorem inI64 {v : Value} (a : TyS h (.i .i64) v) : ∃ n, v = .int .i64 n ∧ -9223372036854775808 ≤ n ∧ n ≤ 9223372036854775807 := inI a
theorem inU64 {v : Value} (a : TyS h (.i .u64) v) : ∃ n, v = .int .u64 n ∧ 0 ≤ n ∧ n < 18446744073709551616 := by
  obtain ⟨n, e, h0, h1⟩ := inI a
  exact ⟨n, e, h0, by have h2 : n ≤ 18446744073709551615 := h1; omega⟩
theorem inB {v : Value} (a : TyS h .b v) : ∃ b, v = .bool b := by
  cases a with
  | b b => exact ⟨b, rfl⟩
theorem inS {v : Value} (a : TyS h .s v) : ∃ s, v = .string s ∧ s.size ≤ reachBytes := by
  cases a with
  | s s hs => exact ⟨s, rfl, hs⟩
theorem inSl {l : List CS} {v : Value} (a : TyS h (.sl l) v) : v = .slice none 0 0 ∨ ∃ b ess, v = .slice (some ⟨b, 0, none⟩) (List.length ess) l.length ∧ h[b]? = some (.ro (List.flatten ess)) ∧ List.length ess ≤ maxLen ∧ TyE h l ess := by
  cases a with
  | nil => exact .inl rfl
  | sl l b ess hb hn he => exact .inr ⟨b, ess, rfl, hb, hn, he⟩
theorem l_cons {c : CS} {cs : List CS} {vs : List Value} (a : TyL h (c :: cs) vs) : ∃ v rest, vs = v :: rest ∧ TyS h c v ∧ TyL h cs rest := by
  cases a with
  | cons _ _ v vs h1 h2 => exact ⟨v, vs, rfl, h1, h2⟩
theorem l_nil {vs : List Value} (a : TyL h [] vs) : vs = [] := by cases a; rfl

theorem arg1 {t : TypeId} {c : CS} {v : Value} (hs : shapesOf P 8 t = some [c]) (hu : (P.underlying t).all (fun d => !isAggD d) = true) (a : TyArg P h t v) : TyS h c v := by
  obtain ⟨l, acs, h1, h2, d, h3, h4⟩ := a
  rw [hs] at h1
  cases h1
  rw [h3] at hu
  obtain ⟨w, rest, rfl, hw, hr⟩ := l_cons h2
  rcases h4 with ⟨ha, _⟩ | ⟨_, hv⟩
  · simp [ha] at hu
  · simp at hv; rw [← hv]; exact hw
theorem argN {t : TypeId} {l : List CS} {v : Value} (hs : shapesOf P 8 t = some l) (hu : (P.underlying t).all isAggD = true) (a : TyArg P h t v) : ∃ acs, v = .agg (List.toArray acs) ∧ TyL h l acs := by
  obtain ⟨l', acs, h1, h2, d, h3, h4⟩ := a
  rw [hs] at h1
  cases h1
  rw [h3] at hu
  rcases h4 with ⟨_, hv⟩ | ⟨ha, _⟩
  · exact ⟨acs, hv, h2⟩
  · simp [ha] at hu
theorem elems1 {c : CS} {ess : List (List Value)} (a : TyE h [c] ess) : ∃ vs : List Value, ess = vs.map (fun v => [v]) ∧ List.flatten ess = vs ∧ ∀ v ∈ vs, TyS h c v := by
  induction ess with
  | nil => exact ⟨[], rfl, rfl, by simp⟩
  | cons es ess ih =>
    cases a with
    | cons _ _ _ h1 h2 =>
      obtain ⟨v, r, rfl, hv, hr⟩ := l_cons h1
      obtain rfl := l_nil hr
      obtain ⟨vs, e1, e2, e3⟩ := ih h2
      refine ⟨v :: vs, by simp [e1], by simp [e2], ?_⟩
      intro w hw
      rcases List.mem_cons.1 hw with rfl | hw
      · exact hv
      · exact e3 w hw
/-- A slice of whole numbers. -/
theorem slI {k : IntKind} {v : Value} (a : TyS h (.sl [.i k]) v) : ∃ (base : Option Addr) (ns : List Int) (cp : Nat), v = .slice base (List.length ns) cp ∧ List.length ns ≤ maxLen ∧ (∀ n ∈ ns, k.min ≤ n ∧ n ≤ k.max) ∧
    (ns = [] ∨ ∃ b, base = some ⟨b, 0, none⟩ ∧ h[b]? = some (.ro (ns.map (.int k)))) := by
  rcases inSl a with rfl | ⟨b, ess, rfl, hb, hn, he⟩
  · exact ⟨none, [], 0, rfl, by simp, by simp, .inl rfl⟩
  · obtain ⟨vs, e1, e2, e3⟩ := elems1 he
    have : ∀ vs : List Value, (∀ v ∈ vs, TyS h (.i k) v) → ∃ ns : List Int, vs = ns.map (.int k) ∧ ∀ n ∈ ns, k.min ≤ n ∧ n ≤ k.max := by
      intro vs
      induction vs with
      | nil => intro _; exact ⟨[], rfl, by simp⟩
      | cons v vs ih =>
        intro hv
        obtain ⟨ns, e, hns⟩ := ih fun v hm => hv v (List.mem_cons_of_mem _ hm)
        obtain ⟨n, rfl, hn⟩ := inI (hv v List.mem_cons_self)
        refine ⟨n :: ns, by simp [e], ?_⟩
        intro m hm
        rcases List.mem_cons.1 hm with rfl | hm
        · exact hn
        · exact hns m hm
    obtain ⟨ns, rfl, hns⟩ := this vs e3
    have hl : List.length ess = List.length ns := by rw [e1]; simp
    refine ⟨some ⟨b, 0, none⟩, ns, 1, by rw [hl]; rfl, by omega, hns, .inr ⟨b, rfl, by rw [hb, e2]⟩⟩
theorem flat_get {n : Nat} : ∀ {ess : List (List Value)} {k : Nat} {es : List Value}, (∀ es ∈ ess, List.length es = n) → ess[k]? = some es → k * n + n ≤ (List.flatten ess).length ∧ ((List.flatten ess).drop (k * n)).take n = es := by
  intro ess
  induction ess with
  | nil => intro k es _ hk; simp at hk
  | cons x ess ih =>
    intro k es hl hk
    have hx : List.length x = n := hl x (by simp)
    cases k with
    | zero =>
      simp at hk; subst hk
      refine ⟨by simp; omega, ?_⟩
      rw [Nat.zero_mul, List.drop_zero, List.flatten_cons, ← hx, List.take_left']
      rfl
    | succ k =>
      obtain ⟨h1, h2⟩ := ih (k := k) (es := es) (fun e he => hl e (by simp [he])) (by simpa using hk)
      have e : (k + 1) * n = List.length x + k * n := by rw [hx, Nat.succ_mul, Nat.add_comm]
      refine ⟨by rw [e, List.flatten_cons, List.length_append]; omega, ?_⟩
      rw [e, List.flatten_cons, ← List.drop_drop, List.drop_left']
      · exact h2
      · rfl
/-- A slice of elements of several cells: what is read of one. -/
theorem slN {h : Heap} {l : List CS} {v : Value} (hl : 0 < l.length) (a : TyS h (.sl l) v) : ∃ (base : Option Addr) (ess : List (List Value)) (cp : Nat), v = .slice base (List.length ess) cp ∧ List.length ess ≤ maxLen ∧ (∀ es ∈ ess, TyL h l es) ∧
    (ess = [] ∨ ∃ b, base = some ⟨b, 0, none⟩ ∧ h[b]? = some (.ro (List.flatten ess))) := by
  rcases inSl a with rfl | ⟨b, ess, rfl, hb, hn, he⟩
  · exact ⟨none, [], 0, rfl, by simp, by simp, .inl rfl⟩
  · exact ⟨some ⟨b, 0, none⟩, ess, l.length, rfl, hn, he.all, .inr ⟨b, rfl, hb⟩⟩
theorem slN_rd {h hh : Heap} {l : List CS} {ess : List (List Value)} {b k : Nat} {es : List Value} (ht : ∀ es ∈ ess, TyL h l es) (hb : hh[b]? = some (.ro (List.flatten ess))) (hk : ess[k]? = some es) : rdN hh b (k * l.length) l.length = some es := by
  obtain ⟨h1, h2⟩ := flat_get (n := l.length) (fun es he => (ht es he).len) hk
  unfold rdN
  rw [hb]
  exact (if_pos h1).trans (congrArg some h2)
end Go.Det
