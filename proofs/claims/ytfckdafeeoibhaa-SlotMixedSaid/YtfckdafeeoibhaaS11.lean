/- Workers that take and give: all of them. -/
import Derived.Test.YtfckdafeeoibhaaS10
import Derived.Test.YtfckdafeeoibhaaDetS
set_option autoImplicit false
set_option linter.unusedVariables false
set_option linter.unusedSimpArgs false
namespace Go.Det.E
open Go.Proofs Go.Det
attribute [local congr] bind_c cond_c
abbrev encP (x : Nat) : List Value := [(Value.pointer (some ⟨x, 0, none⟩))]
theorem encP_len (x : Nat) : (encP x).length = 1 := rfl
theorem tP : SlT Try.prog 45 48 1 8 [.pointer none] := ⟨by kernel_rfl, by kernel_rfl, by kernel_rfl, rfl, by decide, by decide, rfl⟩
/-- All workers over an arena. -/
structure Pg (h hh : Heap) (a b p n : Nat) (av : Value) (ws : List Wk) (l c : List Int) (B : Int) : Prop where
  A : Ar hh a b l c
  M : Mem n l
  C : C5 B c
  hp : hh[p]? = some (.own (plC n a av))
  AL : SlO hh h.length 1 encP av (ws.map (·.wb))
  oks : ∀ (i : Nat) (w : Wk), ws[i]? = some w → WkOk hh h.length n a b p w
  dis : ∀ (i j : Nat) (w v : Wk), i ≠ j → ws[i]? = some w → ws[j]? = some v → ∀ y, wf w y → ¬ wf v y
  dav : ∀ (i : Nat) (w : Wk), ws[i]? = some w → ∀ y, wf w y → av = .slice none 0 0 ∨ y ≠ slB av
  dap : av = .slice none 0 0 ∨ (slB av ≠ a ∧ slB av ≠ b ∧ slB av ≠ p)
  pab : p ≠ a ∧ p ≠ b
  ge : h.length ≤ a ∧ h.length ≤ b ∧ h.length ≤ p
  O : Old h.length h hh
  hs : ∀ (i : Nat) (w : Wk), ws[i]? = some w → (w.has.length : Int) ≤ B
variable {md : Md} {h hh h' : Heap} {a b p n : Nat} {l c : List Int} {B : Int} {av v : Value} {ws : List Wk} {W : Nat}
theorem Pg.app (P : Pg h hh a b p n av ws l c B) (bs : Heap) : Pg h (hh ++ bs) a b p n av ws l c B := by
  have ol := P.O.len
  have e : ∀ y, y < hh.length → (hh ++ bs)[y]? = hh[y]? := fun y hy => List.getElem?_append_left hy
  exact ⟨P.A.app _, P.M, P.C, (e _ (lt_of P.hp)).trans P.hp, P.AL.keep (P.AL.lo.imp id fun q => e _ q.2), fun i w hw => (P.oks i w hw).keep fun y hy => e y ((P.oks i w hw).lt y hy), P.dis, P.dav, P.dap, P.pab, P.ge,
    ⟨by simp; omega, fun y hy => (e y (by omega)).trans (P.O.old y hy)⟩, P.hs⟩
theorem Pg.nab (P : Pg h hh a b p n av ws l c B) {i : Nat} {w : Wk} (hw : ws[i]? = some w) : ¬ wf w a ∧ ¬ wf w b := by
  have wi' := P.oks i w hw
  refine ⟨fun hy => ?_, fun hy => ?_⟩
  · rcases hy with e | ⟨hb, e⟩ | ⟨hnil, e⟩
    · exact wi'.dw.1 e.symm
    · exact (wi'.dk hb).1 e.symm
    · exact (wi'.dh.resolve_left hnil).1 e.symm
  · rcases hy with e | ⟨hb, e⟩ | ⟨hnil, e⟩
    · exact wi'.dw.2.1 e.symm
    · exact (wi'.dk hb).2.1 e.symm
    · exact (wi'.dh.resolve_left hnil).2.1 e.symm
/-- A heap that has other counts, and more blocks. -/
theorem Pg.og {c' : List Int} {B' : Int} (P : Pg h hh a b p n av ws l c B) (A : Ar h' a b l c') (hc : C5 B' c') (hB : B ≤ B') (O : OG a b hh h') : Pg h h' a b p n av ws l c' B' := by
  have ol := P.O.len
  have ln := O.len
  refine ⟨A, P.M, hc, (O.oth p (lt_of P.hp) P.pab.1 P.pab.2).trans P.hp, P.AL.keep ?_, fun i w hw => (P.oks i w hw).keep fun y hy => O.oth y ((P.oks i w hw).lt y hy) (fun e => (P.nab hw).1 (e ▸ hy)) (fun e => (P.nab hw).2 (e ▸ hy)), P.dis, P.dav, P.dap, P.pab, P.ge,
    ⟨by omega, fun y hy => (O.oth y (by omega) (by have := P.ge; omega) (by have := P.ge; omega)).trans (P.O.old y hy)⟩, fun i w hw => by have := P.hs i w hw; omega⟩
  rcases P.AL.lo with e | q
  · exact .inl e
  · rcases P.dap with e | d
    · exact .inl e
    · exact .inr (O.oth _ q.2 d.1 d.2.1)
/-- One worker's step, among all. -/
theorem pg_step (hro : md.ro ≤ h.length) (hlim : md.lim ≤ h.length) (P : Pg h hh a b p n av ws l c B) (hn : n ≤ 48) (hB : B < 90000) {j : Nat} {w : Wk} (hj : ws[j]? = some w) (hsz : w.has.length < 1000) (gives : Bool) :
    ∃ h' w', C md 27 [(Value.pointer (some ⟨p, 0, none⟩)), (Value.pointer (some ⟨w.wb, 0, none⟩)), (Value.bool gives)] hh = some ((Value.bool true), h') ∧
      (w'.st = (Ws.act n l c (w.st.beg gives w.has).1 (w.st.beg gives w.has).2).2.2.1 ∧ w'.has = (Ws.act n l c (w.st.beg gives w.has).1 (w.st.beg gives w.has).2).2.2.2) ∧ w'.wb = w.wb ∧
      Pg h h' a b p n av (ws.set j w') (Ws.act n l c (w.st.beg gives w.has).1 (w.st.beg gives w.has).2).1 (Ws.act n l c (w.st.beg gives w.has).1 (w.st.beg gives w.has).2).2.1 (B + 1) ∧ (w.st.beg gives w.has).1.ok n := by
  have ol := P.O.len
  have hsj := P.hs j w hj
  have hjl : j < ws.length := (List.getElem?_eq_some_iff.1 hj).1
  obtain ⟨h', w', e', q1, q2, A', P', l', f', g', V'⟩ := step_e7 (md := md) gives (P.oks j w hj) P.M hn P.A P.C (by omega) P.hp P.pab.1 P.pab.2 P.ge.1 P.ge.2.1 hro hlim ol (by omega)
  obtain ⟨m1, m2⟩ := act_mem (has := (w.st.beg gives w.has).2) V' P.M hn P.C (by omega)
  have ltp := lt_of P.hp
  have wj := P.oks j w hj
  have avk : av = .slice none 0 0 ∨ h'[slB av]? = hh[slB av]? := by
    rcases P.AL.lo with e | q
    · exact .inl e
    · rcases P.dap with e | d
      · exact .inl e
      · right
        refine f' _ q.2 d.1 d.2.1 fun hy => ?_
        rcases P.dav j w hj _ hy with e | e
        · have := P.AL
          rw [e] at this
          have hnil := this.nil_of
          have := (List.map_eq_nil_iff.1 hnil)
          rw [this] at hjl
          simp at hjl
        · exact e rfl
  have pnf : ¬ wf w p := by
    intro hy
    rcases hy with e | ⟨hb, e⟩ | ⟨hnil, e⟩
    · exact wj.dw.2.2 e.symm
    · exact (wj.dk hb).2.2.1 e.symm
    · exact (wj.dh.resolve_left hnil).2.2.1 e.symm
  have anf : ∀ (i : Nat) (w : Wk), ws[i]? = some w → ¬ wf w a ∧ ¬ wf w b := by
    intro i w hw
    have wi' := P.oks i w hw
    refine ⟨fun hy => ?_, fun hy => ?_⟩
    · rcases hy with e | ⟨hb, e⟩ | ⟨hnil, e⟩
      · exact wi'.dw.1 e.symm
      · exact (wi'.dk hb).1 e.symm
      · exact (wi'.dh.resolve_left hnil).1 e.symm
    · rcases hy with e | ⟨hb, e⟩ | ⟨hnil, e⟩
      · exact wi'.dw.2.1 e.symm
      · exact (wi'.dk hb).2.1 e.symm
      · exact (wi'.dh.resolve_left hnil).2.1 e.symm
  have get : ∀ (i : Nat) (u : Wk), (ws.set j w')[i]? = some u → (i = j ∧ u = w') ∨ (i ≠ j ∧ ws[i]? = some u) := by
    intro i u hu
    by_cases e : i = j
    · subst e
      rw [List.getElem?_set_self hjl] at hu
      exact .inl ⟨rfl, (Option.some.inj hu).symm⟩
    · rw [List.getElem?_set_ne (Ne.symm e)] at hu
      exact .inr ⟨e, hu⟩
  have hmap : (ws.set j w').map (·.wb) = ws.map (·.wb) := by
    rw [List.map_set, q2]
    have : (ws.map (·.wb))[j]? = some w.wb := by rw [List.getElem?_map, hj]; rfl
    apply List.ext_getElem?
    intro i
    by_cases e : j = i
    · subst e; rw [List.getElem?_set_self (by simpa using hjl), this]
    · rw [List.getElem?_set_ne e]
  refine ⟨h', w', e', q1, q2, ⟨A', m1, m2, (f' p ltp P.pab.1 P.pab.2 pnf).trans P.hp, by rw [hmap]; exact P.AL.keep avk, fun i u hu => ?_, fun i j' u v' hij hu hv y hy => ?_, fun i u hu y hy => ?_, P.dap, P.pab, P.ge, ⟨by omega, fun y hy => ?_⟩, fun i u hu => ?_⟩, V'⟩
  · rcases get i u hu with ⟨rfl, rfl⟩ | ⟨hne, hu'⟩
    · exact P'
    · exact (P.oks i u hu').keep fun y hy => f' y ((P.oks i u hu').lt y hy) (fun e => (anf i u hu').1 (e ▸ hy)) (fun e => (anf i u hu').2 (e ▸ hy)) (fun q => P.dis j i w u (Ne.symm hne) hj hu' y q hy)
  · rcases get i u hu with ⟨rfl, rfl⟩ | ⟨hne, hu'⟩
    · rcases get j' v' hv with ⟨rfl, _⟩ | ⟨hne', hv'⟩
      · exact absurd rfl hij
      · intro q
        rcases g' y hy with r | r
        · exact P.dis i j' w v' hij hj hv' y r q
        · have := (P.oks j' v' hv').lt y q; omega
    · rcases get j' v' hv with ⟨rfl, rfl⟩ | ⟨hne', hv'⟩
      · intro q
        rcases g' y q with r | r
        · exact P.dis i j' u w hij hu' hj y hy r
        · have := (P.oks i u hu').lt y hy; omega
      · exact P.dis i j' u v' hij hu' hv' y hy
  · rcases get i u hu with ⟨rfl, rfl⟩ | ⟨hne, hu'⟩
    · rcases g' y hy with r | r
      · exact P.dav i w hj y r
      · exact P.AL.lo.imp id fun q => by omega
    · exact P.dav i u hu' y hy
  · rw [f' y (by omega) (by have := P.ge; omega) (by have := P.ge; omega) (fun q => by have := wj.ge y q; omega)]
    exact P.O.old y hy
  · rcases get i u hu with ⟨rfl, rfl⟩ | ⟨hne, hu'⟩
    · rw [q1.2]
      have hb2 : ((w.st.beg gives w.has).2.length : Int) ≤ B := by
        cases hst : w.st with
        | idle =>
          cases gives with
          | false => exact hsj
          | true =>
            cases hh2 : w.has with
            | nil => simp only [Ws.beg]; rw [hh2] at hsj; exact hsj
            | cons s rest => simp only [Ws.beg]; rw [hh2] at hsj; simp at hsj; omega
        | tk x y z => exact hsj
        | gv x y z => exact hsj
      generalize (w.st.beg gives w.has).2 = hs2 at hb2 ⊢
      generalize (w.st.beg gives w.has).1 = st2
      cases st2 with
      | idle => simp only [Ws.act]; omega
      | tk x y z =>
        simp only [Ws.act]
        split
        · dsimp only; omega
        · split
          · dsimp only; omega
          · split
            · simp only [List.length_append, List.length_cons, List.length_nil]; omega
            · dsimp only; omega
      | gv x y z =>
        simp only [Ws.act]
        split
        · dsimp only; omega
        · split
          · dsimp only; omega
          · split <;> (dsimp only; omega)
    · have := P.hs i u hu'; omega
/-- The sum of numbers, one of them another one. -/
theorem sum_set : ∀ (xs : List Int) {j : Nat} {x y : Int}, xs[j]? = some x → (xs.set j y).sum = xs.sum - x + y := by
  intro xs
  induction xs with
  | nil => intro j x y h; simp at h
  | cons z xs ih =>
    intro j x y h
    cases j with
    | zero => simp only [List.getElem?_cons_zero, Option.some.injEq] at h; subst h; simp; omega
    | succ j =>
      simp only [List.getElem?_cons_succ] at h
      have := ih (y := y) h
      simp only [List.set_cons_succ, List.sum_cons, this]; omega
theorem sum_le : ∀ (xs : List Int), (∀ x ∈ xs, 0 ≤ x ∧ x ≤ 1) → 0 ≤ xs.sum ∧ xs.sum ≤ xs.length := by
  intro xs
  induction xs with
  | nil => intro _; simp
  | cons z xs ih =>
    intro h
    have := ih fun x hx => h x (List.mem_cons_of_mem _ hx)
    have := h z (by simp)
    simp only [List.sum_cons, List.length_cons]; omega
theorem sum_lt : ∀ (xs : List Int) {j : Nat}, (∀ x ∈ xs, 0 ≤ x ∧ x ≤ 1) → xs[j]? = some 0 → xs.sum + 1 ≤ xs.length := by
  intro xs
  induction xs with
  | nil => intro j _ h; simp at h
  | cons z xs ih =>
    intro j hx h
    cases j with
    | zero =>
      simp only [List.getElem?_cons_zero, Option.some.injEq] at h
      subst h
      have := sum_le xs fun x hq => hx x (List.mem_cons_of_mem _ hq)
      simp only [List.sum_cons, List.length_cons]; omega
    | succ j =>
      simp only [List.getElem?_cons_succ] at h
      have := ih (fun x hq => hx x (List.mem_cons_of_mem _ hq)) h
      have := hx z (by simp)
      simp only [List.sum_cons, List.length_cons]; omega
def stales (l : List Int) (ws : List Wk) : Int := (ws.map fun w => stale l w.st).sum
/-- No more swaps have told false than others told true, times the others. -/
def Pot (ws : List Wk) (l c : List Int) : Prop := c.getD 3 0 + stales l ws ≤ c.getD 2 0 * (ws.length - 1)
theorem pot_step {w w' : Wk} {j : Nat} {st : Ws} {has : List Int} (hj : ws[j]? = some w) (V : st.ok n) (M : Mem n l) (hc : C5 B c) (hB : B < 100000) (hs : stale l st = stale l w.st)
    (hw : w'.st = (Ws.act n l c st has).2.2.1) (H : Pot ws l c) : Pot (ws.set j w') (Ws.act n l c st has).1 (Ws.act n l c st has).2.1 := by
  have hjl : j < ws.length := (List.getElem?_eq_some_iff.1 hj).1
  have g0 : ∀ l : List Int, (ws.map fun w => stale l w.st)[j]? = some (stale l w.st) := fun l => by rw [List.getElem?_map, hj]; rfl
  have b01 : ∀ (l : List Int) (ws : List Wk), ∀ x ∈ ws.map (fun w => stale l w.st), 0 ≤ x ∧ x ≤ 1 := by
    intro l ws x hx
    obtain ⟨u, _, rfl⟩ := List.mem_map.1 hx
    exact stale_01 l u.st
  unfold Pot at H ⊢
  rw [List.length_set]
  rcases act_miss (has := has) V M hc hB with ⟨e1, e2, e3⟩ | ⟨e1, e2, e3⟩
  · rw [e1]
    have : stales (Ws.act n l c st has).1 (ws.set j w') = stales l ws - stale l w.st + stale l w'.st := by
      unfold stales
      have : (fun w : Wk => stale (Ws.act n l c st has).1 w.st) = fun w : Wk => stale l w.st := funext fun u => stale_head e2 u.st
      rw [this, List.map_set, sum_set _ (g0 l)]
    rw [this, hw]
    omega
  · rw [e1, e2]
    have h1 : stales (Ws.act n l c st has).1 (ws.set j w') + 1 ≤ ws.length := by
      unfold stales
      have := sum_lt ((ws.set j w').map fun w => stale (Ws.act n l c st has).1 w.st) (j := j) (b01 _ _) (by
        rw [List.getElem?_map, List.getElem?_set_self hjl, Option.map_some, hw, e3]; rfl)
      simpa using this
    have h2 := (sum_le (ws.map fun w => stale l w.st) (b01 l ws)).1
    have h3 : 0 ≤ stales l ws := h2
    have h4 : (c.getD 2 0 + 1) * ((ws.length : Int) - 1) = c.getD 2 0 * ((ws.length : Int) - 1) + ((ws.length : Int) - 1) := by rw [Int.add_mul, Int.one_mul]
    rw [h4]
    omega
end Go.Det.E
