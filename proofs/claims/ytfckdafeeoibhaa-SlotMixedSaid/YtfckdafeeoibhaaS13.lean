/- Workers that take and give: the free slots, those that workers have, those that are given just now are all slots, each once. -/
import Derived.Test.YtfckdafeeoibhaaS11
set_option autoImplicit false
set_option linter.unusedVariables false
set_option linter.unusedSimpArgs false
namespace Go.Det.E
open Go.Proofs Go.Det
variable {n : Nat} {l c free : List Int} {B : Int} {ws : List Wk}
/-- The slot that a worker gives just now. -/
def gof : Ws → List Int
  | .gv s _ _ => [s]
  | _ => []
def own (w : Wk) : List Int := w.has ++ gof w.st
/-- Is the head that it knows an older one, or the one of now? -/
def hdOk (n : Nat) (l : List Int) : Ws → Prop
  | .idle => True
  | .tk a hd nx => a = 0 ∨ (hd / 65536 ≤ getI l 1 / 65536 ∧ (hd / 65536 = getI l 1 / 65536 → hd = getI l 1) ∧ (a = 2 → hd = getI l 1 → nx = getI l (Ox n 1 (hd % 65536 - 1) 0)))
  | .gv s a hd => a = 0 ∨ (hd / 65536 ≤ getI l 1 / 65536 ∧ (hd / 65536 = getI l 1 / 65536 → hd = getI l 1) ∧ (a = 2 → getI l (Ox n 1 s 0) = hd % 65536))
structure SI (n : Nat) (B : Int) (l : List Int) (ws : List Wk) (free : List Int) : Prop where
  F : Fr n 1 l (getI l 1 % 65536) free
  cnt : ∀ x : Int, free.count x + (ws.flatMap own).count x = if 0 ≤ x ∧ x < n then 1 else 0
  tag : getI l 1 / 65536 ≤ B
  hds : ∀ w ∈ ws, hdOk n l w.st
theorem split_at {α : Type} : ∀ {ws : List α} {j : Nat} {w : α}, ws[j]? = some w → ∃ pre post, ws = pre ++ w :: post ∧ ∀ w', ws.set j w' = pre ++ w' :: post := by
  intro ws
  induction ws with
  | nil => intro j w h; simp at h
  | cons x xs ih =>
    intro j w h
    cases j with
    | zero => simp only [List.getElem?_cons_zero, Option.some.injEq] at h; subst h; exact ⟨[], xs, rfl, fun w' => rfl⟩
    | succ j =>
      simp only [List.getElem?_cons_succ] at h
      obtain ⟨pre, post, e, f⟩ := ih h
      exact ⟨x :: pre, post, by rw [e]; rfl, fun w' => by rw [List.set_cons_succ, f]; rfl⟩
theorem cnt_split (pre post : List Wk) (w : Wk) (x : Int) : ((pre ++ w :: post).flatMap own).count x = (pre.flatMap own).count x + (w.has.count x + (gof w.st).count x) + (post.flatMap own).count x := by
  simp [List.flatMap_append, List.flatMap_cons, List.count_append, own]; omega
theorem cnt_mem {ws : List Wk} {u : Wk} {x : Int} (h : u ∈ ws) (hx : x ∈ gof u.st) : 1 ≤ (ws.flatMap own).count x :=
  List.count_pos_iff.2 (List.mem_flatMap.2 ⟨u, h, List.mem_append.2 (.inr hx)⟩)
theorem Fr.mem {S T : Int} {l : List Int} {xs : List Int} : ∀ {nx : Int}, Fr S T l nx xs → ∀ x ∈ xs, 0 ≤ x ∧ x < S := by
  induction xs with
  | nil => intro nx _ x hx; simp at hx
  | cons y ys ih =>
    intro nx F x hx
    obtain ⟨f1, f2, f3, f4⟩ := F
    rcases List.mem_cons.1 hx with rfl | hx
    · exact ⟨f2, f3⟩
    · exact ih f4 x hx
theorem beg_cnt (gives : Bool) (st : Ws) (has : List Int) (x : Int) : (st.beg gives has).2.count x + (gof (st.beg gives has).1).count x = has.count x + (gof st).count x := by
  cases st with
  | idle =>
    cases gives with
    | false => rfl
    | true =>
      cases has with
      | nil => rfl
      | cons s r => simp only [Ws.beg, gof, List.count_cons, List.count_nil]; omega
  | tk a b c => rfl
  | gv a b c => rfl
theorem beg_hd (gives : Bool) {st : Ws} (has : List Int) (H : hdOk n l st) : hdOk n l (st.beg gives has).1 := by
  cases st with
  | idle =>
    cases gives with
    | false => exact .inl rfl
    | true =>
      cases has with
      | nil => exact .inl rfl
      | cons s r => exact .inl rfl
  | tk a b c => exact H
  | gv a b c => exact H
theorem Ox_out {s : Int} (h : ¬ (0 ≤ s ∧ s < n)) : Ox n 1 s 0 = -1 := by
  have : Bl s (n : Int) = false := by
    unfold Bl
    by_cases h0 : 0 ≤ s
    · simp [h0]; omega
    · simp [h0]
  unfold Ox; rw [this]; rfl
theorem Ox_ne7 {s t : Int} (s0 : 0 ≤ s) (s1 : s < n) (t0 : 0 ≤ t) (t1 : t < n) (h : s ≠ t) : Ox n 1 s 0 ≠ Ox n 1 t 0 := by
  rw [Ox_in s0 s1, Ox_in t0 t1]; omega
/-- One step of one of the workers. -/
theorem si_step (I : SI n B l ws free) (M : Mem n l) (hn : n ≤ 48) (hB : 0 ≤ B ∧ B < 100000) {j : Nat} {w w' : Wk} (hj : ws[j]? = some w) (gives : Bool)
    (V : (w.st.beg gives w.has).1.ok n)
    (h1 : w'.st = (Ws.act n l c (w.st.beg gives w.has).1 (w.st.beg gives w.has).2).2.2.1) (h2 : w'.has = (Ws.act n l c (w.st.beg gives w.has).1 (w.st.beg gives w.has).2).2.2.2) :
    ∃ free', SI n (B + 1) (Ws.act n l c (w.st.beg gives w.has).1 (w.st.beg gives w.has).2).1 (ws.set j w') free' := by
  obtain ⟨pre, post, e, f⟩ := split_at hj
  rw [f w']
  have cnt : ∀ x : Int, free.count x + ((pre.flatMap own).count x + ((w.st.beg gives w.has).2.count x + (gof (w.st.beg gives w.has).1).count x) + (post.flatMap own).count x) = if 0 ≤ x ∧ x < n then 1 else 0 := by
    intro x
    rw [beg_cnt, ← I.cnt x, e, cnt_split]
  have hw := beg_hd gives w.has (I.hds w (by rw [e]; simp))
  have hpre : ∀ u ∈ pre, hdOk n l u.st := fun u hu => I.hds u (by rw [e]; simp [hu])
  have hpost : ∀ u ∈ post, hdOk n l u.st := fun u hu => I.hds u (by rw [e]; simp [hu])
  have key : ∀ {l' free' : List Int}, Fr n 1 l' (getI l' 1 % 65536) free' → (∀ x : Int, free'.count x + ((pre.flatMap own).count x + (w'.has.count x + (gof w'.st).count x) + (post.flatMap own).count x) = if 0 ≤ x ∧ x < n then 1 else 0) → getI l' 1 / 65536 ≤ B + 1 → hdOk n l' w'.st →
      (∀ u ∈ pre, hdOk n l' u.st) → (∀ u ∈ post, hdOk n l' u.st) → SI n (B + 1) l' (pre ++ w' :: post) free' := by
    intro l' free' F' c' t' hw' hp hq
    refine ⟨F', fun x => by rw [cnt_split]; exact c' x, t', fun u hu => ?_⟩
    rcases List.mem_append.1 hu with h | h
    · exact hp u h
    · rcases List.mem_cons.1 h with rfl | h
      · exact hw'
      · exact hq u h
  have hH := M.w.get 1
  have tag := I.tag
  have F := I.F
  revert h1 h2 V cnt hw
  generalize (w.st.beg gives w.has).1 = st
  generalize (w.st.beg gives w.has).2 = has
  intro V h1 h2 cnt hw
  -- a new head: what others know is older
  have newH : ∀ {v : Int} (u : Ws), hdOk n l u → v / 65536 = getI l 1 / 65536 + 1 → hdOk n (putI l 1 v) u := by
    intro v u hu hv
    have g1 : getI (putI l 1 v) 1 = v := getI_same M.i1
    cases u with
    | idle => trivial
    | tk a hd nx =>
      rcases hu with h | ⟨h, _, _⟩
      · exact .inl h
      · right; rw [g1]
        exact ⟨by omega, fun q => by omega, fun _ q => by subst q; omega⟩
    | gv s a hd =>
      rcases hu with h | ⟨h, _, h3⟩
      · exact .inl h
      · right; rw [g1]
        refine ⟨by omega, fun q => by omega, fun q => ?_⟩
        by_cases hs : 0 ≤ s ∧ s < n
        · rw [getI_else (by rw [(M.is hs.1 hs.2).1]; omega)]; exact h3 q
        · rw [getI_else (by rw [Ox_out hs]; decide)]; exact h3 q
  cases st with
  | idle =>
    refine ⟨free, key F (by rw [h1, h2]; exact cnt) (by show getI l 1 / 65536 ≤ _; omega) (by rw [h1]; trivial) hpre hpost⟩
  | tk a hd nx =>
    obtain ⟨q1, q2, q3⟩ := V
    unfold Ws.act at h1 h2 ⊢
    simp only at h1 h2 ⊢
    have base : ∀ st', w'.st = st' → w'.has = has → gof st' = [] → hdOk n l st' → ∃ free', SI n (B + 1) l (pre ++ w' :: post) free' := by
      intro st' e1 e2 e3 e4
      exact ⟨free, key F (by rw [e1, e2, e3]; exact cnt) (by omega) (by rw [e1]; exact e4) hpre hpost⟩
    by_cases ha0 : a = 0
    · rw [if_pos ha0] at h1 h2 ⊢
      by_cases hz : getI l 1 % 65536 = 0
      · rw [if_pos hz] at h1
        exact base _ h1 h2 rfl trivial
      · rw [if_neg hz] at h1
        exact base _ h1 h2 rfl (.inr ⟨Int.le_refl _, fun _ => rfl, fun q => absurd q (by decide)⟩)
    · rw [if_neg ha0] at h1 h2 ⊢
      obtain ⟨d1, d2, d3⟩ := hw.resolve_left ha0
      obtain ⟨q4, q5, q6⟩ := q3.resolve_left ha0
      by_cases ha1 : a = 1
      · rw [if_pos ha1] at h1 h2 ⊢
        exact base _ h1 h2 rfl (.inr ⟨d1, d2, fun _ _ => rfl⟩)
      · rw [if_neg ha1] at h1 h2 ⊢
        obtain ⟨a2, hnx⟩ := q4.resolve_left ha1
        by_cases hd' : getI l 1 = hd
        · rw [if_pos hd'] at h1 h2 ⊢
          have nxe := d3 a2 hd'.symm
          cases free with
          | nil => have : getI l 1 % 65536 = 0 := F; omega
          | cons s rest =>
            obtain ⟨f1, f2, f3, f4⟩ := F
            have es : s = hd % 65536 - 1 := by omega
            have g1 : getI (putI l 1 (withW hd nx)) 1 = withW hd nx := getI_same M.i1
            have wd : withW hd nx / 65536 = getI l 1 / 65536 + 1 := by unfold withW; omega
            refine ⟨rest, key ?_ ?_ ?_ (by rw [h1]; trivial) (fun u hu => newH _ (hpre u hu) wd) (fun u hu => newH _ (hpost u hu) wd)⟩
            · rw [g1, withW_first, Int.emod_eq_of_lt q2.1 (by omega), nxe, ← es]
              refine Fr.other f4 fun x hx => getI_else ?_
              have := Fr.mem f4 x hx
              rw [(M.is this.1 this.2).1]; omega
            · intro x
              rw [h1, h2, ← cnt x, ← es]
              simp only [gof, List.count_append, List.count_cons, List.count_nil]
              omega
            · rw [g1, wd]; omega
        · rw [if_neg hd'] at h1 h2 ⊢
          exact base _ h1 h2 rfl (.inl rfl)
  | gv s a hd =>
    obtain ⟨q1, q2, q3⟩ := V
    unfold Ws.act at h1 h2 ⊢
    simp only at h1 h2 ⊢
    have base : ∀ st', w'.st = st' → w'.has = has → gof st' = [s] → hdOk n l st' → ∃ free', SI n (B + 1) l (pre ++ w' :: post) free' := by
      intro st' e1 e2 e3 e4
      exact ⟨free, key F (by rw [e1, e2, e3]; exact cnt) (by omega) (by rw [e1]; exact e4) hpre hpost⟩
    have cs := cnt s
    rw [if_pos ⟨q2.1, q2.2⟩] at cs
    simp only [gof, List.count_cons, List.count_nil, beq_self_eq_true, if_true] at cs
    have snf : s ∉ free := fun h => by have := List.count_pos_iff.2 h; omega
    by_cases ha0 : a = 0
    · rw [if_pos ha0] at h1 h2 ⊢
      exact base _ h1 h2 rfl (.inr ⟨Int.le_refl _, fun _ => rfl, fun q => absurd q (by decide)⟩)
    · rw [if_neg ha0] at h1 h2 ⊢
      obtain ⟨d1, d2, d3⟩ := hw.resolve_left ha0
      obtain ⟨q4, q5⟩ := q3.resolve_left ha0
      by_cases ha1 : a = 1
      · rw [if_pos ha1] at h1 h2 ⊢
        have hs1 := M.is q2.1 q2.2
        have g1 : getI (putI l (Ox n 1 s 0) (hd % 65536)) 1 = getI l 1 := getI_else (by rw [hs1.1]; omega)
        have oth : ∀ t : Int, 0 ≤ t → t < n → t ≠ s → getI (putI l (Ox n 1 s 0) (hd % 65536)) (Ox n 1 t 0) = getI l (Ox n 1 t 0) := fun t t0 t1 h => getI_else (Ox_ne7 q2.1 q2.2 t0 t1 (Ne.symm h))
        have others : ∀ u : Wk, hdOk n l u.st → (u ∈ pre ∨ u ∈ post) → hdOk n (putI l (Ox n 1 s 0) (hd % 65536)) u.st := by
          intro u hu hm
          have ng : s ∉ gof u.st := by
            intro hs
            rcases hm with hm | hm <;> have := cnt_mem hm hs <;> omega
          cases hst : u.st with
          | idle => trivial
          | tk b hb nb =>
            rw [hst] at hu
            rcases hu with h | ⟨e1, e2, e3⟩
            · exact .inl h
            · right
              rw [g1]
              refine ⟨e1, e2, fun b2 hb2 => ?_⟩
              rw [e3 b2 hb2]
              cases hf : free with
              | nil =>
                -- nothing is free: the head has no slot
                rw [hf] at F
                have hz : getI l 1 % 65536 = 0 := F
                have : Ox n 1 s 0 ≠ Ox n 1 (hb % 65536 - 1) 0 := by
                  rw [hs1.1, Ox_out (by omega)]; omega
                rw [getI_else this]
              | cons t rest =>
                rw [hf] at F
                obtain ⟨f1, f2, f3, f4⟩ := F
                have et : hb % 65536 - 1 = t := by rw [hb2]; omega
                rw [et, oth t f2 f3 fun e => snf (by rw [hf, ← e]; simp)]
          | gv t b hb =>
            rw [hst] at hu ng
            rcases hu with h | ⟨e1, e2, e3⟩
            · exact .inl h
            · right
              rw [g1]
              refine ⟨e1, e2, fun b2 => ?_⟩
              rw [← e3 b2]
              have hts : t ≠ s := fun e => ng (by simp [gof, e])
              by_cases ht : 0 ≤ t ∧ t < n
              · exact oth t ht.1 ht.2 hts
              · refine getI_else ?_
                rw [hs1.1, Ox_out ht]; omega
        refine ⟨free, key ?_ (by rw [h1, h2]; exact cnt) (by rw [g1]; omega) ?_ (fun u hu => others u (hpre u hu) (.inl hu)) (fun u hu => others u (hpost u hu) (.inr hu))⟩
        · rw [g1]
          refine Fr.other F fun x hx => ?_
          have := Fr.mem F x hx
          exact oth x this.1 this.2 fun e => snf (e ▸ hx)
        · rw [h1]
          right
          rw [g1]
          exact ⟨d1, d2, fun _ => getI_same hs1.2⟩
      · rw [if_neg ha1] at h1 h2 ⊢
        have a2 := q4.resolve_left ha1
        by_cases hd' : getI l 1 = hd
        · rw [if_pos hd'] at h1 h2 ⊢
          have nxe := d3 a2
          have g1 : getI (putI l 1 (withW hd (s + 1))) 1 = withW hd (s + 1) := getI_same M.i1
          have wd : withW hd (s + 1) / 65536 = getI l 1 / 65536 + 1 := by unfold withW; omega
          have oth : ∀ t : Int, 0 ≤ t → t < n → getI (putI l 1 (withW hd (s + 1))) (Ox n 1 t 0) = getI l (Ox n 1 t 0) := fun t t0 t1 => getI_else (by rw [(M.is t0 t1).1]; omega)
          refine ⟨s :: free, key ?_ ?_ ?_ (by rw [h1]; trivial) (fun u hu => newH _ (hpre u hu) wd) (fun u hu => newH _ (hpost u hu) wd)⟩
          · rw [g1, withW_first, Int.emod_eq_of_lt (by omega) (by omega)]
            refine ⟨rfl, q2.1, q2.2, ?_⟩
            show Fr n 1 (putI l 1 (withW hd (s + 1))) (getI (putI l 1 (withW hd (s + 1))) (Ox n 1 s 0)) free
            rw [oth s q2.1 q2.2, nxe, ← hd']
            rw [← hd'] at oth
            refine Fr.other F fun x hx => ?_
            have := Fr.mem F x hx
            exact oth x this.1 this.2
          · intro x
            rw [h1, h2, ← cnt x]
            simp only [gof, List.count_cons, List.count_nil]
            omega
          · rw [g1, wd]; omega
        · rw [if_neg hd'] at h1 h2 ⊢
          exact base _ h1 h2 rfl (.inl rfl)
theorem cnt_range (n : Nat) (x : Int) : ((List.range n).map fun (i : Nat) => (i : Int)).count x = if 0 ≤ x ∧ x < n then 1 else 0 := by
  induction n with
  | zero => rw [if_neg (by omega)]; rfl
  | succ n ih =>
    rw [List.range_succ, List.map_append, List.count_append, ih]
    simp only [List.map_cons, List.map_nil, List.count_cons, List.count_nil, beq_iff_eq]
    by_cases h : (n : Int) = x
    · rw [if_pos h, if_neg (by omega), if_pos (by omega)]
    · rw [if_neg h]
      by_cases h2 : 0 ≤ x ∧ x < n
      · rw [if_pos h2, if_pos (by omega)]
      · rw [if_neg h2, if_neg (by omega)]
theorem SI.perm (I : SI n B l ws free) : (free ++ ws.flatMap own).Perm ((List.range n).map fun (i : Nat) => (i : Int)) := by
  rw [List.perm_iff_count]
  intro x
  rw [List.count_append, I.cnt x, cnt_range]
theorem SI.len (I : SI n B l ws free) : free.length ≤ n := by
  have := I.perm.length_eq
  simp at this
  omega
theorem SI.one (I : SI n B l ws free) (x : Int) : free.count x + (ws.flatMap own).count x ≤ 1 := by rw [I.cnt x]; split <;> omega
theorem SI.in (I : SI n B l ws free) {x : Int} (h : x ∈ free ++ ws.flatMap own) : 0 ≤ x ∧ x < n := by
  have := List.count_pos_iff.2 h
  rw [List.count_append, I.cnt x] at this
  by_cases h : 0 ≤ x ∧ x < n
  · exact h
  · rw [if_neg h] at this; omega
/-- At the beginning. -/
theorem SI.start (F : Fr n 1 l (getI l 1 % 65536) ((List.range n).map fun (i : Nat) => (i : Int))) (ht : getI l 1 / 65536 ≤ B) (hi : ∀ w ∈ ws, w.st = .idle ∧ w.has = []) : SI n B l ws ((List.range n).map fun (i : Nat) => (i : Int)) := by
  refine ⟨F, fun x => ?_, ht, fun w hw => ?_⟩
  · rw [cnt_range]
    have : ws.flatMap own = [] := by
      rw [List.flatMap_eq_nil_iff]
      intro w hw
      obtain ⟨e1, e2⟩ := hi w hw
      simp [own, e1, e2, gof]
    rw [this]; simp
  · rw [(hi w hw).1]; trivial
/-- A busy worker alone is idle after five steps. -/
def alone5 (l : List Int) : Ws → Nat
  | .idle => 0
  | .tk a hd _ => if a = 0 then 3 else if getI l 1 = hd then (if a = 1 then 2 else 1) else (if a = 1 then 5 else 4)
  | .gv _ a hd => if a = 0 then 3 else if getI l 1 = hd then (if a = 1 then 2 else 1) else (if a = 1 then 5 else 4)
theorem alone5_act {st : Ws} {has : List Int} (V : st.ok n) (M : Mem n l) (hb : st.busy) : alone5 (Ws.act n l c st has).1 (Ws.act n l c st has).2.2.1 < alone5 l st := by
  cases st with
  | idle => exact hb.elim
  | tk a hd nx =>
    unfold Ws.act
    simp only
    by_cases ha0 : a = 0
    · rw [if_pos ha0]
      simp only [alone5, ha0, if_true]
      by_cases hz : getI l 1 % 65536 = 0
      · rw [if_pos hz]; simp [alone5]
      · rw [if_neg hz]; simp [alone5]
    · rw [if_neg ha0]
      by_cases ha1 : a = 1
      · rw [if_pos ha1]; simp only [alone5, ha0, ha1, if_true, if_false]; by_cases hd' : getI l 1 = hd <;> simp [hd']
      · rw [if_neg ha1]
        by_cases hd' : getI l 1 = hd
        · rw [if_pos hd']; simp [alone5, ha0, ha1, hd']
        · rw [if_neg hd']; simp [alone5, ha0, ha1, hd']
  | gv s a hd =>
    obtain ⟨q1, q2, q3⟩ := V
    have hs1 := M.is q2.1 q2.2
    unfold Ws.act
    simp only
    by_cases ha0 : a = 0
    · rw [if_pos ha0]
      simp [alone5, ha0]
    · rw [if_neg ha0]
      by_cases ha1 : a = 1
      · rw [if_pos ha1]
        have g1 : getI (putI l (Ox n 1 s 0) (hd % 65536)) 1 = getI l 1 := getI_else (by rw [hs1.1]; omega)
        simp only [alone5, ha0, ha1, g1, if_true, if_false]; by_cases hd' : getI l 1 = hd <;> simp [hd']
      · rw [if_neg ha1]
        by_cases hd' : getI l 1 = hd
        · rw [if_pos hd']; simp [alone5, ha0, ha1, hd']
        · rw [if_neg hd']; simp [alone5, ha0, ha1, hd']
theorem alone5_le (l : List Int) (st : Ws) : alone5 l st ≤ 5 := by
  cases st <;> simp only [alone5] <;> (repeat' split) <;> omega
theorem alone5_idle {st : Ws} (h : alone5 l st = 0) : ¬ st.busy := by
  cases st with
  | idle => exact fun h => h
  | tk a hd nx => simp only [alone5] at h; exfalso; revert h; (repeat' split) <;> omega
  | gv a hd nx => simp only [alone5] at h; exfalso; revert h; (repeat' split) <;> omega
end Go.Det.E
