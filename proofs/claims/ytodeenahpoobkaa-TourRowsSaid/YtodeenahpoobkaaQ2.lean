/- Trees of a row by priorities: split and merged; there is one alone of each row. No program in sight. -/
import Derived.Test.YtodeenahpoobkaaN1
import Derived.Test.YtodeenahpoobkaaQ1
set_option autoImplicit false
set_option linter.unusedVariables false
set_option linter.unusedSimpArgs false
namespace Go.Det.U
inductive Tr where
  | nil
  | nd (l : Tr) (x : Int) (r : Tr)
def Tr.row : Tr → List Int
  | .nil => []
  | .nd l x r => l.row ++ x :: r.row
def Tr.rt : Tr → Int
  | .nil => 0
  | .nd _ x _ => x
def Tr.sz : Tr → Nat
  | .nil => 0
  | .nd l _ r => l.sz + r.sz + 1
theorem Tr.row_len (t : Tr) : t.row.length = t.sz := by
  induction t with
  | nil => rfl
  | nd l x r hl hr => simp [Tr.row, Tr.sz, hl, hr]; omega
/-- Is a node above another one? -/
def ab (pr : Int → Int) (x y : Int) : Bool := decide (pr y < pr x) || (decide (pr x = pr y) && decide (x < y))
theorem ab_t {pr : Int → Int} {x y : Int} : ab pr x y = true ↔ pr y < pr x ∨ (pr x = pr y ∧ x < y) := by simp [ab]
theorem ab_asym {pr : Int → Int} {x y : Int} (h : ab pr x y = true) : ab pr y x = false := by
  rw [← Bool.not_eq_true, ab_t]
  rw [ab_t] at h
  omega
theorem ab_total {pr : Int → Int} {x y : Int} (h : ab pr x y = false) (hn : x ≠ y) : ab pr y x = true := by
  rw [← Bool.not_eq_true, ab_t] at h
  rw [ab_t]
  omega
theorem ab_trans {pr : Int → Int} {x y z : Int} (h1 : ab pr x y = true) (h2 : ab pr y z = true) : ab pr x z = true := by
  rw [ab_t] at *
  omega
def Tr.hp (pr : Int → Int) : Tr → Prop
  | .nil => True
  | .nd l x r => (∀ y ∈ l.row, ab pr x y = true) ∧ (∀ y ∈ r.row, ab pr x y = true) ∧ l.hp pr ∧ r.hp pr
theorem app_one {a b c d : List Int} {x : Int} (h : a ++ x :: b = c ++ x :: d) (h1 : x ∉ a) (h2 : x ∉ c) : a = c ∧ b = d := by
  induction a generalizing c with
  | nil =>
    cases c with
    | nil => exact ⟨rfl, by simpa using h⟩
    | cons y c =>
      simp at h
      exact absurd h.1 (by intro e; subst e; simp at h2)
  | cons y a ih =>
    cases c with
    | nil =>
      simp at h
      exact absurd h.1.symm (by intro e; subst e; simp at h1)
    | cons z c =>
      simp at h
      obtain ⟨rfl, h⟩ := h
      obtain ⟨e1, e2⟩ := ih h (fun q => h1 (by simp [q])) (fun q => h2 (by simp [q]))
      exact ⟨by rw [e1], e2⟩
/-- A row has one tree alone. -/
theorem hp_uniq {pr : Int → Int} : ∀ {t t' : Tr}, t.hp pr → t'.hp pr → t.row = t'.row → t.row.Nodup → t = t' := by
  intro t
  induction t with
  | nil =>
    intro t' _ _ h _
    cases t' with
    | nil => rfl
    | nd l x r => simp [Tr.row] at h
  | nd l x r ihl ihr =>
    intro t' h1 h2 h hn
    cases t' with
    | nil => simp [Tr.row] at h
    | nd l' x' r' =>
      obtain ⟨a1, a2, a3, a4⟩ := h1
      obtain ⟨b1, b2, b3, b4⟩ := h2
      have hx : x = x' := by
        refine Classical.byContradiction fun hne => ?_
        have m1 : x' ∈ l.row ++ x :: r.row := by
          have : x' ∈ (Tr.nd l' x' r').row := by simp [Tr.row]
          rw [← h] at this; exact this
        have m2 : x ∈ l'.row ++ x' :: r'.row := by
          have : x ∈ (Tr.nd l x r).row := by simp [Tr.row]
          rw [h] at this; exact this
        have e1 : ab pr x x' = true := by
          rcases List.mem_append.1 m1 with q | q
          · exact a1 _ q
          · rcases List.mem_cons.1 q with q | q
            · exact absurd q.symm hne
            · exact a2 _ q
        have e2 : ab pr x' x = true := by
          rcases List.mem_append.1 m2 with q | q
          · exact b1 _ q
          · rcases List.mem_cons.1 q with q | q
            · exact absurd q hne
            · exact b2 _ q
        rw [ab_asym e1] at e2; cases e2
      subst hx
      have hn2 : (Tr.nd l' x r').row.Nodup := h ▸ hn
      simp only [Tr.row] at h hn hn2
      have n1 : x ∉ l.row := fun q => by
        have := (List.nodup_append.1 hn).2.2 x q x (by simp)
        exact this rfl
      have n2 : x ∉ l'.row := fun q => by
        have := (List.nodup_append.1 hn2).2.2 x q x (by simp)
        exact this rfl
      obtain ⟨e1, e2⟩ := app_one h n1 n2
      have nl := (List.nodup_append.1 hn).1
      have nr := (List.nodup_cons.1 (List.nodup_append.1 hn).2.1).2
      rw [ihl a3 b3 e1 nl, ihr a4 b4 e2 nr]
/-- The first nodes, and the others. -/
def splitT : Tr → Nat → Tr × Tr
  | .nil, _ => (.nil, .nil)
  | .nd l x r, k => if k ≤ l.sz then ((splitT l k).1, .nd (splitT l k).2 x r) else (.nd l x (splitT r (k - l.sz - 1)).1, (splitT r (k - l.sz - 1)).2)
theorem split_row : ∀ (t : Tr) (k : Nat), (splitT t k).1.row = t.row.take k ∧ (splitT t k).2.row = t.row.drop k := by
  intro t
  induction t with
  | nil => intro k; simp [splitT, Tr.row]
  | nd l x r ihl ihr =>
    intro k
    have ll := l.row_len
    unfold splitT
    split
    · rename_i hk
      obtain ⟨e1, e2⟩ := ihl k
      refine ⟨?_, ?_⟩
      · simp only [Tr.row, e1]
        rw [List.take_append_of_le_length (by omega)]
      · simp only [Tr.row, e2]
        rw [List.drop_append_of_le_length (by omega)]
    · rename_i hk
      obtain ⟨e1, e2⟩ := ihr (k - l.sz - 1)
      have hk' : k = l.row.length + ((k - l.sz - 1) + 1) := by omega
      refine ⟨?_, ?_⟩
      · simp only [Tr.row, e1]
        conv => rhs; rw [hk']
        rw [List.take_length_add_append, List.take_succ_cons]
      · simp only [Tr.row, e2]
        conv => rhs; rw [hk']
        rw [List.drop_length_add_append, List.drop_succ_cons]
theorem split_hp {pr : Int → Int} : ∀ (t : Tr) (k : Nat), t.hp pr → (splitT t k).1.hp pr ∧ (splitT t k).2.hp pr := by
  intro t
  induction t with
  | nil => intro k _; exact ⟨trivial, trivial⟩
  | nd l x r ihl ihr =>
    rintro k ⟨h1, h2, h3, h4⟩
    unfold splitT
    split
    · obtain ⟨e1, e2⟩ := ihl k h3
      refine ⟨e1, fun y hy => h1 y ?_, h2, e2, h4⟩
      rw [(split_row l k).2] at hy
      exact List.mem_of_mem_drop hy
    · obtain ⟨e1, e2⟩ := ihr (k - l.sz - 1) h4
      refine ⟨⟨h1, fun y hy => h2 y ?_, h3, e1⟩, e2⟩
      rw [(split_row r _).1] at hy
      exact List.mem_of_mem_take hy
def mergeT (pr : Int → Int) : Tr → Tr → Tr
  | .nil, b => b
  | .nd l x r, .nil => .nd l x r
  | .nd l x r, .nd l' y r' => bif ab pr x y then .nd l x (mergeT pr r (.nd l' y r')) else .nd (mergeT pr (.nd l x r) l') y r'
termination_by a b => a.sz + b.sz
decreasing_by all_goals (simp only [Tr.sz]; omega)
theorem merge_nil {pr : Int → Int} (a : Tr) : mergeT pr a .nil = a := by cases a <;> simp [mergeT]
theorem merge_nd {pr : Int → Int} (l r l' r' : Tr) (x y : Int) : mergeT pr (.nd l x r) (.nd l' y r') = bif ab pr x y then .nd l x (mergeT pr r (.nd l' y r')) else .nd (mergeT pr (.nd l x r) l') y r' := by rw [mergeT]
theorem merge_row {pr : Int → Int} : ∀ (n : Nat) (a b : Tr), a.sz + b.sz ≤ n → (mergeT pr a b).row = a.row ++ b.row := by
  intro n
  induction n with
  | zero =>
    intro a b h
    cases a with
    | nil => simp [mergeT, Tr.row]
    | nd l x r => simp [Tr.sz] at h
  | succ n ih =>
    intro a b h
    cases a with
    | nil => simp [mergeT, Tr.row]
    | nd l x r =>
      cases b with
      | nil => simp [mergeT, Tr.row]
      | nd l' y r' =>
        rw [merge_nd]
        simp only [Tr.sz] at h
        cases ab pr x y
        · simp only [cond_false, Tr.row]
          rw [ih _ _ (by simp only [Tr.sz]; omega)]
          simp [Tr.row]
        · simp only [cond_true, Tr.row]
          rw [ih _ _ (by simp only [Tr.sz]; omega)]
          simp [Tr.row]
theorem merge_hp {pr : Int → Int} : ∀ (n : Nat) (a b : Tr), a.sz + b.sz ≤ n → a.hp pr → b.hp pr → (a.row ++ b.row).Nodup → (mergeT pr a b).hp pr := by
  intro n
  induction n with
  | zero =>
    intro a b h h1 h2 _
    cases a with
    | nil => simpa [mergeT] using h2
    | nd l x r => simp [Tr.sz] at h
  | succ n ih =>
    intro a b h h1 h2 hn
    cases a with
    | nil => simpa [mergeT] using h2
    | nd l x r =>
      cases b with
      | nil => simpa [mergeT] using h1
      | nd l' y r' =>
        have hxy : x ≠ y := by
          intro e; subst e
          have := (List.nodup_append.1 hn).2.2 x (by simp [Tr.row]) x (by simp [Tr.row])
          exact this rfl
        obtain ⟨a1, a2, a3, a4⟩ := h1
        obtain ⟨b1, b2, b3, b4⟩ := h2
        simp only [Tr.sz] at h
        rw [merge_nd]
        cases he : ab pr x y
        · have e' := ab_total he hxy
          refine ⟨fun z hz => ?_, b2, ih _ _ (by simp only [Tr.sz]; omega) ⟨a1, a2, a3, a4⟩ b3 ?_, b4⟩
          · rw [merge_row _ _ _ (Nat.le_refl _)] at hz
            rcases List.mem_append.1 hz with q | q
            · simp only [Tr.row, List.mem_append, List.mem_cons] at q
              rcases q with q | rfl | q
              · exact ab_trans e' (a1 _ q)
              · exact e'
              · exact ab_trans e' (a2 _ q)
            · exact b1 _ q
          · refine hn.sublist (List.Sublist.append (List.Sublist.refl _) ?_)
            simp [Tr.row]
        · refine ⟨a1, fun z hz => ?_, a3, ih _ _ (by simp only [Tr.sz]; omega) a4 ⟨b1, b2, b3, b4⟩ ?_⟩
          · rw [merge_row _ _ _ (Nat.le_refl _)] at hz
            rcases List.mem_append.1 hz with q | q
            · exact a2 _ q
            · simp only [Tr.row, List.mem_append, List.mem_cons] at q
              rcases q with q | rfl | q
              · exact ab_trans he (b1 _ q)
              · exact he
              · exact ab_trans he (b2 _ q)
          · refine hn.sublist (List.Sublist.append ?_ (List.Sublist.refl _))
            simp only [Tr.row]
            exact List.Sublist.trans (List.sublist_cons_self _ _) (List.sublist_append_right _ _)
/-! ### Sums -/
def Tr.nv (vx : Int → Bool) : Tr → Nat
  | .nil => 0
  | .nd l x r => l.nv vx + r.nv vx + (bif vx x then 1 else 0)
def Tr.am (mk : Int → Nat) : Tr → Nat
  | .nil => 0
  | .nd l x r => (mk x ||| l.am mk) ||| r.am mk
def SM (sz nv own all : Nat) : Int := ((((all * 4 + own) * 65536 + nv) * 65536 + sz : Nat) : Int)
def Tr.sm (mk : Int → Nat) (vx : Int → Bool) : Tr → Int
  | .nil => 0
  | .nd l x r => SM (l.sz + r.sz + 1) (l.nv vx + r.nv vx + (bif vx x then 1 else 0)) (mk x) ((mk x ||| l.am mk) ||| r.am mk)
theorem Tr.nv_le (vx : Int → Bool) (t : Tr) : t.nv vx ≤ t.sz := by
  induction t with
  | nil => exact Nat.le_refl _
  | nd l x r hl hr => simp only [Tr.nv, Tr.sz]; cases vx x <;> simp <;> omega
theorem Tr.am_lt {mk : Int → Nat} (hm : ∀ x, mk x < 4) (t : Tr) : t.am mk < 4 := by
  induction t with
  | nil => show 0 < 4; omega
  | nd l x r hl hr => exact Nat.or_lt_two_pow (n := 2) (Nat.or_lt_two_pow (n := 2) (hm x) hl) hr
theorem nv_row (vx : Int → Bool) (t : Tr) : t.nv vx = (t.row.filter vx).length := by
  induction t with
  | nil => rfl
  | nd l x r hl hr =>
    rw [Tr.nv, Tr.row, List.filter_append, List.length_append, List.filter_cons, hl, hr]
    cases vx x <;> simp <;> omega
end Go.Det.U
/- Nodes in memory: their parents, children and sums, as functions of the nodes. -/
namespace Go.Det.E
open Go.Proofs Go.Det Go.Det.U
structure NS where
  par : Int → Int
  lf : Int → Int
  rt : Int → Int
  sm : Int → Int
def upI (f : Int → Int) (x v : Int) : Int → Int := fun y => if y = x then v else f y
theorem upI_same (f : Int → Int) (x v : Int) : upI f x v x = v := if_pos rfl
theorem upI_else {f : Int → Int} {x v y : Int} (h : y ≠ x) : upI f x v y = f y := if_neg h
/-- A node's cells begin here. -/
def qN (V S T x : Int) : Int := Nd V S T + (x - 1) * 7
/-- Is it a cell of a node's parent, children or sum? -/
def isNF (V S T i : Int) : Prop := Nd V S T ≤ i ∧ ((i - Nd V S T) % 7 = 2 ∨ (i - Nd V S T) % 7 = 3 ∨ (i - Nd V S T) % 7 = 4 ∨ (i - Nd V S T) % 7 = 6)
/-- Memory that has nodes so; all else is as told. -/
structure Rep (V S T : Int) (l0 : Int → Int) (l : List Int) (s : NS) : Prop where
  len : (l.length : Int) = Cn V S T
  wd : Wd l
  oth : ∀ i, ¬ isNF V S T i → getI l i = l0 i
  lf : ∀ x, 1 ≤ x → x ≤ Nn V S → getI l (qN V S T x + 3) = s.lf x
  rt : ∀ x, 1 ≤ x → x ≤ Nn V S → getI l (qN V S T x + 4) = s.rt x
  sm : ∀ x, 1 ≤ x → x ≤ Nn V S → getI l (qN V S T x + 6) = s.sm x
  sh : ∀ x, 1 ≤ x → x ≤ Nn V S → lvlB V x = 0 → W.rightB (getI l (qN V S T x + 2)) = true ∧ getI l (qN V S T x + 2) % 65536 = s.par x
  ns : ∀ x, 1 ≤ x → x ≤ Nn V S → lvlB V x ≠ 0 → getI l (qN V S T x + 2) = s.par x
variable {V S T : Int} {l0 : Int → Int} {l : List Int} {s : NS} {x v p : Int}
theorem qN_in (hR : Rt V S T) (h1 : 1 ≤ x) (h2 : x ≤ Nn V S) : 0 ≤ qN V S T x ∧ qN V S T x + 6 < Cn V S T := by
  have := order hR
  have c : Cn V S T = Nd V S T + Nn V S * 7 := rfl
  unfold qN; omega
theorem Rep.putLf (hR : Rt V S T) (R : Rep V S T l0 l s) (h1 : 1 ≤ x) (h2 : x ≤ Nn V S) (hv : 0 ≤ v ∧ v < 18446744073709551616) : Rep V S T l0 (putI l (qN V S T x + 3) v) { s with lf := upI s.lf x v } := by
  have q := qN_in hR h1 h2
  have hl := R.len
  have g := fun j => getI_put l (qN V S T x + 3) j v
  refine ⟨by rw [putI_len]; exact hl, R.wd.put _ hv, fun i hi => ?_, fun y a b => ?_, fun y a b => ?_, fun y a b => ?_, fun y a b c => ?_, fun y a b c => ?_⟩
  · rw [g, if_neg, R.oth i hi]
    intro e; apply hi; unfold isNF; unfold qN at e; omega
  · rw [g]
    by_cases e : y = x
    · subst e; rw [if_pos ⟨rfl, by omega, by omega⟩]; exact (upI_same _ _ _).symm
    · rw [if_neg (by unfold qN; omega), R.lf y a b]; exact (upI_else e).symm
  · rw [g, if_neg (by unfold qN; omega)]; exact R.rt y a b
  · rw [g, if_neg (by unfold qN; omega)]; exact R.sm y a b
  · rw [g, if_neg (by unfold qN; omega)]; exact R.sh y a b c
  · rw [g, if_neg (by unfold qN; omega)]; exact R.ns y a b c
theorem Rep.putRt (hR : Rt V S T) (R : Rep V S T l0 l s) (h1 : 1 ≤ x) (h2 : x ≤ Nn V S) (hv : 0 ≤ v ∧ v < 18446744073709551616) : Rep V S T l0 (putI l (qN V S T x + 4) v) { s with rt := upI s.rt x v } := by
  have q := qN_in hR h1 h2
  have hl := R.len
  have g := fun j => getI_put l (qN V S T x + 4) j v
  refine ⟨by rw [putI_len]; exact hl, R.wd.put _ hv, fun i hi => ?_, fun y a b => ?_, fun y a b => ?_, fun y a b => ?_, fun y a b c => ?_, fun y a b c => ?_⟩
  · rw [g, if_neg, R.oth i hi]
    intro e; apply hi; unfold isNF; unfold qN at e; omega
  · rw [g, if_neg (by unfold qN; omega)]; exact R.lf y a b
  · rw [g]
    by_cases e : y = x
    · subst e; rw [if_pos ⟨rfl, by omega, by omega⟩]; exact (upI_same _ _ _).symm
    · rw [if_neg (by unfold qN; omega), R.rt y a b]; exact (upI_else e).symm
  · rw [g, if_neg (by unfold qN; omega)]; exact R.sm y a b
  · rw [g, if_neg (by unfold qN; omega)]; exact R.sh y a b c
  · rw [g, if_neg (by unfold qN; omega)]; exact R.ns y a b c
theorem Rep.putSm (hR : Rt V S T) (R : Rep V S T l0 l s) (h1 : 1 ≤ x) (h2 : x ≤ Nn V S) (hv : 0 ≤ v ∧ v < 18446744073709551616) : Rep V S T l0 (putI l (qN V S T x + 6) v) { s with sm := upI s.sm x v } := by
  have q := qN_in hR h1 h2
  have hl := R.len
  have g := fun j => getI_put l (qN V S T x + 6) j v
  refine ⟨by rw [putI_len]; exact hl, R.wd.put _ hv, fun i hi => ?_, fun y a b => ?_, fun y a b => ?_, fun y a b => ?_, fun y a b c => ?_, fun y a b c => ?_⟩
  · rw [g, if_neg, R.oth i hi]
    intro e; apply hi; unfold isNF; unfold qN at e; omega
  · rw [g, if_neg (by unfold qN; omega)]; exact R.lf y a b
  · rw [g, if_neg (by unfold qN; omega)]; exact R.rt y a b
  · rw [g]
    by_cases e : y = x
    · subst e; rw [if_pos ⟨rfl, by omega, by omega⟩]; exact (upI_same _ _ _).symm
    · rw [if_neg (by unfold qN; omega), R.sm y a b]; exact (upI_else e).symm
  · rw [g, if_neg (by unfold qN; omega)]; exact R.sh y a b c
  · rw [g, if_neg (by unfold qN; omega)]; exact R.ns y a b c
/-- The cell of a parent is written. -/
theorem Rep.putPar (hR : Rt V S T) (R : Rep V S T l0 l s) (h1 : 1 ≤ x) (h2 : x ≤ Nn V S) (hv : 0 ≤ v ∧ v < 18446744073709551616) (hs : lvlB V x = 0 → W.rightB v = true ∧ v % 65536 = p) (hn : lvlB V x ≠ 0 → v = p) :
    Rep V S T l0 (putI l (qN V S T x + 2) v) { s with par := upI s.par x p } := by
  have q := qN_in hR h1 h2
  have hl := R.len
  have g := fun j => getI_put l (qN V S T x + 2) j v
  refine ⟨by rw [putI_len]; exact hl, R.wd.put _ hv, fun i hi => ?_, fun y a b => ?_, fun y a b => ?_, fun y a b => ?_, fun y a b c => ?_, fun y a b c => ?_⟩
  · rw [g, if_neg, R.oth i hi]
    intro e; apply hi; unfold isNF; unfold qN at e; omega
  · rw [g, if_neg (by unfold qN; omega)]; exact R.lf y a b
  · rw [g, if_neg (by unfold qN; omega)]; exact R.rt y a b
  · rw [g, if_neg (by unfold qN; omega)]; exact R.sm y a b
  · rw [g]
    by_cases e : y = x
    · subst e; rw [if_pos ⟨rfl, by omega, by omega⟩]
      show W.rightB v = true ∧ v % 65536 = upI s.par y p y
      rw [upI_same]; exact hs c
    · rw [if_neg (by unfold qN; omega)]
      show _ ∧ _ = upI s.par x p y
      rw [upI_else e]; exact R.sh y a b c
  · rw [g]
    by_cases e : y = x
    · subst e; rw [if_pos ⟨rfl, by omega, by omega⟩]
      show v = upI s.par y p y
      rw [upI_same]; exact hn c
    · rw [if_neg (by unfold qN; omega)]
      show _ = upI s.par x p y
      rw [upI_else e]; exact R.ns y a b c
/-- What a pen writes is a word, which means the new number. -/
theorem ch_is (c : Int) (hc : W.rightB c = true) (hp : 0 ≤ p ∧ p ≤ 65535) (hw : 0 ≤ c ∧ c < 18446744073709551616) : W.rightW (olW 1 0 c) p 1 0 = true ∧ (0 ≤ W.bitsW (olW 1 0 c) p 1 0 ∧ W.bitsW (olW 1 0 c) p 1 0 < 18446744073709551616) ∧ W.rightB (W.bitsW (olW 1 0 c) p 1 0) = true ∧ W.bitsW (olW 1 0 c) p 1 0 % 65536 = p := by
  have ho : 0 ≤ olW 1 0 c ∧ olW 1 0 c ≤ 65535 := by
    unfold olW
    cases (c / 4294967296 % 256 != 1 || c / 1099511627776 != 0)
    · simp only [cond_false]; omega
    · simp only [cond_true]; omega
  have hr : W.rightW (olW 1 0 c) p 1 0 = true := W.rightW_iff.2 ⟨ho, hp, by omega, by omega, .inl (by omega)⟩
  obtain ⟨b1, b2, b3, b4, b5⟩ := W.bits_of hr
  exact ⟨hr, ⟨b1, b2⟩, W.bits_right hr, b4⟩
end Go.Det.E

/- Trees in memory: what stays a tree when a node's child is changed. -/
namespace Go.Det.E
open Go.Proofs Go.Det Go.Det.U
def IsT (mk : Int → Nat) (vx : Int → Bool) (s : NS) : Tr → Int → Prop
  | .nil, _ => True
  | .nd l x r, p => s.par x = p ∧ s.lf x = l.rt ∧ s.rt x = r.rt ∧ s.sm x = (Tr.nd l x r).sm mk vx ∧ IsT mk vx s l x ∧ IsT mk vx s r x
/-- A tree, whatever it hangs under. -/
def IsB (mk : Int → Nat) (vx : Int → Bool) (s : NS) : Tr → Prop
  | .nil => True
  | .nd l x r => s.lf x = l.rt ∧ s.rt x = r.rt ∧ s.sm x = (Tr.nd l x r).sm mk vx ∧ IsT mk vx s l x ∧ IsT mk vx s r x
def SameOn (xs : List Int) (s s' : NS) : Prop := ∀ x ∈ xs, s'.par x = s.par x ∧ s'.lf x = s.lf x ∧ s'.rt x = s.rt x ∧ s'.sm x = s.sm x
def SameOut (xs : List Int) (s s' : NS) : Prop := ∀ x, x ∉ xs → s'.par x = s.par x ∧ s'.lf x = s.lf x ∧ s'.rt x = s.rt x ∧ s'.sm x = s.sm x
variable {mk : Int → Nat} {vx : Int → Bool} {s s' s'' : NS} {pr : Int → Int}
theorem SameOut.refl (xs : List Int) (s : NS) : SameOut xs s s := fun _ _ => ⟨rfl, rfl, rfl, rfl⟩
theorem SameOut.trans {xs : List Int} (h : SameOut xs s s') (h' : SameOut xs s' s'') : SameOut xs s s'' := fun x hx => by
  obtain ⟨a1, a2, a3, a4⟩ := h x hx
  obtain ⟨b1, b2, b3, b4⟩ := h' x hx
  exact ⟨b1.trans a1, b2.trans a2, b3.trans a3, b4.trans a4⟩
theorem SameOut.mono {xs ys : List Int} (h : SameOut xs s s') (hs : ∀ x ∈ xs, x ∈ ys) : SameOut ys s s' := fun x hx => h x fun q => hx (hs x q)
theorem SameOut.on {xs ys : List Int} (h : SameOut xs s s') (hd : ∀ x ∈ ys, x ∉ xs) : SameOn ys s s' := fun x hx => h x (hd x hx)
theorem IsT.congr {t : Tr} {p : Int} (h : SameOn t.row s s') (I : IsT mk vx s t p) : IsT mk vx s' t p := by
  induction t generalizing p with
  | nil => trivial
  | nd l x r hl hr =>
    obtain ⟨a1, a2, a3, a4, a5, a6⟩ := I
    obtain ⟨b1, b2, b3, b4⟩ := h x (by simp [Tr.row])
    exact ⟨b1.trans a1, b2.trans a2, b3.trans a3, b4.trans a4, hl (fun y hy => h y (by simp [Tr.row, hy])) a5, hr (fun y hy => h y (by simp [Tr.row, hy])) a6⟩
theorem IsT.body {t : Tr} {p : Int} (I : IsT mk vx s t p) : IsB mk vx s t := by
  cases t with
  | nil => trivial
  | nd l x r => exact ⟨I.2.1, I.2.2.1, I.2.2.2.1, I.2.2.2.2.1, I.2.2.2.2.2⟩
theorem IsB.under {t : Tr} {p : Int} (B : IsB mk vx s t) (h : ∀ x, t.rt = x → t ≠ .nil → s.par x = p) : IsT mk vx s t p := by
  cases t with
  | nil => trivial
  | nd l x r => exact ⟨h x rfl (by simp), B.1, B.2.1, B.2.2.1, B.2.2.2.1, B.2.2.2.2⟩
theorem IsT.par {t : Tr} {p : Int} (I : IsT mk vx s t p) (h : t ≠ .nil) : s.par t.rt = p := by
  cases t with
  | nil => exact absurd rfl h
  | nd l x r => exact I.1
theorem IsB.congr {t : Tr} (h : SameOn t.row s s') (I : IsB mk vx s t) : IsB mk vx s' t := by
  cases t with
  | nil => trivial
  | nd l x r =>
    obtain ⟨a2, a3, a4, a5, a6⟩ := I
    obtain ⟨b1, b2, b3, b4⟩ := h x (by simp [Tr.row])
    exact ⟨b2.trans a2, b3.trans a3, b4.trans a4, a5.congr fun y hy => h y (by simp [Tr.row, hy]), a6.congr fun y hy => h y (by simp [Tr.row, hy])⟩
theorem rt_mem {t : Tr} (h : t ≠ .nil) : t.rt ∈ t.row := by
  cases t with
  | nil => exact absurd rfl h
  | nd l x r => simp [Tr.row, Tr.rt]
/-- A node has another left child, or right one; that hangs under it. -/
def setL (s : NS) (x c v : Int) : NS := { par := if c = 0 then s.par else upI s.par c x, lf := upI s.lf x c, rt := s.rt, sm := upI s.sm x v }
def setR (s : NS) (x c v : Int) : NS := { par := if c = 0 then s.par else upI s.par c x, lf := s.lf, rt := upI s.rt x c, sm := upI s.sm x v }
theorem setL_out {x c v y : Int} (h1 : y ≠ x) (h2 : y ≠ c) : (setL s x c v).par y = s.par y ∧ (setL s x c v).lf y = s.lf y ∧ (setL s x c v).rt y = s.rt y ∧ (setL s x c v).sm y = s.sm y := by
  refine ⟨?_, upI_else h1, rfl, upI_else h1⟩
  unfold setL
  simp only
  split
  · rfl
  · exact upI_else h2
theorem setR_out {x c v y : Int} (h1 : y ≠ x) (h2 : y ≠ c) : (setR s x c v).par y = s.par y ∧ (setR s x c v).lf y = s.lf y ∧ (setR s x c v).rt y = s.rt y ∧ (setR s x c v).sm y = s.sm y := by
  refine ⟨?_, rfl, upI_else h1, upI_else h1⟩
  unfold setR
  simp only
  split
  · rfl
  · exact upI_else h2
theorem hung {t : Tr} {x : Int} (B : IsB mk vx s t) (hn : t.row.Nodup) (h0 : ∀ y ∈ t.row, 1 ≤ y) (hp : ∀ y, y ≠ t.rt → y ∈ t.row → s'.par y = s.par y ∧ s'.lf y = s.lf y ∧ s'.rt y = s.rt y ∧ s'.sm y = s.sm y)
    (hr : t ≠ .nil → s'.par t.rt = x ∧ s'.lf t.rt = s.lf t.rt ∧ s'.rt t.rt = s.rt t.rt ∧ s'.sm t.rt = s.sm t.rt) : IsT mk vx s' t x := by
  cases t with
  | nil => trivial
  | nd l y r =>
    obtain ⟨a2, a3, a4, a5, a6⟩ := B
    obtain ⟨b1, b2, b3, b4⟩ := hr (by simp)
    simp only [Tr.rt] at b1 b2 b3 b4 hp
    simp only [Tr.row] at hn
    have n1 : ∀ z ∈ l.row, z ≠ y := fun z hz e => (List.nodup_append.1 hn).2.2 z hz y (by simp) e
    have n2 : ∀ z ∈ r.row, z ≠ y := fun z hz e => by
      have := (List.nodup_cons.1 (List.nodup_append.1 hn).2.1).1
      exact this (e ▸ hz)
    exact ⟨b1, b2.trans a2, b3.trans a3, b4.trans a4, a5.congr fun z hz => hp z (n1 z hz) (by simp [Tr.row, hz]), a6.congr fun z hz => hp z (n2 z hz) (by simp [Tr.row, hz])⟩
theorem set_left {l r : Tr} {x : Int} (Bl : IsB mk vx s l) (Ir : IsT mk vx s r x) (hR : s.rt x = r.rt) (hn : (l.row ++ x :: r.row).Nodup) (h0 : ∀ y ∈ l.row ++ x :: r.row, 1 ≤ y) :
    IsB mk vx (setL s x l.rt ((Tr.nd l x r).sm mk vx)) (.nd l x r) := by
  have n1 : ∀ z ∈ l.row, z ≠ x := fun z hz e => (List.nodup_append.1 hn).2.2 z hz x (by simp) e
  have n2 : ∀ z ∈ r.row, z ≠ x := fun z hz e => by
    have := (List.nodup_cons.1 (List.nodup_append.1 hn).2.1).1
    exact this (e ▸ hz)
  refine ⟨upI_same _ _ _, hR, upI_same _ _ _, ?_, Ir.congr fun z hz => ?_⟩
  · refine hung Bl (List.nodup_append.1 hn).1 (fun y hy => h0 y (by simp [hy])) (fun y h1 h2 => setL_out (n1 y h2) h1) fun hne => ?_
    have hx := n1 _ (rt_mem hne)
    have c : ¬ l.rt = 0 := by have := h0 l.rt (by simp [rt_mem hne]); omega
    refine ⟨?_, upI_else hx, rfl, upI_else hx⟩
    unfold setL
    simp only
    rw [if_neg c]
    exact upI_same _ _ _
  · by_cases hne : l = .nil
    · subst hne
      refine setL_out (n2 z hz) ?_
      have := h0 z (by simp [hz])
      simp only [Tr.rt]; omega
    · exact setL_out (n2 z hz) fun e => (List.nodup_append.1 hn).2.2 _ (rt_mem hne) z (by simp [hz]) e.symm
theorem set_right {l r : Tr} {x : Int} (Il : IsT mk vx s l x) (Br : IsB mk vx s r) (hL : s.lf x = l.rt) (hn : (l.row ++ x :: r.row).Nodup) (h0 : ∀ y ∈ l.row ++ x :: r.row, 1 ≤ y) :
    IsB mk vx (setR s x r.rt ((Tr.nd l x r).sm mk vx)) (.nd l x r) := by
  have n1 : ∀ z ∈ l.row, z ≠ x := fun z hz e => (List.nodup_append.1 hn).2.2 z hz x (by simp) e
  have nr := (List.nodup_cons.1 (List.nodup_append.1 hn).2.1)
  have n2 : ∀ z ∈ r.row, z ≠ x := fun z hz e => nr.1 (e ▸ hz)
  refine ⟨hL, upI_same _ _ _, upI_same _ _ _, Il.congr fun z hz => ?_, ?_⟩
  · by_cases hne : r = .nil
    · subst hne
      refine setR_out (n1 z hz) ?_
      have := h0 z (by simp [hz])
      simp only [Tr.rt]; omega
    · exact setR_out (n1 z hz) fun e => (List.nodup_append.1 hn).2.2 z hz _ (by simp [rt_mem hne]) e
  · refine hung Br nr.2 (fun y hy => h0 y (by simp [hy])) (fun y h1 h2 => setR_out (n2 y h2) h1) fun hne => ?_
    have hx := n2 _ (rt_mem hne)
    have c : ¬ r.rt = 0 := by have := h0 r.rt (by simp [rt_mem hne]); omega
    refine ⟨?_, rfl, upI_else hx, upI_else hx⟩
    unfold setR
    simp only
    rw [if_neg c]
    exact upI_same _ _ _
theorem setL_same {x c v : Int} {xs : List Int} (hx : x ∈ xs) (hc : c = 0 ∨ c ∈ xs) : SameOut xs s (setL s x c v) := by
  intro y hy
  have h1 : y ≠ x := fun e => hy (e ▸ hx)
  rcases hc with rfl | hc
  · exact ⟨rfl, upI_else h1, rfl, upI_else h1⟩
  · exact setL_out h1 fun e => hy (e ▸ hc)
theorem setR_same {x c v : Int} {xs : List Int} (hx : x ∈ xs) (hc : c = 0 ∨ c ∈ xs) : SameOut xs s (setR s x c v) := by
  intro y hy
  have h1 : y ≠ x := fun e => hy (e ▸ hx)
  rcases hc with rfl | hc
  · exact ⟨rfl, rfl, upI_else h1, upI_else h1⟩
  · exact setR_out h1 fun e => hy (e ▸ hc)
end Go.Det.E

/- Trees in memory: what the functions on one node do. -/
namespace Go.Det.E
open Go.Proofs Go.Det Go.Det.U
attribute [local congr] bind_c cond_c
/-! ### Bits of sums -/
theorem bv64 {x : Nat} (h : x < 2 ^ 64) : (BitVec.ofInt 64 (x : Int)).toNat = x := by
  rw [BitVec.ofInt_natCast, BitVec.toNat_ofNat]; exact Nat.mod_eq_of_lt h
theorem bAnd64 {x : Nat} (hx : x < 2 ^ 64) (k : Nat) (hk : k ≤ 63) : bAnd .u64 (x : Int) ((2 ^ k - 1 : Nat) : Int) = ((x % 2 ^ k : Nat) : Int) := by
  have h2 : 2 ^ k ≤ 2 ^ 63 := Nat.pow_le_pow_right (by omega) hk
  show IntKind.u64.wrap ((BitVec.ofInt 64 (x : Int) &&& BitVec.ofInt 64 ((2 ^ k - 1 : Nat) : Int)).toNat : Int) = _
  have hm : x % 2 ^ k < 2 ^ 64 := Nat.lt_of_le_of_lt (Nat.mod_le _ _) hx
  rw [BitVec.toNat_and, bv64 hx, bv64 (by omega), Nat.and_two_pow_sub_one_eq_mod, W.wu (by omega) (by omega)]
theorem bOr64 {x y : Nat} (hx : x < 2 ^ 64) (hy : y < 2 ^ 64) : bOr .u64 (x : Int) (y : Int) = ((x ||| y : Nat) : Int) := by
  have := Nat.or_lt_two_pow hx hy
  show IntKind.u64.wrap ((BitVec.ofInt 64 (x : Int) ||| BitVec.ofInt 64 (y : Int)).toNat : Int) = _
  rw [BitVec.toNat_or, bv64 hx, bv64 hy, W.wu (by omega) (by omega)]
theorem low_or {lo x y : Nat} {k : Nat} (hl : lo < 2 ^ k) : (lo + x * 2 ^ k) ||| (y * 2 ^ k) = lo + (x ||| y) * 2 ^ k := by
  have e1 : ∀ z, lo + z * 2 ^ k = 2 ^ k * z + lo := fun z => by rw [Nat.mul_comm, Nat.add_comm]
  have e2 : y * 2 ^ k = 2 ^ k * y + 0 := by rw [Nat.mul_comm]; rfl
  have hp : 0 < 2 ^ k := Nat.two_pow_pos k
  rw [e1, e1, e2]
  refine Nat.eq_of_testBit_eq fun i => ?_
  rw [Nat.testBit_or, Nat.testBit_two_pow_mul_add _ hl, Nat.testBit_two_pow_mul_add _ hp, Nat.testBit_two_pow_mul_add _ hl]
  by_cases h : i < k
  · simp [h]
  · simp [h]
structure SMok (sz nv own all : Nat) : Prop where
  sz : sz < 65536
  nv : nv < 65536
  own : own < 4
  all : all < 4
variable {sz nv own all : Nat}
def smN (sz nv own all : Nat) : Nat := ((all * 4 + own) * 65536 + nv) * 65536 + sz
theorem smN_lt (k : SMok sz nv own all) : smN sz nv own all < 2 ^ 36 := by
  obtain ⟨h1, h2, h3, h4⟩ := k
  unfold smN; omega
theorem SM_eq (sz nv own all : Nat) : SM sz nv own all = (smN sz nv own all : Int) := rfl
theorem sm_size (k : SMok sz nv own all) : IntKind.wrap .i64 (bAnd .u64 (SM sz nv own all) 65535) = (sz : Int) := by
  have := smN_lt k
  rw [SM_eq, show (65535 : Int) = ((2 ^ 16 - 1 : Nat) : Int) from rfl, bAnd64 (by omega) 16 (by omega)]
  have e : smN sz nv own all % 2 ^ 16 = sz := by have := k.sz; unfold smN; omega
  rw [e]
  exact wi (by omega) (by have := k.sz; omega)
theorem fdiv_nat (x k : Nat) : Int.fdiv (x : Int) (2 ^ k) = ((x / 2 ^ k : Nat) : Int) := by
  rw [Int.fdiv_eq_ediv_of_nonneg _ (Int.le_of_lt (Int.pow_pos (by decide)))]
  push_cast; rfl
theorem sm_verts (k : SMok sz nv own all) : IntKind.wrap .i64 (bAnd .u64 (Int.fdiv (SM sz nv own all) (2 ^ 16)) 65535) = (nv : Int) := by
  have := smN_lt k
  rw [SM_eq, fdiv_nat, show (65535 : Int) = ((2 ^ 16 - 1 : Nat) : Int) from rfl, bAnd64 (by omega) 16 (by omega)]
  have e : smN sz nv own all / 2 ^ 16 % 2 ^ 16 = nv := by have := k.sz; have := k.nv; unfold smN; omega
  rw [e]
  exact wi (by omega) (by have := k.nv; omega)
theorem sm_own (k : SMok sz nv own all) : bAnd .u64 (Int.fdiv (SM sz nv own all) (2 ^ 32)) 3 = (own : Int) := by
  have := smN_lt k
  rw [SM_eq, fdiv_nat, show (3 : Int) = ((2 ^ 2 - 1 : Nat) : Int) from rfl, bAnd64 (by omega) 2 (by omega)]
  have e : smN sz nv own all / 2 ^ 32 % 2 ^ 2 = own := by have := k.sz; have := k.nv; have := k.own; unfold smN; omega
  rw [e]
theorem sm_all (k : SMok sz nv own all) : bAnd .u64 (Int.fdiv (SM sz nv own all) (2 ^ 34)) 3 = (all : Int) := by
  have := smN_lt k
  rw [SM_eq, fdiv_nat, show (3 : Int) = ((2 ^ 2 - 1 : Nat) : Int) from rfl, bAnd64 (by omega) 2 (by omega)]
  have e : smN sz nv own all / 2 ^ 34 % 2 ^ 2 = all := by have := k.sz; have := k.nv; have := k.own; have := k.all; unfold smN; omega
  rw [e]
theorem sm_counts (k : SMok sz nv own all) : bAnd .u64 (SM sz nv own all) 4294967295 = ((nv * 65536 + sz : Nat) : Int) := by
  have := smN_lt k
  rw [SM_eq, show (4294967295 : Int) = ((2 ^ 32 - 1 : Nat) : Int) from rfl, bAnd64 (by omega) 32 (by omega)]
  have e : smN sz nv own all % 2 ^ 32 = nv * 65536 + sz := by have := k.sz; have := k.nv; unfold smN; omega
  rw [e]
/-- A child's sum is added. -/
theorem sm_add {sz2 nv2 own2 all2 : Nat} (k : SMok sz nv own all) (k2 : SMok sz2 nv2 own2 all2) (hs : sz + sz2 < 65536) (hn : nv + nv2 < 65536) :
    bOr .u64 (IntKind.wrap .u64 (SM sz nv own all + bAnd .u64 (SM sz2 nv2 own2 all2) 4294967295)) (IntKind.wrap .u64 (bAnd .u64 (Int.fdiv (SM sz2 nv2 own2 all2) (2 ^ 34)) 3 * 2 ^ 34)) = SM (sz + sz2) (nv + nv2) own (all ||| all2) := by
  have l1 := smN_lt k
  rw [sm_counts k2, sm_all k2]
  have l2 : smN (sz + sz2) (nv + nv2) own all < 2 ^ 36 := smN_lt ⟨hs, hn, k.own, k.all⟩
  have e0 : smN sz nv own all + (nv2 * 65536 + sz2) = smN (sz + sz2) (nv + nv2) own all := by unfold smN; omega
  have e1 : SM sz nv own all + ((nv2 * 65536 + sz2 : Nat) : Int) = ((smN (sz + sz2) (nv + nv2) own all : Nat) : Int) := by
    rw [SM_eq, ← Int.natCast_add, e0]
  rw [e1, W.wu (by omega) (by omega)]
  have p34 : (2 : Int) ^ 34 = ((2 ^ 34 : Nat) : Int) := by decide
  have e2 : ((all2 : Nat) : Int) * 2 ^ 34 = ((all2 * 2 ^ 34 : Nat) : Int) := by rw [p34, ← Int.natCast_mul]
  have := k2.all
  rw [e2, W.wu (by omega) (by omega), bOr64 (by omega) (by omega)]
  have e3 : smN (sz + sz2) (nv + nv2) own all = ((own * 65536 + (nv + nv2)) * 65536 + (sz + sz2)) + all * 2 ^ 34 := by unfold smN; omega
  have hl : (own * 65536 + (nv + nv2)) * 65536 + (sz + sz2) < 2 ^ 34 := by have := k.own; omega
  have lo := low_or (x := all) (y := all2) hl
  have fin : smN (sz + sz2) (nv + nv2) own all ||| all2 * 2 ^ 34 = smN (sz + sz2) (nv + nv2) own (all ||| all2) := by
    refine (congrArg (fun z => z ||| all2 * 2 ^ 34) e3).trans (lo.trans ?_)
    unfold smN; omega
  exact congrArg (fun z : Nat => (z : Int)) fin
theorem sm_lone {m : Nat} (hm : m < 4) (v : Bool) : (bif v then bOr .u64 (bOr .u64 (bOr .u64 1 (IntKind.wrap .u64 ((m : Int) * 2 ^ 32))) (IntKind.wrap .u64 ((m : Int) * 2 ^ 34))) 65536 else bOr .u64 (bOr .u64 1 (IntKind.wrap .u64 ((m : Int) * 2 ^ 32))) (IntKind.wrap .u64 ((m : Int) * 2 ^ 34))) = SM 1 (bif v then 1 else 0) m m := by
  have : m = 0 ∨ m = 1 ∨ m = 2 ∨ m = 3 := by omega
  rcases this with rfl | rfl | rfl | rfl <;> cases v <;> decide +kernel
theorem SM0 : SM 0 0 0 0 = 0 := by decide
theorem smok_tr {mk : Int → Nat} {vx : Int → Bool} (hm : ∀ x, mk x < 4) (t : Tr) (h : t.sz < 65536) : ∃ o, SMok t.sz (t.nv vx) o (t.am mk) ∧ t.sm mk vx = SM t.sz (t.nv vx) o (t.am mk) := by
  have h1 := t.nv_le vx
  have h2 := t.am_lt hm
  cases t with
  | nil => exact ⟨0, ⟨h, by show 0 < 65536; omega, by omega, h2⟩, SM0.symm⟩
  | nd l x r => exact ⟨mk x, ⟨h, by omega, hm x, h2⟩, rfl⟩
/-! ### The functions -/
variable {md : Md} {h hh : Heap} {a b : Nat} {V S T x v p f : Int} {l c : List Int} {l0 : Int → Int} {s s' : NS}
/-- An arena that has nodes so. -/
def TH (V S T : Int) (l0 : Int → Int) (a b : Nat) (s : NS) (h : Heap) : Prop := ∃ l c, Ar h a b l c ∧ Rep V S T l0 l s
theorem TH.app (A : TH V S T l0 a b s h) (bs : Heap) : TH V S T l0 a b s (h ++ bs) := let ⟨l, c, A, R⟩ := A; ⟨l, c, A.app bs, R⟩
theorem TH.la (A : TH V S T l0 a b s h) : a < h.length ∧ b < h.length := let ⟨l, c, A, R⟩ := A; ⟨lt_of A.ha, lt_of A.hb⟩
theorem TH.take {n : Nat} (A : TH V S T l0 a b s h) (ha : a < n) (hb : b < n) : TH V S T l0 a b s (h.take n) := let ⟨l, c, A, R⟩ := A; ⟨l, c, A.take ha hb, R⟩
theorem TH.old {h' : Heap} (A : TH V S T l0 a b s h) (ha : h'[a]? = h[a]?) (hb : h'[b]? = h[b]?) : TH V S T l0 a b s h' := let ⟨l, c, A, R⟩ := A; ⟨l, c, A.same ha hb, R⟩
/-- The block of a call's own trees. -/
theorem tvB {k : Heap} (la : a < h.length) (lb : b < h.length) (o : Only a b (h ++ [Blk.own [(Value.int .i64 V), (Value.int .i64 S), (Value.int .i64 T), ifA a, (Value.int .i64 1), (Value.int .i64 0)]]) k) : k[h.length]? = some (.own [(Value.int .i64 V), (Value.int .i64 S), (Value.int .i64 T), ifA a, (Value.int .i64 1), (Value.int .i64 0)]) := by
  have := o.new la lb 0
  rw [Nat.add_zero] at this
  rw [this]; rfl
theorem tv6 {k : Heap} (e : k[h.length]? = some (.own [(Value.int .i64 V), (Value.int .i64 S), (Value.int .i64 T), ifA a, (Value.int .i64 1), (Value.int .i64 0)])) : rdN k h.length 0 6 = some [(Value.int .i64 V), (Value.int .i64 S), (Value.int .i64 T), ifA a, (Value.int .i64 1), (Value.int .i64 0)] := by rw [rdN_own e (by simp)]; rfl
theorem tv3 {k : Heap} (e : k[h.length]? = some (.own [(Value.int .i64 V), (Value.int .i64 S), (Value.int .i64 T), ifA a, (Value.int .i64 1), (Value.int .i64 0)])) : rdN k h.length 0 3 = some [(Value.int .i64 V), (Value.int .i64 S), (Value.int .i64 T)] := by rw [rdN_own e (by simp)]; rfl
theorem tvm {k : Heap} (e : k[h.length]? = some (.own [(Value.int .i64 V), (Value.int .i64 S), (Value.int .i64 T), ifA a, (Value.int .i64 1), (Value.int .i64 0)])) : rd k h.length 3 = some (ifA a) := by rw [rd_own e]; rfl
theorem lkeep {k : Heap} (o : Only a b (h ++ [Blk.own [(Value.int .i64 V), (Value.int .i64 S), (Value.int .i64 T), ifA a, (Value.int .i64 1), (Value.int .i64 0)]]) k) : k.length = h.length + 1 := by rw [o.len]; simp
abbrev Nix (V S : Int) (x : Int) : Prop := 1 ≤ x ∧ x ≤ Nn V S
theorem fx_of (hR : Rt V S T) (hx : Nix V S x) (hf : 0 ≤ f ∧ f < 7) : Fx V S T x f = qN V S T x + f := ((fx_in (b := f) hR).1 (by rw [Bl_t.2 ⟨by omega, by omega⟩, Bl_t.2 hf]; rfl)).1
theorem fs_of (hR : Rt V S T) (hx : Nix V S x) (hf : 0 ≤ f ∧ f < 7) (m : Md) (h : Heap) : C m 55 [(Value.agg #[(Value.int .i64 V), (Value.int .i64 S), (Value.int .i64 T)]), (Value.int .i64 x), (Value.int .i64 f)] h = some ((Value.int .i64 (qN V S T x + f)), h) := by
  have := Cn_le hR
  rw [field_s m h hR ⟨by omega, by omega⟩, fx_of hR hx hf]
/-- A field is told. -/
theorem rget_e (hR : Rt V S T) (A : Ar h a b l c) (hro : md.ro ≤ a) (hx : Nix V S x) (hf : 0 ≤ f ∧ f < 7) :
    ∃ h' c', C md 63 [(Value.agg #[(Value.int .i64 V), (Value.int .i64 S), (Value.int .i64 T), ifA a, (Value.int .i64 1), (Value.int .i64 0)]), (Value.int .i64 x), (Value.int .i64 f)] h = some ((Value.int .i64 (IntKind.wrap .i64 (getI l (qN V S T x + f)))), h') ∧ Ar h' a b l c' ∧ Only a b h h' := by
  have la := lt_of A.ha
  have lb := lt_of A.hb
  have fs := fun (m : Md) (h : Heap) => fs_of hR hx hf m h
  obtain ⟨h3, e3, A3, o3⟩ := pl_x (md := ⟨md.ro, h.length⟩) (A.app [Blk.own [(Value.int .i64 V), (Value.int .i64 S), (Value.int .i64 T), ifA a, (Value.int .i64 1), (Value.int .i64 0)]]) hro (qN V S T x + f)
  refine ⟨h3.take h.length, _, ?_, A3.take la lb, o3.take⟩
  rw [C, call_eq, F63_eq]
  unfold F63
  simp only [go_sem, Nat.reduceAdd, Nat.reduceLeDiff, Nat.reduceMul, Int.reduceBEq, Int.reduceBNe, Int.reduceLT, Int.reduceLE, Int.reduceGT, fs, okN_i, clI_load, e3]
theorem tget3 (hR : Rt V S T) (A : TH V S T l0 a b s h) (hro : md.ro ≤ a) (hx : Nix V S x) (hv : 0 ≤ s.lf x ∧ s.lf x < 100000) :
    ∃ h', C md 63 [(Value.agg #[(Value.int .i64 V), (Value.int .i64 S), (Value.int .i64 T), ifA a, (Value.int .i64 1), (Value.int .i64 0)]), (Value.int .i64 x), (Value.int .i64 3)] h = some ((Value.int .i64 (s.lf x)), h') ∧ TH V S T l0 a b s h' ∧ Only a b h h' := by
  obtain ⟨l, c, A, R⟩ := A
  obtain ⟨h', c', e, A', o⟩ := rget_e hR A hro hx (f := 3) (by omega)
  rw [R.lf x hx.1 hx.2, wi (by omega) (by omega)] at e
  exact ⟨h', e, ⟨l, c', A', R⟩, o⟩
theorem tget4 (hR : Rt V S T) (A : TH V S T l0 a b s h) (hro : md.ro ≤ a) (hx : Nix V S x) (hv : 0 ≤ s.rt x ∧ s.rt x < 100000) :
    ∃ h', C md 63 [(Value.agg #[(Value.int .i64 V), (Value.int .i64 S), (Value.int .i64 T), ifA a, (Value.int .i64 1), (Value.int .i64 0)]), (Value.int .i64 x), (Value.int .i64 4)] h = some ((Value.int .i64 (s.rt x)), h') ∧ TH V S T l0 a b s h' ∧ Only a b h h' := by
  obtain ⟨l, c, A, R⟩ := A
  obtain ⟨h', c', e, A', o⟩ := rget_e hR A hro hx (f := 4) (by omega)
  rw [R.rt x hx.1 hx.2, wi (by omega) (by omega)] at e
  exact ⟨h', e, ⟨l, c', A', R⟩, o⟩
/-- A node's sum; of none, 0. -/
def sumV (s : NS) (x : Int) : Int := if x = 0 then 0 else s.sm x
theorem tsum (hR : Rt V S T) (A : TH V S T l0 a b s h) (hro : md.ro ≤ a) (hx : x = 0 ∨ Nix V S x) :
    ∃ h', C md 65 [(Value.agg #[(Value.int .i64 V), (Value.int .i64 S), (Value.int .i64 T), ifA a, (Value.int .i64 1), (Value.int .i64 0)]), (Value.int .i64 x)] h = some ((Value.int .u64 (sumV s x)), h') ∧ TH V S T l0 a b s h' ∧ Only a b h h' := by
  obtain ⟨l, c, A, R⟩ := A
  have la := lt_of A.ha
  have lb := lt_of A.hb
  rcases hx with rfl | hx
  · have o : Only a b (h ++ [Blk.own [(Value.int .i64 V), (Value.int .i64 S), (Value.int .i64 T), ifA a, (Value.int .i64 1), (Value.int .i64 0)]]) (h ++ [Blk.own [(Value.int .i64 V), (Value.int .i64 S), (Value.int .i64 T), ifA a, (Value.int .i64 1), (Value.int .i64 0)]]) := Only.refl
    refine ⟨(h ++ [Blk.own [(Value.int .i64 V), (Value.int .i64 S), (Value.int .i64 T), ifA a, (Value.int .i64 1), (Value.int .i64 0)]]).take h.length, ?_, ⟨l, c, (A.app _).take la lb, R⟩, o.take⟩
    have e : sumV s 0 = 0 := if_pos rfl
    rw [C, call_eq, F65_eq]
    unfold F65
    simp only [go_sem, Nat.reduceAdd, Nat.reduceLeDiff, Nat.reduceMul, Int.reduceBEq, Int.reduceBNe, Int.reduceLT, Int.reduceLE, Int.reduceGT, e, take_app]
  · have fs := fun (m : Md) (h : Heap) => fs_of hR hx (f := 6) (by omega) m h
    obtain ⟨h3, e3, A3, o3⟩ := pl_x (md := ⟨md.ro, h.length⟩) (A.app [Blk.own [(Value.int .i64 V), (Value.int .i64 S), (Value.int .i64 T), ifA a, (Value.int .i64 1), (Value.int .i64 0)]]) hro (qN V S T x + 6)
    rw [R.sm x hx.1 hx.2] at e3
    have e : sumV s x = s.sm x := if_neg (by omega)
    have x0 : (x == 0) = false := by simp; omega
    refine ⟨h3.take h.length, ?_, ⟨l, _, A3.take la lb, R⟩, o3.take⟩
    rw [C, call_eq, F65_eq]
    unfold F65
    simp only [go_sem, Nat.reduceAdd, Nat.reduceLeDiff, Nat.reduceMul, Int.reduceBEq, Int.reduceBNe, Int.reduceLT, Int.reduceLE, Int.reduceGT, x0, fs, okN_i, clI_load, e3, e]
theorem tmarks (hR : Rt V S T) (A : TH V S T l0 a b s h) (hro : md.ro ≤ a) (hx : x = 0 ∨ Nix V S x) (k : SMok sz nv own all) (hs : sumV s x = SM sz nv own all) :
    ∃ h', C md 66 [(Value.agg #[(Value.int .i64 V), (Value.int .i64 S), (Value.int .i64 T), ifA a, (Value.int .i64 1), (Value.int .i64 0)]), (Value.int .i64 x)] h = some ((Value.int .u64 ((own : Int))), h') ∧ TH V S T l0 a b s h' ∧ Only a b h h' := by
  obtain ⟨la, lb⟩ := A.la
  obtain ⟨k1, e1, A1, o1⟩ := tsum (md := ⟨md.ro, h.length⟩) hR (A.app [Blk.own [(Value.int .i64 V), (Value.int .i64 S), (Value.int .i64 T), ifA a, (Value.int .i64 1), (Value.int .i64 0)]]) hro hx
  have so := sm_own k
  refine ⟨k1.take h.length, ?_, A1.take la lb, o1.take⟩
  rw [C, call_eq, F66_eq]
  unfold F66
  rw [hs] at e1
  simp only [go_sem, Nat.reduceAdd, Nat.reduceLeDiff, Nat.reduceMul, Int.reduceBEq, Int.reduceBNe, Int.reduceLT, Int.reduceLE, Int.reduceGT, e1, so]
theorem tsize (hR : Rt V S T) (A : TH V S T l0 a b s h) (hro : md.ro ≤ a) (hx : x = 0 ∨ Nix V S x) (k : SMok sz nv own all) (hs : sumV s x = SM sz nv own all) :
    ∃ h', C md 23 [(Value.agg #[(Value.int .i64 V), (Value.int .i64 S), (Value.int .i64 T), ifA a, (Value.int .i64 1), (Value.int .i64 0)]), (Value.int .i64 x)] h = some ((Value.int .i64 ((sz : Int))), h') ∧ TH V S T l0 a b s h' ∧ Only a b h h' := by
  obtain ⟨la, lb⟩ := A.la
  obtain ⟨k1, e1, A1, o1⟩ := tsum (md := ⟨md.ro, h.length⟩) hR (A.app [Blk.own [(Value.int .i64 V), (Value.int .i64 S), (Value.int .i64 T), ifA a, (Value.int .i64 1), (Value.int .i64 0)]]) hro hx
  have so := sm_size k
  refine ⟨k1.take h.length, ?_, A1.take la lb, o1.take⟩
  rw [C, call_eq, F23_eq]
  unfold F23
  rw [hs] at e1
  simp only [go_sem, Nat.reduceAdd, Nat.reduceLeDiff, Nat.reduceMul, Int.reduceBEq, Int.reduceBNe, Int.reduceLT, Int.reduceLE, Int.reduceGT, e1, so]
theorem tverts (hR : Rt V S T) (A : TH V S T l0 a b s h) (hro : md.ro ≤ a) (hx : x = 0 ∨ Nix V S x) (k : SMok sz nv own all) (hs : sumV s x = SM sz nv own all) :
    ∃ h', C md 24 [(Value.agg #[(Value.int .i64 V), (Value.int .i64 S), (Value.int .i64 T), ifA a, (Value.int .i64 1), (Value.int .i64 0)]), (Value.int .i64 x)] h = some ((Value.int .i64 ((nv : Int))), h') ∧ TH V S T l0 a b s h' ∧ Only a b h h' := by
  obtain ⟨la, lb⟩ := A.la
  obtain ⟨k1, e1, A1, o1⟩ := tsum (md := ⟨md.ro, h.length⟩) hR (A.app [Blk.own [(Value.int .i64 V), (Value.int .i64 S), (Value.int .i64 T), ifA a, (Value.int .i64 1), (Value.int .i64 0)]]) hro hx
  have so := sm_verts k
  refine ⟨k1.take h.length, ?_, A1.take la lb, o1.take⟩
  rw [C, call_eq, F24_eq]
  unfold F24
  rw [hs] at e1
  simp only [go_sem, Nat.reduceAdd, Nat.reduceLeDiff, Nat.reduceMul, Int.reduceBEq, Int.reduceBNe, Int.reduceLT, Int.reduceLE, Int.reduceGT, e1, so]
end Go.Det.E

/- Trees in memory: a node's parent, its sum anew, another child. -/
namespace Go.Det.E
open Go.Proofs Go.Det Go.Det.U
attribute [local congr] bind_c cond_c
variable {md : Md} {h hh : Heap} {a b : Nat} {V S T x v p f : Int} {l c : List Int} {l0 : Int → Int} {s s' : NS} {sz nv own all : Nat}
theorem ptrnew_e (A : Ar h a b l c) (w : Wd l) (hro : md.ro ≤ a) (hr : md.ro ≤ h.length) (x : Int) (hb : W.rightB (getI l x) = true) :
    ∃ h' c', C md 86 [ifA a, (Value.int .i64 x)] h = some ((Value.int .i64 (getI l x % 65536)), h') ∧ Ar h' a b l c' ∧ Only a b h h' := by
  have la := lt_of A.ha
  have lb := lt_of A.hb
  obtain ⟨h3, e3, A3, o3⟩ := pl_x (md := ⟨md.ro, h.length⟩) A hro x
  have g := w.get x
  have l3 := o3.len
  have u := fun (m : Md) (h : Heap) => W.unpack_s (v := getI l x) g.1 g.2 m h
  simp only [hb, cond_true] at u
  have st4 := fun (hq : Heap) (k' : Heap → Option (Value × Heap)) => st_N ⟨md.ro, h.length⟩ 4 h3.length 0 [(Value.int .i64 (getI l x / 65536 % 65536)), (Value.int .i64 (getI l x % 65536)), (Value.int .i64 (getI l x / 4294967296 % 256)), (Value.int .i64 (getI l x / 1099511627776))] hq k' rfl rfl
  have r2 : md.ro ≤ h3.length := by omega
  have r3 : h.length ≤ h3.length := by omega
  have tk : (h3 ++ [Blk.own [(Value.int .i64 (getI l x / 65536 % 65536)), (Value.int .i64 (getI l x % 65536)), (Value.int .i64 (getI l x / 4294967296 % 256)), (Value.int .i64 (getI l x / 1099511627776))]]).take h.length = h3 := by rw [← l3]; simp
  refine ⟨h3, _, ?_, A3, o3⟩
  rw [C, call_eq, F86_eq]
  unfold F86
  simp only [go_sem, Nat.reduceAdd, Nat.reduceLeDiff, Nat.reduceMul, Int.reduceBEq, Int.reduceBNe, Int.reduceLT, Int.reduceLE, Int.reduceGT, clI_load, e3, u, st4, r2, r3, tk]
theorem tparent (hR : Rt V S T) (A : TH V S T l0 a b s h) (hro : md.ro ≤ a) (hr : md.ro ≤ h.length) (hx : Nix V S x) (hv : 0 ≤ s.par x ∧ s.par x < 100000) :
    ∃ h', C md 64 [(Value.agg #[(Value.int .i64 V), (Value.int .i64 S), (Value.int .i64 T), ifA a, (Value.int .i64 1), (Value.int .i64 0)]), (Value.int .i64 x)] h = some ((Value.int .i64 (s.par x)), h') ∧ TH V S T l0 a b s h' ∧ Only a b h h' := by
  obtain ⟨l, c, A, R⟩ := A
  have la := lt_of A.ha
  have lb := lt_of A.hb
  have lh : md.ro ≤ (h ++ [Blk.own [(Value.int .i64 V), (Value.int .i64 S), (Value.int .i64 T), ifA a, (Value.int .i64 1), (Value.int .i64 0)]]).length := by simp; omega
  have sh := shown_e (md := ⟨md.ro, h.length⟩) (h := h ++ [Blk.own [(Value.int .i64 V), (Value.int .i64 S), (Value.int .i64 T), ifA a, (Value.int .i64 1), (Value.int .i64 0)]]) hR (x := x) (Bl_t.2 ⟨by omega, by omega⟩) (ifA a) 1 0 lh
  cases hs : (lvlB V x == 0)
  · have hs' : lvlB V x ≠ 0 := by simpa using hs
    obtain ⟨h3, c3, e3, A3, o3⟩ := rget_e (md := ⟨md.ro, h.length⟩) hR (A.app [Blk.own [(Value.int .i64 V), (Value.int .i64 S), (Value.int .i64 T), ifA a, (Value.int .i64 1), (Value.int .i64 0)]]) hro hx (f := 2) (by omega)
    rw [R.ns x hx.1 hx.2 hs', wi (by omega) (by omega)] at e3
    refine ⟨h3.take h.length, ?_, ⟨l, _, A3.take la lb, R⟩, o3.take⟩
    rw [hs] at sh
    rw [C, call_eq, F64_eq]
    unfold F64
    simp only [go_sem, Nat.reduceAdd, Nat.reduceLeDiff, Nat.reduceMul, Int.reduceBEq, Int.reduceBNe, Int.reduceLT, Int.reduceLE, Int.reduceGT, sh, e3]
  · have hs' : lvlB V x = 0 := by simpa using hs
    obtain ⟨q1, q2⟩ := R.sh x hx.1 hx.2 hs'
    obtain ⟨h3, c3, e3, A3, o3⟩ := ptrnew_e (md := ⟨md.ro, h.length⟩) (A.app [Blk.own [(Value.int .i64 V), (Value.int .i64 S), (Value.int .i64 T), ifA a, (Value.int .i64 1), (Value.int .i64 0)]]) R.wd hro lh (qN V S T x + 2) q1
    rw [q2] at e3
    have fs := fun (m : Md) (h : Heap) => fs_of hR hx (f := 2) (by omega) m h
    refine ⟨h3.take h.length, ?_, ⟨l, _, A3.take la lb, R⟩, o3.take⟩
    rw [hs] at sh
    rw [C, call_eq, F64_eq]
    unfold F64
    simp only [go_sem, Nat.reduceAdd, Nat.reduceLeDiff, Nat.reduceMul, Int.reduceBEq, Int.reduceBNe, Int.reduceLT, Int.reduceLE, Int.reduceGT, sh, fs, e3]
/-- A node hangs under another one. -/
def hangS (s : NS) (x p : Int) : NS := { s with par := if x = 0 then s.par else upI s.par x p }
theorem thang (hR : Rt V S T) (A : TH V S T l0 a b s h) (hro : md.ro ≤ a) (hrb : md.ro ≤ b) (hr : md.ro ≤ h.length) (hx : x = 0 ∨ Nix V S x) (hp : 0 ≤ p ∧ p ≤ 65535) :
    ∃ h', C md 69 [(Value.agg #[(Value.int .i64 V), (Value.int .i64 S), (Value.int .i64 T), ifA a, (Value.int .i64 1), (Value.int .i64 0)]), (Value.int .i64 x), (Value.int .i64 p)] h = some ((Value.tuple #[]), h') ∧ TH V S T l0 a b (hangS s x p) h' ∧ Only a b h h' := by
  obtain ⟨l, c, A, R⟩ := A
  have la := lt_of A.ha
  have lb := lt_of A.hb
  have lh : md.ro ≤ (h ++ [Blk.own [(Value.int .i64 V), (Value.int .i64 S), (Value.int .i64 T), ifA a, (Value.int .i64 1), (Value.int .i64 0)]]).length := by simp; omega
  rcases hx with rfl | hx
  · have o : Only a b (h ++ [Blk.own [(Value.int .i64 V), (Value.int .i64 S), (Value.int .i64 T), ifA a, (Value.int .i64 1), (Value.int .i64 0)]]) (h ++ [Blk.own [(Value.int .i64 V), (Value.int .i64 S), (Value.int .i64 T), ifA a, (Value.int .i64 1), (Value.int .i64 0)]]) := Only.refl
    have e : hangS s 0 p = s := by unfold hangS; simp
    refine ⟨(h ++ [Blk.own [(Value.int .i64 V), (Value.int .i64 S), (Value.int .i64 T), ifA a, (Value.int .i64 1), (Value.int .i64 0)]]).take h.length, ?_, by rw [e]; exact ⟨l, c, (A.app _).take la lb, R⟩, o.take⟩
    rw [C, call_eq, F69_eq]
    unfold F69
    simp only [go_sem, Nat.reduceAdd, Nat.reduceLeDiff, Nat.reduceMul, Int.reduceBEq, Int.reduceBNe, Int.reduceLT, Int.reduceLE, Int.reduceGT, take_app]
  · have e : hangS s x p = { s with par := upI s.par x p } := by unfold hangS; rw [if_neg (by omega)]
    rw [e]
    have x0 : (x == 0) = false := by simp; omega
    have sh := shown_e (md := ⟨md.ro, h.length⟩) (h := h ++ [Blk.own [(Value.int .i64 V), (Value.int .i64 S), (Value.int .i64 T), ifA a, (Value.int .i64 1), (Value.int .i64 0)]]) hR (x := x) (Bl_t.2 ⟨by omega, by omega⟩) (ifA a) 1 0 lh
    cases hs : (lvlB V x == 0)
    · have hs' : lvlB V x ≠ 0 := by simpa using hs
      obtain ⟨h3, c3, e3, A3, o3⟩ := tput_e (md := ⟨md.ro, h.length⟩) hR (A.app [Blk.own [(Value.int .i64 V), (Value.int .i64 S), (Value.int .i64 T), ifA a, (Value.int .i64 1), (Value.int .i64 0)]]) hro hrb lh (x := x) (Bl_t.2 ⟨by omega, by omega⟩) 1 0 2 p
      rw [fx_of hR hx (by omega), W.wu (by omega) (by omega)] at A3
      refine ⟨h3.take h.length, ?_, ⟨_, _, A3.take la lb, R.putPar hR hx.1 hx.2 (by omega) (fun q => absurd q hs') (fun _ => rfl)⟩, o3.take⟩
      rw [hs] at sh
      rw [C, call_eq, F69_eq]
      unfold F69
      simp only [go_sem, Nat.reduceAdd, Nat.reduceLeDiff, Nat.reduceMul, Int.reduceBEq, Int.reduceBNe, Int.reduceLT, Int.reduceLE, Int.reduceGT, x0, sh, e3]
    · have hs' : lvlB V x = 0 := by simpa using hs
      obtain ⟨q1, q2⟩ := R.sh x hx.1 hx.2 hs'
      obtain ⟨g1, g2, g3, g4⟩ := ch_is (p := p) (getI l (qN V S T x + 2)) q1 hp (R.wd.get _)
      obtain ⟨h3, e3, A3, o3⟩ := write_e (md := ⟨md.ro, h.length⟩) (A.app [Blk.own [(Value.int .i64 V), (Value.int .i64 S), (Value.int .i64 T), ifA a, (Value.int .i64 1), (Value.int .i64 0)]]) hro hrb lh R.wd (x := qN V S T x + 2) (y := p) (th := 1) (tag := 0) rfl
      have ec : chL l (qN V S T x + 2) (olW 1 0 (getI l (qN V S T x + 2))) p 1 0 = putI l (qN V S T x + 2) (W.bitsW (olW 1 0 (getI l (qN V S T x + 2))) p 1 0) := by
        unfold chL; rw [q1, g1]; rfl
      rw [ec] at A3
      have fs := fun (m : Md) (h : Heap) => fs_of hR hx (f := 2) (by omega) m h
      refine ⟨h3.take h.length, ?_, ⟨_, _, A3.take la lb, R.putPar hR hx.1 hx.2 g2 (fun _ => ⟨g3, g4⟩) (fun q => absurd hs' q)⟩, o3.take⟩
      rw [hs] at sh
      rw [C, call_eq, F69_eq]
      unfold F69
      simp only [go_sem, Nat.reduceAdd, Nat.reduceLeDiff, Nat.reduceMul, Int.reduceBEq, Int.reduceBNe, Int.reduceLT, Int.reduceLE, Int.reduceGT, x0, sh, fs, e3]
/-- Is a node a vertex's? -/
def vxB (V x : Int) : Bool := decide (x - 1 < Lv V * V)
theorem vx_arc (V x : Int) : arcB V x = !vxB V x := rfl
theorem tlone (hR : Rt V S T) (hx : Nix V S x) (mv : Value) (th tag : Int) (hr : md.ro ≤ h.length) {m : Nat} (hm : m < 4) : C md 83 [(Value.agg #[(Value.int .i64 V), (Value.int .i64 S), (Value.int .i64 T), mv, (Value.int .i64 th), (Value.int .i64 tag)]), (Value.int .i64 x), (Value.int .u64 ((m : Int)))] h = some ((Value.int .u64 (SM 1 (bif vxB V x then 1 else 0) m m)), h) := by
  obtain ⟨vx, sl, sd, e⟩ := node_in hR (x := x) (Bl_t.2 ⟨by omega, by omega⟩)
  have s := fun (α : Type) (m : Md) (b : Nat) (h : Heap) (k : Heap → Option α) => st_N m 5 b 0 (thC (arcB V x) (lvlB V x) vx sl sd) h k rfl rfl
  unfold thC at s e
  have r2 : md.ro ≤ h.length + 1 := by omega
  have sl := sm_lone hm (vxB V x)
  rw [C, call_eq, F83_eq]
  unfold F83
  cases hv : vxB V x
  · rw [vx_arc, hv] at e s
    rw [hv] at sl
    simp only [cond_false] at sl
    simp only [go_sem, Nat.reduceAdd, Nat.reduceLeDiff, Nat.reduceMul, Int.reduceBEq, Int.reduceBNe, Int.reduceLT, Int.reduceLE, Int.reduceGT, e, s, hr, r2, sl]
  · rw [vx_arc, hv] at e s
    rw [hv] at sl
    simp only [cond_true] at sl
    simp only [go_sem, Nat.reduceAdd, Nat.reduceLeDiff, Nat.reduceMul, Int.reduceBEq, Int.reduceBNe, Int.reduceLT, Int.reduceLE, Int.reduceGT, e, s, hr, r2, sl]
theorem tcounts (md : Md) (h : Heap) (v : Int) : C md 90 [(Value.int .u64 v)] h = some ((Value.int .u64 (bAnd .u64 v 4294967295)), h) := by
  rw [C, call_eq, F90_eq]
  unfold F90
  simp only [go_sem, Nat.reduceAdd, Nat.reduceLeDiff, Nat.reduceMul, Int.reduceBEq, Int.reduceBNe, Int.reduceLT, Int.reduceLE, Int.reduceGT]
theorem ix34a {α : Type} (k : Value → Option α) : aIndex Try.prog 53 ((Value.agg #[(Value.int .i64 3), (Value.int .i64 4)])) ((Value.int .i64 0)) k = k ((Value.int .i64 3)) := by kernel_rfl
theorem ix34b {α : Type} (k : Value → Option α) : aIndex Try.prog 53 ((Value.agg #[(Value.int .i64 3), (Value.int .i64 4)])) ((Value.int .i64 1)) k = k ((Value.int .i64 4)) := by kernel_rfl
/-- A child that a node has. -/
abbrev Ch (V S : Int) (x : Int) : Prop := x = 0 ∨ Nix V S x
theorem ch_small (hR : Rt V S T) (h : Ch V S x) : 0 ≤ x ∧ x < 100000 := by
  have := Cn_le hR
  rcases h with rfl | h <;> omega
theorem trenew {m sz1 nv1 o1 a1 sz2 nv2 o2 a2 : Nat} (hR : Rt V S T) (A : TH V S T l0 a b s h) (hro : md.ro ≤ a) (hrb : md.ro ≤ b) (hr : md.ro ≤ h.length) (hx : Nix V S x) (hm : m < 4) (hl : Ch V S (s.lf x)) (hrt : Ch V S (s.rt x))
    (k1 : SMok sz1 nv1 o1 a1) (e1 : sumV s (s.lf x) = SM sz1 nv1 o1 a1) (k2 : SMok sz2 nv2 o2 a2) (e2 : sumV s (s.rt x) = SM sz2 nv2 o2 a2) (hs : sz1 + sz2 + 1 < 65536) (hn : nv1 + nv2 + 1 < 65536) :
    ∃ h', C md 71 [(Value.agg #[(Value.int .i64 V), (Value.int .i64 S), (Value.int .i64 T), ifA a, (Value.int .i64 1), (Value.int .i64 0)]), (Value.int .i64 x), (Value.int .u64 ((m : Int)))] h = some ((Value.tuple #[]), h') ∧ TH V S T l0 a b { s with sm := upI s.sm x (SM (1 + sz1 + sz2) ((bif vxB V x then 1 else 0) + nv1 + nv2) m ((m ||| a1) ||| a2)) } h' ∧ Only a b h h' := by
  obtain ⟨la, lb⟩ := A.la
  have lh : md.ro ≤ (h ++ [Blk.own [(Value.int .i64 V), (Value.int .i64 S), (Value.int .i64 T), ifA a, (Value.int .i64 1), (Value.int .i64 0)]]).length := by simp; omega
  have lo := tlone (md := ⟨md.ro, h.length⟩) (h := h ++ [Blk.own [(Value.int .i64 V), (Value.int .i64 S), (Value.int .i64 T), ifA a, (Value.int .i64 1), (Value.int .i64 0)]]) hR hx (ifA a) 1 0 lh hm
  have kl : SMok 1 (bif vxB V x then 1 else 0) m m := ⟨by omega, by cases vxB V x <;> simp, hm, hm⟩
  have bl : (bif vxB V x then 1 else 0) ≤ 1 := by cases vxB V x <;> simp
  have s1 := ch_small hR hl
  have s2 := ch_small hR hrt
  -- the left child
  obtain ⟨g1, f1, A1, o1'⟩ := tget3 (md := ⟨md.ro, h.length⟩) hR (A.app [Blk.own [(Value.int .i64 V), (Value.int .i64 S), (Value.int .i64 T), ifA a, (Value.int .i64 1), (Value.int .i64 0)]]) hro hx s1
  have b1 := tvB (V := V) (S := S) (T := T) la lb o1'
  have t1 := tv6 b1
  obtain ⟨g2, f2, A2, o2'⟩ := tsum (md := ⟨md.ro, h.length⟩) hR A1 hro hl
  rw [e1] at f2
  have o12 := o1'.trans o2'
  have b2 := tvB (V := V) (S := S) (T := T) la lb o12
  have t2 := tv6 b2
  have ad1 := sm_add kl k1 (by omega) (by omega)
  have ko : SMok (1 + sz1) ((bif vxB V x then 1 else 0) + nv1) m (m ||| a1) := ⟨by omega, by omega, hm, Nat.or_lt_two_pow (n := 2) hm k1.all⟩
  -- the right child
  obtain ⟨g3, f3, A3, o3'⟩ := tget4 (md := ⟨md.ro, h.length⟩) hR A2 hro hx s2
  have o13 := o12.trans o3'
  have b3 := tvB (V := V) (S := S) (T := T) la lb o13
  have t3 := tv6 b3
  obtain ⟨g4, f4, A4, o4'⟩ := tsum (md := ⟨md.ro, h.length⟩) hR A3 hro hrt
  rw [e2] at f4
  have o14 := o13.trans o4'
  have b4 := tvB (V := V) (S := S) (T := T) la lb o14
  have t4 := tv3 b4
  have t5 := tvm b4
  have ad2 := sm_add ko k2 (by omega) (by omega)
  have k3 : SMok (1 + sz1 + sz2) ((bif vxB V x then 1 else 0) + nv1 + nv2) m ((m ||| a1) ||| a2) := ⟨by omega, by omega, hm, Nat.or_lt_two_pow (n := 2) ko.all k2.all⟩
  have fs := fun (m : Md) (h : Heap) => fs_of hR hx (f := 6) (by omega) m h
  obtain ⟨l, c, A4, R⟩ := A4
  obtain ⟨g5, f5, A5, o5'⟩ := ps_x (md := ⟨md.ro, h.length⟩) A4 hro hrb (qN V S T x + 6) (SM (1 + sz1 + sz2) ((bif vxB V x then 1 else 0) + nv1 + nv2) m ((m ||| a1) ||| a2))
  have l3 := smN_lt k3
  have l1 := o14.trans o5'
  refine ⟨g5.take h.length, ?_, ⟨_, _, A5.take la lb, R.putSm hR hx.1 hx.2 (by rw [SM_eq]; omega)⟩, l1.take⟩
  have w1 : IntKind.wrap .i64 ((0 : Int) + 1) = 1 := by decide
  have w2 : IntKind.wrap .i64 ((1 : Int) + 1) = 2 := by decide
  have c0 : (0 : Int) < 2 := by decide
  have c1 : (1 : Int) < 2 := by decide
  have c2 : ¬ (2 : Int) < 2 := by decide
  have cn := tcounts
  rw [C, call_eq, F71_eq]
  unfold F71
  simp only [go_sem, Nat.reduceAdd, Nat.reduceLeDiff, Nat.reduceMul, Int.reduceBEq, Int.reduceBNe, Int.reduceLT, Int.reduceLE, Int.reduceGT, lo]
  rw [J71_0_step]
  unfold Jr71_0
  simp only [go_sem, Nat.reduceAdd, Nat.reduceLeDiff, Nat.reduceMul, Int.reduceBEq, Int.reduceBNe, Int.reduceLT, Int.reduceLE, Int.reduceGT, aBin_lss, c0, ix34a, f1, t1, f2, cn, aBin_add, aBin_or, ad1, w1, cLE_t]
  rw [J71_0_step]
  unfold Jr71_0
  simp only [go_sem, Nat.reduceAdd, Nat.reduceLeDiff, Nat.reduceMul, Int.reduceBEq, Int.reduceBNe, Int.reduceLT, Int.reduceLE, Int.reduceGT, aBin_lss, c1, ix34b, t2, f3, t3, f4, cn, aBin_add, aBin_or, ad2, w2, cLE_t]
  rw [J71_0_step]
  unfold Jr71_0
  simp only [go_sem, Nat.reduceAdd, Nat.reduceLeDiff, Nat.reduceMul, Int.reduceBEq, Int.reduceBNe, Int.reduceLT, Int.reduceLE, Int.reduceGT, aBin_lss, c2, Jk71_0, J71_1, t4, t5, fs, okN_i, clI_store, f5]
end Go.Det.E

/- Trees in memory: split and merged. -/
namespace Go.Det.E
open Go.Proofs Go.Det Go.Det.U
attribute [local congr] bind_c cond_c
variable {md : Md} {h hh : Heap} {a b : Nat} {V S T x v p f : Int} {l c : List Int} {l0 : Int → Int} {s s' : NS} {sz nv own all : Nat} {mk : Int → Nat}
theorem tput3 {v : Int} (hR : Rt V S T) (A : TH V S T l0 a b s h) (hro : md.ro ≤ a) (hrb : md.ro ≤ b) (hr : md.ro ≤ h.length) (hx : Nix V S x) (hv : 0 ≤ v ∧ v < 100000) :
    ∃ h', C md 82 [(Value.agg #[(Value.int .i64 V), (Value.int .i64 S), (Value.int .i64 T), ifA a, (Value.int .i64 1), (Value.int .i64 0)]), (Value.int .i64 x), (Value.int .i64 3), (Value.int .i64 v)] h = some ((Value.tuple #[]), h') ∧ TH V S T l0 a b { s with lf := upI s.lf x v } h' ∧ Only a b h h' := by
  obtain ⟨l, c, A, R⟩ := A
  obtain ⟨h', c', e, A', o⟩ := tput_e (md := md) hR A hro hrb hr (x := x) (Bl_t.2 ⟨by omega, by omega⟩) 1 0 3 v
  rw [fx_of hR hx (by omega), W.wu (by omega) (by omega)] at A'
  exact ⟨h', e, ⟨_, _, A', R.putLf hR hx.1 hx.2 (by omega)⟩, o⟩
theorem tput4 {v : Int} (hR : Rt V S T) (A : TH V S T l0 a b s h) (hro : md.ro ≤ a) (hrb : md.ro ≤ b) (hr : md.ro ≤ h.length) (hx : Nix V S x) (hv : 0 ≤ v ∧ v < 100000) :
    ∃ h', C md 82 [(Value.agg #[(Value.int .i64 V), (Value.int .i64 S), (Value.int .i64 T), ifA a, (Value.int .i64 1), (Value.int .i64 0)]), (Value.int .i64 x), (Value.int .i64 4), (Value.int .i64 v)] h = some ((Value.tuple #[]), h') ∧ TH V S T l0 a b { s with rt := upI s.rt x v } h' ∧ Only a b h h' := by
  obtain ⟨l, c, A, R⟩ := A
  obtain ⟨h', c', e, A', o⟩ := tput_e (md := md) hR A hro hrb hr (x := x) (Bl_t.2 ⟨by omega, by omega⟩) 1 0 4 v
  rw [fx_of hR hx (by omega), W.wu (by omega) (by omega)] at A'
  exact ⟨h', e, ⟨_, _, A', R.putRt hR hx.1 hx.2 (by omega)⟩, o⟩
theorem nix_small (hR : Rt V S T) (h : Nix V S x) : 1 ≤ x ∧ x ≤ 560 := by have := Cn_le hR; omega
/-- A node has another left child. -/
theorem tsetL {m sz0 nv0 a0 sz1 nv1 o1 a1 sz2 nv2 o2 a2 : Nat} {ch : Int} (hR : Rt V S T) (A : TH V S T l0 a b s h) (hro : md.ro ≤ a) (hrb : md.ro ≤ b) (hr : md.ro ≤ h.length) (hx : Nix V S x) (hc : Ch V S ch) (hcx : ch ≠ x) (hrt : Ch V S (s.rt x))
    (k0 : SMok sz0 nv0 m a0) (e0 : s.sm x = SM sz0 nv0 m a0) (k1 : SMok sz1 nv1 o1 a1) (e1 : sumV s ch = SM sz1 nv1 o1 a1) (k2 : SMok sz2 nv2 o2 a2) (e2 : sumV s (s.rt x) = SM sz2 nv2 o2 a2) (hs : sz1 + sz2 + 1 < 65536) (hn : nv1 + nv2 + 1 < 65536) :
    ∃ h', C md 87 [(Value.agg #[(Value.int .i64 V), (Value.int .i64 S), (Value.int .i64 T), ifA a, (Value.int .i64 1), (Value.int .i64 0)]), (Value.int .i64 x), (Value.int .i64 3), (Value.int .i64 ch)] h = some ((Value.tuple #[]), h') ∧ TH V S T l0 a b (setL s x ch (SM (1 + sz1 + sz2) ((bif vxB V x then 1 else 0) + nv1 + nv2) m ((m ||| a1) ||| a2))) h' ∧ Only a b h h' := by
  obtain ⟨la, lb⟩ := A.la
  have lh : md.ro ≤ (h ++ [Blk.own [(Value.int .i64 V), (Value.int .i64 S), (Value.int .i64 T), ifA a, (Value.int .i64 1), (Value.int .i64 0)]]).length := by simp; omega
  have hx' := nix_small hR hx
  have hc' := ch_small hR hc
  obtain ⟨g1, f1, A1, o1'⟩ := tput3 (md := ⟨md.ro, h.length⟩) hR (A.app [Blk.own [(Value.int .i64 V), (Value.int .i64 S), (Value.int .i64 T), ifA a, (Value.int .i64 1), (Value.int .i64 0)]]) hro hrb lh hx hc'
  have t1 := tv6 (tvB (V := V) (S := S) (T := T) la lb o1')
  have l1 := lkeep o1'
  obtain ⟨g2, f2, A2, o2'⟩ := thang (md := ⟨md.ro, h.length⟩) hR A1 hro hrb (by show md.ro ≤ g1.length; omega) hc (p := x) ⟨by omega, by omega⟩
  have o12 := o1'.trans o2'
  have t2 := tv6 (tvB (V := V) (S := S) (T := T) la lb o12)
  have l2 := lkeep o12
  have sx : ∀ y, sumV (hangS { s with lf := upI s.lf x ch } ch x) y = sumV s y := fun y => rfl
  obtain ⟨g3, f3, A3, o3'⟩ := tmarks (md := ⟨md.ro, h.length⟩) hR A2 hro (.inr hx) k0 (by rw [sx]; unfold sumV; rw [if_neg (by omega)]; exact e0)
  have o13 := o12.trans o3'
  have t3 := tv6 (tvB (V := V) (S := S) (T := T) la lb o13)
  have l3 := lkeep o13
  have elf : (hangS { s with lf := upI s.lf x ch } ch x).lf x = ch := upI_same _ _ _
  obtain ⟨g4, f4, A4, o4'⟩ := trenew (md := ⟨md.ro, h.length⟩) hR A3 hro hrb (by show md.ro ≤ g3.length; omega) hx k0.own (by rw [elf]; exact hc) hrt k1 (by rw [elf, sx]; exact e1) k2 (by rw [sx]; exact e2) hs hn
  have o14 := o13.trans o4'
  refine ⟨g4.take h.length, ?_, A4.take la lb, o14.take⟩
  rw [C, call_eq, F87_eq]
  unfold F87
  simp only [go_sem, Nat.reduceAdd, Nat.reduceLeDiff, Nat.reduceMul, Int.reduceBEq, Int.reduceBNe, Int.reduceLT, Int.reduceLE, Int.reduceGT, f1, t1, f2, t2, f3, t3, f4, cLE_t]
/-- A node has another right child. -/
theorem tsetR {m sz0 nv0 a0 sz1 nv1 o1 a1 sz2 nv2 o2 a2 : Nat} {ch : Int} (hR : Rt V S T) (A : TH V S T l0 a b s h) (hro : md.ro ≤ a) (hrb : md.ro ≤ b) (hr : md.ro ≤ h.length) (hx : Nix V S x) (hc : Ch V S ch) (hcx : ch ≠ x) (hlf : Ch V S (s.lf x))
    (k0 : SMok sz0 nv0 m a0) (e0 : s.sm x = SM sz0 nv0 m a0) (k1 : SMok sz1 nv1 o1 a1) (e1 : sumV s (s.lf x) = SM sz1 nv1 o1 a1) (k2 : SMok sz2 nv2 o2 a2) (e2 : sumV s ch = SM sz2 nv2 o2 a2) (hs : sz1 + sz2 + 1 < 65536) (hn : nv1 + nv2 + 1 < 65536) :
    ∃ h', C md 87 [(Value.agg #[(Value.int .i64 V), (Value.int .i64 S), (Value.int .i64 T), ifA a, (Value.int .i64 1), (Value.int .i64 0)]), (Value.int .i64 x), (Value.int .i64 4), (Value.int .i64 ch)] h = some ((Value.tuple #[]), h') ∧ TH V S T l0 a b (setR s x ch (SM (1 + sz1 + sz2) ((bif vxB V x then 1 else 0) + nv1 + nv2) m ((m ||| a1) ||| a2))) h' ∧ Only a b h h' := by
  obtain ⟨la, lb⟩ := A.la
  have lh : md.ro ≤ (h ++ [Blk.own [(Value.int .i64 V), (Value.int .i64 S), (Value.int .i64 T), ifA a, (Value.int .i64 1), (Value.int .i64 0)]]).length := by simp; omega
  have hx' := nix_small hR hx
  have hc' := ch_small hR hc
  obtain ⟨g1, f1, A1, o1'⟩ := tput4 (md := ⟨md.ro, h.length⟩) hR (A.app [Blk.own [(Value.int .i64 V), (Value.int .i64 S), (Value.int .i64 T), ifA a, (Value.int .i64 1), (Value.int .i64 0)]]) hro hrb lh hx hc'
  have t1 := tv6 (tvB (V := V) (S := S) (T := T) la lb o1')
  have l1 := lkeep o1'
  obtain ⟨g2, f2, A2, o2'⟩ := thang (md := ⟨md.ro, h.length⟩) hR A1 hro hrb (by show md.ro ≤ g1.length; omega) hc (p := x) ⟨by omega, by omega⟩
  have o12 := o1'.trans o2'
  have t2 := tv6 (tvB (V := V) (S := S) (T := T) la lb o12)
  have l2 := lkeep o12
  have sx : ∀ y, sumV (hangS { s with rt := upI s.rt x ch } ch x) y = sumV s y := fun y => rfl
  obtain ⟨g3, f3, A3, o3'⟩ := tmarks (md := ⟨md.ro, h.length⟩) hR A2 hro (.inr hx) k0 (by rw [sx]; unfold sumV; rw [if_neg (by omega)]; exact e0)
  have o13 := o12.trans o3'
  have t3 := tv6 (tvB (V := V) (S := S) (T := T) la lb o13)
  have l3 := lkeep o13
  have ert : (hangS { s with rt := upI s.rt x ch } ch x).rt x = ch := upI_same _ _ _
  obtain ⟨g4, f4, A4, o4'⟩ := trenew (md := ⟨md.ro, h.length⟩) hR A3 hro hrb (by show md.ro ≤ g3.length; omega) hx k0.own hlf (by rw [ert]; exact hc) k1 (by rw [sx]; exact e1) k2 (by rw [ert, sx]; exact e2) hs hn
  have o14 := o13.trans o4'
  refine ⟨g4.take h.length, ?_, A4.take la lb, o14.take⟩
  rw [C, call_eq, F87_eq]
  unfold F87
  simp only [go_sem, Nat.reduceAdd, Nat.reduceLeDiff, Nat.reduceMul, Int.reduceBEq, Int.reduceBNe, Int.reduceLT, Int.reduceLE, Int.reduceGT, f1, t1, f2, t2, f3, t3, f4, cLE_t]
/-- The priority that a node's cell tells. -/
def prO (V S T : Int) (l0 : Int → Int) (x : Int) : Int := l0 (qN V S T x + 5)
theorem tabove {y : Int} (hR : Rt V S T) (A : TH V S T l0 a b s h) (hro : md.ro ≤ a) (hx : Nix V S x) (hy : Nix V S y) :
    ∃ h', C md 89 [(Value.agg #[(Value.int .i64 V), (Value.int .i64 S), (Value.int .i64 T), ifA a, (Value.int .i64 1), (Value.int .i64 0)]), (Value.int .i64 x), (Value.int .i64 y)] h = some ((Value.bool (ab (prO V S T l0) x y)), h') ∧ TH V S T l0 a b s h' ∧ Only a b h h' := by
  obtain ⟨l, c, A, R⟩ := A
  have la := lt_of A.ha
  have lb := lt_of A.hb
  have p5 : ∀ {z : Int}, Nix V S z → getI l (qN V S T z + 5) = prO V S T l0 z := fun hz => R.oth _ (by unfold isNF qN; omega)
  have fx := fun (m : Md) (h : Heap) => fs_of hR hx (f := 5) (by omega) m h
  have fy := fun (m : Md) (h : Heap) => fs_of hR hy (f := 5) (by omega) m h
  obtain ⟨g1, f1, A1, o1⟩ := pl_x (md := ⟨md.ro, h.length⟩) (A.app [Blk.own [(Value.int .i64 V), (Value.int .i64 S), (Value.int .i64 T), ifA a, (Value.int .i64 1), (Value.int .i64 0)]]) hro (qN V S T x + 5)
  have b1 := tvB (V := V) (S := S) (T := T) la lb o1
  have t1 := tv3 b1
  have m1 := tvm b1
  obtain ⟨g2, f2, A2, o2⟩ := pl_x (md := ⟨md.ro, h.length⟩) A1 hro (qN V S T y + 5)
  have o12 := o1.trans o2
  rw [p5 hx] at f1
  rw [p5 hy] at f2
  refine ⟨g2.take h.length, ?_, ⟨l, _, A2.take la lb, R⟩, o12.take⟩
  rw [C, call_eq, F89_eq]
  unfold F89
  by_cases c1 : prO V S T l0 x > prO V S T l0 y
  · have e : ab (prO V S T l0) x y = true := ab_t.2 (.inl c1)
    simp only [go_sem, Nat.reduceAdd, Nat.reduceLeDiff, Nat.reduceMul, Int.reduceBEq, Int.reduceBNe, Int.reduceLT, Int.reduceLE, Int.reduceGT, fx, okN_i, clI_load, f1, m1, t1, cLE_t, fy, f2, c1, e]
  · by_cases c2 : prO V S T l0 x = prO V S T l0 y
    · have b2 : (prO V S T l0 x == prO V S T l0 y) = true := by simp [c2]
      by_cases c3 : x < y
      · have e : ab (prO V S T l0) x y = true := ab_t.2 (.inr ⟨c2, c3⟩)
        simp only [go_sem, Nat.reduceAdd, Nat.reduceLeDiff, Nat.reduceMul, Int.reduceBEq, Int.reduceBNe, Int.reduceLT, Int.reduceLE, Int.reduceGT, fx, okN_i, clI_load, f1, m1, t1, cLE_t, fy, f2, c1, aBin_eql, b2, aBin_lss, c3, e]
      · have e : ab (prO V S T l0) x y = false := by rw [← Bool.not_eq_true, ab_t]; omega
        simp only [go_sem, Nat.reduceAdd, Nat.reduceLeDiff, Nat.reduceMul, Int.reduceBEq, Int.reduceBNe, Int.reduceLT, Int.reduceLE, Int.reduceGT, fx, okN_i, clI_load, f1, m1, t1, cLE_t, fy, f2, c1, aBin_eql, b2, aBin_lss, c3, e]
    · have b2 : (prO V S T l0 x == prO V S T l0 y) = false := by simp [c2]
      have e : ab (prO V S T l0) x y = false := by rw [← Bool.not_eq_true, ab_t]; omega
      simp only [go_sem, Nat.reduceAdd, Nat.reduceLeDiff, Nat.reduceMul, Int.reduceBEq, Int.reduceBNe, Int.reduceLT, Int.reduceLE, Int.reduceGT, fx, okN_i, clI_load, f1, m1, t1, cLE_t, fy, f2, c1, aBin_eql, b2, e]
theorem sum_of {t : Tr} (B : IsB mk (vxB V) s t) (h0 : ∀ y ∈ t.row, 1 ≤ y) : sumV s t.rt = t.sm mk (vxB V) := by
  cases t with
  | nil => rfl
  | nd l x r =>
    have := h0 x (by simp [Tr.row])
    have e : sumV s x = s.sm x := if_neg (by omega)
    exact (show sumV s x = _ from e.trans B.2.2.1)
theorem rt_nd {l r : Tr} {x : Int} : (Tr.nd l x r).rt = x := rfl
theorem rt_0 : (Tr.nil).rt = 0 := rfl
theorem rt_ch {t : Tr} (h0 : ∀ y ∈ t.row, Nix V S y) : Ch V S t.rt := by
  cases t with
  | nil => exact .inl rfl
  | nd l x r => exact .inr (h0 x (by simp [Tr.row]))
theorem sm_nd (mk : Int → Nat) (vx : Int → Bool) (l r : Tr) (x : Int) : (Tr.nd l x r).sm mk vx = SM (1 + l.sz + r.sz) ((bif vx x then 1 else 0) + l.nv vx + r.nv vx) (mk x) ((mk x ||| l.am mk) ||| r.am mk) := by
  show SM (l.sz + r.sz + 1) _ _ _ = _
  rw [show l.sz + r.sz + 1 = 1 + l.sz + r.sz by omega, show l.nv vx + r.nv vx + (bif vx x then 1 else 0) = (bif vx x then 1 else 0) + l.nv vx + r.nv vx by omega]
/-- A tree's parts. -/
structure Parts (V S : Int) (l : Tr) (x : Int) (r : Tr) : Prop where
  nl : l.row.Nodup
  nr : r.row.Nodup
  xl : x ∉ l.row
  xr : x ∉ r.row
  lr : ∀ y ∈ l.row, y ∉ r.row
theorem parts_of {l r : Tr} {x : Int} (h : (l.row ++ x :: r.row).Nodup) : Parts V S l x r := by
  obtain ⟨h1, h2, h3⟩ := List.nodup_append.1 h
  obtain ⟨h4, h5⟩ := List.nodup_cons.1 h2
  exact ⟨h1, h5, fun q => h3 x q x (by simp) rfl, h4, fun y hy q => h3 y hy y (by simp [q]) rfl⟩
theorem tsplit (hR : Rt V S T) (hm : ∀ x, mk x < 4) : ∀ (t : Tr) (k : Nat) (md : Md) (h : Heap) (s : NS), TH V S T l0 a b s h → md.ro ≤ a → md.ro ≤ b → md.ro ≤ h.length → IsB mk (vxB V) s t → t.row.Nodup → (∀ y ∈ t.row, Nix V S y) → t.sz < 60000 → k ≤ t.sz →
    ∃ s' h', C md 68 [(Value.agg #[(Value.int .i64 V), (Value.int .i64 S), (Value.int .i64 T), ifA a, (Value.int .i64 1), (Value.int .i64 0)]), (Value.int .i64 t.rt), (Value.int .i64 ((k : Int)))] h = some ((Value.tuple #[(Value.int .i64 ((splitT t k).1.rt)), (Value.int .i64 ((splitT t k).2.rt))]), h') ∧ TH V S T l0 a b s' h' ∧ Only a b h h' ∧ IsB mk (vxB V) s' (splitT t k).1 ∧ IsB mk (vxB V) s' (splitT t k).2 ∧ SameOut t.row s s' := by
  intro t
  induction t with
  | nil =>
    intro k md h s A hro hrb hr B hn h0 hz hk
    obtain ⟨la, lb⟩ := A.la
    have o : Only a b (h ++ [Blk.own [(Value.int .i64 V), (Value.int .i64 S), (Value.int .i64 T), ifA a, (Value.int .i64 1), (Value.int .i64 0)]]) (h ++ [Blk.own [(Value.int .i64 V), (Value.int .i64 S), (Value.int .i64 T), ifA a, (Value.int .i64 1), (Value.int .i64 0)]]) := Only.refl
    refine ⟨s, (h ++ [Blk.own [(Value.int .i64 V), (Value.int .i64 S), (Value.int .i64 T), ifA a, (Value.int .i64 1), (Value.int .i64 0)]]).take h.length, ?_, (A.app _).take la lb, o.take, trivial, trivial, SameOut.refl _ _⟩
    rw [C, call_eq, F68_eq]
    unfold F68
    simp only [Tr.rt, splitT]
    simp only [go_sem, Nat.reduceAdd, Nat.reduceLeDiff, Nat.reduceMul, Int.reduceBEq, Int.reduceBNe, Int.reduceLT, Int.reduceLE, Int.reduceGT]
  | nd l x r ihl ihr =>
    intro k md h s A hro hrb hr B hn h0 hz hk
    obtain ⟨la, lb⟩ := A.la
    obtain ⟨b1, b2, b3, b4, b5⟩ := B
    have pp := parts_of (V := V) (S := S) (l := l) (x := x) (r := r) hn
    have hx := h0 x (by simp [Tr.row])
    have hx' := nix_small hR hx
    have h0l : ∀ y ∈ l.row, Nix V S y := fun y hy => h0 y (by simp [Tr.row, hy])
    have h0r : ∀ y ∈ r.row, Nix V S y := fun y hy => h0 y (by simp [Tr.row, hy])
    have one : ∀ {u : Tr}, (∀ y ∈ u.row, Nix V S y) → ∀ y ∈ u.row, 1 ≤ y := fun hu y hy => (hu y hy).1
    have lh : md.ro ≤ (h ++ [Blk.own [(Value.int .i64 V), (Value.int .i64 S), (Value.int .i64 T), ifA a, (Value.int .i64 1), (Value.int .i64 0)]]).length := by simp; omega
    have x0 : (x == 0) = false := by simp; omega
    simp only [Tr.sz] at hz hk
    obtain ⟨ol, kl, sl⟩ := smok_tr (vx := vxB V) hm l (by omega)
    obtain ⟨or', kr, sr⟩ := smok_tr (vx := vxB V) hm r (by omega)
    obtain ⟨g1, f1, A1, o1⟩ := tget3 (md := ⟨md.ro, h.length⟩) hR (A.app [Blk.own [(Value.int .i64 V), (Value.int .i64 S), (Value.int .i64 T), ifA a, (Value.int .i64 1), (Value.int .i64 0)]]) hro hx (by rw [b1]; exact ch_small hR (rt_ch h0l))
    rw [b1] at f1
    have t1 := tv6 (tvB (V := V) (S := S) (T := T) la lb o1)
    obtain ⟨g2, f2, A2, o2⟩ := tsize (md := ⟨md.ro, h.length⟩) hR A1 hro (rt_ch h0l) kl ((sum_of b4.body (one h0l)).trans sl)
    have o12 := o1.trans o2
    have t2 := tv6 (tvB (V := V) (S := S) (T := T) la lb o12)
    have l2 := lkeep o12
    have n0 := l.nv_le (vxB V)
    have n1 := r.nv_le (vxB V)
    unfold splitT
    by_cases hkl : k ≤ l.sz
    · have ck : (k : Int) ≤ (l.sz : Int) := by omega
      rw [if_pos hkl]
      obtain ⟨s1, g3, f3, A3, o3, B1, B2, so⟩ := ihl k ⟨md.ro, h.length⟩ g2 s A2 hro hrb (by show md.ro ≤ g2.length; omega) b4.body pp.nl h0l (by omega) hkl
      have o13 := o12.trans o3
      have t3 := tv6 (tvB (V := V) (S := S) (T := T) la lb o13)
      have l3 := lkeep o13
      obtain ⟨r1, r2⟩ := split_row l k
      have hb0 : ∀ y ∈ (splitT l k).2.row, Nix V S y := fun y hy => h0l y (by rw [r2] at hy; exact List.mem_of_mem_drop hy)
      have ha0 : ∀ y ∈ (splitT l k).1.row, y ∈ l.row := fun y hy => by rw [r1] at hy; exact List.mem_of_mem_take hy
      have hbl : ∀ y ∈ (splitT l k).2.row, y ∈ l.row := fun y hy => by rw [r2] at hy; exact List.mem_of_mem_drop hy
      have szb : (splitT l k).2.sz ≤ l.sz := by
        have q := Tr.row_len (splitT l k).2
        rw [r2, List.length_drop] at q
        have := Tr.row_len l
        omega
      obtain ⟨ob, kb, sb⟩ := smok_tr (vx := vxB V) hm (splitT l k).2 (by omega)
      have nb := (splitT l k).2.nv_le (vxB V)
      obtain ⟨q1, q2, q3, q4⟩ := so x pp.xl
      have Ir : IsT mk (vxB V) s1 r x := b5.congr (so.on fun y hy q => pp.lr y q hy)
      have hne : (splitT l k).2.rt ≠ x := by
        by_cases hnil : (splitT l k).2 = .nil
        · rw [hnil]; simp only [Tr.rt]; omega
        · exact fun e => pp.xl (e ▸ hbl _ (rt_mem hnil))
      obtain ⟨g4, f4, A4, o4⟩ := tsetL (md := ⟨md.ro, h.length⟩) hR A3 hro hrb (by show md.ro ≤ g3.length; omega) hx (rt_ch hb0) hne (by rw [q3, b2]; exact rt_ch h0r)
        (m := mk x) (sz0 := l.sz + r.sz + 1) (nv0 := l.nv (vxB V) + r.nv (vxB V) + (bif vxB V x then 1 else 0)) (a0 := (mk x ||| l.am mk) ||| r.am mk) ⟨by omega, by cases vxB V x <;> simp <;> omega, hm x, Nat.or_lt_two_pow (n := 2) (Nat.or_lt_two_pow (n := 2) (hm x) (l.am_lt hm)) (r.am_lt hm)⟩ (by rw [q4, b3]; rfl)
        kb ((sum_of B2 (one hb0)).trans sb) kr (by rw [q3, b2]; exact (sum_of Ir.body (one h0r)).trans sr) (by omega) (by omega)
      rw [← sm_nd mk (vxB V)] at A4
      have o14 := o13.trans o4
      have nd2 : ((splitT l k).2.row ++ x :: r.row).Nodup := by
        refine hn.sublist ?_
        simp only [Tr.row]
        exact List.Sublist.append (by rw [r2]; exact List.drop_sublist _ _) (List.Sublist.refl _)
      have h02 : ∀ y ∈ (splitT l k).2.row ++ x :: r.row, 1 ≤ y := fun y hy => by
        rcases List.mem_append.1 hy with q | q
        · exact (hb0 y q).1
        · rcases List.mem_cons.1 q with rfl | q
          · exact hx.1
          · exact (h0r y q).1
      have disj : ∀ y ∈ (splitT l k).1.row, y ∉ (splitT l k).2.row := fun y h1 h2 => by
        rw [r1] at h1; rw [r2] at h2
        have := pp.nl
        rw [← List.take_append_drop k l.row, List.nodup_append] at this
        exact this.2.2 y h1 y h2 rfl
      refine ⟨_, g4.take h.length, ?_, A4.take la lb, o14.take, B1.congr fun y hy => ?_, set_left B2 Ir (by rw [q3, b2]) nd2 h02, ?_⟩
      · rw [C, call_eq, F68_eq]
        unfold F68
        simp only [rt_nd]
        simp only [go_sem, Nat.reduceAdd, Nat.reduceLeDiff, Nat.reduceMul, Int.reduceBEq, Int.reduceBNe, Int.reduceLT, Int.reduceLE, Int.reduceGT, x0, f1, t1, f2, ck, t2, f3, t3, f4]
      · refine setL_out (fun e => pp.xl (e ▸ ha0 y hy)) fun e => ?_
        by_cases hnil : (splitT l k).2 = .nil
        · have := (h0l y (ha0 y hy)).1
          rw [hnil] at e; simp only [Tr.rt] at e; omega
        · exact disj y hy (e ▸ rt_mem hnil)
      · refine (so.mono fun y hy => by simp [Tr.row, hy]).trans (setL_same (by simp [Tr.row]) ?_)
        by_cases hnil : (splitT l k).2 = .nil
        · left; rw [hnil]; rfl
        · right; simp [Tr.row, hbl _ (rt_mem hnil)]
    · have ck : ¬ (k : Int) ≤ (l.sz : Int) := by omega
      rw [if_neg hkl]
      have wk : IntKind.wrap .i64 (IntKind.wrap .i64 ((k : Int) - (l.sz : Int)) - 1) = ((k - l.sz - 1 : Nat) : Int) := by
        rw [wi (x := (k : Int) - (l.sz : Int)) (by omega) (by omega), wi (by omega) (by omega)]; omega
      obtain ⟨g3, f3, A3, o3⟩ := tget4 (md := ⟨md.ro, h.length⟩) hR A2 hro hx (by rw [b2]; exact ch_small hR (rt_ch h0r))
      rw [b2] at f3
      have o13 := o12.trans o3
      have t3 := tv6 (tvB (V := V) (S := S) (T := T) la lb o13)
      have l3 := lkeep o13
      obtain ⟨s1, g4, f4, A4, o4, B1, B2, so⟩ := ihr (k - l.sz - 1) ⟨md.ro, h.length⟩ g3 s A3 hro hrb (by show md.ro ≤ g3.length; omega) b5.body pp.nr h0r (by omega) (by omega)
      have o14 := o13.trans o4
      have t4 := tv6 (tvB (V := V) (S := S) (T := T) la lb o14)
      have l4 := lkeep o14
      obtain ⟨r1, r2⟩ := split_row r (k - l.sz - 1)
      have ha0 : ∀ y ∈ (splitT r (k - l.sz - 1)).1.row, Nix V S y := fun y hy => h0r y (by rw [r1] at hy; exact List.mem_of_mem_take hy)
      have har : ∀ y ∈ (splitT r (k - l.sz - 1)).1.row, y ∈ r.row := fun y hy => by rw [r1] at hy; exact List.mem_of_mem_take hy
      have hbr : ∀ y ∈ (splitT r (k - l.sz - 1)).2.row, y ∈ r.row := fun y hy => by rw [r2] at hy; exact List.mem_of_mem_drop hy
      have sza : (splitT r (k - l.sz - 1)).1.sz ≤ r.sz := by
        have q := Tr.row_len (splitT r (k - l.sz - 1)).1
        rw [r1, List.length_take] at q
        have := Tr.row_len r
        omega
      obtain ⟨oa, ka, sa⟩ := smok_tr (vx := vxB V) hm (splitT r (k - l.sz - 1)).1 (by omega)
      have na := (splitT r (k - l.sz - 1)).1.nv_le (vxB V)
      obtain ⟨q1, q2, q3, q4⟩ := so x pp.xr
      have Il : IsT mk (vxB V) s1 l x := b4.congr (so.on fun y hy q => pp.lr y hy q)
      have hne : (splitT r (k - l.sz - 1)).1.rt ≠ x := by
        by_cases hnil : (splitT r (k - l.sz - 1)).1 = .nil
        · rw [hnil]; simp only [Tr.rt]; omega
        · exact fun e => pp.xr (e ▸ har _ (rt_mem hnil))
      obtain ⟨g5, f5, A5, o5⟩ := tsetR (md := ⟨md.ro, h.length⟩) hR A4 hro hrb (by show md.ro ≤ g4.length; omega) hx (rt_ch ha0) hne (by rw [q2, b1]; exact rt_ch h0l)
        (m := mk x) (sz0 := l.sz + r.sz + 1) (nv0 := l.nv (vxB V) + r.nv (vxB V) + (bif vxB V x then 1 else 0)) (a0 := (mk x ||| l.am mk) ||| r.am mk) ⟨by omega, by cases vxB V x <;> simp <;> omega, hm x, Nat.or_lt_two_pow (n := 2) (Nat.or_lt_two_pow (n := 2) (hm x) (l.am_lt hm)) (r.am_lt hm)⟩ (by rw [q4, b3]; rfl)
        kl (by rw [q2, b1]; exact (sum_of Il.body (one h0l)).trans sl) ka ((sum_of B1 (one ha0)).trans sa) (by omega) (by omega)
      rw [← sm_nd mk (vxB V)] at A5
      have o15 := o14.trans o5
      have nd2 : (l.row ++ x :: (splitT r (k - l.sz - 1)).1.row).Nodup := by
        refine hn.sublist ?_
        simp only [Tr.row]
        exact List.Sublist.append (List.Sublist.refl _) (List.Sublist.cons_cons _ (by rw [r1]; exact List.take_sublist _ _))
      have h02 : ∀ y ∈ l.row ++ x :: (splitT r (k - l.sz - 1)).1.row, 1 ≤ y := fun y hy => by
        rcases List.mem_append.1 hy with q | q
        · exact (h0l y q).1
        · rcases List.mem_cons.1 q with rfl | q
          · exact hx.1
          · exact (ha0 y q).1
      have disj : ∀ y ∈ (splitT r (k - l.sz - 1)).1.row, y ∉ (splitT r (k - l.sz - 1)).2.row := fun y h1 h2 => by
        rw [r1] at h1; rw [r2] at h2
        have := pp.nr
        rw [← List.take_append_drop (k - l.sz - 1) r.row, List.nodup_append] at this
        exact this.2.2 y h1 y h2 rfl
      refine ⟨_, g5.take h.length, ?_, A5.take la lb, o15.take, set_right Il B1 (by rw [q2, b1]) nd2 h02, B2.congr fun y hy => ?_, ?_⟩
      · rw [C, call_eq, F68_eq]
        unfold F68
        simp only [rt_nd]
        simp only [go_sem, Nat.reduceAdd, Nat.reduceLeDiff, Nat.reduceMul, Int.reduceBEq, Int.reduceBNe, Int.reduceLT, Int.reduceLE, Int.reduceGT, x0, f1, t1, f2, ck, t2, f3, t3, wk, f4, t4, f5, cLE_t]
      · refine setR_out (fun e => pp.xr (e ▸ hbr y hy)) fun e => ?_
        by_cases hnil : (splitT r (k - l.sz - 1)).1 = .nil
        · have := (h0r y (hbr y hy)).1
          rw [hnil] at e; simp only [Tr.rt] at e; omega
        · exact disj _ (rt_mem hnil) (e ▸ hy)
      · refine (so.mono fun y hy => by simp [Tr.row, hy]).trans (setR_same (by simp [Tr.row]) ?_)
        by_cases hnil : (splitT r (k - l.sz - 1)).1 = .nil
        · left; rw [hnil]; rfl
        · right; simp [Tr.row, har _ (rt_mem hnil)]
end Go.Det.E

/- Trees in memory: merged. -/
namespace Go.Det.U
theorem merge_sz {pr : Int → Int} (a b : Tr) : (mergeT pr a b).sz = a.sz + b.sz := by
  rw [← Tr.row_len, merge_row _ _ _ (Nat.le_refl _), List.length_append, Tr.row_len, Tr.row_len]
end Go.Det.U
namespace Go.Det.E
open Go.Proofs Go.Det Go.Det.U
attribute [local congr] bind_c cond_c
variable {md : Md} {h hh : Heap} {a b : Nat} {V S T x v p f : Int} {l c : List Int} {l0 : Int → Int} {s s' : NS} {sz nv own all : Nat} {mk : Int → Nat}
theorem tmerge (hR : Rt V S T) (hm : ∀ x, mk x < 4) : ∀ (n : Nat) (A B : Tr) (md : Md) (h : Heap) (s : NS), A.sz + B.sz ≤ n → TH V S T l0 a b s h → md.ro ≤ a → md.ro ≤ b → md.ro ≤ h.length → IsB mk (vxB V) s A → IsB mk (vxB V) s B → (A.row ++ B.row).Nodup → (∀ y ∈ A.row ++ B.row, Nix V S y) → A.sz + B.sz < 60000 →
    ∃ s' h', C md 70 [(Value.agg #[(Value.int .i64 V), (Value.int .i64 S), (Value.int .i64 T), ifA a, (Value.int .i64 1), (Value.int .i64 0)]), (Value.int .i64 A.rt), (Value.int .i64 B.rt)] h = some ((Value.int .i64 ((mergeT (prO V S T l0) A B).rt)), h') ∧ TH V S T l0 a b s' h' ∧ Only a b h h' ∧ IsB mk (vxB V) s' (mergeT (prO V S T l0) A B) ∧ SameOut (A.row ++ B.row) s s' := by
  intro n
  have nilA : ∀ (B : Tr) (md : Md) (h : Heap) (s : NS), TH V S T l0 a b s h → C md 70 [(Value.agg #[(Value.int .i64 V), (Value.int .i64 S), (Value.int .i64 T), ifA a, (Value.int .i64 1), (Value.int .i64 0)]), (Value.int .i64 0), (Value.int .i64 B.rt)] h = some ((Value.int .i64 B.rt), h) := by
    intro B md h s A
    obtain ⟨la, lb⟩ := A.la
    rw [C, call_eq, F70_eq]
    unfold F70
    simp only [go_sem, Nat.reduceAdd, Nat.reduceLeDiff, Nat.reduceMul, Int.reduceBEq, Int.reduceBNe, Int.reduceLT, Int.reduceLE, Int.reduceGT, take_app]
  induction n with
  | zero =>
    intro A B md h s hn Ah hro hrb hr Ba Bb hd h0 hz
    cases A with
    | nil =>
      refine ⟨s, h, ?_, Ah, Only.refl, ?_, SameOut.refl _ _⟩
      · rw [show mergeT (prO V S T l0) .nil B = B by simp [mergeT]]
        exact nilA B md h s Ah
      · rw [show mergeT (prO V S T l0) .nil B = B by simp [mergeT]]; exact Bb
    | nd l x r => simp [Tr.sz] at hn
  | succ n ih =>
    intro A B md h s hn Ah hro hrb hr Ba Bb hd h0 hz
    obtain ⟨la, lb⟩ := Ah.la
    cases A with
    | nil =>
      refine ⟨s, h, ?_, Ah, Only.refl, ?_, SameOut.refl _ _⟩
      · rw [show mergeT (prO V S T l0) .nil B = B by simp [mergeT]]
        exact nilA B md h s Ah
      · rw [show mergeT (prO V S T l0) .nil B = B by simp [mergeT]]; exact Bb
    | nd l x r =>
      have hx := h0 x (by simp [Tr.row])
      have hx' := nix_small hR hx
      have x0 : (x == 0) = false := by simp; omega
      have one : ∀ {u : Tr}, (∀ y ∈ u.row, Nix V S y) → ∀ y ∈ u.row, 1 ≤ y := fun hu y hy => (hu y hy).1
      have lh : md.ro ≤ (h ++ [Blk.own [(Value.int .i64 V), (Value.int .i64 S), (Value.int .i64 T), ifA a, (Value.int .i64 1), (Value.int .i64 0)]]).length := by simp; omega
      cases B with
      | nil =>
        refine ⟨s, h, ?_, Ah, Only.refl, ?_, SameOut.refl _ _⟩
        · rw [merge_nil]
          rw [C, call_eq, F70_eq]
          unfold F70
          simp only [rt_nd, rt_0]
          simp only [go_sem, Nat.reduceAdd, Nat.reduceLeDiff, Nat.reduceMul, Int.reduceBEq, Int.reduceBNe, Int.reduceLT, Int.reduceLE, Int.reduceGT, x0, take_app]
        · rw [merge_nil]; exact Ba
      | nd l' y r' =>
        have hy := h0 y (by simp [Tr.row])
        have hy' := nix_small hR hy
        have y0 : (y == 0) = false := by simp; omega
        obtain ⟨b1, b2, b3, b4, b5⟩ := Ba
        obtain ⟨c1, c2, c3, c4, c5⟩ := Bb
        obtain ⟨hd1, hd2, hd3⟩ := List.nodup_append.1 hd
        have pa := parts_of (V := V) (S := S) (l := l) (x := x) (r := r) hd1
        have pb := parts_of (V := V) (S := S) (l := l') (x := y) (r := r') hd2
        have h0l : ∀ z ∈ l.row, Nix V S z := fun z hz => h0 z (by simp [Tr.row, hz])
        have h0r : ∀ z ∈ r.row, Nix V S z := fun z hz => h0 z (by simp [Tr.row, hz])
        have h0l' : ∀ z ∈ l'.row, Nix V S z := fun z hz => h0 z (by simp [Tr.row, hz])
        have h0r' : ∀ z ∈ r'.row, Nix V S z := fun z hz => h0 z (by simp [Tr.row, hz])
        obtain ⟨g1, f1, A1, o1⟩ := tabove (md := ⟨md.ro, h.length⟩) hR (Ah.app [Blk.own [(Value.int .i64 V), (Value.int .i64 S), (Value.int .i64 T), ifA a, (Value.int .i64 1), (Value.int .i64 0)]]) hro hx hy
        have t1 := tv6 (tvB (V := V) (S := S) (T := T) la lb o1)
        have ll1 := lkeep o1
        have na := l.nv_le (vxB V)
        have nb := r.nv_le (vxB V)
        have na' := l'.nv_le (vxB V)
        have nb' := r'.nv_le (vxB V)
        rw [merge_nd]
        cases hab : ab (prO V S T l0) x y
        · -- the other root is above
          simp only [cond_false]
          rw [hab] at f1
          have sz2 : (Tr.nd l x r).sz + (Tr.nd l' y r').sz = (Tr.nd l x r).sz + (l'.sz + r'.sz + 1) := rfl
          obtain ⟨g2, f2, A2, o2⟩ := tget3 (md := ⟨md.ro, h.length⟩) hR A1 hro hy (by rw [c1]; exact ch_small hR (rt_ch h0l'))
          rw [c1] at f2
          have o12 := o1.trans o2
          have t2 := tv6 (tvB (V := V) (S := S) (T := T) la lb o12)
          have ll2 := lkeep o12
          have hdm : ((Tr.nd l x r).row ++ l'.row).Nodup := hd.sublist (List.Sublist.append (List.Sublist.refl _) (by simp [Tr.row]))
          have h0m : ∀ z ∈ (Tr.nd l x r).row ++ l'.row, Nix V S z := fun z hz => h0 z (by
            rcases List.mem_append.1 hz with q | q
            · exact List.mem_append.2 (.inl q)
            · exact List.mem_append.2 (.inr (by simp [Tr.row, q])))
          obtain ⟨s1, g3, f3, A3, o3, B1, so⟩ := ih (.nd l x r) l' ⟨md.ro, h.length⟩ g2 s (by rw [sz2] at hn; omega) A2 hro hrb (by show md.ro ≤ g2.length; omega) ⟨b1, b2, b3, b4, b5⟩ c4.body hdm h0m (by rw [sz2] at hz; omega)
          rw [rt_nd] at f3
          have o13 := o12.trans o3
          have t3 := tv6 (tvB (V := V) (S := S) (T := T) la lb o13)
          have ll3 := lkeep o13
          have hM := merge_row (pr := prO V S T l0) _ (.nd l x r) l' (Nat.le_refl _)
          have sM := merge_sz (pr := prO V S T l0) (.nd l x r) l'
          generalize hMe : mergeT (prO V S T l0) (.nd l x r) l' = M at f3 B1 hM sM
          have h0M : ∀ z ∈ M.row, Nix V S z := fun z hz => h0m z (hM ▸ hz)
          have nM := M.nv_le (vxB V)
          have yM : y ∉ M.row := fun q => by
            rw [hM] at q
            rcases List.mem_append.1 q with q | q
            · exact hd3 y q y (by simp [Tr.row]) rfl
            · exact pb.xl q
          have rM : ∀ z ∈ r'.row, z ∉ M.row := fun z hz q => by
            rw [hM] at q
            rcases List.mem_append.1 q with q | q
            · exact hd3 z q z (by simp [Tr.row, hz]) rfl
            · exact pb.lr z q hz
          have MN : M ≠ .nil := fun e => by rw [e] at sM; simp only [Tr.sz] at sM; omega
          obtain ⟨q1, q2, q3, q4⟩ := so y (hM ▸ yM)
          have Ir : IsT mk (vxB V) s1 r' y := c5.congr (so.on fun z hz q => rM z hz (hM ▸ q))
          rw [sz2] at hz
          obtain ⟨oM, kM, eM⟩ := smok_tr (vx := vxB V) hm M (by omega)
          obtain ⟨or', kr, er⟩ := smok_tr (vx := vxB V) hm r' (by omega)
          obtain ⟨g4, f4, A4, o4⟩ := tsetL (md := ⟨md.ro, h.length⟩) hR A3 hro hrb (by show md.ro ≤ g3.length; omega) hy (rt_ch h0M) (fun e => yM (e ▸ rt_mem MN)) (by rw [q3, c2]; exact rt_ch h0r')
            (m := mk y) (sz0 := l'.sz + r'.sz + 1) (nv0 := l'.nv (vxB V) + r'.nv (vxB V) + (bif vxB V y then 1 else 0)) (a0 := (mk y ||| l'.am mk) ||| r'.am mk) ⟨by omega, by cases vxB V y <;> simp <;> omega, hm y, Nat.or_lt_two_pow (n := 2) (Nat.or_lt_two_pow (n := 2) (hm y) (l'.am_lt hm)) (r'.am_lt hm)⟩ (by rw [q4, c3]; rfl)
            kM ((sum_of B1 (one h0M)).trans eM) kr (by rw [q3, c2]; exact (sum_of Ir.body (one h0r')).trans er) (by omega) (by omega)
          rw [← sm_nd mk (vxB V)] at A4
          have o14 := o13.trans o4
          have nd2 : (M.row ++ y :: r'.row).Nodup := by
            rw [hM, List.append_assoc]; exact hd
          have h02 : ∀ z ∈ M.row ++ y :: r'.row, 1 ≤ z := fun z hz => by
            rw [hM, List.append_assoc] at hz; exact (h0 z hz).1
          refine ⟨_, g4.take h.length, ?_, A4.take la lb, o14.take, set_left B1 Ir (by rw [q3, c2]) nd2 h02, ?_⟩
          · rw [C, call_eq, F70_eq]
            unfold F70
            simp only [rt_nd]
            simp only [go_sem, Nat.reduceAdd, Nat.reduceLeDiff, Nat.reduceMul, Int.reduceBEq, Int.reduceBNe, Int.reduceLT, Int.reduceLE, Int.reduceGT, x0, y0, f1, t1, f2, t2, f3, t3, f4, cLE_t]
          · refine (so.mono fun z hz => ?_).trans (setL_same (by simp [Tr.row]) (.inr ?_))
            · rcases List.mem_append.1 hz with q | q
              · exact List.mem_append.2 (.inl q)
              · exact List.mem_append.2 (.inr (by simp [Tr.row, q]))
            · have := rt_mem MN
              rw [hM] at this
              rcases List.mem_append.1 this with q | q
              · exact List.mem_append.2 (.inl q)
              · exact List.mem_append.2 (.inr (by simp [Tr.row, q]))
        · simp only [cond_true]
          rw [hab] at f1
          have sz2 : (Tr.nd l x r).sz + (Tr.nd l' y r').sz = (l.sz + r.sz + 1) + (Tr.nd l' y r').sz := rfl
          obtain ⟨g2, f2, A2, o2⟩ := tget4 (md := ⟨md.ro, h.length⟩) hR A1 hro hx (by rw [b2]; exact ch_small hR (rt_ch h0r))
          rw [b2] at f2
          have o12 := o1.trans o2
          have t2 := tv6 (tvB (V := V) (S := S) (T := T) la lb o12)
          have ll2 := lkeep o12
          have hdm : (r.row ++ (Tr.nd l' y r').row).Nodup := hd.sublist (List.Sublist.append (by simp only [Tr.row]; exact List.Sublist.trans (List.sublist_cons_self _ _) (List.sublist_append_right _ _)) (List.Sublist.refl _))
          have h0m : ∀ z ∈ r.row ++ (Tr.nd l' y r').row, Nix V S z := fun z hz => h0 z (by
            rcases List.mem_append.1 hz with q | q
            · exact List.mem_append.2 (.inl (by simp [Tr.row, q]))
            · exact List.mem_append.2 (.inr q))
          obtain ⟨s1, g3, f3, A3, o3, B1, so⟩ := ih r (.nd l' y r') ⟨md.ro, h.length⟩ g2 s (by rw [sz2] at hn; omega) A2 hro hrb (by show md.ro ≤ g2.length; omega) b5.body ⟨c1, c2, c3, c4, c5⟩ hdm h0m (by rw [sz2] at hz; omega)
          rw [rt_nd] at f3
          have o13 := o12.trans o3
          have t3 := tv6 (tvB (V := V) (S := S) (T := T) la lb o13)
          have ll3 := lkeep o13
          have hM := merge_row (pr := prO V S T l0) _ r (.nd l' y r') (Nat.le_refl _)
          have sM := merge_sz (pr := prO V S T l0) r (.nd l' y r')
          generalize hMe : mergeT (prO V S T l0) r (.nd l' y r') = M at f3 B1 hM sM
          have h0M : ∀ z ∈ M.row, Nix V S z := fun z hz => h0m z (hM ▸ hz)
          have nM := M.nv_le (vxB V)
          have yM : x ∉ M.row := fun q => by
            rw [hM] at q
            rcases List.mem_append.1 q with q | q
            · exact pa.xr q
            · exact hd3 x (by simp [Tr.row]) x q rfl
          have rM : ∀ z ∈ l.row, z ∉ M.row := fun z hz q => by
            rw [hM] at q
            rcases List.mem_append.1 q with q | q
            · exact pa.lr z hz q
            · exact hd3 z (by simp [Tr.row, hz]) z q rfl
          have MN : M ≠ .nil := fun e => by rw [e] at sM; simp only [Tr.sz] at sM; omega
          obtain ⟨q1, q2, q3, q4⟩ := so x (hM ▸ yM)
          have Il : IsT mk (vxB V) s1 l x := b4.congr (so.on fun z hz q => rM z hz (hM ▸ q))
          rw [sz2] at hz
          obtain ⟨oM, kM, eM⟩ := smok_tr (vx := vxB V) hm M (by omega)
          obtain ⟨ol, kl, el⟩ := smok_tr (vx := vxB V) hm l (by omega)
          obtain ⟨g4, f4, A4, o4⟩ := tsetR (md := ⟨md.ro, h.length⟩) hR A3 hro hrb (by show md.ro ≤ g3.length; omega) hx (rt_ch h0M) (fun e => yM (e ▸ rt_mem MN)) (by rw [q2, b1]; exact rt_ch h0l)
            (m := mk x) (sz0 := l.sz + r.sz + 1) (nv0 := l.nv (vxB V) + r.nv (vxB V) + (bif vxB V x then 1 else 0)) (a0 := (mk x ||| l.am mk) ||| r.am mk) ⟨by omega, by cases vxB V x <;> simp <;> omega, hm x, Nat.or_lt_two_pow (n := 2) (Nat.or_lt_two_pow (n := 2) (hm x) (l.am_lt hm)) (r.am_lt hm)⟩ (by rw [q4, b3]; rfl)
            kl (by rw [q2, b1]; exact (sum_of Il.body (one h0l)).trans el) kM ((sum_of B1 (one h0M)).trans eM) (by omega) (by omega)
          rw [← sm_nd mk (vxB V)] at A4
          have o14 := o13.trans o4
          have ee : (Tr.nd l x r).row ++ (Tr.nd l' y r').row = l.row ++ x :: (r.row ++ (Tr.nd l' y r').row) := by simp [Tr.row]
          have nd2 : (l.row ++ x :: M.row).Nodup := by
            rw [hM, ← ee]; exact hd
          have h02 : ∀ z ∈ l.row ++ x :: M.row, 1 ≤ z := fun z hz => by
            rw [hM, ← ee] at hz; exact (h0 z hz).1
          refine ⟨_, g4.take h.length, ?_, A4.take la lb, o14.take, set_right Il B1 (by rw [q2, b1]) nd2 h02, ?_⟩
          · rw [C, call_eq, F70_eq]
            unfold F70
            simp only [rt_nd]
            simp only [go_sem, Nat.reduceAdd, Nat.reduceLeDiff, Nat.reduceMul, Int.reduceBEq, Int.reduceBNe, Int.reduceLT, Int.reduceLE, Int.reduceGT, x0, y0, f1, t1, f2, t2, f3, t3, f4, cLE_t]
          · refine (so.mono fun z hz => ?_).trans (setR_same (by simp [Tr.row]) (.inr ?_))
            · rcases List.mem_append.1 hz with q | q
              · exact List.mem_append.2 (.inl (by simp [Tr.row, q]))
              · exact List.mem_append.2 (.inr q)
            · have := rt_mem MN
              rw [hM] at this
              rcases List.mem_append.1 this with q | q
              · exact List.mem_append.2 (.inl (by simp [Tr.row, q]))
              · exact List.mem_append.2 (.inr q)
end Go.Det.E

/- Trees in memory: alone, split, merged and marked, each under none. -/
namespace Go.Det.E
open Go.Proofs Go.Det Go.Det.U
attribute [local congr] bind_c cond_c
variable {md : Md} {h hh : Heap} {a b : Nat} {V S T x v p f : Int} {l c : List Int} {l0 : Int → Int} {s s' : NS} {sz nv own all : Nat} {mk : Int → Nat} {vx : Int → Bool}
theorem hang_out {c y : Int} (h : y ≠ c) : (hangS s c p).par y = s.par y ∧ (hangS s c p).lf y = s.lf y ∧ (hangS s c p).rt y = s.rt y ∧ (hangS s c p).sm y = s.sm y := by
  refine ⟨?_, rfl, rfl, rfl⟩
  unfold hangS
  simp only
  split
  · rfl
  · exact upI_else h
theorem hang_same {c : Int} {xs : List Int} (hc : c = 0 ∨ c ∈ xs) : SameOut xs s (hangS s c p) := by
  intro y hy
  rcases hc with rfl | hc
  · exact ⟨rfl, rfl, rfl, rfl⟩
  · exact hang_out fun e => hy (e ▸ hc)
theorem hang_T {t : Tr} (B : IsB mk vx s t) (hn : t.row.Nodup) (h0 : ∀ y ∈ t.row, 1 ≤ y) : IsT mk vx (hangS s t.rt p) t p := by
  refine hung B hn h0 (fun y h1 h2 => hang_out h1) fun hne => ⟨?_, rfl, rfl, rfl⟩
  have c : ¬ t.rt = 0 := by have := h0 t.rt (rt_mem hne); omega
  unfold hangS
  simp only
  rw [if_neg c]
  exact upI_same _ _ _
theorem rt_in (t : Tr) : t.rt = 0 ∨ t.rt ∈ t.row := by
  cases t with
  | nil => exact .inl rfl
  | nd l x r => exact .inr (by simp [Tr.row, Tr.rt])
/-- Another tree is as it was when one hangs elsewhere. -/
theorem hang_B {t u : Tr} (B : IsB mk vx s u) (h0 : ∀ y ∈ u.row, 1 ≤ y) (hd : ∀ y ∈ u.row, y ∉ t.row) : IsB mk vx (hangS s t.rt p) u :=
  B.congr fun y hy => hang_out fun e => by
    rcases rt_in t with q | q
    · have := h0 y hy; omega
    · exact hd y hy (e ▸ q)
theorem hang_TT {t u : Tr} {q : Int} (B : IsT mk vx s u q) (h0 : ∀ y ∈ u.row, 1 ≤ y) (hd : ∀ y ∈ u.row, y ∉ t.row) : IsT mk vx (hangS s t.rt p) u q :=
  B.congr fun y hy => hang_out fun e => by
    rcases rt_in t with q | q
    · have := h0 y hy; omega
    · exact hd y hy (e ▸ q)
/-- A node alone. -/
def aloneS (V : Int) (s : NS) (x : Int) : NS := { par := upI s.par x 0, lf := upI s.lf x 0, rt := upI s.rt x 0, sm := upI s.sm x (SM 1 (bif vxB V x then 1 else 0) 0 0) }
theorem tAlone (hR : Rt V S T) (A : TH V S T l0 a b s h) (hro : md.ro ≤ a) (hrb : md.ro ≤ b) (hr : md.ro ≤ h.length) (hx : Nix V S x) :
    ∃ h', C md 56 [(Value.agg #[(Value.int .i64 V), (Value.int .i64 S), (Value.int .i64 T), ifA a, (Value.int .i64 1), (Value.int .i64 0)]), (Value.int .i64 x)] h = some ((Value.tuple #[]), h') ∧ TH V S T l0 a b (aloneS V s x) h' ∧ Only a b h h' := by
  obtain ⟨la, lb⟩ := A.la
  have lh : md.ro ≤ (h ++ [Blk.own [(Value.int .i64 V), (Value.int .i64 S), (Value.int .i64 T), ifA a, (Value.int .i64 1), (Value.int .i64 0)]]).length := by simp; omega
  obtain ⟨g1, f1, A1, o1⟩ := tput3 (md := ⟨md.ro, h.length⟩) (v := 0) hR (A.app [Blk.own [(Value.int .i64 V), (Value.int .i64 S), (Value.int .i64 T), ifA a, (Value.int .i64 1), (Value.int .i64 0)]]) hro hrb lh hx ⟨by omega, by omega⟩
  have t1 := tv6 (tvB (V := V) (S := S) (T := T) la lb o1)
  have l1 := lkeep o1
  obtain ⟨g2, f2, A2, o2'⟩ := tput4 (md := ⟨md.ro, h.length⟩) (v := 0) hR A1 hro hrb (by show md.ro ≤ g1.length; omega) hx ⟨by omega, by omega⟩
  have o2 := o1.trans o2'
  have t2 := tv6 (tvB (V := V) (S := S) (T := T) la lb o2)
  have l2 := lkeep o2
  obtain ⟨g3, f3, A3, o3'⟩ := thang (md := ⟨md.ro, h.length⟩) hR A2 hro hrb (by show md.ro ≤ g2.length; omega) (.inr hx) (p := 0) ⟨by omega, by omega⟩
  have o3 := o2.trans o3'
  have b3 := tvB (V := V) (S := S) (T := T) la lb o3
  have t3 := tv6 b3
  have t3b := tv3 b3
  have t3m := tvm b3
  have l3 := lkeep o3
  have fs := fun (m : Md) (h : Heap) => fs_of hR hx (f := 6) (by omega) m h
  have lo := tlone (md := ⟨md.ro, h.length⟩) (h := g3) hR hx (ifA a) 1 0 (by show md.ro ≤ g3.length; omega) (m := 0) (by omega)
  have kl : SMok 1 (bif vxB V x then 1 else 0) 0 0 := ⟨by omega, by cases vxB V x <;> simp, by omega, by omega⟩
  have l4 := smN_lt kl
  obtain ⟨l, c, A3, R⟩ := A3
  obtain ⟨g5, f5, A5, o5'⟩ := ps_x (md := ⟨md.ro, h.length⟩) A3 hro hrb (qN V S T x + 6) (SM 1 (bif vxB V x then 1 else 0) 0 0)
  have o5 := o3.trans o5'
  have hx' := nix_small hR hx
  have R' := R.putSm hR hx.1 hx.2 (v := SM 1 (bif vxB V x then 1 else 0) 0 0) (by rw [SM_eq]; omega)
  have eS : ({ hangS { { s with lf := upI s.lf x 0 } with rt := upI s.rt x 0 } x 0 with sm := upI (hangS { { s with lf := upI s.lf x 0 } with rt := upI s.rt x 0 } x 0).sm x (SM 1 (bif vxB V x then 1 else 0) 0 0) } : NS) = aloneS V s x := by
    unfold hangS aloneS
    simp only [if_neg (show ¬ x = 0 by omega)]
  refine ⟨g5.take h.length, ?_, ⟨_, _, A5.take la lb, eS ▸ R'⟩, o5.take⟩
  rw [C, call_eq, F56_eq]
  unfold F56
  have lo' : C ⟨md.ro, h.length⟩ 83 [(Value.agg #[(Value.int .i64 V), (Value.int .i64 S), (Value.int .i64 T), ifA a, (Value.int .i64 1), (Value.int .i64 0)]), (Value.int .i64 x), (Value.int .u64 0)] g3 = some ((Value.int .u64 (SM 1 (bif vxB V x then 1 else 0) 0 0)), g3) := lo
  simp only [go_sem, Nat.reduceAdd, Nat.reduceLeDiff, Nat.reduceMul, Int.reduceBEq, Int.reduceBNe, Int.reduceLT, Int.reduceLE, Int.reduceGT, f1, t1, f2, t2, f3, t3, t3b, t3m, fs, lo', okN_i, clI_store, f5]
theorem tMerge (hR : Rt V S T) (hm : ∀ x, mk x < 4) {A B : Tr} (Ah : TH V S T l0 a b s h) (hro : md.ro ≤ a) (hrb : md.ro ≤ b) (hr : md.ro ≤ h.length) (IA : IsT mk (vxB V) s A 0) (IB : IsT mk (vxB V) s B 0) (hn : (A.row ++ B.row).Nodup) (h0 : ∀ y ∈ A.row ++ B.row, Nix V S y) (hz : A.sz + B.sz < 60000) :
    ∃ s' h', C md 29 [(Value.agg #[(Value.int .i64 V), (Value.int .i64 S), (Value.int .i64 T), ifA a, (Value.int .i64 1), (Value.int .i64 0)]), (Value.int .i64 A.rt), (Value.int .i64 B.rt)] h = some ((Value.int .i64 ((mergeT (prO V S T l0) A B).rt)), h') ∧ TH V S T l0 a b s' h' ∧ Only a b h h' ∧ IsT mk (vxB V) s' (mergeT (prO V S T l0) A B) 0 ∧ SameOut (A.row ++ B.row) s s' := by
  obtain ⟨la, lb⟩ := Ah.la
  have lh : md.ro ≤ (h ++ [Blk.own [(Value.int .i64 V), (Value.int .i64 S), (Value.int .i64 T), ifA a, (Value.int .i64 1), (Value.int .i64 0)]]).length := by simp; omega
  obtain ⟨s1, g1, f1, A1, o1, B1, so⟩ := tmerge hR hm _ A B ⟨md.ro, h.length⟩ _ s (Nat.le_refl _) (Ah.app [Blk.own [(Value.int .i64 V), (Value.int .i64 S), (Value.int .i64 T), ifA a, (Value.int .i64 1), (Value.int .i64 0)]]) hro hrb lh IA.body IB.body hn h0 hz
  have t1 := tv6 (tvB (V := V) (S := S) (T := T) la lb o1)
  have l1 := lkeep o1
  have hM := merge_row (pr := prO V S T l0) _ A B (Nat.le_refl _)
  generalize mergeT (prO V S T l0) A B = M at f1 B1 hM
  obtain ⟨g2, f2, A2, o2'⟩ := thang (md := ⟨md.ro, h.length⟩) hR A1 hro hrb (by show md.ro ≤ g1.length; omega) (rt_ch (t := M) fun y hy => h0 y (hM ▸ hy)) (p := 0) ⟨by omega, by omega⟩
  have o2 := o1.trans o2'
  refine ⟨_, g2.take h.length, ?_, A2.take la lb, o2.take, hang_T B1 (hM ▸ hn) (fun y hy => (h0 y (hM ▸ hy)).1), so.trans (hang_same ?_)⟩
  · rw [C, call_eq, F29_eq]
    unfold F29
    simp only [go_sem, Nat.reduceAdd, Nat.reduceLeDiff, Nat.reduceMul, Int.reduceBEq, Int.reduceBNe, Int.reduceLT, Int.reduceLE, Int.reduceGT, f1, t1, f2]
  · rw [← hM]; exact rt_in M
def clampN (k : Int) (sz : Nat) : Nat := min k.toNat sz
theorem clamp_eq (k : Int) (sz : Nat) : (if (sz : Int) < (if 0 > k then 0 else k) then (sz : Int) else (if 0 > k then 0 else k)) = (clampN k sz : Int) := by
  unfold clampN
  split <;> split <;> omega
theorem tSplit (hR : Rt V S T) (hm : ∀ x, mk x < 4) {t : Tr} (Ah : TH V S T l0 a b s h) (hro : md.ro ≤ a) (hrb : md.ro ≤ b) (hr : md.ro ≤ h.length) (I : IsT mk (vxB V) s t 0) (hn : t.row.Nodup) (h0 : ∀ y ∈ t.row, Nix V S y) (hz : t.sz < 60000) (k : Int) :
    ∃ s' h', C md 28 [(Value.agg #[(Value.int .i64 V), (Value.int .i64 S), (Value.int .i64 T), ifA a, (Value.int .i64 1), (Value.int .i64 0)]), (Value.int .i64 t.rt), (Value.int .i64 k)] h = some ((Value.tuple #[(Value.int .i64 ((splitT t (clampN k t.sz)).1.rt)), (Value.int .i64 ((splitT t (clampN k t.sz)).2.rt))]), h') ∧ TH V S T l0 a b s' h' ∧ Only a b h h' ∧ IsT mk (vxB V) s' (splitT t (clampN k t.sz)).1 0 ∧ IsT mk (vxB V) s' (splitT t (clampN k t.sz)).2 0 ∧ SameOut t.row s s' := by
  obtain ⟨la, lb⟩ := Ah.la
  have lh : md.ro ≤ (h ++ [Blk.own [(Value.int .i64 V), (Value.int .i64 S), (Value.int .i64 T), ifA a, (Value.int .i64 1), (Value.int .i64 0)]]).length := by simp; omega
  have one : ∀ y ∈ t.row, 1 ≤ y := fun y hy => (h0 y hy).1
  obtain ⟨ot, kt, st⟩ := smok_tr (vx := vxB V) hm t (by omega)
  obtain ⟨g1, f1, A1, o1⟩ := tsize (md := ⟨md.ro, h.length⟩) hR (Ah.app [Blk.own [(Value.int .i64 V), (Value.int .i64 S), (Value.int .i64 T), ifA a, (Value.int .i64 1), (Value.int .i64 0)]]) hro (rt_ch h0) kt ((sum_of I.body one).trans st)
  have t1 := tv6 (tvB (V := V) (S := S) (T := T) la lb o1)
  have l1 := lkeep o1
  have hk : clampN k t.sz ≤ t.sz := Nat.min_le_right _ _
  have ck := clamp_eq k t.sz
  generalize clampN k t.sz = n at hk ck
  obtain ⟨s1, g2, f2, A2, o2', B1, B2, so⟩ := tsplit hR hm t n ⟨md.ro, h.length⟩ g1 s A1 hro hrb (by show md.ro ≤ g1.length; omega) I.body hn h0 hz hk
  have o2 := o1.trans o2'
  have t2 := tv6 (tvB (V := V) (S := S) (T := T) la lb o2)
  have l2 := lkeep o2
  obtain ⟨r1, r2⟩ := split_row t n
  generalize (splitT t n).1 = u at f2 B1 r1
  generalize (splitT t n).2 = w at f2 B2 r2
  have mu : ∀ y ∈ u.row, y ∈ t.row := fun y hy => by rw [r1] at hy; exact List.mem_of_mem_take hy
  have mw : ∀ y ∈ w.row, y ∈ t.row := fun y hy => by rw [r2] at hy; exact List.mem_of_mem_drop hy
  have hd : (u.row ++ w.row).Nodup := by rw [r1, r2, List.take_append_drop]; exact hn
  obtain ⟨nu, nw, dj⟩ := List.nodup_append.1 hd
  obtain ⟨g3, f3, A3, o3'⟩ := thang (md := ⟨md.ro, h.length⟩) hR A2 hro hrb (by show md.ro ≤ g2.length; omega) (rt_ch (t := u) fun y hy => h0 y (mu y hy)) (p := 0) ⟨by omega, by omega⟩
  have o3 := o2.trans o3'
  have t3 := tv6 (tvB (V := V) (S := S) (T := T) la lb o3)
  have l3 := lkeep o3
  obtain ⟨g4, f4, A4, o4'⟩ := thang (md := ⟨md.ro, h.length⟩) hR A3 hro hrb (by show md.ro ≤ g3.length; omega) (rt_ch (t := w) fun y hy => h0 y (mw y hy)) (p := 0) ⟨by omega, by omega⟩
  have o4 := o3.trans o4'
  have I1 := hang_T (p := 0) B1 nu fun y hy => one y (mu y hy)
  have I2 := hang_T (p := 0) (hang_B (t := u) (p := 0) B2 (fun y hy => one y (mw y hy)) fun y h1 h2 => dj y h2 y h1 rfl) nw fun y hy => one y (mw y hy)
  refine ⟨_, g4.take h.length, ?_, A4.take la lb, o4.take, hang_TT I1 (fun y hy => one y (mu y hy)) (fun y h1 h2 => dj y h1 y h2 rfl), I2, (so.trans (hang_same ?_)).trans (hang_same ?_)⟩
  · rw [C, call_eq, F28_eq]
    unfold F28
    simp only [go_sem, Nat.reduceAdd, Nat.reduceLeDiff, Nat.reduceMul, Int.reduceBEq, Int.reduceBNe, Int.reduceLT, Int.reduceLE, Int.reduceGT, f1, t1, ck, f2, t2, f3, t3, f4, cLE_t]
  · rcases rt_in u with q | q
    · exact .inl q
    · exact .inr (mu _ q)
  · rcases rt_in w with q | q
    · exact .inl q
    · exact .inr (mw _ q)
end Go.Det.E

/- Trees in memory: a node is marked; all above it are renewed. -/
namespace Go.Det.E
open Go.Proofs Go.Det Go.Det.U
attribute [local congr] bind_c cond_c
variable {md : Md} {h hh : Heap} {a b : Nat} {V S T x v p f : Int} {l c : List Int} {l0 : Int → Int} {s s' : NS} {sz nv own all : Nat} {mk mk' : Int → Nat} {vx : Int → Bool}
theorem am_congr {t : Tr} (h : ∀ y ∈ t.row, mk' y = mk y) : t.am mk' = t.am mk := by
  induction t with
  | nil => rfl
  | nd l x r hl hr =>
    simp only [Tr.am]
    rw [hl fun y hy => h y (by simp [Tr.row, hy]), hr fun y hy => h y (by simp [Tr.row, hy]), h x (by simp [Tr.row])]
theorem sm_congr {t : Tr} (h : ∀ y ∈ t.row, mk' y = mk y) : t.sm mk' vx = t.sm mk vx := by
  cases t with
  | nil => rfl
  | nd l x r =>
    simp only [Tr.sm]
    rw [am_congr (t := l) fun y hy => h y (by simp [Tr.row, hy]), am_congr (t := r) fun y hy => h y (by simp [Tr.row, hy]), h x (by simp [Tr.row])]
theorem IsT.marks {t : Tr} {p : Int} (h : ∀ y ∈ t.row, mk' y = mk y) (I : IsT mk vx s t p) : IsT mk' vx s t p := by
  induction t generalizing p with
  | nil => trivial
  | nd l x r hl hr =>
    obtain ⟨a1, a2, a3, a4, a5, a6⟩ := I
    exact ⟨a1, a2, a3, a4.trans (sm_congr h).symm, hl (fun y hy => h y (by simp [Tr.row, hy])) a5, hr (fun y hy => h y (by simp [Tr.row, hy])) a6⟩
end Go.Det.E
