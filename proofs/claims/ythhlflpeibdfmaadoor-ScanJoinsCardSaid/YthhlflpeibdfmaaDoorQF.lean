/- Scanning: texts put together. No program in sight. -/
import Derived.Test.YthhlflpeibdfmaaDoorQD
import Derived.Lib.TrimAscii
set_option autoImplicit false
set_option linter.unusedVariables false
set_option linter.unusedSimpArgs false
namespace Go.Det.E
open Go.Proofs Go.Det
open Go.Lib (decodeL)
theorem d34_app {n N x0 x1 x2 x3 y1 y2 y3 : Nat} (hN : n < N) (h1 : 1 < n → y1 = x1) (h2 : 2 < n → y2 = x2) (h3 : 3 < n → y3 = x3) (g1 : n = 1 → y1 < 128) (g2 : n = 2 → y2 < 128) (g3 : n = 3 → y3 < 128) (hn : 1 ≤ n) :
    d34 N x0 y1 y2 y3 = d34 n x0 x1 x2 x3 := by
  obtain ⟨a, ha⟩ : ∃ a, a = (if x0 = 224 then 160 else 128) := ⟨_, rfl⟩
  obtain ⟨b, hb⟩ : ∃ b, b = (if x0 = 237 then 159 else 191) := ⟨_, rfl⟩
  obtain ⟨c, hc⟩ : ∃ c, c = (if x0 = 240 then 144 else 128) := ⟨_, rfl⟩
  obtain ⟨d, hd⟩ : ∃ d, d = (if x0 = 244 then 143 else 191) := ⟨_, rfl⟩
  have ha' : 128 ≤ a := by rw [ha]; split <;> omega
  have hc' : 128 ≤ c := by rw [hc]; split <;> omega
  unfold d34
  rw [← ha, ← hb, ← hc, ← hd]
  by_cases p : (224 ≤ x0 ∧ x0 ≤ 239) ∧ (1 < n ∧ a ≤ x1 ∧ x1 ≤ b) ∧ (2 < n ∧ 128 ≤ x2 ∧ x2 ≤ 191)
  · have e1 := h1 p.2.1.1
    have e2 := h2 p.2.2.1
    rw [if_pos p, if_pos ⟨p.1, by omega, by omega⟩, e1, e2]
  · rw [if_neg p, if_neg (by omega)]
    by_cases q : (240 ≤ x0 ∧ x0 ≤ 244) ∧ (1 < n ∧ c ≤ x1 ∧ x1 ≤ d) ∧ (2 < n ∧ 128 ≤ x2 ∧ x2 ≤ 191) ∧ (3 < n ∧ 128 ≤ x3 ∧ x3 ≤ 191)
    · have e1 := h1 q.2.1.1
      have e2 := h2 q.2.2.1.1
      have e3 := h3 q.2.2.2.1
      rw [if_pos q, if_pos ⟨q.1, by omega, by omega, by omega⟩, e1, e2, e3]
    · rw [if_neg q, if_neg (by omega)]
theorem dec_app {a b : List UInt8} {c : UInt8} (ha : a ≠ []) (hc : c.toNat < 128) : decodeL (a ++ c :: b) = decodeL a := by
  have hl := List.length_pos_iff.2 ha
  have lt : ∀ (l : List UInt8) i, (l.getD i 0).toNat < 256 := fun l i => (l.getD i 0).toNat_lt
  have old : ∀ i, i < a.length → (a ++ c :: b).getD i 0 = a.getD i 0 := fun i hi => by
    rw [List.getD_eq_getElem?_getD, List.getD_eq_getElem?_getD, List.getElem?_append_left hi]
  have at' : ∀ i, a.length = i → ((a ++ c :: b).getD i 0).toNat < 128 := fun i hi => by
    rw [List.getD_eq_getElem?_getD, List.getElem?_append_right (by omega), hi, Nat.sub_self]
    exact hc
  rw [Lib.decodeL_N, Lib.decodeL_N, dn _ _ _ _ _ (lt _ _) (lt _ _) (lt _ _) (lt _ _), dn _ _ _ _ _ (lt _ _) (lt _ _) (lt _ _) (lt _ _), old 0 hl]
  have e := d34_app (n := a.length) (N := (a ++ c :: b).length) (x0 := (a.getD 0 0).toNat) (x1 := (a.getD 1 0).toNat) (x2 := (a.getD 2 0).toNat) (x3 := (a.getD 3 0).toNat)
    (y1 := ((a ++ c :: b).getD 1 0).toNat) (y2 := ((a ++ c :: b).getD 2 0).toNat) (y3 := ((a ++ c :: b).getD 3 0).toNat) (by simp) (fun h => by rw [old 1 h]) (fun h => by rw [old 2 h]) (fun h => by rw [old 3 h]) (at' 1) (at' 2) (at' 3) hl
  rw [e]
  by_cases h0 : (a.getD 0 0).toNat < 128
  · rw [if_pos h0, if_pos h0]
  · rw [if_neg h0, if_neg h0]
    have hN : a.length < (a ++ c :: b).length := by simp
    have o1 : 1 < a.length → ((a ++ c :: b).getD 1 0).toNat = (a.getD 1 0).toNat := fun h => by rw [old 1 h]
    have g1 := at' 1
    by_cases p : (194 ≤ (a.getD 0 0).toNat ∧ (a.getD 0 0).toNat ≤ 223) ∧ 1 < a.length ∧ 128 ≤ (a.getD 1 0).toNat ∧ (a.getD 1 0).toNat ≤ 191
    · rw [if_pos p, if_pos ⟨p.1, by omega, by have := o1 p.2.1; omega⟩, o1 p.2.1]
    · rw [if_neg p, if_neg (by omega)]
theorem items_asc {c : UInt8} (hc : c.toNat < 128) (b : List UInt8) : items (c :: b) = (c.toNat, 1) :: items b := by
  rw [items_cons (by simp), Lib.decodeL_ascii c b hc]; rfl
/-- A text, a plain byte, a text. -/
theorem items_app {c : UInt8} (hc : c.toNat < 128) (b : List UInt8) : ∀ (n : Nat) (a : List UInt8), a.length ≤ n → items (a ++ c :: b) = items a ++ (c.toNat, 1) :: items b := by
  intro n
  induction n with
  | zero =>
    intro a ha
    obtain rfl : a = [] := List.length_eq_zero_iff.1 (by omega)
    rw [items_nil]; exact items_asc hc b
  | succ n ih =>
    intro a ha
    by_cases hne : a = []
    · rw [hne, items_nil]; exact items_asc hc b
    · have h1 := Lib.decodeL_width a
      have h2 := Lib.decodeL_le a hne
      rw [items_cons (by simp), dec_app hne hc, items_cons hne, List.cons_append, List.drop_append_of_le_length h2, ih (a.drop (decodeL a).2) (by rw [List.length_drop]; omega)]
theorem wid_items : ∀ (n : Nat) (l : List UInt8), l.length ≤ n → wid (items l) = l.length := by
  intro n
  induction n with
  | zero =>
    intro l hl
    obtain rfl : l = [] := List.length_eq_zero_iff.1 (by omega)
    rw [items_nil]; rfl
  | succ n ih =>
    intro l hl
    by_cases hne : l = []
    · rw [hne, items_nil]; rfl
    · have h1 := Lib.decodeL_width l
      have h2 := Lib.decodeL_le l hne
      rw [items_cons hne, wid_cons, ih _ (by rw [List.length_drop]; omega), List.length_drop]; omega
theorem neut2 : ∀ (is : List (Nat × Nat)) (p : Nat) (l : List Tok) {k k' : Int} (f f' : Nat) (t t' : List Int), (k = 0 ∨ k = 1 ∨ k = 4) → (k' = 0 ∨ k' = 1 ∨ k' = 4) → mach is p l k f t = mach is p l k' f' t' := by
  intro is
  induction is with
  | nil => intro p l k k' f f' t t' hk hk'; rw [mach, mach, fin_neut (by omega), fin_neut (by omega)]
  | cons x is ih =>
    obtain ⟨r, w⟩ := x
    intro p l k k' f f' t t' hk hk'
    rw [mach, mach, fin_neut (by omega), fin_neut (by omega)]
    by_cases c0 : cls (r : Int) = 0
    · simp only [if_pos c0]; split <;> split <;> rfl
    · simp only [if_neg c0]
      by_cases c4 : cls (r : Int) = 4
      · simp only [if_pos c4]
        split <;> split <;> exact ih _ _ _ _ _ _ (by omega) (by omega)
      · simp only [if_neg c4]
        by_cases c23 : cls (r : Int) = 2 ∨ cls (r : Int) = 3
        · simp only [if_pos c23]
          rw [if_neg (by omega), if_neg (by omega)]
        · simp only [if_neg c23]
          have := cls_five (r : Int)
          by_cases c1 : cls (r : Int) = 1
          · split <;> split <;> exact ih _ _ _ _ _ _ (by omega) (by omega)
          · omega
/-- A blank ends whatever there is. -/
theorem mach_app {c : Nat} (hc : cls (c : Int) = 1) (js : List (Nat × Nat)) : ∀ (is : List (Nat × Nat)) (p : Nat) (l : List Tok) (k : Int) (f : Nat) (t : List Int),
    mach (is ++ (c, 1) :: js) p l k f t = if (mach is p l k f t).2.2 = 0 then mach js ((mach is p l k f t).2.1 + 1) (mach is p l k f t).1 1 0 [] else mach is p l k f t := by
  intro is
  induction is with
  | nil =>
    intro p l k f t
    rw [List.nil_append, mach, mach]
    by_cases ck : cls (c : Int) = k
    · rw [if_pos ck, if_neg (by omega), if_neg (by omega), if_neg (by omega), fin_neut (by omega), ← ck, hc]
      exact neut2 _ _ _ _ _ _ _ (by omega) (by omega)
    · rw [if_neg ck]
      cases fin l k t with
      | none => exact (if_neg ne_c).symm
      | some l' =>
        show (if _ then _ else _) = if (0 : Int) = 0 then _ else _
        rw [if_neg (by omega), if_neg (by omega), if_neg (by omega), if_pos rfl, hc]
        exact neut2 _ _ _ _ _ _ _ (by omega) (by omega)
  | cons x is ih =>
    obtain ⟨r, w⟩ := x
    intro p l k f t
    rw [List.cons_append, mach, mach]
    by_cases c0 : cls (r : Int) = 0
    · simp only [if_pos c0]
      split
      · exact (if_neg ne_d).symm
      · cases fin l k t with
        | none => exact (if_neg ne_c).symm
        | some l' => exact (if_neg ne_d).symm
    · simp only [if_neg c0]
      by_cases ck : cls (r : Int) = k
      · simp only [if_pos ck]
        split
        · exact ih _ _ _ _ _
        · split
          · exact ih _ _ _ _ _
          · exact ih _ _ _ _ _
      · simp only [if_neg ck]
        cases fin l k t with
        | none => exact (if_neg ne_c).symm
        | some l' =>
          dsimp only
          split
          · exact ih _ _ _ _ _
          · split
            · exact ih _ _ _ _ _
            · exact ih _ _ _ _ _
theorem fin_pre (L l : List Tok) (k : Int) (t : List Int) : fin (L ++ l) k t = (fin l k t).map (L ++ ·) := by
  unfold fin
  repeat' split
  all_goals simp
/-- Somewhere else, behind other tokens. -/
theorem mach_sh (L : List Tok) (d : Nat) : ∀ (is : List (Nat × Nat)) (p : Nat) (l : List Tok) (k : Int) (f : Nat) (t : List Int),
    mach is (p + d) (L ++ l) k (f + d) t = (if (mach is p l k f t).2.2 = 0 then L ++ (mach is p l k f t).1 else [], (mach is p l k f t).2.1 + d, (mach is p l k f t).2.2) := by
  intro is
  induction is with
  | nil =>
    intro p l k f t
    rw [mach, mach, fin_pre]
    cases fin l k t with
    | none => simp [ne_c]
    | some l' => simp
  | cons x is ih =>
    obtain ⟨r, w⟩ := x
    intro p l k f t
    have e : p + d + w = p + w + d := by omega
    rw [mach, mach, fin_pre, e]
    by_cases c0 : cls (r : Int) = 0
    · simp only [if_pos c0]
      split
      · simp [ne_d]
      · cases fin l k t with
        | none => simp [ne_c]
        | some l' => simp [ne_d]
    · simp only [if_neg c0]
      by_cases ck : cls (r : Int) = k
      · simp only [if_pos ck]
        split
        · rw [List.append_assoc]; exact ih _ _ _ _ _
        · split
          · exact ih _ _ _ _ _
          · exact ih _ _ _ _ _
      · simp only [if_neg ck]
        cases fin l k t with
        | none => simp [ne_c]
        | some l' =>
          simp only [Option.map_some]
          split
          · rw [List.append_assoc]; exact ih _ _ _ _ _
          · split
            · exact ih _ _ _ _ _
            · exact ih _ _ _ _ _
theorem mach_end : ∀ (is : List (Nat × Nat)) (p : Nat) (l : List Tok) (k : Int) (f : Nat) (t : List Int), (mach is p l k f t).2.2 = 0 → (mach is p l k f t).2.1 = p + wid is := by
  intro is
  induction is with
  | nil =>
    intro p l k f t
    rw [mach]
    cases fin l k t with
    | none => intro h; exact absurd h ne_c
    | some l' => intro _; rfl
  | cons x is ih =>
    obtain ⟨r, w⟩ := x
    intro p l k f t
    rw [mach, wid_cons, ← Nat.add_assoc]
    by_cases c0 : cls (r : Int) = 0
    · simp only [if_pos c0]
      split
      · intro h; exact absurd h ne_d
      · cases fin l k t with
        | none => intro h; exact absurd h ne_c
        | some l' => intro h; exact absurd h ne_d
    · simp only [if_neg c0]
      by_cases ck : cls (r : Int) = k
      · simp only [if_pos ck]
        split
        · exact ih _ _ _ _ _
        · split
          · exact ih _ _ _ _ _
          · exact ih _ _ _ _ _
      · simp only [if_neg ck]
        cases fin l k t with
        | none => intro h; exact absurd h ne_c
        | some l' =>
          dsimp only
          split
          · exact ih _ _ _ _ _
          · split
            · exact ih _ _ _ _ _
            · exact ih _ _ _ _ _
theorem mach_pos : ∀ (is : List (Nat × Nat)) (p : Nat) (l : List Tok) (k : Int) (f : Nat) (t : List Int), f ≤ p → (mach is p l k f t).2.1 ≤ p + wid is := by
  intro is
  induction is with
  | nil =>
    intro p l k f t hf
    rw [mach]
    cases fin l k t with
    | none => exact Nat.le_trans hf (Nat.le_add_right _ _)
    | some l' => exact Nat.le_refl _
  | cons x is ih =>
    obtain ⟨r, w⟩ := x
    intro p l k f t hf
    have hw : p ≤ p + w + wid is := by omega
    rw [mach, wid_cons, ← Nat.add_assoc]
    by_cases c0 : cls (r : Int) = 0
    · simp only [if_pos c0]
      split
      · exact hw
      · cases fin l k t with
        | none => exact Nat.le_trans hf hw
        | some l' => exact hw
    · simp only [if_neg c0]
      by_cases ck : cls (r : Int) = k
      · simp only [if_pos ck]
        split
        · exact ih _ _ _ _ _ (by omega)
        · split
          · exact ih _ _ _ _ _ (by omega)
          · exact ih _ _ _ _ _ (by omega)
      · simp only [if_neg ck]
        cases fin l k t with
        | none => exact Nat.le_trans hf hw
        | some l' =>
          dsimp only
          split
          · exact ih _ _ _ _ _ (by omega)
          · split
            · exact ih _ _ _ _ _ (by omega)
            · exact ih _ _ _ _ _ (by omega)
end Go.Det.E
