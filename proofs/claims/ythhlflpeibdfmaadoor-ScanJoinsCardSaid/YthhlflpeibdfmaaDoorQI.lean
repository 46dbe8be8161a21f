/- Scanning: blanks more than there were. No program in sight. -/
import Derived.Test.YthhlflpeibdfmaaDoorQH
set_option autoImplicit false
set_option linter.unusedVariables false
set_option linter.unusedSimpArgs false
namespace Go.Det.E
open Go.Proofs Go.Det
open Go.Lib (decodeL)
def tabs (n : Nat) : List UInt8 := List.replicate n 9
def trep (n : Nat) : List (Nat × Nat) := List.replicate n (9, 1)
def widen (n : Nat) (s : List UInt8) : List UInt8 := s.flatMap fun b => if b = 32 then b :: tabs n else [b]
def blk (n : Nat) (is : List (Nat × Nat)) : List (Nat × Nat) := is.flatMap fun x => if x.1 = 32 then x :: trep n else [x]
theorem widen_app (n : Nat) (a b : List UInt8) : widen n (a ++ b) = widen n a ++ widen n b := by simp [widen]
theorem blk_app (n : Nat) (a b : List (Nat × Nat)) : blk n (a ++ b) = blk n a ++ blk n b := by simp [blk]
theorem widen_len (n : Nat) (s : List UInt8) : (widen n s).length ≤ s.length * (n + 1) := by
  induction s with
  | nil => simp [widen]
  | cons b s ih =>
    have e : widen n (b :: s) = (if b = 32 then b :: tabs n else [b]) ++ widen n s := by simp [widen]
    rw [e, List.length_append, List.length_cons, Nat.succ_mul]
    have : (if b = 32 then b :: tabs n else [b]).length ≤ n + 1 := by split <;> simp [tabs]
    omega
theorem items_tabs (n : Nat) (l : List UInt8) : items (tabs n ++ l) = trep n ++ items l := by
  induction n with
  | zero => rfl
  | succ n ih =>
    have e : tabs (n + 1) ++ l = 9 :: (tabs n ++ l) := by simp [tabs, List.replicate_succ]
    rw [e, items_asc (by decide), ih]
    simp [trep, List.replicate_succ]
theorem items_end (n : Nat) (a : List UInt8) : items (a ++ tabs n) = items a ++ trep n := by
  cases n with
  | zero => simp [tabs, trep]
  | succ n =>
    have e : tabs (n + 1) = 9 :: tabs n := by simp [tabs, List.replicate_succ]
    have e2 := items_tabs n []
    rw [List.append_nil, items_nil, List.append_nil] at e2
    rw [e, items_app (by decide) _ _ a (Nat.le_refl _), e2]
    simp [trep, List.replicate_succ]
theorem head_32 {l : List UInt8} (hne : l ≠ []) (h : (decodeL l).1 = 32) : (32 : UInt8) ∈ l := by
  rw [Lib.decodeL_N] at h
  have hd : l.getD 0 0 ∈ l := by
    cases l with
    | nil => exact absurd rfl hne
    | cons b l => simp
  have key : (l.getD 0 0).toNat = 32 := by
    rcases Lib.decodeN_shape l.length (l.getD 0 0).toNat (l.getD 1 0).toNat (l.getD 2 0).toNat (l.getD 3 0).toNat with ⟨c, e⟩ | ⟨c1, c2, c3, cv, e⟩ | ⟨c1, c2, c3, c4, cv, cs, e⟩ | ⟨c1, c2, c3, c4, c5, cv, cw, e⟩ | e
    · rw [e] at h; exact h
    · rw [e] at h; simp only at h; omega
    · rw [e] at h; simp only at h; omega
    · rw [e] at h; simp only at h; omega
    · rw [e] at h; cases h
  have : l.getD 0 0 = 32 := UInt8.toNat_inj.1 key
  rw [this] at hd; exact hd
theorem no_32 : ∀ (n : Nat) (l : List UInt8), l.length ≤ n → (32 : UInt8) ∉ l → ∀ x ∈ items l, x.1 ≠ 32 := by
  intro n
  induction n with
  | zero =>
    intro l hl _ x hx
    obtain rfl : l = [] := List.length_eq_zero_iff.1 (by omega)
    rw [items_nil] at hx; cases hx
  | succ n ih =>
    intro l hl h x hx
    by_cases hne : l = []
    · rw [hne, items_nil] at hx; cases hx
    · rw [items_cons hne] at hx
      rcases List.mem_cons.1 hx with rfl | hx
      · exact fun e => h (head_32 hne e)
      · have h1 := Lib.decodeL_width l
        have h2 := List.length_pos_iff.2 hne
        exact ih _ (by rw [List.length_drop]; omega) (fun q => h (List.mem_of_mem_drop q)) x hx
theorem widen_none {n : Nat} : ∀ {l : List UInt8}, (32 : UInt8) ∉ l → widen n l = l := by
  intro l
  induction l with
  | nil => intro _; rfl
  | cons b l ih =>
    intro h
    have e : widen n (b :: l) = (if b = 32 then b :: tabs n else [b]) ++ widen n l := by simp [widen]
    rw [e, if_neg (fun q => h (by rw [q]; exact List.mem_cons_self ..)), ih fun q => h (List.mem_cons_of_mem _ q)]; rfl
theorem blk_none {n : Nat} : ∀ {is : List (Nat × Nat)}, (∀ x ∈ is, x.1 ≠ 32) → blk n is = is := by
  intro is
  induction is with
  | nil => intro _; rfl
  | cons x is ih =>
    intro h
    have e : blk n (x :: is) = (if x.1 = 32 then x :: trep n else [x]) ++ blk n is := by simp [blk]
    rw [e, if_neg (h x (List.mem_cons_self ..)), ih fun y hy => h y (List.mem_cons_of_mem _ hy)]; rfl
theorem first_32 : ∀ {s : List UInt8}, (32 : UInt8) ∈ s → ∃ a b, s = a ++ 32 :: b ∧ (32 : UInt8) ∉ a := by
  intro s
  induction s with
  | nil => intro h; cases h
  | cons c s ih =>
    intro h
    by_cases e : c = 32
    · exact ⟨[], s, by rw [e]; rfl, fun q => by cases q⟩
    · rcases List.mem_cons.1 h with q | q
      · exact absurd q.symm e
      · obtain ⟨a, b, e1, e2⟩ := ih q
        refine ⟨c :: a, b, by rw [e1]; rfl, fun z => ?_⟩
        rcases List.mem_cons.1 z with z | z
        · exact e z.symm
        · exact e2 z
theorem items_widen (n : Nat) : ∀ (m : Nat) (s : List UInt8), s.length ≤ m → items (widen n s) = blk n (items s) := by
  intro m
  induction m with
  | zero =>
    intro s hs
    obtain rfl : s = [] := List.length_eq_zero_iff.1 (by omega)
    rw [show widen n [] = [] from rfl, items_nil]; rfl
  | succ m ih =>
    intro s hs
    by_cases h : (32 : UInt8) ∈ s
    · obtain ⟨a, b, e, ha⟩ := first_32 h
      have hb : b.length ≤ m := by rw [e] at hs; simp at hs; omega
      have e1 : widen n s = a ++ 32 :: (tabs n ++ widen n b) := by
        rw [e, widen_app, widen_none ha]
        simp [widen]
      have e2 : items s = items a ++ (32, 1) :: items b := by rw [e]; exact items_app (c := 32) (by decide) b _ a (Nat.le_refl _)
      rw [e1, items_app (c := 32) (by decide) _ _ a (Nat.le_refl _), items_tabs, ih b hb, e2, blk_app, blk_none (no_32 _ a (Nat.le_refl _) ha)]
      simp [blk]
    · rw [widen_none h, blk_none (no_32 _ s (Nat.le_refl _) h)]
theorem mach_trep (js : List (Nat × Nat)) : ∀ (n p : Nat) (l : List Tok) (f : Nat) (t : List Int), mach (trep n ++ js) p l 1 f t = mach js (p + n) l 1 f t := by
  intro n
  induction n with
  | zero => intro p l f t; rfl
  | succ n ih =>
    intro p l f t
    have e : trep (n + 1) ++ js = (9, 1) :: (trep n ++ js) := by simp [trep, List.replicate_succ]
    have c := tab1
    rw [e, mach, if_pos c, if_neg (by omega), if_neg (by omega), if_neg (by omega), ih, Nat.add_assoc, Nat.add_comm 1]
theorem mach_blk (n : Nat) : ∀ (is : List (Nat × Nat)) (p p' : Nat) (l : List Tok) (k : Int) (f f' : Nat) (t : List Int), (mach (blk n is) p' l k f' t).1 = (mach is p l k f t).1 ∧ (mach (blk n is) p' l k f' t).2.2 = (mach is p l k f t).2.2 := by
  intro is
  induction is with
  | nil =>
    intro p p' l k f f' t
    rw [show blk n [] = [] from rfl, mach, mach]
    cases fin l k t with
    | none => exact ⟨rfl, rfl⟩
    | some l' => exact ⟨rfl, rfl⟩
  | cons x is ih =>
    obtain ⟨r, w⟩ := x
    intro p p' l k f f' t
    by_cases hr : r = 32
    · have e : blk n ((r, w) :: is) = (r, w) :: (trep n ++ blk n is) := by simp [blk, hr]
      have c : cls ((r : Nat) : Int) = 1 := by rw [hr]; exact blank1
      rw [e, mach, mach]
      by_cases ck : cls ((r : Nat) : Int) = k
      · rw [if_pos ck, if_pos ck, if_neg (by omega), if_neg (by omega), if_neg (by omega), if_neg (by omega), if_neg (by omega), if_neg (by omega), ← ck, c, mach_trep]
        exact ih _ _ _ _ _ _ _
      · rw [if_neg ck, if_neg ck]
        cases fin l k t with
        | none => exact ⟨rfl, rfl⟩
        | some l' =>
          dsimp only
          rw [if_neg (by omega), if_neg (by omega), if_neg (by omega), if_neg (by omega), if_neg (by omega), if_neg (by omega), c, mach_trep]
          exact ih _ _ _ _ _ _ _
    · have e : blk n ((r, w) :: is) = (r, w) :: blk n is := by simp [blk, hr]
      rw [e, mach, mach]
      by_cases c0 : cls (r : Int) = 0
      · simp only [if_pos c0]
        split
        · exact ⟨rfl, rfl⟩
        · cases fin l k t with
          | none => exact ⟨rfl, rfl⟩
          | some l' => exact ⟨rfl, rfl⟩
      · simp only [if_neg c0]
        by_cases ck : cls (r : Int) = k
        · simp only [if_pos ck]
          split
          · exact ih _ _ _ _ _ _ _
          · split
            · exact ih _ _ _ _ _ _ _
            · exact ih _ _ _ _ _ _ _
        · simp only [if_neg ck]
          cases fin l k t with
          | none => exact ⟨rfl, rfl⟩
          | some l' =>
            dsimp only
            split
            · exact ih _ _ _ _ _ _ _
            · split
              · exact ih _ _ _ _ _ _ _
              · exact ih _ _ _ _ _ _ _
theorem mach_tail (n : Nat) (is : List (Nat × Nat)) (p : Nat) (l : List Tok) (k : Int) (f : Nat) (t : List Int) : (mach (is ++ trep n) p l k f t).1 = (mach is p l k f t).1 ∧ (mach (is ++ trep n) p l k f t).2.2 = (mach is p l k f t).2.2 := by
  cases n with
  | zero => simp [trep]
  | succ n =>
    have e : is ++ trep (n + 1) = is ++ (9, 1) :: trep n := by simp [trep, List.replicate_succ]
    rw [e, mach_app tab1]
    by_cases h : (mach is p l k f t).2.2 = 0
    · rw [if_pos h, h]
      have := mach_trep [] n ((mach is p l k f t).2.1 + 1) (mach is p l k f t).1 0 []
      rw [List.append_nil] at this
      rw [this, mach, fin_neut (by omega)]
      exact ⟨rfl, rfl⟩
    · rw [if_neg h]; exact ⟨rfl, rfl⟩
/-- Blanks at the beginning, at the end, and more of them between. -/
theorem told_wide (n : Nat) (s : List UInt8) : (told (tabs n ++ widen n s ++ tabs n)).1 = (told s).1 ∧ (told (tabs n ++ widen n s ++ tabs n)).2.2 = (told s).2.2 := by
  have e : items (tabs n ++ widen n s ++ tabs n) = trep n ++ (blk n (items s) ++ trep n) := by
    rw [List.append_assoc, items_tabs, items_end, items_widen n _ s (Nat.le_refl _)]
  have h1 := mach_tail n (blk n (items s)) (0 + n) [] 1 0 []
  have h2 := mach_blk n (items s) 0 (0 + n) [] 1 0 0 []
  unfold told
  rw [e, neut2 _ 0 [] (k := 0) (k' := 1) 0 0 [] [] (by omega) (by omega), mach_trep, h1.1, h1.2, h2.1, h2.2, neut2 _ 0 [] (k := 0) (k' := 1) 0 0 [] [] (by omega) (by omega)]
  exact ⟨rfl, rfl⟩
end Go.Det.E
