/- Scanning: tokens put together. No program in sight. -/
import Derived.Test.YthhlflpeibdfmaaDoorQK
set_option autoImplicit false
set_option linter.unusedVariables false
set_option linter.unusedSimpArgs false
namespace Go.Det.E
open Go.Proofs Go.Det
open Go.Lib (decodeL)
def tot (l : List Tok) : Nat := (l.map fun t => (tx t).length + 1).sum
theorem tot_app (a b : List Tok) : tot (a ++ b) = tot a + tot b := by simp [tot]
theorem tot_one (t : Tok) : tot [t] = (tx t).length + 1 := by simp [tot]
/-- What is there of a row. -/
def Pend (k : Int) (t : List Int) : Prop := k = 2 ∨ k = 3 → ∃ ts, Row k ts ∧ t = rns ts
def pend (k : Int) (t : List Int) : Nat := if k = 2 ∨ k = 3 then (encs t).length + 1 else 0
theorem fin_good {l l' : List Tok} {k : Int} {t : List Int} (h : fin l k t = some l') (hl : ∀ x ∈ l, Good x) (hp : Pend k t) : (∀ x ∈ l', Good x) ∧ tot l' ≤ tot l + pend k t := by
  unfold fin at h
  by_cases k2 : k = 2
  · rw [if_pos k2] at h
    obtain ⟨ts, hr, rfl⟩ := hp (.inl k2)
    subst k2
    by_cases hb : bad (rns ts) = true
    · rw [if_pos hb] at h; cases h
    · rw [if_neg hb] at h; cases h
      have hb' : bad (rns ts) = false := by simpa using hb
      have g : Good (.n (val (rns ts))) := ⟨ts, hr, hb', rfl⟩
      have hne : rns ts ≠ [] := fun q => hr.1 (List.map_eq_nil_iff.1 q)
      have e := dig_text hne (row_dig hr) hb'
      refine ⟨fun x hx => ?_, ?_⟩
      · rcases List.mem_append.1 hx with q | q
        · exact hl x q
        · rw [List.mem_singleton.1 q]; exact g
      · rw [tot_app, tot_one]
        show _ + ((Lib.itoa _).length + 1) ≤ _
        rw [e.1]
        unfold pend
        rw [if_pos (.inl rfl)]
        exact Nat.le_refl _
  · rw [if_neg k2] at h
    by_cases k3 : k = 3
    · rw [if_pos k3] at h; cases h
      obtain ⟨ts, hr, rfl⟩ := hp (.inr k3)
      subst k3
      refine ⟨fun x hx => ?_, ?_⟩
      · rcases List.mem_append.1 hx with q | q
        · exact hl x q
        · rw [List.mem_singleton.1 q]; exact ⟨ts, hr, rfl⟩
      · rw [tot_app, tot_one]
        unfold pend
        rw [if_pos (.inr rfl)]
        exact Nat.le_refl _
    · rw [if_neg k3] at h; cases h
      exact ⟨hl, Nat.le_add_right _ _⟩
theorem enc_w {r w : Nat} (hx : Dec (r, w)) (hc : cls (r : Int) ≠ 0) : (encs [(r : Int)]).length = w := (dec_enc hx hc []).1
theorem mach_good : ∀ (is : List (Nat × Nat)) (p : Nat) (l : List Tok) (k : Int) (f : Nat) (t : List Int), (∀ x ∈ is, Dec x) → (∀ x ∈ l, Good x) → Pend k t →
    (∀ x ∈ (mach is p l k f t).1, Good x) ∧ tot (mach is p l k f t).1 ≤ tot l + pend k t + (wid is + is.length) := by
  intro is
  induction is with
  | nil =>
    intro p l k f t _ hl hp
    rw [mach]
    cases hf : fin l k t with
    | none => exact ⟨fun x hx => (by cases hx), Nat.zero_le _⟩
    | some l' =>
      have := fin_good hf hl hp
      exact ⟨this.1, Nat.le_trans this.2 (Nat.le_add_right _ _)⟩
  | cons y is ih =>
    obtain ⟨r, w⟩ := y
    intro p l k f t his hl hp
    have hd : Dec (r, w) := his (r, w) (List.mem_cons_self ..)
    have his' : ∀ x ∈ is, Dec x := fun x hx => his x (List.mem_cons_of_mem _ hx)
    rw [mach, wid_cons, List.length_cons]
    by_cases c0 : cls (r : Int) = 0
    · simp only [if_pos c0]
      have e : ∀ q : Nat, (∀ x ∈ (([], q, 40) : List Tok × Nat × Int).1, Good x) ∧ tot (([], q, 40) : List Tok × Nat × Int).1 ≤ tot l + pend k t + ((r, w).2 + wid is + (is.length + 1)) := fun q => ⟨fun x hx => (by cases hx), Nat.zero_le _⟩
      split
      · exact e p
      · cases fin l k t with
        | none => exact ⟨fun x hx => (by cases hx), Nat.zero_le _⟩
        | some l' => exact e p
    · simp only [if_neg c0]
      have ew := enc_w hd c0
      have sg : ∀ l : List Tok, (∀ x ∈ l, Good x) → cls (r : Int) = 4 → (∀ x ∈ l ++ [.c (r : Int)], Good x) ∧ tot (l ++ [.c (r : Int)]) = tot l + (w + 1) := fun l hl h4 => by
        refine ⟨fun x hx => ?_, ?_⟩
        · rcases List.mem_append.1 hx with q | q
          · exact hl x q
          · rw [List.mem_singleton.1 q]; exact ⟨(r, w), hd, h4, rfl⟩
        · rw [tot_app, tot_one]
          show _ + ((encs [(r : Int)]).length + 1) = _
          rw [ew]
      by_cases ck : cls (r : Int) = k
      · simp only [if_pos ck]
        by_cases c4 : cls (r : Int) = 4
        · rw [if_pos c4]
          have hs := sg l hl c4
          have := ih (p + w) (l ++ [.c (r : Int)]) k f t his' hs.1 hp
          refine ⟨this.1, ?_⟩
          rw [hs.2] at this
          have := this.2
          show _ ≤ tot l + pend k t + (w + wid is + (is.length + 1))
          omega
        · rw [if_neg c4]
          by_cases c23 : cls (r : Int) = 2 ∨ cls (r : Int) = 3
          · rw [if_pos c23]
            have hp' : Pend k (t ++ [(r : Int)]) := fun hk => by
              obtain ⟨ts, hr, rfl⟩ := hp hk
              refine ⟨ts ++ [(r, w)], ⟨by simp, fun x hx => ?_⟩, by simp [rns]⟩
              rcases List.mem_append.1 hx with q | q
              · exact hr.2 x q
              · rw [List.mem_singleton.1 q]; exact ⟨hd, ck⟩
            have := ih (p + w) l k f (t ++ [(r : Int)]) his' hl hp'
            refine ⟨this.1, ?_⟩
            have e : pend k (t ++ [(r : Int)]) = pend k t + w := by
              unfold pend
              rw [if_pos (by rw [← ck]; exact c23), if_pos (by rw [← ck]; exact c23), encs_app, List.length_append, ew]; omega
            have := this.2
            show _ ≤ tot l + pend k t + (w + wid is + (is.length + 1))
            omega
          · rw [if_neg c23]
            have := ih (p + w) l k f t his' hl hp
            refine ⟨this.1, ?_⟩
            have := this.2
            show _ ≤ tot l + pend k t + (w + wid is + (is.length + 1))
            omega
      · simp only [if_neg ck]
        cases hf : fin l k t with
        | none => exact ⟨fun x hx => (by cases hx), Nat.zero_le _⟩
        | some l' =>
          have hg := fin_good hf hl hp
          dsimp only
          by_cases c4 : cls (r : Int) = 4
          · rw [if_pos c4]
            have hs := sg l' hg.1 c4
            have := ih (p + w) (l' ++ [.c (r : Int)]) (cls r) p [] his' hs.1 (fun hk => by omega)
            refine ⟨this.1, ?_⟩
            have e : pend (cls (r : Int)) [] = 0 := by unfold pend; rw [if_neg (by omega)]
            rw [hs.2, e] at this
            have := this.2
            have := hg.2
            omega
          · rw [if_neg c4]
            by_cases c23 : cls (r : Int) = 2 ∨ cls (r : Int) = 3
            · rw [if_pos c23]
              have hp' : Pend (cls (r : Int)) [(r : Int)] := fun hk => ⟨[(r, w)], ⟨by simp, fun x hx => by rw [List.mem_singleton.1 hx]; exact ⟨hd, rfl⟩⟩, rfl⟩
              have := ih (p + w) l' (cls r) p [(r : Int)] his' hg.1 hp'
              refine ⟨this.1, ?_⟩
              have e : pend (cls (r : Int)) [(r : Int)] = w + 1 := by unfold pend; rw [if_pos c23, ew]
              rw [e] at this
              have := this.2
              have := hg.2
              omega
            · rw [if_neg c23]
              have := ih (p + w) l' (cls r) p [] his' hg.1 (fun hk => absurd hk c23)
              refine ⟨this.1, ?_⟩
              have e : pend (cls (r : Int)) [] = 0 := by unfold pend; rw [if_neg c23]
              rw [e] at this
              have := this.2
              have := hg.2
              omega
theorem told_good (l : List UInt8) : (∀ x ∈ (told l).1, Good x) ∧ tot (told l).1 ≤ 2 * l.length := by
  have := mach_good (items l) 0 [] 0 0 [] (items_dec _ l (Nat.le_refl _)) (fun x hx => by cases hx) (fun hk => by omega)
  refine ⟨this.1, ?_⟩
  have h1 := wid_items _ l (Nat.le_refl _)
  have h2 := (items_ok _ l (Nat.le_refl _)).2
  have e : pend 0 [] = 0 := by unfold pend; rw [if_neg (by omega)]
  have e2 : tot [] = 0 := rfl
  have := this.2
  rw [e, e2] at this
  unfold told
  omega
/-- Tokens' texts, joined. -/
def jn (l : List Tok) : List UInt8 := Lib.join (l.map tx) [32]
theorem jn_cons (t u : Tok) (l : List Tok) : jn (t :: u :: l) = tx t ++ 32 :: jn (u :: l) := by
  unfold jn
  rw [List.map_cons, List.map_cons, Lib.join_cons, Lib.join_cons]
  simp [Lib.joinTail]
theorem jn_len : ∀ (l : List Tok), (jn l).length ≤ tot l := by
  intro l
  induction l with
  | nil => exact Nat.zero_le _
  | cons t l ih =>
    cases l with
    | nil =>
      unfold jn
      rw [List.map_cons, List.map_nil, Lib.join_one, tot_one]; omega
    | cons u l =>
      have e : tot (t :: u :: l) = tot [t] + tot (u :: l) := tot_app [t] (u :: l)
      rw [jn_cons, e, tot_one, List.length_append, List.length_cons]; omega
theorem jn_mach : ∀ (l : List Tok), (∀ x ∈ l, Good x) → ∀ (p : Nat) (L : List Tok) (f : Nat), mach (items (jn l)) p L 1 f [] = (L ++ l, p + (jn l).length, 0) := by
  intro l
  induction l with
  | nil =>
    intro _ p L f
    show mach (items []) p L 1 f [] = _
    rw [items_nil, mach, fin_neut (by omega), List.append_nil]; rfl
  | cons t l ih =>
    intro hg p L f
    have ht := hg t (List.mem_cons_self ..)
    cases l with
    | nil =>
      have e : jn [t] = tx t := by unfold jn; rw [List.map_cons, List.map_nil, Lib.join_one]
      rw [e]; exact good_mach ht p L f
    | cons u l =>
      have := ih (fun x hx => hg x (List.mem_cons_of_mem _ hx)) (p + (tx t).length + 1) (L ++ [t]) 0
      rw [jn_cons, items_app (c := 32) (by decide) _ _ (tx t) (Nat.le_refl _)]
      have e1 : ((32 : UInt8).toNat, 1) = ((32, 1) : Nat × Nat) := rfl
      rw [e1, mach_app blank1, good_mach ht p L f]
      dsimp only
      rw [if_pos rfl, this, List.append_assoc]
      have e2 : p + (tx t).length + 1 + (jn (u :: l)).length = p + (tx t ++ 32 :: jn (u :: l)).length := by rw [List.length_append, List.length_cons]; omega
      rw [e2]; rfl
theorem told_jn {l : List Tok} (h : ∀ x ∈ l, Good x) : told (jn l) = (l, (jn l).length, 0) := by
  have := jn_mach l h 0 [] 0
  rw [Nat.zero_add, List.nil_append] at this
  unfold told
  rw [neut2 _ 0 [] (k := 0) (k' := 1) 0 0 [] [] (by omega) (by omega)]
  exact this
end Go.Det.E
