/- Scanning: what tokens are told as. No program in sight. -/
import Derived.Test.YthhlflpeibdfmaaDoorQI
import Derived.Lib.Join
set_option autoImplicit false
set_option linter.unusedVariables false
set_option linter.unusedSimpArgs false
namespace Go.Det.E
open Go.Proofs Go.Det
open Go.Lib (decodeL)
/-- It was read from somewhere. -/
def Dec (x : Nat × Nat) : Prop := ∃ l : List UInt8, l ≠ [] ∧ decodeL l = x
theorem items_dec : ∀ (n : Nat) (l : List UInt8), l.length ≤ n → ∀ x ∈ items l, Dec x := by
  intro n
  induction n with
  | zero =>
    intro l hl x hx
    obtain rfl : l = [] := List.length_eq_zero_iff.1 (by omega)
    rw [items_nil] at hx; cases hx
  | succ n ih =>
    intro l hl x hx
    by_cases hne : l = []
    · rw [hne, items_nil] at hx; cases hx
    · rw [items_cons hne] at hx
      rcases List.mem_cons.1 hx with rfl | hx
      · exact ⟨l, hne, rfl⟩
      · have h1 := Lib.decodeL_width l
        have h2 := List.length_pos_iff.2 hne
        exact ih _ (by rw [List.length_drop]; omega) x hx
/-- The bytes of a rune tell the rune, whatever is behind them. -/
theorem dec_pre {l : List UInt8} (hne : l ≠ []) (hc : cls ((decodeL l).1 : Int) ≠ 0) (rest : List UInt8) : decodeL (l.take (decodeL l).2 ++ rest) = decodeL l := by
  have lt : ∀ (l : List UInt8) i, (l.getD i 0).toNat < 256 := fun l i => (l.getD i 0).toNat_lt
  have hw := Lib.decodeL_le l hne
  obtain ⟨w, ew⟩ : ∃ w, w = (decodeL l).2 := ⟨_, rfl⟩
  rw [← ew] at hw ⊢
  obtain ⟨m, em⟩ : ∃ m, m = l.take w ++ rest := ⟨_, rfl⟩
  have ml : w ≤ m.length := by rw [em, List.length_append, List.length_take]; omega
  have old : ∀ i, i < w → m.getD i 0 = l.getD i 0 := fun i hi => by
    rw [em, List.getD_eq_getElem?_getD, List.getD_eq_getElem?_getD, List.getElem?_append_left (by rw [List.length_take]; omega), List.getElem?_take, if_pos hi]
  rw [← em]
  have d1 := dn l.length _ _ _ _ (lt l 0) (lt l 1) (lt l 2) (lt l 3)
  rw [← Lib.decodeL_N] at d1
  rw [Lib.decodeL_N m, dn _ _ _ _ _ (lt _ _) (lt _ _) (lt _ _) (lt _ _)]
  by_cases c0 : (l.getD 0 0).toNat < 128
  · rw [if_pos c0] at d1
    have : w = 1 := by rw [ew, d1]
    rw [old 0 (by omega), if_pos c0, d1]
  rw [if_neg c0] at d1
  by_cases c1 : (194 ≤ (l.getD 0 0).toNat ∧ (l.getD 0 0).toNat ≤ 223) ∧ (1 < l.length ∧ 128 ≤ (l.getD 1 0).toNat ∧ (l.getD 1 0).toNat ≤ 191)
  · rw [if_pos c1] at d1
    have : w = 2 := by rw [ew, d1]
    rw [old 0 (by omega), old 1 (by omega), if_neg c0, if_pos ⟨c1.1, by omega, c1.2.2⟩, d1]
  rw [if_neg c1] at d1
  unfold d34 at d1
  by_cases c2 : (224 ≤ (l.getD 0 0).toNat ∧ (l.getD 0 0).toNat ≤ 239) ∧ (1 < l.length ∧ (if (l.getD 0 0).toNat = 224 then 160 else 128) ≤ (l.getD 1 0).toNat ∧ (l.getD 1 0).toNat ≤ (if (l.getD 0 0).toNat = 237 then 159 else 191)) ∧ (2 < l.length ∧ 128 ≤ (l.getD 2 0).toNat ∧ (l.getD 2 0).toNat ≤ 191)
  · rw [if_pos c2] at d1
    have : w = 3 := by rw [ew, d1]
    rw [old 0 (by omega), old 1 (by omega), old 2 (by omega), if_neg c0, if_neg (by omega)]
    unfold d34
    rw [if_pos ⟨c2.1, ⟨by omega, c2.2.1.2⟩, by omega, c2.2.2.2⟩, d1]
  rw [if_neg c2] at d1
  by_cases c3 : (240 ≤ (l.getD 0 0).toNat ∧ (l.getD 0 0).toNat ≤ 244) ∧ (1 < l.length ∧ (if (l.getD 0 0).toNat = 240 then 144 else 128) ≤ (l.getD 1 0).toNat ∧ (l.getD 1 0).toNat ≤ (if (l.getD 0 0).toNat = 244 then 143 else 191)) ∧ (2 < l.length ∧ 128 ≤ (l.getD 2 0).toNat ∧ (l.getD 2 0).toNat ≤ 191) ∧ (3 < l.length ∧ 128 ≤ (l.getD 3 0).toNat ∧ (l.getD 3 0).toNat ≤ 191)
  · rw [if_pos c3] at d1
    have : w = 4 := by rw [ew, d1]
    rw [old 0 (by omega), old 1 (by omega), old 2 (by omega), old 3 (by omega), if_neg c0, if_neg (by omega)]
    unfold d34
    rw [if_neg (by omega), if_pos ⟨c3.1, ⟨by omega, c3.2.1.2⟩, ⟨by omega, c3.2.2.1.2⟩, by omega, c3.2.2.2.2⟩, d1]
  rw [if_neg c3] at d1
  exact absurd (by rw [d1]; exact cls_bad) hc
theorem dec_enc {x : Nat × Nat} (hx : Dec x) (hc : cls (x.1 : Int) ≠ 0) (rest : List UInt8) : (encs [(x.1 : Int)]).length = x.2 ∧ 1 ≤ x.2 ∧ decodeL (encs [(x.1 : Int)] ++ rest) = x := by
  obtain ⟨l, hne, rfl⟩ := hx
  have hw := Lib.decodeL_le l hne
  rw [enc_back hne hc]
  exact ⟨by rw [List.length_take]; omega, Lib.decodeL_width l, dec_pre hne hc rest⟩
/-- Runes' bytes tell the runes. -/
theorem items_encs : ∀ (ts : List (Nat × Nat)), (∀ x ∈ ts, Dec x ∧ cls (x.1 : Int) ≠ 0) → items (encs (rns ts)) = ts ∧ (encs (rns ts)).length = wid ts := by
  intro ts
  induction ts with
  | nil => intro _; exact ⟨items_nil, rfl⟩
  | cons x ts ih =>
    intro h
    have hx := h x (List.mem_cons_self ..)
    obtain ⟨i1, i2⟩ := ih fun y hy => h y (List.mem_cons_of_mem _ hy)
    obtain ⟨e1, e2, e3⟩ := dec_enc hx.1 hx.2 (encs (rns ts))
    have e : encs (rns (x :: ts)) = encs [(x.1 : Int)] ++ encs (rns ts) := encs_app [(x.1 : Int)] (rns ts)
    have hne : encs [(x.1 : Int)] ++ encs (rns ts) ≠ [] := by
      intro q
      have := congrArg List.length q
      rw [List.length_append, e1] at this
      simp at this; omega
    rw [e, items_cons hne, e3]
    refine ⟨?_, by rw [List.length_append, e1, i2, wid_cons]⟩
    have : (encs [(x.1 : Int)] ++ encs (rns ts)).drop x.2 = encs (rns ts) := by rw [← e1, List.drop_left]
    rw [this, i1]
/-- A row of runes of a kind. -/
def Row (k : Int) (ts : List (Nat × Nat)) : Prop := ts ≠ [] ∧ ∀ x ∈ ts, Dec x ∧ cls (x.1 : Int) = k
def Good : Tok → Prop
  | .n v => ∃ ts, Row 2 ts ∧ bad (rns ts) = false ∧ v = val (rns ts)
  | .s b => ∃ ts, Row 3 ts ∧ b = encs (rns ts)
  | .c r => ∃ x : Nat × Nat, Dec x ∧ cls (x.1 : Int) = 4 ∧ r = (x.1 : Int)
/-- A token's text. -/
def tx : Tok → List UInt8
  | .n v => Lib.itoa v
  | .s b => b
  | .c r => encs [r]
theorem row_dig {ts : List (Nat × Nat)} (h : Row 2 ts) : ∀ r ∈ rns ts, 48 ≤ r ∧ r ≤ 57 := by
  intro r hr
  obtain ⟨x, hx, rfl⟩ := List.mem_map.1 hr
  exact cls2 (h.2 x hx).2
theorem dig_big : ∀ (n : Nat) (t : List Int), t.length ≤ n → (∀ r ∈ t, 48 ≤ r ∧ r ≤ 57) → (∃ r, t.head? = some r ∧ r ≠ 48) → 1 ≤ val t ∧ Lib.decDigits (val t).toNat = encs t := by
  intro n
  induction n with
  | zero =>
    intro t hn _ ⟨r, hr, _⟩
    obtain rfl : t = [] := List.length_eq_zero_iff.1 (by omega)
    cases hr
  | succ n ih =>
    intro t hn hd ⟨r, hr, h48⟩
    rcases List.eq_nil_or_concat t with rfl | ⟨u, d, rfl⟩
    · cases hr
    · rw [List.concat_eq_append] at hn hd hr ⊢
      have hdd := hd d (by simp)
      have ed : encs [d] = [UInt8.ofNat d.toNat] := by rw [encs_one, enc_dig hdd]
      cases u with
      | nil =>
        simp at hr
        subst hr
        have v1 : val ([] ++ [d]) = d - 48 := by rw [val_snoc]; simp [val]
        refine ⟨by omega, ?_⟩
        rw [v1, Lib.decDigits, dif_pos (by omega), List.nil_append, ed]
        congr 2; omega
      | cons x u =>
        simp at hr
        subst hr
        have := ih (x :: u) (by simp at hn ⊢; omega) (fun y hy => hd y (List.mem_append_left _ hy)) ⟨x, rfl, h48⟩
        have v1 : val (x :: u ++ [d]) = 10 * val (x :: u) + (d - 48) := val_snoc _ _
        refine ⟨by omega, ?_⟩
        have q1 : (val (x :: u ++ [d])).toNat / 10 = (val (x :: u)).toNat := by omega
        have q2 : 48 + (val (x :: u ++ [d])).toNat % 10 = d.toNat := by omega
        rw [Lib.decDigits, dif_neg (by omega), q1, q2, this.2, encs_app, ed]
theorem dig_text {t : List Int} (hne : t ≠ []) (hd : ∀ r ∈ t, 48 ≤ r ∧ r ≤ 57) (hb : bad t = false) : Lib.itoa (val t) = encs t ∧ 0 ≤ val t ∧ val t < 1000000000 := by
  have hl9 : t.length ≤ 9 := by
    unfold bad at hb
    rw [Bool.or_eq_false_iff] at hb
    have := of_decide_eq_false hb.1
    omega
  have v := val_take hd hl9 t.length
  rw [List.take_length] at v
  refine ⟨?_, v⟩
  unfold Lib.itoa
  rw [if_neg (by omega)]
  cases t with
  | nil => exact absurd rfl hne
  | cons x u =>
    by_cases h48 : x = 48
    · have : u = [] := by
        unfold bad at hb
        rw [Bool.or_eq_false_iff] at hb
        have := hb.2
        rw [h48] at this
        simp at this
        exact this
      subst this; subst h48
      have e : val [(48 : Int)] = 0 := rfl
      rw [e, Lib.decDigits, dif_pos (by decide), encs_one, enc_dig (by decide)]
      rfl
    · exact (dig_big _ (x :: u) (Nat.le_refl _) hd ⟨x, rfl, h48⟩).2
theorem run_one {k : Int} (hk : k = 2 ∨ k = 3) {ts : List (Nat × Nat)} (h : Row k ts) (p : Nat) (l : List Tok) (f : Nat) : mach ts p l 1 f [] = (match fin l k (rns ts) with | none => ([], p, 41) | some l' => (l', p + wid ts, 0)) := by
  obtain ⟨hne, hall⟩ := h
  cases ts with
  | nil => exact absurd rfl hne
  | cons x ts =>
    obtain ⟨r, w⟩ := x
    have hr : cls (r : Int) = k := (hall (r, w) (List.mem_cons_self ..)).2
    have := mach_run hk (rest := []) (.inl rfl) ts (p + w) l p [(r : Int)] fun y hy => (hall y (List.mem_cons_of_mem _ hy)).2
    rw [List.append_nil] at this
    rw [mach, if_neg (by omega), fin_neut (by omega)]
    simp only [hr]
    rw [if_neg (by omega), if_neg (by omega), if_pos hk, this]
    have e : [(r : Int)] ++ rns ts = rns ((r, w) :: ts) := rfl
    rw [e, wid_cons, ← Nat.add_assoc]
    cases fin l k (rns ((r, w) :: ts)) with
    | none => rfl
    | some l' =>
      dsimp only
      rw [mach, fin_neut (by omega)]
/-- A token's text is told as the token. -/
theorem good_mach {t : Tok} (h : Good t) (p : Nat) (l : List Tok) (f : Nat) : mach (items (tx t)) p l 1 f [] = (l ++ [t], p + (tx t).length, 0) := by
  cases t with
  | n v =>
    obtain ⟨ts, hr, hb, rfl⟩ := h
    have hne : rns ts ≠ [] := fun q => hr.1 (List.map_eq_nil_iff.1 q)
    have e := dig_text hne (row_dig hr) hb
    obtain ⟨i1, i2⟩ := items_encs ts fun x hx => ⟨(hr.2 x hx).1, by rw [(hr.2 x hx).2]; decide⟩
    show mach (items (Lib.itoa _)) p l 1 f [] = (_, p + (Lib.itoa _).length, 0)
    rw [e.1, i1, i2, run_one (.inl rfl) hr]
    have ef : fin l 2 (rns ts) = some (l ++ [.n (val (rns ts))]) := by unfold fin; rw [if_pos rfl, hb]; rfl
    rw [ef]
  | s b =>
    obtain ⟨ts, hr, rfl⟩ := h
    obtain ⟨i1, i2⟩ := items_encs ts fun x hx => ⟨(hr.2 x hx).1, by rw [(hr.2 x hx).2]; decide⟩
    show mach (items (encs (rns ts))) p l 1 f [] = (_, p + (encs (rns ts)).length, 0)
    rw [i1, i2, run_one (.inr rfl) hr]
    rfl
  | c r =>
    obtain ⟨x, hx, hc, rfl⟩ := h
    obtain ⟨i1, i2⟩ := items_encs [x] fun y hy => by rw [List.mem_singleton.1 hy]; exact ⟨hx, by rw [hc]; decide⟩
    show mach (items (encs (rns [x]))) p l 1 f [] = (_, p + (encs (rns [x])).length, 0)
    obtain ⟨r, w⟩ := x
    have hc' : cls (r : Int) = 4 := hc
    rw [i1, i2, mach, if_neg (by omega), fin_neut (by omega)]
    simp only [hc']
    rw [if_neg (by omega), if_pos trivial, mach, fin_neut (by omega)]
    simp [wid]
/-- The digits of a number. -/
def dgs (n : Nat) : List (Nat × Nat) := (Lib.decDigits n).map fun b => (b.toNat, 1)
theorem dec_asc {c : UInt8} (hc : c.toNat < 128) : Dec (c.toNat, 1) := ⟨[c], by simp, Lib.decodeL_ascii c [] hc⟩
theorem dgs_ok : ∀ (n : Nat), dgs n ≠ [] ∧ (∀ x ∈ dgs n, Dec x ∧ cls (x.1 : Int) = 2) ∧ val (rns (dgs n)) = (n : Int) ∧ (1 ≤ n → ∃ r, (rns (dgs n)).head? = some r ∧ r ≠ 48) := by
  intro n
  induction n using Nat.strongRecOn with
  | _ n ih =>
    have one : ∀ d : Nat, d < 10 → Dec ((UInt8.ofNat (48 + d)).toNat, 1) ∧ cls (((UInt8.ofNat (48 + d)).toNat : Nat) : Int) = 2 ∧ (((UInt8.ofNat (48 + d)).toNat : Nat) : Int) = 48 + (d : Int) := by
      intro d hd
      have e : (UInt8.ofNat (48 + d)).toNat = 48 + d := by rw [UInt8.toNat_ofNat']; omega
      refine ⟨dec_asc (by omega), ?_, by omega⟩
      rw [e]
      unfold cls
      rw [if_neg (by omega), if_pos (by omega)]
    by_cases h10 : n < 10
    · have e : dgs n = [((UInt8.ofNat (48 + n)).toNat, 1)] := by unfold dgs; rw [Lib.decDigits, dif_pos h10]; rfl
      obtain ⟨o1, o2, o3⟩ := one n h10
      rw [e]
      refine ⟨by simp, fun x hx => by rw [List.mem_singleton.1 hx]; exact ⟨o1, o2⟩, ?_, fun h1 => ⟨_, rfl, by show (((UInt8.ofNat (48 + n)).toNat : Nat) : Int) ≠ 48; omega⟩⟩
      have : val (rns [((UInt8.ofNat (48 + n)).toNat, 1)]) = 10 * 0 + ((((UInt8.ofNat (48 + n)).toNat : Nat) : Int) - 48) := rfl
      rw [this, o3]; omega
    · have e : dgs n = dgs (n / 10) ++ [((UInt8.ofNat (48 + n % 10)).toNat, 1)] := by unfold dgs; rw [Lib.decDigits, dif_neg h10, List.map_append]; rfl
      obtain ⟨o1, o2, o3⟩ := one (n % 10) (by omega)
      obtain ⟨i1, i2, i3, i4⟩ := ih (n / 10) (by omega)
      have er : rns (dgs n) = rns (dgs (n / 10)) ++ [(((UInt8.ofNat (48 + n % 10)).toNat : Nat) : Int)] := by rw [e]; simp [rns]
      refine ⟨by rw [e]; simp, fun x hx => ?_, by rw [er, val_snoc, i3, o3]; omega, fun _ => ?_⟩
      · rw [e] at hx
        rcases List.mem_append.1 hx with q | q
        · exact i2 x q
        · rw [List.mem_singleton.1 q]; exact ⟨o1, o2⟩
      · obtain ⟨r, h1, h2⟩ := i4 (by omega)
        refine ⟨r, ?_, h2⟩
        rw [er]
        cases hq : rns (dgs (n / 10)) with
        | nil => rw [hq] at h1; cases h1
        | cons y ys => rw [hq] at h1; exact h1
theorem dgs_len : ∀ (k n : Nat), n < 10 ^ (k + 1) → (dgs n).length ≤ k + 1 := by
  intro k
  induction k with
  | zero =>
    intro n hn
    have : dgs n = [((UInt8.ofNat (48 + n)).toNat, 1)] := by unfold dgs; rw [Lib.decDigits, dif_pos (by simpa using hn)]; rfl
    rw [this]; simp
  | succ k ih =>
    intro n hn
    by_cases h10 : n < 10
    · have : dgs n = [((UInt8.ofNat (48 + n)).toNat, 1)] := by unfold dgs; rw [Lib.decDigits, dif_pos h10]; rfl
      rw [this]; simp
    · have e : dgs n = dgs (n / 10) ++ [((UInt8.ofNat (48 + n % 10)).toNat, 1)] := by unfold dgs; rw [Lib.decDigits, dif_neg h10, List.map_append]; rfl
      have := ih (n / 10) (by rw [Nat.pow_succ] at hn; omega)
      rw [e, List.length_append]; simp; omega
theorem num_good {n : Nat} (hn : n ≤ 999999999) : Good (.n (n : Int)) ∧ ∃ ts, Row 2 ts ∧ bad (rns ts) = false ∧ (n : Int) = val (rns ts) := by
  obtain ⟨h1, h2, h3, h4⟩ := dgs_ok n
  have hl : (rns (dgs n)).length ≤ 9 := by
    have := dgs_len 8 n (by have : (10 : Nat) ^ 9 = 1000000000 := by decide
                            omega)
    simpa [rns] using this
  have hb : bad (rns (dgs n)) = false := by
    unfold bad
    rw [decide_eq_false (show ¬ 9 < (rns (dgs n)).length by omega)]
    by_cases h1 : 1 ≤ n
    · obtain ⟨r, e1, e2⟩ := h4 h1
      rw [e1]; simp [e2]
    · have : dgs n = [((UInt8.ofNat (48 + n)).toNat, 1)] := by unfold dgs; rw [Lib.decDigits, dif_pos (by omega)]; rfl
      rw [this]; rfl
  exact ⟨⟨dgs n, ⟨h1, h2⟩, hb, h3.symm⟩, dgs n, ⟨h1, h2⟩, hb, h3.symm⟩
theorem told_num {n : Nat} (hn : n ≤ 999999999) : told (Lib.itoa (n : Int)) = ([.n (n : Int)], (Lib.itoa (n : Int)).length, 0) := by
  have := good_mach (num_good hn).1 0 [] 0
  rw [Nat.zero_add, List.nil_append] at this
  unfold told
  rw [neut2 _ 0 [] (k := 0) (k' := 1) 0 0 [] [] (by omega) (by omega)]
  exact this
/-- With a nought ahead. -/
theorem told_bad {n : Nat} (hn : n ≤ 999999999) : told ([120, 32, 48] ++ Lib.itoa (n : Int)) = ([], 2, 41) := by
  obtain ⟨_, ts, hr, hb, hv⟩ := num_good hn
  have hne : rns ts ≠ [] := fun q => hr.1 (List.map_eq_nil_iff.1 q)
  have e := dig_text hne (row_dig hr) hb
  obtain ⟨i1, i2⟩ := items_encs ts fun x hx => ⟨(hr.2 x hx).1, by rw [(hr.2 x hx).2]; decide⟩
  have c1 : cls ((120 : Nat) : Int) = 3 := by decide
  have c3 : cls ((48 : Nat) : Int) = 2 := by decide
  have ei : items ([120, 32, 48] ++ Lib.itoa (n : Int)) = (120, 1) :: (32, 1) :: (48, 1) :: ts := by
    rw [hv, e.1]
    show items (120 :: 32 :: 48 :: encs (rns ts)) = _
    rw [items_asc (by decide), items_asc (by decide), items_asc (by decide), i1]; rfl
  have mr := mach_run (.inl rfl) (rest := []) (k := 2) (.inl rfl) ts (2 + 1) [.s (encs [120])] 2 [48] fun y hy => (hr.2 y hy).2
  rw [List.append_nil] at mr
  have bb : bad ([48] ++ rns ts) = true := by
    cases hq : rns ts with
    | nil => exact absurd hq hne
    | cons y ys => simp [bad]
  have ef : fin [.s (encs [120])] 2 ([48] ++ rns ts) = none := by unfold fin; rw [if_pos rfl, bb]; rfl
  rw [ef] at mr
  unfold told
  rw [ei, mach, c1, if_neg (by decide), fin_neut (by omega)]
  dsimp only
  rw [if_neg (by decide), if_neg (by decide), if_pos (by decide), mach, blank1, if_neg (by decide)]
  have f3 : fin [] 3 [((120 : Nat) : Int)] = some [.s (encs [120])] := rfl
  rw [f3]
  dsimp only
  rw [if_neg (by decide), if_neg (by decide), if_neg (by decide), mach, c3, if_neg (by decide), fin_neut (by omega)]
  dsimp only
  rw [if_neg (by decide), if_neg (by decide), if_pos (by decide)]
  exact mr
end Go.Det.E
