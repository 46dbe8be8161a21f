/- Tours with no program in sight: places in a row; nodes of a level; what is right of a level's rows. -/
import Derived.Test.YtodeenahpoobkaaQ3
set_option autoImplicit false
set_option linter.unusedVariables false
set_option linter.unusedSimpArgs false
namespace Go.Det.E
open Go.Proofs Go.Det Go.Det.U
variable {V S T : Int} {r A B P I Q : List Int} {c d x y t k : Int} {i j m n : Nat}
theorem idx_l (h : x ∈ A) : (A ++ B).idxOf x = A.idxOf x := by rw [List.idxOf_append, if_pos h]
theorem idx_r (h : x ∉ A) : (A ++ B).idxOf x = A.length + B.idxOf x := by rw [List.idxOf_append, if_neg h, Nat.add_comm]
theorem idx_lt (h : x ∈ A) : A.idxOf x < A.length := List.idxOf_lt_length_iff.2 h
theorem idx_at (h : x ∈ A) : A[A.idxOf x]? = some x := by
  have hl := idx_lt h
  rw [List.getElem?_eq_getElem hl]
  congr 1
  exact List.getElem_idxOf hl
theorem idx_ne (h : x ∈ A) (hne : x ≠ y) : A.idxOf x ≠ A.idxOf y := by
  intro e
  have h1 := idx_at h
  by_cases hy : y ∈ A
  · have h2 := idx_at hy
    rw [e, h2] at h1
    exact hne (Option.some.inj h1).symm
  · have := idx_lt h
    have := List.idxOf_eq_length hy
    omega
/-- Between two others. -/
def btw (r : List Int) (c d x : Int) : Prop := (r.idxOf c < r.idxOf x ∧ r.idxOf x < r.idxOf d) ∨ (r.idxOf d < r.idxOf x ∧ r.idxOf x < r.idxOf c)
/-- A row that begins elsewhere: what is between two is so still, or all the others are. -/
theorem rot_btw (hn : r.Nodup) (hc : c ∈ r) (hd : d ∈ r) (hcd : c ≠ d) : ∃ F : Prop, ∀ x ∈ r, x ≠ c → x ≠ d → (btw (rotR r i) c d x ↔ (btw r c d x ↔ F)) := by
  have er : r.take i ++ r.drop i = r := List.take_append_drop i r
  unfold rotR
  generalize r.take i = X at er
  generalize r.drop i = Y at er
  subst er
  obtain ⟨nX, nY, dj⟩ := List.nodup_append.1 hn
  have xy : ∀ {z}, z ∈ X → z ∉ Y := fun h1 h2 => dj _ h1 _ h2 rfl
  have yx : ∀ {z}, z ∈ X ++ Y → z ∉ X → z ∈ Y := fun h1 h2 => (List.mem_append.1 h1).resolve_left h2
  refine ⟨c ∈ X ↔ d ∈ X, fun x hx h1 h2 => ?_⟩
  have fX : ∀ {z}, z ∈ X → (X ++ Y).idxOf z = X.idxOf z ∧ (Y ++ X).idxOf z = Y.length + X.idxOf z ∧ X.idxOf z < X.length := fun h => ⟨idx_l h, idx_r (xy h), idx_lt h⟩
  have fY : ∀ {z}, z ∈ X ++ Y → z ∉ X → (X ++ Y).idxOf z = X.length + Y.idxOf z ∧ (Y ++ X).idxOf z = Y.idxOf z ∧ Y.idxOf z < Y.length := fun h0 h => ⟨idx_r h, idx_l (yx h0 h), idx_lt (yx h0 h)⟩
  unfold btw
  by_cases qc : c ∈ X <;> by_cases qd : d ∈ X <;> by_cases qx : x ∈ X
  · have := fX qc; have := fX qd; have := fX qx
    simp only [qc, qd, iff_self, iff_true]; omega
  · have := fX qc; have := fX qd; have := fY hx qx
    simp only [qc, qd, iff_self, iff_true]; omega
  · have := fX qc; have := fY hd qd; have := fX qx
    have e1 := idx_ne qx h1
    simp only [qc, qd, iff_false, iff_self, not_true, true_iff]; omega
  · have := fX qc; have := fY hd qd; have := fY hx qx
    have e1 := idx_ne (yx hx qx) h2
    simp only [qc, qd, iff_false, iff_self, not_true, true_iff]; omega
  · have := fY hc qc; have := fX qd; have := fX qx
    have e1 := idx_ne qx h2
    simp only [qc, qd, iff_false, iff_true, iff_self]; omega
  · have := fY hc qc; have := fX qd; have := fY hx qx
    have e1 := idx_ne (yx hx qx) h1
    simp only [qc, qd, iff_false, iff_true, iff_self]; omega
  · have := fY hc qc; have := fY hd qd; have := fX qx
    simp only [qc, qd, iff_self, iff_true]; omega
  · have := fY hc qc; have := fY hd qd; have := fY hx qx
    simp only [qc, qd, iff_self, iff_true]; omega
/-- What stands where in a row of two with two nodes. -/
theorem link_idx (hA : A.Nodup) (htA : t ∉ A) (hB : ∀ y ∈ B, y ∉ A) (htB : t ∉ B) (hkA : k ∉ A) (hkt : k ≠ t) (hkB : k ∉ B) :
    (∀ x ∈ A, (((A ++ [t]) ++ B) ++ [k]).idxOf x = A.idxOf x ∧ A.idxOf x < A.length) ∧ (((A ++ [t]) ++ B) ++ [k]).idxOf t = A.length ∧ (∀ x ∈ B, (((A ++ [t]) ++ B) ++ [k]).idxOf x = A.length + 1 + B.idxOf x ∧ B.idxOf x < B.length) ∧ (((A ++ [t]) ++ B) ++ [k]).idxOf k = A.length + 1 + B.length := by
  refine ⟨fun x hx => ⟨?_, idx_lt hx⟩, ?_, fun x hx => ⟨?_, idx_lt hx⟩, ?_⟩
  · rw [idx_l (by simp [hx]), idx_l (by simp [hx]), idx_l hx]
  · rw [idx_l (by simp), idx_l (by simp), idx_r htA]; simp
  · have h1 := hB x hx
    have h2 : x ≠ t := fun e => htB (e ▸ hx)
    rw [idx_l (by simp [hx]), idx_r (by simp [h1, h2])]; simp
  · rw [idx_r (by simp [hkA, hkt, hkB])]; simp; omega
theorem cut_idx (hn : ((P ++ c :: I) ++ d :: Q).Nodup) :
    (∀ x ∈ P, ((P ++ c :: I) ++ d :: Q).idxOf x = P.idxOf x ∧ P.idxOf x < P.length ∧ (P ++ Q).idxOf x = P.idxOf x) ∧ ((P ++ c :: I) ++ d :: Q).idxOf c = P.length ∧ (∀ x ∈ I, ((P ++ c :: I) ++ d :: Q).idxOf x = P.length + 1 + I.idxOf x ∧ I.idxOf x < I.length) ∧ ((P ++ c :: I) ++ d :: Q).idxOf d = P.length + 1 + I.length ∧ (∀ x ∈ Q, ((P ++ c :: I) ++ d :: Q).idxOf x = P.length + 1 + I.length + 1 + Q.idxOf x ∧ (P ++ Q).idxOf x = P.length + Q.idxOf x) := by
  obtain ⟨n1, n2, n3⟩ := List.nodup_append.1 hn
  obtain ⟨nP, n5, n6⟩ := List.nodup_append.1 n1
  obtain ⟨ncI, nI⟩ := List.nodup_cons.1 n5
  obtain ⟨ndQ, nQ⟩ := List.nodup_cons.1 n2
  refine ⟨fun x hx => ⟨?_, idx_lt hx, idx_l hx⟩, ?_, fun x hx => ⟨?_, idx_lt hx⟩, ?_, fun x hx => ⟨?_, ?_⟩⟩
  · rw [idx_l (by simp [hx]), idx_l hx]
  · rw [idx_l (by simp), idx_r (fun q => n6 c q c (by simp) rfl)]; simp
  · have h1 : x ≠ c := fun e => ncI (e ▸ hx)
    rw [idx_l (by simp [hx]), idx_r (fun q => n6 x q x (by simp [hx]) rfl), List.idxOf_cons]
    have : (c == x) = false := by rw [beq_eq_false_iff_ne]; exact Ne.symm h1
    rw [this]; simp only [cond_false]; omega
  · rw [idx_r (fun q => n3 d q d (by simp) rfl)]; simp; omega
  · have h1 : x ≠ d := fun e => ndQ (e ▸ hx)
    rw [idx_r (fun q => n3 x q x (by simp [hx]) rfl), List.idxOf_cons]
    have : (d == x) = false := by rw [beq_eq_false_iff_ne]; exact Ne.symm h1
    rw [this]; simp only [cond_false, List.length_append, List.length_cons]; omega
  · rw [idx_r (fun q => n3 x (by simp [q]) x (by simp [hx]) rfl)]
/-! ### Nodes -/
theorem muladd {a b a' b' m : Int} (h : a * m + b = a' * m + b') (hb : 0 ≤ b ∧ b < m) (hb' : 0 ≤ b' ∧ b' < m) : a = a' ∧ b = b' := by
  have hm : 0 ≤ m := by omega
  rcases Int.lt_trichotomy a a' with q | q | q
  · have := Int.mul_le_mul_of_nonneg_right (show a + 1 ≤ a' by omega) hm
    rw [Int.add_mul] at this
    omega
  · subst q; exact ⟨rfl, by omega⟩
  · have := Int.mul_le_mul_of_nonneg_right (show a' + 1 ≤ a by omega) hm
    rw [Int.add_mul] at this
    omega
theorem Vx_eq {v : Int} (hi : (i : Int) < Lv V) (hv : 0 ≤ v ∧ v < V) : Vx V i v = 1 + (i : Int) * V + v := by
  unfold Vx
  rw [Bl_t.2 ⟨by omega, hi⟩, Bl_t.2 hv]; rfl
theorem Ax_eq {s : Nat} {d : Int} (hi : (i : Int) < Lv V) (hs : (s : Int) < S) (hd : d = 0 ∨ d = 1) : Ax V S s i d = 1 + Lv V * V + (s : Int) * (2 * Lv V) + 2 * (i : Int) + d := by
  unfold Ax
  rw [Bl_t.2 ⟨by omega, hs⟩, Bl_t.2 ⟨by omega, hi⟩, Bl_t.2 (show 0 ≤ d ∧ d < 2 by omega)]; rfl
/-- A node of a level. -/
def NL (V S : Int) (i : Nat) (y : Int) : Prop := (∃ v : Int, (0 ≤ v ∧ v < V) ∧ y = Vx V i v) ∨ ∃ (s : Nat) (d : Int), (s : Int) < S ∧ (d = 0 ∨ d = 1) ∧ y = Ax V S s i d
theorem V_pos {v v' : Int} {i' : Nat} (hR : Rt V S T) (hi : (i : Int) < Lv V) (hi' : (i' : Int) < Lv V) (hv : 0 ≤ v ∧ v < V) (hv' : 0 ≤ v' ∧ v' < V) (h : Vx V i v = Vx V i' v') : i = i' ∧ v = v' := by
  rw [Vx_eq hi hv, Vx_eq hi' hv'] at h
  have := muladd (a := (i : Int)) (a' := (i' : Int)) (m := V) (b := v) (b' := v') (by omega) hv hv'
  omega
theorem A_pos {s s' : Nat} {d d' : Int} {i' : Nat} (hR : Rt V S T) (hi : (i : Int) < Lv V) (hi' : (i' : Int) < Lv V) (hs : (s : Int) < S) (hs' : (s' : Int) < S) (hd : d = 0 ∨ d = 1) (hd' : d' = 0 ∨ d' = 1) (h : Ax V S s i d = Ax V S s' i' d') : s = s' ∧ i = i' ∧ d = d' := by
  rw [Ax_eq hi hs hd, Ax_eq hi' hs' hd'] at h
  have := muladd (a := (s : Int)) (a' := (s' : Int)) (m := 2 * Lv V) (b := 2 * (i : Int) + d) (b' := 2 * (i' : Int) + d') (by omega) (by omega) (by omega)
  omega
theorem VA_ne {v d : Int} {s i' : Nat} (hR : Rt V S T) (hi : (i : Int) < Lv V) (hi' : (i' : Int) < Lv V) (hv : 0 ≤ v ∧ v < V) (hs : (s : Int) < S) (hd : d = 0 ∨ d = 1) : Vx V i v ≠ Ax V S s i' d := by
  rw [Vx_eq hi hv, Ax_eq hi' hs hd]
  have l := Lv_le hR
  have := Int.mul_le_mul_of_nonneg_right (show (i : Int) + 1 ≤ Lv V by omega) (show 0 ≤ V by have := hR; unfold Rt at this; omega)
  rw [Int.add_mul] at this
  have := Int.mul_nonneg (show 0 ≤ (s : Int) by omega) (show 0 ≤ 2 * Lv V by omega)
  omega
theorem NL_lv {i' : Nat} (hR : Rt V S T) (hi : (i : Int) < Lv V) (hi' : (i' : Int) < Lv V) (h : NL V S i y) (h' : NL V S i' y) : i = i' := by
  rcases h with ⟨v, hv, rfl⟩ | ⟨s, d, hs, hd, rfl⟩ <;> rcases h' with ⟨v', hv', e⟩ | ⟨s', d', hs', hd', e⟩
  · exact (V_pos hR hi hi' hv hv' e).1
  · exact absurd e (VA_ne hR hi hi' hv hs' hd')
  · exact absurd e.symm (VA_ne hR hi' hi hv' hs hd)
  · exact (A_pos hR hi hi' hs hs' hd hd' e).2.1
theorem NL_nix (hR : Rt V S T) (hi : (i : Int) < Lv V) (h : NL V S i y) : Nix V S y := by
  have l := Lv_le hR
  have hV : 0 ≤ V := by have := hR; unfold Rt at this; omega
  have m1 := Int.mul_le_mul_of_nonneg_right (show (i : Int) + 1 ≤ Lv V by omega) hV
  rw [Int.add_mul] at m1
  have m0 := Int.mul_nonneg (show 0 ≤ (i : Int) by omega) hV
  have mS := Nn_le hR
  unfold Nix Nn
  rcases h with ⟨v, hv, rfl⟩ | ⟨s, d, hs, hd, rfl⟩
  · rw [Vx_eq hi hv]; omega
  · rw [Ax_eq hi hs hd]
    have m2 := Int.mul_le_mul_of_nonneg_right (show (s : Int) + 1 ≤ S by omega) (show 0 ≤ 2 * Lv V by omega)
    rw [Int.add_mul] at m2
    have := Int.mul_nonneg (show 0 ≤ (s : Int) by omega) (show 0 ≤ 2 * Lv V by omega)
    have := mS.1.1
    omega
end Go.Det.E
/- Tours with no program in sight: a level's rows and links; begun, linked, cut. -/
namespace Go.Det.E
open Go.Proofs Go.Det Go.Det.U
variable {V S T : Int} {r A B P I Q : List Int} {c d x y t k : Int} {i j m n s : Nat} {rs rs' old : List (List Int)} {ps ps' : List (Int × Int)} {e : Int × Int}
/-- A slot that is linked, and its ends. -/
def Lk (ps : List (Int × Int)) (s : Nat) (e : Int × Int) : Prop := ps[s]? = some e ∧ 0 ≤ e.1
/-- One row: of each linked slot in it, the ends are on two sides of its arcs, and any other slot's nodes are on one side. -/
def NC (V S : Int) (i : Nat) (ps : List (Int × Int)) (r : List Int) : Prop :=
  ∀ (s : Nat) (e : Int × Int), Lk ps s e → Ax V S s i 0 ∈ r → (btw r (Ax V S s i 0) (Ax V S s i 1) (Vx V i e.1) ↔ ¬ btw r (Ax V S s i 0) (Ax V S s i 1) (Vx V i e.2)) ∧ ∀ (s' : Nat) (e' : Int × Int), s' ≠ s → Lk ps s' e' → Ax V S s' i 0 ∈ r →
    (btw r (Ax V S s i 0) (Ax V S s i 1) (Ax V S s' i 1) ↔ btw r (Ax V S s i 0) (Ax V S s i 1) (Ax V S s' i 0)) ∧ (btw r (Ax V S s i 0) (Ax V S s i 1) (Vx V i e'.1) ↔ btw r (Ax V S s i 0) (Ax V S s i 1) (Ax V S s' i 0)) ∧ (btw r (Ax V S s i 0) (Ax V S s i 1) (Vx V i e'.2) ↔ btw r (Ax V S s i 0) (Ax V S s i 1) (Ax V S s' i 0))
/-- A row's nodes. -/
def Mm (V S : Int) (i : Nat) (ps : List (Int × Int)) (r : List Int) : Prop := ∀ y ∈ r, (∃ v : Int, (0 ≤ v ∧ v < V) ∧ y = Vx V i v) ∨ ∃ (s : Nat) (e : Int × Int) (d : Int), Lk ps s e ∧ (d = 0 ∨ d = 1) ∧ y = Ax V S s i d
/-- All nodes of a slot, and its ends. -/
def Four (V S : Int) (i s : Nat) (e : Int × Int) (r : List Int) : Prop := Ax V S s i 0 ∈ r ∧ Ax V S s i 1 ∈ r ∧ Vx V i e.1 ∈ r ∧ Vx V i e.2 ∈ r
structure WF (V S : Int) (i : Nat) (rs : List (List Int)) (ps : List (Int × Int)) : Prop where
  len : (ps.length : Int) = S
  val : ∀ (s : Nat) (e : Int × Int), ps[s]? = some e → e = (-1, -1) ∨ ((0 ≤ e.1 ∧ e.1 < V) ∧ (0 ≤ e.2 ∧ e.2 < V))
  nod : ∀ r ∈ rs, r.Nodup
  dj : rs.Pairwise DjL
  mem : ∀ r ∈ rs, Mm V S i ps r
  cov : ∀ v : Int, 0 ≤ v → v < V → ∃ r ∈ rs, Vx V i v ∈ r
  lin : ∀ (s : Nat) (e : Int × Int), Lk ps s e → ∃ r ∈ rs, Four V S i s e r
  nc : ∀ r ∈ rs, NC V S i ps r
theorem Lk.lt (W : (ps.length : Int) = S) (h : Lk ps s e) : (s : Int) < S := by
  have := (List.getElem?_eq_some_iff.1 h.1).1
  omega
theorem WF.ends (W : WF V S i rs ps) (h : Lk ps s e) : (0 ≤ e.1 ∧ e.1 < V) ∧ (0 ≤ e.2 ∧ e.2 < V) := by
  rcases W.val s e h.1 with q | q
  · have := h.2; rw [q] at this; omega
  · exact q
theorem WF.nl (W : WF V S i rs ps) (hr : r ∈ rs) (hy : y ∈ r) : NL V S i y := by
  rcases W.mem r hr y hy with ⟨v, hv, e⟩ | ⟨s, e, d, hl, hd, q⟩
  · exact .inl ⟨v, hv, e⟩
  · exact .inr ⟨s, d, hl.lt W.len, hd, q⟩
/-- A node is in one row alone. -/
theorem WF.uniq {r r' : List Int} (W : WF V S i rs ps) (hr : r ∈ rs) (hr' : r' ∈ rs) (h : y ∈ r) (h' : y ∈ r') : r = r' := by
  obtain ⟨a, ha⟩ := List.mem_iff_getElem?.1 hr
  obtain ⟨b, hb⟩ := List.mem_iff_getElem?.1 hr'
  by_cases e : a = b
  · subst e; rw [ha] at hb; exact Option.some.inj hb
  · exact absurd h' (pw_get W.dj ha hb e y h)
theorem WF.four (hR : Rt V S T) (W : WF V S i rs ps) (hr : r ∈ rs) (hl : Lk ps s e) (h : Ax V S s i 0 ∈ r) : Four V S i s e r := by
  obtain ⟨r', hr', f⟩ := W.lin s e hl
  rw [W.uniq hr hr' h f.1]; exact f
/-- An arc that is in a row is a linked slot's. -/
theorem WF.arc {d : Int} (hR : Rt V S T) (hi : (i : Int) < Lv V) (W : WF V S i rs ps) (hr : r ∈ rs) (hs : (s : Int) < S) (hd : d = 0 ∨ d = 1) (h : Ax V S s i d ∈ r) : ∃ e, Lk ps s e := by
  rcases W.mem r hr _ h with ⟨v, hv, q⟩ | ⟨s', e, d', hl, hd', q⟩
  · exact absurd q.symm (VA_ne hR hi hi hv hs hd)
  · obtain ⟨rfl, _, _⟩ := A_pos hR hi hi hs (hl.lt W.len) hd hd' q
    exact ⟨e, hl⟩
theorem DjL.symm {r r' : List Int} (h : DjL r r') : DjL r' r := fun y h1 h2 => h y h2 h1
theorem pw_of {rs : List (List Int)} (h : ∀ (i j : Nat) (r r' : List Int), i < j → rs[i]? = some r → rs[j]? = some r' → DjL r r') : rs.Pairwise DjL := by
  rw [List.pairwise_iff_getElem]
  exact fun i j hi hj hij => h i j _ _ hij (List.getElem?_eq_getElem hi) (List.getElem?_eq_getElem hj)
/-! ### Begun -/
theorem NC.rot (hR : Rt V S T) (hi : (i : Int) < Lv V) (hS : (ps.length : Int) = S) (hv : ∀ (s : Nat) (e : Int × Int), Lk ps s e → (0 ≤ e.1 ∧ e.1 < V) ∧ (0 ≤ e.2 ∧ e.2 < V)) (hn : r.Nodup) (h4 : ∀ (s : Nat) (e : Int × Int), Lk ps s e → Ax V S s i 0 ∈ r → Four V S i s e r) (h : NC V S i ps r) : NC V S i ps (rotR r j) := by
  intro s e hl ha
  have ha' := rot_mem.1 ha
  obtain ⟨h1, h2⟩ := h s e hl ha'
  obtain ⟨f0, f1, f2, f3⟩ := h4 s e hl ha'
  have hs := hl.lt hS
  have n01 : Ax V S s i 0 ≠ Ax V S s i 1 := fun q => by have := (A_pos hR hi hi hs hs (.inl rfl) (.inr rfl) q).2.2; omega
  obtain ⟨F, hF⟩ := rot_btw (i := j) hn f0 f1 n01
  have hv1 := hv s e hl
  refine ⟨?_, fun s' e' hne hl' ha2 => ?_⟩
  · rw [hF _ f2 (VA_ne hR hi hi hv1.1 hs (.inl rfl)) (VA_ne hR hi hi hv1.1 hs (.inr rfl)), hF _ f3 (VA_ne hR hi hi hv1.2 hs (.inl rfl)) (VA_ne hR hi hi hv1.2 hs (.inr rfl)), h1]
    by_cases q : F <;> simp [q]
  · have ha2' := rot_mem.1 ha2
    obtain ⟨g1, g2, g3⟩ := h2 s' e' hne hl' ha2'
    obtain ⟨k0, k1, k2, k3⟩ := h4 s' e' hl' ha2'
    have hs' := hl'.lt hS
    have hv2 := hv s' e' hl'
    have an : ∀ {d d' : Int}, (d = 0 ∨ d = 1) → (d' = 0 ∨ d' = 1) → Ax V S s' i d ≠ Ax V S s i d' := fun hd hd' q => hne (A_pos hR hi hi hs' hs hd hd' q).1
    rw [hF _ k0 (an (.inl rfl) (.inl rfl)) (an (.inl rfl) (.inr rfl)), hF _ k1 (an (.inr rfl) (.inl rfl)) (an (.inr rfl) (.inr rfl)), hF _ k2 (VA_ne hR hi hi hv2.1 hs (.inl rfl)) (VA_ne hR hi hi hv2.1 hs (.inr rfl)), hF _ k3 (VA_ne hR hi hi hv2.2 hs (.inl rfl)) (VA_ne hR hi hi hv2.2 hs (.inr rfl)), g1, g2, g3]
    exact ⟨Iff.rfl, Iff.rfl, Iff.rfl⟩
theorem set_mem {rs : List (List Int)} {q : List Int} (hj : rs[j]? = some r) : ∀ {r'}, r' ∈ rs.set j q → r' = q ∨ r' ∈ rs := fun h => by
  obtain ⟨a, ha⟩ := List.mem_iff_getElem?.1 h
  rw [List.getElem?_set] at ha
  split at ha
  · split at ha
    · exact .inl (Option.some.inj ha).symm
    · cases ha
  · exact .inr (List.mem_of_getElem? ha)
theorem WF.begin (hR : Rt V S T) (hi : (i : Int) < Lv V) (W : WF V S i rs ps) (hj : rs[j]? = some r) (m : Nat) : WF V S i (rs.set j (rotR r m)) ps := by
  have hr := List.mem_of_getElem? hj
  have hjl := (List.getElem?_eq_some_iff.1 hj).1
  have inn : rotR r m ∈ rs.set j (rotR r m) := List.mem_iff_getElem?.2 ⟨j, by rw [List.getElem?_set_self hjl]⟩
  have sub : ∀ r' ∈ rs, ∃ q ∈ rs.set j (rotR r m), ∀ y ∈ r', y ∈ q := fun r' hr' => by
    obtain ⟨a, ha⟩ := List.mem_iff_getElem?.1 hr'
    by_cases e : j = a
    · subst e
      rw [hj] at ha
      obtain rfl := Option.some.inj ha
      exact ⟨_, inn, fun y hy => rot_mem.2 hy⟩
    · exact ⟨r', List.mem_iff_getElem?.2 ⟨a, by rw [List.getElem?_set_ne e]; exact ha⟩, fun y hy => hy⟩
  refine ⟨W.len, W.val, fun r' h => ?_, pw_of fun a b p q hab ha hb => ?_, fun r' h => ?_, fun v h1 h2 => ?_, fun s e hl => ?_, fun r' h => ?_⟩
  · rcases set_mem hj h with rfl | h
    · exact rot_nodup (W.nod r hr)
    · exact W.nod r' h
  · rw [List.getElem?_set] at ha hb
    by_cases e1 : j = a
    · subst e1
      rw [if_pos rfl, if_pos hjl] at ha
      rw [if_neg (by omega)] at hb
      obtain rfl := Option.some.inj ha
      exact fun y hy => pw_get W.dj hj hb (by omega) y (rot_mem.1 hy)
    · rw [if_neg e1] at ha
      by_cases e2 : j = b
      · subst e2
        rw [if_pos rfl, if_pos hjl] at hb
        obtain rfl := Option.some.inj hb
        exact fun y hy q => pw_get W.dj ha hj (by omega) y hy (rot_mem.1 q)
      · rw [if_neg e2] at hb
        exact pw_get W.dj ha hb (by omega)
  · rcases set_mem hj h with rfl | h
    · exact fun y hy => W.mem r hr y (rot_mem.1 hy)
    · exact W.mem r' h
  · obtain ⟨r', hr', hy⟩ := W.cov v h1 h2
    obtain ⟨q, hq, hs⟩ := sub r' hr'
    exact ⟨q, hq, hs _ hy⟩
  · obtain ⟨r', hr', f⟩ := W.lin s e hl
    obtain ⟨q, hq, hs⟩ := sub r' hr'
    exact ⟨q, hq, hs _ f.1, hs _ f.2.1, hs _ f.2.2.1, hs _ f.2.2.2⟩
  · rcases set_mem hj h with rfl | h
    · exact NC.rot hR hi W.len (fun s e h => W.ends h) (W.nod r hr) (fun s e hl ha => W.four hR hr hl ha) (W.nc r hr)
    · exact W.nc r' h
end Go.Det.E

/- Tours with no program in sight: two rows linked. -/
namespace Go.Det.E
open Go.Proofs Go.Det Go.Det.U
variable {V S T : Int} {r A B P I Q : List Int} {c d x y t k u v : Int} {i j m n s a b p q : Nat} {rs rs' old : List (List Int)} {ps ps' : List (Int × Int)} {e : Int × Int}
theorem lk_set {e' : Int × Int} {s' : Nat} (hs : s < ps.length) : Lk (ps.set s e) s' e' ↔ (s' = s ∧ e' = e ∧ 0 ≤ e.1) ∨ (s' ≠ s ∧ Lk ps s' e') := by
  unfold Lk
  by_cases h : s' = s
  · subst h
    rw [List.getElem?_set_self hs]
    constructor
    · rintro ⟨h1, h2⟩
      obtain rfl := Option.some.inj h1
      exact .inl ⟨rfl, rfl, h2⟩
    · rintro (⟨_, rfl, h2⟩ | ⟨h1, _⟩)
      · exact ⟨rfl, h2⟩
      · exact absurd rfl h1
  · rw [List.getElem?_set_ne (Ne.symm h)]
    constructor
    · exact fun z => .inr ⟨h, z⟩
    · rintro (⟨h1, _⟩ | ⟨_, z⟩)
      · exact absurd h1 h
      · exact z
theorem lk_uniq {e' : Int × Int} (h : Lk ps s e) (h' : Lk ps s e') : e = e' := Option.some.inj (h.1.symm.trans h'.1)
theorem rot_hd (hp : A[p]? = some x) : ∃ Z, rotR A p = x :: Z := by
  have hl := (List.getElem?_eq_some_iff.1 hp).1
  refine ⟨A.drop (p + 1) ++ A.take p, ?_⟩
  unfold rotR
  rw [List.drop_eq_getElem_cons hl]
  have := (List.getElem?_eq_some_iff.1 hp).2
  rw [this]; rfl
theorem rot_idx (hp : A[p]? = some x) : (rotR A p).idxOf x = 0 := by
  obtain ⟨Z, e⟩ := rot_hd hp
  rw [e, List.idxOf_cons]; simp
theorem btw_sh {r r' : List Int} (n : Nat) (hc : r.idxOf c = n + r'.idxOf c) (hd : r.idxOf d = n + r'.idxOf d) (hx : r.idxOf x = n + r'.idxOf x) : btw r c d x ↔ btw r' c d x := by
  unfold btw; omega
theorem btw_hi (hc : r.idxOf c ≤ r.idxOf x) (hd : r.idxOf d ≤ r.idxOf x) : ¬ btw r c d x := by unfold btw; omega
theorem btw_lo (hc : r.idxOf x ≤ r.idxOf c) (hd : r.idxOf x ≤ r.idxOf d) : ¬ btw r c d x := by unfold btw; omega
theorem btw_in (hc : r.idxOf c < r.idxOf x) (hd : r.idxOf x < r.idxOf d) : btw r c d x := .inl ⟨hc, hd⟩
theorem WF.row_of (W : WF V S i rs ps) (hl : Lk ps s e) (hr : r ∈ rs) (h : Ax V S s i 0 ∈ r) : Four V S i s e r := by
  obtain ⟨r', hr', f⟩ := W.lin s e hl
  rw [W.uniq hr hr' h f.1]; exact f
theorem WF.link (hR : Rt V S T) (hi : (i : Int) < Lv V) (W : WF V S i rs ps) (ha : rs[a]? = some A) (hb : rs[b]? = some B) (hab : a ≠ b) (hs : ps[s]? = some (-1, -1)) (hu : 0 ≤ u ∧ u < V) (hv : 0 ≤ v ∧ v < V) (hp : A[p]? = some (Vx V i u)) (hq : B[q]? = some (Vx V i v)) :
    WF V S i (wo a b 0 rs ++ [linkR A B p q (Ax V S s i 0) (Ax V S s i 1)]) (ps.set s (u, v)) := by
  have hA := List.mem_of_getElem? ha
  have hB := List.mem_of_getElem? hb
  have hsl := (List.getElem?_eq_some_iff.1 hs).1
  have hS : (s : Int) < S := by have := W.len; omega
  have nl : ∀ e, ¬ Lk ps s e := fun e h => by
    have := h.1
    rw [hs] at this
    obtain rfl := Option.some.inj this
    have := h.2
    exact absurd this (by decide)
  have noarc : ∀ r ∈ rs, ∀ d, (d = 0 ∨ d = 1) → Ax V S s i d ∉ r := fun r hr d hd h => by
    obtain ⟨e, he⟩ := W.arc hR hi hr hS hd h
    exact nl e he
  have L' := fun {s' : Nat} {e' : Int × Int} => lk_set (ps := ps) (s := s) (e := (u, v)) (s' := s') (e' := e') hsl
  have hA' : ∀ y, y ∈ rotR A p ↔ y ∈ A := fun y => rot_mem
  have hB' : ∀ y, y ∈ rotR B q ↔ y ∈ B := fun y => rot_mem
  have nA := rot_nodup (i := p) (W.nod A hA)
  have nB := rot_nodup (i := q) (W.nod B hB)
  have dAB := pw_get W.dj ha hb hab
  have ncA := NC.rot (j := p) hR hi W.len (fun s e h => W.ends h) (W.nod A hA) (fun s e hl h => W.row_of hl hA h) (W.nc A hA)
  have ncB := NC.rot (j := q) hR hi W.len (fun s e h => W.ends h) (W.nod B hB) (fun s e hl h => W.row_of hl hB h) (W.nc B hB)
  have u0 := rot_idx hp
  have v0 := rot_idx hq
  have uA := List.mem_of_getElem? hp
  have vB := List.mem_of_getElem? hq
  have t_A := noarc A hA 0 (.inl rfl)
  have t_B := noarc B hB 0 (.inl rfl)
  have k_A := noarc A hA 1 (.inr rfl)
  have k_B := noarc B hB 1 (.inr rfl)
  have ktn : Ax V S s i 1 ≠ Ax V S s i 0 := fun h => by have := (A_pos hR hi hi hS hS (.inr rfl) (.inl rfl) h).2.2; omega
  have old : ∀ r ∈ wo a b 0 rs, r ∈ rs ∧ DjL r A ∧ DjL r B := fun r hr => by
    obtain ⟨m, hm, h1, h2⟩ := wo_mem hr
    exact ⟨List.mem_of_getElem? hm, pw_get W.dj hm ha (by omega), pw_get W.dj hm hb (by omega)⟩
  unfold linkR
  have mR : ∀ y, y ∈ ((rotR A p ++ [Ax V S s i 0]) ++ rotR B q) ++ [Ax V S s i 1] ↔ y ∈ A ∨ y = Ax V S s i 0 ∨ y ∈ B ∨ y = Ax V S s i 1 := fun y => by
    simp only [List.mem_append, List.mem_singleton, hA', hB', or_assoc]
  have arcR : ∀ {s1 e1}, s1 ≠ s → Lk ps s1 e1 → ∀ d, (d = 0 ∨ d = 1) → Ax V S s1 i d ≠ Ax V S s i 0 ∧ Ax V S s1 i d ≠ Ax V S s i 1 := fun hne hl d hd => ⟨fun h => hne (A_pos hR hi hi (hl.lt W.len) hS hd (.inl rfl) h).1, fun h => hne (A_pos hR hi hi (hl.lt W.len) hS hd (.inr rfl) h).1⟩
  obtain ⟨ixA, ixt, ixB, ixk⟩ := link_idx (A := rotR A p) (B := rotR B q) (t := Ax V S s i 0) (k := Ax V S s i 1) nA (fun h => t_A ((hA' _).1 h)) (fun y h1 h2 => dAB y ((hA' _).1 h2) ((hB' _).1 h1)) (fun h => t_B ((hB' _).1 h)) (fun h => k_A ((hA' _).1 h)) ktn (fun h => k_B ((hB' _).1 h))
  have keep : ∀ r ∈ rs, ∃ r' ∈ wo a b 0 rs ++ [((rotR A p ++ [Ax V S s i 0]) ++ rotR B q) ++ [Ax V S s i 1]], ∀ y ∈ r, y ∈ r' := fun r hr => by
    obtain ⟨m, hm⟩ := List.mem_iff_getElem?.1 hr
    by_cases e1 : m = a
    · subst e1
      rw [ha] at hm
      obtain rfl := Option.some.inj hm
      exact ⟨_, List.mem_append.2 (.inr (by simp)), fun y hy => (mR y).2 (.inl hy)⟩
    · by_cases e2 : m = b
      · subst e2
        rw [hb] at hm
        obtain rfl := Option.some.inj hm
        exact ⟨_, List.mem_append.2 (.inr (by simp)), fun y hy => (mR y).2 (.inr (.inr (.inl hy)))⟩
      · exact ⟨r, List.mem_append.2 (.inl (mem_wo hm (by omega) (by omega))), fun y hy => hy⟩
  refine ⟨by rw [List.length_set]; exact W.len, fun s' e' h => ?_, fun r hr => ?_, List.pairwise_append.2 ⟨W.dj.sublist (wo_sub _ _ _ _), by simp, fun r hr r' hr' => ?_⟩, fun r hr y hy => ?_, fun w h1 h2 => ?_, fun s' e' h => ?_, fun r hr => ?_⟩
  · by_cases q : s = s'
    · subst q
      rw [List.getElem?_set_self hsl] at h
      obtain rfl := Option.some.inj h
      exact .inr ⟨hu, hv⟩
    · rw [List.getElem?_set_ne q] at h
      exact W.val s' e' h
  · rcases List.mem_append.1 hr with h | h
    · exact W.nod r (old r h).1
    · simp only [List.mem_singleton] at h; subst h
      refine List.nodup_append.2 ⟨List.nodup_append.2 ⟨List.nodup_append.2 ⟨nA, by simp, fun y hy z hz e => ?_⟩, nB, fun y hy z hz e => ?_⟩, by simp, fun y hy z hz e => ?_⟩
      · simp at hz; subst hz; subst e; exact t_A ((hA' _).1 hy)
      · subst e
        rcases List.mem_append.1 hy with h | h
        · exact dAB y ((hA' _).1 h) ((hB' _).1 hz)
        · simp at h; subst h; exact t_B ((hB' _).1 hz)
      · simp at hz; subst hz; subst e
        rcases List.mem_append.1 hy with h | h
        · rcases List.mem_append.1 h with h | h
          · exact k_A ((hA' _).1 h)
          · simp at h; exact ktn h
        · exact k_B ((hB' _).1 h)
  · simp only [List.mem_singleton] at hr'; subst hr'
    obtain ⟨o1, o2, o3⟩ := old r hr
    intro y hy hq
    rcases (mR y).1 hq with h | rfl | h | rfl
    · exact o2 y hy h
    · exact noarc r o1 0 (.inl rfl) hy
    · exact o3 y hy h
    · exact noarc r o1 1 (.inr rfl) hy
  · have lift : ∀ r ∈ rs, ∀ y ∈ r, (∃ v : Int, (0 ≤ v ∧ v < V) ∧ y = Vx V i v) ∨ ∃ (s' : Nat) (e : Int × Int) (d : Int), Lk (ps.set s (u, v)) s' e ∧ (d = 0 ∨ d = 1) ∧ y = Ax V S s' i d := fun r hr y hy => by
      rcases W.mem r hr y hy with h | ⟨s', e', d, hl, hd, h⟩
      · exact .inl h
      · exact .inr ⟨s', e', d, L'.2 (.inr ⟨fun q => nl e' (q ▸ hl), hl⟩), hd, h⟩
    rcases List.mem_append.1 hr with h | h
    · exact lift r (old r h).1 y hy
    · simp only [List.mem_singleton] at h; subst h
      rcases (mR y).1 hy with h | h | h | h
      · exact lift A hA y h
      · exact .inr ⟨s, (u, v), 0, L'.2 (.inl ⟨rfl, rfl, hu.1⟩), .inl rfl, h⟩
      · exact lift B hB y h
      · exact .inr ⟨s, (u, v), 1, L'.2 (.inl ⟨rfl, rfl, hu.1⟩), .inr rfl, h⟩
  · obtain ⟨r, hr, hy⟩ := W.cov w h1 h2
    obtain ⟨r', hr', z⟩ := keep r hr
    exact ⟨r', hr', z _ hy⟩
  · rcases L'.1 h with ⟨rfl, rfl, _⟩ | ⟨hne, hl⟩
    · exact ⟨_, List.mem_append.2 (.inr (by simp)), (mR _).2 (.inr (.inl rfl)), (mR _).2 (.inr (.inr (.inr rfl))), (mR _).2 (.inl uA), (mR _).2 (.inr (.inr (.inl vB)))⟩
    · obtain ⟨r, hr, f⟩ := W.lin s' e' hl
      obtain ⟨r', hr', z⟩ := keep r hr
      exact ⟨r', hr', z _ f.1, z _ f.2.1, z _ f.2.2.1, z _ f.2.2.2⟩
  · rcases List.mem_append.1 hr with h | h
    · obtain ⟨o1, o2, o3⟩ := old r h
      intro s1 e1 h1 h2
      rcases L'.1 h1 with ⟨rfl, rfl, _⟩ | ⟨hne, hl⟩
      · exact absurd h2 (noarc r o1 0 (.inl rfl))
      · refine ⟨(W.nc r o1 s1 e1 hl h2).1, fun s2 e2 hne2 h3 h4 => ?_⟩
        rcases L'.1 h3 with ⟨rfl, rfl, _⟩ | ⟨hne3, hl3⟩
        · exact absurd h4 (noarc r o1 0 (.inl rfl))
        · exact (W.nc r o1 s1 e1 hl h2).2 s2 e2 hne2 hl3 h4
    · simp only [List.mem_singleton] at h; subst h
      intro s1 e1 h1 h2
      -- where a node of the new row stands
      have fA : ∀ {y}, y ∈ A → _ := fun {y} h => ixA y ((hA' y).2 h)
      have fB : ∀ {y}, y ∈ B → _ := fun {y} h => ixB y ((hB' y).2 h)
      have inR : ∀ {s2 e2}, s2 ≠ s → Lk ps s2 e2 → Ax V S s2 i 0 ∈ ((rotR A p ++ [Ax V S s i 0]) ++ rotR B q) ++ [Ax V S s i 1] → Four V S i s2 e2 A ∨ Four V S i s2 e2 B := fun {s2 e2} hne hl h => by
        rcases (mR _).1 h with h | h | h | h
        · exact .inl (W.row_of hl hA h)
        · exact absurd h (arcR hne hl 0 (.inl rfl)).1
        · exact .inr (W.row_of hl hB h)
        · exact absurd h (arcR hne hl 0 (.inl rfl)).2
      generalize hRR : ((rotR A p ++ [Ax V S s i 0]) ++ rotR B q) ++ [Ax V S s i 1] = RR at *
      have bA : ∀ {c d x}, c ∈ A → d ∈ A → x ∈ A → (btw RR c d x ↔ btw (rotR A p) c d x) := fun hc hd hx => btw_sh 0 (by rw [(fA hc).1, Nat.zero_add]) (by rw [(fA hd).1, Nat.zero_add]) (by rw [(fA hx).1, Nat.zero_add])
      have bB : ∀ {c d x}, c ∈ B → d ∈ B → x ∈ B → (btw RR c d x ↔ btw (rotR B q) c d x) := fun hc hd hx => btw_sh _ (fB hc).1 (fB hd).1 (fB hx).1
      have aT : ∀ {c d}, c ∈ A → d ∈ A → ¬ btw RR c d (Ax V S s i 0) := fun hc hd => btw_hi (by rw [(fA hc).1, ixt]; exact Nat.le_of_lt (fA hc).2) (by rw [(fA hd).1, ixt]; exact Nat.le_of_lt (fA hd).2)
      have leA : ∀ {c}, c ∈ A → RR.idxOf c < (rotR A p).length := fun hc => by rw [(fA hc).1]; exact (fA hc).2
      have geB : ∀ {c}, c ∈ B → (rotR A p).length < RR.idxOf c ∧ RR.idxOf c < (rotR A p).length + 1 + (rotR B q).length := fun hc => by have := fB hc; omega
      have aK : ∀ {c d}, c ∈ A → d ∈ A → ¬ btw RR c d (Ax V S s i 1) := fun hc hd => btw_hi (by have := leA hc; omega) (by have := leA hd; omega)
      have aB : ∀ {c d x}, c ∈ A → d ∈ A → x ∈ B → ¬ btw RR c d x := fun hc hd hx => btw_hi (by have := leA hc; have := geB hx; omega) (by have := leA hd; have := geB hx; omega)
      have bT : ∀ {c d}, c ∈ B → d ∈ B → ¬ btw RR c d (Ax V S s i 0) := fun hc hd => btw_lo (by have := geB hc; omega) (by have := geB hd; omega)
      have bK : ∀ {c d}, c ∈ B → d ∈ B → ¬ btw RR c d (Ax V S s i 1) := fun hc hd => btw_hi (by have := geB hc; omega) (by have := geB hd; omega)
      have bAA : ∀ {c d x}, c ∈ B → d ∈ B → x ∈ A → ¬ btw RR c d x := fun hc hd hx => btw_lo (by have := geB hc; have := leA hx; omega) (by have := geB hd; have := leA hx; omega)
      have tA : ∀ {x}, x ∈ A → ¬ btw RR (Ax V S s i 0) (Ax V S s i 1) x := fun hx => btw_lo (by have := leA hx; omega) (by have := leA hx; omega)
      have tB : ∀ {x}, x ∈ B → btw RR (Ax V S s i 0) (Ax V S s i 1) x := fun hx => btw_in (by have := geB hx; omega) (by have := geB hx; omega)
      have uN : ∀ {c d}, c ∈ A → d ∈ A → ¬ btw RR c d (Vx V i u) := fun hc hd => by
        rw [bA hc hd uA]
        exact btw_lo (by rw [u0]; exact Nat.zero_le _) (by rw [u0]; exact Nat.zero_le _)
      have vN : ∀ {c d}, c ∈ B → d ∈ B → ¬ btw RR c d (Vx V i v) := fun hc hd => by
        rw [bB hc hd vB]
        exact btw_lo (by rw [v0]; exact Nat.zero_le _) (by rw [v0]; exact Nat.zero_le _)
      rcases L'.1 h1 with ⟨rfl, rfl, _⟩ | ⟨hne, hl⟩
      · refine ⟨⟨fun h => absurd h (tA uA), fun h => absurd (tB vB) h⟩, fun s2 e2 hne2 h3 h4 => ?_⟩
        rcases L'.1 h3 with ⟨rfl, _⟩ | ⟨_, hl3⟩
        · exact absurd rfl hne2
        · rcases inR hne2 hl3 h4 with ⟨g1, g2, g3, g4⟩ | ⟨g1, g2, g3, g4⟩
          · exact ⟨iff_of_false (tA g2) (tA g1), iff_of_false (tA g3) (tA g1), iff_of_false (tA g4) (tA g1)⟩
          · exact ⟨iff_of_true (tB g2) (tB g1), iff_of_true (tB g3) (tB g1), iff_of_true (tB g4) (tB g1)⟩
      · rcases inR hne hl h2 with ⟨f1, f2, f3, f4⟩ | ⟨f1, f2, f3, f4⟩
        · obtain ⟨m1, m2⟩ := ncA s1 e1 hl ((hA' _).2 f1)
          refine ⟨by rw [bA f1 f2 f3, bA f1 f2 f4]; exact m1, fun s2 e2 hne2 h3 h4 => ?_⟩
          rcases L'.1 h3 with ⟨rfl, rfl, _⟩ | ⟨hne3, hl3⟩
          · exact ⟨iff_of_false (aK f1 f2) (aT f1 f2), iff_of_false (uN f1 f2) (aT f1 f2), iff_of_false (aB f1 f2 vB) (aT f1 f2)⟩
          · rcases inR hne3 hl3 h4 with ⟨g1, g2, g3, g4⟩ | ⟨g1, g2, g3, g4⟩
            · obtain ⟨w1, w2, w3⟩ := m2 s2 e2 hne2 hl3 ((hA' _).2 g1)
              rw [bA f1 f2 g1, bA f1 f2 g2, bA f1 f2 g3, bA f1 f2 g4]
              exact ⟨w1, w2, w3⟩
            · exact ⟨iff_of_false (aB f1 f2 g2) (aB f1 f2 g1), iff_of_false (aB f1 f2 g3) (aB f1 f2 g1), iff_of_false (aB f1 f2 g4) (aB f1 f2 g1)⟩
        · obtain ⟨m1, m2⟩ := ncB s1 e1 hl ((hB' _).2 f1)
          refine ⟨by rw [bB f1 f2 f3, bB f1 f2 f4]; exact m1, fun s2 e2 hne2 h3 h4 => ?_⟩
          rcases L'.1 h3 with ⟨rfl, rfl, _⟩ | ⟨hne3, hl3⟩
          · exact ⟨iff_of_false (bK f1 f2) (bT f1 f2), iff_of_false (bAA f1 f2 uA) (bT f1 f2), iff_of_false (vN f1 f2) (bT f1 f2)⟩
          · rcases inR hne3 hl3 h4 with ⟨g1, g2, g3, g4⟩ | ⟨g1, g2, g3, g4⟩
            · exact ⟨iff_of_false (bAA f1 f2 g2) (bAA f1 f2 g1), iff_of_false (bAA f1 f2 g3) (bAA f1 f2 g1), iff_of_false (bAA f1 f2 g4) (bAA f1 f2 g1)⟩
            · obtain ⟨w1, w2, w3⟩ := m2 s2 e2 hne2 hl3 ((hB' _).2 g1)
              rw [bB f1 f2 g1, bB f1 f2 g2, bB f1 f2 g3, bB f1 f2 g4]
              exact ⟨w1, w2, w3⟩
end Go.Det.E

/- Tours with no program in sight: a row cut. -/
namespace Go.Det.E
open Go.Proofs Go.Det Go.Det.U
variable {V S T : Int} {r A B P I Q : List Int} {c d x y t k u v : Int} {i j m n s a b p q : Nat} {rs rs' old : List (List Int)} {ps ps' : List (Int × Int)} {e : Int × Int}
theorem split_one {r : List Int} (h : x ∈ r) : ∃ P Q, r = P ++ x :: Q := List.append_of_mem h
/-- Two nodes of a row. -/
theorem split_two (hc : c ∈ r) (hd : d ∈ r) (hne : c ≠ d) : ∃ c' d' P I Q, ((c' = c ∧ d' = d) ∨ (c' = d ∧ d' = c)) ∧ r = (P ++ c' :: I) ++ d' :: Q := by
  obtain ⟨P, Q, rfl⟩ := split_one hc
  rcases List.mem_append.1 hd with h | h
  · obtain ⟨P', I, rfl⟩ := split_one h
    exact ⟨d, c, P', I, Q, .inr ⟨rfl, rfl⟩, rfl⟩
  · rcases List.mem_cons.1 h with h | h
    · exact absurd h.symm hne
    · obtain ⟨I, Q', rfl⟩ := split_one h
      exact ⟨c, d, P, I, Q', .inl ⟨rfl, rfl⟩, by simp⟩
theorem btw_symm : btw r c d x ↔ btw r d c x := by unfold btw; exact Or.comm
theorem WF.cut (hR : Rt V S T) (hi : (i : Int) < Lv V) (W : WF V S i rs ps) (ha : rs[a]? = some r) (hl : Lk ps s e) (hcd : (c = Ax V S s i 0 ∧ d = Ax V S s i 1) ∨ (c = Ax V S s i 1 ∧ d = Ax V S s i 0)) (er : r = (P ++ c :: I) ++ d :: Q) :
    WF V S i (wo a a 0 rs ++ [I, P ++ Q]) (ps.set s (-1, -1)) := by
  have hr := List.mem_of_getElem? ha
  have hsl := (List.getElem?_eq_some_iff.1 hl.1).1
  have hS : (s : Int) < S := hl.lt W.len
  have nn := W.nod r hr
  have hn := nn
  rw [er] at hn
  obtain ⟨n1, n2, n3⟩ := List.nodup_append.1 hn
  obtain ⟨nP, n5, n6⟩ := List.nodup_append.1 n1
  obtain ⟨ncI, nI⟩ := List.nodup_cons.1 n5
  obtain ⟨ndQ, nQ⟩ := List.nodup_cons.1 n2
  obtain ⟨fP, fc, fI, fd, fQ⟩ := cut_idx hn
  rw [← er] at fP fc fI fd fQ
  have yP : ∀ y ∈ P, y ≠ c ∧ y ≠ d := fun y hy => ⟨fun e => n6 y hy c (by simp) e, fun e => n3 y (by simp [hy]) d (by simp) e⟩
  have yI : ∀ y ∈ I, y ≠ c ∧ y ≠ d := fun y hy => ⟨fun e => ncI (e ▸ hy), fun e => n3 y (by simp [hy]) d (by simp) e⟩
  have yQ : ∀ y ∈ Q, y ≠ c ∧ y ≠ d := fun y hy => ⟨fun e => n3 c (by simp) y (by simp [hy]) e.symm, fun e => ndQ (e ▸ hy)⟩
  have yO : ∀ y ∈ P ++ Q, y ≠ c ∧ y ≠ d := fun y hy => by rcases List.mem_append.1 hy with q | q; exact yP y q; exact yQ y q
  have mI : ∀ y ∈ I, y ∈ r := fun y hy => by rw [er]; simp [hy]
  have mO : ∀ y ∈ P ++ Q, y ∈ r := fun y hy => by rw [er]; rcases List.mem_append.1 hy with q | q <;> simp [q]
  have mr : ∀ y ∈ r, y ≠ c → y ≠ d → y ∈ I ∨ y ∈ P ++ Q := fun y hy h1 h2 => by
    rw [er] at hy
    simp only [List.mem_append, List.mem_cons, h1, h2, false_or] at hy ⊢
    rcases hy with (h | h) | h
    · exact .inr (.inl h)
    · exact .inl h
    · exact .inr (.inr h)
  have dIO : ∀ y ∈ I, y ∉ P ++ Q := fun y hy q => by
    rcases List.mem_append.1 q with h | h
    · exact n6 y h y (by simp [hy]) rfl
    · exact n3 y (by simp [hy]) y (by simp [h]) rfl
  have L' := fun {s' : Nat} {e' : Int × Int} => lk_set (ps := ps) (s := s) (e := (-1, -1)) (s' := s') (e' := e') hsl
  have L2 : ∀ {s' : Nat} {e' : Int × Int}, Lk (ps.set s (-1, -1)) s' e' → s' ≠ s ∧ Lk ps s' e' := fun h => by
    rcases L'.1 h with ⟨_, _, q⟩ | z
    · exact absurd q (by decide)
    · exact z
  -- an arc of another slot is neither of the two
  have ac : ∀ {s1 e1}, s1 ≠ s → Lk ps s1 e1 → ∀ d1, (d1 = 0 ∨ d1 = 1) → Ax V S s1 i d1 ≠ c ∧ Ax V S s1 i d1 ≠ d := fun {s1 e1} hne h d1 hd1 => by
    have q0 : Ax V S s1 i d1 ≠ Ax V S s i 0 := fun q => hne (A_pos hR hi hi (h.lt W.len) hS hd1 (.inl rfl) q).1
    have q1 : Ax V S s1 i d1 ≠ Ax V S s i 1 := fun q => hne (A_pos hR hi hi (h.lt W.len) hS hd1 (.inr rfl) q).1
    rcases hcd with ⟨rfl, rfl⟩ | ⟨rfl, rfl⟩
    · exact ⟨q0, q1⟩
    · exact ⟨q1, q0⟩
  have vc : ∀ w : Int, 0 ≤ w ∧ w < V → Vx V i w ≠ c ∧ Vx V i w ≠ d := fun w hw => by
    have q0 := VA_ne hR hi hi hw hS (.inl rfl) (d := 0)
    have q1 := VA_ne hR hi hi hw hS (.inr rfl) (d := 1)
    rcases hcd with ⟨rfl, rfl⟩ | ⟨rfl, rfl⟩
    · exact ⟨q0, q1⟩
    · exact ⟨q1, q0⟩
  have a0 : Ax V S s i 0 ∈ r := by rcases hcd with ⟨rfl, rfl⟩ | ⟨rfl, rfl⟩ <;> rw [er] <;> simp
  have bI : ∀ {x}, x ∈ I → btw r (Ax V S s i 0) (Ax V S s i 1) x := fun {x} hx => by
    have h3 := fI _ hx
    have : btw r c d x := btw_in (by rw [fc, h3.1]; omega) (by rw [fd, h3.1]; omega)
    rcases hcd with ⟨rfl, rfl⟩ | ⟨rfl, rfl⟩
    · exact this
    · exact btw_symm.1 this
  have bO : ∀ {x}, x ∈ P ++ Q → ¬ btw r (Ax V S s i 0) (Ax V S s i 1) x := fun {x} hx h => by
    have hb : btw r c d x := by
      rcases hcd with ⟨rfl, rfl⟩ | ⟨rfl, rfl⟩
      · exact h
      · exact btw_symm.1 h
    rcases List.mem_append.1 hx with q | q
    · have h3 := fP _ q
      exact btw_lo (by rw [fc, h3.1]; omega) (by rw [fd, h3.1]; omega) hb
    · have h3 := fQ _ q
      exact btw_hi (by rw [fc, h3.1]; omega) (by rw [fd, h3.1]; omega) hb
  -- all of another slot is on one side
  have side : ∀ {s1 e1}, s1 ≠ s → Lk ps s1 e1 → Ax V S s1 i 0 ∈ r → Four V S i s1 e1 I ∨ Four V S i s1 e1 (P ++ Q) := fun {s1 e1} hne h h0 => by
    obtain ⟨g1, g2, g3, g4⟩ := W.row_of h hr h0
    obtain ⟨w1, w2, w3⟩ := (W.nc r hr s e hl a0).2 s1 e1 hne h g1
    have ee := W.ends h
    have hc0 := ac hne h 0 (.inl rfl)
    have hc1 := ac hne h 1 (.inr rfl)
    have hv1 := vc _ ee.1
    have hv2 := vc _ ee.2
    rcases mr _ g1 hc0.1 hc0.2 with q | q
    · have b0 := bI q
      have put : ∀ {y}, y ∈ r → y ≠ c → y ≠ d → (btw r (Ax V S s i 0) (Ax V S s i 1) y ↔ btw r (Ax V S s i 0) (Ax V S s i 1) (Ax V S s1 i 0)) → y ∈ I := fun hy q1 q2 hw => by
        rcases mr _ hy q1 q2 with z | z
        · exact z
        · exact absurd (hw.2 b0) (bO z)
      exact .inl ⟨q, put g2 hc1.1 hc1.2 w1, put g3 hv1.1 hv1.2 w2, put g4 hv2.1 hv2.2 w3⟩
    · have b0 := bO q
      have put : ∀ {y}, y ∈ r → y ≠ c → y ≠ d → (btw r (Ax V S s i 0) (Ax V S s i 1) y ↔ btw r (Ax V S s i 0) (Ax V S s i 1) (Ax V S s1 i 0)) → y ∈ P ++ Q := fun hy q1 q2 hw => by
        rcases mr _ hy q1 q2 with z | z
        · exact absurd (hw.1 (bI z)) b0
        · exact z
      exact .inr ⟨q, put g2 hc1.1 hc1.2 w1, put g3 hv1.1 hv1.2 w2, put g4 hv2.1 hv2.2 w3⟩
  have shI : ∀ {c d x}, c ∈ I → d ∈ I → x ∈ I → (btw r c d x ↔ btw I c d x) := fun hc hd hx => btw_sh _ (fI _ hc).1 (fI _ hd).1 (fI _ hx).1
  have old : ∀ r' ∈ wo a a 0 rs, r' ∈ rs ∧ DjL r' r := fun r' hr' => by
    obtain ⟨m, hm, h1, h2⟩ := wo_mem hr'
    exact ⟨List.mem_of_getElem? hm, pw_get W.dj hm ha (by omega)⟩
  have ord : ∀ {y}, y ∈ P ++ Q → (y ∈ P ∧ r.idxOf y = (P ++ Q).idxOf y ∧ (P ++ Q).idxOf y < P.length) ∨ (y ∈ Q ∧ r.idxOf y = (P ++ Q).idxOf y + (I.length + 2) ∧ P.length ≤ (P ++ Q).idxOf y) := fun {y} hy => by
    rcases List.mem_append.1 hy with q | q
    · have := fP y q; exact .inl ⟨q, by omega, by omega⟩
    · have := fQ y q; exact .inr ⟨q, by omega, by omega⟩
  have shO : ∀ {c d x}, c ∈ P ++ Q → d ∈ P ++ Q → x ∈ P ++ Q → (btw r c d x ↔ btw (P ++ Q) c d x) := fun hc hd hx => by
    have h1 : ∀ {y z}, y ∈ P ++ Q → z ∈ P ++ Q → (r.idxOf y < r.idxOf z ↔ (P ++ Q).idxOf y < (P ++ Q).idxOf z) := fun hy hz => by
      rcases ord hy with q | q <;> rcases ord hz with w | w <;> omega
    unfold btw
    rw [h1 hc hx, h1 hx hd, h1 hd hx, h1 hx hc]
  have ncOf : ∀ X : List Int, (∀ y ∈ X, y ∈ r) → (∀ {c d x}, c ∈ X → d ∈ X → x ∈ X → (btw r c d x ↔ btw X c d x)) → (∀ {s1 e1}, s1 ≠ s → Lk ps s1 e1 → Ax V S s1 i 0 ∈ X → Four V S i s1 e1 X) → NC V S i (ps.set s (-1, -1)) X := fun X hX sh hf => by
    intro s1 e1 h1 h2
    obtain ⟨hne, hl1⟩ := L2 h1
    obtain ⟨f1, f2, f3, f4⟩ := hf hne hl1 h2
    obtain ⟨m1, m2⟩ := W.nc r hr s1 e1 hl1 (hX _ f1)
    refine ⟨by rw [← sh f1 f2 f3, ← sh f1 f2 f4]; exact m1, fun s2 e2 hne2 h3 h4 => ?_⟩
    obtain ⟨hne3, hl3⟩ := L2 h3
    obtain ⟨g1, g2, g3, g4⟩ := hf hne3 hl3 h4
    obtain ⟨w1, w2, w3⟩ := m2 s2 e2 hne2 hl3 (hX _ g1)
    rw [← sh f1 f2 g1, ← sh f1 f2 g2, ← sh f1 f2 g3, ← sh f1 f2 g4]
    exact ⟨w1, w2, w3⟩
  have memOf : ∀ X : List Int, (∀ y ∈ X, y ∈ r) → (∀ y ∈ X, y ≠ c ∧ y ≠ d) → Mm V S i (ps.set s (-1, -1)) X := fun X hX hcd' y hy => by
    rcases W.mem r hr y (hX y hy) with h | ⟨s', e', d', hl', hd', h⟩
    · exact .inl h
    · refine .inr ⟨s', e', d', L'.2 (.inr ⟨fun q => ?_, hl'⟩), hd', h⟩
      subst q
      have := hcd' y hy
      rcases hcd with ⟨rfl, rfl⟩ | ⟨rfl, rfl⟩ <;> rcases hd' with rfl | rfl
      · exact this.1 h
      · exact this.2 h
      · exact this.2 h
      · exact this.1 h
  have nO : (P ++ Q).Nodup := List.nodup_append.2 ⟨nP, nQ, fun y hy z hz e => n3 y (by simp [hy]) z (by simp [hz]) e⟩
  have inI : I ∈ wo a a 0 rs ++ [I, P ++ Q] := by simp
  have inO : P ++ Q ∈ wo a a 0 rs ++ [I, P ++ Q] := by simp
  refine ⟨by rw [List.length_set]; exact W.len, fun s' e' h => ?_, fun r' hr' => ?_, List.pairwise_append.2 ⟨W.dj.sublist (wo_sub _ _ _ _), ?_, fun r1 hr1 r2 hr2 => ?_⟩, fun r' hr' => ?_, fun w h1 h2 => ?_, fun s' e' h => ?_, fun r' hr' => ?_⟩
  · by_cases q : s = s'
    · subst q
      rw [List.getElem?_set_self hsl] at h
      exact .inl (Option.some.inj h).symm
    · rw [List.getElem?_set_ne q] at h
      exact W.val s' e' h
  · rcases List.mem_append.1 hr' with h | h
    · exact W.nod r' (old r' h).1
    · simp only [List.mem_cons, List.not_mem_nil, or_false] at h
      rcases h with rfl | rfl
      · exact nI
      · exact nO
  · rw [List.pairwise_cons]
    refine ⟨fun r2 hr2 => ?_, by simp⟩
    simp only [List.mem_singleton] at hr2; subst hr2
    exact dIO
  · obtain ⟨o1, o2⟩ := old r1 hr1
    simp only [List.mem_cons, List.not_mem_nil, or_false] at hr2
    rcases hr2 with rfl | rfl
    · exact fun y hy q => o2 y hy (mI y q)
    · exact fun y hy q => o2 y hy (mO y q)
  · rcases List.mem_append.1 hr' with h | h
    · obtain ⟨o1, o2⟩ := old r' h
      intro y hy
      rcases W.mem r' o1 y hy with h | ⟨s', e', d', hl', hd', h⟩
      · exact .inl h
      · refine .inr ⟨s', e', d', L'.2 (.inr ⟨fun q => ?_, hl'⟩), hd', h⟩
        subst q
        refine o2 y hy ?_
        obtain ⟨g1, g2, _⟩ := W.row_of hl hr a0
        rcases hd' with rfl | rfl
        · rw [h]; exact g1
        · rw [h]; exact g2
    · simp only [List.mem_cons, List.not_mem_nil, or_false] at h
      rcases h with rfl | rfl
      · exact memOf _ mI yI
      · exact memOf _ mO yO
  · obtain ⟨r', hr', hy⟩ := W.cov w h1 h2
    obtain ⟨m, hm⟩ := List.mem_iff_getElem?.1 hr'
    by_cases q : m = a
    · subst q
      rw [ha] at hm
      obtain rfl := Option.some.inj hm
      have := vc w ⟨h1, h2⟩
      rcases mr _ hy this.1 this.2 with z | z
      · exact ⟨I, inI, z⟩
      · exact ⟨P ++ Q, inO, z⟩
    · exact ⟨r', List.mem_append.2 (.inl (mem_wo hm (by omega) (by omega))), hy⟩
  · obtain ⟨hne, hl1⟩ := L2 h
    obtain ⟨r', hr', f⟩ := W.lin s' e' hl1
    obtain ⟨m, hm⟩ := List.mem_iff_getElem?.1 hr'
    by_cases q : m = a
    · subst q
      rw [ha] at hm
      obtain rfl := Option.some.inj hm
      rcases side hne hl1 f.1 with z | z
      · exact ⟨I, inI, z⟩
      · exact ⟨P ++ Q, inO, z⟩
    · exact ⟨r', List.mem_append.2 (.inl (mem_wo hm (by omega) (by omega))), f⟩
  · rcases List.mem_append.1 hr' with h | h
    · obtain ⟨o1, o2⟩ := old r' h
      intro s1 e1 h1 h2
      obtain ⟨hne, hl1⟩ := L2 h1
      exact ⟨(W.nc r' o1 s1 e1 hl1 h2).1, fun s2 e2 hne2 h3 h4 => (W.nc r' o1 s1 e1 hl1 h2).2 s2 e2 hne2 (L2 h3).2 h4⟩
    · simp only [List.mem_cons, List.not_mem_nil, or_false] at h
      rcases h with rfl | rfl
      · refine ncOf _ mI shI fun {s1 e1} hne h h0 => ?_
        rcases side hne h (mI _ h0) with z | z
        · exact z
        · exact absurd z.1 (dIO _ h0)
      · refine ncOf _ mO shO fun {s1 e1} hne h h0 => ?_
        rcases side hne h (mO _ h0) with z | z
        · exact absurd h0 (dIO _ z.1)
        · exact z
end Go.Det.E

/- The play of 10 in memory. -/
namespace Go.Det.E
open Go.Proofs Go.Det Go.Det.U
variable {h hh k h' : Heap} {a b q n n0 : Nat} {V S T x y p f u w sl : Int} {l0 : Int → Int} {s s' : NS} {r A B : List Int} {rv av bv RW LK lv lk X : Value} {i j m : Nat} {rs rs' : List (List Int)} {ps ps' : List (Int × Int)} {rss : List (List (List Int))} {pss : List (List (Int × Int))} {rvs lvs lks : List Value} {rvss : List (List Value)} {cs : List Value} {e : Int × Int}
theorem put_list {G E : List Value} {a z n' : Nat} (hE : E.length = z) (h1 : a + z ≤ n') (h2 : n' ≤ G.length) : (G.take a ++ (E ++ G.drop (a + z))).take n' = (G.take n').take a ++ (E ++ (G.take n').drop (a + z)) := by
  have e : (G.take a).length = a := by rw [List.length_take]; omega
  rw [List.take_append, e, List.take_of_length_le (l := G.take a) (by rw [e]; omega), List.take_append, hE, List.take_of_length_le (l := E) (by rw [hE]; omega), List.take_take, Nat.min_eq_left (by omega), List.drop_take]
  congr 3; omega
/-- An element of a slice is stored. -/
theorem Sl.put {ε : Type} {enc : ε → List Value} {sz : Nat} {md : Md} {v : Value} {xs : List ε} {k : Nat} {x : ε} (S : Sl h sz enc v xs) (ho : h[slB v]? = some (.own cs)) (hk : k < xs.length) (hro : md.ro ≤ slB v) (hs : md.lim ≤ slB v ∨ (enc x).all scalar = true) :
    ∃ h', wrN md h (slB v) (slO v + k * sz) (enc x) = some h' ∧ Sl h' sz enc v (xs.set k x) ∧ h'.length = h.length ∧ (∃ cs', h'[slB v]? = some (.own cs')) ∧ ∀ y, y ≠ slB v → h'[y]? = h[y]? := by
  have he := S.he
  rcases S.is with ⟨rfl, rfl⟩ | ⟨b, o, kb, rfl, hb, hc, hl⟩
  · simp at hk
  · have hb2 : h[b]? = some (.own cs) := ho
    rw [hb] at hb2
    obtain rfl := Option.some.inj hb2
    replace hc : (cs.drop o).take (xs.length * sz) = flat enc xs := hc
    replace hl : o + xs.length * sz ≤ cs.length := hl
    have hm : (k + 1) * sz ≤ xs.length * sz := Nat.mul_le_mul_right _ hk
    rw [Nat.succ_mul] at hm
    have hx := he x
    have w : wrN md h b (o + k * sz) (enc x) = some (h.set b (.own (lay cs (o + k * sz) (enc x)))) := wr_at hb (by rw [hx]; omega) hro hs
    refine ⟨h.set b (.own (lay cs (o + k * sz) (enc x))), w, ?_, by simp, ⟨_, set_same (lt_of hb)⟩, fun y hy => set_else hy⟩
    have ll : (lay cs (o + k * sz) (enc x)).length = cs.length := lay_length _ _ _
    have hc2 : ((lay cs (o + k * sz) (enc x)).drop o).take (xs.length * sz) = flat enc (xs.set k x) := by
      have lf := lay_flat he xs x hk
      rw [lay_eq _ _ _ (by rw [hx, flat_len he]; omega)] at lf
      rw [← lf, ← hc, hx, lay_eq _ _ _ (by rw [hx]; omega), hx]
      have e1 : (cs.take (o + k * sz)).drop o = (cs.drop o).take (k * sz) := by rw [List.drop_take]; congr 1; omega
      have e2 : (cs.take (o + k * sz)).length = o + k * sz := by rw [List.length_take]; omega
      have e3 : cs.drop (o + k * sz + sz) = (cs.drop o).drop (k * sz + sz) := by rw [List.drop_drop]; congr 1; omega
      rw [List.drop_append_of_le_length (by omega), e1, e3]
      exact put_list hx hm (by rw [List.length_drop]; omega)
    have hl2 : (xs.set k x).length = xs.length := List.length_set
    have := Sl.part (h := h.set b (.own (lay cs (o + k * sz) (enc x)))) (b := b) (o := o) (n := xs.length) (xs := xs.set k x) he (set_same (lt_of hb)) (by rw [hl2]; exact hc2) (by rw [hl2]; show _ ≤ (lay _ _ _).length; omega) hl2.symm
    exact this
/-- The blocks that a step may change. -/
def Mt (a b : Nat) (RW : Value) (lks : List Value) (y : Nat) : Prop := y = a ∨ y = b ∨ y = slB RW ∨ ∃ lk ∈ lks, y = slB lk
structure H10 (V S T : Int) (l0 : Int → Int) (a b q n0 : Nat) (RW LK : Value) (lvs lks : List Value) (rvss : List (List Value)) (s : NS) (rss : List (List (List Int))) (pss : List (List (Int × Int))) (h : Heap) : Prop where
  th : TH V S T l0 a b s h
  hq : h[q]? = some (.own (pC V S T a RW LK))
  rw : Sl h 1 eV RW lvs
  lk : Sl h 1 eV LK lks
  ll : lvs.length = rss.length ∧ rvss.length = rss.length ∧ lks.length = pss.length
  lr : ∀ (i : Nat) (lv : Value) (rvs : List Value) (rs : List (List Int)), lvs[i]? = some lv → rvss[i]? = some rvs → rss[i]? = some rs → LR h lv rvs rs
  lp : ∀ (i : Nat) (lk : Value) (ps : List (Int × Int)), lks[i]? = some lk → pss[i]? = some ps → Sl h 2 eZ2 lk ps
  oR : ∃ cs, h[slB RW]? = some (.own cs)
  oL : ∀ lk ∈ lks, ∃ cs, h[slB lk]? = some (.own cs)
  sq : ¬ Mt a b RW lks q
  sK : ¬ Mt a b RW lks (slB LK)
  sl : ∀ lv ∈ lvs, ¬ Mt a b RW lks (slB lv)
  sv : ∀ rvs ∈ rvss, ∀ rv ∈ rvs, ¬ Mt a b RW lks (slB rv)
  mR : slB RW ≠ a ∧ slB RW ≠ b ∧ ∀ lk ∈ lks, slB lk ≠ slB RW ∧ slB lk ≠ a ∧ slB lk ≠ b
  mL : ∀ (i j : Nat) (x y : Value), i ≠ j → lks[i]? = some x → lks[j]? = some y → slB x ≠ slB y
  lo : 0 < n0 ∧ n0 ≤ q ∧ n0 ≤ a ∧ n0 ≤ b ∧ n0 ≤ slB RW ∧ ∀ lk ∈ lks, n0 ≤ slB lk
theorem H10.lt_mt (H : H10 V S T l0 a b q n0 RW LK lvs lks rvss s rss pss h) {y : Nat} (hy : Mt a b RW lks y) : n0 ≤ y ∧ y < h.length := by
  obtain ⟨la, lb⟩ := H.th.la
  obtain ⟨cs, hc⟩ := H.oR
  have := lt_of hc
  have lo := H.lo
  rcases hy with rfl | rfl | rfl | ⟨lk, hlk, rfl⟩
  · omega
  · omega
  · omega
  · obtain ⟨cs, hc⟩ := H.oL lk hlk
    have := lt_of hc
    exact ⟨lo.2.2.2.2.2 lk hlk, this⟩
/-- Blocks that a step may change are as they were, but for the arena. -/
theorem H10.only (H : H10 V S T l0 a b q n0 RW LK lvs lks rvss s rss pss h) (A : TH V S T l0 a b s' h') (o : ∀ y, y < h.length → y ≠ a → y ≠ b → h'[y]? = h[y]?) : H10 V S T l0 a b q n0 RW LK lvs lks rvss s' rss pss h' := by
  have nm : ∀ {y}, ¬ Mt a b RW lks y → y < h.length → h'[y]? = h[y]? := fun hy hl => o _ hl (fun e => hy (.inl e)) (fun e => hy (.inr (.inl e)))
  obtain ⟨cR, hR⟩ := H.oR
  refine ⟨A, (nm H.sq (lt_of H.hq)).trans H.hq, H.rw.heap fun hl => o _ hl H.mR.1 H.mR.2.1, H.lk.heap fun hl => nm H.sK hl, H.ll, fun i lv rvs rs h1 h2 h3 => (H.lr i lv rvs rs h1 h2 h3).heap fun y hl hy => ?_, fun i lk ps h1 h2 => (H.lp i lk ps h1 h2).heap fun hl => o _ hl (H.mR.2.2 lk (List.mem_of_getElem? h1)).2.1 (H.mR.2.2 lk (List.mem_of_getElem? h1)).2.2, ⟨cR, (o _ (lt_of hR) H.mR.1 H.mR.2.1).trans hR⟩, fun lk hlk => ?_, H.sq, H.sK, H.sl, H.sv, H.mR, H.mL, H.lo⟩
  · rcases hy with rfl | ⟨rv, hrv, rfl⟩
    · exact nm (H.sl lv (List.mem_of_getElem? h1)) hl
    · exact nm (H.sv rvs (List.mem_of_getElem? h2) rv hrv) hl
  · obtain ⟨cs, hc⟩ := H.oL lk hlk
    exact ⟨cs, (o _ (lt_of hc) (H.mR.2.2 lk hlk).2.1 (H.mR.2.2 lk hlk).2.2).trans hc⟩
theorem H10.old (H : H10 V S T l0 a b q n0 RW LK lvs lks rvss s rss pss h) (o : ∀ y, y < h.length → h'[y]? = h[y]?) : H10 V S T l0 a b q n0 RW LK lvs lks rvss s rss pss h' := by
  obtain ⟨la, lb⟩ := H.th.la
  exact H.only (H.th.old (o a la) (o b lb)) fun y hy _ _ => o y hy
theorem set_get {α : Type} {xs : List α} {i j : Nat} {x y : α} (h : (xs.set i x)[j]? = some y) : (j = i ∧ y = x) ∨ (j ≠ i ∧ xs[j]? = some y) := by
  by_cases e : i = j
  · subst e
    rw [List.getElem?_set] at h
    simp only [if_pos] at h
    split at h
    · exact .inl ⟨rfl, (Option.some.inj h).symm⟩
    · cases h
  · rw [List.getElem?_set_ne e] at h
    exact .inr ⟨Ne.symm e, h⟩
theorem mem_set {α : Type} {xs : List α} {i : Nat} {x y : α} (h : y ∈ xs.set i x) : y = x ∨ y ∈ xs := by
  obtain ⟨j, hj⟩ := List.mem_iff_getElem?.1 h
  rcases set_get hj with ⟨_, e⟩ | ⟨_, e⟩
  · exact .inl e
  · exact .inr (List.mem_of_getElem? e)
/-- A level's rows are others now. -/
theorem H10.setRow {md : Md} (H : H10 V S T l0 a b q n0 RW LK lvs lks rvss s rss pss h) (hi : i < lvs.length) (hX : LR h X rvs rs) (sX : ¬ Mt a b RW lks (slB X)) (sv : ∀ rv ∈ rvs, ¬ Mt a b RW lks (slB rv)) (hro : md.ro ≤ slB RW) (hlim : md.lim ≤ slB RW) :
    ∃ h', wrN md h (slB RW) (slO RW + i) [X] = some h' ∧ H10 V S T l0 a b q n0 RW LK (lvs.set i X) lks (rvss.set i rvs) s (rss.set i rs) pss h' ∧ h'.length = h.length ∧ ∀ y, y ≠ slB RW → h'[y]? = h[y]? := by
  obtain ⟨cR, hR⟩ := H.oR
  obtain ⟨h', e1, S1, l1, oR', o⟩ := Sl.put (md := md) (x := X) H.rw hR hi hro (.inl hlim)
  rw [Nat.mul_one] at e1
  have nm : ∀ {y}, ¬ Mt a b RW lks y → h'[y]? = h[y]? := fun hy => o _ fun e => hy (.inr (.inr (.inl e)))
  obtain ⟨l3, l4, l5⟩ := H.ll
  refine ⟨h', e1, ⟨H.th.old (o _ (Ne.symm H.mR.1)) (o _ (Ne.symm H.mR.2.1)), (nm H.sq).trans H.hq, S1, H.lk.heap fun _ => nm H.sK, ⟨by simp [l3], by simp [l4], l5⟩, fun j lv rvs' rs' h1 h2 h3 => ?_, fun j lk ps h1 h2 => (H.lp j lk ps h1 h2).heap fun _ => o _ (H.mR.2.2 lk (List.mem_of_getElem? h1)).1, oR', fun lk hlk => ?_, H.sq, H.sK, fun lv hlv => ?_, fun rvs' hrvs => ?_, H.mR, H.mL, H.lo⟩, l1, o⟩
  · rcases set_get h1 with ⟨e, rfl⟩ | ⟨e, h1⟩
    · rcases set_get h2 with ⟨_, rfl⟩ | ⟨e', _⟩
      · rcases set_get h3 with ⟨_, rfl⟩ | ⟨e', _⟩
        · exact hX.heap fun y _ hy => by
            rcases hy with rfl | ⟨rv, hrv, rfl⟩
            · exact nm sX
            · exact nm (sv rv hrv)
        · exact absurd e e'
      · exact absurd e e'
    · rcases set_get h2 with ⟨e', _⟩ | ⟨_, h2⟩
      · exact absurd e' e
      · rcases set_get h3 with ⟨e', _⟩ | ⟨_, h3⟩
        · exact absurd e' e
        · exact (H.lr j lv rvs' rs' h1 h2 h3).heap fun y _ hy => by
            rcases hy with rfl | ⟨rv, hrv, rfl⟩
            · exact nm (H.sl lv (List.mem_of_getElem? h1))
            · exact nm (H.sv rvs' (List.mem_of_getElem? h2) rv hrv)
  · obtain ⟨cs, hc⟩ := H.oL lk hlk
    exact ⟨cs, (o _ (H.mR.2.2 lk hlk).1).trans hc⟩
  · rcases mem_set hlv with rfl | h
    · exact sX
    · exact H.sl lv h
  · rcases mem_set hrvs with rfl | h
    · exact sv
    · exact H.sv rvs' h
/-- A slot's link is another one now. -/
theorem H10.setLk {md : Md} {sn : Nat} (H : H10 V S T l0 a b q n0 RW LK lvs lks rvss s rss pss h) (hlk : lks[i]? = some lk) (hps : pss[i]? = some ps) (hs : sn < ps.length) (e : Int × Int) (hro : md.ro ≤ slB lk) :
    ∃ h', wrN md h (slB lk) (slO lk + sn * 2) [(Value.int .i64 e.1), (Value.int .i64 e.2)] = some h' ∧ H10 V S T l0 a b q n0 RW LK lvs lks rvss s rss (pss.set i (ps.set sn e)) h' ∧ h'.length = h.length ∧ ∀ y, y ≠ slB lk → h'[y]? = h[y]? := by
  have ml := List.mem_of_getElem? hlk
  obtain ⟨cs, hc⟩ := H.oL lk ml
  obtain ⟨h', e1, S1, l1, oL', o⟩ := Sl.put (md := md) (x := e) (H.lp i lk ps hlk hps) hc hs hro (.inr rfl)
  have nm : ∀ {y}, ¬ Mt a b RW lks y → h'[y]? = h[y]? := fun hy => o _ fun e => hy (.inr (.inr (.inr ⟨lk, ml, e⟩)))
  obtain ⟨l3, l4, l5⟩ := H.ll
  have m3 := H.mR.2.2 lk ml
  obtain ⟨cR, hR⟩ := H.oR
  refine ⟨h', e1, ⟨H.th.old (o _ (Ne.symm m3.2.1)) (o _ (Ne.symm m3.2.2)), (nm H.sq).trans H.hq, H.rw.heap fun _ => o _ (Ne.symm m3.1), H.lk.heap fun _ => nm H.sK, ⟨l3, l4, by simp [l5]⟩, fun j lv rvs' rs' h1 h2 h3 => (H.lr j lv rvs' rs' h1 h2 h3).heap fun y _ hy => ?_, fun j lk' ps' h1 h2 => ?_, ⟨cR, (o _ (Ne.symm m3.1)).trans hR⟩, fun lk' hlk' => ?_, H.sq, H.sK, H.sl, H.sv, H.mR, H.mL, H.lo⟩, l1, o⟩
  · rcases hy with rfl | ⟨rv, hrv, rfl⟩
    · exact nm (H.sl lv (List.mem_of_getElem? h1))
    · exact nm (H.sv rvs' (List.mem_of_getElem? h2) rv hrv)
  · rcases set_get h2 with ⟨e', rfl⟩ | ⟨e', h2⟩
    · subst e'
      rw [hlk] at h1
      obtain rfl := Option.some.inj h1
      exact S1
    · exact (H.lp j lk' ps' h1 h2).heap fun _ => o _ (H.mL j i lk' lk e' h1 hlk)
  · obtain ⟨cs', hc'⟩ := H.oL lk' hlk'
    by_cases e' : slB lk' = slB lk
    · rw [e']; exact oL'
    · exact ⟨cs', (o _ e').trans hc'⟩
end Go.Det.E

/- Tours with no program in sight: what links join. -/
namespace Go.Det.E
open Go.Proofs Go.Det Go.Det.U
variable {V S T : Int} {r A B P I Q : List Int} {c d x y t k u v w : Int} {i j m n s a b p q : Nat} {rs rs' old : List (List Int)} {ps ps' : List (Int × Int)} {e : Int × Int}
def Adj (ps : List (Int × Int)) (v w : Int) : Prop := ∃ (s : Nat) (e : Int × Int), Lk ps s e ∧ ((e.1 = v ∧ e.2 = w) ∨ (e.2 = v ∧ e.1 = w))
inductive Conn (ps : List (Int × Int)) (u : Int) : Int → Prop where
  | refl : Conn ps u u
  | step {v w : Int} : Conn ps u v → Adj ps v w → Conn ps u w
theorem Conn.trans {u v w : Int} (h : Conn ps u v) (h' : Conn ps v w) : Conn ps u w := by
  induction h' with
  | refl => exact h
  | step _ a ih => exact ih.step a
theorem Adj.symm {v w : Int} (h : Adj ps v w) : Adj ps w v := by
  obtain ⟨s, e, hl, q⟩ := h
  exact ⟨s, e, hl, q.symm.imp (fun z => ⟨z.2, z.1⟩) (fun z => ⟨z.2, z.1⟩)⟩
theorem Conn.symm {u v : Int} (h : Conn ps u v) : Conn ps v u := by
  induction h with
  | refl => exact .refl
  | step _ a ih => exact (Conn.refl.step a.symm).trans ih
theorem Conn.mono {u v : Int} (hm : ∀ (s : Nat) (e : Int × Int), Lk ps s e → Lk ps' s e) (h : Conn ps u v) : Conn ps' u v := by
  induction h with
  | refl => exact .refl
  | step _ a ih => obtain ⟨s, e, hl, q⟩ := a; exact ih.step ⟨s, e, hm s e hl, q⟩
/-- Without a slot, whose ends are on two sides, its side stays joined. -/
theorem conn_cut {Z : Int → Prop} {u a : Int} (hL : ∀ (s' : Nat) (e' : Int × Int), Lk ps s' e' → s' ≠ s → Lk ps' s' e') (hs : ∀ (s' : Nat) (e' : Int × Int), s' ≠ s → Lk ps s' e' → (Z e'.1 ↔ Z e'.2)) (hl : Lk ps s e) (he : (Z e.1 ∧ ¬ Z e.2 ∧ a = e.1) ∨ (Z e.2 ∧ ¬ Z e.1 ∧ a = e.2)) (hu : Z u) {y : Int} (h : Conn ps u y) : (Z y → Conn ps' u y) ∧ (¬ Z y → Conn ps' u a) := by
  induction h with
  | refl => exact ⟨fun _ => .refl, fun h => absurd hu h⟩
  | @step v w h0 ad ih =>
    obtain ⟨s', e', hl', q⟩ := ad
    by_cases hne : s' = s
    · subst hne
      obtain rfl := lk_uniq hl hl'
      rcases he with ⟨z1, z2, rfl⟩ | ⟨z1, z2, rfl⟩ <;> rcases q with ⟨rfl, rfl⟩ | ⟨rfl, rfl⟩
      · exact ⟨fun h => absurd h z2, fun _ => ih.1 z1⟩
      · exact ⟨fun _ => ih.2 z2, fun h => absurd z1 h⟩
      · exact ⟨fun _ => ih.2 z2, fun h => absurd z1 h⟩
      · exact ⟨fun h => absurd h z2, fun _ => ih.1 z1⟩
    · have sd := hs s' e' hne hl'
      have hadj : Adj ps' v w := ⟨s', e', hL s' e' hl' hne, q⟩
      have zz : Z v ↔ Z w := by
        rcases q with ⟨rfl, rfl⟩ | ⟨rfl, rfl⟩
        · exact sd
        · exact sd.symm
      exact ⟨fun h => (ih.1 (zz.2 h)).step hadj, fun h => ih.2 fun h' => h (zz.1 h')⟩
/-- Whoever is in one row is joined. -/
def CWl (V : Int) (i : Nat) (rs : List (List Int)) (ps : List (Int × Int)) : Prop := ∀ r ∈ rs, ∀ u v : Int, (0 ≤ u ∧ u < V) → (0 ≤ v ∧ v < V) → Vx V i u ∈ r → Vx V i v ∈ r → Conn ps u v
/-- Whoever is joined is in one row. -/
theorem WF.conn (W : WF V S i rs ps) (hr : r ∈ rs) {u v : Int} (hu : Vx V i u ∈ r) (h : Conn ps u v) : Vx V i v ∈ r := by
  induction h with
  | refl => exact hu
  | step _ ad ih =>
    obtain ⟨s, e, hl, q⟩ := ad
    obtain ⟨r', hr', f1, f2, f3, f4⟩ := W.lin s e hl
    rcases q with ⟨rfl, rfl⟩ | ⟨rfl, rfl⟩
    · rw [W.uniq hr hr' ih f3]; exact f4
    · rw [W.uniq hr hr' ih f4]; exact f3
theorem CWl.begin (C0 : CWl V i rs ps) (hj : rs[j]? = some r) (m : Nat) : CWl V i (rs.set j (rotR r m)) ps := by
  intro r' hr' u v hu hv h1 h2
  rcases set_mem hj hr' with rfl | h
  · exact C0 r (List.mem_of_getElem? hj) u v hu hv (rot_mem.1 h1) (rot_mem.1 h2)
  · exact C0 r' h u v hu hv h1 h2
theorem CWl.link (hR : Rt V S T) (hi : (i : Int) < Lv V) (W : WF V S i rs ps) (C0 : CWl V i rs ps) (ha : rs[a]? = some A) (hb : rs[b]? = some B) (hs : ps[s]? = some (-1, -1)) (hu : 0 ≤ u ∧ u < V) (hv : 0 ≤ v ∧ v < V) (hp : A[p]? = some (Vx V i u)) (hq : B[q]? = some (Vx V i v)) :
    CWl V i (wo a b 0 rs ++ [linkR A B p q (Ax V S s i 0) (Ax V S s i 1)]) (ps.set s (u, v)) := by
  have hsl := (List.getElem?_eq_some_iff.1 hs).1
  have hS : (s : Int) < S := by have := W.len; omega
  have L' := fun {s' : Nat} {e' : Int × Int} => lk_set (ps := ps) (s := s) (e := (u, v)) (s' := s') (e' := e') hsl
  have mono : ∀ (s' : Nat) (e' : Int × Int), Lk ps s' e' → Lk (ps.set s (u, v)) s' e' := fun s' e' h => L'.2 (.inr ⟨fun q => by
    subst q
    have := h.1
    rw [hs] at this
    obtain rfl := Option.some.inj this
    exact absurd h.2 (by decide), h⟩)
  have uA := List.mem_of_getElem? hp
  have vB := List.mem_of_getElem? hq
  have hA := List.mem_of_getElem? ha
  have hB := List.mem_of_getElem? hb
  have edge : Adj (ps.set s (u, v)) u v := ⟨s, (u, v), L'.2 (.inl ⟨rfl, rfl, hu.1⟩), .inl ⟨rfl, rfl⟩⟩
  intro r hr x y hx hy h1 h2
  rcases List.mem_append.1 hr with h | h
  · obtain ⟨m, hm, _, _⟩ := wo_mem h
    exact (C0 r (List.mem_of_getElem? hm) x y hx hy h1 h2).mono mono
  · simp only [List.mem_singleton] at h; subst h
    have cl : ∀ z : Int, 0 ≤ z ∧ z < V → Vx V i z ∈ linkR A B p q (Ax V S s i 0) (Ax V S s i 1) → Conn (ps.set s (u, v)) u z := fun z hz hm => by
      unfold linkR at hm
      simp only [List.mem_append, List.mem_singleton] at hm
      rcases hm with ((h | h) | h) | h
      · exact (C0 A hA u z hu hz uA (rot_mem.1 h)).mono mono
      · exact absurd h (VA_ne hR hi hi hz hS (.inl rfl))
      · exact (Conn.refl.step edge).trans ((C0 B hB v z hv hz vB (rot_mem.1 h)).mono mono)
      · exact absurd h (VA_ne hR hi hi hz hS (.inr rfl))
    exact (cl x hx h1).symm.trans (cl y hy h2)
/-- What stands between the two of a cut is so in the row. -/
theorem cut_btw (hR : Rt V S T) (hcd : (c = Ax V S s i 0 ∧ d = Ax V S s i 1) ∨ (c = Ax V S s i 1 ∧ d = Ax V S s i 0)) (er : r = (P ++ c :: I) ++ d :: Q) (nn : r.Nodup) : (∀ x ∈ I, btw r (Ax V S s i 0) (Ax V S s i 1) x) ∧ ∀ x ∈ P ++ Q, ¬ btw r (Ax V S s i 0) (Ax V S s i 1) x := by
  have hn := nn
  rw [er] at hn
  obtain ⟨fP, fc, fI, fd, fQ⟩ := cut_idx hn
  rw [← er] at fP fc fI fd fQ
  refine ⟨fun x hx => ?_, fun x hx h => ?_⟩
  · have h3 := fI _ hx
    have : btw r c d x := btw_in (by rw [fc, h3.1]; omega) (by rw [fd, h3.1]; omega)
    rcases hcd with ⟨rfl, rfl⟩ | ⟨rfl, rfl⟩
    · exact this
    · exact btw_symm.1 this
  · have hb : btw r c d x := by
      rcases hcd with ⟨rfl, rfl⟩ | ⟨rfl, rfl⟩
      · exact h
      · exact btw_symm.1 h
    rcases List.mem_append.1 hx with q | q
    · have h3 := fP _ q
      exact btw_lo (by rw [fc, h3.1]; omega) (by rw [fd, h3.1]; omega) hb
    · have h3 := fQ _ q
      exact btw_hi (by rw [fc, h3.1]; omega) (by rw [fd, h3.1]; omega) hb
/-- The ends of a slot that is cut are on two sides. -/
theorem cut_ends (hR : Rt V S T) (hi : (i : Int) < Lv V) (W : WF V S i rs ps) (hr : r ∈ rs) (hl : Lk ps s e) (hcd : (c = Ax V S s i 0 ∧ d = Ax V S s i 1) ∨ (c = Ax V S s i 1 ∧ d = Ax V S s i 0)) (er : r = (P ++ c :: I) ++ d :: Q) : (Vx V i e.1 ∈ I ∧ Vx V i e.2 ∈ P ++ Q) ∨ (Vx V i e.2 ∈ I ∧ Vx V i e.1 ∈ P ++ Q) := by
  have nn := W.nod r hr
  obtain ⟨bI, bO⟩ := cut_btw hR hcd er nn
  have hS : (s : Int) < S := hl.lt W.len
  have a0 : Ax V S s i 0 ∈ r := by rcases hcd with ⟨rfl, rfl⟩ | ⟨rfl, rfl⟩ <;> rw [er] <;> simp
  obtain ⟨g1, g2, g3, g4⟩ := W.row_of hl hr a0
  have hsd := (W.nc r hr s e hl a0).1
  have ee := W.ends hl
  have vc : ∀ w : Int, 0 ≤ w ∧ w < V → Vx V i w ≠ c ∧ Vx V i w ≠ d := fun w hw => by
    have q0 := VA_ne hR hi hi hw hS (.inl rfl) (d := 0)
    have q1 := VA_ne hR hi hi hw hS (.inr rfl) (d := 1)
    rcases hcd with ⟨rfl, rfl⟩ | ⟨rfl, rfl⟩
    · exact ⟨q0, q1⟩
    · exact ⟨q1, q0⟩
  have mr : ∀ y ∈ r, y ≠ c → y ≠ d → y ∈ I ∨ y ∈ P ++ Q := fun y hy h1 h2 => by
    rw [er] at hy
    simp only [List.mem_append, List.mem_cons, h1, h2, false_or] at hy ⊢
    rcases hy with (h | h) | h
    · exact .inr (.inl h)
    · exact .inl h
    · exact .inr (.inr h)
  have v1 := vc _ ee.1
  have v2 := vc _ ee.2
  rcases mr _ g3 v1.1 v1.2 with h | h <;> rcases mr _ g4 v2.1 v2.2 with h' | h'
  · exact absurd (bI _ h') (hsd.1 (bI _ h))
  · exact .inl ⟨h, h'⟩
  · exact .inr ⟨h', h⟩
  · exact absurd (hsd.2 (bO _ h')) (bO _ h)
theorem CWl.cut (hR : Rt V S T) (hi : (i : Int) < Lv V) (W : WF V S i rs ps) (C0 : CWl V i rs ps) (ha : rs[a]? = some r) (hl : Lk ps s e) (hcd : (c = Ax V S s i 0 ∧ d = Ax V S s i 1) ∨ (c = Ax V S s i 1 ∧ d = Ax V S s i 0)) (er : r = (P ++ c :: I) ++ d :: Q) : CWl V i (wo a a 0 rs ++ [I, P ++ Q]) (ps.set s (-1, -1)) := by
  have hr := List.mem_of_getElem? ha
  have hsl := (List.getElem?_eq_some_iff.1 hl.1).1
  have W' := WF.cut hR hi W ha hl hcd er
  have L' := fun {s' : Nat} {e' : Int × Int} => lk_set (ps := ps) (s := s) (e := (-1, -1)) (s' := s') (e' := e') hsl
  have hL : ∀ (s' : Nat) (e' : Int × Int), Lk ps s' e' → s' ≠ s → Lk (ps.set s (-1, -1)) s' e' := fun s' e' h hne => L'.2 (.inr ⟨hne, h⟩)
  have inI : I ∈ wo a a 0 rs ++ [I, P ++ Q] := by simp
  have inO : P ++ Q ∈ wo a a 0 rs ++ [I, P ++ Q] := by simp
  have ends := cut_ends hR hi W hr hl hcd er
  have nIO : ∀ y, y ∈ I → y ∉ P ++ Q := fun y h1 h2 => by
    have nn := W.nod r hr
    obtain ⟨bI, bO⟩ := cut_btw hR hcd er nn
    exact bO y h2 (bI y h1)
  -- a new row's other slots are on one side
  have side : ∀ X ∈ wo a a 0 rs ++ [I, P ++ Q], ∀ (s' : Nat) (e' : Int × Int), s' ≠ s → Lk ps s' e' → (Vx V i e'.1 ∈ X ↔ Vx V i e'.2 ∈ X) := fun X hX s' e' hne h => by
    obtain ⟨r', hr', f1, f2, f3, f4⟩ := W'.lin s' e' (hL s' e' h hne)
    constructor
    · intro q; rw [W'.uniq hX hr' q f3]; exact f4
    · intro q; rw [W'.uniq hX hr' q f4]; exact f3
  have part : ∀ X, X ∈ wo a a 0 rs ++ [I, P ++ Q] → (∀ y ∈ X, y ∈ r) → ((Vx V i e.1 ∈ X ∧ ¬ Vx V i e.2 ∈ X) ∨ (Vx V i e.2 ∈ X ∧ ¬ Vx V i e.1 ∈ X)) → ∀ u v : Int, (0 ≤ u ∧ u < V) → (0 ≤ v ∧ v < V) → Vx V i u ∈ X → Vx V i v ∈ X → Conn (ps.set s (-1, -1)) u v := fun X hX hsub he u v hu hv h1 h2 => by
    have h0 := C0 r hr u v hu hv (hsub _ h1) (hsub _ h2)
    rcases he with ⟨z1, z2⟩ | ⟨z1, z2⟩
    · exact (conn_cut (Z := fun w => Vx V i w ∈ X) (a := e.1) hL (side X hX) hl (.inl ⟨z1, z2, rfl⟩) h1 h0).1 h2
    · exact (conn_cut (Z := fun w => Vx V i w ∈ X) (a := e.2) hL (side X hX) hl (.inr ⟨z1, z2, rfl⟩) h1 h0).1 h2
  intro r' hr' u v hu hv h1 h2
  rcases List.mem_append.1 hr' with h | h
  · obtain ⟨m, hm, q1, _⟩ := wo_mem h
    have hr2 := List.mem_of_getElem? hm
    have h0 := C0 r' hr2 u v hu hv h1 h2
    -- none of the slot's ends is here: paths keep to this row
    have no : ∀ y : Int, Conn ps u y → Conn (ps.set s (-1, -1)) u y := fun y hy => by
      induction hy with
      | refl => exact .refl
      | step h' ad ih =>
        obtain ⟨s', e', hl', q⟩ := ad
        refine ih.step ⟨s', e', hL s' e' hl' fun hne => ?_, q⟩
        subst hne
        obtain rfl := lk_uniq hl hl'
        have hv' := W.conn hr2 h1 h'
        have a0 : Ax V S s' i 0 ∈ r := by rcases hcd with ⟨rfl, rfl⟩ | ⟨rfl, rfl⟩ <;> rw [er] <;> simp
        obtain ⟨_, _, g3, g4⟩ := W.row_of hl hr a0
        rcases q with ⟨rfl, rfl⟩ | ⟨rfl, rfl⟩
        · exact pw_get W.dj hm ha (by omega) _ hv' g3
        · exact pw_get W.dj hm ha (by omega) _ hv' g4
    exact no v h0
  · simp only [List.mem_cons, List.not_mem_nil, or_false] at h
    rcases h with rfl | rfl
    · refine part _ inI (fun y hy => by rw [er]; simp [hy]) ?_ u v hu hv h1 h2
      rcases ends with ⟨q1, q2⟩ | ⟨q1, q2⟩
      · exact .inl ⟨q1, fun h => nIO _ h q2⟩
      · exact .inr ⟨q1, fun h => nIO _ h q2⟩
    · refine part _ inO (fun y hy => by rw [er]; rcases List.mem_append.1 hy with q | q <;> simp [q]) ?_ u v hu hv h1 h2
      rcases ends with ⟨q1, q2⟩ | ⟨q1, q2⟩
      · exact .inr ⟨q2, fun h => nIO _ q1 h⟩
      · exact .inl ⟨q2, fun h => nIO _ q1 h⟩
end Go.Det.E

/- The play of 10: what is right of all levels; what a step leaves. -/
namespace Go.Det.E
open Go.Proofs Go.Det Go.Det.U
variable {h hh k h' : Heap} {a b q n n0 c : Nat} {V S T x y p f u w sl : Int} {l0 : Int → Int} {pr : Int → Int} {s s' : NS} {r A B xs : List Int} {rv av bv RW LK lv lk X : Value} {i j m : Nat} {rs rs' : List (List Int)} {ps ps' : List (Int × Int)} {rss rss' : List (List (List Int))} {pss pss' : List (List (Int × Int))} {rvs lvs lks : List Value} {rvss : List (List Value)} {cs : List Value} {e : Int × Int}
/-- All levels, in the document and in memory's trees. -/
structure PW (V S : Int) (pr : Int → Int) (c : Nat) (s : NS) (rss : List (List (List Int))) (pss : List (List (Int × Int))) : Prop where
  l1 : (rss.length : Int) = Lv V
  l2 : (pss.length : Int) = Lv V
  wf : ∀ (i : Nat) (rs : List (List Int)) (ps : List (Int × Int)), rss[i]? = some rs → pss[i]? = some ps → WF V S i rs ps
  hr : ∀ (i : Nat) (rs : List (List Int)), rss[i]? = some rs → ∀ r ∈ rs, HR V pr s r
  al : ∀ (i : Nat) (ps : List (Int × Int)), pss[i]? = some ps → ∀ (sn : Nat), (sn : Int) < S → (∀ e, ¬ Lk ps sn e) → ∀ d, (d = 0 ∨ d = 1) → HR V pr s [Ax V S sn i d]
  cnt : ∀ (i : Nat) (rs : List (List Int)), rss[i]? = some rs → rs.length ≤ c
  cw : ∀ (i : Nat) (rs : List (List Int)) (ps : List (Int × Int)), rss[i]? = some rs → pss[i]? = some ps → CWl V i rs ps
theorem PW.mono {c' : Nat} (W : PW V S pr c s rss pss) (h : c ≤ c') : PW V S pr c' s rss pss :=
  ⟨W.l1, W.l2, W.wf, W.hr, W.al, fun i rs hi => Nat.le_trans (W.cnt i rs hi) h, W.cw⟩
theorem PW.lev (W : PW V S pr c s rss pss) (hi : (i : Int) < Lv V) : ∃ rs ps, rss[i]? = some rs ∧ pss[i]? = some ps ∧ WF V S i rs ps := by
  have h1 := W.l1
  have h2 := W.l2
  have e1 : rss[i]? = some (rss[i]'(by omega)) := List.getElem?_eq_getElem (by omega)
  have e2 : pss[i]? = some (pss[i]'(by omega)) := List.getElem?_eq_getElem (by omega)
  exact ⟨_, _, e1, e2, W.wf i _ _ e1 e2⟩
theorem PW.change (hR : Rt V S T) (hi : (i : Int) < Lv V) (W : PW V S pr c s rss pss) (so : SameOut xs s s') (hxs : ∀ y ∈ xs, NL V S i y) (w' : WF V S i rs' ps') (hr' : ∀ r ∈ rs', HR V pr s' r) (al' : ∀ (sn : Nat), (sn : Int) < S → (∀ e, ¬ Lk ps' sn e) → ∀ d, (d = 0 ∨ d = 1) → HR V pr s' [Ax V S sn i d]) (hc : rs'.length ≤ c) (cw' : CWl V i rs' ps') : PW V S pr c s' (rss.set i rs') (pss.set i ps') := by
  have oth : ∀ {j : Nat}, j ≠ i → (j : Int) < Lv V → ∀ {y}, NL V S j y → y ∉ xs := fun hne hj y hy hq => hne (NL_lv hR hj hi hy (hxs _ hq))
  refine ⟨by rw [List.length_set]; exact W.l1, by rw [List.length_set]; exact W.l2, fun j rs1 ps1 h1 h2 => ?_, fun j rs1 h1 r hr => ?_, fun j ps1 h1 sn hs hn d hd => ?_, fun j rs1 h1 => ?_, fun j rs1 ps1 h1 h2 => ?_⟩
  · rcases set_get h1 with ⟨e1, rfl⟩ | ⟨e1, h1⟩
    · rcases set_get h2 with ⟨_, rfl⟩ | ⟨e2, _⟩
      · subst e1; exact w'
      · exact absurd e1 e2
    · rcases set_get h2 with ⟨e2, _⟩ | ⟨_, h2⟩
      · exact absurd e2 e1
      · exact W.wf j rs1 ps1 h1 h2
  · rcases set_get h1 with ⟨_, rfl⟩ | ⟨e1, h1⟩
    · exact hr' r hr
    · have hj : (j : Int) < Lv V := by have := (List.getElem?_eq_some_iff.1 h1).1; have := W.l1; omega
      obtain ⟨rs2, ps2, q1, q2, q3⟩ := W.lev hj
      rw [h1] at q1
      obtain rfl := Option.some.inj q1
      exact HR.same (W.hr j _ h1 r hr) (so.on fun y hy => oth e1 hj (q3.nl hr hy))
  · rcases set_get h1 with ⟨e1, rfl⟩ | ⟨e1, h1⟩
    · subst e1; exact al' sn hs hn d hd
    · have hj : (j : Int) < Lv V := by have := (List.getElem?_eq_some_iff.1 h1).1; have := W.l2; omega
      exact HR.same (W.al j _ h1 sn hs hn d hd) (so.on fun y hy => by simp only [List.mem_singleton] at hy; subst hy; exact oth e1 hj (.inr ⟨sn, d, hs, hd, rfl⟩))
  · rcases set_get h1 with ⟨_, rfl⟩ | ⟨e1, h1⟩
    · exact hc
    · exact W.cnt j _ h1
  · rcases set_get h1 with ⟨e1, rfl⟩ | ⟨e1, h1⟩
    · rcases set_get h2 with ⟨_, rfl⟩ | ⟨e2, _⟩
      · subst e1; exact cw'
      · exact absurd e1 e2
    · rcases set_get h2 with ⟨e2, _⟩ | ⟨_, h2⟩
      · exact absurd e2 e1
      · exact W.cw j rs1 ps1 h1 h2
theorem set_id {α : Type} {xs : List α} {i : Nat} {x : α} (h : xs[i]? = some x) : xs.set i x = xs := by
  refine List.ext_getElem? fun j => ?_
  by_cases e : i = j
  · subst e
    rw [List.getElem?_set_self (List.getElem?_eq_some_iff.1 h).1, h]
  · rw [List.getElem?_set_ne e]
theorem WF.small (hR : Rt V S T) (hi : (i : Int) < Lv V) (W : WF V S i rs ps) (hr : r ∈ rs) : r.length < 20000 := small_row hR (W.nod r hr) fun y hy => NL_nix hR hi (W.nl hr hy)
/-- A level after a row was begun. -/
theorem PW.begin (hR : Rt V S T) (hi : (i : Int) < Lv V) (W : PW V S pr c s rss pss) (hrs : rss[i]? = some rs) (hps : pss[i]? = some ps) (hj : rs[j]? = some r) (so : SameOut r s s') (hn : HR V pr s' (rotR r m)) : PW V S pr c s' (rss.set i (rs.set j (rotR r m))) pss := by
  have w := W.wf i rs ps hrs hps
  have hr := List.mem_of_getElem? hj
  rw [← set_id hps]
  refine PW.change hR hi W so (fun y hy => w.nl hr hy) (WF.begin hR hi w hj m) (fun r' hr' => ?_) (fun sn hs hl d hd => ?_) (by rw [List.length_set]; exact W.cnt i rs hrs) (CWl.begin (W.cw i rs ps hrs hps) hj m)
  · obtain ⟨b, hb⟩ := List.mem_iff_getElem?.1 hr'
    rcases set_get hb with ⟨_, rfl⟩ | ⟨e, hb⟩
    · exact hn
    · exact HR.same (W.hr i rs hrs r' (List.mem_of_getElem? hb)) (so.on fun y hy => pw_get w.dj hb hj e y hy)
  · refine HR.same (W.al i ps hps sn hs hl d hd) (so.on fun y hy q => ?_)
    simp only [List.mem_singleton] at hy; subst hy
    obtain ⟨e, he⟩ := w.arc hR hi hr hs hd q
    exact hl e he
theorem PW.link {a b p q sn : Nat} {v : Int} (hR : Rt V S T) (hi : (i : Int) < Lv V) (W : PW V S pr c s rss pss) (hrs : rss[i]? = some rs) (hps : pss[i]? = some ps) (ha : rs[a]? = some A) (hb : rs[b]? = some B) (hab : a ≠ b) (hs : ps[sn]? = some (-1, -1)) (hu : 0 ≤ u ∧ u < V) (hv : 0 ≤ v ∧ v < V) (hp : A[p]? = some (Vx V i u)) (hq : B[q]? = some (Vx V i v)) (so : SameOut (((A ++ [Ax V S sn i 0]) ++ B) ++ [Ax V S sn i 1]) s s') (hn : HR V pr s' (linkR A B p q (Ax V S sn i 0) (Ax V S sn i 1))) : PW V S pr (c + 1) s' (rss.set i (wo a b 0 rs ++ [linkR A B p q (Ax V S sn i 0) (Ax V S sn i 1)])) (pss.set i (ps.set sn (u, v))) := by
  have w := W.wf i rs ps hrs hps
  have hA := List.mem_of_getElem? ha
  have hB := List.mem_of_getElem? hb
  have hsl := (List.getElem?_eq_some_iff.1 hs).1
  have hS : (sn : Int) < S := by have := w.len; omega
  have nl : ∀ e, ¬ Lk ps sn e := fun e h => by
    have := h.1
    rw [hs] at this
    obtain rfl := Option.some.inj this
    exact absurd h.2 (by decide)
  have noarc : ∀ r ∈ rs, ∀ d, (d = 0 ∨ d = 1) → Ax V S sn i d ∉ r := fun r hr d hd h => by
    obtain ⟨e, he⟩ := w.arc hR hi hr hS hd h
    exact nl e he
  refine PW.change hR hi (W.mono (Nat.le_succ c)) so (fun y hy => ?_) (WF.link hR hi w ha hb hab hs hu hv hp hq) (fun r' hr' => ?_) (fun s2 hs2 hl d hd => ?_) ?_ (CWl.link hR hi w (W.cw i rs ps hrs hps) ha hb hs hu hv hp hq)
  · simp only [List.mem_append, List.mem_singleton] at hy
    rcases hy with ((h | h) | h) | h
    · exact w.nl hA h
    · exact .inr ⟨sn, 0, hS, .inl rfl, h⟩
    · exact w.nl hB h
    · exact .inr ⟨sn, 1, hS, .inr rfl, h⟩
  · rcases List.mem_append.1 hr' with h | h
    · obtain ⟨m, hm, h1, h2⟩ := wo_mem h
      have hr2 := List.mem_of_getElem? hm
      refine HR.same (W.hr i rs hrs r' hr2) (so.on fun y hy hq => ?_)
      simp only [List.mem_append, List.mem_singleton] at hq
      rcases hq with ((h | h) | h) | h
      · exact pw_get w.dj hm ha (by omega) y hy h
      · subst h; exact noarc r' hr2 0 (.inl rfl) hy
      · exact pw_get w.dj hm hb (by omega) y hy h
      · subst h; exact noarc r' hr2 1 (.inr rfl) hy
    · simp only [List.mem_singleton] at h; subst h; exact hn
  · have hne : s2 ≠ sn := fun e => by
      subst e
      exact hl (u, v) ((lk_set hsl).2 (.inl ⟨rfl, rfl, hu.1⟩))
    have hl2 : ∀ e, ¬ Lk ps s2 e := fun e he => hl e ((lk_set hsl).2 (.inr ⟨hne, he⟩))
    refine HR.same (W.al i ps hps s2 hs2 hl2 d hd) (so.on fun y hy hq => ?_)
    simp only [List.mem_singleton] at hy; subst hy
    simp only [List.mem_append, List.mem_singleton] at hq
    rcases hq with ((h | h) | h) | h
    · obtain ⟨e, he⟩ := w.arc hR hi hA hs2 hd h
      exact hl2 e he
    · exact hne (A_pos hR hi hi hs2 hS hd (.inl rfl) h).1
    · obtain ⟨e, he⟩ := w.arc hR hi hB hs2 hd h
      exact hl2 e he
    · exact hne (A_pos hR hi hi hs2 hS hd (.inr rfl) h).1
  · have := W.cnt i rs hrs
    have := (wo_sub a b rs 0).length_le
    simp; omega
theorem PW.cut {P I Q : List Int} {a sn : Nat} {c1 d1 : Int} (hR : Rt V S T) (hi : (i : Int) < Lv V) (W : PW V S pr c s rss pss) (hrs : rss[i]? = some rs) (hps : pss[i]? = some ps) (ha : rs[a]? = some r) (hl : Lk ps sn e) (hcd : (c1 = Ax V S sn i 0 ∧ d1 = Ax V S sn i 1) ∨ (c1 = Ax V S sn i 1 ∧ d1 = Ax V S sn i 0)) (er : r = (P ++ c1 :: I) ++ d1 :: Q) (so : SameOut r s s') (hI : HR V pr s' I) (hO : HR V pr s' (P ++ Q)) (h0 : HR V pr s' [Ax V S sn i 0]) (h1 : HR V pr s' [Ax V S sn i 1]) : PW V S pr (c + 2) s' (rss.set i (wo a a 0 rs ++ [I, P ++ Q])) (pss.set i (ps.set sn (-1, -1))) := by
  have w := W.wf i rs ps hrs hps
  have hr := List.mem_of_getElem? ha
  have hsl := (List.getElem?_eq_some_iff.1 hl.1).1
  refine PW.change hR hi (W.mono (show c ≤ c + 2 by omega)) so (fun y hy => w.nl hr hy) (WF.cut hR hi w ha hl hcd er) (fun r' hr' => ?_) (fun s2 hs2 hl2 d hd => ?_) ?_ (CWl.cut hR hi w (W.cw i rs ps hrs hps) ha hl hcd er)
  · rcases List.mem_append.1 hr' with h | h
    · obtain ⟨m, hm, q1, q2⟩ := wo_mem h
      exact HR.same (W.hr i rs hrs r' (List.mem_of_getElem? hm)) (so.on fun y hy => pw_get w.dj hm ha (by omega) y hy)
    · simp only [List.mem_cons, List.not_mem_nil, or_false] at h
      rcases h with rfl | rfl
      · exact hI
      · exact hO
  · by_cases hne : s2 = sn
    · subst hne
      rcases hd with rfl | rfl
      · exact h0
      · exact h1
    · have hl3 : ∀ e, ¬ Lk ps s2 e := fun e he => hl2 e ((lk_set hsl).2 (.inr ⟨hne, he⟩))
      refine HR.same (W.al i ps hps s2 hs2 hl3 d hd) (so.on fun y hy hq => ?_)
      simp only [List.mem_singleton] at hy; subst hy
      obtain ⟨e, he⟩ := w.arc hR hi hr hs2 hd hq
      exact hl3 e he
  · have := W.cnt i rs hrs
    have := (wo_sub a a rs 0).length_le
    simp; omega
end Go.Det.E
