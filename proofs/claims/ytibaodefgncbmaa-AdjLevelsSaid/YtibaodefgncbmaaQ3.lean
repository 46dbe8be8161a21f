/- Unlike cells have unlike numbers. -/
import Derived.Test.YtibaodefgncbmaaQ1
import Derived.Test.YtibaodefgncbmaaQ2
import Derived.Test.YtibaodefgncbmaaQ0
set_option autoImplicit false
set_option linter.unusedVariables false
set_option linter.unusedSimpArgs false
namespace Go.Det.E
open Go.Proofs Go.Det
attribute [local congr] bind_c cond_c
/-- Which kind of cell has a number. -/
def code (V S T x : Int) : Nat := if x < T then 0 else if x = T then 9 else if x < Hd S T then (if (x - T - 1) % 7 = 0 then 1 else if (x - T - 1) % 7 = 1 then 2 else if (x - T - 1) % 7 = 2 then 3 else if (x - T - 1) % 7 < 5 then 4 else 5) else if x < Eg V S T then 6 else if x < Nd V S T then 7 else 8
theorem hx_inj {V S T a b c d : Int} (hR : Rt V S T) (h0 : 0 ≤ Hx V S T a b) (h : Hx V S T a b = Hx V S T c d) : a = c ∧ b = d := by
  have h1 := hx_in (a := a) (b := b) hR
  have h2 := hx_in (a := c) (b := d) hR
  cases e1 : (Bl a V && Bl b (Lv V))
  · have := h1.2 e1; omega
  · cases e2 : (Bl c V && Bl d (Lv V))
    · have := h2.2 e2; omega
    · have g1 := (h1.1 e1).1
      have g2 := (h2.1 e2).1
      simp only [Bool.and_eq_true] at e1 e2
      have k1 := Bl_t.1 e1.2
      have k2 := Bl_t.1 e2.2
      rcases Lv_le hR with ⟨l1, l2⟩
      have : Lv V = 1 ∨ Lv V = 2 ∨ Lv V = 3 ∨ Lv V = 4 ∨ Lv V = 5 := by omega
      rcases this with h' | h' | h' | h' | h' <;> rw [h'] at g1 g2 k1 k2 <;> omega
theorem ex_inj {V S T a b c d : Int} (hR : Rt V S T) (h0 : 0 ≤ Ex V S T a b) (h : Ex V S T a b = Ex V S T c d) : mn a b = mn c d ∧ mx a b = mx c d := by
  have o := order hR
  have h1 := ex_in (a := a) (b := b) hR
  have h2 := ex_in (a := c) (b := d) hR
  cases e1 : eOk V a b
  · have := h1.2 e1; omega
  · cases e2 : eOk V c d
    · have := h2.2 e2; omega
    · have g1 := (h1.1 e1).1
      have g2 := (h2.1 e2).1
      have k1 := eOk_t.1 e1
      have k2 := eOk_t.1 e2
      exact eI_inj hR.1 k1.2.1 k1.2.2.1 k1.2.2.2 k2.2.1 k2.2.2.1 k2.2.2.2 (by omega)
end Go.Det.E
/- Lists of sides in cells: what pushing and pulling leave; plain. -/
namespace Go.Det.E
open Go.Proofs Go.Det Go.Det.U
variable {V S T v i v' i' x y p : Int} {f f' : Int → Int} {l A B : List Int}
/-- The cell of a side's next one, of the one ahead. -/
def nxC (S T x : Int) : Int := Nx S T ((x - 1) / 2) ((x - 1) % 2)
def pvC (S T x : Int) : Int := Px S T ((x - 1) / 2) ((x - 1) % 2)
abbrev Sd (S x : Int) : Prop := 1 ≤ x ∧ x ≤ 2 * S
theorem nx_at (h : Sd S x) : nxC S T x = T + 1 + (x - 1) / 2 * 7 + 3 + (x - 1) % 2 := by
  unfold nxC Nx Ox
  rw [Bl_t.2 (by omega), Bl_t.2 (by omega)]
  simp only [cond_true]; omega
theorem pv_at (h : Sd S x) : pvC S T x = T + 1 + (x - 1) / 2 * 7 + 5 + (x - 1) % 2 := by
  unfold pvC Px Ox
  rw [Bl_t.2 (by omega), Bl_t.2 (by omega)]
  simp only [cond_true]; omega
theorem nx_bd (hR : Rt V S T) (h : Sd S x) : T < nxC S T x ∧ nxC S T x < Hd S T := by
  rw [nx_at h]; have := order hR; omega
theorem pv_bd (hR : Rt V S T) (h : Sd S x) : T < pvC S T x ∧ pvC S T x < Hd S T := by
  rw [pv_at h]; have := order hR; omega
theorem nx_pv (h : Sd S x) (h' : Sd S y) : nxC S T x ≠ pvC S T y := by rw [nx_at h, pv_at h']; omega
theorem nx_ne (h : Sd S x) (h' : Sd S y) (e : x ≠ y) : nxC S T x ≠ nxC S T y := by rw [nx_at h, nx_at h']; omega
theorem pv_ne (h : Sd S x) (h' : Sd S y) (e : x ≠ y) : pvC S T x ≠ pvC S T y := by rw [pv_at h, pv_at h']; omega
abbrev In (V v i : Int) : Prop := (0 ≤ v ∧ v < V) ∧ 0 ≤ i ∧ i < Lv V
theorem hx_bd (hR : Rt V S T) (h : In V v i) : Hd S T ≤ Hx V S T v i ∧ Hx V S T v i < Eg V S T := by
  have := (hx_in (a := v) (b := i) hR).1 (by rw [Bl_t.2 h.1, Bl_t.2 h.2]; rfl)
  exact this.2
theorem hx_ne (hR : Rt V S T) (h : In V v i) (e : ¬ (v = v' ∧ i = i')) : Hx V S T v i ≠ Hx V S T v' i' := by
  intro q
  have b := hx_bd hR h
  have o := order hR
  exact e (hx_inj hR (by omega) q)
/-- The first one; none: 0. -/
def hdL : List Int → Int
  | [] => 0
  | x :: _ => x
/-- A list's cells, gone through from one that is ahead. -/
def DL (S T : Int) (f : Int → Int) : Int → List Int → Prop
  | _, [] => True
  | p, x :: r => f (pvC S T x) = p ∧ f (nxC S T x) = hdL r ∧ DL S T f x r
theorem DL.congr : ∀ {l : List Int} {p : Int}, (∀ x ∈ l, f' (pvC S T x) = f (pvC S T x) ∧ f' (nxC S T x) = f (nxC S T x)) → DL S T f p l → DL S T f' p l
  | [], _, _, _ => trivial
  | x :: r, p, h, d => ⟨(h x (by simp)).1.trans d.1, (h x (by simp)).2.trans d.2.1, DL.congr (fun y hy => h y (by simp [hy])) d.2.2⟩
/-- The last one; none: what is ahead. -/
def laL (p : Int) : List Int → Int
  | [] => p
  | x :: r => laL x r
theorem laL_mem : ∀ (l : List Int) (p : Int), laL p l = p ∧ l = [] ∨ laL p l ∈ l
  | [], p => .inl ⟨rfl, rfl⟩
  | x :: r, p => by
    right
    rcases laL_mem r x with ⟨e, _⟩ | e
    · show laL x r ∈ x :: r
      rw [e]; simp
    · show laL x r ∈ x :: r
      simp [e]
theorem laL_0 {l : List Int} (h : ∀ x ∈ l, 1 ≤ x) : laL 0 l = 0 ↔ l = [] := by
  rcases laL_mem l 0 with ⟨e, q⟩ | e
  · exact ⟨fun _ => q, fun _ => e⟩
  · have := h _ e
    exact ⟨fun q => by omega, fun q => by rw [q] at e; cases e⟩
theorem hdL_0 {l : List Int} (h : ∀ x ∈ l, 1 ≤ x) : hdL l = 0 ↔ l = [] := by
  cases l with
  | nil => exact ⟨fun _ => rfl, fun _ => rfl⟩
  | cons x r => have := h x (by simp); exact ⟨fun q => by simp only [hdL] at q; omega, fun q => by cases q⟩
theorem hdL_mem {l : List Int} : l = [] ∨ hdL l ∈ l := by
  cases l with
  | nil => exact .inl rfl
  | cons x r => exact .inr (by simp [hdL])
/-- The cells within. -/
theorem DL.at : ∀ (A : List Int) (p : Int) (B : List Int), DL S T f p (A ++ x :: B) → f (pvC S T x) = laL p A ∧ f (nxC S T x) = hdL B ∧ DL S T f x B
  | [], p, B, d => d
  | a :: A, p, B, d => DL.at A a B d.2.2
/-- Without one: the one ahead of it, and the one behind, are told of each other. -/
theorem DL.cut : ∀ (A : List Int) (p : Int) (B : List Int), DL S T f p (A ++ x :: B) →
    (∀ y ∈ A ++ B, f' (pvC S T y) = if y = hdL B ∧ B ≠ [] then laL p A else f (pvC S T y)) →
    (∀ y ∈ A ++ B, f' (nxC S T y) = if y = laL p A ∧ A ≠ [] then hdL B else f (nxC S T y)) → (A ++ x :: B).Nodup → DL S T f' p (A ++ B)
  | [], p, B, d, h1, h2, nd => by
    have d2 : DL S T f x B := d.2.2
    cases B with
    | nil => trivial
    | cons b B =>
      refine ⟨?_, ?_, DL.congr (fun y hy => ⟨?_, ?_⟩) d2.2.2⟩
      · rw [h1 b (by simp), if_pos ⟨rfl, by simp⟩]; rfl
      · rw [h2 b (by simp), if_neg (by simp)]; exact d2.2.1
      · rw [h1 y (by simp [hy]), if_neg]
        intro e
        simp only [List.nil_append, List.nodup_cons] at nd
        have : y = b := e.1
        subst this
        exact nd.2.1 hy
      · rw [h2 y (by simp [hy]), if_neg (by simp)]
  | a :: A, p, B, d, h1, h2, nd => by
    have nd' : a ∉ A ++ x :: B ∧ (A ++ x :: B).Nodup := by simpa only [List.cons_append, List.nodup_cons] using nd
    have na : a ∉ A ++ B := fun h => nd'.1 (by
      rcases List.mem_append.1 h with h | h
      · exact List.mem_append.2 (.inl h)
      · exact List.mem_append.2 (.inr (List.mem_cons.2 (.inr h))))
    have d2 : DL S T f a (A ++ x :: B) := d.2.2
    refine ⟨?_, ?_, ?_⟩
    · rw [h1 a (by simp), if_neg]
      · exact d.1
      · intro e
        rcases hdL_mem (l := B) with q | q
        · exact e.2 q
        · rw [← e.1] at q; exact na (List.mem_append.2 (.inr q))
    · rw [h2 a (by simp)]
      cases A with
      | nil => rw [if_pos ⟨rfl, by simp⟩]; rfl
      | cons c A =>
        rw [if_neg]
        · exact d.2.1
        · intro e
          have q : laL c A ∈ c :: A := by
            rcases laL_mem A c with q | q
            · rw [q.1]; simp
            · simp [q]
          have e1 : a = laL c A := e.1
          rw [← e1] at q
          exact na (List.mem_append.2 (.inl q))
    · refine DL.cut A a B d2 (fun y hy => ?_) (fun y hy => ?_) nd'.2
      · rw [h1 y (by simp only [List.cons_append, List.mem_cons]; exact .inr hy)]; rfl
      · rw [h2 y (by simp only [List.cons_append, List.mem_cons]; exact .inr hy)]
        have yn : y ≠ a := fun e => na (e ▸ hy)
        cases A with
        | nil =>
          rw [if_neg, if_neg (by simp)]
          intro e; exact yn e.1
        | cons c A =>
          have e1 : laL p (a :: c :: A) = laL a (c :: A) := rfl
          rw [e1]
          simp
/-- All lists of all vertices and levels in cells. -/
structure LS (V S T : Int) (f : Int → Int) (L : Int → Int → List Int) : Prop where
  rg : ∀ v i x, x ∈ L v i → Sd S x ∧ In V v i
  nd : ∀ v i, (L v i).Nodup
  ap : ∀ v i v' i' x, x ∈ L v i → x ∈ L v' i' → v = v' ∧ i = i'
  hd : ∀ v i, In V v i → f (Hx V S T v i) = hdL (L v i)
  dl : ∀ v i, DL S T f 0 (L v i)
/-- Their marks. -/
structure LM (V S : Int) (s : NS) (mk : Int → Nat) (L : Int → Int → List Int) : Prop where
  m4 : ∀ y, mk y < 4
  tr : ∀ v i, In V v i → IsT mk (vxB V) s (.nd .nil (Vx V i v) .nil) 0
  mb : ∀ v i, In V v i → bitB (mk (Vx V i v)) 0 = decide (L v i ≠ [])
def upL (L : Int → Int → List Int) (v i : Int) (l : List Int) : Int → Int → List Int := fun w j => if w = v ∧ j = i then l else L w j
theorem upL_same (L : Int → Int → List Int) (v i : Int) (l : List Int) : upL L v i l v i = l := if_pos ⟨rfl, rfl⟩
theorem upL_else {L : Int → Int → List Int} {v i v' i' : Int} {l : List Int} (h : ¬ (v' = v ∧ i' = i)) : upL L v i l v' i' = L v' i' := if_neg h
variable {L : Int → Int → List Int}
/-- What a push stores. -/
def pushF (V S T : Int) (f : Int → Int) (x v i z : Int) : Int → Int :=
  upI (if z = 0 then upI (upI f (nxC S T x) z) (pvC S T x) 0 else upI (upI (upI f (nxC S T x) z) (pvC S T x) 0) (pvC S T z) x) (Hx V S T v i) x
/-- What a pull stores. -/
def pullF (V S T : Int) (f : Int → Int) (v i p z : Int) : Int → Int :=
  if z = 0 then upI f (if p = 0 then Hx V S T v i else nxC S T p) z else upI (upI f (if p = 0 then Hx V S T v i else nxC S T p) z) (pvC S T z) p
theorem pushF_out {c z : Int} (hz : z = 0 ∨ Sd S z) (h1 : c ≠ nxC S T x) (h2 : c ≠ pvC S T x) (h3 : ∀ y, Sd S y → c ≠ pvC S T y) (h4 : c ≠ Hx V S T v i) : pushF V S T f x v i z c = f c := by
  unfold pushF
  rw [upI_else h4]
  split
  · rw [upI_else h2, upI_else h1]
  · rename_i hz0
    rw [upI_else (h3 z (hz.resolve_left hz0)), upI_else h2, upI_else h1]
theorem pullF_out {c z : Int} (hz : z = 0 ∨ Sd S z) (hp : p = 0 ∨ Sd S p) (h1 : ∀ y, Sd S y → c ≠ nxC S T y) (h3 : ∀ y, Sd S y → c ≠ pvC S T y) (h4 : c ≠ Hx V S T v i) : pullF V S T f v i p z c = f c := by
  have e : upI f (if p = 0 then Hx V S T v i else nxC S T p) z c = f c := by
    apply upI_else
    split
    · exact h4
    · rename_i q; exact h1 p (hp.resolve_left q)
  unfold pullF
  split
  · exact e
  · rename_i hz0
    rw [upI_else (h3 z (hz.resolve_left hz0)), e]
theorem LS.push (hR : Rt V S T) (Q : LS V S T f L) (hx : Sd S x) (hi : In V v i) (nw : ∀ w j, x ∉ L w j) : LS V S T (pushF V S T f x v i (hdL (L v i))) (upL L v i (x :: L v i)) := by
  have hz : hdL (L v i) = 0 ∨ Sd S (hdL (L v i)) := by
    rcases hdL_mem (l := L v i) with q | q
    · left; rw [q]; rfl
    · exact .inr (Q.rg v i _ q).1
  have hzn : hdL (L v i) ≠ 0 → hdL (L v i) ∈ L v i := fun q => (hdL_mem (l := L v i)).resolve_left fun e => q (by rw [e]; rfl)
  have o := order hR
  have nb := fun y (hy : Sd S y) => nx_bd hR hy
  have pb := fun y (hy : Sd S y) => pv_bd hR hy
  have hb := fun w j (h : In V w j) => hx_bd (S := S) (T := T) (v := w) (i := j) hR h
  have hbi := hb v i hi
  -- the cells of a side that is listed
  have nxo : ∀ y, Sd S y → y ≠ x → pushF V S T f x v i (hdL (L v i)) (nxC S T y) = f (nxC S T y) := fun y hy e =>
    pushF_out hz (nx_ne hy hx e) (nx_pv hy hx) (fun w hw => nx_pv hy hw) (by have := nb y hy; omega)
  have pvo : ∀ y, Sd S y → y ≠ x → y ≠ hdL (L v i) → pushF V S T f x v i (hdL (L v i)) (pvC S T y) = f (pvC S T y) := fun y hy e e' => by
    have b := pb y hy
    unfold pushF
    rw [upI_else (by omega)]
    split
    · rw [upI_else (pv_ne hy hx e), upI_else (Ne.symm (nx_pv hx hy))]
    · rename_i hz0
      rw [upI_else (pv_ne hy (hz.resolve_left hz0) e'), upI_else (pv_ne hy hx e), upI_else (Ne.symm (nx_pv hx hy))]
  refine ⟨fun w j y hy => ?_, fun w j => ?_, fun w j w' j' y h1 h2 => ?_, fun w j h => ?_, fun w j => ?_⟩
  · unfold upL at hy
    split at hy
    · rename_i e
      rw [e.1, e.2]
      rcases List.mem_cons.1 hy with rfl | hy
      · exact ⟨hx, hi⟩
      · exact Q.rg v i y hy
    · exact Q.rg w j y hy
  · unfold upL
    split
    · exact List.nodup_cons.2 ⟨nw v i, Q.nd v i⟩
    · exact Q.nd w j
  · unfold upL at h1 h2
    split at h1 <;> split at h2
    · rename_i e1 e2; exact ⟨e1.1.trans e2.1.symm, e1.2.trans e2.2.symm⟩
    · rename_i e1 e2
      rcases List.mem_cons.1 h1 with rfl | h1
      · exact absurd h2 (nw w' j')
      · have := Q.ap v i w' j' y h1 h2; exact absurd ⟨this.1.symm, this.2.symm⟩ e2
    · rename_i e1 e2
      rcases List.mem_cons.1 h2 with rfl | h2
      · exact absurd h1 (nw w j)
      · exact absurd (Q.ap w j v i y h1 h2) e1
    · exact Q.ap w j w' j' y h1 h2
  · unfold upL
    split
    · rename_i e
      rw [e.1, e.2]
      exact upI_same _ _ _
    · rename_i e
      have b := hb w j h
      rw [pushF_out hz (by have := nb x hx; omega) (by have := pb x hx; omega) (fun y hy => by have := pb y hy; omega) (hx_ne hR h (fun q => e q)), Q.hd w j h]
  · unfold upL
    split
    · rename_i e
      refine ⟨?_, ?_, ?_⟩
      · unfold pushF
        rw [upI_else (by have := pb x hx; omega)]
        split
        · exact upI_same _ _ _
        · rename_i hz0
          rw [upI_else (pv_ne hx (hz.resolve_left hz0) (fun q => nw v i (q ▸ hzn hz0))), upI_same]
      · unfold pushF
        rw [upI_else (by have := nb x hx; omega)]
        split
        · rw [upI_else (nx_pv hx hx), upI_same]
        · rename_i hz0
          rw [upI_else (nx_pv hx (hz.resolve_left hz0)), upI_else (nx_pv hx hx), upI_same]
      · have d := Q.dl v i
        have hnw := nw v i
        have hnd := Q.nd v i
        have hrg := Q.rg v i
        cases hl : L v i with
        | nil => trivial
        | cons z r =>
          rw [hl] at d hnw hnd hrg nxo pvo
          rw [List.nodup_cons] at hnd
          have hz' : Sd S z := (hrg z (by simp)).1
          have zx : z ≠ x := fun q => hnw (by simp [q])
          refine ⟨?_, ?_, DL.congr (fun y hy => ?_) d.2.2⟩
          · unfold pushF
            have z0 : ¬ hdL (z :: r) = 0 := by show ¬ z = 0; omega
            rw [upI_else (by have := pb z hz'; omega), if_neg z0]
            exact upI_same _ _ _
          · rw [nxo z hz' zx]; exact d.2.1
          · have hy' := (hrg y (by simp [hy])).1
            have yx : y ≠ x := fun q => hnw (by simp [← q, hy])
            exact ⟨pvo y hy' yx (fun q => hnd.1 ((show y = z from q) ▸ hy)), nxo y hy' yx⟩
    · rename_i e
      refine DL.congr (fun y hy => ?_) (Q.dl w j)
      have hy' := (Q.rg w j y hy).1
      have yx : y ≠ x := fun q => nw w j (q ▸ hy)
      refine ⟨?_, nxo y hy' yx⟩
      by_cases hz0 : hdL (L v i) = 0
      · exact pvo y hy' yx (fun q => by omega)
      · exact pvo y hy' yx (fun q => e (Q.ap w j v i y hy (q ▸ hzn hz0)))
theorem LS.pull (hR : Rt V S T) (Q : LS V S T f L) (hi : In V v i) (hl : L v i = A ++ x :: B) : LS V S T (pullF V S T f v i (laL 0 A) (hdL B)) (upL L v i (A ++ B)) := by
  have o := order hR
  have nb := fun y (hy : Sd S y) => nx_bd hR hy
  have pb := fun y (hy : Sd S y) => pv_bd hR hy
  have hb := fun w j (h : In V w j) => hx_bd (S := S) (T := T) (v := w) (i := j) hR h
  have hbi := hb v i hi
  have hrg := Q.rg v i
  have hnd := Q.nd v i
  rw [hl] at hrg hnd
  have sub : ∀ y, y ∈ A ++ B → y ∈ L v i := fun y hy => by
    rw [hl]
    rcases List.mem_append.1 hy with h | h
    · exact List.mem_append.2 (.inl h)
    · exact List.mem_append.2 (.inr (List.mem_cons.2 (.inr h)))
  have hA : ∀ y ∈ A, 1 ≤ y := fun y hy => (Q.rg v i y (sub y (List.mem_append.2 (.inl hy)))).1.1
  have hB : ∀ y ∈ B, 1 ≤ y := fun y hy => (Q.rg v i y (sub y (List.mem_append.2 (.inr hy)))).1.1
  have a0 := laL_0 hA
  have b0 := hdL_0 hB
  have hpm : laL 0 A ≠ 0 → laL 0 A ∈ A := fun q => (laL_mem A 0).resolve_left fun e => q e.1
  have hzm : hdL B ≠ 0 → hdL B ∈ B := fun q => (hdL_mem (l := B)).resolve_left fun e => q (by rw [e]; rfl)
  have hp : laL 0 A = 0 ∨ Sd S (laL 0 A) := by
    by_cases q : laL 0 A = 0
    · exact .inl q
    · exact .inr (Q.rg v i _ (sub _ (List.mem_append.2 (.inl (hpm q))))).1
  have hz : hdL B = 0 ∨ Sd S (hdL B) := by
    by_cases q : hdL B = 0
    · exact .inl q
    · exact .inr (Q.rg v i _ (sub _ (List.mem_append.2 (.inr (hzm q))))).1
  have gn : ∀ y, Sd S y → pullF V S T f v i (laL 0 A) (hdL B) (nxC S T y) = if y = laL 0 A ∧ A ≠ [] then hdL B else f (nxC S T y) := by
    intro y hy
    have b := nb y hy
    have e1 : pullF V S T f v i (laL 0 A) (hdL B) (nxC S T y) = upI f (if laL 0 A = 0 then Hx V S T v i else nxC S T (laL 0 A)) (hdL B) (nxC S T y) := by
      unfold pullF
      split
      · rfl
      · rename_i hz0; exact upI_else (nx_pv hy (hz.resolve_left hz0))
    rw [e1]
    by_cases hp0 : laL 0 A = 0
    · rw [if_pos hp0, if_neg (fun q => q.2 (a0.1 hp0)), upI_else (by omega)]
    · rw [if_neg hp0]
      by_cases e : y = laL 0 A
      · rw [if_pos ⟨e, fun q => hp0 (a0.2 q)⟩, e, upI_same]
      · rw [if_neg (fun q => e q.1), upI_else (nx_ne hy (hp.resolve_left hp0) e)]
  have gp : ∀ y, Sd S y → pullF V S T f v i (laL 0 A) (hdL B) (pvC S T y) = if y = hdL B ∧ B ≠ [] then laL 0 A else f (pvC S T y) := by
    intro y hy
    have b := pb y hy
    have e0 : upI f (if laL 0 A = 0 then Hx V S T v i else nxC S T (laL 0 A)) (hdL B) (pvC S T y) = f (pvC S T y) := by
      apply upI_else
      split
      · omega
      · rename_i hp0; exact Ne.symm (nx_pv (hp.resolve_left hp0) hy)
    unfold pullF
    by_cases hz0 : hdL B = 0
    · rw [if_pos hz0, e0, if_neg (fun q => q.2 (b0.1 hz0))]
    · rw [if_neg hz0]
      by_cases e : y = hdL B
      · rw [if_pos (show y = hdL B ∧ B ≠ [] from ⟨e, fun q => hz0 (b0.2 q)⟩), e, upI_same]
      · rw [if_neg (show ¬ (y = hdL B ∧ B ≠ []) from fun q => e q.1), upI_else (pv_ne hy (hz.resolve_left hz0) e), e0]
  refine ⟨fun w j y hy => ?_, fun w j => ?_, fun w j w' j' y h1 h2 => ?_, fun w j h => ?_, fun w j => ?_⟩
  · unfold upL at hy
    split at hy
    · rename_i e; rw [e.1, e.2]; exact Q.rg v i y (sub y hy)
    · exact Q.rg w j y hy
  · unfold upL
    split
    · have := hnd
      rw [List.nodup_append, List.nodup_cons] at this
      exact List.nodup_append.2 ⟨this.1, this.2.1.2, fun y hy z hz => this.2.2 y hy z (by simp [hz])⟩
    · exact Q.nd w j
  · have up : ∀ w j, y ∈ upL L v i (A ++ B) w j → y ∈ L w j := fun w j q => by
      unfold upL at q
      split at q
      · rename_i e; rw [e.1, e.2]; exact sub y q
      · exact q
    exact Q.ap w j w' j' y (up _ _ h1) (up _ _ h2)
  · have b := hb w j h
    have pvn : hdL B ≠ 0 → Hx V S T w j ≠ pvC S T (hdL B) := fun q => by have := pb _ (hz.resolve_left q); omega
    have nxn : laL 0 A ≠ 0 → Hx V S T w j ≠ nxC S T (laL 0 A) := fun q => by have := nb _ (hp.resolve_left q); omega
    have e1 : pullF V S T f v i (laL 0 A) (hdL B) (Hx V S T w j) = upI f (if laL 0 A = 0 then Hx V S T v i else nxC S T (laL 0 A)) (hdL B) (Hx V S T w j) := by
      unfold pullF
      split
      · rfl
      · rename_i hz0; exact upI_else (pvn hz0)
    rw [e1]
    by_cases e : w = v ∧ j = i
    · rw [e.1, e.2, upL_same]
      by_cases hp0 : laL 0 A = 0
      · rw [if_pos hp0, upI_same, a0.1 hp0]; rfl
      · rw [if_neg hp0, upI_else (by rw [← e.1, ← e.2]; exact nxn hp0), Q.hd v i hi, hl]
        cases A with
        | nil => exact absurd rfl hp0
        | cons a A => rfl
    · rw [upL_else e, ← Q.hd w j h]
      apply upI_else
      split
      · exact hx_ne hR h e
      · rename_i hp0; exact nxn hp0
  · unfold upL
    split
    · rename_i e
      have d := Q.dl v i
      rw [hl] at d
      exact DL.cut A 0 B d (fun y hy => gp y (Q.rg v i y (sub y hy)).1) (fun y hy => gn y (Q.rg v i y (sub y hy)).1) hnd
    · rename_i e
      refine DL.congr (fun y hy => ?_) (Q.dl w j)
      have hy' := (Q.rg w j y hy).1
      have out : ∀ z, z ∈ A ++ B → y ≠ z := fun z hz q => e (Q.ap w j v i y hy (sub y (q ▸ hz)))
      refine ⟨?_, ?_⟩
      · rw [gp y hy', if_neg]
        intro q
        exact out _ (List.mem_append.2 (.inr (hzm fun z => q.2 (b0.1 z)))) q.1
      · rw [gn y hy', if_neg]
        intro q
        exact out _ (List.mem_append.2 (.inl (hpm fun z => q.2 (a0.1 z)))) q.1
/-- Cells that the lists have not. -/
theorem LS.congr (Q : LS V S T f L) (hR : Rt V S T) (h1 : ∀ y, Sd S y → f' (nxC S T y) = f (nxC S T y) ∧ f' (pvC S T y) = f (pvC S T y)) (h2 : ∀ w j, In V w j → f' (Hx V S T w j) = f (Hx V S T w j)) : LS V S T f' L :=
  ⟨Q.rg, Q.nd, Q.ap, fun w j h => (h2 w j h).trans (Q.hd w j h), fun w j => DL.congr (fun y hy => ⟨(h1 y (Q.rg w j y hy).1).2, (h1 y (Q.rg w j y hy).1).1⟩) (Q.dl w j)⟩
end Go.Det.E

/- What the functions of the edges do. -/
namespace Go.Det.E
open Go.Proofs Go.Det
attribute [local congr] bind_c cond_c
/-- Bits of small numbers. -/
theorem bit_and : ∀ s < 48, ∀ t < 2, bAnd .u64 ((2 * (s + 1) + t : Nat) : Int) 1 = ((t : Nat) : Int) := by decide +kernel
theorem bit_or : ∀ s < 48, ∀ t < 2, bOr .u64 ((2 * (s + 1) : Nat) : Int) ((t : Nat) : Int) = ((2 * (s + 1) + t : Nat) : Int) := by decide +kernel
theorem ends_or : ∀ u < 16, ∀ v < 16, bOr .i64 ((256 * u : Nat) : Int) ((v : Nat) : Int) = ((256 * u + v : Nat) : Int) := by decide +kernel
theorem ends_and : ∀ u < 16, ∀ v < 16, bAnd .i64 ((256 * u + v : Nat) : Int) 255 = ((v : Nat) : Int) := by decide +kernel
abbrev E4 (V S T : Int) (a : Nat) : Value := (Value.agg #[(Value.int .i64 V), (Value.int .i64 S), (Value.int .i64 T), ifA a])
def tN (t : Bool) : Int := if t then 1 else 0
/-- What the cell of two vertices has. -/
def encO : Option (Int × Bool) → Int
  | none => 0
  | some (s, t) => 2 * (s + 1) + tN t
def okO : Option (Int × Bool) → Prop
  | none => True
  | some (s, _) => 0 ≤ s ∧ s < 48
def resO : Option (Int × Bool) → Value
  | none => (Value.tuple #[(Value.int .i64 0), (Value.bool false), (Value.bool false)])
  | some (s, t) => (Value.tuple #[(Value.int .i64 s), (Value.bool t), (Value.bool true)])
def treeO : Option (Int × Bool) → Bool
  | none => false
  | some (_, t) => t
theorem bit_s (md : Md) (h : Heap) (t : Bool) : C md 44 [(Value.bool t)] h = some ((Value.int .u64 (tN t)), h) := by
  cases t <;> exact free_ok 100 10 (by kernel_rfl) (by kernel_rfl) md _
variable {md : Md} {h : Heap} {a b : Nat} {l c : List Int} {V S T : Int}
theorem find_e (hR : Rt V S T) (A : Ar h a b l c) (hro : md.ro ≤ a) (u v : Int) {o : Option (Int × Bool)} (ho : okO o) (hx : getI l (Ex V S T u v) = encO o) :
    ∃ h' c', C md 29 [E4 V S T a, (Value.int .i64 u), (Value.int .i64 v)] h = some (resO o, h') ∧ Ar h' a b l c' ∧ Only a b h h' := by
  have la := lt_of A.ha
  have lb := lt_of A.hb
  obtain ⟨h1, c1, e1, A1, o1⟩ := pload_e (md := ⟨md.ro, h.length⟩) (A.app [.own [(Value.int .i64 V), (Value.int .i64 S), (Value.int .i64 T), ifA a]]) hro (Ex V S T u v)
  refine ⟨h1.take h.length, c1, ?_, A1.take la lb, o1.take⟩
  rw [C, call_eq, F29_eq]
  unfold F29
  rw [hx] at e1
  cases o with
  | none =>
    simp only [encO] at e1
    simp only [go_sem, Nat.reduceAdd, Nat.reduceLeDiff, Nat.reduceMul, Int.reduceBEq, Int.reduceBNe, Int.reduceLT, Int.reduceLE, Int.reduceGT, edge_s _ _ hR, clI_load, e1, resO]
  | some p =>
    obtain ⟨s, t⟩ := p
    simp only [okO] at ho
    obtain ⟨sn, rfl⟩ : ∃ n : Nat, s = n := ⟨s.toNat, by omega⟩
    obtain ⟨tn, ht, ht2⟩ : ∃ n : Nat, tN t = n ∧ n < 2 := by cases t; exact ⟨0, rfl, by omega⟩; exact ⟨1, rfl, by omega⟩
    have e : encO (some ((sn : Int), t)) = ((2 * (sn + 1) + tn : Nat) : Int) := by simp only [encO, ht]; omega
    rw [e] at e1
    have h0 : (((2 * (sn + 1) + tn : Nat) : Int) == 0) = false := by simp; omega
    have f : Int.fdiv ((2 * (sn + 1) + tn : Nat) : Int) (2 ^ 1) = ((sn + 1 : Nat) : Int) := by rw [Int.fdiv_eq_ediv_of_nonneg _ (by decide)]; omega
    have w1 : IntKind.wrap .i64 ((sn + 1 : Nat) : Int) = ((sn + 1 : Nat) : Int) := wi (by omega) (by omega)
    have w2 : IntKind.wrap .i64 (((sn + 1 : Nat) : Int) - 1) = (sn : Int) := by rw [wi (by omega) (by omega)]; omega
    have bt := bit_and sn (by omega) tn ht2
    have bb : ((tn : Int) == 1) = t := by cases t <;> simp [tN] at ht <;> simp [← ht]
    simp only [go_sem, Nat.reduceAdd, Nat.reduceLeDiff, Nat.reduceMul, Int.reduceBEq, Int.reduceBNe, Int.reduceLT, Int.reduceLE, Int.reduceGT, edge_s _ _ hR, clI_load, e1, h0, f, w1, w2, bt, bb, resO]
theorem ends_e (hR : Rt V S T) (A : Ar h a b l c) (hro : md.ro ≤ a) (s : Int) {u v : Nat} (hu : u < 16) (hv : v < 16) (hx : getI l (Ox S T s 1) = ((256 * u + v : Nat) : Int)) :
    ∃ h' c', C md 61 [E4 V S T a, (Value.int .i64 s)] h = some ((Value.tuple #[(Value.int .i64 ((u : Int))), (Value.int .i64 ((v : Int)))]), h') ∧ Ar h' a b l c' ∧ Only a b h h' := by
  have la := lt_of A.ha
  have lb := lt_of A.hb
  obtain ⟨h1, c1, e1, A1, o1⟩ := pload_e (md := ⟨md.ro, h.length⟩) (A.app [.own [(Value.int .i64 V), (Value.int .i64 S), (Value.int .i64 T), ifA a]]) hro (Ox S T s 1)
  refine ⟨h1.take h.length, c1, ?_, A1.take la lb, o1.take⟩
  rw [C, call_eq, F61_eq]
  unfold F61
  rw [hx] at e1
  have w1 : IntKind.wrap .i64 ((256 * u + v : Nat) : Int) = ((256 * u + v : Nat) : Int) := wi (by omega) (by omega)
  have f : Int.fdiv ((256 * u + v : Nat) : Int) (2 ^ 8) = (u : Int) := by rw [Int.fdiv_eq_ediv_of_nonneg _ (by decide)]; omega
  have bt := ends_and u hu v hv
  simp only [go_sem, Nat.reduceAdd, Nat.reduceLeDiff, Nat.reduceMul, Int.reduceBEq, Int.reduceBNe, Int.reduceLT, Int.reduceLE, Int.reduceGT, ends_s _ _ hR, clI_load, e1, w1, f, bt]
theorem remove_e (hR : Rt V S T) (A : Ar h a b l c) (hro : md.ro ≤ a) (hrb : md.ro ≤ b) (u v : Int) :
    ∃ h' c', C md 32 [E4 V S T a, (Value.int .i64 u), (Value.int .i64 v)] h = some ((Value.tuple #[]), h') ∧ Ar h' a b (putI l (Ex V S T u v) 0) c' ∧ Only a b h h' := by
  have la := lt_of A.ha
  have lb := lt_of A.hb
  obtain ⟨h1, c1, e1, A1, o1⟩ := pstore_e (md := ⟨md.ro, h.length⟩) (A.app [.own [(Value.int .i64 V), (Value.int .i64 S), (Value.int .i64 T), ifA a]]) hro hrb (Ex V S T u v) 0
  refine ⟨h1.take h.length, c1, ?_, A1.take la lb, o1.take⟩
  rw [C, call_eq, F32_eq]
  unfold F32
  simp only [go_sem, Nat.reduceAdd, Nat.reduceLeDiff, Nat.reduceMul, Int.reduceBEq, Int.reduceBNe, Int.reduceLT, Int.reduceLE, Int.reduceGT, edge_s _ _ hR, clI_store, e1]
theorem lift_e (hR : Rt V S T) (A : Ar h a b l c) (hro : md.ro ≤ a) (hrb : md.ro ≤ b) (s : Int) {lv : Int} (h0 : 0 ≤ lv) (h1 : lv < 1000) :
    ∃ h' c', C md 33 [E4 V S T a, (Value.int .i64 s), (Value.int .i64 lv)] h = some ((Value.tuple #[]), h') ∧ Ar h' a b (putI l (Ox S T s 2) lv) c' ∧ Only a b h h' := by
  have la := lt_of A.ha
  have lb := lt_of A.hb
  obtain ⟨h1, c1, e1, A1, o1⟩ := pstore_e (md := ⟨md.ro, h.length⟩) (A.app [.own [(Value.int .i64 V), (Value.int .i64 S), (Value.int .i64 T), ifA a]]) hro hrb (Ox S T s 2) lv
  refine ⟨h1.take h.length, c1, ?_, A1.take la lb, o1.take⟩
  rw [C, call_eq, F33_eq]
  unfold F33
  have w1 : IntKind.wrap .u64 lv = lv := wu (by omega) (by omega)
  simp only [go_sem, Nat.reduceAdd, Nat.reduceLeDiff, Nat.reduceMul, Int.reduceBEq, Int.reduceBNe, Int.reduceLT, Int.reduceLE, Int.reduceGT, level_s _ _ hR, clI_store, w1, e1]
theorem enc_w {s : Nat} (hs : s < 48) (t : Bool) : bOr .u64 (IntKind.wrap .u64 (IntKind.wrap .u64 (IntKind.wrap .i64 ((s : Int) + 1)) * 2 ^ 1)) (tN t) = encO (some ((s : Int), t)) := by
  obtain ⟨tn, ht, ht2⟩ : ∃ n : Nat, tN t = n ∧ n < 2 := by cases t; exact ⟨0, rfl, by omega⟩; exact ⟨1, rfl, by omega⟩
  have w1 : IntKind.wrap .i64 ((s : Int) + 1) = (s : Int) + 1 := wi (by omega) (by omega)
  have w2 : IntKind.wrap .u64 ((s : Int) + 1) = (s : Int) + 1 := wu (by omega) (by omega)
  have w3 : IntKind.wrap .u64 (((s : Int) + 1) * 2 ^ 1) = ((2 * (s + 1) : Nat) : Int) := by rw [wu (by omega) (by omega)]; omega
  rw [w1, w2, w3, ht, bit_or s hs tn ht2]
  simp only [encO, ht]; omega
theorem put_e (hR : Rt V S T) (A : Ar h a b l c) (hro : md.ro ≤ a) (hrb : md.ro ≤ b) {s : Nat} (hs : s < 48) {u v : Int} (hu : 0 ≤ u ∧ u < 16) (hv : 0 ≤ v ∧ v < 16) {lv : Int} (h0 : 0 ≤ lv) (h1 : lv < 1000) (t : Bool) :
    ∃ h' c', C md 19 [E4 V S T a, (Value.int .i64 ((s : Int))), (Value.int .i64 u), (Value.int .i64 v), (Value.int .i64 lv), (Value.bool t)] h = some ((Value.tuple #[]), h') ∧ Ar h' a b (putI (putI (putI l (Ox S T s 1) (256 * mn u v + mx u v)) (Ox S T s 2) lv) (Ex V S T u v) (encO (some ((s : Int), t)))) c' ∧ Only a b h h' := by
  have la := lt_of A.ha
  have lb := lt_of A.hb
  obtain ⟨h1, c1, e1, A1, o1⟩ := pstore_e (md := ⟨md.ro, h.length⟩) (A.app [.own [(Value.int .i64 V), (Value.int .i64 S), (Value.int .i64 T), ifA a]]) hro hrb (Ox S T s 1) (256 * mn u v + mx u v)
  obtain ⟨h2, c2, e2, A2, o2⟩ := pstore_e (md := ⟨md.ro, h.length⟩) A1 hro hrb (Ox S T s 2) lv
  obtain ⟨h3, c3, e3, A3, o3⟩ := pstore_e (md := ⟨md.ro, h.length⟩) A2 hro hrb (Ex V S T u v) (encO (some ((s : Int), t)))
  have bx1 : h1[h.length]? = some (.own [(Value.int .i64 V), (Value.int .i64 S), (Value.int .i64 T), ifA a]) := o1.new la lb 0
  have bx2 : h2[h.length]? = some (.own [(Value.int .i64 V), (Value.int .i64 S), (Value.int .i64 T), ifA a]) := (o1.trans o2).new la lb 0
  have r1 : rd h1 h.length 3 = some (ifA a) := by rw [rd_at bx1]; rfl
  have r2 : rdN h1 h.length 0 3 = some [(Value.int .i64 V), (Value.int .i64 S), (Value.int .i64 T)] := by rw [rdN_at bx1 (by simp [Blk.cells])]; rfl
  have r3 : rd h2 h.length 3 = some (ifA a) := by rw [rd_at bx2]; rfl
  have r4 : rdN h2 h.length 0 3 = some [(Value.int .i64 V), (Value.int .i64 S), (Value.int .i64 T)] := by rw [rdN_at bx2 (by simp [Blk.cells])]; rfl
  refine ⟨h3.take h.length, c3, ?_, A3.take la lb, ((o1.trans o2).trans o3).take⟩
  rw [C, call_eq, F19_eq]
  unfold F19
  have em : (if v < u then v else u) = mn u v := rfl
  have ex : (if v > u then v else u) = mx u v := rfl
  have hm : 0 ≤ mn u v ∧ mn u v < 16 ∧ 0 ≤ mx u v ∧ mx u v < 16 := by unfold mn mx; split <;> split <;> omega
  obtain ⟨x, hx⟩ : ∃ n : Nat, mn u v = n := ⟨(mn u v).toNat, by omega⟩
  obtain ⟨y, hy⟩ : ∃ n : Nat, mx u v = n := ⟨(mx u v).toNat, by omega⟩
  have we : IntKind.wrap .u64 (bOr .i64 (IntKind.wrap .i64 (mn u v * 2 ^ 8)) (mx u v)) = 256 * mn u v + mx u v := by
    have w1 : IntKind.wrap .i64 (mn u v * 2 ^ 8) = ((256 * x : Nat) : Int) := by rw [wi (by omega) (by omega)]; omega
    rw [w1, hy, ends_or x (by omega) y (by omega), wu (by omega) (by omega)]; omega
  have wl : IntKind.wrap .u64 lv = lv := wu (by omega) (by omega)
  simp only [go_sem, Nat.reduceAdd, Nat.reduceLeDiff, Nat.reduceMul, Int.reduceBEq, Int.reduceBNe, Int.reduceLT, Int.reduceLE, Int.reduceGT, em, ex, we, wl, ends_s _ _ hR, level_s _ _ hR, edge_s _ _ hR, bit_s, enc_w hs t, clI_store, e1, r1, r2, e2, r3, r4, e3]
theorem get_e (hR : Rt V S T) (A : Ar h a b l c) (hro : md.ro ≤ a) (s : Int) {u v : Nat} (hu : u < 16) (hv : v < 16) (hx : getI l (Ox S T s 1) = ((256 * u + v : Nat) : Int))
    {lv : Int} (h0 : 0 ≤ lv) (h1 : lv < 1000) (hl : getI l (Ox S T s 2) = lv) {o : Option (Int × Bool)} (ho : okO o) (hf : getI l (Ex V S T u v) = encO o) :
    ∃ h' c', C md 45 [E4 V S T a, (Value.int .i64 s)] h = some ((Value.agg #[(Value.int .i64 ((u : Int))), (Value.int .i64 ((v : Int))), (Value.int .i64 lv), (Value.bool (treeO o))]), h') ∧ Ar h' a b l c' ∧ Only a b h h' := by
  have la := lt_of A.ha
  have lb := lt_of A.hb
  have A0 := A.app [.own [(Value.int .i64 V), (Value.int .i64 S), (Value.int .i64 T), ifA a], .own [(Value.int .i64 0), (Value.int .i64 0), (Value.int .i64 0), (Value.bool false)]]
  obtain ⟨h1, c1, e1, A1, o1⟩ := ends_e (md := ⟨md.ro, h.length⟩) hR A0 hro s hu hv hx
  obtain ⟨h2, c2, e2, A2, o2⟩ := find_e (md := ⟨md.ro, h.length⟩) hR A1 hro (u : Int) (v : Int) ho hf
  obtain ⟨h3, c3, e3, A3, o3⟩ := pload_e (md := ⟨md.ro, h.length⟩) A2 hro (Ox S T s 2)
  rw [hl] at e3
  have bx1 : h1[h.length]? = some (.own [(Value.int .i64 V), (Value.int .i64 S), (Value.int .i64 T), ifA a]) := o1.new la lb 0
  have bx2 : h2[h.length]? = some (.own [(Value.int .i64 V), (Value.int .i64 S), (Value.int .i64 T), ifA a]) := (o1.trans o2).new la lb 0
  have bx3 : h3[h.length + 1]? = some (.own [(Value.int .i64 0), (Value.int .i64 0), (Value.int .i64 0), (Value.bool false)]) := ((o1.trans o2).trans o3).new la lb 1
  have r1 : rdN h1 h.length 0 4 = some [(Value.int .i64 V), (Value.int .i64 S), (Value.int .i64 T), ifA a] := by rw [rdN_at bx1 (by simp [Blk.cells])]; rfl
  have r2 : rd h2 h.length 3 = some (ifA a) := by rw [rd_at bx2]; rfl
  have r3 : rdN h2 h.length 0 3 = some [(Value.int .i64 V), (Value.int .i64 S), (Value.int .i64 T)] := by rw [rdN_at bx2 (by simp [Blk.cells])]; rfl
  have wl : IntKind.wrap .i64 lv = lv := wi (by omega) (by omega)
  have hlen : h3.length = h.length + 2 := by have := o1.len; have := o2.len; have := o3.len; simp at *; omega
  have w : wrN ⟨md.ro, h.length⟩ h3 (h.length + 1) 0 [(Value.int .i64 ((u : Int))), (Value.int .i64 ((v : Int))), (Value.int .i64 lv), (Value.bool (treeO o))] = some (h3.set (h.length + 1) (.own [(Value.int .i64 ((u : Int))), (Value.int .i64 ((v : Int))), (Value.int .i64 lv), (Value.bool (treeO o))])) := by
    unfold wrN
    rw [bx3]
    simp only []
    rw [if_pos (by simp), if_pos ⟨by have := hro; show md.ro ≤ h.length + 1; omega, .inl (by show h.length ≤ h.length + 1; omega)⟩]
    rfl
  have st4 := fun (hh : Heap) (k : Heap → Option (Value × Heap)) => st_N ⟨md.ro, h.length⟩ 4 (h.length + 1) 0 [(Value.int .i64 ((u : Int))), (Value.int .i64 ((v : Int))), (Value.int .i64 lv), (Value.bool (treeO o))] hh k rfl rfl
  have r4 : rdN (h3.set (h.length + 1) (.own [(Value.int .i64 ((u : Int))), (Value.int .i64 ((v : Int))), (Value.int .i64 lv), (Value.bool (treeO o))])) (h.length + 1) 0 4 = some [(Value.int .i64 ((u : Int))), (Value.int .i64 ((v : Int))), (Value.int .i64 lv), (Value.bool (treeO o))] := by
    rw [rdN_at (set_here bx3) (by simp [Blk.cells])]; rfl
  have tk : (h3.set (h.length + 1) (.own [(Value.int .i64 ((u : Int))), (Value.int .i64 ((v : Int))), (Value.int .i64 lv), (Value.bool (treeO o))])).take h.length = h3.take h.length := by
    rw [List.take_set_of_le (by omega)]
  refine ⟨h3.take h.length, c3, ?_, A3.take la lb, ((o1.trans o2).trans o3).take⟩
  rw [C, call_eq, F45_eq]
  unfold F45
  have er : ∃ q z, resO o = (Value.tuple #[(Value.int .i64 q), (Value.bool (treeO o)), (Value.bool z)]) := by
    cases o with
    | none => exact ⟨_, _, rfl⟩
    | some p => exact ⟨_, _, rfl⟩
  obtain ⟨q, z, er⟩ := er
  rw [er] at e2
  simp only [go_sem, Nat.reduceAdd, Nat.reduceLeDiff, Nat.reduceMul, Int.reduceBEq, Int.reduceBNe, Int.reduceLT, Int.reduceLE, Int.reduceGT, e1, r1, e2, r2, r3, level_s _ _ hR, clI_load, e3, wl, st4, w, r4, tk]
end Go.Det.E

/- Cells that are no node's: told and stored; the edges' functions, where nodes lie too. -/
namespace Go.Det.E
open Go.Proofs Go.Det Go.Det.U
attribute [local congr] bind_c cond_c
variable {md : Md} {h hh k h' : Heap} {a b : Nat} {V S T x y z u v w i lv sl : Int} {f f' : Int → Int} {s s' : NS} {l c : List Int}
/-- A cell that is no node's. -/
abbrev FrC (V S T x : Int) : Prop := 0 ≤ x ∧ x < Nd V S T
theorem FrC.nf (hx : x < Nd V S T) : ¬ isNF V S T x := fun q => by unfold isNF at q; omega
theorem Rep.putF (hR : Rt V S T) (Q : Rep V S T f l s) (hx : FrC V S T x) (hv : 0 ≤ y ∧ y < 18446744073709551616) : Rep V S T (upI f x y) (putI l x y) s := by
  have hl := Q.len
  have o := order hR
  have g := fun j => getI_put l x j y
  refine ⟨by rw [putI_len]; exact hl, Q.wd.put _ hv, fun i hi => ?_, fun y a b => ?_, fun y a b => ?_, fun y a b => ?_, fun y a b c => ?_, fun y a b c => ?_⟩
  · rw [g]
    by_cases e : i = x
    · subst e; rw [if_pos ⟨rfl, by omega, by omega⟩]; exact (upI_same _ _ _).symm
    · rw [if_neg (by omega), Q.oth i hi]; exact (upI_else e).symm
  · rw [g, if_neg (by unfold qN; omega)]; exact Q.lf y a b
  · rw [g, if_neg (by unfold qN; omega)]; exact Q.rt y a b
  · rw [g, if_neg (by unfold qN; omega)]; exact Q.sm y a b
  · rw [g, if_neg (by unfold qN; omega)]; exact Q.sh y a b c
  · rw [g, if_neg (by unfold qN; omega)]; exact Q.ns y a b c
theorem Rep.getF (Q : Rep V S T f l s) (hx : x < Nd V S T) : getI l x = f x := Q.oth x (FrC.nf hx)
theorem tload (A : TH V S T f a b s h) (hro : md.ro ≤ a) (hx : x < Nd V S T) :
    ∃ h', C md 104 [(Value.agg #[(Value.pointer (some ⟨a, 0, none⟩))]), (Value.int .i64 x)] h = some ((Value.int .u64 (f x)), h') ∧ TH V S T f a b s h' ∧ Only a b h h' := by
  obtain ⟨l, c, A, Q⟩ := A
  obtain ⟨h', c', e, A', o⟩ := pload_e A hro x
  rw [Q.getF hx] at e
  exact ⟨h', e, ⟨l, c', A', Q⟩, o⟩
theorem tstore (hR : Rt V S T) (A : TH V S T f a b s h) (hro : md.ro ≤ a) (hrb : md.ro ≤ b) (hx : FrC V S T x) (hv : 0 ≤ y ∧ y < 18446744073709551616) :
    ∃ h', C md 105 [(Value.agg #[(Value.pointer (some ⟨a, 0, none⟩))]), (Value.int .i64 x), (Value.int .u64 y)] h = some ((Value.tuple #[]), h') ∧ TH V S T (upI f x y) a b s h' ∧ Only a b h h' := by
  obtain ⟨l, c, A, Q⟩ := A
  obtain ⟨h', c', e, A', o⟩ := pstore_e A hro hrb x y
  exact ⟨h', e, ⟨_, c', A', Q.putF hR hx hv⟩, o⟩
theorem TH.wdF (A : TH V S T f a b s h) (hx : x < Nd V S T) : 0 ≤ f x ∧ f x < 18446744073709551616 := by
  obtain ⟨l, c, A, Q⟩ := A
  rw [← Q.getF hx]; exact Q.wd.get _
theorem ox_at' (hR : Rt V S T) (hs : 0 ≤ x ∧ x < S) (hf : 0 ≤ i ∧ i < 7) : Ox S T x i = T + 1 + x * 7 + i ∧ T + 1 ≤ Ox S T x i ∧ Ox S T x i < Hd S T := (ox_in hR hf).1 (Bl_t.2 hs)
theorem mm_of' (h : u < v) : mn u v = u ∧ mx u v = v := by unfold mn mx; exact ⟨if_neg (by omega), if_pos (by omega)⟩
theorem mm_le' (h : u ≠ v) : mn u v < mx u v := by unfold mn mx; split <;> omega
theorem mm_mm' (h : u ≠ v) : mn (mn u v) (mx u v) = mn u v ∧ mx (mn u v) (mx u v) = mx u v := mm_of' (mm_le' h)
theorem mm_cases' (u v : Int) : (mn u v = u ∧ mx u v = v) ∨ (mn u v = v ∧ mx u v = u) := by
  unfold mn mx
  by_cases h1 : v < u
  · right; exact ⟨if_pos h1, if_neg (by omega)⟩
  · left; rw [if_neg h1]; refine ⟨rfl, ?_⟩; split <;> omega
theorem ex_mm' (h : u ≠ v) : Ex V S T u v = Ex V S T (mn u v) (mx u v) := by unfold Ex; rw [(mm_mm' h).1, (mm_mm' h).2]
theorem ex_at' (hR : Rt V S T) (hu : 0 ≤ u) (huv : u < v) (hv : v < V) : Eg V S T ≤ Ex V S T u v ∧ Ex V S T u v < Nd V S T := by
  have m := mm_of' huv
  have := (ex_in (a := u) (b := v) hR).1 (eOk_t.2 (by rw [m.1, m.2]; omega))
  omega
theorem ex_ne' (hR : Rt V S T) (hu : 0 ≤ u) (huv : u < v) (hv : v < V) (hwz : w < z) (hne : ¬ (u = w ∧ v = z)) : Ex V S T u v ≠ Ex V S T w z := by
  intro h
  have a1 := ex_at' hR hu huv hv
  have o := order hR
  have := ex_inj hR (by omega) h
  rw [(mm_of' huv).1, (mm_of' huv).2, (mm_of' hwz).1, (mm_of' hwz).2] at this
  exact hne this
/-! ### The edges -/
/-- Which edges there are: slot, vertices, level. -/
abbrev EM := Int → Option (Int × Int × Int)
def upE (E : EM) (s : Int) (o : Option (Int × Int × Int)) : EM := fun t => if t = s then o else E t
theorem upE_same (E : EM) (s : Int) (o : Option (Int × Int × Int)) : upE E s o s = o := if_pos rfl
theorem upE_else {E : EM} {s t : Int} {o : Option (Int × Int × Int)} (h : t ≠ s) : upE E s o t = E t := if_neg h
/-- Cells that have just these edges. -/
structure EE (V S T : Int) (f : Int → Int) (E : EM) : Prop where
  ed : ∀ s u v lv, E s = some (u, v, lv) → (0 ≤ s ∧ s < S) ∧ (0 ≤ u ∧ u < v ∧ v < V) ∧ (0 ≤ lv ∧ lv < Lv V) ∧ f (Ox S T s 1) = 256 * u + v ∧ f (Ox S T s 2) = lv ∧ f (Ex V S T u v) = 2 * (s + 1)
  no : ∀ u v, 0 ≤ u → u < v → v < V → (∀ s lv, E s ≠ some (u, v, lv)) → f (Ex V S T u v) = 0
  pr : ∀ s s' u v lv lv', E s = some (u, v, lv) → E s' = some (u, v, lv') → s = s'
variable {E : EM}
theorem EE.congr (Q : EE V S T f E) (hR : Rt V S T) (h1 : ∀ s, 0 ≤ s → s < S → f' (Ox S T s 1) = f (Ox S T s 1) ∧ f' (Ox S T s 2) = f (Ox S T s 2)) (h2 : ∀ x, Eg V S T ≤ x → x < Nd V S T → f' x = f x) : EE V S T f' E := by
  refine ⟨fun s u v lv h => ?_, fun u v q1 q2 q3 q4 => ?_, Q.pr⟩
  · obtain ⟨g1, g2, g3, g4, g5, g6⟩ := Q.ed s u v lv h
    have b := ex_at' (S := S) (T := T) hR g2.1 g2.2.1 g2.2.2
    exact ⟨g1, g2, g3, (h1 s g1.1 g1.2).1.trans g4, (h1 s g1.1 g1.2).2.trans g5, (h2 _ b.1 b.2).trans g6⟩
  · have b := ex_at' (S := S) (T := T) hR q1 q2 q3
    exact (h2 _ b.1 b.2).trans (Q.no u v q1 q2 q3 q4)
def putF (V S T : Int) (f : Int → Int) (s u v lv : Int) : Int → Int := upI (upI (upI f (Ox S T s 1) (256 * u + v)) (Ox S T s 2) lv) (Ex V S T u v) (2 * (s + 1))
theorem EE.put (hR : Rt V S T) (Q : EE V S T f E) (hs : 0 ≤ sl ∧ sl < S) (huv : 0 ≤ u ∧ u < v ∧ v < V) (hl : 0 ≤ lv ∧ lv < Lv V) (hn : E sl = none) (hp : ∀ s lv, E s ≠ some (u, v, lv)) : EE V S T (putF V S T f sl u v lv) (upE E sl (some (u, v, lv))) := by
  have o := order hR
  have k1 := ox_at' hR hs (i := 1) (by omega)
  have k2 := ox_at' hR hs (i := 2) (by omega)
  have k3 := ex_at' (S := S) (T := T) hR huv.1 huv.2.1 huv.2.2
  refine ⟨fun s u' v' lv' h => ?_, fun u' v' q1 q2 q3 q4 => ?_, fun s s' u' v' lv1 lv2 h1 h2 => ?_⟩
  · by_cases e : s = sl
    · subst e
      rw [upE_same] at h
      cases h
      refine ⟨hs, huv, hl, ?_, ?_, ?_⟩
      · unfold putF; rw [upI_else (by omega), upI_else (by omega), upI_same]
      · unfold putF; rw [upI_else (by omega), upI_same]
      · unfold putF; rw [upI_same]
    · rw [upE_else e] at h
      obtain ⟨g1, g2, g3, g4, g5, g6⟩ := Q.ed s u' v' lv' h
      have m1 := ox_at' hR g1 (i := 1) (by omega)
      have m2 := ox_at' hR g1 (i := 2) (by omega)
      have m3 := ex_at' (S := S) (T := T) hR g2.1 g2.2.1 g2.2.2
      have m4 := ex_ne' (S := S) (T := T) hR g2.1 g2.2.1 g2.2.2 huv.2.1 (fun q => hp s lv' (by rw [h, q.1, q.2]))
      refine ⟨g1, g2, g3, ?_, ?_, ?_⟩
      · unfold putF; rw [upI_else (by omega), upI_else (by omega), upI_else (by omega)]; exact g4
      · unfold putF; rw [upI_else (by omega), upI_else (by omega), upI_else (by omega)]; exact g5
      · unfold putF; rw [upI_else m4, upI_else (by omega), upI_else (by omega)]; exact g6
  · have m3 := ex_at' (S := S) (T := T) hR q1 q2 q3
    have m4 := ex_ne' (S := S) (T := T) hR q1 q2 q3 huv.2.1 (fun q => q4 sl lv (by rw [upE_same, q.1, q.2]))
    unfold putF
    rw [upI_else m4, upI_else (by omega), upI_else (by omega)]
    refine Q.no u' v' q1 q2 q3 fun s lv' h => q4 s lv' ?_
    rw [upE_else (fun e => by rw [e, hn] at h; cases h)]; exact h
  · by_cases e1 : s = sl <;> by_cases e2 : s' = sl
    · rw [e1, e2]
    · subst e1
      rw [upE_same] at h1
      cases h1
      rw [upE_else e2] at h2
      exact absurd h2 (hp s' lv2)
    · subst e2
      rw [upE_same] at h2
      cases h2
      rw [upE_else e1] at h1
      exact absurd h1 (hp s lv1)
    · rw [upE_else e1] at h1
      rw [upE_else e2] at h2
      exact Q.pr s s' u' v' lv1 lv2 h1 h2
theorem EE.rem (hR : Rt V S T) (Q : EE V S T f E) (hs : E sl = some (u, v, lv)) : EE V S T (upI f (Ex V S T u v) 0) (upE E sl none) := by
  have o := order hR
  obtain ⟨g1, g2, g3, g4, g5, g6⟩ := Q.ed sl u v lv hs
  have k3 := ex_at' (S := S) (T := T) hR g2.1 g2.2.1 g2.2.2
  refine ⟨fun s u' v' lv' h => ?_, fun u' v' q1 q2 q3 q4 => ?_, fun s s' u' v' lv1 lv2 h1 h2 => ?_⟩
  · by_cases e : s = sl
    · subst e; rw [upE_same] at h; cases h
    · rw [upE_else e] at h
      obtain ⟨d1, d2, d3, d4, d5, d6⟩ := Q.ed s u' v' lv' h
      have m1 := ox_at' hR d1 (i := 1) (by omega)
      have m2 := ox_at' hR d1 (i := 2) (by omega)
      have m4 := ex_ne' (S := S) (T := T) hR d2.1 d2.2.1 d2.2.2 g2.2.1 (fun q => e (Q.pr s sl u v lv' lv (by rw [h, q.1, q.2]) hs))
      exact ⟨d1, d2, d3, by rw [upI_else (by omega)]; exact d4, by rw [upI_else (by omega)]; exact d5, by rw [upI_else m4]; exact d6⟩
  · by_cases e : u' = u ∧ v' = v
    · rw [e.1, e.2]; exact upI_same _ _ _
    · rw [upI_else (ex_ne' (S := S) (T := T) hR q1 q2 q3 g2.2.1 e)]
      refine Q.no u' v' q1 q2 q3 fun s lv' h => q4 s lv' ?_
      rw [upE_else (fun e' => by rw [e', hs] at h; cases h; exact e ⟨rfl, rfl⟩)]; exact h
  · by_cases e1 : s = sl
    · subst e1; rw [upE_same] at h1; cases h1
    · by_cases e2 : s' = sl
      · subst e2; rw [upE_same] at h2; cases h2
      · rw [upE_else e1] at h1
        rw [upE_else e2] at h2
        exact Q.pr s s' u' v' lv1 lv2 h1 h2
theorem EE.lift (hR : Rt V S T) (Q : EE V S T f E) (hs : E sl = some (u, v, lv)) (hl : 0 ≤ i ∧ i < Lv V) : EE V S T (upI f (Ox S T sl 2) i) (upE E sl (some (u, v, i))) := by
  have o := order hR
  obtain ⟨g1, g2, g3, g4, g5, g6⟩ := Q.ed sl u v lv hs
  have k1 := ox_at' hR g1 (i := 1) (by omega)
  have k2 := ox_at' hR g1 (i := 2) (by omega)
  have k3 := ex_at' (S := S) (T := T) hR g2.1 g2.2.1 g2.2.2
  have old : ∀ s u' v' lv', upE E sl (some (u, v, i)) s = some (u', v', lv') → ∃ lv0, E s = some (u', v', lv0) := fun s u' v' lv' h => by
    by_cases e : s = sl
    · subst e; rw [upE_same] at h; cases h; exact ⟨lv, hs⟩
    · rw [upE_else e] at h; exact ⟨lv', h⟩
  refine ⟨fun s u' v' lv' h => ?_, fun u' v' q1 q2 q3 q4 => ?_, fun s s' u' v' lv1 lv2 h1 h2 => ?_⟩
  · by_cases e : s = sl
    · subst e
      rw [upE_same] at h
      cases h
      exact ⟨g1, g2, hl, by rw [upI_else (by omega)]; exact g4, upI_same _ _ _, by rw [upI_else (by omega)]; exact g6⟩
    · rw [upE_else e] at h
      obtain ⟨d1, d2, d3, d4, d5, d6⟩ := Q.ed s u' v' lv' h
      have m1 := ox_at' hR d1 (i := 1) (by omega)
      have m2 := ox_at' hR d1 (i := 2) (by omega)
      have m3 := ex_at' (S := S) (T := T) hR d2.1 d2.2.1 d2.2.2
      exact ⟨d1, d2, d3, by rw [upI_else (by omega)]; exact d4, by rw [upI_else (by omega)]; exact d5, by rw [upI_else (by omega)]; exact d6⟩
  · have m3 := ex_at' (S := S) (T := T) hR q1 q2 q3
    rw [upI_else (by omega)]
    refine Q.no u' v' q1 q2 q3 fun s lv' h => ?_
    by_cases e : s = sl
    · subst e; rw [hs] at h; cases h; exact q4 s i (upE_same _ _ _)
    · exact q4 s lv' (by rw [upE_else e]; exact h)
  · obtain ⟨a1, b1⟩ := old s u' v' lv1 h1
    obtain ⟨a2, b2⟩ := old s' u' v' lv2 h2
    exact Q.pr s s' u' v' a1 a2 b1 b2
/-- The functions of the edges. -/
theorem aFind (hR : Rt V S T) (A : TH V S T f a b s h) (Q : EE V S T f E) (hro : md.ro ≤ a) (hu : 0 ≤ u ∧ u < V) (hv : 0 ≤ v ∧ v < V) (hne : u ≠ v) :
    ∃ h' q ok, C md 29 [E4 V S T a, (Value.int .i64 u), (Value.int .i64 v)] h = some ((Value.tuple #[(Value.int .i64 q), (Value.bool false), (Value.bool ok)]), h') ∧ (ok = true ↔ ∃ s lv, E s = some (mn u v, mx u v, lv)) ∧ TH V S T f a b s h' ∧ Only a b h h' := by
  obtain ⟨l, c, A, R⟩ := A
  have m := mm_le' hne
  have mc := mm_cases' u v
  have b0 := ex_at' (S := S) (T := T) hR (u := mn u v) (v := mx u v) (by omega) m (by omega)
  have ee := ex_mm' (V := V) (S := S) (T := T) hne
  have rs := hR
  unfold Rt at rs
  by_cases q : ∃ s lv, E s = some (mn u v, mx u v, lv)
  · obtain ⟨sl, lv, hs⟩ := q
    obtain ⟨g1, g2, g3, g4, g5, g6⟩ := Q.ed sl _ _ lv hs
    obtain ⟨h', c', e, A', o⟩ := find_e hR A hro u v (o := some (sl, false)) (by show 0 ≤ sl ∧ sl < 48; omega) (by rw [ee, R.getF b0.2, g6]; simp [encO, tN])
    exact ⟨h', sl, true, e, ⟨fun _ => ⟨sl, lv, hs⟩, fun _ => rfl⟩, ⟨l, c', A', R⟩, o⟩
  · obtain ⟨h', c', e, A', o⟩ := find_e hR A hro u v (o := none) trivial (by rw [ee, R.getF b0.2, Q.no _ _ (by omega) m (by omega) fun s lv h => q ⟨s, lv, h⟩]; rfl)
    exact ⟨h', 0, false, e, ⟨fun k => absurd k (by decide), fun k => absurd k q⟩, ⟨l, c', A', R⟩, o⟩
theorem aPut (hR : Rt V S T) (A : TH V S T f a b s h) (hro : md.ro ≤ a) (hrb : md.ro ≤ b) (hs : 0 ≤ sl ∧ sl < S) (hu : 0 ≤ u ∧ u < V) (hv : 0 ≤ v ∧ v < V) (hne : u ≠ v) (hl : 0 ≤ lv ∧ lv < Lv V) :
    ∃ h', C md 19 [E4 V S T a, (Value.int .i64 sl), (Value.int .i64 u), (Value.int .i64 v), (Value.int .i64 lv), (Value.bool false)] h = some ((Value.tuple #[]), h') ∧ TH V S T (putF V S T f sl (mn u v) (mx u v) lv) a b s h' ∧ Only a b h h' := by
  obtain ⟨l, c, A, R⟩ := A
  have o := order hR
  have rs := hR
  unfold Rt at rs
  have m := mm_le' hne
  have mc := mm_cases' u v
  have k1 := ox_at' hR hs (i := 1) (by omega)
  have k2 := ox_at' hR hs (i := 2) (by omega)
  have b0 := ex_at' (S := S) (T := T) hR (u := mn u v) (v := mx u v) (by omega) m (by omega)
  have ee := ex_mm' (V := V) (S := S) (T := T) hne
  obtain ⟨sn, rfl⟩ : ∃ n : Nat, sl = n := ⟨sl.toNat, by omega⟩
  obtain ⟨h', c', e, A', o'⟩ := put_e hR A hro hrb (s := sn) (by omega) (u := u) (v := v) (by omega) (by omega) (lv := lv) hl.1 (by omega) false
  have en : encO (some ((sn : Int), false)) = 2 * ((sn : Int) + 1) := by simp [encO, tN]
  rw [en, ee] at A'
  refine ⟨h', e, ⟨_, c', A', ?_⟩, o'⟩
  exact ((R.putF hR ⟨by omega, by omega⟩ (by omega)).putF hR ⟨by omega, by omega⟩ (by omega)).putF hR ⟨by omega, by omega⟩ (by omega)
theorem aRem (hR : Rt V S T) (A : TH V S T f a b s h) (hro : md.ro ≤ a) (hrb : md.ro ≤ b) (huv : 0 ≤ u ∧ u < v ∧ v < V) :
    ∃ h', C md 32 [E4 V S T a, (Value.int .i64 u), (Value.int .i64 v)] h = some ((Value.tuple #[]), h') ∧ TH V S T (upI f (Ex V S T u v) 0) a b s h' ∧ Only a b h h' := by
  obtain ⟨l, c, A, R⟩ := A
  have o := order hR
  have b0 := ex_at' (S := S) (T := T) hR huv.1 huv.2.1 huv.2.2
  obtain ⟨h', c', e, A', o'⟩ := remove_e hR A hro hrb u v
  exact ⟨h', e, ⟨_, c', A', R.putF hR ⟨by omega, by omega⟩ (by omega)⟩, o'⟩
theorem aLift (hR : Rt V S T) (A : TH V S T f a b s h) (hro : md.ro ≤ a) (hrb : md.ro ≤ b) (hs : 0 ≤ sl ∧ sl < S) (hl : 0 ≤ lv ∧ lv < Lv V) :
    ∃ h', C md 33 [E4 V S T a, (Value.int .i64 sl), (Value.int .i64 lv)] h = some ((Value.tuple #[]), h') ∧ TH V S T (upI f (Ox S T sl 2) lv) a b s h' ∧ Only a b h h' := by
  obtain ⟨l, c, A, R⟩ := A
  have o := order hR
  have k2 := ox_at' hR hs (i := 2) (by omega)
  obtain ⟨h', c', e, A', o'⟩ := lift_e hR A hro hrb sl (lv := lv) hl.1 (by omega)
  exact ⟨h', e, ⟨_, c', A', R.putF hR ⟨by omega, by omega⟩ (by omega)⟩, o'⟩
theorem aGet (hR : Rt V S T) (A : TH V S T f a b s h) (Q : EE V S T f E) (hro : md.ro ≤ a) (hs : E sl = some (u, v, lv)) :
    ∃ h', C md 45 [E4 V S T a, (Value.int .i64 sl)] h = some ((Value.agg #[(Value.int .i64 u), (Value.int .i64 v), (Value.int .i64 lv), (Value.bool false)]), h') ∧ TH V S T f a b s h' ∧ Only a b h h' := by
  obtain ⟨l, c, A, R⟩ := A
  have o := order hR
  have rs := hR
  unfold Rt at rs
  obtain ⟨g1, g2, g3, g4, g5, g6⟩ := Q.ed sl u v lv hs
  have k1 := ox_at' hR g1 (i := 1) (by omega)
  have k2 := ox_at' hR g1 (i := 2) (by omega)
  have b0 := ex_at' (S := S) (T := T) hR g2.1 g2.2.1 g2.2.2
  obtain ⟨un, rfl⟩ : ∃ n : Nat, u = n := ⟨u.toNat, by omega⟩
  obtain ⟨vn, rfl⟩ : ∃ n : Nat, v = n := ⟨v.toNat, by omega⟩
  obtain ⟨h', c', e, A', o'⟩ := get_e hR A hro sl (u := un) (v := vn) (by omega) (by omega) (by rw [R.getF (by omega), g4]; omega) (lv := lv) g3.1 (by omega) (by rw [R.getF (by omega), g5]) (o := some (sl, false)) (by show 0 ≤ sl ∧ sl < 48; omega) (by rw [R.getF b0.2, g6]; simp [encO, tN])
  exact ⟨h', e, ⟨l, c', A', R⟩, o'⟩
end Go.Det.E
