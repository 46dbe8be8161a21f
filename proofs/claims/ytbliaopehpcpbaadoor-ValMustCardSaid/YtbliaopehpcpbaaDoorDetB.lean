/- How the frame's values and heap stand to the model's. -/
import Derived.Test.YtbliaopehpcpbaaDoorDetA
import Derived.Below
import Derived.MapKept
import Derived.Laws.StructEq
import Derived.Laws.MakeOwn
set_option autoImplicit false
set_option linter.unusedVariables false
set_option linter.unusedSimpArgs false
set_option linter.unusedSectionVars false
namespace Go.Det

/-- Where a block of the frame lies in the model's heap, and how many cells it may grow to there. -/
structure Loc where
  blk : Nat
  off : Nat
  avail : Nat

abbrev Ren := Nat → Loc

inductive VRel (ρ : Ren) (n : Nat) : Value → Value → Prop
  | sc (v : Value) (h : scalar v = true) : VRel ρ n v v
  | ptr (b o : Nat) (h : b < n) : VRel ρ n (.pointer (some ⟨b, o, none⟩)) (.pointer (some ⟨(ρ b).blk, (ρ b).off + o, none⟩))
  | slice (b o l c c' : Nat) (h : b < n) (hl : l ≤ c') (h0 : c = 0 → c' = 0) (hc : c ≠ 0 → o + c' * c ≤ (ρ b).avail) :
      VRel ρ n (.slice (some ⟨b, o, none⟩) l c) (.slice (some ⟨(ρ b).blk, (ρ b).off + o, none⟩) l c')
  | slice0 (b o c : Nat) (a : Addr) (h : b < n) : VRel ρ n (.slice (some ⟨b, o, none⟩) 0 c) (.slice (some a) 0 0)
  | func (fn : Fn) (fs cs fs' cs' : Array Value) (h1 : fs.size = fs'.size) (h2 : ∀ (i : Nat) v c, fs[i]? = some v → fs'[i]? = some c → VRel ρ n v c)
      (h3 : cs.size = cs'.size) (h4 : ∀ (i : Nat) v c, cs[i]? = some v → cs'[i]? = some c → VRel ρ n v c) : VRel ρ n (.func fn fs cs) (.func fn fs' cs')
  | iface (t : TypeId) (v c : Value) (h : VRel ρ n v c) : VRel ρ n (.iface t v) (.iface t c)
  | map (b : Nat) (h : b < n) : VRel ρ n (.map (some b)) (.map (some (ρ b).blk))
  | agg (xs ys : Array Value) (h1 : xs.size = ys.size) (h2 : ∀ (i : Nat) v c, xs[i]? = some v → ys[i]? = some c → VRel ρ n v c) : VRel ρ n (.agg xs) (.agg ys)
  | tuple (xs ys : Array Value) (h1 : xs.size = ys.size) (h2 : ∀ (i : Nat) v c, xs[i]? = some v → ys[i]? = some c → VRel ρ n v c) : VRel ρ n (.tuple xs) (.tuple ys)

def LRel (ρ : Ren) (n : Nat) (l l' : List Value) : Prop := l.length = l'.length ∧ ∀ (i : Nat) v c, l[i]? = some v → l'[i]? = some c → VRel ρ n v c

variable {ρ ρ' : Ren} {n n' m : Nat}

theorem VRel.mono (hn : n ≤ n') (hr : ∀ b, b < n → ρ' b = ρ b) {v c : Value} (h : VRel ρ n v c) : VRel ρ' n' v c := by
  induction h with
  | sc v h => exact .sc v h
  | ptr b o h => rw [← hr b h]; exact .ptr b o (by omega)
  | slice b o l c c' h hl h0 hc => rw [← hr b h] at hc ⊢; exact .slice b o l c c' (by omega) hl h0 hc
  | slice0 b o c a h => exact .slice0 b o c a (by omega)
  | func fn fs cs fs' cs' h1 _ h3 _ i2 i4 => exact .func fn fs cs fs' cs' h1 i2 h3 i4
  | iface t v c _ ih => exact .iface t v c ih
  | map b h => rw [← hr b h]; exact .map b (by omega)
  | agg xs ys h1 _ ih => exact .agg xs ys h1 ih
  | tuple xs ys h1 _ ih => exact .tuple xs ys h1 ih

theorem LRel.mono (hn : n ≤ n') (hr : ∀ b, b < n → ρ' b = ρ b) {l l' : List Value} (h : LRel ρ n l l') : LRel ρ' n' l l' :=
  ⟨h.1, fun i v c hv hc => (h.2 i v c hv hc).mono hn hr⟩

theorem VRel.scalar_eq {v c : Value} (h : VRel ρ n v c) (hs : scalar v = true) : c = v := by
  cases h <;> first | rfl | (simp [scalar] at hs)

theorem LRel.nil : LRel ρ n [] [] := ⟨rfl, fun i v c h => by simp at h⟩

theorem LRel.cons {v c : Value} {l l' : List Value} (h : VRel ρ n v c) (hl : LRel ρ n l l') : LRel ρ n (v :: l) (c :: l') := by
  refine ⟨by simp [hl.1], fun i v' c' h1 h2 => ?_⟩
  cases i with
  | zero => simp at h1 h2; subst h1; subst h2; exact h
  | succ i => exact hl.2 i v' c' (by simpa using h1) (by simpa using h2)

theorem LRel.cons_inv {v : Value} {l l' : List Value} (h : LRel ρ n (v :: l) l') : ∃ c l'', l' = c :: l'' ∧ VRel ρ n v c ∧ LRel ρ n l l'' := by
  cases l' with
  | nil => simp [LRel] at h
  | cons c l'' =>
    refine ⟨c, l'', rfl, h.2 0 v c rfl rfl, by simpa using h.1, fun i v' c' h1 h2 => h.2 (i + 1) v' c' (by simpa using h1) (by simpa using h2)⟩

theorem LRel.nil_inv {l' : List Value} (h : LRel ρ n [] l') : l' = [] := by
  have := h.1; simp at this; exact List.length_eq_zero_iff.1 this.symm

theorem LRel.append {a a' b b' : List Value} (h : LRel ρ n a a') (k : LRel ρ n b b') : LRel ρ n (a ++ b) (a' ++ b') := by
  refine ⟨by simp [h.1, k.1], fun i v c h1 h2 => ?_⟩
  by_cases hi : i < a.length
  · rw [List.getElem?_append_left hi] at h1
    rw [List.getElem?_append_left (h.1 ▸ hi)] at h2
    exact h.2 i v c h1 h2
  · rw [List.getElem?_append_right (by omega)] at h1
    rw [List.getElem?_append_right (by have := h.1; omega)] at h2
    rw [← h.1] at h2
    exact k.2 _ v c h1 h2

theorem LRel.take (k : Nat) {a a' : List Value} (h : LRel ρ n a a') : LRel ρ n (a.take k) (a'.take k) := by
  refine ⟨by simp [h.1], fun i v c h1 h2 => ?_⟩
  rw [List.getElem?_take] at h1 h2
  split at h1
  · rw [if_pos (by assumption)] at h2; exact h.2 i v c h1 h2
  · cases h1

theorem LRel.drop (k : Nat) {a a' : List Value} (h : LRel ρ n a a') : LRel ρ n (a.drop k) (a'.drop k) := by
  refine ⟨by simp [h.1], fun i v c h1 h2 => ?_⟩
  rw [List.getElem?_drop] at h1 h2
  exact h.2 _ v c h1 h2

theorem LRel.set (k : Nat) {a a' : List Value} {x y : Value} (h : LRel ρ n a a') (hx : VRel ρ n x y) : LRel ρ n (a.set k x) (a'.set k y) := by
  refine ⟨by simp [h.1], fun i v c h1 h2 => ?_⟩
  rw [List.getElem?_set] at h1 h2
  by_cases e : k = i
  · subst e
    simp only [if_true] at h1 h2
    split at h1
    · split at h2
      · simp at h1 h2; subst h1; subst h2; exact hx
      · cases h2
    · cases h1
  · simp only [e, if_false] at h1 h2; exact h.2 i v c h1 h2

theorem LRel.lay {vs vs' : List Value} (hv : LRel ρ n vs vs') : ∀ {a a' : List Value} (k : Nat), LRel ρ n a a' → LRel ρ n (lay a k vs) (lay a' k vs') := by
  induction vs generalizing vs' with
  | nil => intro a a' k h; rw [hv.nil_inv]; exact h
  | cons v vs ih =>
    intro a a' k h
    obtain ⟨c, l, rfl, hc, hl⟩ := hv.cons_inv
    exact ih hl (k + 1) (h.set k hc)

theorem LRel.get {l l' : List Value} (h : LRel ρ n l l') {i : Nat} {v : Value} (hv : l[i]? = some v) : ∃ c, l'[i]? = some c ∧ VRel ρ n v c := by
  have hi : i < l.length := (List.getElem?_eq_some_iff.1 hv).1
  have hi' : i < l'.length := h.1 ▸ hi
  exact ⟨l'[i], List.getElem?_eq_getElem hi', h.2 i v _ hv (List.getElem?_eq_getElem hi')⟩

theorem LRel.scalars {l l' : List Value} (h : LRel ρ n l l') (hs : l.all scalar = true) : l' = l := by
  refine (List.ext_getElem? fun i => ?_).symm
  rcases hv : l[i]? with _ | v
  · have : l.length ≤ i := List.getElem?_eq_none_iff.1 hv
    rw [List.getElem?_eq_none (by rw [← h.1]; exact this)]
  · obtain ⟨c, hc, hr⟩ := h.get hv
    rw [hc, hr.scalar_eq (List.all_eq_true.1 hs v (List.mem_of_getElem? hv))]

theorem LRel.of_scalars (l : List Value) (hs : l.all scalar = true) : LRel ρ n l l :=
  ⟨rfl, fun i v c h1 h2 => by
    rw [h1] at h2; cases h2
    exact .sc v (List.all_eq_true.1 hs v (List.mem_of_getElem? h1))⟩

theorem LRel.of_array {xs ys : Array Value} (h1 : xs.size = ys.size) (h2 : ∀ (i : Nat) v c, xs[i]? = some v → ys[i]? = some c → VRel ρ n v c) : LRel ρ n xs.toList ys.toList :=
  ⟨by simpa using h1, fun i v c hv hc => h2 i v c (by simpa using hv) (by simpa using hc)⟩

theorem LRel.agg {l l' : List Value} (h : LRel ρ n l l') : VRel ρ n (.agg l.toArray) (.agg l'.toArray) :=
  .agg _ _ (by simpa using h.1) fun i v c h1 h2 => h.2 i v c (by simpa using h1) (by simpa using h2)

theorem LRel.tuple {l l' : List Value} (h : LRel ρ n l l') : VRel ρ n (.tuple l.toArray) (.tuple l'.toArray) :=
  .tuple _ _ (by simpa using h.1) fun i v c h1 h2 => h.2 i v c (by simpa using h1) (by simpa using h2)

theorem VRel.agg_inv {xs : Array Value} {c : Value} (h : VRel ρ n (.agg xs) c) : ∃ ys, c = .agg ys ∧ LRel ρ n xs.toList ys.toList := by
  cases h with
  | sc v h => simp [scalar] at h
  | agg xs ys h1 h2 => exact ⟨ys, rfl, LRel.of_array h1 h2⟩

theorem VRel.tuple_inv {xs : Array Value} {c : Value} (h : VRel ρ n (.tuple xs) c) : ∃ ys, c = .tuple ys ∧ LRel ρ n xs.toList ys.toList := by
  cases h with
  | sc v h => simp [scalar] at h
  | tuple xs ys h1 h2 => exact ⟨ys, rfl, LRel.of_array h1 h2⟩

theorem VRel.cells {v c : Value} (h : VRel ρ n v c) : LRel ρ n v.cells.toList c.cells.toList := by
  cases h with
  | agg xs ys h1 h2 => exact LRel.of_array h1 h2
  | sc v hs => cases v <;> first | exact LRel.cons (.sc _ hs) LRel.nil | (simp [scalar] at hs)
  | ptr b o h => exact LRel.cons (.ptr b o h) LRel.nil
  | slice b o l c c' h hl h0 hc => exact LRel.cons (.slice b o l c c' h hl h0 hc) LRel.nil
  | slice0 b o c a h => exact LRel.cons (.slice0 b o c a h) LRel.nil
  | func fn fs cs fs' cs' h1 h2 h3 h4 => exact LRel.cons (.func fn fs cs fs' cs' h1 h2 h3 h4) LRel.nil
  | iface t v c h => exact LRel.cons (.iface t v c h) LRel.nil
  | map b h => exact LRel.cons (.map b h) LRel.nil
  | tuple xs ys h1 h2 => exact LRel.cons (.tuple xs ys h1 h2) LRel.nil

theorem VRel.isCell {v c : Value} (h : VRel ρ n v c) : isCell c = isCell v := by
  cases h <;> rfl

theorem isCell_oneCell (v : Value) : v.oneCell' = isCell v := by cases v <;> rfl

theorem LRel.isCells {l l' : List Value} (h : LRel ρ n l l') (hs : l.all isCell = true) : ∀ u ∈ l', u.oneCell' = true := by
  intro u hu
  obtain ⟨i, hi⟩ := List.mem_iff_getElem?.1 hu
  have hlt : i < l.length := by have := (List.getElem?_eq_some_iff.1 hi).1; rw [h.1]; exact this
  have hv := List.getElem?_eq_getElem hlt
  have := h.2 i _ u hv hi
  rw [isCell_oneCell, this.isCell]
  exact List.all_eq_true.1 hs _ (List.getElem_mem hlt)

theorem VRel.closed {v : Value} (h : closed v = true) : VRel ρ n v v := by
  have key : ∀ cs : Array Value, cs.toList.all scalar = true → ∀ (i : Nat) v c, cs[i]? = some v → cs[i]? = some c → VRel ρ n v c := by
    intro cs hs i v c h1 h2
    rw [h1] at h2; cases h2
    exact .sc v (List.all_eq_true.1 hs v (List.mem_of_getElem? (by simpa using h1)))
  cases v with
  | agg cs => exact .agg cs cs rfl (key cs h)
  | tuple cs => exact .tuple cs cs rfl (key cs h)
  | iface t v => exact .iface t v v (.sc v h)
  | _ => exact .sc _ h

theorem VRel.undef : VRel ρ n undef undef := VRel.closed rfl

theorem VRel.of_below1 {v c : Value} (h : VRel ρ n v c) (hb : below1 m v = true) : VRel ρ m v c := by
  cases h with
  | sc v h => exact .sc v h
  | ptr b o h => exact .ptr b o (by simpa [below1] using hb)
  | slice b o l c c' h hl h0 hc => exact .slice b o l c c' (by simpa [below1] using hb) hl h0 hc
  | slice0 b o c a h => exact .slice0 b o c a (by simpa [below1] using hb)
  | map b h => exact .map b (by simpa [below1] using hb)
  | func => simp [below1, scalar] at hb
  | iface => simp [below1, scalar] at hb
  | agg => simp [below1, scalar] at hb
  | tuple => simp [below1, scalar] at hb

theorem VRel.of_below2 {v c : Value} (h : VRel ρ n v c) (hb : below2 m v = true) : VRel ρ m v c := by
  cases h with
  | agg xs ys h1 h2 =>
    refine .agg xs ys h1 fun i v c hv hc => (h2 i v c hv hc).of_below1 ?_
    exact List.all_eq_true.1 hb v (List.mem_of_getElem? (by simpa using hv))
  | iface t v c h => exact .iface t v c (h.of_below1 hb)
  | sc v h => exact .sc v h
  | ptr b o h => exact (VRel.ptr (n := n) b o h).of_below1 hb
  | slice b o l c c' h hl h0 hc => exact (VRel.slice (n := n) b o l c c' h hl h0 hc).of_below1 hb
  | slice0 b o c a h => exact (VRel.slice0 (n := n) b o c a h).of_below1 hb
  | map b h => exact (VRel.map (n := n) b h).of_below1 hb
  | func => simp [below2, below1, scalar] at hb
  | tuple => simp [below2, below1, scalar] at hb

theorem VRel.of_below {v c : Value} (h : VRel ρ n v c) (hb : Det.below m v = true) : VRel ρ m v c := by
  cases h with
  | agg xs ys h1 h2 =>
    refine .agg xs ys h1 fun i v c hv hc => (h2 i v c hv hc).of_below2 ?_
    exact List.all_eq_true.1 hb v (List.mem_of_getElem? (by simpa using hv))
  | tuple xs ys h1 h2 =>
    refine .tuple xs ys h1 fun i v c hv hc => (h2 i v c hv hc).of_below2 ?_
    exact List.all_eq_true.1 hb v (List.mem_of_getElem? (by simpa using hv))
  | iface t v c h => exact (VRel.iface t v c h).of_below2 hb
  | sc v h => exact .sc v h
  | ptr b o h => exact (VRel.ptr (n := n) b o h).of_below1 hb
  | slice b o l c c' h hl h0 hc => exact (VRel.slice (n := n) b o l c c' h hl h0 hc).of_below1 hb
  | slice0 b o c a h => exact (VRel.slice0 (n := n) b o c a h).of_below1 hb
  | map b h => exact (VRel.map (n := n) b h).of_below1 hb
  | func => simp [Det.below, below2, below1, scalar] at hb

/-- What stands to something below a number has its addresses below it. -/
theorem VRel.shrink {ρ2 : Ren} {k : Nat} {v c c0 : Value} (h : VRel ρ n v c) (h0 : VRel ρ2 k v c0) : VRel ρ k v c := by
  induction h generalizing c0 with
  | sc v h => exact .sc v h
  | ptr b o h =>
    cases h0 with
    | sc _ h => simp [scalar] at h
    | ptr b o h => exact .ptr b o h
  | slice b o l c c' h hl h0' hc =>
    cases h0 with
    | sc _ h => simp [scalar] at h
    | slice b o l c c'' h _ _ _ => exact .slice b o l c c' h hl h0' hc
    | slice0 b o c a h => exact .slice b o 0 c c' h hl h0' hc
  | slice0 b o c a h =>
    cases h0 with
    | sc _ h => simp [scalar] at h
    | slice b o l c c'' h _ _ _ => exact .slice0 b o c a h
    | slice0 b o c a' h => exact .slice0 b o c a h
  | map b h =>
    cases h0 with
    | sc _ h => simp [scalar] at h
    | map b h => exact .map b h
  | iface t v c _ ih =>
    cases h0 with
    | sc _ h => simp [scalar] at h
    | iface t v c' h => exact .iface t v c (ih h)
  | func fn fs cs fs' cs' h1 h2 h3 h4 i2 i4 =>
    cases h0 with
    | sc _ h => simp [scalar] at h
    | func fn fs cs fs2 cs2 g1 g2 g3 g4 =>
      refine .func fn fs cs fs' cs' h1 (fun i v c hv hc => ?_) h3 (fun i v c hv hc => ?_)
      · obtain ⟨u, hu⟩ : ∃ u, fs2[i]? = some u := ⟨fs2[i]'(by have := (Array.getElem?_eq_some_iff.1 hv).1; omega), Array.getElem?_eq_getElem (by have := (Array.getElem?_eq_some_iff.1 hv).1; omega)⟩
        exact i2 i v c hv hc (g2 i v u hv hu)
      · obtain ⟨u, hu⟩ : ∃ u, cs2[i]? = some u := ⟨cs2[i]'(by have := (Array.getElem?_eq_some_iff.1 hv).1; omega), Array.getElem?_eq_getElem (by have := (Array.getElem?_eq_some_iff.1 hv).1; omega)⟩
        exact i4 i v c hv hc (g4 i v u hv hu)
  | agg xs ys h1 h2 ih =>
    cases h0 with
    | sc _ h => simp [scalar] at h
    | agg xs zs g1 g2 =>
      refine .agg xs ys h1 fun i v c hv hc => ?_
      obtain ⟨u, hu⟩ : ∃ u, zs[i]? = some u := ⟨zs[i]'(by have := (Array.getElem?_eq_some_iff.1 hv).1; omega), Array.getElem?_eq_getElem (by have := (Array.getElem?_eq_some_iff.1 hv).1; omega)⟩
      exact ih i v c hv hc (g2 i v u hv hu)
  | tuple xs ys h1 h2 ih =>
    cases h0 with
    | sc _ h => simp [scalar] at h
    | tuple xs zs g1 g2 =>
      refine .tuple xs ys h1 fun i v c hv hc => ?_
      obtain ⟨u, hu⟩ : ∃ u, zs[i]? = some u := ⟨zs[i]'(by have := (Array.getElem?_eq_some_iff.1 hv).1; omega), Array.getElem?_eq_getElem (by have := (Array.getElem?_eq_some_iff.1 hv).1; omega)⟩
      exact ih i v c hv hc (g2 i v u hv hu)

/-! ### The heap -/

/-- Cells of the frame read as cells of a row of the model's from a place on. -/
def CellsAt (ρ : Ren) (n : Nat) (cs : List Value) (ccs : Array Value) (off : Nat) : Prop :=
  ∀ (i : Nat) v, cs[i]? = some v → ∃ c, ccs[off + i]? = some c ∧ VRel ρ n v c

def bd (β : Nat → Nat) (lim : Nat) (h : Heap) (b : Nat) : Nat := if b < lim then β b else h.length

def Blk.odd : Blk → Bool
  | .mp _ _ => true
  | .si _ _ => true
  | _ => false
def oddO : Obj → Bool
  | .map .. => true
  | .stringIter .. => true
  | _ => false
/-- What is known of the memory that lies below a law's own, as long as that stays as it was. -/
class Gl where
  p : Nat → Array Obj → Prop
  keep : ∀ {b : Nat} {hp hp' : Array Obj}, p b hp → hp.size ≤ hp'.size → (∀ k, k < b → hp'[k]? = hp[k]?) → p b hp'
  mono : ∀ {b b' : Nat} {hp : Array Obj}, p b hp → b ≤ b' → b' ≤ hp.size → p b' hp
instance (priority := low) glTrue : Gl := ⟨fun _ _ => True, fun _ _ _ => trivial, fun _ _ _ => trivial⟩
/-- A map's block: the model's map has the same entries, in the same order. A text's: the model goes through the same. -/
structure MpOk [Gl] (base : Nat) (ρ : Ren) (B : Nat → Nat) (h : Heap) (w : World) : Prop where
  mp : ∀ b kd es, h[b]? = some (.mp kd es) → base ≤ (ρ b).blk ∧ ∃ es' cl, w.heap[(ρ b).blk]? = some (.map es' cl) ∧ es'.toList.map (fun e => e.key) = es.map (fun p => keyV kd p.1) ∧
    LRel ρ (B b) (es.map (fun p => p.2)) (es'.toList.map (fun e => e.val)) ∧ ∀ p ∈ es, gkey kd p.1 = true
  apart : ∀ b b' kd kd' es es', h[b]? = some (.mp kd es) → h[b']? = some (.mp kd' es') → b ≠ b' → (ρ b).blk ≠ (ρ b').blk
  si : ∀ b s p, h[b]? = some (.si s p) → base ≤ (ρ b).blk ∧ (ρ b).off = 0 ∧ w.heap[(ρ b).blk]? = some (.stringIter s p)
  siap : ∀ b b' s s' p p', h[b]? = some (.si s p) → h[b']? = some (.si s' p') → b ≠ b' → (ρ b).blk ≠ (ρ b').blk
  gl : Gl.p base w.heap
theorem MpOk.sub [Gl] {base : Nat} {ρ ρ' : Ren} {B B' : Nat → Nat} {h h' : Heap} {w w' : World} (M : MpOk base ρ B h w) (hg : Gl.p base w.heap → Gl.p base w'.heap) (hs : ∀ b k, k.odd = true → h'[b]? = some k → h[b]? = some k ∧ ρ' b = ρ b)
    (hw : ∀ b k, k.odd = true → h[b]? = some k → ∀ o, oddO o = true → w.heap[(ρ b).blk]? = some o → w'.heap[(ρ b).blk]? = some o)
    (hv : ∀ b kd es, h'[b]? = some (.mp kd es) → ∀ l, LRel ρ (B b) (es.map (fun p => p.2)) l → LRel ρ' (B' b) (es.map (fun p => p.2)) l) : MpOk base ρ' B' h' w' := by
  refine ⟨fun b kd es hb => ?_, fun b b' kd kd' es es' h1 h2 hne => ?_, fun b s p hb => ?_, fun b b' s s' p p' h1 h2 hne => ?_, hg M.gl⟩
  · obtain ⟨h1, e⟩ := hs b _ rfl hb
    obtain ⟨g1, es', cl, g2, g3, g4, g5⟩ := M.mp b kd es h1
    rw [e]
    exact ⟨g1, es', cl, hw b _ rfl h1 _ rfl g2, g3, hv b kd es hb _ g4, g5⟩
  · obtain ⟨g1, e1⟩ := hs b _ rfl h1
    obtain ⟨g2, e2⟩ := hs b' _ rfl h2
    rw [e1, e2]
    exact M.apart b b' kd kd' es es' g1 g2 hne
  · obtain ⟨h1, e⟩ := hs b _ rfl hb
    obtain ⟨g1, g0, g2⟩ := M.si b s p h1
    rw [e]
    exact ⟨g1, g0, hw b _ rfl h1 _ rfl g2⟩
  · obtain ⟨g1, e1⟩ := hs b _ rfl h1
    obtain ⟨g2, e2⟩ := hs b' _ rfl h2
    rw [e1, e2]
    exact M.siap b b' s s' p p' g1 g2 hne
structure HR [Gl] (base : Nat) (ρ : Ren) (β : Nat → Nat) (lim : Nat) (h : Heap) (w : World) : Prop where
  lim_le : lim ≤ h.length
  bnd : ∀ b, b < lim → β b ≤ lim
  base_le : base ≤ w.heap.size
  ro : ∀ b cs, h[b]? = some (.ro cs) → cs ≠ [] → (ρ b).blk < base ∧ ∃ ccs e fz, w.heap[(ρ b).blk]? = some (.cells ccs e fz) ∧ CellsAt ρ (bd β lim h b) cs ccs (ρ b).off
  own : ∀ b cs, h[b]? = some (.own cs) → base ≤ (ρ b).blk ∧ ∃ ccs e, w.heap[(ρ b).blk]? = some (.cells ccs e (0, 0)) ∧ (ρ b).off + (ρ b).avail ≤ ccs.size ∧
    cs.length ≤ (ρ b).avail ∧ CellsAt ρ (bd β lim h b) cs ccs (ρ b).off
  apart : ∀ b b' cs cs', h[b]? = some (.own cs) → h[b']? = some (.own cs') → b ≠ b' → (ρ b).blk ≠ (ρ b').blk
  mp : MpOk base ρ (bd β lim h) h w

def Blk.live : Blk → Bool
  | .own _ => true
  | .mp _ _ => true
  | .si _ _ => true
  | _ => false
/-- A block that may be written. -/
def Live (h : Heap) (b : Nat) : Prop := ∃ k, h[b]? = some k ∧ k.live = true

/-- What a step leaves as it was. -/
structure Ext (base : Nat) (md : Md) (ρ : Ren) (h : Heap) (w : World) (ρ' : Ren) (h' : Heap) (w' : World) : Prop where
  len : h.length ≤ h'.length
  rho : ∀ b, b < h.length → ρ' b = ρ b
  ro : ∀ b, b < md.ro → b < h.length → h'[b]? = h[b]?
  below : RowKit.Below base w w'
  frm : ∀ k, k < w.heap.size → (∀ b, Live h b → (ρ b).blk ≠ k) → w'.heap[k]? = w.heap[k]?
  img : ∀ b, Live h' b → w.heap.size ≤ (ρ' b).blk ∨ ∃ b0, Live h b0 ∧ (ρ b0).blk = (ρ' b).blk

theorem Ext.refl {base : Nat} {md : Md} {ρ : Ren} {h : Heap} {w : World} : Ext base md ρ h w ρ h w :=
  ⟨Nat.le_refl _, fun _ _ => rfl, fun _ _ _ => rfl, RowKit.Below.refl _ _, fun _ _ _ => rfl, fun b hb => .inr ⟨b, hb, rfl⟩⟩

theorem Ext.trans {base : Nat} {md : Md} {ρ ρ' ρ'' : Ren} {h h' h'' : Heap} {w w' w'' : World} (a : Ext base md ρ h w ρ' h' w') (b : Ext base md ρ' h' w' ρ'' h'' w'') :
    Ext base md ρ h w ρ'' h'' w'' :=
  ⟨Nat.le_trans a.len b.len, fun i hi => (b.rho i (Nat.lt_of_lt_of_le hi a.len)).trans (a.rho i hi),
   fun i hi hl => (b.ro i hi (Nat.lt_of_lt_of_le hl a.len)).trans (a.ro i hi hl), a.below.trans b.below,
   fun k hk hl => (b.frm k (Nat.lt_of_lt_of_le hk a.below.size) fun x hx e => by
     rcases a.img x hx with q | ⟨y, hy, q⟩
     · rw [e] at q; omega
     · exact hl y hy (q.trans e)).trans (a.frm k hk hl),
   fun x hx => by
     rcases b.img x hx with q | ⟨y, hy, q⟩
     · exact .inl (Nat.le_trans a.below.size q)
     · rcases a.img y hy with z | ⟨u, hu, z⟩
       · exact .inl (q ▸ z)
       · exact .inr ⟨u, hu, z.trans q⟩⟩

section
variable [Gl] {base : Nat} {β : Nat → Nat} {lim : Nat} {h : Heap} {w : World}

theorem HR.bd_le (H : HR base ρ β lim h w) (b : Nat) : bd β lim h b ≤ h.length := by
  unfold bd; split
  · rename_i hb; exact Nat.le_trans (H.bnd b hb) H.lim_le
  · exact Nat.le_refl _

/-- A block that lives. -/
theorem HR.block (H : HR base ρ β lim h w) {b : Nat} {k : Blk} (hb : h[b]? = some k) (hk : k.cells ≠ []) :
    ∃ ccs e fz, w.heap[(ρ b).blk]? = some (.cells ccs e fz) ∧ CellsAt ρ h.length k.cells ccs (ρ b).off := by
  cases k with
  | dead => exact absurd rfl hk
  | mp kd es => exact absurd rfl hk
  | si s p => exact absurd rfl hk
  | ro cs =>
    obtain ⟨_, ccs, e, fz, h1, h2⟩ := H.ro b cs hb (fun e => hk (by simp [Blk.cells, e]))
    exact ⟨ccs, e, fz, h1, fun i v hv => let ⟨c, hc, hr⟩ := h2 i v hv; ⟨c, hc, hr.mono (H.bd_le b) fun _ _ => rfl⟩⟩
  | own cs =>
    obtain ⟨_, ccs, e, h1, _, _, h2⟩ := H.own b cs hb
    exact ⟨ccs, e, _, h1, fun i v hv => let ⟨c, hc, hr⟩ := h2 i v hv; ⟨c, hc, hr.mono (H.bd_le b) fun _ _ => rfl⟩⟩

theorem cell_of_heap {w : World} {b o : Nat} {ccs : Array Value} {e : TypeId} {fz : Nat × Nat} {c : Value} (h : w.heap[b]? = some (.cells ccs e fz)) (hc : ccs[o]? = some c) :
    w.cell? ⟨b, o, none⟩ = some c := by
  simp [World.cell?, h, hc]

theorem HR.rd (H : HR base ρ β lim h w) {b i : Nat} {v : Value} (hv : rd h b i = some v) : ∃ c, w.cell? ⟨(ρ b).blk, (ρ b).off + i, none⟩ = some c ∧ VRel ρ h.length v c := by
  unfold Det.rd at hv
  cases hb : h[b]? with
  | none => simp [hb] at hv
  | some k =>
    simp only [hb] at hv
    obtain ⟨ccs, e, fz, h1, h2⟩ := H.block hb (by intro e; simp [e] at hv)
    obtain ⟨c, hc, hr⟩ := h2 i v hv
    exact ⟨c, cell_of_heap h1 hc, hr⟩

theorem rdN_get {h : Heap} {b i n : Nat} {l : List Value} (hl : rdN h b i n = some l) : l.length = n ∧ ∀ (j : Nat) v, l[j]? = some v → rd h b (i + j) = some v := by
  unfold rdN at hl
  cases hb : h[b]? with
  | none => simp [hb] at hl
  | some k =>
    simp only [hb] at hl
    split at hl
    · cases hl
      refine ⟨by simp; omega, fun j v hv => ?_⟩
      simp only [Det.rd, hb]
      rw [List.getElem?_take] at hv
      split at hv
      · rw [List.getElem?_drop] at hv; exact hv
      · cases hv
    · cases hl

theorem HR.rdN (H : HR base ρ β lim h w) {b i n : Nat} {l : List Value} (hl : rdN h b i n = some l) :
    ∃ l', LRel ρ h.length l l' ∧ ∀ (j : Nat) c, l'[j]? = some c → w.cell? ⟨(ρ b).blk, (ρ b).off + i + j, none⟩ = some c := by
  obtain ⟨hn, hg⟩ := rdN_get hl
  have key : ∀ (l : List Value) (i : Nat), (∀ (j : Nat) v, l[j]? = some v → Det.rd h b (i + j) = some v) →
      ∃ l', LRel ρ h.length l l' ∧ ∀ (j : Nat) c, l'[j]? = some c → w.cell? ⟨(ρ b).blk, (ρ b).off + i + j, none⟩ = some c := by
    intro l
    induction l with
    | nil => intro i _; exact ⟨[], LRel.nil, fun j c h => by simp at h⟩
    | cons v l ih =>
      intro i hg
      obtain ⟨c, hc, hr⟩ := H.rd (hg 0 v rfl)
      obtain ⟨l', h1, h2⟩ := ih (i + 1) (fun j u hu => by have := hg (j + 1) u (by simpa using hu); rwa [show i + (j + 1) = i + 1 + j by omega] at this)
      refine ⟨c :: l', LRel.cons hr h1, fun j u hu => ?_⟩
      cases j with
      | zero => simp at hu; subst hu; simpa using hc
      | succ j =>
        have := h2 j u (by simpa using hu)
        rwa [show (ρ b).off + (i + 1) + j = (ρ b).off + i + (j + 1) by omega] at this
  exact key l i hg

/-- Another count of draws. -/
theorem HR.drew (H : HR base ρ β lim h w) : HR base ρ β lim h w.drew := ⟨H.lim_le, H.bnd, H.base_le, H.ro, H.own, H.apart, H.mp.sub id (fun _ _ _ h => ⟨h, rfl⟩) (fun _ _ _ _ _ _ h => h) (fun _ _ _ _ _ h => h)⟩

/-- A world that differs outside of what is known of it. -/
theorem HR.world (H : HR base ρ β lim h w) {w' : World} (hw : w'.heap = w.heap) : HR base ρ β lim h w' :=
  ⟨H.lim_le, H.bnd, hw ▸ H.base_le, hw ▸ H.ro, hw ▸ H.own, H.apart, H.mp.sub (fun g => by rw [hw]; exact g) (fun _ _ _ h => ⟨h, rfl⟩) (fun _ _ _ _ _ _ h => by rw [hw]; exact h) (fun _ _ _ _ _ h => h)⟩

end
end Go.Det
