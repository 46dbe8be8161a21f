/- Free slots: memory at first, the row of the free ones, and lists of whole numbers. -/
import Derived.Test.YtkbpnndheliokaaS1
set_option autoImplicit false
set_option linter.unusedVariables false
set_option linter.unusedSimpArgs false
namespace Go.Det.E
open Go.Proofs Go.Det
attribute [local congr] bind_c cond_c
variable {md : Md} {h hh h' : Heap} {a b k : Nat} {l c : List Int} {V T : Int} {n : Nat}
theorem tInts : SlT Try.prog 39 3 1 8 [(Value.int .i64 0)] := ⟨by kernel_rfl, by kernel_rfl, by kernel_rfl, rfl, by decide, by decide, rfl⟩
abbrev encI (x : Int) : List Value := [(Value.int .i64 x)]
theorem encI_len (x : Int) : (encI x).length = 1 := rfl
theorem encI_cell (x : Int) : (encI x).all isCell = true := rfl
theorem bInts1 {α : Type} {x : Int} (h : Heap) (k : Value → Heap → Option α) : aBuildSlice Try.prog 39 1 [(0, (Value.int .i64 x))] h k = k ((Value.slice (some ⟨h.length, 0, none⟩) 1 1)) (h ++ [Blk.own [(Value.int .i64 x)]]) := by kernel_rfl
theorem cIU {α : Type} {x : Int} (k : Value → Option α) : aConv Try.prog 3 59 ((Value.int .i64 x)) k = k ((Value.int .u64 (IntKind.wrap .u64 x))) := aConv_int W.u3 W.u24
theorem cUI {α : Type} {x : Int} (k : Value → Option α) : aConv Try.prog 59 3 ((Value.int .u64 x)) k = k ((Value.int .i64 (IntKind.wrap .i64 x))) := aConv_int W.u24 W.u3
/-- The cell of a slot's next one. -/
theorem Ox_in {S T s : Int} (h0 : 0 ≤ s) (h1 : s < S) : Ox S T s 0 = T + 1 + s * 7 := by
  unfold Ox; rw [Bl_t.2 ⟨h0, h1⟩]; simp
/-- Is a list the row of the free slots that begins so? -/
def Fr (S T : Int) (l : List Int) : Int → List Int → Prop
  | nx, [] => nx = 0
  | nx, x :: xs => nx = x + 1 ∧ 0 ≤ x ∧ x < S ∧ Fr S T l (getI l (Ox S T x 0)) xs
theorem Fr.pos {S T : Int} {l : List Int} {nx : Int} {xs : List Int} (F : Fr S T l nx xs) : 0 ≤ nx ∧ nx ≤ S ∨ xs = [] ∧ nx = 0 := by
  cases xs with
  | nil => exact .inr ⟨rfl, F⟩
  | cons x xs => obtain ⟨h1, h2, h3, _⟩ := F; left; omega
/-- Other cells do not matter. -/
theorem Fr.other {S T : Int} {l l' : List Int} {xs : List Int} : ∀ {nx : Int}, Fr S T l nx xs → (∀ x ∈ xs, getI l' (Ox S T x 0) = getI l (Ox S T x 0)) → Fr S T l' nx xs := by
  induction xs with
  | nil => intro nx F _; exact F
  | cons x xs ih =>
    intro nx F hl
    obtain ⟨h1, h2, h3, h4⟩ := F
    exact ⟨h1, h2, h3, by rw [hl x (by simp)]; exact ih h4 fun y hy => hl y (by simp [hy])⟩
/-- Counts that are no more than so many. -/
def C5 (B : Int) (c : List Int) : Prop := ∃ c0 c1 c2 c3 c4, c = [c0, c1, c2, c3, c4] ∧ (0 ≤ c0 ∧ c0 ≤ B) ∧ (0 ≤ c1 ∧ c1 ≤ B) ∧ (0 ≤ c2 ∧ c2 ≤ B) ∧ (0 ≤ c3 ∧ c3 ≤ B) ∧ c4 = 0
def sm (c : List Int) : Int := c.getD 0 0 + c.getD 1 0 + c.getD 2 0 + c.getD 3 0
theorem c5_up {B : Int} {c : List Int} (h : C5 B c) (hB : B < 1000000) {j : Nat} (hj : j < 4) : C5 (B + 1) (up c j) ∧ sm (up c j) = sm c + 1 ∧ (∀ i, i ≠ j → (up c j).getD i 0 = c.getD i 0) ∧ (up c j).getD j 0 = c.getD j 0 + 1 := by
  obtain ⟨c0, c1, c2, c3, c4, rfl, h0, h1, h2, h3, h4⟩ := h
  have w : ∀ x : Int, 0 ≤ x ∧ x ≤ B → IntKind.wrap .i64 (x + 1) = x + 1 := fun x hx => wi (by omega) (by omega)
  match j, hj with
  | 0, _ =>
    have e : up [c0, c1, c2, c3, c4] 0 = [c0 + 1, c1, c2, c3, c4] := by show [IntKind.wrap .i64 (c0 + 1), c1, c2, c3, c4] = _; rw [w c0 h0]
    rw [e]
    refine ⟨⟨_, _, _, _, _, rfl, by omega, by omega, by omega, by omega, h4⟩, by simp [sm]; omega, fun i hi => ?_, rfl⟩
    match i, hi with
    | 0, hi => exact absurd rfl hi
    | 1, _ => rfl
    | 2, _ => rfl
    | 3, _ => rfl
    | 4, _ => rfl
    | i + 5, _ => rfl
  | 1, _ =>
    have e : up [c0, c1, c2, c3, c4] 1 = [c0, c1 + 1, c2, c3, c4] := by show [c0, IntKind.wrap .i64 (c1 + 1), c2, c3, c4] = _; rw [w c1 h1]
    rw [e]
    refine ⟨⟨_, _, _, _, _, rfl, by omega, by omega, by omega, by omega, h4⟩, by simp [sm]; omega, fun i hi => ?_, rfl⟩
    match i, hi with
    | 0, _ => rfl
    | 1, hi => exact absurd rfl hi
    | 2, _ => rfl
    | 3, _ => rfl
    | 4, _ => rfl
    | i + 5, _ => rfl
  | 2, _ =>
    have e : up [c0, c1, c2, c3, c4] 2 = [c0, c1, c2 + 1, c3, c4] := by show [c0, c1, IntKind.wrap .i64 (c2 + 1), c3, c4] = _; rw [w c2 h2]
    rw [e]
    refine ⟨⟨_, _, _, _, _, rfl, by omega, by omega, by omega, by omega, h4⟩, by simp [sm]; omega, fun i hi => ?_, rfl⟩
    match i, hi with
    | 0, _ => rfl
    | 1, _ => rfl
    | 2, hi => exact absurd rfl hi
    | 3, _ => rfl
    | 4, _ => rfl
    | i + 5, _ => rfl
  | 3, _ =>
    have e : up [c0, c1, c2, c3, c4] 3 = [c0, c1, c2, c3 + 1, c4] := by show [c0, c1, c2, IntKind.wrap .i64 (c3 + 1), c4] = _; rw [w c3 h3]
    rw [e]
    refine ⟨⟨_, _, _, _, _, rfl, by omega, by omega, by omega, by omega, h4⟩, by simp [sm]; omega, fun i hi => ?_, rfl⟩
    match i, hi with
    | 0, _ => rfl
    | 1, _ => rfl
    | 2, _ => rfl
    | 3, hi => exact absurd rfl hi
    | 4, _ => rfl
    | i + 5, _ => rfl
theorem c5_mono {B B' : Int} {c : List Int} (h : C5 B c) (hB : B ≤ B') : C5 B' c := by
  obtain ⟨c0, c1, c2, c3, c4, e, q0, q1, q2, q3, q4⟩ := h
  exact ⟨c0, c1, c2, c3, c4, e, by omega, by omega, by omega, by omega, q4⟩
theorem c5_cL {B : Int} {l c : List Int} {i : Int} (h : C5 B c) (hB : B < 1000000) : C5 (B + 1) (cL l c i) := by
  unfold cL
  split
  · exact (c5_up h hB (by omega)).1
  · exact c5_mono h (by omega)
theorem list_loop {h0 : Heap} {q : Nat} (hR : Rt V n T) (w : Wd l) (hra : md.ro ≤ a) (la : a < h0.length) (lb : b < h0.length) (hro : md.ro ≤ h0.length) (hq : q < h0.length) (qa : q ≠ a) (qb : q ≠ b) (s4 : Value) : ∀ (xs pre : List Int) (nx : Int) (s5 : Value) (hh : Heap) (c : List Int),
    Fr n T l nx xs → pre.length + xs.length ≤ n → hh[q]? = some (.own [(Value.int .i64 V), (Value.int .i64 ((n : Int))), (Value.int .i64 T)]) → Ar hh a b l c → OG a b h0 hh → SlO hh h0.length 1 encI s5 pre →
    ∃ v' h' c', J31_0 C md h (ifA a) ((Value.pointer (some ⟨q, 0, none⟩))) s4 s5 ((Value.int .u64 nx)) hh = some (v', h') ∧ SlO h' h0.length 1 encI v' (pre ++ xs) ∧ Ar h' a b l c' ∧ OG a b h0 h' ∧ ∀ B : Int, C5 B c → B + xs.length < 100000 → C5 (B + xs.length) c' := by
  have hS : (0 : Int) ≤ n ∧ (n : Int) ≤ 48 := hR.2.1
  intro xs
  induction xs with
  | nil =>
    intro pre nx s5 hh c F hlen hq0 A O S5
    have hn : nx = 0 := F
    subst hn
    refine ⟨s5, hh, c, ?_, by simpa using S5, A, O, fun B hc _ => c5_mono hc (by simp)⟩
    rw [J31_0_step]
    unfold Jr31_0
    simp only [go_sem, Nat.reduceAdd, Nat.reduceLeDiff, Nat.reduceMul, Int.reduceBEq, Int.reduceBNe, Int.reduceLT, Int.reduceLE, Int.reduceGT, aBin_gtr, Int.lt_irrefl, Jk31_0]
  | cons x xs ih =>
    intro pre nx s5 hh c F hlen hq0 A O S5
    obtain ⟨h1, h2, h3, h4⟩ := F
    subst h1
    simp only [List.length_cons] at hlen
    have r1 : rd hh q 1 = some ((Value.int .i64 ((n : Int)))) := by rw [rd_own hq0]; rfl
    have c1 : (0 : Int) < x + 1 := by omega
    have c2 : x + 1 ≤ (n : Int) := by omega
    have len := fun {α : Type} (k : Value → Option α) => S5.sl.len k
    have c3 : (pre.length : Int) < (n : Int) := by omega
    have wn : IntKind.wrap .u64 (n : Int) = n := wu (by omega) (by omega)
    have wx : IntKind.wrap .i64 (x + 1) = x + 1 := wi (by omega) (by omega)
    have wx1 : IntKind.wrap .i64 (x + 1 - 1) = x := by rw [wi (by omega) (by omega)]; omega
    have la2 := O.len
    obtain ⟨v2, h2', ea, S2, l2, f2⟩ := append_own2 (md := md) (ys := [x]) tInts S5 hro la2 (cs := [(Value.int .i64 x)]) (by simp [flat]) (by simp) rfl (by simp; omega)
    have s5b : s5 = .slice none 0 0 ∨ h0.length ≤ slB s5 := S5.own.imp id fun q => q.1
    have keep : ∀ y, y < h0.length → h2'[y]? = hh[y]? := fun y hy => f2 y (by omega) (s5b.imp id fun q => by omega)
    have A2 := A.same (keep a la) (keep b lb)
    have q2 := (keep q hq).trans hq0
    have rL : rdN h2' q 0 3 = some [(Value.int .i64 V), (Value.int .i64 ((n : Int))), (Value.int .i64 T)] := by rw [rdN_own q2 (by simp)]; rfl
    have nf := fun (m : Md) (h : Heap) => nextfree_s m h hR (a := x)
    obtain ⟨h3', e3, A3, o3⟩ := pl_x (md := md) A2 hra (Ox n T x 0)
    have O3 : OG a b h0 h3' := OG.only ⟨by omega, fun y h1 h2 h3 => (keep y h1).trans (O.oth y h1 h2 h3)⟩ o3
    have S3 : SlO h3' h0.length 1 encI v2 (pre ++ [x]) := (S2.mono la2).at fun y h1 h2 => o3.oth y (by omega) (by omega)
    obtain ⟨v', h', c', e', S', A', O', C'⟩ := ih (pre ++ [x]) (getI l (Ox n T x 0)) v2 h3' _ h4 (by simp; omega) ((o3.oth q qa qb).trans q2) A3 O3 S3
    refine ⟨v', h', c', ?_, by simpa using S', A', O', fun B hc hB => ?_⟩
    rotate_left
    · simp only [List.length_cons] at hB ⊢
      have := C' (B + 1) (c5_cL hc (by omega)) (by omega)
      exact c5_mono this (by omega)
    rw [J31_0_step]
    unfold Jr31_0
    simp only [List.length_cons, List.length_nil, Nat.zero_add] at ea
    simp only [go_sem, Nat.reduceAdd, Nat.reduceLeDiff, Nat.reduceMul, Int.reduceBEq, Int.reduceBNe, Int.reduceLT, Int.reduceLE, Int.reduceGT, aBin_gtr, c1, r1, cIU, wn, aBin_leq, c2, len, aBin_lss, c3, cUI, wx, aBin_sub, wx1, bInts1, ea, rL, nf, okN_load, clI_load, e3]
    exact e'
/-- The row of the free slots. -/
theorem list_c (hR : Rt V n T) (A : Ar h a b l c) (w : Wd l) (hra : md.ro ≤ a) (hro : md.ro ≤ h.length) (hlim : md.lim ≤ h.length) {xs : List Int} (F : Fr n T l (getI l T % 65536) xs) (hlen : xs.length ≤ n) :
    ∃ v' h' c', C md 31 [ifA a, (Value.agg #[(Value.int .i64 V), (Value.int .i64 ((n : Int))), (Value.int .i64 T)])] h = some (v', h') ∧ SlO h' h.length 1 encI v' xs ∧ Ar h' a b l c' ∧ OG a b h h' ∧ ∀ B : Int, C5 B c → B + 1 + xs.length < 100000 → C5 (B + 1 + xs.length) c' := by
  have la := lt_of A.ha
  have lb := lt_of A.hb
  have gw := w.get T
  obtain ⟨h1, e1, A1, o1⟩ := pl_x (md := md) (A.app [Blk.own [(Value.int .i64 V), (Value.int .i64 ((n : Int))), (Value.int .i64 T)]]) hra T
  have O1 : OG a b h h1 := (OG.refl.app _).only o1
  have l1 := o1.len
  simp only [List.length_append, List.length_cons, List.length_nil] at l1
  have q1 : h1[h.length]? = some (.own [(Value.int .i64 V), (Value.int .i64 ((n : Int))), (Value.int .i64 T)]) := by rw [o1.oth _ (by omega) (by omega)]; simp
  obtain ⟨v', h', c', e', S', A', O', C'⟩ := list_loop (md := md) (h := h) (h0 := h1) (q := h.length) hR w hra (by omega) (by omega) (by omega) (by omega) (by omega) (by omega) (.slice none 0 0) xs [] _ (.slice none 0 0) h1 _ F (by simpa using hlen) q1 A1 OG.refl (SlO.nil _ _ encI_len)
  refine ⟨v', h', c', ?_, by simpa using S'.mono (by omega), A', O1.trans O', fun B hc hB => C' (B + 1) (c5_cL hc (by omega)) hB⟩
  rw [C, call_eq, F31_eq]
  unfold F31
  simp only [go_sem, Nat.reduceAdd, Nat.reduceLeDiff, Nat.reduceMul, Int.reduceBEq, Int.reduceBNe, Int.reduceLT, Int.reduceLE, Int.reduceGT, hro, hlim, free_s, okN_load, clI_load, e1, first_s gw.1 gw.2]
  exact e'
theorem list_e (hR : Rt V n T) (A : Ar h a b l c) (w : Wd l) (hra : md.ro ≤ a) (hro : md.ro ≤ h.length) (hlim : md.lim ≤ h.length) {xs : List Int} (F : Fr n T l (getI l T % 65536) xs) (hlen : xs.length ≤ n) :
    ∃ v' h' c', C md 31 [ifA a, (Value.agg #[(Value.int .i64 V), (Value.int .i64 ((n : Int))), (Value.int .i64 T)])] h = some (v', h') ∧ SlO h' h.length 1 encI v' xs ∧ Ar h' a b l c' ∧ OG a b h h' := by
  obtain ⟨v', h', c', e', S', A', O', _⟩ := list_c (md := md) hR A w hra hro hlim F hlen
  exact ⟨v', h', c', e', S', A', O'⟩
end Go.Det.E
