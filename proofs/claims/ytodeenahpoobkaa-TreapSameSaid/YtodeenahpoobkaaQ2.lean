/- Slices of whole numbers and of pairs: what is read of them. -/
import Derived.Test.YtodeenahpoobkaaN1
import Derived.Test.YtodeenahpoobkaaQ1
set_option autoImplicit false
set_option linter.unusedVariables false
set_option linter.unusedSimpArgs false
namespace Go.Det
abbrev eZ (x : Int) : List Value := [(Value.int .i64 x)]
theorem eZ_len (x : Int) : (eZ x).length = 1 := rfl
abbrev eZ2 (x : Int × Int) : List Value := [(Value.int .i64 x.1), (Value.int .i64 x.2)]
theorem eZ2_len (x : Int × Int) : (eZ2 x).length = 2 := rfl
variable {h : Heap} {v : Value}
theorem Sl.getI {xs : List Int} (S : Sl h 1 eZ v xs) {k : Nat} {x : Int} (hx : xs[k]? = some x) :
    (∀ {α : Type} (kk : Value → Option α), ixS 1 v (k : Int) kk = kk ((Value.pointer (some ⟨slB v, slO v + k, none⟩)))) ∧ rd h (slB v) (slO v + k) = some ((Value.int .i64 x)) := by
  have h1 : k < xs.length := (List.getElem?_eq_some_iff.1 hx).1
  refine ⟨fun kk => ?_, ?_⟩
  · rw [S.ix (by omega) (by omega) kk, Nat.mul_one, Int.toNat_natCast]
  · have := S.cell hx (j := 0) (by decide)
    rw [Nat.mul_one, Nat.add_zero] at this
    exact this
theorem Sl.getE {xs : List (Int × Int)} (S : Sl h 2 eZ2 v xs) {k : Nat} {x : Int × Int} (hx : xs[k]? = some x) :
    (∀ {α : Type} (kk : Value → Option α), ixS 2 v (k : Int) kk = kk ((Value.pointer (some ⟨slB v, slO v + k * 2, none⟩)))) ∧ rd h (slB v) (slO v + k * 2) = some ((Value.int .i64 x.1)) ∧ rd h (slB v) (slO v + k * 2 + 1) = some ((Value.int .i64 x.2)) := by
  have h1 : k < xs.length := (List.getElem?_eq_some_iff.1 hx).1
  refine ⟨fun kk => ?_, ?_, ?_⟩
  · rw [S.ix (by omega) (by omega) kk, Int.toNat_natCast]
  · have := S.cell hx (j := 0) (by decide)
    rw [Nat.add_zero] at this
    exact this
  · have := S.cell hx (j := 1) (by decide)
    exact this
end Go.Det
/- The document's forest: which node is above, the root of a row. -/
namespace Go.Det.U
/-- The place of the best of the first nodes. -/
def bestI (pr : Int → Int) (row : List Int) : Nat → Nat
  | 0 => 0
  | i + 1 => bif ab pr (row.getD i 0) (row.getD (bestI pr row i) 0) then i else bestI pr row i
theorem bestI_succ (pr : Int → Int) (row : List Int) (i : Nat) : bestI pr row (i + 1) = bif ab pr (row.getD i 0) (row.getD (bestI pr row i) 0) then i else bestI pr row i := rfl
theorem ab_irrefl (pr : Int → Int) (x : Int) : ab pr x x = false := by rw [← Bool.not_eq_true, ab_t]; omega
theorem bestI_lt (pr : Int → Int) (row : List Int) (i : Nat) : bestI pr row i < max 1 i := by
  induction i with
  | zero => show 0 < _; omega
  | succ i ih => unfold bestI; cases ab pr (row.getD i 0) (row.getD (bestI pr row i) 0) <;> simp <;> omega
theorem getD_l (l r : List Int) (x : Int) {i : Nat} (h : i < l.length) : (l ++ x :: r).getD i 0 ∈ l := by
  rw [List.getD_eq_getElem?_getD, List.getElem?_append_left h, List.getElem?_eq_getElem h]
  simp
theorem getD_m (l r : List Int) (x : Int) : (l ++ x :: r).getD l.length 0 = x := by
  rw [List.getD_eq_getElem?_getD, List.getElem?_append_right (Nat.le_refl _)]; simp
theorem getD_r (l r : List Int) (x : Int) {i : Nat} (h : l.length < i) (h2 : i < (l ++ x :: r).length) : (l ++ x :: r).getD i 0 ∈ r := by
  have h3 : i - l.length - 1 < r.length := by simp at h2; omega
  rw [List.getD_eq_getElem?_getD, List.getElem?_append_right (by omega), show i - l.length = (i - l.length - 1) + 1 by omega, List.getElem?_cons_succ, List.getElem?_eq_getElem h3]
  simp
theorem best_root {pr : Int → Int} {l r : List Int} {x : Int} (h1 : ∀ y ∈ l, ab pr x y = true) (h2 : ∀ y ∈ r, ab pr x y = true) : ∀ i, i ≤ (l ++ x :: r).length → l.length < i → bestI pr (l ++ x :: r) i = l.length := by
  intro i
  induction i with
  | zero => intro _ h; omega
  | succ i ih =>
    intro hi hl
    unfold bestI
    by_cases h : i = l.length
    · subst h
      rw [getD_m]
      have b := bestI_lt pr (l ++ x :: r) l.length
      by_cases h0 : bestI pr (l ++ x :: r) l.length = l.length
      · rw [h0, getD_m, ab_irrefl]; rfl
      · rw [h1 _ (getD_l l r x (by omega))]; rfl
    · rw [ih (by omega) (by omega), getD_m, ab_asym (h2 _ (getD_r l r x (by omega) (by omega)))]; rfl
theorem best_t {pr : Int → Int} {l r : Tr} {x : Int} (h : (Tr.nd l x r).hp pr) : bestI pr (Tr.nd l x r).row (Tr.nd l x r).row.length = l.sz := by
  rw [← Tr.row_len]
  exact best_root h.1 h.2.1 _ (Nat.le_refl _) (by show l.row.length < (l.row ++ x :: r.row).length; simp)
end Go.Det.U
namespace Go.Det.E
open Go.Proofs Go.Det Go.Det.U
attribute [local congr] bind_c cond_c
abbrev eU (x : Int) : List Value := [(Value.int .u64 x)]
theorem eU_len (x : Int) : (eU x).length = 1 := rfl
abbrev eBo (x : Bool) : List Value := [(Value.bool x)]
theorem eBo_len (x : Bool) : (eBo x).length = 1 := rfl
theorem Sl.getU {h : Heap} {v : Value} {xs : List Int} (S : Sl h 1 eU v xs) {k : Nat} {x : Int} (hx : xs[k]? = some x) :
    (∀ {α : Type} (kk : Value → Option α), ixS 1 v (k : Int) kk = kk ((Value.pointer (some ⟨slB v, slO v + k, none⟩)))) ∧ rd h (slB v) (slO v + k) = some ((Value.int .u64 x)) := by
  have h1 : k < xs.length := (List.getElem?_eq_some_iff.1 hx).1
  refine ⟨fun kk => ?_, ?_⟩
  · rw [S.ix (by omega) (by omega) kk, Nat.mul_one, Int.toNat_natCast]
  · have := S.cell hx (j := 0) (by decide)
    rw [Nat.mul_one, Nat.add_zero] at this
    exact this
theorem Sl.getB {h : Heap} {v : Value} {xs : List Bool} (S : Sl h 1 eBo v xs) {k : Nat} {x : Bool} (hx : xs[k]? = some x) :
    (∀ {α : Type} (kk : Value → Option α), ixS 1 v (k : Int) kk = kk ((Value.pointer (some ⟨slB v, slO v + k, none⟩)))) ∧ rd h (slB v) (slO v + k) = some ((Value.bool x)) := by
  have h1 : k < xs.length := (List.getElem?_eq_some_iff.1 hx).1
  refine ⟨fun kk => ?_, ?_⟩
  · rw [S.ix (by omega) (by omega) kk, Nat.mul_one, Int.toNat_natCast]
  · have := S.cell hx (j := 0) (by decide)
    rw [Nat.mul_one, Nat.add_zero] at this
    exact this
/-- The forest's priorities, marks and vertices in memory. -/
structure FoH (h : Heap) (P M W : Value) (N : Nat) (pr : Int → Int) (mk : Int → Nat) (vx : Int → Bool) : Prop where
  pri : ∃ us, Sl h 1 eU P us ∧ us.length = N + 1 ∧ ∀ x : Nat, 1 ≤ x → x ≤ N → us[x]? = some (pr x)
  mar : ∃ ms, Sl h 1 eZ M ms ∧ ms.length = N + 1 ∧ ∀ x : Nat, 1 ≤ x → x ≤ N → ms[x]? = some (mk x : Int)
  ver : ∃ ws, Sl h 1 eBo W ws ∧ ws.length = N + 1 ∧ ∀ x : Nat, 1 ≤ x → x ≤ N → ws[x]? = some (vx x)
variable {md : Md} {h hh : Heap} {P M W R : Value} {N : Nat} {pr : Int → Int} {mk : Int → Nat} {vx : Int → Bool} {x y : Int}
theorem FoH.heap {h' : Heap} (F : FoH h P M W N pr mk vx) (hp : slB P < h.length → h'[slB P]? = h[slB P]?) (hm : slB M < h.length → h'[slB M]? = h[slB M]?) (hw : slB W < h.length → h'[slB W]? = h[slB W]?) : FoH h' P M W N pr mk vx := by
  obtain ⟨⟨us, a1, a2⟩, ⟨ms, b1, b2⟩, ⟨ws, c1, c2⟩⟩ := F
  exact ⟨⟨us, a1.heap hp, a2⟩, ⟨ms, b1.heap hm, b2⟩, ⟨ws, c1.heap hw, c2⟩⟩
theorem FoH.app (F : FoH h P M W N pr mk vx) (bs : Heap) : FoH (h ++ bs) P M W N pr mk vx := F.heap (fun q => List.getElem?_append_left q) (fun q => List.getElem?_append_left q) (fun q => List.getElem?_append_left q)
theorem fo_above (F : FoH h P M W N pr mk vx) (hx : 1 ≤ x ∧ x ≤ N) (hy : 1 ≤ y ∧ y ≤ N) : C md 62 [(Value.agg #[R, P, M, W]), (Value.int .i64 x), (Value.int .i64 y)] h = some ((Value.bool (ab pr x y)), h) := by
  obtain ⟨us, S, hl, g⟩ := (F.app [Blk.own [R, P, M, W]]).pri
  have gx := g x.toNat (by omega) (by omega)
  have gy := g y.toNat (by omega) (by omega)
  rw [show ((x.toNat : Nat) : Int) = x by omega] at gx
  rw [show ((y.toNat : Nat) : Int) = y by omega] at gy
  obtain ⟨ix, rx⟩ := Sl.getU S gx
  obtain ⟨iy, ry⟩ := Sl.getU S gy
  rw [show ((x.toNat : Nat) : Int) = x by omega] at ix
  rw [show ((y.toNat : Nat) : Int) = y by omega] at iy
  rw [C, call_eq, F62_eq]
  unfold F62
  by_cases c1 : pr x > pr y
  · have e : ab pr x y = true := ab_t.2 (.inl c1)
    simp only [go_sem, Nat.reduceAdd, Nat.reduceLeDiff, Nat.reduceMul, Int.reduceBEq, Int.reduceBNe, Int.reduceLT, Int.reduceLE, Int.reduceGT, ix, rx, iy, ry, c1, e]
  · by_cases c2 : pr x = pr y
    · have b2 : (pr x == pr y) = true := by simp [c2]
      by_cases c3 : x < y
      · have e : ab pr x y = true := ab_t.2 (.inr ⟨c2, c3⟩)
        simp only [go_sem, Nat.reduceAdd, Nat.reduceLeDiff, Nat.reduceMul, Int.reduceBEq, Int.reduceBNe, Int.reduceLT, Int.reduceLE, Int.reduceGT, ix, rx, iy, ry, c1, aBin_eql, b2, aBin_lss, c3, e]
      · have e : ab pr x y = false := by rw [← Bool.not_eq_true, ab_t]; omega
        simp only [go_sem, Nat.reduceAdd, Nat.reduceLeDiff, Nat.reduceMul, Int.reduceBEq, Int.reduceBNe, Int.reduceLT, Int.reduceLE, Int.reduceGT, ix, rx, iy, ry, c1, aBin_eql, b2, aBin_lss, c3, e]
    · have b2 : (pr x == pr y) = false := by simp [c2]
      have e : ab pr x y = false := by rw [← Bool.not_eq_true, ab_t]; omega
      simp only [go_sem, Nat.reduceAdd, Nat.reduceLeDiff, Nat.reduceMul, Int.reduceBEq, Int.reduceBNe, Int.reduceLT, Int.reduceLE, Int.reduceGT, ix, rx, iy, ry, c1, aBin_eql, b2, e]
theorem row_at {row : List Int} {i : Nat} (h : i < row.length) : row[i]? = some (row.getD i 0) := by
  rw [List.getD_eq_getElem?_getD, List.getElem?_eq_getElem h]; rfl
theorem getD_mem {row : List Int} {i : Nat} (h : i < row.length) : row.getD i 0 ∈ row := by
  rw [List.getD_eq_getElem?_getD, List.getElem?_eq_getElem h]; simp
theorem root_loop {row : List Int} {rv s4 : Value} {k : Heap} (hb : k[hh.length]? = some (.own [R, P, M, W])) (F : FoH k P M W N pr mk vx) (S : Sl k 1 eZ rv row) (h0 : ∀ y ∈ row, 1 ≤ y ∧ y ≤ N) (hl : row.length < 60000) : ∀ (m i : Nat), i + m = row.length →
    J19_0 C md hh rv ((Value.pointer (some ⟨hh.length, 0, none⟩))) s4 ((Value.int .i64 ((bestI pr row i : Int)))) ((Value.int .i64 ((i : Int)))) k = J19_1 C md hh rv ((Value.int .i64 ((bestI pr row row.length : Int)))) k := by
  intro m
  induction m with
  | zero =>
    intro i hi
    obtain rfl : i = row.length := by omega
    rw [J19_0_step]
    unfold Jr19_0
    simp only [go_sem, Nat.reduceAdd, Nat.reduceLeDiff, Nat.reduceMul, Int.reduceBEq, Int.reduceBNe, Int.reduceLT, Int.reduceLE, Int.reduceGT, S.len, aBin_lss, Int.lt_irrefl, Jk19_0]
  | succ m ih =>
    intro i hi
    have hlt : (i : Int) < (row.length : Int) := by omega
    have w : IntKind.wrap .i64 ((i : Int) + 1) = ((i + 1 : Nat) : Int) := by rw [wi (by omega) (by omega)]; rfl
    have b := bestI_lt pr row i
    obtain ⟨ix, rx⟩ := Sl.getI S (row_at (row := row) (i := i) (by omega))
    obtain ⟨iy, ry⟩ := Sl.getI S (row_at (row := row) (i := bestI pr row i) (by omega))
    have r4 : rdN k hh.length 0 4 = some [R, P, M, W] := by rw [rdN_at hb (Nat.le_refl 4)]; rfl
    have e := fo_above (md := md) (R := R) F (h0 _ (getD_mem (row := row) (i := i) (by omega))) (h0 _ (getD_mem (row := row) (i := bestI pr row i) (by omega)))
    have e2 := ih (i + 1) (by omega)
    rw [J19_0_step]
    unfold Jr19_0
    rw [bestI_succ] at e2
    cases hab : ab pr (row.getD i 0) (row.getD (bestI pr row i) 0)
    · rw [hab] at e e2
      simp only [go_sem, Nat.reduceAdd, Nat.reduceLeDiff, Nat.reduceMul, Int.reduceBEq, Int.reduceBNe, Int.reduceLT, Int.reduceLE, Int.reduceGT, S.len, aBin_lss, hlt, r4, ixSV_p, ix, rx, iy, ry, e, aBin_add, w]
      exact e2
    · rw [hab] at e e2
      simp only [go_sem, Nat.reduceAdd, Nat.reduceLeDiff, Nat.reduceMul, Int.reduceBEq, Int.reduceBNe, Int.reduceLT, Int.reduceLE, Int.reduceGT, S.len, aBin_lss, hlt, r4, ixSV_p, ix, rx, iy, ry, e, aBin_add, w]
      exact e2
theorem fo_root {t : Tr} {rv : Value} (F : FoH h P M W N pr mk vx) (S : Sl h 1 eZ rv t.row) (hp : t.hp pr) (h0 : ∀ y ∈ t.row, 1 ≤ y ∧ y ≤ N) (hl : t.sz < 60000) :
    C md 19 [(Value.agg #[R, P, M, W]), rv] h = some ((Value.int .i64 t.rt), h) := by
  have hb : (h ++ [Blk.own [R, P, M, W]])[h.length]? = some (.own [R, P, M, W]) := by simp
  have S1 : Sl (h ++ [Blk.own [R, P, M, W]]) 1 eZ rv t.row := S.app
  rw [← Tr.row_len] at hl
  have e := fun (md : Md) => root_loop (md := md) (s4 := (Value.int .i64 0)) hb (F.app _) S1 h0 hl t.row.length 0 (by omega)
  rw [C, call_eq, F19_eq]
  unfold F19
  have e' := fun (md : Md) => e md
  simp only [bestI, Int.natCast_zero] at e'
  simp only [go_sem, Nat.reduceAdd, Nat.reduceLeDiff, Nat.reduceMul, Int.reduceBEq, Int.reduceBNe, Int.reduceLT, Int.reduceLE, Int.reduceGT]
  rw [e']
  unfold J19_1
  cases t with
  | nil =>
    have z : (((Tr.nil).row.length : Int) == 0) = true := rfl
    simp only [go_sem, Nat.reduceAdd, Nat.reduceLeDiff, Nat.reduceMul, Int.reduceBEq, Int.reduceBNe, Int.reduceLT, Int.reduceLE, Int.reduceGT, S1.len, z, rt_0]
  | nd l x r =>
    have b := best_t hp
    have nz : (((Tr.nd l x r).row.length : Int) == 0) = false := by simp [Tr.row]; omega
    have gx : (Tr.nd l x r).row[l.sz]? = some x := by
      rw [← Tr.row_len]
      show (l.row ++ x :: r.row)[l.row.length]? = some x
      rw [List.getElem?_append_right (Nat.le_refl _)]; simp
    obtain ⟨ix, rx⟩ := Sl.getI S1 gx
    rw [b]
    simp only [go_sem, Nat.reduceAdd, Nat.reduceLeDiff, Nat.reduceMul, Int.reduceBEq, Int.reduceBNe, Int.reduceLT, Int.reduceLE, Int.reduceGT, S1.len, nz, ixSV_p, ix, rx, rt_nd]
end Go.Det.E

/- The document's forest: the nodes of a tree. -/
namespace Go.Det
theorem lay_eq : ∀ (vs cs : List Value) (i : Nat), i + vs.length ≤ cs.length → lay cs i vs = cs.take i ++ (vs ++ cs.drop (i + vs.length)) := by
  intro vs
  induction vs with
  | nil => intro cs i h; simp [lay]
  | cons v vs ih =>
    intro cs i h
    simp only [List.length_cons] at h
    rw [lay, ih _ _ (by simp; omega)]
    have e : cs.set i v = cs.take i ++ v :: cs.drop (i + 1) := by
      rw [List.set_eq_take_append_cons_drop, if_pos (by omega)]
    have hl : (cs.take i).length = i := by rw [List.length_take]; omega
    rw [e]
    have e1 : (cs.take i ++ v :: cs.drop (i + 1)).take (i + 1) = cs.take i ++ [v] := by
      conv => lhs; rw [← hl]
      rw [hl, show i + 1 = (cs.take i).length + 1 by omega, List.take_length_add_append]; simp
    have e2 : (cs.take i ++ v :: cs.drop (i + 1)).drop (i + 1 + vs.length) = cs.drop (i + (vs.length + 1)) := by
      rw [show i + 1 + vs.length = (cs.take i).length + (1 + vs.length) by omega, List.drop_length_add_append, Nat.add_comm 1, List.drop_succ_cons, List.drop_drop]
      congr 1; omega
    rw [e1, e2]
    simp
theorem lay_flat {ε : Type} {enc : ε → List Value} {sz : Nat} (he : ∀ x, (enc x).length = sz) (xs : List ε) {k : Nat} (x : ε) (hk : k < xs.length) : lay (flat enc xs) (k * sz) (enc x) = flat enc (xs.set k x) := by
  have hm : (k + 1) * sz ≤ xs.length * sz := Nat.mul_le_mul_right _ hk
  rw [Nat.succ_mul] at hm
  rw [lay_eq _ _ _ (by rw [he, flat_len he]; omega), he, List.set_eq_take_append_cons_drop, if_pos hk, flat_app, flat_cons, flat_take he]
  congr 2
  rw [← flat_drop he, Nat.succ_mul]
theorem wr_at {md : Md} {h : Heap} {b i : Nat} {cs vs : List Value} (hb : h[b]? = some (.own cs)) (hi : i + vs.length ≤ cs.length) (hro : md.ro ≤ b) (hs : md.lim ≤ b ∨ vs.all scalar = true) : wrN md h b i vs = some (h.set b (.own (lay cs i vs))) := by
  unfold wrN
  rw [hb]
  simp only []
  rw [if_pos hi, if_pos ⟨hro, hs⟩]
variable {P : Program} {ε : Type}
/-- The first ones: the same block. -/
theorem Sl.preB {h : Heap} {sz bytes : Nat} {enc : ε → List Value} {v : Value} {xs : List ε} {ty e : TypeId} {z : List Value} (T : SlT P ty e sz bytes z) (S : Sl h sz enc v xs) {k : Int} (h0 : 0 ≤ k) (h1 : k ≤ xs.length) :
    ∃ v', (∀ {α : Type} (kk : Value → Option α), aSlice P ty v none (some (.int .i64 k)) none kk = kk v') ∧ slB v' = slB v ∧ Sl h sz enc v' (xs.take k.toNat) := by
  obtain ⟨j, hj, e1, e2⟩ := T.info
  rcases S.is with ⟨rfl, rfl⟩ | ⟨b, o, kb, rfl, hb, hc, hl2⟩
  · have : k = 0 := by simp at h1; omega
    subst this
    refine ⟨.slice none 0 0, fun kk => ?_, rfl, by simpa using Sl.nil h S.he⟩
    unfold aSlice
    simp [T.hu, hj]
  · refine ⟨.slice (some ⟨b, o, none⟩) k.toNat sz, fun kk => ?_, rfl, ?_⟩
    · unfold aSlice
      simp only [T.hu, hj]
      rw [if_pos ⟨by omega, h0, h1, .inr e1.symm⟩]
      simp
    · have hk : (xs.take k.toNat).length = k.toNat := by rw [List.length_take]; omega
      have hm : k.toNat * sz ≤ xs.length * sz := Nat.mul_le_mul_right _ (by omega)
      refine Sl.part S.he hb ?_ (by rw [hk]; omega) hk.symm
      rw [hk, ← flat_take S.he, ← hc, List.take_take, Nat.min_eq_left hm]
/-- The last ones: the same block. -/
theorem Sl.sufB {h : Heap} {sz bytes : Nat} {enc : ε → List Value} {v : Value} {xs : List ε} {ty e : TypeId} {z : List Value} (T : SlT P ty e sz bytes z) (S : Sl h sz enc v xs) {k : Int} (h0 : 0 ≤ k) (h1 : k ≤ xs.length) :
    ∃ v', (∀ {α : Type} (kk : Value → Option α), aSlice P ty v (some (.int .i64 k)) none none kk = kk v') ∧ slB v' = slB v ∧ Sl h sz enc v' (xs.drop k.toNat) := by
  obtain ⟨j, hj, e1, e2⟩ := T.info
  rcases S.is with ⟨rfl, rfl⟩ | ⟨b, o, kb, rfl, hb, hc, hl2⟩
  · have : k = 0 := by simp at h1; omega
    subst this
    refine ⟨.slice none 0 0, fun kk => ?_, rfl, by simpa using Sl.nil h S.he⟩
    unfold aSlice
    simp [T.hu, hj]
  · have hk : (xs.drop k.toNat).length = xs.length - k.toNat := List.length_drop
    have hm : k.toNat * sz + (xs.length - k.toNat) * sz = xs.length * sz := by rw [← Nat.add_mul]; congr 1; omega
    refine ⟨.slice (some ⟨b, o + k.toNat * sz, none⟩) (xs.length - k.toNat) sz, fun kk => ?_, rfl, ?_⟩
    · unfold aSlice
      simp only [T.hu, hj]
      rw [if_pos ⟨h0, h1, by omega, .inr e1.symm⟩]
      have : ((xs.length : Int) - k).toNat = xs.length - k.toNat := by omega
      rw [this, e1]
    · refine Sl.part S.he hb ?_ (by rw [hk]; omega) hk.symm
      have := flat_drop S.he xs k.toNat
      rw [← hc, List.drop_take, List.drop_drop] at this
      rw [hk, ← this]
      congr 1
      omega
end Go.Det
namespace Go.Det.U
structure RN where
  p : Int
  l : Int
  r : Int
  s : Int
  v : Int
  m : Int
  a : Int
end Go.Det.U
namespace Go.Det.E
open Go.Proofs Go.Det Go.Det.U
attribute [local congr] bind_c cond_c
abbrev eRN (n : RN) : List Value := [(Value.int .i64 n.p), (Value.int .i64 n.l), (Value.int .i64 n.r), (Value.int .i64 n.s), (Value.int .i64 n.v), (Value.int .i64 n.m), (Value.int .i64 n.a)]
theorem eRN_len (n : RN) : (eRN n).length = 7 := rfl
theorem tInt9 : SlT Try.prog 44 3 1 8 [(Value.int .i64 0)] := ⟨by kernel_rfl, by kernel_rfl, by kernel_rfl, rfl, by decide, by decide, rfl⟩
variable {md : Md} {h hh k : Heap} {P M W R rv s8 : Value} {N ob : Nat} {pr : Int → Int} {mk : Int → Nat} {vx : Int → Bool} {x y p : Int} {ns ns' : List RN}
/-- What the document tells of a tree's nodes. -/
def nodeOf (mk : Int → Nat) (vx : Int → Bool) (l : Tr) (x : Int) (r : Tr) (p : Int) : RN := ⟨p, l.rt, r.rt, (Tr.nd l x r).sz, (Tr.nd l x r).nv vx, mk x, (Tr.nd l x r).am mk⟩
def Told (mk : Int → Nat) (vx : Int → Bool) (ns : List RN) : Tr → Int → Prop
  | .nil, _ => True
  | .nd l x r, p => ns[x.toNat]? = some (nodeOf mk vx l x r p) ∧ Told mk vx ns l x ∧ Told mk vx ns r x
theorem Told.congr {t : Tr} {p : Int} (h : ∀ y ∈ t.row, ns'[y.toNat]? = ns[y.toNat]?) (T : Told mk vx ns t p) : Told mk vx ns' t p := by
  induction t generalizing p with
  | nil => trivial
  | nd l x r hl hr => exact ⟨(h x (by simp [Tr.row])).trans T.1, hl (fun y hy => h y (by simp [Tr.row, hy])) T.2.1, hr (fun y hy => h y (by simp [Tr.row, hy])) T.2.2⟩
theorem take_one {row : List Int} {i : Nat} (h : i < row.length) : row.take (i + 1) = row.take i ++ [row.getD i 0] := by
  rw [List.take_add_one, row_at h]; rfl
theorem or_i64 {x y : Nat} (hx : x < 4) (hy : y < 4) : bOr .i64 (x : Int) (y : Int) = ((x ||| y : Nat) : Int) := by
  obtain rfl | rfl | rfl | rfl : x = 0 ∨ x = 1 ∨ x = 2 ∨ x = 3 := by omega
  all_goals obtain rfl | rfl | rfl | rfl : y = 0 ∨ y = 1 ∨ y = 2 ∨ y = 3 := by omega
  all_goals kernel_rfl
def orL (mk : Int → Nat) (l : List Int) : Nat := l.foldl (fun a x => a ||| mk x) 0
theorem orL_lt (hm : ∀ x, mk x < 4) (l : List Int) : orL mk l < 4 := by
  unfold orL
  have : ∀ (l : List Int) (a : Nat), a < 4 → l.foldl (fun a x => a ||| mk x) a < 4 := by
    intro l
    induction l with
    | nil => intro a h; exact h
    | cons x l ih => intro a h; exact ih _ (Nat.or_lt_two_pow (n := 2) h (hm x))
  exact this l 0 (by omega)
theorem orL_snoc (l : List Int) (x : Int) : orL mk (l ++ [x]) = orL mk l ||| mk x := by unfold orL; rw [List.foldl_append]; rfl
theorem best_loop {row : List Int} {rv s2 s3 : Value} (hb : k[hh.length]? = some (.own [R, P, M, W])) (F : FoH k P M W N pr mk vx) (S : Sl k 1 eZ rv row) (h0 : ∀ y ∈ row, 1 ≤ y ∧ y ≤ N) (hl : row.length < 60000) : ∀ (m i : Nat), i + m = row.length →
    J61_0 C md hh rv s2 s3 ((Value.pointer (some ⟨hh.length, 0, none⟩))) s8 ((Value.int .i64 ((bestI pr row i : Int)))) ((Value.int .i64 ((i : Int)))) k = J61_1 C md hh rv s2 s3 ((Value.pointer (some ⟨hh.length, 0, none⟩))) s8 ((Value.int .i64 ((bestI pr row row.length : Int)))) k := by
  intro m
  induction m with
  | zero =>
    intro i hi
    obtain rfl : i = row.length := by omega
    rw [J61_0_step]
    unfold Jr61_0
    simp only [go_sem, Nat.reduceAdd, Nat.reduceLeDiff, Nat.reduceMul, Int.reduceBEq, Int.reduceBNe, Int.reduceLT, Int.reduceLE, Int.reduceGT, S.len, aBin_lss, Int.lt_irrefl, Jk61_0]
  | succ m ih =>
    intro i hi
    have hlt : (i : Int) < (row.length : Int) := by omega
    have w : IntKind.wrap .i64 ((i : Int) + 1) = ((i + 1 : Nat) : Int) := by rw [wi (by omega) (by omega)]; rfl
    have b := bestI_lt pr row i
    obtain ⟨ix, rx⟩ := Sl.getI S (row_at (row := row) (i := i) (by omega))
    obtain ⟨iy, ry⟩ := Sl.getI S (row_at (row := row) (i := bestI pr row i) (by omega))
    have r4 : rdN k hh.length 0 4 = some [R, P, M, W] := by rw [rdN_at hb (Nat.le_refl 4)]; rfl
    have e := fo_above (md := md) (R := R) F (h0 _ (getD_mem (row := row) (i := i) (by omega))) (h0 _ (getD_mem (row := row) (i := bestI pr row i) (by omega)))
    have e2 := ih (i + 1) (by omega)
    rw [J61_0_step]
    unfold Jr61_0
    rw [bestI_succ] at e2
    cases hab : ab pr (row.getD i 0) (row.getD (bestI pr row i) 0)
    · rw [hab] at e e2
      simp only [go_sem, Nat.reduceAdd, Nat.reduceLeDiff, Nat.reduceMul, Int.reduceBEq, Int.reduceBNe, Int.reduceLT, Int.reduceLE, Int.reduceGT, S.len, aBin_lss, hlt, r4, ixSV_p, ix, rx, iy, ry, e, aBin_add, w]
      exact e2
    · rw [hab] at e e2
      simp only [go_sem, Nat.reduceAdd, Nat.reduceLeDiff, Nat.reduceMul, Int.reduceBEq, Int.reduceBNe, Int.reduceLT, Int.reduceLE, Int.reduceGT, S.len, aBin_lss, hlt, r4, ixSV_p, ix, rx, iy, ry, e, aBin_add, w]
      exact e2
/-- A new node while its row is gone through. -/
def ndB (mk : Int → Nat) (vx : Int → Bool) (p : Int) (row : List Int) (x : Int) (i : Nat) : List Value := [(Value.int .i64 p), (Value.int .i64 0), (Value.int .i64 0), (Value.int .i64 ((row.length : Int))), (Value.int .i64 ((((row.take i).filter vx).length : Int))), (Value.int .i64 ((mk x : Int))), (Value.int .i64 ((orL mk (row.take i) : Int)))]
theorem count_loop {row : List Int} {s3 s9 : Value} (hm : ∀ x, mk x < 4) (hb : k[hh.length]? = some (.own [R, P, M, W])) (F : FoH k P M W N pr mk vx) (S : Sl k 1 eZ rv row) (h0 : ∀ y ∈ row, 1 ≤ y ∧ y ≤ N) (hl : row.length < 60000) (hro : md.ro ≤ k.length) (hlim : md.lim ≤ k.length) : ∀ (m i : Nat), i + m = row.length →
    J61_2 C md hh rv s3 ((Value.pointer (some ⟨hh.length, 0, none⟩))) s8 s9 ((Value.int .i64 x)) ((Value.pointer (some ⟨k.length, 0, none⟩))) ((Value.int .i64 ((i : Int)))) (k ++ [Blk.own (ndB mk vx p row x i)]) = J61_3 C md hh rv s3 ((Value.pointer (some ⟨hh.length, 0, none⟩))) s9 ((Value.int .i64 x)) ((Value.pointer (some ⟨k.length, 0, none⟩))) (k ++ [Blk.own (ndB mk vx p row x row.length)]) := by
  intro m
  induction m with
  | zero =>
    intro i hi
    obtain rfl : i = row.length := by omega
    rw [J61_2_step]
    unfold Jr61_2
    simp only [go_sem, Nat.reduceAdd, Nat.reduceLeDiff, Nat.reduceMul, Int.reduceBEq, Int.reduceBNe, Int.reduceLT, Int.reduceLE, Int.reduceGT, S.len, aBin_lss, Int.lt_irrefl, Jk61_2]
  | succ m ih =>
    intro i hi
    have hlt : (i : Int) < (row.length : Int) := by omega
    have w : IntKind.wrap .i64 ((i : Int) + 1) = ((i + 1 : Nat) : Int) := by rw [wi (by omega) (by omega)]; rfl
    have S1 : Sl (k ++ [Blk.own (ndB mk vx p row x i)]) 1 eZ rv row := S.app
    have F1 := F.app [Blk.own (ndB mk vx p row x i)]
    obtain ⟨ix, rx⟩ := Sl.getI S1 (row_at (row := row) (i := i) (by omega))
    have hx := h0 _ (getD_mem (row := row) (i := i) (by omega))
    have e2 := ih (i + 1) (by omega)
    have tk := take_one (row := row) (i := i) (by omega)
    generalize hz : row.getD i 0 = z at *
    obtain ⟨us, _, _⟩ := F1.pri
    obtain ⟨ms, Sm, lm, gm⟩ := F1.mar
    obtain ⟨ws, Sw, lw, gw⟩ := F1.ver
    have gm := gm z.toNat (by omega) (by omega)
    have gw := gw z.toNat (by omega) (by omega)
    rw [show ((z.toNat : Nat) : Int) = z by omega] at gm gw
    obtain ⟨im, rm⟩ := Sl.getI Sm gm
    obtain ⟨iw, rw'⟩ := Sl.getB Sw gw
    rw [show ((z.toNat : Nat) : Int) = z by omega] at im iw
    have lh := lt_of hb
    have hb1 : (k ++ [Blk.own (ndB mk vx p row x i)])[hh.length]? = some (.own [R, P, M, W]) := by rw [List.getElem?_append_left lh]; exact hb
    have rM : rd (k ++ [Blk.own (ndB mk vx p row x i)]) hh.length 2 = some M := by rw [rd_at hb1]; rfl
    have rW : rd (k ++ [Blk.own (ndB mk vx p row x i)]) hh.length 3 = some W := by rw [rd_at hb1]; rfl
    have hcn := List.length_filter_le vx (row.take i)
    have htl : (row.take i).length ≤ i := by rw [List.length_take]; omega
    have w2 : IntKind.wrap .i64 ((((row.take i).filter vx).length : Int) + 1) = ((((row.take i).filter vx).length + 1 : Nat) : Int) := by rw [wi (by omega) (by omega)]; rfl
    have oo := or_i64 (orL_lt hm (row.take i)) (hm z)
    have eo : orL mk (row.take (i + 1)) = orL mk (row.take i) ||| mk z := by rw [tk, orL_snoc]
    rw [J61_2_step]
    unfold Jr61_2
    cases hv : vx z
    · have ec : ((row.take (i + 1)).filter vx).length = ((row.take i).filter vx).length := by rw [tk, List.filter_append]; simp [hv]
      have w7 := wrN_new0 (md := md) (h := k) (bs := []) (i := 6) (cs := ndB mk vx p row x i) (vs := [(Value.int .i64 (((orL mk (row.take i) ||| mk z : Nat) : Int)))]) hro hlim (Nat.le_refl 7)
      have eB : lay (ndB mk vx p row x i) 6 [(Value.int .i64 (((orL mk (row.take i) ||| mk z : Nat) : Int)))] = ndB mk vx p row x (i + 1) := by
        unfold ndB; rw [ec, eo]; rfl
      rw [eB] at w7
      have rA : rd (k ++ [Blk.own (ndB mk vx p row x i)]) k.length 6 = some ((Value.int .i64 ((orL mk (row.take i) : Int)))) := by rw [rd_at (List.getElem?_concat_length ..)]; rfl
      rw [hv] at rw'
      simp only [go_sem, Nat.reduceAdd, Nat.reduceLeDiff, Nat.reduceMul, Int.reduceBEq, Int.reduceBNe, Int.reduceLT, Int.reduceLE, Int.reduceGT, S1.len, aBin_lss, hlt, rW, ixSV_p, ix, rx, iw, rw', J61_2b0, rA, rM, im, rm, oo, w7, aBin_add, w]
      exact e2
    · have ec : ((row.take (i + 1)).filter vx).length = ((row.take i).filter vx).length + 1 := by rw [tk, List.filter_append]; simp [hv]
      rw [hv] at rw'
      have r4 : rd (k ++ [Blk.own (ndB mk vx p row x i)]) k.length 4 = some ((Value.int .i64 ((((row.take i).filter vx).length : Int)))) := by rw [rd_at (List.getElem?_concat_length ..)]; rfl
      have w5 := wrN_new0 (md := md) (h := k) (bs := []) (i := 4) (cs := ndB mk vx p row x i) (vs := [(Value.int .i64 (((((row.take i).filter vx).length + 1 : Nat) : Int)))]) hro hlim (by show 5 ≤ 7; omega)
      generalize hB : lay (ndB mk vx p row x i) 4 [(Value.int .i64 (((((row.take i).filter vx).length + 1 : Nat) : Int)))] = B at w5
      have sl : ∀ b : Nat, b < k.length → (k ++ [Blk.own B])[b]? = (k ++ [Blk.own (ndB mk vx p row x i)])[b]? := fun b hb => by rw [List.getElem?_append_left hb, List.getElem?_append_left hb]
      have hb2 : (k ++ [Blk.own B])[hh.length]? = some (.own [R, P, M, W]) := by rw [List.getElem?_append_left lh]; exact hb
      have rM2 : rd (k ++ [Blk.own B]) hh.length 2 = some M := by rw [rd_at hb2]; rfl
      obtain ⟨ms2, Sm2, lm2, gm2⟩ := (F.app [Blk.own B]).mar
      have gm2 := gm2 z.toNat (by omega) (by omega)
      rw [show ((z.toNat : Nat) : Int) = z by omega] at gm2
      obtain ⟨im2, rm2⟩ := Sl.getI Sm2 gm2
      rw [show ((z.toNat : Nat) : Int) = z by omega] at im2
      obtain ⟨ix2, rx2⟩ := Sl.getI (S.app (bs := [Blk.own B])) (row_at (row := row) (i := i) (by omega))
      rw [hz] at rx2
      have w7 := wrN_new0 (md := md) (h := k) (bs := []) (i := 6) (cs := B) (vs := [(Value.int .i64 (((orL mk (row.take i) ||| mk z : Nat) : Int)))]) hro hlim (by rw [← hB]; exact Nat.le_refl 7)
      have eB : lay B 6 [(Value.int .i64 (((orL mk (row.take i) ||| mk z : Nat) : Int)))] = ndB mk vx p row x (i + 1) := by
        rw [← hB]; unfold ndB; rw [ec, eo]; rfl
      rw [eB] at w7
      have rA : rd (k ++ [Blk.own B]) k.length 6 = some ((Value.int .i64 ((orL mk (row.take i) : Int)))) := by rw [rd_at (List.getElem?_concat_length ..), ← hB]; rfl
      simp only [go_sem, Nat.reduceAdd, Nat.reduceLeDiff, Nat.reduceMul, Int.reduceBEq, Int.reduceBNe, Int.reduceLT, Int.reduceLE, Int.reduceGT, S1.len, aBin_lss, hlt, rW, ixSV_p, ix, rx, iw, rw', J61_2b0, r4, w2, w5, rA, rM2, ix2, rx2, im2, rm2, oo, w7, aBin_add, w]
      exact e2
end Go.Det.E

/- The document's forest: a tree's nodes are written. -/
namespace Go.Det.E
open Go.Proofs Go.Det Go.Det.U
attribute [local congr] bind_c cond_c
variable {md : Md} {h hh k : Heap} {P M W R rv s8 : Value} {N ob : Nat} {pr : Int → Int} {mk : Int → Nat} {vx : Int → Bool} {x y p : Int} {ns ns' : List RN}
theorem bNode {α : Type} {p n m : Int} (kk : Value → Option α) : aBuild Try.prog 56 [(0, (Value.int .i64 p)), (3, (Value.int .i64 n)), (5, (Value.int .i64 m))] kk = kk ((Value.agg (List.toArray ([(Value.int .i64 p), (Value.int .i64 0), (Value.int .i64 0), (Value.int .i64 n), (Value.int .i64 0), (Value.int .i64 m), (Value.int .i64 0)])))) := by kernel_rfl
theorem set_same {h : Heap} {b : Nat} {v : Blk} (hb : b < h.length) : (h.set b v)[b]? = some v := by rw [List.getElem?_set_self hb]
theorem set_else {h : Heap} {b y : Nat} {v : Blk} (hy : y ≠ b) : (h.set b v)[y]? = h[y]? := List.getElem?_set_ne (Ne.symm hy)
theorem fo_tree (hm : ∀ x, mk x < 4) (hpf : slB P < ob) (hmf : slB M < ob) (hwf : slB W < ob) (hN : N < 60000) : ∀ (t : Tr) (md : Md) (h : Heap) (rv : Value) (p : Int) (ns : List RN), Sl h 1 eZ rv t.row → slB rv < ob → FoH h P M W N pr mk vx → t.hp pr → t.row.Nodup → (∀ y ∈ t.row, 1 ≤ y ∧ y ≤ N) → t.sz < 60000 → h[ob]? = some (.own (flat eRN ns)) → ns.length = N + 1 → md.ro ≤ ob → md.ro ≤ h.length →
    ∃ h' ns', C md 61 [(Value.agg #[R, P, M, W]), rv, (Value.int .i64 p), (Value.slice (some ⟨ob, 0, none⟩) (N + 1) 7)] h = some ((Value.int .i64 t.rt), h') ∧ h'.length = h.length ∧ (∀ y, y ≠ ob → h'[y]? = h[y]?) ∧ h'[ob]? = some (.own (flat eRN ns')) ∧ ns'.length = ns.length ∧ Told mk vx ns' t p ∧ ∀ j : Nat, (j : Int) ∉ t.row → ns'[j]? = ns[j]? := by
  intro t
  induction t with
  | nil =>
    intro md h rv p ns S hrv F hp hn h0 hz ho hl hro hr
    refine ⟨h, ns, ?_, rfl, fun _ _ => rfl, ho, rfl, trivial, fun _ _ => rfl⟩
    have z : (((Tr.nil).row.length : Int) == 0) = true := rfl
    rw [C, call_eq, F61_eq]
    unfold F61
    simp only [go_sem, Nat.reduceAdd, Nat.reduceLeDiff, Nat.reduceMul, Int.reduceBEq, Int.reduceBNe, Int.reduceLT, Int.reduceLE, Int.reduceGT, S.len, z, rt_0, take_app]
  | nd l x r ihl ihr =>
    intro md h rv p ns S hrv F hp hn h0 hz ho hl hro hr
    have hn' : (l.row ++ x :: r.row).Nodup := hn
    have pp := parts_of (V := 0) (S := 0) hn'
    have hx := h0 x (by simp [Tr.row])
    have hz' : l.sz + r.sz + 1 < 60000 := hz
    have lob := lt_of ho
    have nz : (((Tr.nd l x r).row.length : Int) == 0) = false := by simp [Tr.row]; omega
    have bt := best_t hp
    have rl := Tr.row_len (Tr.nd l x r)
    have ll := Tr.row_len l
    have lr := Tr.row_len r
    have gx : (Tr.nd l x r).row[l.sz]? = some x := by
      rw [← ll]
      show (l.row ++ x :: r.row)[l.row.length]? = some x
      rw [List.getElem?_append_right (Nat.le_refl _)]; simp
    generalize hf : Blk.own [R, P, M, W] = f
    have lh1 : (h ++ [f]).length = h.length + 1 := by simp
    have hb : (h ++ [f])[h.length]? = some (.own [R, P, M, W]) := by rw [hf]; simp
    have S1 : Sl (h ++ [f]) 1 eZ rv (Tr.nd l x r).row := S.app
    have F1 := F.app [f]
    have e0 := best_loop (md := ⟨md.ro, h.length⟩) (s2 := (Value.int .i64 p)) (s3 := (Value.slice (some ⟨ob, 0, none⟩) (N + 1) 7)) (s8 := (Value.int .i64 0)) (R := R) hb F1 S1 h0 (by omega) (Tr.nd l x r).row.length 0 (by omega)
    rw [bt] at e0
    simp only [bestI, Int.natCast_zero] at e0
    have e1 := count_loop (md := ⟨md.ro, h.length⟩) (s3 := (Value.slice (some ⟨ob, 0, none⟩) (N + 1) 7)) (s8 := (Value.int .i64 0)) (s9 := (Value.int .i64 ((l.sz : Int)))) (R := R) (x := x) (p := p) hm hb F1 S1 h0 (by omega) (by simp; omega) (by simp) (Tr.nd l x r).row.length 0 (by omega)
    simp only [Int.natCast_zero] at e1
    have eN0 : ndB mk vx p (Tr.nd l x r).row x 0 = [(Value.int .i64 p), (Value.int .i64 0), (Value.int .i64 0), (Value.int .i64 (((Tr.nd l x r).row.length : Int))), (Value.int .i64 0), (Value.int .i64 ((mk x : Int))), (Value.int .i64 0)] := rfl
    have eN1 : ndB mk vx p (Tr.nd l x r).row x (Tr.nd l x r).row.length = [(Value.int .i64 p), (Value.int .i64 0), (Value.int .i64 0), (Value.int .i64 (((Tr.nd l x r).sz : Int))), (Value.int .i64 (((Tr.nd l x r).nv vx : Int))), (Value.int .i64 ((mk x : Int))), (Value.int .i64 (((Tr.nd l x r).am mk : Int)))] := by
      unfold ndB; rw [List.take_length, ← nv_row, rl, am_row mk (Tr.nd l x r)]; rfl
    rw [eN1] at e1
    -- the new node's block
    have w0 := wrN_new0 (md := ⟨md.ro, h.length⟩) (h := h ++ [f]) (bs := []) (i := 0) (cs := [(Value.int .i64 0), (Value.int .i64 0), (Value.int .i64 0), (Value.int .i64 0), (Value.int .i64 0), (Value.int .i64 0), (Value.int .i64 0)]) (vs := ndB mk vx p (Tr.nd l x r).row x 0) (by simp; omega) (by simp) (Nat.le_refl 7)
    have eL : lay [(Value.int .i64 0), (Value.int .i64 0), (Value.int .i64 0), (Value.int .i64 0), (Value.int .i64 0), (Value.int .i64 0), (Value.int .i64 0)] 0 (ndB mk vx p (Tr.nd l x r).row x 0) = ndB mk vx p (Tr.nd l x r).row x 0 := rfl
    rw [eL] at w0
    have st0 := fun (kk : Heap → Option (Value × Heap)) => st_N ⟨md.ro, h.length⟩ 7 (h ++ [f]).length 0 (ndB mk vx p (Tr.nd l x r).row x 0) ((h ++ [f]) ++ [Blk.own [(Value.int .i64 0), (Value.int .i64 0), (Value.int .i64 0), (Value.int .i64 0), (Value.int .i64 0), (Value.int .i64 0), (Value.int .i64 0)]]) kk rfl rfl
    rw [eN0] at w0 st0 e1
    generalize hnd : [(Value.int .i64 p), (Value.int .i64 0), (Value.int .i64 0), (Value.int .i64 (((Tr.nd l x r).sz : Int))), (Value.int .i64 (((Tr.nd l x r).nv vx : Int))), (Value.int .i64 ((mk x : Int))), (Value.int .i64 (((Tr.nd l x r).am mk : Int)))] = nd at e1
    obtain ⟨ix, rx⟩ := Sl.getI S1 gx
    obtain ⟨ms, Sm, lm, gm⟩ := F1.mar
    have gm := gm x.toNat (by omega) (by omega)
    rw [show ((x.toNat : Nat) : Int) = x by omega] at gm
    obtain ⟨im, rm⟩ := Sl.getI Sm gm
    rw [show ((x.toNat : Nat) : Int) = x by omega] at im
    have rM : rd (h ++ [f]) h.length 2 = some M := by rw [rd_at hb]; rfl
    generalize hk1 : h ++ [f] = k1 at *
    -- the left part
    generalize hk2 : k1 ++ [Blk.own nd] = k2 at *
    have l2 : k2.length = h.length + 2 := by rw [← hk2]; simp; omega
    have o2 : ∀ y, y < h.length → k2[y]? = h[y]? := fun y hy => by rw [← hk2, ← hk1, List.append_assoc, List.getElem?_append_left hy]
    have f2 : k2[h.length]? = some (.own [R, P, M, W]) := by rw [← hk2, List.getElem?_append_left (by omega)]; exact hb
    have n2 : k2[k1.length]? = some (.own nd) := by rw [← hk2]; simp
    have S2 : Sl k2 1 eZ rv (Tr.nd l x r).row := by rw [← hk2]; exact S1.app
    have F2 : FoH k2 P M W N pr mk vx := by rw [← hk2]; exact F1.app _
    have r2 : rdN k2 h.length 0 4 = some [R, P, M, W] := by rw [rdN_at f2 (Nat.le_refl 4)]; rfl
    obtain ⟨v1, a1, b1, T1⟩ := Sl.preB tInt9 S2 (k := (l.sz : Int)) (by omega) (by rw [rl]; show (l.sz : Int) ≤ ((l.sz + r.sz + 1 : Nat) : Int); omega)
    have tk : (Tr.nd l x r).row.take ((l.sz : Int)).toNat = l.row := by
      show (l.row ++ x :: r.row).take _ = l.row
      rw [Int.toNat_natCast, ← ll, List.take_left]
    rw [tk] at T1
    obtain ⟨h3, ns3, c3, l3, o3, p3, q3, t3, u3⟩ := ihl ⟨md.ro, h.length⟩ k2 v1 x ns T1 (by omega) F2 hp.2.2.1 pp.nl (fun y hy => h0 y (by simp [Tr.row, hy])) (by omega) (by rw [o2 ob lob]; exact ho) hl hro (by show md.ro ≤ k2.length; omega)
    have n3 : h3[k1.length]? = some (.own nd) := by rw [o3 _ (by omega)]; exact n2
    have w4 := wr_at (md := ⟨md.ro, h.length⟩) (i := 1) (vs := [(Value.int .i64 l.rt)]) n3 (by rw [← hnd]; show 2 ≤ 7; omega) (by show md.ro ≤ _; omega) (.inl (by show h.length ≤ _; omega))
    generalize hd4 : lay nd 1 [(Value.int .i64 l.rt)] = nd4 at w4
    generalize hk4 : h3.set k1.length (Blk.own nd4) = k4 at w4
    have l4 : k4.length = h.length + 2 := by rw [← hk4, List.length_set]; omega
    have o4 : ∀ y, y < k1.length → k4[y]? = h3[y]? := fun y hy => by rw [← hk4]; exact set_else (by omega)
    have f4 : k4[h.length]? = some (.own [R, P, M, W]) := by rw [o4 _ (by omega), o3 _ (by omega)]; exact f2
    have r4 : rdN k4 h.length 0 4 = some [R, P, M, W] := by rw [rdN_at f4 (Nat.le_refl 4)]; rfl
    have n4 : k4[k1.length]? = some (.own nd4) := by rw [← hk4]; exact set_same (by omega)
    have keep : ∀ y, y < ob → k4[y]? = k2[y]? := fun y hy => by rw [o4 _ (by omega), o3 _ (by omega)]
    have S4 : Sl k4 1 eZ rv (Tr.nd l x r).row := S2.heap fun _ => keep _ hrv
    have F4 : FoH k4 P M W N pr mk vx := F2.heap (fun _ => keep _ hpf) (fun _ => keep _ hmf) (fun _ => keep _ hwf)
    obtain ⟨v2, a2, b2, T2⟩ := Sl.sufB tInt9 S4 (k := (l.sz : Int) + 1) (by omega) (by rw [rl]; show (l.sz : Int) + 1 ≤ ((l.sz + r.sz + 1 : Nat) : Int); omega)
    have dk : (Tr.nd l x r).row.drop ((l.sz : Int) + 1).toNat = r.row := by
      show (l.row ++ x :: r.row).drop _ = r.row
      rw [show ((l.sz : Int) + 1).toNat = l.row.length + 1 by omega, List.drop_length_add_append]; rfl
    rw [dk] at T2
    have w : IntKind.wrap .i64 ((l.sz : Int) + 1) = (l.sz : Int) + 1 := wi (by omega) (by omega)
    obtain ⟨h5, ns5, c5, l5, o5, p5, q5, t5, u5⟩ := ihr ⟨md.ro, h.length⟩ k4 v2 x ns3 T2 (by omega) F4 hp.2.2.2 pp.nr (fun y hy => h0 y (by simp [Tr.row, hy])) (by omega) (by rw [o4 ob (by omega)]; exact p3) (by omega) hro (by show md.ro ≤ k4.length; omega)
    have n5 : h5[k1.length]? = some (.own nd4) := by rw [o5 _ (by omega)]; exact n4
    have w6 := wr_at (md := ⟨md.ro, h.length⟩) (i := 2) (vs := [(Value.int .i64 r.rt)]) n5 (by rw [← hd4, ← hnd]; show 3 ≤ 7; omega) (by show md.ro ≤ _; omega) (.inl (by show h.length ≤ _; omega))
    have e6 : lay nd4 2 [(Value.int .i64 r.rt)] = eRN (nodeOf mk vx l x r p) := by rw [← hd4, ← hnd]; rfl
    rw [e6] at w6
    generalize hk6 : h5.set k1.length (Blk.own (eRN (nodeOf mk vx l x r p))) = k6 at w6
    have l6 : k6.length = h.length + 2 := by rw [← hk6, List.length_set]; omega
    have n6 : k6[k1.length]? = some (.own (eRN (nodeOf mk vx l x r p))) := by rw [← hk6]; exact set_same (by omega)
    have r6 : rdN k6 k1.length 0 7 = some (eRN (nodeOf mk vx l x r p)) := by rw [rdN_at n6 (Nat.le_refl 7)]; rfl
    have p6 : k6[ob]? = some (.own (flat eRN ns5)) := by rw [← hk6, set_else (by omega)]; exact p5
    have hxn : x.toNat < ns5.length := by omega
    have hm7 : (x.toNat + 1) * 7 ≤ ns5.length * 7 := Nat.mul_le_mul_right _ hxn
    have w7 := wr_at (md := ⟨md.ro, h.length⟩) (i := x.toNat * 7) (vs := eRN (nodeOf mk vx l x r p)) p6 (by rw [flat_len eRN_len, eRN_len]; omega) hro (.inr rfl)
    rw [lay_flat eRN_len ns5 _ hxn] at w7
    have i7 := fun (kk : Value → Option (Value × Heap)) => ixS_p 7 ob 0 (N + 1) 7 x kk ⟨by omega, by omega⟩
    have st7 := fun (kk : Heap → Option (Value × Heap)) => st_N ⟨md.ro, h.length⟩ 7 ob (x.toNat * 7) (eRN (nodeOf mk vx l x r p)) k6 kk rfl rfl
    simp only [Nat.zero_add] at i7
    refine ⟨(k6.set ob (Blk.own (flat eRN (ns5.set x.toNat (nodeOf mk vx l x r p))))).take h.length, ns5.set x.toNat (nodeOf mk vx l x r p), ?_, by rw [List.length_take, List.length_set]; omega, fun y hy => ?_, ?_, by rw [List.length_set]; omega, ⟨?_, ?_, ?_⟩, fun j hj => ?_⟩
    · rw [C, call_eq, F61_eq]
      unfold F61
      simp only [go_sem, Nat.reduceAdd, Nat.reduceLeDiff, Nat.reduceMul, Int.reduceBEq, Int.reduceBNe, Int.reduceLT, Int.reduceLE, Int.reduceGT, S.len, nz, hf, hk1]
      rw [e0]
      unfold J61_1
      simp only [go_sem, Nat.reduceAdd, Nat.reduceLeDiff, Nat.reduceMul, Int.reduceBEq, Int.reduceBNe, Int.reduceLT, Int.reduceLE, Int.reduceGT, S1.len, ixSV_p, ix, rx, rM, im, rm, bNode, st0, w0]
      rw [e1]
      unfold J61_3
      simp only [go_sem, Nat.reduceAdd, Nat.reduceLeDiff, Nat.reduceMul, Int.reduceBEq, Int.reduceBNe, Int.reduceLT, Int.reduceLE, Int.reduceGT, r2, a1, c3, w4, r4, aBin_add, w, a2, c5, w6, r6, ixSV_p, i7, st7, w7, rt_nd]
    · by_cases hy2 : y < h.length
      · rw [List.getElem?_take_of_lt hy2, set_else hy, ← hk6, set_else (by omega), o5 y hy, o4 y (by omega), o3 y hy, o2 y hy2]
      · rw [List.getElem?_eq_none (by rw [List.length_take, List.length_set]; omega), List.getElem?_eq_none (by omega)]
    · rw [List.getElem?_take_of_lt lob]; exact set_same (by omega)
    · rw [List.getElem?_set_self hxn]
    · refine Told.congr (ns := ns5) (fun y hy => ?_) (Told.congr (ns := ns3) (fun y hy => ?_) t3)
      · rw [List.getElem?_set_ne]
        intro e
        have := h0 y (by simp [Tr.row, hy])
        have : x = y := by omega
        exact pp.xl (this ▸ hy)
      · rw [u5 y.toNat]
        rw [show ((y.toNat : Nat) : Int) = y by have := h0 y (by simp [Tr.row, hy]); omega]
        exact pp.lr y hy
    · refine t5.congr fun y hy => ?_
      rw [List.getElem?_set_ne]
      intro e
      have := h0 y (by simp [Tr.row, hy])
      have : x = y := by omega
      exact pp.xr (this ▸ hy)
    · have j1 : (j : Int) ∉ l.row := fun q => hj (by simp [Tr.row, q])
      have j2 : (j : Int) ∉ r.row := fun q => hj (by simp [Tr.row, q])
      have j3 : x.toNat ≠ j := fun q => hj (by simp [Tr.row]; right; left; omega)
      rw [List.getElem?_set_ne j3, u5 j j2, u3 j j1]
end Go.Det.E

/- The document's forest: all nodes, and a node's sum. -/
namespace Go.Det.E
open Go.Proofs Go.Det Go.Det.U
attribute [local congr] bind_c cond_c
variable {md : Md} {h hh k : Heap} {P M W R rv s8 : Value} {N ob : Nat} {pr : Int → Int} {mk : Int → Nat} {vx : Int → Bool} {x y p : Int} {ns ns' : List RN} {ts : List Tr} {rvs : List Value}
abbrev eV (v : Value) : List Value := [v]
theorem eV_len (v : Value) : (eV v).length = 1 := rfl
theorem Sl.getV {v : Value} {xs : List Value} (S : Sl h 1 eV v xs) {k : Nat} {x : Value} (hx : xs[k]? = some x) :
    (∀ {α : Type} (kk : Value → Option α), ixS 1 v (k : Int) kk = kk ((Value.pointer (some ⟨slB v, slO v + k, none⟩)))) ∧ rd h (slB v) (slO v + k) = some x := by
  have h1 : k < xs.length := (List.getElem?_eq_some_iff.1 hx).1
  refine ⟨fun kk => ?_, ?_⟩
  · rw [S.ix (by omega) (by omega) kk, Nat.mul_one, Int.toNat_natCast]
  · have := S.cell hx (j := 0) (by decide)
    rw [Nat.mul_one, Nat.add_zero] at this
    exact this
theorem Sl.slB_le {ε : Type} {enc : ε → List Value} {sz : Nat} {v : Value} {xs : List ε} (S : Sl h sz enc v xs) : slB v < h.length + 1 := by
  rcases S.is with ⟨rfl, rfl⟩ | ⟨b, o, kk, rfl, hb, hc, hl⟩
  · show 0 < _; omega
  · have := (List.getElem?_eq_some_iff.1 hb).1
    show b < _; omega
/-- Rows in memory. -/
structure RowsH (h : Heap) (R : Value) (ts : List Tr) (rvs : List Value) : Prop where
  sl : Sl h 1 eV R rvs
  len : rvs.length = ts.length
  at_ : ∀ (i : Nat) (rv : Value) (t : Tr), rvs[i]? = some rv → ts[i]? = some t → Sl h 1 eZ rv t.row
theorem RowsH.heap {h' : Heap} (H : RowsH h R ts rvs) (hk : ∀ y, y < h.length → h'[y]? = h[y]?) : RowsH h' R ts rvs :=
  ⟨H.sl.heap (hk _), H.len, fun i rv t h1 h2 => (H.at_ i rv t h1 h2).heap (hk _)⟩
/-- Rows have nothing in common. -/
def Apart (ts : List Tr) : Prop := ∀ (i j : Nat) (t u : Tr), i ≠ j → ts[i]? = some t → ts[j]? = some u → ∀ y ∈ t.row, y ∉ u.row
theorem tNodes : SlT Try.prog 35 56 7 56 [(Value.int .i64 0), (Value.int .i64 0), (Value.int .i64 0), (Value.int .i64 0), (Value.int .i64 0), (Value.int .i64 0), (Value.int .i64 0)] := ⟨by kernel_rfl, by kernel_rfl, by kernel_rfl, rfl, by decide, by decide, rfl⟩
theorem repL_nodes (n : Nat) : repL n [(Value.int .i64 0), (Value.int .i64 0), (Value.int .i64 0), (Value.int .i64 0), (Value.int .i64 0), (Value.int .i64 0), (Value.int .i64 0)] = flat eRN (List.replicate n ⟨0, 0, 0, 0, 0, 0, 0⟩) := by
  induction n with
  | zero => rfl
  | succ n ih => rw [List.replicate_succ, flat_cons, ← ih]; rfl
theorem fnodes_loop {s2 : Value} (hm : ∀ x, mk x < 4) (hR : slB R < ob) (hpf : slB P < ob) (hmf : slB M < ob) (hwf : slB W < ob) (hlo : hh.length < ob) (hN : N < 60000) (hlt : ts.length < 60000) (hts : ∀ t ∈ ts, t.hp pr ∧ t.row.Nodup ∧ (∀ y ∈ t.row, 1 ≤ y ∧ y ≤ N) ∧ t.sz < 60000) (ap : Apart ts) (hro : md.ro ≤ hh.length) : ∀ (m i : Nat) (k : Heap) (ns : List RN), i + m = ts.length → k[hh.length]? = some (.own [R, P, M, W]) → RowsH k R ts rvs → (∀ rv ∈ rvs, slB rv < ob) → FoH k P M W N pr mk vx → k[ob]? = some (.own (flat eRN ns)) → ns.length = N + 1 → (∀ (j : Nat) (t : Tr), j < i → ts[j]? = some t → Told mk vx ns t 0) →
    ∃ k' ns', J18_0 C md hh ((Value.pointer (some ⟨hh.length, 0, none⟩))) s2 ((Value.slice (some ⟨ob, 0, none⟩) (N + 1) 7)) ((Value.int .i64 ((i : Int)))) k = some ((Value.slice (some ⟨ob, 0, none⟩) (N + 1) 7), k') ∧ k'.length = k.length ∧ (∀ y, y ≠ ob → k'[y]? = k[y]?) ∧ k'[ob]? = some (.own (flat eRN ns')) ∧ ns'.length = N + 1 ∧ ∀ t ∈ ts, Told mk vx ns' t 0 := by
  intro m
  induction m with
  | zero =>
    intro i k ns hi hf H hrv F ho hl hT
    obtain rfl : i = ts.length := by omega
    refine ⟨k, ns, ?_, rfl, fun _ _ => rfl, ho, hl, fun t ht => ?_⟩
    · have rR : rd k hh.length 0 = some R := by rw [rd_at hf]; rfl
      have len := fun {α : Type} (kk : Value → Option α) => H.sl.len kk
      rw [H.len] at len
      rw [J18_0_step]
      unfold Jr18_0
      simp only [go_sem, Nat.reduceAdd, Nat.reduceLeDiff, Nat.reduceMul, Int.reduceBEq, Int.reduceBNe, Int.reduceLT, Int.reduceLE, Int.reduceGT, rR, len, aBin_lss, Int.lt_irrefl, Jk18_0]
    · obtain ⟨j, hj⟩ := List.mem_iff_getElem?.1 ht
      exact hT j t (List.getElem?_eq_some_iff.1 hj).1 hj
  | succ m ih =>
    intro i k ns hi hf H hrv F ho hl hT
    have hlt2 : (i : Int) < (ts.length : Int) := by omega
    have w : IntKind.wrap .i64 ((i : Int) + 1) = ((i + 1 : Nat) : Int) := by rw [wi (by omega) (by omega)]; rfl
    have rR : rd k hh.length 0 = some R := by rw [rd_at hf]; rfl
    have r4 : rdN k hh.length 0 4 = some [R, P, M, W] := by rw [rdN_at hf (Nat.le_refl 4)]; rfl
    have len := fun {α : Type} (kk : Value → Option α) => H.sl.len kk
    rw [H.len] at len
    obtain ⟨t, ht⟩ : ∃ t, ts[i]? = some t := ⟨ts[i]'(by omega), List.getElem?_eq_getElem (by omega)⟩
    obtain ⟨rv, hv⟩ : ∃ rv, rvs[i]? = some rv := ⟨rvs[i]'(by have := H.len; omega), List.getElem?_eq_getElem (by have := H.len; omega)⟩
    obtain ⟨ix, rx⟩ := Sl.getV H.sl hv
    obtain ⟨q1, q2, q3, q4⟩ := hts t (List.mem_of_getElem? ht)
    have lob := lt_of ho
    obtain ⟨h1, ns1, e1, l1, o1, b1, c1, d1, u1⟩ := fo_tree (R := R) hm hpf hmf hwf hN t md k rv 0 ns (H.at_ i rv t hv ht) (hrv rv (List.mem_of_getElem? hv)) F q1 q2 q3 q4 ho hl (by omega) (by omega)
    have keep : ∀ y, y < ob → h1[y]? = k[y]? := fun y hy => o1 y (by omega)
    obtain ⟨k', ns', e2, l2, o2, b2, c2, d2⟩ := ih (i + 1) h1 ns1 (by omega) (by rw [keep _ hlo]; exact hf) ⟨H.sl.heap fun _ => keep _ hR, H.len, fun j rv' t' a1 a2 => (H.at_ j rv' t' a1 a2).heap fun _ => keep _ (hrv rv' (List.mem_of_getElem? a1))⟩ hrv (F.heap (fun _ => keep _ hpf) (fun _ => keep _ hmf) (fun _ => keep _ hwf)) b1 (by omega) (fun j t' hj hj2 => by
      by_cases hji : j = i
      · subst hji
        rw [ht] at hj2
        obtain rfl := Option.some.inj hj2
        exact d1
      · refine (hT j t' (by omega) hj2).congr fun y hy => ?_
        refine u1 y.toNat ?_
        have := (hts t' (List.mem_of_getElem? hj2)).2.2.1 y hy
        rw [show ((y.toNat : Nat) : Int) = y by omega]
        exact ap j i t' t hji hj2 ht y hy)
    refine ⟨k', ns', ?_, by omega, fun y hy => by rw [o2 y hy, o1 y hy], b2, c2, d2⟩
    rw [J18_0_step]
    unfold Jr18_0
    simp only [go_sem, Nat.reduceAdd, Nat.reduceLeDiff, Nat.reduceMul, Int.reduceBEq, Int.reduceBNe, Int.reduceLT, Int.reduceLE, Int.reduceGT, rR, len, aBin_lss, hlt2, r4, ixSV_p, ix, rx, e1, aBin_add, w]
    exact e2
theorem fo_nodes (hm : ∀ x, mk x < 4) (H : RowsH h R ts rvs) (F : FoH h P M W N pr mk vx) (hN : N < 60000) (hlt : ts.length < 60000) (hts : ∀ t ∈ ts, t.hp pr ∧ t.row.Nodup ∧ (∀ y ∈ t.row, 1 ≤ y ∧ y ≤ N) ∧ t.sz < 60000) (ap : Apart ts) (hro : md.ro ≤ h.length) :
    ∃ k' ns', C md 18 [(Value.agg #[R, P, M, W])] h = some ((Value.slice (some ⟨h.length + 1, 0, none⟩) (N + 1) 7), k') ∧ k'.length = h.length + 2 ∧ (∀ y, y < h.length → k'[y]? = h[y]?) ∧ k'[h.length + 1]? = some (.own (flat eRN ns')) ∧ ns'.length = N + 1 ∧ ∀ t ∈ ts, Told mk vx ns' t 0 := by
  obtain ⟨us, Su, lu, gu⟩ := F.pri
  have mk1 := fun (kk : Value → Heap → Option (Value × Heap)) => make_p tNodes (n := (us.length : Int)) (c := (us.length : Int)) (by omega) (by omega) (by omega) (by omega) (h ++ [Blk.own [R, P, M, W]]) kk
  rw [repL_nodes] at mk1
  have lh1 : (h ++ [Blk.own [R, P, M, W]]).length = h.length + 1 := by simp
  have len := fun {α : Type} (kk : Value → Option α) => Su.len kk
  simp only [lh1, Int.toNat_natCast, lu] at mk1 len
  generalize hz : List.replicate (N + 1) (RN.mk 0 0 0 0 0 0 0) = zs at mk1
  have lz : zs.length = N + 1 := by rw [← hz]; simp
  generalize hk : h ++ [Blk.own [R, P, M, W]] ++ [Blk.own (flat eRN zs)] = k at mk1
  have lk : k.length = h.length + 2 := by rw [← hk]; simp
  have ok : ∀ y, y < h.length → k[y]? = h[y]? := fun y hy => by rw [← hk, List.append_assoc, List.getElem?_append_left hy]
  have fk : k[h.length]? = some (.own [R, P, M, W]) := by rw [← hk, List.getElem?_append_left (by simp)]; simp
  have zk : k[h.length + 1]? = some (.own (flat eRN zs)) := by rw [← hk, List.getElem?_append_right (by simp)]; simp
  have lt1 : ∀ {ε : Type} {enc : ε → List Value} {sz : Nat} {v : Value} {xs : List ε}, Sl h sz enc v xs → slB v < h.length + 1 := fun S => Sl.slB_le S
  obtain ⟨ms, Sm, _, _⟩ := F.mar
  obtain ⟨ws, Sw, _, _⟩ := F.ver
  obtain ⟨k', ns', e, l', o', b', c', d'⟩ := fnodes_loop (md := md) (hh := h) (ob := h.length + 1) (s2 := .slice none 0 0) hm (lt1 H.sl) (lt1 Su) (lt1 Sm) (lt1 Sw) (by omega) hN hlt hts ap hro ts.length 0 k zs (by omega) fk (H.heap ok) (fun rv hrv => by
      obtain ⟨j, hj⟩ := List.mem_iff_getElem?.1 hrv
      obtain ⟨t, ht⟩ : ∃ t, ts[j]? = some t := ⟨ts[j]'(by have := (List.getElem?_eq_some_iff.1 hj).1; have := H.len; omega), List.getElem?_eq_getElem _⟩
      exact lt1 (H.at_ j rv t hj ht)) (F.heap (ok _) (ok _) (ok _)) zk lz (fun j t hj _ => by omega)
  refine ⟨k', ns', ?_, by omega, fun y hy => by rw [o' y (by omega), ok y hy], b', c', d'⟩
  have rP : rd (h ++ [Blk.own [R, P, M, W]]) h.length 1 = some P := by rw [rd_at (List.getElem?_concat_length ..)]; rfl
  rw [C, call_eq, F18_eq]
  unfold F18
  simp only [go_sem, Nat.reduceAdd, Nat.reduceLeDiff, Nat.reduceMul, Int.reduceBEq, Int.reduceBNe, Int.reduceLT, Int.reduceLE, Int.reduceGT, rP, len, mk1]
  exact e
theorem fo_sum {pa l r : Int} {sz nv own all : Nat} (k : SMok sz nv own all) (md : Md) (h : Heap) : C md 59 [(Value.agg #[(Value.int .i64 pa), (Value.int .i64 l), (Value.int .i64 r), (Value.int .i64 ((sz : Int))), (Value.int .i64 ((nv : Int))), (Value.int .i64 ((own : Int))), (Value.int .i64 ((all : Int)))])] h = some ((Value.int .u64 (SM sz nv own all)), h) := by
  obtain ⟨h1, h2, h3, h4⟩ := k
  have w0 : ∀ {z : Nat}, z < 2 ^ 40 → IntKind.wrap .u64 (z : Int) = (z : Int) := fun hz => W.wu (by omega) (by omega)
  have e : IntKind.wrap .u64 ((IntKind.wrap .u64 ((IntKind.wrap .u64 ((IntKind.wrap .u64 ((IntKind.wrap .u64 ((IntKind.wrap .u64 ((IntKind.wrap .u64 (all : Int)) * 4)) + (IntKind.wrap .u64 (own : Int)))) * 65536)) + (IntKind.wrap .u64 (nv : Int)))) * 65536)) + (IntKind.wrap .u64 (sz : Int))) = SM sz nv own all := by
    rw [w0 (z := all) (by omega), w0 (z := own) (by omega), w0 (z := nv) (by omega), w0 (z := sz) (by omega)]
    rw [W.wu (x := (all : Int) * 4) (by omega) (by omega), W.wu (x := (all : Int) * 4 + own) (by omega) (by omega), W.wu (x := ((all : Int) * 4 + own) * 65536) (by omega) (by omega), W.wu (x := ((all : Int) * 4 + own) * 65536 + nv) (by omega) (by omega), W.wu (x := (((all : Int) * 4 + own) * 65536 + nv) * 65536) (by omega) (by omega), W.wu (x := (((all : Int) * 4 + own) * 65536 + nv) * 65536 + sz) (by omega) (by omega)]
    show _ = (((((all * 4 + own) * 65536 + nv) * 65536 + sz : Nat)) : Int)
    omega
  rw [C, call_eq, F59_eq]
  unfold F59
  simp only [go_sem, Nat.reduceAdd, Nat.reduceLeDiff, Nat.reduceMul, Int.reduceBEq, Int.reduceBNe, Int.reduceLT, Int.reduceLE, Int.reduceGT]
  rw [e]
end Go.Det.E

/- The play of 09: what is asked of all cells. -/
namespace Go.Det.E
open Go.Proofs Go.Det Go.Det.U
attribute [local congr] bind_c cond_c
variable {md : Md} {h hh k : Heap} {a b q : Nat} {V S T x v p f : Int} {l c : List Int} {l0 : Int → Int} {s s' : NS} {P M W R : Value} {N ob : Nat} {ns : List RN}
/-- A play's cells. -/
abbrev plC (V S T : Int) (a : Nat) (R P M W : Value) : List Value := [(Value.int .i64 V), (Value.int .i64 S), (Value.int .i64 T), (Value.pointer (some ⟨a, 0, none⟩)), (Value.int .i64 V), (Value.int .i64 S), (Value.int .i64 T), ifA a, (Value.int .i64 1), (Value.int .i64 0), R, P, M, W]
theorem bne_self (x : Int) : (x != x) = false := by simp
theorem bne_u (x : Int) : (IntKind.wrap .i64 x != IntKind.wrap .i64 x) = false := by simp
theorem cv_ui {α : Type} (v : Int) (kk : Value → Option α) : aConv Try.prog 103 3 ((Value.int .u64 v)) kk = kk ((Value.int .i64 (IntKind.wrap .i64 v))) := by kernel_rfl
theorem fNew {α : Type} (o n t g : Int) (kk : Value → Option α) : aField Try.prog 129 ((Value.agg #[(Value.int .i64 o), (Value.int .i64 n), (Value.int .i64 t), (Value.int .i64 g)])) 1 kk = kk ((Value.int .i64 n)) := by kernel_rfl
theorem tload3 (hR : Rt V S T) (A : TH V S T l0 a b s h) (hro : md.ro ≤ a) (hx : Nix V S x) : ∃ h' e, C md 57 [(Value.pointer (some ⟨a, 0, none⟩)), (Value.int .i64 (qN V S T x + 3))] h = some ((Value.tuple #[(Value.int .u64 (s.lf x)), (Value.int .i64 e)]), h') ∧ TH V S T l0 a b s h' ∧ Only a b h h' := by
  obtain ⟨l, c, A, R⟩ := A
  obtain ⟨h', c', e, f, A', o⟩ := aload_e A hro (qN V S T x + 3)
  rw [R.lf x hx.1 hx.2] at f
  exact ⟨h', e, f, ⟨l, c', A', R⟩, o⟩
theorem tload4 (hR : Rt V S T) (A : TH V S T l0 a b s h) (hro : md.ro ≤ a) (hx : Nix V S x) : ∃ h' e, C md 57 [(Value.pointer (some ⟨a, 0, none⟩)), (Value.int .i64 (qN V S T x + 4))] h = some ((Value.tuple #[(Value.int .u64 (s.rt x)), (Value.int .i64 e)]), h') ∧ TH V S T l0 a b s h' ∧ Only a b h h' := by
  obtain ⟨l, c, A, R⟩ := A
  obtain ⟨h', c', e, f, A', o⟩ := aload_e A hro (qN V S T x + 4)
  rw [R.rt x hx.1 hx.2] at f
  exact ⟨h', e, f, ⟨l, c', A', R⟩, o⟩
theorem tload6 (hR : Rt V S T) (A : TH V S T l0 a b s h) (hro : md.ro ≤ a) (hx : Nix V S x) : ∃ h' e, C md 57 [(Value.pointer (some ⟨a, 0, none⟩)), (Value.int .i64 (qN V S T x + 6))] h = some ((Value.tuple #[(Value.int .u64 (s.sm x)), (Value.int .i64 e)]), h') ∧ TH V S T l0 a b s h' ∧ Only a b h h' := by
  obtain ⟨l, c, A, R⟩ := A
  obtain ⟨h', c', e, f, A', o⟩ := aload_e A hro (qN V S T x + 6)
  rw [R.sm x hx.1 hx.2] at f
  exact ⟨h', e, f, ⟨l, c', A', R⟩, o⟩
/-- A block that is neither of the arena's two stays. -/
theorem oat {h h' : Heap} {a b y : Nat} {kb : Blk} (o : Only a b h h') (hy : h[y]? = some kb) (ha : y ≠ a) (hb : y ≠ b) : h'[y]? = some kb := (o.oth y ha hb).trans hy
theorem pl3 (hq : h[q]? = some (.own (plC V S T a R P M W))) : rdN h q 0 3 = some [(Value.int .i64 V), (Value.int .i64 S), (Value.int .i64 T)] := by rw [rdN_at hq (by show 3 ≤ 14; omega)]; rfl
theorem plA (hq : h[q]? = some (.own (plC V S T a R P M W))) : rd h q 3 = some ((Value.pointer (some ⟨a, 0, none⟩))) := by rw [rd_at hq]; rfl
theorem plT (hq : h[q]? = some (.own (plC V S T a R P M W))) : rdN h q 4 6 = some [(Value.int .i64 V), (Value.int .i64 S), (Value.int .i64 T), ifA a, (Value.int .i64 1), (Value.int .i64 0)] := by rw [rdN_at hq (by show 10 ≤ 14; omega)]; rfl
theorem plF (hq : h[q]? = some (.own (plC V S T a R P M W))) : rdN h q 10 4 = some [R, P, M, W] := by rw [rdN_at hq (by show 14 ≤ 14; omega)]; rfl
theorem plR (hq : h[q]? = some (.own (plC V S T a R P M W))) : rd h q 10 = some R := by rw [rd_at hq]; rfl
theorem lparent (hR : Rt V S T) (A : TH V S T l0 a b s h) (hq : h[q]? = some (.own (plC V S T a R P M W))) (hqa : q ≠ a) (hqb : q ≠ b) (hro : md.ro ≤ a) (hr : md.ro ≤ h.length) (hx : Nix V S x) (hv : 0 ≤ s.par x ∧ s.par x < 100000) :
    ∃ h', C md 58 [(Value.pointer (some ⟨q, 0, none⟩)), (Value.int .i64 x)] h = some ((Value.int .i64 (s.par x)), h') ∧ TH V S T l0 a b s h' ∧ Only a b h h' := by
  obtain ⟨la, lb⟩ := A.la
  obtain ⟨l, c, A, Rp⟩ := A
  obtain ⟨g1, c', e1, f1, A1, o1⟩ := aload_e (md := ⟨md.ro, h.length⟩) A hro (qN V S T x + 2)
  have q1 := oat o1 hq hqa hqb
  have r0 := pl3 hq
  have rA := plA hq
  have r1 := pl3 q1
  have l1 := o1.len
  have fs := fun (m : Md) (h : Heap) => fs_of hR hx (f := 2) (by omega) m h
  obtain ⟨nv, sl, sd, nd⟩ := node_in hR (x := x) (Bl_t.2 ⟨by omega, by omega⟩)
  have st5 := fun (hq : Heap) (k' : Heap → Option (Value × Heap)) => st_N ⟨md.ro, h.length⟩ 5 g1.length 0 (thC (arcB V x) (lvlB V x) nv sl sd) hq k' rfl rfl
  have w5 := wrN_new0 (md := ⟨md.ro, h.length⟩) (h := g1) (bs := []) (i := 0) (cs := [(Value.bool false), (Value.int .i64 0), (Value.int .i64 0), (Value.int .i64 0), (Value.int .i64 0)]) (vs := thC (arcB V x) (lvlB V x) nv sl sd) (by show md.ro ≤ _; omega) (by show h.length ≤ _; omega) (Nat.le_refl 5)
  have eL : lay [(Value.bool false), (Value.int .i64 0), (Value.int .i64 0), (Value.int .i64 0), (Value.int .i64 0)] 0 (thC (arcB V x) (lvlB V x) nv sl sd) = thC (arcB V x) (lvlB V x) nv sl sd := rfl
  rw [eL] at w5
  have rl : rd (g1 ++ [Blk.own (thC (arcB V x) (lvlB V x) nv sl sd)]) g1.length 1 = some ((Value.int .i64 (lvlB V x))) := by rw [rd_at (List.getElem?_concat_length ..)]; rfl
  have tk : (g1 ++ [Blk.own (thC (arcB V x) (lvlB V x) nv sl sd)]).take h.length = g1 := by rw [← l1]; simp
  refine ⟨g1, ?_, ⟨l, c', A1, Rp⟩, o1⟩
  have g := Rp.wd.get (qN V S T x + 2)
  have pt := Go.Det.E.W.parts_s g.1 g.2
  rw [C, call_eq, F58_eq]
  unfold F58
  cases hs : (lvlB V x == 0)
  · have hs' : lvlB V x ≠ 0 := by simpa using hs
    have e := Rp.ns x hx.1 hx.2 hs'
    have w : IntKind.wrap .i64 (getI l (qN V S T x + 2)) = s.par x := by rw [e, wi (by omega) (by omega)]
    simp only [go_sem, Nat.reduceAdd, Nat.reduceLeDiff, Nat.reduceMul, Int.reduceBEq, Int.reduceBNe, Int.reduceLT, Int.reduceLE, Int.reduceGT, okNil, okP_p, rA, r0, fs, f1, r1, nd, st5, w5, rl, hs, w, tk]
  · have hs' : lvlB V x = 0 := by simpa using hs
    obtain ⟨_, e⟩ := Rp.sh x hx.1 hx.2 hs'
    simp only [go_sem, Nat.reduceAdd, Nat.reduceLeDiff, Nat.reduceMul, Int.reduceBEq, Int.reduceBNe, Int.reduceLT, Int.reduceLE, Int.reduceGT, okNil, okP_p, rA, r0, fs, f1, r1, nd, st5, w5, rl, hs, pt, fNew, e, tk]
/-- Each node's cells have what is told. -/
def AllTold (V S : Int) (s : NS) (ns : List RN) : Prop := ∀ x : Int, Nix V S x → (0 ≤ s.par x ∧ s.par x < 100000) ∧ (0 ≤ s.lf x ∧ s.lf x < 100000) ∧ (0 ≤ s.rt x ∧ s.rt x < 100000) ∧ ∃ sz nv own all, SMok sz nv own all ∧ s.sm x = SM sz nv own all ∧ ns[x.toNat]? = some ⟨s.par x, s.lf x, s.rt x, sz, nv, own, all⟩
theorem is_loop (hR : Rt V S T) (hqa : q ≠ a) (hqb : q ≠ b) (hro : md.ro ≤ a) (hr : md.ro ≤ hh.length) (hlim : md.lim ≤ hh.length) (hN : (N : Int) = Nn V S) (hns : ns.length = N + 1) (hoa : ob ≠ a) (hob : ob ≠ b) (AT : AllTold V S s ns) (s2 : Value) (h0 : Heap) : ∀ (m i : Nat) (k : Heap), i + m = N + 1 → TH V S T l0 a b s k → k[q]? = some (.own (plC V S T a R P M W)) → k[ob]? = some (.own (flat eRN ns)) → hh.length ≤ k.length →
    ∃ k', J16_0 C md h0 ((Value.pointer (some ⟨q, 0, none⟩))) s2 ((Value.slice (some ⟨ob, 0, none⟩) (N + 1) 7)) ((Value.int .i64 (((N + 1 : Nat) : Int)))) ((Value.int .i64 ((i : Int)))) k = some ((Value.bool true), k'.take h0.length) ∧ TH V S T l0 a b s k' ∧ k.length ≤ k'.length ∧ ∀ y, y < k.length → y ≠ a → y ≠ b → k'[y]? = k[y]? := by
  have cn := Cn_le hR
  intro m
  induction m with
  | zero =>
    intro i k hi A hq ho hl
    obtain rfl : i = N + 1 := by omega
    refine ⟨k, ?_, A, Nat.le_refl _, fun _ _ _ _ => rfl⟩
    rw [J16_0_step]
    unfold Jr16_0
    simp only [go_sem, Nat.reduceAdd, Nat.reduceLeDiff, Nat.reduceMul, Int.reduceBEq, Int.reduceBNe, Int.reduceLT, Int.reduceLE, Int.reduceGT, aBin_lss, Int.lt_irrefl, Jk16_0]
  | succ m ih =>
    intro i k hi A hq ho hl
    obtain ⟨la, lb⟩ := A.la
    have lq := lt_of hq
    have lo := lt_of ho
    have hlt : (i : Int) < ((N + 1 : Nat) : Int) := by omega
    have w : IntKind.wrap .i64 ((i : Int) + 1) = ((i + 1 : Nat) : Int) := by rw [wi (by omega) (by omega)]; rfl
    have So : Sl k 7 eRN ((Value.slice (some ⟨ob, 0, none⟩) (N + 1) 7)) ns := Sl.whole eRN_len ho rfl (by omega)
    obtain ⟨n, hn⟩ : ∃ n, ns[i]? = some n := ⟨ns[i]'(by omega), List.getElem?_eq_getElem (by omega)⟩
    have ix := fun {α : Type} (kk : Value → Option α) => So.ix (i := (i : Int)) (by omega) (by omega) kk
    have el := So.elem hn
    have ex : (slB ((Value.slice (some ⟨ob, 0, none⟩) (N + 1) 7))) = ob ∧ (slO ((Value.slice (some ⟨ob, 0, none⟩) (N + 1) 7))) = 0 := ⟨rfl, rfl⟩
    simp only [ex.1, ex.2, Int.toNat_natCast, Nat.zero_add] at ix el
    have st7 := fun (k' : Heap → Option (((Value × Value × Value × Value × Value) × Heap) ⊕ (Exit × (Value × Value × Value × Value × Value) × Heap))) => st_N md 7 k.length 0 (eRN n) (k ++ [Blk.own [(Value.int .i64 0), (Value.int .i64 0), (Value.int .i64 0), (Value.int .i64 0), (Value.int .i64 0), (Value.int .i64 0), (Value.int .i64 0)]]) k' rfl rfl
    have w7 := wrN_new0 (md := md) (h := k) (bs := []) (i := 0) (cs := [(Value.int .i64 0), (Value.int .i64 0), (Value.int .i64 0), (Value.int .i64 0), (Value.int .i64 0), (Value.int .i64 0), (Value.int .i64 0)]) (vs := eRN n) (by omega) (by omega) (Nat.le_refl 7)
    have eL : lay [(Value.int .i64 0), (Value.int .i64 0), (Value.int .i64 0), (Value.int .i64 0), (Value.int .i64 0), (Value.int .i64 0), (Value.int .i64 0)] 0 (eRN n) = eRN n := rfl
    rw [eL] at w7
    by_cases hi0 : i = 0
    · subst hi0
      obtain ⟨k', e, A', l', o'⟩ := ih 1 (k ++ [Blk.own (eRN n)]) (by omega) (A.app _) (by rw [List.getElem?_append_left lq]; exact hq) (by rw [List.getElem?_append_left lo]; exact ho) (by simp; omega)
      refine ⟨k', ?_, A', by simp at l'; omega, fun y hy h1 h2 => by rw [o' y (by simp; omega) h1 h2, List.getElem?_append_left hy]⟩
      rw [J16_0_step]
      unfold Jr16_0
      have z : (((0 : Nat) : Int) == 0) = true := rfl
      simp only [go_sem, Nat.reduceAdd, Nat.reduceLeDiff, Nat.reduceMul, Int.reduceBEq, Int.reduceBNe, Int.reduceLT, Int.reduceLE, Int.reduceGT, aBin_lss, hlt, ixSV_p, ix, el, st7, w7, aBin_eql, z, aBin_add, w]
      exact e
    · have hx : Nix V S (i : Int) := ⟨by omega, by omega⟩
      have z : ((i : Int) == 0) = false := by simp; omega
      obtain ⟨bp, bl, br, sz, nv, own, all, ok, es, en⟩ := AT (i : Int) hx
      rw [Int.toNat_natCast, hn] at en
      obtain rfl := Option.some.inj en
      have A0 := A.app [Blk.own (eRN ⟨s.par (i : Int), s.lf (i : Int), s.rt (i : Int), sz, nv, own, all⟩)]
      have lk0 : (k ++ [Blk.own (eRN ⟨s.par (i : Int), s.lf (i : Int), s.rt (i : Int), sz, nv, own, all⟩)]).length = k.length + 1 := by simp
      have q0 : (k ++ [Blk.own (eRN ⟨s.par (i : Int), s.lf (i : Int), s.rt (i : Int), sz, nv, own, all⟩)])[q]? = some (.own (plC V S T a R P M W)) := by rw [List.getElem?_append_left lq]; exact hq
      have n0 : (k ++ [Blk.own (eRN ⟨s.par (i : Int), s.lf (i : Int), s.rt (i : Int), sz, nv, own, all⟩)])[k.length]? = some (Blk.own (eRN ⟨s.par (i : Int), s.lf (i : Int), s.rt (i : Int), sz, nv, own, all⟩)) := List.getElem?_concat_length ..
      have ob0 : (k ++ [Blk.own (eRN ⟨s.par (i : Int), s.lf (i : Int), s.rt (i : Int), sz, nv, own, all⟩)])[ob]? = some (.own (flat eRN ns)) := by rw [List.getElem?_append_left lo]; exact ho
      have old0 : ∀ y, y < k.length → (k ++ [Blk.own (eRN ⟨s.par (i : Int), s.lf (i : Int), s.rt (i : Int), sz, nv, own, all⟩)])[y]? = k[y]? := fun y hy => List.getElem?_append_left hy
      generalize hk0 : k ++ [Blk.own (eRN ⟨s.par (i : Int), s.lf (i : Int), s.rt (i : Int), sz, nv, own, all⟩)] = k0 at *
      obtain ⟨g1, e1, f1, A1, o1⟩ := tload3 (md := md) hR A0 hro hx
      obtain ⟨g2, e2, f2, A2, o2'⟩ := tload4 (md := md) hR A1 hro hx
      have o2 := o1.trans o2'
      obtain ⟨g3, e3, f3, A3, o3'⟩ := tload6 (md := md) hR A2 hro hx
      have o3 := o2.trans o3'
      obtain ⟨g4, f4, A4, o4'⟩ := lparent (md := md) hR A3 (oat o3 q0 hqa hqb) hqa hqb hro (by have := o3.len; omega) hx bp
      have o4 := o3.trans o4'
      have fs3 := fun (m : Md) (h : Heap) => fs_of hR hx (f := 3) (by omega) m h
      have fs4 := fun (m : Md) (h : Heap) => fs_of hR hx (f := 4) (by omega) m h
      have fs6 := fun (m : Md) (h : Heap) => fs_of hR hx (f := 6) (by omega) m h
      have ra0 := plA q0
      have rl0 := pl3 q0
      have ra1 := plA (oat o1 q0 hqa hqb)
      have rl1 := pl3 (oat o1 q0 hqa hqb)
      have ra2 := plA (oat o2 q0 hqa hqb)
      have rl2 := pl3 (oat o2 q0 hqa hqb)
      have n3 := oat o3 n0 (by omega) (by omega)
      have n4 := oat o4 n0 (by omega) (by omega)
      have c31 : rd g3 k.length 1 = some ((Value.int .i64 (s.lf (i : Int)))) := by rw [rd_at n3]; rfl
      have c32 : rd g3 k.length 2 = some ((Value.int .i64 (s.rt (i : Int)))) := by rw [rd_at n3]; rfl
      have c30 : rd g3 k.length 0 = some ((Value.int .i64 (s.par (i : Int)))) := by rw [rd_at n3]; rfl
      have c40 : rd g4 k.length 0 = some ((Value.int .i64 (s.par (i : Int)))) := by rw [rd_at n4]; rfl
      have c47 : rdN g4 k.length 0 7 = some (eRN ⟨s.par (i : Int), s.lf (i : Int), s.rt (i : Int), sz, nv, own, all⟩) := by rw [rdN_at n4 (Nat.le_refl 7)]; rfl
      have su := fo_sum (pa := s.par (i : Int)) (l := s.lf (i : Int)) (r := s.rt (i : Int)) ok
      rw [es] at f3
      have wl : IntKind.wrap .i64 (s.lf (i : Int)) = s.lf (i : Int) := wi (by omega) (by omega)
      have wr : IntKind.wrap .i64 (s.rt (i : Int)) = s.rt (i : Int) := wi (by omega) (by omega)
      obtain ⟨k', e, A', l', o'⟩ := ih (i + 1) g4 (by omega) A4 (oat o4 q0 hqa hqb) (oat o4 ob0 hoa hob) (by have := o4.len; omega)
      have len4 := o4.len
      refine ⟨k', ?_, A', by omega, fun y hy h1 h2 => by rw [o' y (by omega) h1 h2, o4.oth y h1 h2, old0 y hy]⟩
      rw [J16_0_step]
      unfold Jr16_0
      simp only [go_sem, Nat.reduceAdd, Nat.reduceLeDiff, Nat.reduceMul, Int.reduceBEq, Int.reduceBNe, Int.reduceLT, Int.reduceLE, Int.reduceGT, aBin_lss, hlt, ixSV_p, ix, el, st7, w7, aBin_eql, z, okNil, okP_p, ra0, rl0, fs3, f1, ra1, rl1, fs4, f2, ra2, rl2, fs6, f3, c31, wl, bne_self, cv_ui, wr, c32, aBin_neq, f4, c30, c40, cLE_t, c47, su, aBin_add, w]
      exact e
end Go.Det.E

/- The play of 09: its state; whether all is right; a row by number; rows without some. -/
namespace Go.Det.E
open Go.Proofs Go.Det Go.Det.U
attribute [local congr] bind_c cond_c
variable {md : Md} {h hh k : Heap} {a b q : Nat} {V S T x v p f : Int} {l c : List Int} {l0 : Int → Int} {s s' : NS} {P M W R : Value} {N ob : Nat} {ns : List RN} {mk : Int → Nat} {vx : Int → Bool} {ts : List Tr} {rvs : List Value}
/-- The rows' trees. -/
structure PI (V S : Int) (pr : Int → Int) (mk : Int → Nat) (s : NS) (ts : List Tr) : Prop where
  mkl : ∀ x, mk x < 4
  tr : ∀ t ∈ ts, t.hp pr ∧ t.row.Nodup ∧ (∀ y ∈ t.row, Nix V S y) ∧ t ≠ .nil ∧ IsT mk (vxB V) s t 0
  ap : Apart ts
  cov : ∀ y, Nix V S y → ∃ t ∈ ts, y ∈ t.row
theorem node_told {t : Tr} (hm : ∀ x, mk x < 4) (hv : ∀ y : Int, Nix V S y → y < 100000) (hp : p = 0 ∨ Nix V S p) (I : IsT mk vx s t p) (Td : Told mk vx ns t p) (h0 : ∀ y ∈ t.row, Nix V S y) (hz : t.sz < 60000) (hx : x ∈ t.row) :
    (0 ≤ s.par x ∧ s.par x < 100000) ∧ (0 ≤ s.lf x ∧ s.lf x < 100000) ∧ (0 ≤ s.rt x ∧ s.rt x < 100000) ∧ ∃ sz nv own all, SMok sz nv own all ∧ s.sm x = SM sz nv own all ∧ ns[x.toNat]? = some ⟨s.par x, s.lf x, s.rt x, sz, nv, own, all⟩ := by
  induction t generalizing p with
  | nil => simp [Tr.row] at hx
  | nd l y r ihl ihr =>
    obtain ⟨a1, a2, a3, a4, a5, a6⟩ := I
    obtain ⟨t1, t2, t3⟩ := Td
    simp only [Tr.sz] at hz
    have hy := h0 y (by simp [Tr.row])
    have h0l : ∀ z ∈ l.row, Nix V S z := fun z hz => h0 z (by simp [Tr.row, hz])
    have h0r : ∀ z ∈ r.row, Nix V S z := fun z hz => h0 z (by simp [Tr.row, hz])
    simp only [Tr.row, List.mem_append, List.mem_cons] at hx
    rcases hx with q | q | q
    · exact ihl (.inr hy) a5 t2 h0l (by omega) q
    · subst q
      have n0 := l.nv_le vx
      have n1 := r.nv_le vx
      have small : ∀ {u : Tr}, (∀ z ∈ u.row, Nix V S z) → 0 ≤ u.rt ∧ u.rt < 100000 := fun {u} hu => by
        rcases rt_in u with q | q
        · omega
        · have := hu _ q
          have := hv _ this
          omega
      refine ⟨?_, by rw [a2]; exact small h0l, by rw [a3]; exact small h0r, l.sz + r.sz + 1, l.nv vx + r.nv vx + (bif vx x then 1 else 0), mk x, (mk x ||| l.am mk) ||| r.am mk, ⟨by omega, by cases vx x <;> simp <;> omega, hm x, Nat.or_lt_two_pow (n := 2) (Nat.or_lt_two_pow (n := 2) (hm x) (l.am_lt hm)) (r.am_lt hm)⟩, a4, ?_⟩
      · rw [a1]
        rcases hp with rfl | hp
        · omega
        · have := hv _ hp
          omega
      · rw [t1, a1, a2, a3]; rfl
    · exact ihr (.inr hy) a6 t3 h0r (by omega) q
/-- What a play has in memory. -/
structure PG (V S T : Int) (l0 : Int → Int) (mk : Int → Nat) (s : NS) (ts : List Tr) (N : Nat) (h : Heap) (q a b : Nat) (R P M W : Value) (rvs : List Value) : Prop where
  th : TH V S T l0 a b s h
  hq : h[q]? = some (.own (plC V S T a R P M W))
  fo : FoH h P M W N (prO V S T l0) mk (vxB V)
  ro : RowsH h R ts rvs
  qa : q ≠ a
  qb : q ≠ b
  sepR : slB R ≠ a ∧ slB R ≠ b ∧ slB R ≠ q ∧ slB R ≠ slB M
  sepP : slB P ≠ a ∧ slB P ≠ b ∧ slB P ≠ q ∧ slB P ≠ slB M
  sepW : slB W ≠ a ∧ slB W ≠ b ∧ slB W ≠ q ∧ slB W ≠ slB M
  sepV : ∀ rv ∈ rvs, slB rv ≠ a ∧ slB rv ≠ b ∧ slB rv ≠ q ∧ slB rv ≠ slB M
  sepM : slB M ≠ a ∧ slB M ≠ b ∧ slB M ≠ q
  own : ∃ ms, M = (Value.slice (some ⟨slB M, 0, none⟩) (N + 1) 1) ∧ h[slB M]? = some (.own (flat eZ ms)) ∧ ms.length = N + 1
/-- Only the arena has changed. -/
theorem PG.only {h' : Heap} {s' : NS} (G : PG V S T l0 mk s ts N h q a b R P M W rvs) (A : TH V S T l0 a b s' h') (o : ∀ y, y < h.length → y ≠ a → y ≠ b → h'[y]? = h[y]?) : PG V S T l0 mk s' ts N h' q a b R P M W rvs := by
  obtain ⟨ms, e, hm, hl⟩ := G.own
  exact ⟨A, (o q (lt_of G.hq) G.qa G.qb).trans G.hq, G.fo.heap (fun hl => o _ hl G.sepP.1 G.sepP.2.1) (fun hl => o _ hl G.sepM.1 G.sepM.2.1) (fun hl => o _ hl G.sepW.1 G.sepW.2.1), ⟨G.ro.sl.heap fun hl => o _ hl G.sepR.1 G.sepR.2.1, G.ro.len, fun i rv t h1 h2 => (G.ro.at_ i rv t h1 h2).heap fun hl => o _ hl (G.sepV rv (List.mem_of_getElem? h1)).1 (G.sepV rv (List.mem_of_getElem? h1)).2.1⟩, G.qa, G.qb, G.sepR, G.sepP, G.sepW, G.sepV, G.sepM, ⟨ms, e, (o _ (lt_of hm) G.sepM.1 G.sepM.2.1).trans hm, hl⟩⟩
theorem PG.old {h' : Heap} (G : PG V S T l0 mk s ts N h q a b R P M W rvs) (o : ∀ y, y < h.length → h'[y]? = h[y]?) : PG V S T l0 mk s ts N h' q a b R P M W rvs := by
  obtain ⟨la, lb⟩ := G.th.la
  exact G.only (G.th.old (o a la) (o b lb)) fun y hy _ _ => o y hy
theorem pig : ∀ (N : Nat) (l : List Nat), l.Nodup → (∀ n ∈ l, 1 ≤ n ∧ n ≤ N) → l.length ≤ N := by
  intro N
  induction N with
  | zero =>
    intro l hn h
    cases l with
    | nil => simp
    | cons x l => have := h x (by simp); omega
  | succ N ih =>
    intro l hn h
    by_cases hm : N + 1 ∈ l
    · have e := ih (l.erase (N + 1)) (hn.erase _) fun n hn2 => by
        have := h n (List.mem_of_mem_erase hn2)
        have := (hn.mem_erase_iff.1 hn2).1
        omega
      rw [List.length_erase_of_mem hm] at e
      omega
    · have := ih l hn fun n hn2 => by
        have := h n hn2
        have : n ≠ N + 1 := fun e => hm (e ▸ hn2)
        omega
      omega
theorem len_small (hv : ∀ y : Int, Nix V S y → y ≤ N) : ∀ (l : List Int), l.Nodup → (∀ y ∈ l, Nix V S y) → l.length ≤ N := by
  intro l hn h0
  have h1 : (l.map Int.toNat).Nodup := by
    rw [List.Nodup, List.pairwise_map]
    refine List.Pairwise.imp_of_mem ?_ hn
    intro x y hx hy hne e
    have := h0 x hx
    have := h0 y hy
    exact hne (by omega)
  have h2 : ∀ n ∈ l.map Int.toNat, n ∈ List.range' 1 N := by
    intro n hn
    obtain ⟨y, hy, rfl⟩ := List.mem_map.1 hn
    have := h0 y hy
    have := hv y this
    rw [List.mem_range'_1]; omega
  have := pig N _ h1 fun n hn => by have := h2 n hn; rw [List.mem_range'_1] at this; omega
  simpa using this
theorem is_s (hR : Rt V S T) (hN : (N : Int) = Nn V S) (I : PI V S (prO V S T l0) mk s ts) (G : PG V S T l0 mk s ts N h q a b R P M W rvs) (hts : ts.length < 60000) (hro : md.ro = 0) :
    ∃ h', C md 16 [(Value.pointer (some ⟨q, 0, none⟩))] h = some ((Value.bool true), h') ∧ PG V S T l0 mk s ts N h' q a b R P M W rvs ∧ h'.length = h.length ∧ ∀ y, y ≠ a → y ≠ b → h'[y]? = h[y]? := by
  have cn := Cn_le hR
  obtain ⟨la, lb⟩ := G.th.la
  have small : ∀ t ∈ ts, t.sz < 60000 := fun t ht => by
    have := len_small (V := V) (S := S) (N := N) (fun y hy => by omega) t.row (I.tr t ht).2.1 (I.tr t ht).2.2.1
    rw [Tr.row_len] at this; omega
  obtain ⟨k1, ns, e1, l1, o1, b1, c1, d1⟩ := fo_nodes (md := ⟨md.ro, h.length⟩) (R := R) I.mkl G.ro G.fo (by omega) hts (fun t ht => ⟨(I.tr t ht).1, (I.tr t ht).2.1, fun y hy => by have := (I.tr t ht).2.2.1 y hy; omega, small t ht⟩) I.ap (by show md.ro ≤ _; omega)
  have AT : AllTold V S s ns := fun x hx => by
    obtain ⟨t, ht, hxt⟩ := I.cov x hx
    exact node_told I.mkl (fun y hy => by omega) (.inl rfl) (I.tr t ht).2.2.2.2 (d1 t ht) (I.tr t ht).2.2.1 (small t ht) hxt
  have G1 := G.old o1
  obtain ⟨k2, e2, A2, l2, o2⟩ := is_loop (md := ⟨md.ro, h.length⟩) (hh := h) (ob := h.length + 1) hR G.qa G.qb (by show md.ro ≤ _; omega) (by show md.ro ≤ _; omega) (by show h.length ≤ _; omega) hN c1 (by omega) (by omega) AT ((Value.bool false)) h (N + 1) 0 k1 (by omega) G1.th G1.hq b1 (by omega)
  have rF := plF G.hq
  have len : ∀ {α : Type} (kk : Value → Option α), lenS ((Value.slice (some ⟨h.length + 1, 0, none⟩) (N + 1) 7)) kk = kk ((Value.int .i64 (((N + 1 : Nat) : Int)))) := fun kk => rfl
  have o12 : ∀ y, y < h.length → y ≠ a → y ≠ b → (k2.take h.length)[y]? = h[y]? := fun y hy h1 h2 => by
    rw [List.getElem?_take_of_lt hy, o2 y (by omega) h1 h2, o1 y hy]
  have lt2 : (k2.take h.length).length = h.length := by rw [List.length_take]; omega
  refine ⟨k2.take h.length, ?_, G.only (A2.take la lb) o12, lt2, fun y h1 h2 => ?_⟩
  · rw [C, call_eq, F16_eq]
    unfold F16
    simp only [go_sem, Nat.reduceAdd, Nat.reduceLeDiff, Nat.reduceMul, Int.reduceBEq, Int.reduceBNe, Int.reduceLT, Int.reduceLE, Int.reduceGT, okNil, okP_p, rF, e1, len]
    exact e2
  · by_cases hy : y < h.length
    · exact o12 y hy h1 h2
    · rw [List.getElem?_eq_none (by omega), List.getElem?_eq_none (by omega)]
/-- A row by a number. -/
theorem row_s (G : PG V S T l0 mk s ts N h q a b R P M W rvs) (hts : 0 < ts.length) (hb : ts.length < 60000) (k : Int) : ∃ i : Int, C md 27 [(Value.pointer (some ⟨q, 0, none⟩)), (Value.int .i64 k)] h = some ((Value.int .i64 i), h) ∧ (i = -1 ∨ 0 ≤ i ∧ i < ts.length) := by
  have rR := plR G.hq
  have len := fun {α : Type} (kk : Value → Option α) => G.ro.sl.len kk
  rw [G.ro.len] at len
  by_cases hk : k < 0
  · refine ⟨-1, ?_, .inl rfl⟩
    rw [C, call_eq, F27_eq]
    unfold F27
    simp only [go_sem, Nat.reduceAdd, Nat.reduceLeDiff, Nat.reduceMul, Int.reduceBEq, Int.reduceBNe, Int.reduceLT, Int.reduceLE, Int.reduceGT, hk]
  · have z : ((ts.length : Int) == 0) = false := by rw [beq_eq_false_iff_ne]; omega
    have dv : intOp .rem k (ts.length : Int) .i64 = some ((Value.int .i64 (k.tmod ts.length))) := by
      have h0 : ¬ (ts.length : Int) = 0 := by omega
      unfold intOp
      simp only [h0, if_false]
    refine ⟨k.tmod ts.length, ?_, .inr ?_⟩
    · rw [C, call_eq, F27_eq]
      unfold F27
      simp only [go_sem, Nat.reduceAdd, Nat.reduceLeDiff, Nat.reduceMul, Int.reduceBEq, Int.reduceBNe, Int.reduceLT, Int.reduceLE, Int.reduceGT, hk, okNil, okP_p, rR, len, aBin_eql, z, divI_p, dv]
    · have hb0 : 0 < (ts.length : Int) := by omega
      rw [Int.tmod_eq_emod_of_nonneg (by omega)]
      exact ⟨Int.emod_nonneg _ (by omega), Int.emod_lt_of_pos _ hb0⟩
end Go.Det.E

/- The play of 09: rows without some; what stays right when rows are changed. -/
namespace Go.Det.U
variable {α β : Type}
/-- A list without two places. -/
def wo (i k : Nat) : Nat → List α → List α
  | _, [] => []
  | j, x :: xs => if j = i ∨ j = k then wo i k (j + 1) xs else x :: wo i k (j + 1) xs
theorem wo_sub (i k : Nat) : ∀ (l : List α) (j : Nat), (wo i k j l).Sublist l := by
  intro l
  induction l with
  | nil => intro j; exact List.Sublist.refl _
  | cons x l ih =>
    intro j
    unfold wo
    split
    · exact (ih _).cons _
    · exact (ih _).cons_cons _
theorem wo_mem {i k : Nat} {t : α} : ∀ {l : List α} {j : Nat}, t ∈ wo i k j l → ∃ m, l[m]? = some t ∧ j + m ≠ i ∧ j + m ≠ k := by
  intro l
  induction l with
  | nil => intro j h; simp [wo] at h
  | cons x l ih =>
    intro j h
    unfold wo at h
    split at h
    · obtain ⟨m, h1, h2, h3⟩ := ih h
      exact ⟨m + 1, by simpa using h1, by omega, by omega⟩
    · rename_i hj
      rcases List.mem_cons.1 h with rfl | h
      · exact ⟨0, rfl, by omega, by omega⟩
      · obtain ⟨m, h1, h2, h3⟩ := ih h
        exact ⟨m + 1, by simpa using h1, by omega, by omega⟩
theorem mem_wo {i k : Nat} {t : α} : ∀ {l : List α} {j m : Nat}, l[m]? = some t → j + m ≠ i → j + m ≠ k → t ∈ wo i k j l := by
  intro l
  induction l with
  | nil => intro j m h; simp at h
  | cons x l ih =>
    intro j m h h1 h2
    unfold wo
    cases m with
    | zero =>
      rw [if_neg (by omega)]
      simp at h; simp [h]
    | succ m =>
      have := ih (j := j + 1) (m := m) (by simpa using h) (by omega) (by omega)
      split
      · exact this
      · exact List.mem_cons_of_mem _ this
def F2 (Q : α → β → Prop) : List α → List β → Prop
  | [], [] => True
  | x :: xs, y :: ys => Q x y ∧ F2 Q xs ys
  | _, _ => False
theorem F2.len {Q : α → β → Prop} : ∀ {xs : List α} {ys : List β}, F2 Q xs ys → xs.length = ys.length := by
  intro xs
  induction xs with
  | nil => intro ys h; cases ys with | nil => rfl | cons y ys => exact h.elim
  | cons x xs ih => intro ys h; cases ys with | nil => exact h.elim | cons y ys => simp [ih h.2]
theorem F2.get {Q : α → β → Prop} : ∀ {xs : List α} {ys : List β}, F2 Q xs ys → ∀ (i : Nat) (x : α) (y : β), xs[i]? = some x → ys[i]? = some y → Q x y := by
  intro xs
  induction xs with
  | nil => intro ys h i x y h1; simp at h1
  | cons x xs ih =>
    intro ys h i a b h1 h2
    cases ys with
    | nil => exact h.elim
    | cons y ys =>
      cases i with
      | zero => simp at h1 h2; exact h1 ▸ h2 ▸ h.1
      | succ i => exact ih h.2 i a b (by simpa using h1) (by simpa using h2)
theorem F2.mk {Q : α → β → Prop} : ∀ {xs : List α} {ys : List β}, xs.length = ys.length → (∀ (i : Nat) (x : α) (y : β), xs[i]? = some x → ys[i]? = some y → Q x y) → F2 Q xs ys := by
  intro xs
  induction xs with
  | nil => intro ys h _; cases ys with | nil => trivial | cons y ys => simp at h
  | cons x xs ih =>
    intro ys h g
    cases ys with
    | nil => simp at h
    | cons y ys => exact ⟨g 0 x y rfl rfl, ih (by simpa using h) fun i a b h1 h2 => g (i + 1) a b (by simpa using h1) (by simpa using h2)⟩
theorem F2.wo {Q : α → β → Prop} (i k : Nat) : ∀ {xs : List α} {ys : List β} (j : Nat), F2 Q xs ys → F2 Q (wo i k j xs) (wo i k j ys) := by
  intro xs
  induction xs with
  | nil => intro ys j h; cases ys with | nil => trivial | cons y ys => exact h.elim
  | cons x xs ih =>
    intro ys j h
    cases ys with
    | nil => exact h.elim
    | cons y ys =>
      unfold U.wo
      split
      · exact ih _ h.2
      · exact ⟨h.1, ih _ h.2⟩
theorem F2.app {Q : α → β → Prop} : ∀ {xs xs' : List α} {ys ys' : List β}, F2 Q xs ys → F2 Q xs' ys' → F2 Q (xs ++ xs') (ys ++ ys') := by
  intro xs
  induction xs with
  | nil => intro xs' ys ys' h h'; cases ys with | nil => exact h' | cons y ys => exact h.elim
  | cons x xs ih => intro xs' ys ys' h h'; cases ys with | nil => exact h.elim | cons y ys => exact ⟨h.1, ih h.2 h'⟩
end Go.Det.U
namespace Go.Det.E
open Go.Proofs Go.Det Go.Det.U
attribute [local congr] bind_c cond_c
variable {md : Md} {h hh k : Heap} {a b q : Nat} {V S T x v p f : Int} {l c : List Int} {l0 : Int → Int} {s s' : NS} {P M W R R' : Value} {N ob : Nat} {ns : List RN} {mk mk' : Int → Nat} {vx : Int → Bool} {ts ts' : List Tr} {rvs rvs' : List Value} {pr : Int → Int}
/-! ### The rows' trees after a step -/
def Dj (t u : Tr) : Prop := ∀ y ∈ t.row, y ∉ u.row
theorem Dj.symm {t u : Tr} (h : Dj t u) : Dj u t := fun y h1 h2 => h y h2 h1
theorem apart_pw : Apart ts ↔ ts.Pairwise Dj := by
  rw [List.pairwise_iff_getElem]
  constructor
  · intro h i j hi hj hij y hy
    exact h i j _ _ (by omega) (List.getElem?_eq_getElem hi) (List.getElem?_eq_getElem hj) y hy
  · intro h i j t u hij h1 h2
    obtain ⟨hi, rfl⟩ := List.getElem?_eq_some_iff.1 h1
    obtain ⟨hj, rfl⟩ := List.getElem?_eq_some_iff.1 h2
    rcases Nat.lt_or_gt_of_ne hij with q | q
    · exact h i j hi hj q
    · exact (h j i hj hi q).symm
/-- Some rows are taken out, others with the same nodes are put behind. -/
theorem PI.change {i k : Nat} {t1 t2 : Tr} {new : List Tr} (I : PI V S pr mk s ts) (h1 : ts[i]? = some t1) (h2 : ts[k]? = some t2) (so : SameOut (t1.row ++ t2.row) s s') (hn : ∀ t ∈ new, t.hp pr ∧ t.row.Nodup ∧ t ≠ .nil ∧ IsT mk (vxB V) s' t 0) (hsub : ∀ t ∈ new, ∀ y ∈ t.row, y ∈ t1.row ++ t2.row) (hcov : ∀ y ∈ t1.row ++ t2.row, ∃ t ∈ new, y ∈ t.row) (hap : new.Pairwise Dj) :
    PI V S pr mk s' (wo i k 0 ts ++ new) := by
  have m1 := List.mem_of_getElem? h1
  have m2 := List.mem_of_getElem? h2
  have old : ∀ t ∈ wo i k 0 ts, t ∈ ts ∧ ∀ y ∈ t.row, y ∉ t1.row ++ t2.row := fun t ht => by
    obtain ⟨m, e, n1, n2⟩ := wo_mem ht
    refine ⟨List.mem_of_getElem? e, fun y hy hq => ?_⟩
    rcases List.mem_append.1 hq with q | q
    · exact I.ap m i t t1 (by omega) e h1 y hy q
    · exact I.ap m k t t2 (by omega) e h2 y hy q
  refine ⟨I.mkl, fun t ht => ?_, apart_pw.2 (List.pairwise_append.2 ⟨(apart_pw.1 I.ap).sublist (wo_sub _ _ _ _), hap, fun t ht u hu y hy hq => (old t ht).2 y hy (hsub u hu y hq)⟩), fun y hy => ?_⟩
  · rcases List.mem_append.1 ht with q | q
    · obtain ⟨m, n⟩ := old t q
      obtain ⟨a1, a2, a3, a4, a5⟩ := I.tr t m
      exact ⟨a1, a2, a3, a4, a5.congr (so.on n)⟩
    · obtain ⟨a1, a2, a4, a5⟩ := hn t q
      refine ⟨a1, a2, fun y hy => ?_, a4, a5⟩
      rcases List.mem_append.1 (hsub t q y hy) with w | w
      · exact (I.tr t1 m1).2.2.1 y w
      · exact (I.tr t2 m2).2.2.1 y w
  · obtain ⟨t, ht, hyt⟩ := I.cov y hy
    obtain ⟨m, hm⟩ := List.mem_iff_getElem?.1 ht
    by_cases e1 : m = i
    · subst e1
      rw [h1] at hm
      obtain rfl := Option.some.inj hm
      obtain ⟨u, hu, hyu⟩ := hcov y (List.mem_append.2 (.inl hyt))
      exact ⟨u, List.mem_append.2 (.inr hu), hyu⟩
    · by_cases e2 : m = k
      · subst e2
        rw [h2] at hm
        obtain rfl := Option.some.inj hm
        obtain ⟨u, hu, hyu⟩ := hcov y (List.mem_append.2 (.inr hyt))
        exact ⟨u, List.mem_append.2 (.inr hu), hyu⟩
      · exact ⟨t, List.mem_append.2 (.inl (mem_wo hm (by omega) (by omega))), hyt⟩
/-! ### Rows in memory -/
def RQ (h : Heap) (rv : Value) (t : Tr) : Prop := Sl h 1 eZ rv t.row
theorem RowsH.f2 (H : RowsH h R ts rvs) : F2 (RQ h) rvs ts := F2.mk H.len H.at_
theorem tRows9 : SlT Try.prog 43 44 1 24 [.slice none 0 0] := ⟨by kernel_rfl, by kernel_rfl, by kernel_rfl, rfl, by decide, by decide, rfl⟩
theorem bRows9 {α : Type} {a : Option Addr} {l c : Nat} (h : Heap) (k : Value → Heap → Option α) : aBuildSlice Try.prog 43 1 [(0, .slice a l c)] h k = k ((Value.slice (some ⟨h.length, 0, none⟩) 1 1)) (h ++ [Blk.own [.slice a l c]]) := by kernel_rfl
theorem Sl.sliceV {ε : Type} {enc : ε → List Value} {sz : Nat} {v : Value} {xs : List ε} (S : Sl h sz enc v xs) : ∃ a l c, v = .slice a l c := by
  rcases S.is with ⟨rfl, _⟩ | ⟨b, o, kk, rfl, _⟩
  · exact ⟨_, _, _, rfl⟩
  · exact ⟨_, _, _, rfl⟩
/-- A row is put behind others. -/
theorem put_row {n0 : Nat} {s v : Value} {xs : List Value} {ε : Type} {enc : ε → List Value} {sz : Nat} {ys : List ε} (SO : SlO h n0 1 eV s xs) (X : Sl h sz enc v ys) (hro : md.ro ≤ n0) (hn0 : n0 ≤ h.length) (hl : xs.length < 100000) :
    ∃ v' h', (∀ {α : Type} (kk : Value → Heap → Option α), aBuildSlice Try.prog 43 1 [(0, v)] h (fun w hw => aBuiltin Try.prog md .append #[43, 43] [s, w] hw kk) = kk v' h') ∧ SlO h' h.length 1 eV v' (xs ++ [v]) ∧ h.length < h'.length ∧ ∀ x, x < h.length → (s = .slice none 0 0 ∨ x ≠ slB s) → h'[x]? = h[x]? := by
  obtain ⟨a, l, c, rfl⟩ := Sl.sliceV X
  obtain ⟨v', h', e, S', l', f'⟩ := append_own2 (md := md) (ys := [Value.slice a l c]) tRows9 SO hro hn0 (cs := [Value.slice a l c]) (by simp [flat]) (by simp) rfl (by simp; omega)
  refine ⟨v', h', fun kk => ?_, S', l', f'⟩
  rw [bRows9]
  exact e kk
theorem without_loop {s6 : Value} {i k : Nat} {n0 : Nat} (hR : slB R < n0 + 1) (hro : md.ro ≤ n0) (hl : rvs.length < 60000) (hsl : ∀ rv ∈ rvs, ∃ a l c, rv = Value.slice a l c) (SR : Sl hh 1 eV R rvs) (hn : n0 = hh.length) : ∀ (m j : Nat) (g : Heap) (acc : Value) (xs : List Value), j + m = rvs.length → Old n0 hh g → SlO g n0 1 eV acc xs → xs ++ wo i k j (rvs.drop j) = wo i k 0 rvs →
    ∃ v' h', J60_0 C md h ((Value.int .i64 ((i : Int)))) ((Value.int .i64 ((k : Int)))) s6 acc R ((Value.int .i64 ((rvs.length : Int)))) ((Value.int .i64 ((j : Int)))) g = some (v', h') ∧ SlO h' n0 1 eV v' (wo i k 0 rvs) ∧ Old n0 hh h' := by
  intro m
  induction m with
  | zero =>
    intro j g acc xs hj O SO e
    obtain rfl : j = rvs.length := by omega
    rw [List.drop_length] at e
    simp only [wo, List.append_nil] at e
    subst e
    refine ⟨acc, g, ?_, SO, O⟩
    rw [J60_0_step]
    unfold Jr60_0
    simp only [go_sem, Nat.reduceAdd, Nat.reduceLeDiff, Nat.reduceMul, Int.reduceBEq, Int.reduceBNe, Int.reduceLT, Int.reduceLE, Int.reduceGT, aBin_lss, Int.lt_irrefl, Jk60_0]
  | succ m ih =>
    intro j g acc xs hj O SO e
    have hlt : (j : Int) < (rvs.length : Int) := by omega
    have w : IntKind.wrap .i64 ((j : Int) + 1) = ((j + 1 : Nat) : Int) := by rw [wi (by omega) (by omega)]; rfl
    have hd : rvs.drop j = rvs[j]'(by omega) :: rvs.drop (j + 1) := List.drop_eq_getElem_cons (by omega)
    have hv : rvs[j]? = some (rvs[j]'(by omega)) := List.getElem?_eq_getElem (by omega)
    generalize rvs[j]'(by omega) = rv at hd hv
    have ol := O.len
    have S1 : Sl g 1 eV R rvs := SR.heap fun hl => O.old _ (by omega)
    obtain ⟨ix, rx⟩ := Sl.getV S1 hv
    rw [hd, wo] at e
    rw [J60_0_step]
    unfold Jr60_0
    by_cases c1 : j = i
    · subst c1
      rw [if_pos (.inl rfl)] at e
      have b1 : ((j : Int) != (j : Int)) = false := by simp
      obtain ⟨v', h', e', S', O'⟩ := ih (j + 1) g acc xs (by omega) O SO e
      refine ⟨v', h', ?_, S', O'⟩
      simp only [go_sem, Nat.reduceAdd, Nat.reduceLeDiff, Nat.reduceMul, Int.reduceBEq, Int.reduceBNe, Int.reduceLT, Int.reduceLE, Int.reduceGT, aBin_lss, hlt, ixSV_p, ix, rx, aBin_neq, b1, aBin_add, w]
      exact e'
    · have b1 : ((j : Int) != (i : Int)) = true := by rw [bne_iff_ne]; omega
      by_cases c2 : j = k
      · subst c2
        rw [if_pos (.inr rfl)] at e
        have b2 : ((j : Int) != (j : Int)) = false := by simp
        obtain ⟨v', h', e', S', O'⟩ := ih (j + 1) g acc xs (by omega) O SO e
        refine ⟨v', h', ?_, S', O'⟩
        simp only [go_sem, Nat.reduceAdd, Nat.reduceLeDiff, Nat.reduceMul, Int.reduceBEq, Int.reduceBNe, Int.reduceLT, Int.reduceLE, Int.reduceGT, aBin_lss, hlt, ixSV_p, ix, rx, aBin_neq, b1, b2, aBin_add, w]
        exact e'
      · have b2 : ((j : Int) != (k : Int)) = true := by rw [bne_iff_ne]; omega
        rw [if_neg (by omega)] at e
        have hxl : xs.length ≤ rvs.length := by
          have := congrArg List.length e
          have := (wo_sub i k rvs 0).length_le
          simp at *; omega
        obtain ⟨a', l', c', rfl⟩ := hsl rv (List.mem_of_getElem? hv)
        obtain ⟨v1, h1, ea, S1', l1, f1⟩ := append_own2 (md := md) (ys := [Value.slice a' l' c']) tRows9 SO hro (by omega) (cs := [Value.slice a' l' c']) (by simp [flat]) (by simp) rfl (by simp; omega)
        simp only [List.length_cons, List.length_nil, Nat.zero_add] at ea
        obtain ⟨v', h', e', S', O'⟩ := ih (j + 1) h1 v1 (xs ++ [Value.slice a' l' c']) (by omega) ⟨by omega, fun y hy => by
          rw [f1 y (by omega) (SO.own.imp id fun q => by omega)]; exact O.old y hy⟩ (S1'.mono (by omega)) (by rw [← e]; simp)
        refine ⟨v', h', ?_, S', O'⟩
        simp only [go_sem, Nat.reduceAdd, Nat.reduceLeDiff, Nat.reduceMul, Int.reduceBEq, Int.reduceBNe, Int.reduceLT, Int.reduceLE, Int.reduceGT, aBin_lss, hlt, ixSV_p, ix, rx, aBin_neq, b1, b2, bRows9, ea, aBin_add, w]
        exact e'
theorem without_s (G : PG V S T l0 mk s ts N h q a b R P M W rvs) (hts : ts.length < 60000) (hro : md.ro ≤ h.length) (i k : Nat) :
    ∃ v' h', C md 60 [(Value.pointer (some ⟨q, 0, none⟩)), (Value.int .i64 ((i : Int))), (Value.int .i64 ((k : Int)))] h = some (v', h') ∧ SlO h' h.length 1 eV v' (wo i k 0 rvs) ∧ Old h.length h h' := by
  have rR := plR G.hq
  have len := fun {α : Type} (kk : Value → Option α) => G.ro.sl.len kk
  have hl := G.ro.len
  obtain ⟨v', h', e, S', O'⟩ := without_loop (md := md) (h := h) (hh := h) (n0 := h.length) (s6 := .slice none 0 0) (i := i) (k := k) (Sl.slB_le G.ro.sl) hro (by omega) (fun rv hrv => by
    obtain ⟨j, hj⟩ := List.mem_iff_getElem?.1 hrv
    obtain ⟨t, ht⟩ : ∃ t, ts[j]? = some t := ⟨ts[j]'(by have := (List.getElem?_eq_some_iff.1 hj).1; omega), List.getElem?_eq_getElem _⟩
    exact Sl.sliceV (G.ro.at_ j rv t hj ht)) G.ro.sl rfl rvs.length 0 h (.slice none 0 0) [] (by omega) (Old.refl _ _) (SlO.nil _ _ eV_len) (by simp)
  refine ⟨v', h', ?_, S', O'⟩
  rw [C, call_eq, F60_eq]
  unfold F60
  simp only [go_sem, Nat.reduceAdd, Nat.reduceLeDiff, Nat.reduceMul, Int.reduceBEq, Int.reduceBNe, Int.reduceLT, Int.reduceLE, Int.reduceGT, okNil, okP_p, rR, len]
  exact e
end Go.Det.E

/- The play of 09: two rows are merged. -/
namespace Go.Det.E
open Go.Proofs Go.Det Go.Det.U
attribute [local congr] bind_c cond_c
variable {md : Md} {h hh k : Heap} {a b q : Nat} {V S T x v p f : Int} {l c : List Int} {l0 : Int → Int} {s s' : NS} {P M W R R' : Value} {N ob : Nat} {ns : List RN} {mk mk' : Int → Nat} {vx : Int → Bool} {ts ts' : List Tr} {rvs rvs' : List Value} {pr : Int → Int}
theorem SlO.big {ε : Type} {enc : ε → List Value} {sz n0 : Nat} {v : Value} {xs : List ε} (S : SlO h n0 sz enc v xs) (hx : xs ≠ []) : n0 ≤ slB v := by
  rcases S.own with rfl | ⟨q, _⟩
  · rcases S.sl.is with ⟨_, e⟩ | ⟨b, o, kk, e, _⟩
    · exact absurd e hx
    · cases e
  · exact q
theorem PG.newR (G : PG V S T l0 mk s ts N h q a b R P M W rvs) (SR : Sl h 1 eV R' rvs') (H : F2 (RQ h) rvs' ts') (hR : slB R' ≠ a ∧ slB R' ≠ b ∧ slB R' ≠ q ∧ slB R' ≠ slB M) (hV : ∀ rv ∈ rvs', slB rv ≠ a ∧ slB rv ≠ b ∧ slB rv ≠ q ∧ slB rv ≠ slB M) :
    PG V S T l0 mk s ts' N (h.set q (.own (plC V S T a R' P M W))) q a b R' P M W rvs' := by
  have keep : ∀ y, y ≠ q → (h.set q (Blk.own (plC V S T a R' P M W)))[y]? = h[y]? := fun y hy => set_else hy
  obtain ⟨ms, e, hm, hl⟩ := G.own
  refine ⟨G.th.old (keep a (Ne.symm G.qa)) (keep b (Ne.symm G.qb)), set_same (lt_of G.hq), G.fo.heap (fun _ => keep _ G.sepP.2.2.1) (fun _ => keep _ G.sepM.2.2) (fun _ => keep _ G.sepW.2.2.1), ⟨SR.heap fun _ => keep _ hR.2.2.1, H.len, fun i rv t h1 h2 => (H.get i rv t h1 h2).heap fun _ => keep _ (hV rv (List.mem_of_getElem? h1)).2.2.1⟩, G.qa, G.qb, hR, G.sepP, G.sepW, hV, G.sepM, ⟨ms, e, (keep _ G.sepM.2.2).trans hm, hl⟩⟩
/-- What a step leaves. -/
structure Left (h h' : Heap) (a b q m : Nat) : Prop where
  len : h.length ≤ h'.length
  old : ∀ y, y < h.length → y ≠ a → y ≠ b → y ≠ q → y ≠ m → h'[y]? = h[y]?
abbrev opC (kd A B K : Int) (on : Bool) : List Value := [(Value.int .i64 kd), (Value.int .i64 A), (Value.int .i64 B), (Value.int .i64 K), (Value.bool on)]
/-- What is known of a play. -/
structure Play (V S T : Int) (N : Nat) (l0 : Int → Int) (q a b : Nat) (P M W : Value) (mk : Int → Nat) (s : NS) (ts : List Tr) (R : Value) (rvs : List Value) (h : Heap) : Prop where
  g : PG V S T l0 mk s ts N h q a b R P M W rvs
  i : PI V S (prO V S T l0) mk s ts
  len : ts.length ≤ N
theorem ts_len (hR : Rt V S T) (hN : (N : Int) = Nn V S) (I : PI V S pr mk s ts) : ts.length ≤ N := by
  have h1 : (ts.map Tr.rt).Nodup := by
    rw [List.Nodup, List.pairwise_map]
    refine List.Pairwise.imp_of_mem ?_ (apart_pw.1 I.ap)
    intro t u ht hu d e
    exact d _ (rt_mem (I.tr t ht).2.2.2.1) (e ▸ rt_mem (I.tr u hu).2.2.2.1)
  have := len_small (V := V) (S := S) (N := N) (fun y hy => by omega) _ h1 fun y hy => by
    obtain ⟨t, ht, rfl⟩ := List.mem_map.1 hy
    exact (I.tr t ht).2.2.1 _ (rt_mem (I.tr t ht).2.2.2.1)
  simpa using this
theorem row_small (hN : (N : Int) = Nn V S) {l : List Int} (hn : l.Nodup) (h0 : ∀ y ∈ l, Nix V S y) : l.length ≤ N := len_small (V := V) (S := S) (N := N) (fun y hy => by omega) l hn h0
theorem eZ_cell (x : Int) : (eZ x).all isCell = true := rfl
theorem step1 (hR : Rt V S T) (hN : (N : Int) = Nn V S) (Y : Play V S T N l0 q a b P M W mk s ts R rvs h) (hts : 0 < ts.length) (hro : md.ro = 0) (hlim : md.lim ≤ q) (A B K : Int) (on : Bool) :
    ∃ s' ts' R' rvs' h', C md 17 [(Value.pointer (some ⟨q, 0, none⟩)), (Value.agg #[(Value.int .i64 1), (Value.int .i64 A), (Value.int .i64 B), (Value.int .i64 K), (Value.bool on)])] h = some ((Value.bool true), h') ∧ Play V S T N l0 q a b P M W mk s' ts' R' rvs' h' ∧ Left h h' a b q (slB M) := by
  obtain ⟨G, I, hl⟩ := Y
  have cn := Cn_le hR
  have lh1 : (h ++ [Blk.own (opC 1 A B K on)]).length = h.length + 1 := by simp
  have G1 := G.old (h' := h ++ [Blk.own (opC 1 A B K on)]) fun y hy => List.getElem?_append_left hy
  have opb : (h ++ [Blk.own (opC 1 A B K on)])[h.length]? = some (Blk.own (opC 1 A B K on)) := List.getElem?_concat_length ..
  have r0 : rd (h ++ [Blk.own (opC 1 A B K on)]) h.length 0 = some ((Value.int .i64 1)) := by rw [rd_at opb]; rfl
  have r1 : rd (h ++ [Blk.own (opC 1 A B K on)]) h.length 1 = some ((Value.int .i64 A)) := by rw [rd_at opb]; rfl
  have r2 : rd (h ++ [Blk.own (opC 1 A B K on)]) h.length 2 = some ((Value.int .i64 B)) := by rw [rd_at opb]; rfl
  obtain ⟨i, ei, hi⟩ := row_s (md := md) G1 hts (by omega) A
  obtain ⟨j, ej, hj⟩ := row_s (md := md) G1 hts (by omega) B
  have same : ∃ s' ts' R' rvs' h', some (((Value.bool true)), h ++ [Blk.own (opC 1 A B K on)]) = some ((Value.bool true), h') ∧ Play V S T N l0 q a b P M W mk s' ts' R' rvs' h' ∧ Left h h' a b q (slB M) :=
    ⟨s, ts, R, rvs, _, rfl, ⟨G1, I, hl⟩, ⟨by omega, fun y hy _ _ _ _ => List.getElem?_append_left hy⟩⟩
  by_cases c1 : i < 0
  · obtain ⟨s', ts', R', rvs', h', e, z⟩ := same
    refine ⟨s', ts', R', rvs', h', ?_, z⟩
    rw [← e, C, call_eq, F17_eq]
    unfold F17
    simp only [go_sem, Nat.reduceAdd, Nat.reduceLeDiff, Nat.reduceMul, Int.reduceBEq, Int.reduceBNe, Int.reduceLT, Int.reduceLE, Int.reduceGT, r0, r1, r2, ei, ej, c1]
  by_cases c2 : j < 0
  · obtain ⟨s', ts', R', rvs', h', e, z⟩ := same
    refine ⟨s', ts', R', rvs', h', ?_, z⟩
    rw [← e, C, call_eq, F17_eq]
    unfold F17
    simp only [go_sem, Nat.reduceAdd, Nat.reduceLeDiff, Nat.reduceMul, Int.reduceBEq, Int.reduceBNe, Int.reduceLT, Int.reduceLE, Int.reduceGT, r0, r1, r2, ei, ej, c1, aBin_lss, c2]
  by_cases c3 : i = j
  · obtain ⟨s', ts', R', rvs', h', e, z⟩ := same
    refine ⟨s', ts', R', rvs', h', ?_, z⟩
    have b3 : (i == j) = true := by simp [c3]
    rw [← e, C, call_eq, F17_eq]
    unfold F17
    simp only [go_sem, Nat.reduceAdd, Nat.reduceLeDiff, Nat.reduceMul, Int.reduceBEq, Int.reduceBNe, Int.reduceLT, Int.reduceLE, Int.reduceGT, r0, r1, r2, ei, ej, c1, aBin_lss, c2, aBin_eql, b3]
  have b3 : (i == j) = false := by simp [c3]
  obtain ⟨n, rfl⟩ : ∃ n : Nat, i = n := ⟨i.toNat, by omega⟩
  obtain ⟨m, rfl⟩ : ∃ n : Nat, j = n := ⟨j.toNat, by omega⟩
  have hrl := G.ro.len
  obtain ⟨t1, ht1⟩ : ∃ t, ts[n]? = some t := ⟨ts[n]'(by omega), List.getElem?_eq_getElem (by omega)⟩
  obtain ⟨t2, ht2⟩ : ∃ t, ts[m]? = some t := ⟨ts[m]'(by omega), List.getElem?_eq_getElem (by omega)⟩
  obtain ⟨v1, hv1⟩ : ∃ t, rvs[n]? = some t := ⟨rvs[n]'(by omega), List.getElem?_eq_getElem (by omega)⟩
  obtain ⟨v2, hv2⟩ : ∃ t, rvs[m]? = some t := ⟨rvs[m]'(by omega), List.getElem?_eq_getElem (by omega)⟩
  obtain ⟨a1, a2, a3, a4, a5⟩ := I.tr t1 (List.mem_of_getElem? ht1)
  obtain ⟨d1, d2, d3, d4, d5⟩ := I.tr t2 (List.mem_of_getElem? ht2)
  have hnd : (t1.row ++ t2.row).Nodup := List.nodup_append.2 ⟨a2, d2, fun y h1 z h2 e => I.ap n m t1 t2 (by omega) ht1 ht2 y h1 (e ▸ h2)⟩
  have h0 : ∀ y ∈ t1.row ++ t2.row, Nix V S y := fun y hy => by
    rcases List.mem_append.1 hy with w | w
    · exact a3 y w
    · exact d3 y w
  have hsz := row_small hN hnd h0
  rw [List.length_append, Tr.row_len, Tr.row_len] at hsz
  generalize hh1 : h ++ [Blk.own (opC 1 A B K on)] = h1 at *
  obtain ⟨ix1, rx1⟩ := Sl.getV G1.ro.sl hv1
  obtain ⟨ix2, rx2⟩ := Sl.getV G1.ro.sl hv2
  have rR := plR G1.hq
  -- the joined row
  have eb : (h1 ++ [Blk.own []])[h1.length]? = some (Blk.own []) := List.getElem?_concat_length ..
  have S0 : SlO (h1 ++ [Blk.own []]) h1.length 1 eZ ((Value.slice (some ⟨h1.length, 0, none⟩) 0 1)) [] := ⟨Sl.whole eZ_len eb rfl rfl, .inr ⟨Nat.le_refl _, _, eb⟩⟩
  have X1 := G1.ro.at_ n v1 t1 hv1 ht1
  have X2 := G1.ro.at_ m v2 t2 hv2 ht2
  obtain ⟨w1, g1, e1, S1, O1⟩ := append_sl (md := md) tInt9 S0 (X1.app (bs := [Blk.own []])) (by omega) (by simp) eZ_cell (by simp [Tr.row_len]; omega)
  have lg1 := O1.len
  have o1 : ∀ y, y < h1.length → g1[y]? = h1[y]? := fun y hy => by rw [O1.old y hy, List.getElem?_append_left hy]
  have lh2 : h1.length < g1.length := by simp at lg1; omega
  obtain ⟨w2, g2, e2, S2, O2⟩ := append_sl (md := md) tInt9 S1 (X2.heap fun hl => o1 _ hl) (by omega) (by omega) eZ_cell (by simp [Tr.row_len]; omega)
  have lg2 := O2.len
  have o2 : ∀ y, y < h1.length → g2[y]? = h1[y]? := fun y hy => by rw [O2.old y hy, o1 y hy]
  simp only [List.nil_append] at S2
  have G2 := G1.old o2
  have rT2 := plT G2.hq
  have rF2 := plF G2.hq
  have sm : ∀ {u : Tr}, (∀ y ∈ u.row, Nix V S y) → ∀ y ∈ u.row, 1 ≤ y ∧ y ≤ N := fun hu y hy => by have := hu y hy; omega
  have ro1 := fo_root (md := md) (R := R) G2.fo (G2.ro.at_ n v1 t1 hv1 ht1) a1 (sm a3) (by omega)
  have ro2 := fo_root (md := md) (R := R) G2.fo (G2.ro.at_ m v2 t2 hv2 ht2) d1 (sm d3) (by omega)
  obtain ⟨s', g3, e3, A3, o3, I3, so⟩ := tMerge (md := md) hR I.mkl G2.th (by omega) (by omega) (by omega) a5 d5 hnd h0 (by omega)
  have hM := merge_row (pr := prO V S T l0) _ t1 t2 (Nat.le_refl _)
  have hH := merge_hp (pr := prO V S T l0) _ t1 t2 (Nat.le_refl _) a1 d1 hnd
  have hZ := merge_sz (pr := prO V S T l0) t1 t2
  generalize mergeT (prO V S T l0) t1 t2 = Mt at *
  have G3 := G2.only A3 fun y hy h1 h2 => o3.oth y h1 h2
  have l3 := o3.len
  obtain ⟨w4, g4, e4, S4, O4⟩ := without_s (md := md) G3 (by omega) (by omega) n m
  have l4 := O4.len
  have ne : t1.row ++ t2.row ≠ [] := fun e => a4 (rt_row.2 (List.append_eq_nil_iff.1 e).1)
  have big2 := SlO.big S2 ne
  have lt2 := S2.sl.lt ne
  -- the joined row is put behind the others
  have S2' : Sl g4 1 eZ w2 (t1.row ++ t2.row) := by
    have e : slB w2 ≠ a ∧ slB w2 ≠ b := by
      have := G1.th.la
      omega
    exact (S2.sl.heap fun _ => o3.oth _ e.1 e.2).heap fun hl => O4.old _ (by omega)
  obtain ⟨aa, ll, cc, rfl⟩ := Sl.sliceV S2'
  have wl := (wo_sub n m rvs 0).length_le
  obtain ⟨w5, g5, e5, S5, l5, f5⟩ := append_own2 (md := md) (ys := [Value.slice aa ll cc]) tRows9 S4 (by omega) l4 (cs := [Value.slice aa ll cc]) (by simp [flat]) (by simp) rfl (by simp; omega)
  simp only [List.length_cons, List.length_nil, Nat.zero_add] at e5
  have o5 : ∀ y, y < g3.length → g5[y]? = g3[y]? := fun y hy => by
    rw [f5 y (by omega) (S4.own.imp id fun q => by omega)]; exact O4.old y hy
  have G5 := G3.old o5
  have big5 := SlO.big S5 (by simp)
  obtain ⟨a6, l6, c6, rfl⟩ := Sl.sliceV S5.sl
  have w6 := wr_at (md := md) (i := 10) (vs := [Value.slice a6 l6 c6]) G5.hq (by show 11 ≤ 14; omega) (by omega) (.inl hlim)
  have eL : lay (plC V S T a R P M W) 10 [Value.slice a6 l6 c6] = plC V S T a (Value.slice a6 l6 c6) P M W := rfl
  rw [eL] at w6
  have hla := G5.th.la
  have hlq := lt_of G3.hq
  obtain ⟨ms, em, hm5, hlm⟩ := G3.own
  have hlm := lt_of hm5
  have hla3 := G3.th.la
  have bR : slB (Value.slice a6 l6 c6) ≠ a ∧ slB (Value.slice a6 l6 c6) ≠ b ∧ slB (Value.slice a6 l6 c6) ≠ q ∧ slB (Value.slice a6 l6 c6) ≠ slB M := by omega
  obtain ⟨ms1, em1, hm1, _⟩ := G1.own
  have hlm1 := lt_of hm1
  have hlq1 := lt_of G1.hq
  have hla1 := G1.th.la
  have bV : slB (Value.slice aa ll cc) ≠ a ∧ slB (Value.slice aa ll cc) ≠ b ∧ slB (Value.slice aa ll cc) ≠ q ∧ slB (Value.slice aa ll cc) ≠ slB M := by omega
  have S2g : Sl g5 1 eZ (Value.slice aa ll cc) Mt.row := by
    rw [hM]
    have e : slB (Value.slice aa ll cc) ≠ a ∧ slB (Value.slice aa ll cc) ≠ b := ⟨bV.1, bV.2.1⟩
    exact (S2.sl.heap fun _ => o3.oth _ e.1 e.2).heap fun hl => o5 _ hl
  have hF2 : F2 (RQ g5) (wo n m 0 rvs ++ [Value.slice aa ll cc]) (wo n m 0 ts ++ [Mt]) := (F2.wo n m 0 G5.ro.f2).app ⟨S2g, trivial⟩
  have G6 := G5.newR S5.sl hF2 bR fun rv hrv => by
    rcases List.mem_append.1 hrv with w | w
    · exact G5.sepV rv ((wo_sub n m rvs 0).subset w)
    · simp only [List.mem_singleton] at w; subst w; exact bV
  have neM : Mt ≠ .nil := fun e => by
    rw [e] at hZ
    simp only [Tr.sz] at hZ
    have : t1.sz = 0 := by omega
    rw [← Tr.row_len] at this
    exact a4 (rt_row.2 (List.eq_nil_of_length_eq_zero this))
  have I6 : PI V S (prO V S T l0) mk s' (wo n m 0 ts ++ [Mt]) := I.change ht1 ht2 so (fun t ht => by
      simp only [List.mem_singleton] at ht; subst ht
      exact ⟨hH, hM ▸ hnd, neM, I3⟩) (fun t ht y hy => by
      simp only [List.mem_singleton] at ht; subst ht
      exact hM ▸ hy) (fun y hy => ⟨Mt, by simp, hM ▸ hy⟩) (List.pairwise_singleton _ _)
  have rF6 := plF G6.hq
  have ro6 := fo_root (md := md) (R := Value.slice a6 l6 c6) G6.fo (S2g.heap fun _ => set_else (v := Blk.own (plC V S T a (Value.slice a6 l6 c6) P M W)) bV.2.2.1) hH (fun y hy => by have := h0 y (hM ▸ hy); omega) (by omega)
  refine ⟨s', _, _, _, _, ?_, ⟨G6, I6, ts_len hR hN I6⟩, ⟨by rw [List.length_set]; omega, fun y hy h1' h2 h3 h4 => by rw [set_else h3, o5 y (by omega), o3.oth y h1' h2, o2 y (by omega), ← hh1, List.getElem?_append_left hy]⟩⟩
  have bt : (Mt.rt == Mt.rt) = true := by simp
  rw [C, call_eq, F17_eq]
  unfold F17
  simp only [go_sem, Nat.reduceAdd, Nat.reduceLeDiff, Nat.reduceMul, Int.reduceBEq, Int.reduceBNe, Int.reduceLT, Int.reduceLE, Int.reduceGT, hh1, r0, r1, r2, ei, ej, c1, aBin_lss, c2, aBin_eql, b3, okNil, okP_p, rR, ix1, rx1, ix2, rx2, e1, e2, rT2, rF2, ro1, ro2, e3, e4, bRows9, e5, st_1s, w6, rF6, ro6, bt]
end Go.Det.E

/- The play of 09: a row is split. -/
namespace Go.Det.E
open Go.Proofs Go.Det Go.Det.U
attribute [local congr] bind_c cond_c
variable {md : Md} {h hh k h' : Heap} {a b q n0 : Nat} {V S T x v p f : Int} {l c : List Int} {l0 : Int → Int} {s s' : NS} {P M W R R' : Value} {N ob : Nat} {ns : List RN} {mk mk' : Int → Nat} {vx : Int → Bool} {ts ts' : List Tr} {rvs rvs' : List Value} {pr : Int → Int}
/-- A play's parts but for its rows. -/
structure PX (V S T : Int) (l0 : Int → Int) (mk : Int → Nat) (s : NS) (N : Nat) (h : Heap) (q a b : Nat) (P M W : Value) (n0 : Nat) : Prop where
  th : TH V S T l0 a b s h
  fo : FoH h P M W N (prO V S T l0) mk (vxB V)
  qa : q ≠ a
  qb : q ≠ b
  sepP : slB P ≠ a ∧ slB P ≠ b ∧ slB P ≠ q ∧ slB P ≠ slB M
  sepW : slB W ≠ a ∧ slB W ≠ b ∧ slB W ≠ q ∧ slB W ≠ slB M
  sepM : slB M ≠ a ∧ slB M ≠ b ∧ slB M ≠ q
  own : ∃ ms, M = (Value.slice (some ⟨slB M, 0, none⟩) (N + 1) 1) ∧ h[slB M]? = some (.own (flat eZ ms)) ∧ ms.length = N + 1
  la : a < n0
  lb : b < n0
  lq : q < n0
  lP : slB P < n0
  lM : slB M < n0
  lW : slB W < n0
theorem PX.keep (X : PX V S T l0 mk s N h q a b P M W n0) (o : ∀ y, y < n0 → y ≠ q → h'[y]? = h[y]?) : PX V S T l0 mk s N h' q a b P M W n0 := by
  obtain ⟨ms, e, hm, hl⟩ := X.own
  exact ⟨X.th.old (o a X.la (Ne.symm X.qa)) (o b X.lb (Ne.symm X.qb)), X.fo.heap (fun _ => o _ X.lP X.sepP.2.2.1) (fun _ => o _ X.lM X.sepM.2.2) (fun _ => o _ X.lW X.sepW.2.2.1), X.qa, X.qb, X.sepP, X.sepW, X.sepM, ⟨ms, e, (o _ X.lM X.sepM.2.2).trans hm, hl⟩, X.la, X.lb, X.lq, X.lP, X.lM, X.lW⟩
theorem PX.of (G : PG V S T l0 mk s ts N h q a b R P M W rvs) (hn : h.length ≤ n0) : PX V S T l0 mk s N h q a b P M W n0 := by
  obtain ⟨la, lb⟩ := G.th.la
  have lq := lt_of G.hq
  obtain ⟨ms, e, hm, hl⟩ := G.own
  have lm := lt_of hm
  obtain ⟨us, Su, hu, _⟩ := G.fo.pri
  obtain ⟨ws, Sw, hw, _⟩ := G.fo.ver
  have l1 := Su.lt (fun e => by rw [e] at hu; simp at hu)
  have l2 := Sw.lt (fun e => by rw [e] at hw; simp at hw)
  exact ⟨G.th, G.fo, G.qa, G.qb, G.sepP, G.sepW, G.sepM, ⟨ms, e, hm, hl⟩, by omega, by omega, by omega, by omega, by omega, by omega⟩
theorem PG.of (X : PX V S T l0 mk s N h q a b P M W n0) (hq : h[q]? = some (.own (plC V S T a R P M W))) (SR : Sl h 1 eV R rvs) (H : F2 (RQ h) rvs ts) (hR : slB R ≠ a ∧ slB R ≠ b ∧ slB R ≠ q ∧ slB R ≠ slB M) (hV : ∀ rv ∈ rvs, slB rv ≠ a ∧ slB rv ≠ b ∧ slB rv ≠ q ∧ slB rv ≠ slB M) :
    PG V S T l0 mk s ts N h q a b R P M W rvs :=
  ⟨X.th, hq, X.fo, ⟨SR, H.len, H.get⟩, X.qa, X.qb, hR, X.sepP, X.sepW, hV, X.sepM, X.own⟩
def oneT : Tr → List Tr
  | .nil => []
  | .nd l x r => [.nd l x r]
def oneV (v : Value) : Tr → List Value
  | .nil => []
  | .nd _ _ _ => [v]
theorem F2.mono {α β : Type} {Q Q' : α → β → Prop} : ∀ {xs : List α} {ys : List β}, F2 Q xs ys → (∀ x ∈ xs, ∀ y, Q x y → Q' x y) → F2 Q' xs ys := by
  intro xs
  induction xs with
  | nil => intro ys h _; cases ys with | nil => trivial | cons y ys => exact h.elim
  | cons x xs ih => intro ys h g; cases ys with | nil => exact h.elim | cons y ys => exact ⟨g x (by simp) y h.1, ih h.2 fun z hz => g z (by simp [hz])⟩
theorem part_round {hb : Heap} {s4 s11 s12 s13 s14 pv v : Value} {parts : List Value} {u : Tr} {j : Nat} (X : PX V S T l0 mk s N k q a b P M W n0) (hq : k[q]? = some (.own (plC V S T a R P M W))) (SO : SlO k n0 1 eV R rvs) (H : F2 (RQ k) rvs ts) (hV : ∀ rv ∈ rvs, slB rv < n0 ∧ slB rv ≠ q) (hrl : rvs.length < 90000)
    (hro : md.ro = 0) (hlim : md.lim ≤ q) (hn : n0 ≤ k.length) (SP : Sl k 1 eV pv parts) (hp1 : slB pv ≠ q) (hp2 : slB pv ≠ slB R) (hp3 : slB pv < k.length) (hj : parts[j]? = some v) (hj2 : j < 2) (Sv : Sl k 1 eZ v u.row) (hv : slB v < n0 ∧ slB v ≠ q) :
    ∃ k' R', J17_0 C md hb ((Value.pointer (some ⟨q, 0, none⟩))) s4 s11 s12 s13 s14 pv ((Value.int .i64 2)) ((Value.int .i64 ((j : Int)))) k = J17_0 C md hb ((Value.pointer (some ⟨q, 0, none⟩))) s4 s11 s12 s13 s14 pv ((Value.int .i64 2)) ((Value.int .i64 (((j + 1 : Nat) : Int)))) k' ∧ PX V S T l0 mk s N k' q a b P M W n0 ∧ k'[q]? = some (.own (plC V S T a R' P M W)) ∧ SlO k' n0 1 eV R' (rvs ++ oneV v u) ∧ F2 (RQ k') (rvs ++ oneV v u) (ts ++ oneT u) ∧ k.length ≤ k'.length ∧ (∀ y, y < n0 → y ≠ q → k'[y]? = k[y]?) ∧ k'[slB pv]? = k[slB pv]? ∧ slB pv ≠ slB R' := by
  obtain ⟨ix, rx⟩ := Sl.getV SP hj
  have hlt : (j : Int) < 2 := by omega
  have w : IntKind.wrap .i64 ((j : Int) + 1) = ((j + 1 : Nat) : Int) := by rw [wi (by omega) (by omega)]; rfl
  have len := fun {α : Type} (kk : Value → Option α) => Sv.len kk
  cases u with
  | nil =>
    refine ⟨k, R, ?_, X, hq, by simpa [oneV] using SO, by simpa [oneV, oneT] using H, Nat.le_refl _, fun _ _ _ => rfl, rfl, hp2⟩
    have z : ¬ (((Tr.nil).row.length : Int) > 0) := by show ¬ ((0 : Nat) : Int) > 0; omega
    rw [J17_0_step]
    unfold Jr17_0
    simp only [go_sem, Nat.reduceAdd, Nat.reduceLeDiff, Nat.reduceMul, Int.reduceBEq, Int.reduceBNe, Int.reduceLT, Int.reduceLE, Int.reduceGT, aBin_lss, hlt, ixSV_p, ix, rx, len, z, aBin_add, w]
  | nd l x r =>
    have z : (((Tr.nd l x r).row.length : Int) > 0) := by simp [Tr.row]; omega
    have rR : rd k q 10 = some R := plR hq
    obtain ⟨aa, ll, cc, rfl⟩ := Sl.sliceV Sv
    obtain ⟨v', g, e, S', lg, f'⟩ := append_own2 (md := md) (ys := [Value.slice aa ll cc]) tRows9 SO (by omega) hn (cs := [Value.slice aa ll cc]) (by simp [flat]) (by simp) rfl (by simp; omega)
    simp only [List.length_cons, List.length_nil, Nat.zero_add] at e
    have old : ∀ y, y < n0 → g[y]? = k[y]? := fun y hy => f' y (by omega) (SO.own.imp id fun q => by omega)
    have lq := X.lq
    have hq2 : g[q]? = some (.own (plC V S T a R P M W)) := (old q lq).trans hq
    have big := SlO.big S' (by simp)
    obtain ⟨a6, l6, c6, rfl⟩ := Sl.sliceV S'.sl
    have w6 := wr_at (md := md) (i := 10) (vs := [Value.slice a6 l6 c6]) hq2 (by show 11 ≤ 14; omega) (by omega) (.inl hlim)
    have eL : lay (plC V S T a R P M W) 10 [Value.slice a6 l6 c6] = plC V S T a (Value.slice a6 l6 c6) P M W := rfl
    rw [eL] at w6
    have set1 : ∀ y, y ≠ q → (g.set q (Blk.own (plC V S T a (Value.slice a6 l6 c6) P M W)))[y]? = g[y]? := fun y hy => set_else hy
    have keep : ∀ y, y < n0 → y ≠ q → (g.set q (Blk.own (plC V S T a (Value.slice a6 l6 c6) P M W)))[y]? = k[y]? := fun y h1 h2 => by rw [set1 y h2, old y h1]
    have bq : slB (Value.slice a6 l6 c6) ≠ q := by omega
    refine ⟨g.set q (Blk.own (plC V S T a (Value.slice a6 l6 c6) P M W)), Value.slice a6 l6 c6, ?_, X.keep keep, set_same (by omega), ?_, ?_, by rw [List.length_set]; omega, keep, ?_, by omega⟩
    · rw [J17_0_step]
      unfold Jr17_0
      simp only [go_sem, Nat.reduceAdd, Nat.reduceLeDiff, Nat.reduceMul, Int.reduceBEq, Int.reduceBNe, Int.reduceLT, Int.reduceLE, Int.reduceGT, aBin_lss, hlt, ixSV_p, ix, rx, len, z, okNil, okP_p, rR, bRows9, e, st_1s, w6, aBin_add, w]
    · refine ⟨(S'.sl).heap fun _ => set1 _ bq, ?_⟩
      rcases S'.own with e | ⟨h1, cs, h2⟩
      · exact .inl e
      · exact .inr ⟨by omega, cs, (set1 _ bq).trans h2⟩
    · refine (F2.mono H fun rv hrv t ht => ?_).app ⟨?_, trivial⟩
      · exact Sl.heap ht fun _ => keep _ (hV rv hrv).1 (hV rv hrv).2
      · exact Sv.heap fun _ => keep _ hv.1 hv.2
    · rw [set1 _ hp1]
      exact f' _ hp3 (.inr hp2)
end Go.Det.E

/- The play of 09: a row is split, whole. -/
namespace Go.Det.E
open Go.Proofs Go.Det Go.Det.U
attribute [local congr] bind_c cond_c
variable {md : Md} {h hh k h' : Heap} {a b q n0 : Nat} {V S T x v p f : Int} {l c : List Int} {l0 : Int → Int} {s s' : NS} {P M W R R' : Value} {N ob : Nat} {ns : List RN} {mk mk' : Int → Nat} {vx : Int → Bool} {ts ts' : List Tr} {rvs rvs' : List Value} {pr : Int → Int}
theorem bTwo {α : Type} {a a' : Option Addr} {l c l' c' : Nat} (h : Heap) (k : Value → Heap → Option α) : aBuildSlice Try.prog 43 2 [(0, .slice a l c), (1, .slice a' l' c')] h k = k ((Value.slice (some ⟨h.length, 0, none⟩) 2 1)) (h ++ [Blk.own [.slice a l c, .slice a' l' c']]) := by kernel_rfl
theorem oneT_mem {t u : Tr} : t ∈ oneT u ↔ t = u ∧ u ≠ .nil := by
  cases u with
  | nil => simp [oneT]
  | nd l x r => simp [oneT]
theorem step2 (hR : Rt V S T) (hN : (N : Int) = Nn V S) (Y : Play V S T N l0 q a b P M W mk s ts R rvs h) (hts : 0 < ts.length) (hro : md.ro = 0) (hlim : md.lim ≤ q) (A B K : Int) (on : Bool) :
    ∃ s' ts' R' rvs' h', C md 17 [(Value.pointer (some ⟨q, 0, none⟩)), (Value.agg #[(Value.int .i64 2), (Value.int .i64 A), (Value.int .i64 B), (Value.int .i64 K), (Value.bool on)])] h = some ((Value.bool true), h') ∧ Play V S T N l0 q a b P M W mk s' ts' R' rvs' h' ∧ Left h h' a b q (slB M) := by
  obtain ⟨G, I, hl⟩ := Y
  have cn := Cn_le hR
  have lh1 : (h ++ [Blk.own (opC 2 A B K on)]).length = h.length + 1 := by simp
  have G1 := G.old (h' := h ++ [Blk.own (opC 2 A B K on)]) fun y hy => List.getElem?_append_left hy
  have opb : (h ++ [Blk.own (opC 2 A B K on)])[h.length]? = some (Blk.own (opC 2 A B K on)) := List.getElem?_concat_length ..
  have r0 : rd (h ++ [Blk.own (opC 2 A B K on)]) h.length 0 = some ((Value.int .i64 2)) := by rw [rd_at opb]; rfl
  have r1 : rd (h ++ [Blk.own (opC 2 A B K on)]) h.length 1 = some ((Value.int .i64 A)) := by rw [rd_at opb]; rfl
  have r2 : rd (h ++ [Blk.own (opC 2 A B K on)]) h.length 2 = some ((Value.int .i64 B)) := by rw [rd_at opb]; rfl
  have r3 : rd (h ++ [Blk.own (opC 2 A B K on)]) h.length 3 = some ((Value.int .i64 K)) := by rw [rd_at opb]; rfl
  obtain ⟨i, ei, hi⟩ := row_s (md := md) G1 hts (by omega) A
  obtain ⟨j, ej, hj⟩ := row_s (md := md) G1 hts (by omega) B
  by_cases c1 : i < 0
  · refine ⟨s, ts, R, rvs, _, ?_, ⟨G1, I, hl⟩, ⟨by omega, fun y hy _ _ _ _ => List.getElem?_append_left hy⟩⟩
    rw [C, call_eq, F17_eq]
    unfold F17
    simp only [go_sem, Nat.reduceAdd, Nat.reduceLeDiff, Nat.reduceMul, Int.reduceBEq, Int.reduceBNe, Int.reduceLT, Int.reduceLE, Int.reduceGT, r0, r1, r2, ei, ej, c1]
  obtain ⟨n, rfl⟩ : ∃ n : Nat, i = n := ⟨i.toNat, by omega⟩
  have hrl := G.ro.len
  obtain ⟨t1, ht1⟩ : ∃ t, ts[n]? = some t := ⟨ts[n]'(by omega), List.getElem?_eq_getElem (by omega)⟩
  obtain ⟨v1, hv1⟩ : ∃ t, rvs[n]? = some t := ⟨rvs[n]'(by omega), List.getElem?_eq_getElem (by omega)⟩
  obtain ⟨a1, a2, a3, a4, a5⟩ := I.tr t1 (List.mem_of_getElem? ht1)
  have hsz := row_small hN a2 a3
  rw [Tr.row_len] at hsz
  generalize hh1 : h ++ [Blk.own (opC 2 A B K on)] = h1 at *
  have hop1 : h1[h.length]? = some (Blk.own (opC 2 A B K on)) := opb
  obtain ⟨ix1, rx1⟩ := Sl.getV G1.ro.sl hv1
  have rR := plR G1.hq
  have X1 : Sl h1 1 eZ v1 t1.row := G1.ro.at_ n v1 t1 hv1 ht1
  have len1 := fun {α : Type} (kk : Value → Option α) => X1.len kk
  have rT1 := plT G1.hq
  have rF1 := plF G1.hq
  have sm : ∀ {u : Tr}, (∀ y ∈ u.row, Nix V S y) → ∀ y ∈ u.row, 1 ≤ y ∧ y ≤ N := fun hu y hy => by have := hu y hy; omega
  have ro1 := fo_root (md := md) (R := R) G1.fo X1 a1 (sm a3) (by omega)
  obtain ⟨s', g3, e3, A3, o3, Iu, Iw, so⟩ := tSplit (md := md) hR I.mkl G1.th (by omega) (by omega) (by omega) a5 a2 a3 (by omega) K
  have ck := clamp_eq K t1.sz
  rw [← Tr.row_len] at ck
  have hcl : clampN K t1.sz ≤ t1.sz := Nat.min_le_right _ _
  obtain ⟨p1, p2⟩ := split_row t1 (clampN K t1.sz)
  obtain ⟨hp1, hp2⟩ := split_hp t1 (clampN K t1.sz) a1
  rw [Tr.row_len] at ck
  generalize clampN K t1.sz = cl at *
  generalize (splitT t1 cl).1 = u at *
  generalize (splitT t1 cl).2 = w at *
  have hrow : u.row ++ w.row = t1.row := by rw [p1, p2, List.take_append_drop]
  have hnd : (u.row ++ w.row).Nodup := hrow ▸ a2
  obtain ⟨nu, nw, duw⟩ := List.nodup_append.1 hnd
  have mu : ∀ y ∈ u.row, y ∈ t1.row := fun y hy => hrow ▸ List.mem_append.2 (.inl hy)
  have mw : ∀ y ∈ w.row, y ∈ t1.row := fun y hy => hrow ▸ List.mem_append.2 (.inr hy)
  have G3 := G1.only A3 fun y hy h1 h2 => o3.oth y h1 h2
  have l3 := o3.len
  have X3 : Sl g3 1 eZ v1 t1.row := G3.ro.at_ n v1 t1 hv1 ht1
  obtain ⟨w4, g4, e4, S4, O4⟩ := without_s (md := md) G3 (by omega) (by omega) n n
  have l4 := O4.len
  have P3 := PX.of G3 (n0 := g3.length) (Nat.le_refl _)
  have old4 : ∀ y, y < g3.length → g4[y]? = g3[y]? := fun y hy => O4.old y hy
  have hq4 : g4[q]? = some (.own (plC V S T a R P M W)) := (old4 q P3.lq).trans G3.hq
  -- the other rows are put back
  obtain ⟨a6, l6, c6, rfl⟩ := Sl.sliceV S4.sl
  have w6 := wr_at (md := md) (i := 10) (vs := [Value.slice a6 l6 c6]) hq4 (by show 11 ≤ 14; omega) (by omega) (.inl hlim)
  have eL : lay (plC V S T a R P M W) 10 [Value.slice a6 l6 c6] = plC V S T a (Value.slice a6 l6 c6) P M W := rfl
  rw [eL] at w6
  have lq4 := lt_of hq4
  generalize hg5 : g4.set q (Blk.own (plC V S T a (Value.slice a6 l6 c6) P M W)) = g5 at *
  have set5 : ∀ y, y ≠ q → g5[y]? = g4[y]? := fun y hy => by rw [← hg5]; exact set_else hy
  have l5 : g5.length = g4.length := by rw [← hg5, List.length_set]
  have hq5 : g5[q]? = some (.own (plC V S T a (Value.slice a6 l6 c6) P M W)) := by rw [← hg5]; exact set_same lq4
  have keep5 : ∀ y, y < g3.length → y ≠ q → g5[y]? = g3[y]? := fun y h1 h2 => by rw [set5 y h2, old4 y h1]
  have sepv1 := G3.sepV v1 (List.mem_of_getElem? hv1)
  have ne1 : t1.row ≠ [] := fun e => a4 (rt_row.2 e)
  have lv1 := X3.lt ne1
  have X5 : Sl g5 1 eZ v1 t1.row := X3.heap fun _ => keep5 _ lv1 sepv1.2.2.1
  obtain ⟨x6, f6, b6, T6⟩ := Sl.preB tInt9 X5 (k := (cl : Int)) (by omega) (by rw [Tr.row_len]; omega)
  obtain ⟨x7, f7, b7, T7⟩ := Sl.sufB tInt9 X5 (k := (cl : Int)) (by omega) (by rw [Tr.row_len]; omega)
  rw [Int.toNat_natCast, ← p1] at T6
  rw [Int.toNat_natCast, ← p2] at T7
  obtain ⟨y1, y2, y3, rfl⟩ := Sl.sliceV T6
  obtain ⟨z1, z2, z3, rfl⟩ := Sl.sliceV T7
  generalize hg6 : g5 ++ [Blk.own [Value.slice y1 y2 y3, Value.slice z1 z2 z3]] = g6
  have l6' : g6.length = g5.length + 1 := by rw [← hg6]; simp
  have old6 : ∀ y, y < g5.length → g6[y]? = g5[y]? := fun y hy => by rw [← hg6, List.getElem?_append_left hy]
  have pv6 : g6[g5.length]? = some (Blk.own [Value.slice y1 y2 y3, Value.slice z1 z2 z3]) := by rw [← hg6]; exact List.getElem?_concat_length ..
  have SP6 : Sl g6 1 eV ((Value.slice (some ⟨g5.length, 0, none⟩) 2 1)) [Value.slice y1 y2 y3, Value.slice z1 z2 z3] := Sl.whole eV_len pv6 rfl rfl
  have keep6 : ∀ y, y < g3.length → y ≠ q → g6[y]? = g3[y]? := fun y h1 h2 => by rw [old6 y (by omega), keep5 y h1 h2]
  have bigR : slB (Value.slice a6 l6 c6) = 0 ∨ g3.length ≤ slB (Value.slice a6 l6 c6) := by
    rcases S4.own with e | ⟨e, _⟩
    · left; rw [e]; rfl
    · exact .inr e
  have R4 : slB (Value.slice a6 l6 c6) < g4.length := by
    rcases S4.own with e | ⟨_, cs, e⟩
    · rw [e]; show 0 < _; omega
    · exact lt_of e
  have nil6 : slB (Value.slice a6 l6 c6) ≠ q ∨ Value.slice a6 l6 c6 = .slice none 0 0 := by
    rcases S4.own with e | ⟨e, _⟩
    · exact .inr e
    · left; have := P3.lq; omega
  have SO6 : SlO g6 g3.length 1 eV (Value.slice a6 l6 c6) (wo n n 0 rvs) := by
    have hp : ∀ y, y < g4.length → y ≠ q → g6[y]? = g4[y]? := fun y h1 h2 => by rw [old6 y (by omega), set5 y h2]
    rcases S4.own with e | ⟨h1, cs, h2⟩
    · rw [e]
      have e2 : wo n n 0 rvs = [] := by
        rcases S4.sl.is with ⟨_, e3⟩ | ⟨_, _, _, e3, _⟩
        · exact e3
        · rw [e] at e3; cases e3
      rw [e2]; exact SlO.nil _ _ eV_len
    · have := lt_of h2
      have hq' : slB (Value.slice a6 l6 c6) ≠ q := by have := P3.lq; omega
      exact ⟨S4.sl.heap fun _ => hp _ this hq', .inr ⟨h1, cs, (hp _ this hq').trans h2⟩⟩
  have rowlt : ∀ rv ∈ rvs, slB rv < g3.length ∧ slB rv ≠ q := fun rv hrv => by
    obtain ⟨m, hm⟩ := List.mem_iff_getElem?.1 hrv
    obtain ⟨t, ht⟩ : ∃ t, ts[m]? = some t := ⟨ts[m]'(by have := (List.getElem?_eq_some_iff.1 hm).1; omega), List.getElem?_eq_getElem _⟩
    have hne : t.row ≠ [] := fun e => (I.tr t (List.mem_of_getElem? ht)).2.2.2.1 (rt_row.2 e)
    exact ⟨(G3.ro.at_ m rv t hm ht).lt hne, (G3.sepV rv hrv).2.2.1⟩
  have F6 : F2 (RQ g6) (wo n n 0 rvs) (wo n n 0 ts) := F2.mono (F2.wo n n 0 G3.ro.f2) fun rv hrv t ht => by
    obtain ⟨h1, h2⟩ := rowlt rv ((wo_sub n n rvs 0).subset hrv)
    exact Sl.heap ht fun _ => keep6 _ h1 h2
  have wl := (wo_sub n n rvs 0).length_le
  have lv6 : slB (Value.slice y1 y2 y3) < g3.length ∧ slB (Value.slice y1 y2 y3) ≠ q := by rw [b6]; exact ⟨lv1, sepv1.2.2.1⟩
  have lv7 : slB (Value.slice z1 z2 z3) < g3.length ∧ slB (Value.slice z1 z2 z3) ≠ q := by rw [b7]; exact ⟨lv1, sepv1.2.2.1⟩
  have U6 : Sl g6 1 eZ (Value.slice y1 y2 y3) u.row := T6.heap fun hl => old6 _ hl
  have W6 : Sl g6 1 eZ (Value.slice z1 z2 z3) w.row := T7.heap fun hl => old6 _ hl
  have eb : slB ((Value.slice (some ⟨g5.length, 0, none⟩) 2 1)) = g5.length := rfl
  obtain ⟨k7, R7, e7, X7, q7, SO7, F7, l7, keep7, pk7, ne7⟩ := part_round (md := md) (hb := h) (s4 := (Value.bool false)) (s11 := v1) (s12 := (Value.int .i64 ((cl : Int)))) (s13 := (Value.int .i64 u.rt)) (s14 := (Value.int .i64 w.rt)) (P3.keep keep6) ((old6 q (by omega)).trans hq5) SO6 F6 (fun rv hrv => rowlt rv ((wo_sub n n rvs 0).subset hrv)) (by omega) hro hlim (by omega) SP6 (by rw [eb]; omega) (by rw [eb]; omega) (by rw [eb]; omega) (j := 0) rfl (by omega) U6 lv6
  have W7 : Sl k7 1 eZ (Value.slice z1 z2 z3) w.row := W6.heap fun _ => keep7 _ lv7.1 lv7.2
  have ol1 : (oneV (Value.slice y1 y2 y3) u).length ≤ 1 := by cases u <;> simp [oneV]
  obtain ⟨k8, R8, e8, X8, q8, SO8, F8, l8, keep8, pk8, ne8⟩ := part_round (md := md) (hb := h) (s4 := (Value.bool false)) (s11 := v1) (s12 := (Value.int .i64 ((cl : Int)))) (s13 := (Value.int .i64 u.rt)) (s14 := (Value.int .i64 w.rt)) X7 q7 SO7 F7 (fun rv hrv => by
    rcases List.mem_append.1 hrv with h1 | h1
    · exact rowlt rv ((wo_sub n n rvs 0).subset h1)
    · cases u with
      | nil => simp [oneV] at h1
      | nd _ _ _ => simp only [oneV, List.mem_singleton] at h1; subst h1; exact lv6) (by rw [List.length_append]; omega) hro hlim (by omega) (SP6.heap fun _ => pk7) (by rw [eb]; omega) ne7 (by rw [eb]; omega) (j := 1) rfl (by omega) W7 lv7
  have keep18 : ∀ y, y < g3.length → y ≠ q → k8[y]? = g3[y]? := fun y h1 h2 => by rw [keep8 y h1 h2, keep7 y h1 h2, keep6 y h1 h2]
  -- what is told
  have X8v : Sl k8 1 eZ v1 t1.row := X3.heap fun _ => keep18 _ lv1 sepv1.2.2.1
  obtain ⟨x9, f9, b9, T9⟩ := Sl.preB tInt9 X8v (k := (cl : Int)) (by omega) (by rw [Tr.row_len]; omega)
  obtain ⟨xA, fA', bA, TA⟩ := Sl.sufB tInt9 X8v (k := (cl : Int)) (by omega) (by rw [Tr.row_len]; omega)
  rw [Int.toNat_natCast, ← p1] at T9
  rw [Int.toNat_natCast, ← p2] at TA
  have su : u.sz ≤ t1.sz ∧ w.sz ≤ t1.sz := by
    have := congrArg List.length hrow
    rw [List.length_append, Tr.row_len, Tr.row_len, Tr.row_len] at this; omega
  have roU := fo_root (md := md) (R := R8) X8.fo T9 hp1 (fun y hy => sm a3 y (mu y hy)) (by omega)
  have roW := fo_root (md := md) (R := R8) X8.fo TA hp2 (fun y hy => sm a3 y (mw y hy)) (by omega)
  have rF8 := plF q8
  have btU : (u.rt == u.rt) = true := by simp
  have btW : (w.rt == w.rt) = true := by simp
  have eE : J17_0 C md h ((Value.pointer (some ⟨q, 0, none⟩))) ((Value.bool false)) v1 ((Value.int .i64 ((cl : Int)))) ((Value.int .i64 u.rt)) ((Value.int .i64 w.rt)) ((Value.slice (some ⟨g5.length, 0, none⟩) 2 1)) ((Value.int .i64 2)) ((Value.int .i64 (((1 + 1 : Nat) : Int)))) k8 = some ((Value.bool true), k8) := by
    rw [J17_0_step]
    unfold Jr17_0
    have c : ¬ (((1 + 1 : Nat) : Int) < 2) := by omega
    simp only [go_sem, Nat.reduceAdd, Nat.reduceLeDiff, Nat.reduceMul, Int.reduceBEq, Int.reduceBNe, Int.reduceLT, Int.reduceLE, Int.reduceGT, aBin_lss, c, Jk17_0]
    unfold J17_1
    simp only [go_sem, Nat.reduceAdd, Nat.reduceLeDiff, Nat.reduceMul, Int.reduceBEq, Int.reduceBNe, Int.reduceLT, Int.reduceLE, Int.reduceGT, okNil, okP_p, rF8, f9, roU, aBin_eql, btU, fA', roW, btW]
  have neR : (wo n n 0 rvs ++ oneV (Value.slice y1 y2 y3) u) ++ oneV (Value.slice z1 z2 z3) w ≠ [] := by
    intro e
    have h1 := (List.append_eq_nil_iff.1 e).2
    have h2 := (List.append_eq_nil_iff.1 (List.append_eq_nil_iff.1 e).1).2
    have hu : u = .nil := by cases u with | nil => rfl | nd _ _ _ => simp [oneV] at h2
    have hw : w = .nil := by cases w with | nil => rfl | nd _ _ _ => simp [oneV] at h1
    rw [hu, hw] at hrow
    exact ne1 hrow.symm
  have big8 := SlO.big SO8 neR
  have G8 := PG.of X8 q8 SO8.sl F8 (by
    have := X8.la; have := X8.lb; have := X8.lq; have := X8.lM; omega) fun rv hrv => by
    rcases List.mem_append.1 hrv with h1 | h1
    · rcases List.mem_append.1 h1 with h1 | h1
      · exact G3.sepV rv ((wo_sub n n rvs 0).subset h1)
      · cases u with
        | nil => simp [oneV] at h1
        | nd _ _ _ => simp only [oneV, List.mem_singleton] at h1; subst h1; rw [b6]; exact sepv1
    · cases w with
      | nil => simp [oneV] at h1
      | nd _ _ _ => simp only [oneV, List.mem_singleton] at h1; subst h1; rw [b7]; exact sepv1
  rw [List.append_assoc (wo n n 0 ts)] at G8
  have I8 : PI V S (prO V S T l0) mk s' (wo n n 0 ts ++ (oneT u ++ oneT w)) := I.change ht1 ht1 (so.mono fun y hy => List.mem_append.2 (.inl hy)) (fun t ht => by
      rcases List.mem_append.1 ht with h1 | h1
      · obtain ⟨rfl, h2⟩ := oneT_mem.1 h1
        exact ⟨hp1, nu, h2, Iu⟩
      · obtain ⟨rfl, h2⟩ := oneT_mem.1 h1
        exact ⟨hp2, nw, h2, Iw⟩) (fun t ht y hy => List.mem_append.2 (.inl (by
      rcases List.mem_append.1 ht with h1 | h1
      · obtain ⟨rfl, h2⟩ := oneT_mem.1 h1
        exact mu y hy
      · obtain ⟨rfl, h2⟩ := oneT_mem.1 h1
        exact mw y hy))) (fun y hy => by
      have hy' : y ∈ u.row ++ w.row := by
        rw [hrow]
        rcases List.mem_append.1 hy with h1 | h1 <;> exact h1
      rcases List.mem_append.1 hy' with h1 | h1
      · exact ⟨u, List.mem_append.2 (.inl (oneT_mem.2 ⟨rfl, fun e => by rw [e] at h1; simp [Tr.row] at h1⟩)), h1⟩
      · exact ⟨w, List.mem_append.2 (.inr (oneT_mem.2 ⟨rfl, fun e => by rw [e] at h1; simp [Tr.row] at h1⟩)), h1⟩) (by
      rw [List.pairwise_append]
      refine ⟨by cases u <;> simp [oneT], by cases w <;> simp [oneT], fun t ht t' ht' y h1 h2 => ?_⟩
      obtain ⟨rfl, _⟩ := oneT_mem.1 ht
      obtain ⟨rfl, _⟩ := oneT_mem.1 ht'
      exact duw y h1 y h2 rfl)
  refine ⟨s', _, _, _, _, ?_, ⟨G8, I8, ts_len hR hN I8⟩, ⟨by omega, fun y hy h1' h2 h3 h4 => by rw [keep18 y (by omega) h3, o3.oth y h1' h2, ← hh1, List.getElem?_append_left hy]⟩⟩
  have ck' : (if (t1.row.length : Int) < (if 0 > K then 0 else K) then (t1.row.length : Int) else (if 0 > K then 0 else K)) = (cl : Int) := by rw [Tr.row_len]; exact ck
  have lenp : ∀ {α : Type} (kk : Value → Option α), lenS ((Value.slice (some ⟨g5.length, 0, none⟩) 2 1)) kk = kk ((Value.int .i64 2)) := fun kk => rfl
  rw [C, call_eq, F17_eq]
  unfold F17
  simp only [go_sem, Nat.reduceAdd, Nat.reduceLeDiff, Nat.reduceMul, Int.reduceBEq, Int.reduceBNe, Int.reduceLT, Int.reduceLE, Int.reduceGT, hh1, r0, r1, r2, r3, ei, ej, c1, okNil, okP_p, rR, ix1, rx1, len1, rT1, rF1, ro1, e3, e4, st_1s, w6, ck', f6, f7, bTwo, hg6, lenp]
  exact e7.trans (e8.trans eE)
end Go.Det.E

/- The play of 09: a node is marked. -/
namespace Go.Det.E
open Go.Proofs Go.Det Go.Det.U
attribute [local congr] bind_c cond_c
variable {md : Md} {h hh k h' : Heap} {a b q n0 : Nat} {V S T x v p f : Int} {l c : List Int} {l0 : Int → Int} {s s' : NS} {P M W R R' : Value} {N ob : Nat} {ns : List RN} {mk mk' : Int → Nat} {vx : Int → Bool} {ts ts' : List Tr} {rvs rvs' : List Value} {pr : Int → Int}
theorem i_and1 (K : Int) : ∃ m : Nat, m < 2 ∧ bAnd .i64 K 1 = (m : Int) := by
  refine ⟨(BitVec.ofInt 64 K).toNat % 2, Nat.mod_lt _ (by omega), ?_⟩
  show IntKind.i64.wrap ((BitVec.ofInt 64 K &&& BitVec.ofInt 64 1).toNat : Int) = _
  rw [BitVec.toNat_and, show (BitVec.ofInt 64 1).toNat = 1 from rfl, Nat.and_one_is_mod]
  exact wi (by omega) (by omega)
theorem i_shl {α : Type} {m : Nat} (hm : m < 2) (k : Value → Option α) : shI .shl 1 (m : Int) .i64 k = k ((Value.int .i64 (((2 ^ m : Nat) : Int)))) := by
  obtain rfl | rfl : m = 0 ∨ m = 1 := by omega
  all_goals kernel_rfl
theorem i_shl2 {m : Nat} (hm : m < 2) : shOp .shl 1 (m : Int) .i64 = some ((Value.int .i64 (((2 ^ m : Nat) : Int)))) := by
  obtain rfl | rfl : m = 0 ∨ m = 1 := by omega
  all_goals kernel_rfl
theorem mkU_ne {y : Int} {m : Nat} {on : Bool} (h : y ≠ x) : mkU mk x m on y = mk y := if_neg h
theorem i_clr {α : Type} {o m : Nat} (ho : o < 4) (hm : m < 2) (k : Value → Option α) : aBin Try.prog .andNot 3 ((Value.int .i64 ((o : Int)))) ((Value.int .i64 (((2 ^ m : Nat) : Int)))) k = k ((Value.int .i64 (((markS o m false : Nat) : Int)))) := by
  obtain rfl | rfl : m = 0 ∨ m = 1 := by omega
  all_goals (obtain rfl | rfl | rfl | rfl : o = 0 ∨ o = 1 ∨ o = 2 ∨ o = 3 := by omega) <;> kernel_rfl
theorem i_set {α : Type} {o m : Nat} (ho : o < 4) (hm : m < 2) (k : Value → Option α) : aBin Try.prog .or 3 ((Value.int .i64 (((markS o m false : Nat) : Int)))) ((Value.int .i64 (((2 ^ m : Nat) : Int)))) k = k ((Value.int .i64 (((markS o m true : Nat) : Int)))) := by
  obtain rfl | rfl : m = 0 ∨ m = 1 := by omega
  all_goals (obtain rfl | rfl | rfl | rfl : o = 0 ∨ o = 1 ∨ o = 2 ∨ o = 3 := by omega) <;> kernel_rfl
theorem PG.getM (G : PG V S T l0 mk s ts N h q a b R P M W rvs) (hx : 1 ≤ x ∧ x ≤ N) : (∀ {α : Type} (kk : Value → Option α), ixS 1 M x kk = kk ((Value.pointer (some ⟨slB M, x.toNat, none⟩)))) ∧ rd h (slB M) x.toNat = some ((Value.int .i64 ((mk x : Int)))) := by
  obtain ⟨ms, em, hm, hlm⟩ := G.own
  have eo : slO M = 0 := by rw [em]; rfl
  obtain ⟨ms2, Sm, lm, gm⟩ := G.fo.mar
  have g := gm x.toNat (by omega) (by omega)
  rw [show ((x.toNat : Nat) : Int) = x by omega] at g
  obtain ⟨i1, i2⟩ := Sl.getI Sm g
  rw [show ((x.toNat : Nat) : Int) = x by omega] at i1
  simp only [eo, Nat.zero_add] at i1 i2
  exact ⟨i1, i2⟩
theorem eZ_inj : ∀ {xs ys : List Int}, flat eZ xs = flat eZ ys → xs = ys := by
  intro xs
  induction xs with
  | nil => intro ys h; cases ys with | nil => rfl | cons y ys => simp [flat] at h
  | cons x xs ih =>
    intro ys h
    cases ys with
    | nil => simp [flat] at h
    | cons y ys =>
      rw [flat_cons, flat_cons] at h
      simp only [List.cons_append, List.nil_append, List.cons.injEq] at h
      obtain ⟨h1, h2⟩ := h
      rw [ih h2]
      injection h1 with _ h1
      rw [h1]
/-- A mark is stored. -/
theorem PG.setM (G : PG V S T l0 mk s ts N h q a b R P M W rvs) (hx : 1 ≤ x ∧ x ≤ N) (he : ∀ y, y ≠ x → mk' y = mk y) (hro : md.ro ≤ slB M) :
    ∃ h', wrN md h (slB M) x.toNat [(Value.int .i64 ((mk' x : Int)))] = some h' ∧ PG V S T l0 mk' s ts N h' q a b R P M W rvs ∧ h'.length = h.length ∧ ∀ y, y ≠ slB M → h'[y]? = h[y]? := by
  obtain ⟨ms, em, hm, hlm⟩ := G.own
  obtain ⟨ms2, Sm, lm, gm⟩ := G.fo.mar
  have e2 : ms2 = ms := by
    rcases Sm.is with ⟨e, _⟩ | ⟨b', o', kb, e, hb, hc, hl2⟩
    · rw [em] at e; cases e
    · rw [em] at e
      injection e with e3 e4 e5
      injection e3 with e3
      injection e3 with e6 e7
      subst e6 e7
      rw [hm] at hb
      obtain rfl := Option.some.inj hb
      simp only [Blk.cells, List.drop_zero] at hc
      rw [List.take_of_length_le (by rw [flat_len eZ_len]; omega)] at hc
      exact (eZ_inj hc).symm
  subst e2
  have lmb := lt_of hm
  have w := wr_at (md := md) (i := x.toNat) (vs := [(Value.int .i64 ((mk' x : Int)))]) hm (by rw [flat_len eZ_len]; simp; omega) hro (.inr rfl)
  have el := lay_flat (enc := eZ) (sz := 1) eZ_len ms2 (k := x.toNat) (mk' x : Int) (by omega)
  rw [Nat.mul_one] at el
  have el' : lay (flat eZ ms2) x.toNat [(Value.int .i64 ((mk' x : Int)))] = flat eZ (ms2.set x.toNat (mk' x : Int)) := el
  rw [el'] at w
  have keep : ∀ y, y ≠ slB M → (h.set (slB M) (Blk.own (flat eZ (ms2.set x.toNat (mk' x : Int)))))[y]? = h[y]? := fun y hy => set_else hy
  have hm' : (h.set (slB M) (Blk.own (flat eZ (ms2.set x.toNat (mk' x : Int)))))[slB M]? = some (Blk.own (flat eZ (ms2.set x.toNat (mk' x : Int)))) := set_same lmb
  have hl' : (ms2.set x.toNat (mk' x : Int)).length = N + 1 := by rw [List.length_set]; omega
  obtain ⟨us, Su, lu, gu⟩ := G.fo.pri
  obtain ⟨ws, Sw, lw, gw⟩ := G.fo.ver
  refine ⟨_, w, ⟨G.th.old (keep a (Ne.symm G.sepM.1)) (keep b (Ne.symm G.sepM.2.1)), (keep q (Ne.symm G.sepM.2.2)).trans G.hq, ⟨⟨us, Su.heap fun _ => keep _ G.sepP.2.2.2, lu, gu⟩, ⟨ms2.set x.toNat (mk' x : Int), ?_, hl', fun y h1 h2 => ?_⟩, ⟨ws, Sw.heap fun _ => keep _ G.sepW.2.2.2, lw, gw⟩⟩, ⟨G.ro.sl.heap fun _ => keep _ G.sepR.2.2.2, G.ro.len, fun i rv t h1 h2 => (G.ro.at_ i rv t h1 h2).heap fun _ => keep _ (G.sepV rv (List.mem_of_getElem? h1)).2.2.2⟩, G.qa, G.qb, G.sepR, G.sepP, G.sepW, G.sepV, G.sepM, ⟨_, em, hm', hl'⟩⟩, by rw [List.length_set], keep⟩
  · rw [em]
    exact Sl.whole eZ_len hm' rfl (by omega)
  · by_cases e : y = x.toNat
    · subst e
      rw [List.getElem?_set_self (by omega), show ((x.toNat : Nat) : Int) = x by omega]
    · rw [List.getElem?_set_ne (by omega), gm y h1 h2, he (y : Int) (by omega)]
theorem PI.mark {m : Nat} {on : Bool} {t : Tr} (I : PI V S pr mk s ts) (hm : m < 2) (ht : t ∈ ts) (hx : x ∈ t.row) (It : IsT (mkU mk x m on) (vxB V) s' t 0) (so : SameOut t.row s s') : PI V S pr (mkU mk x m on) s' ts := by
  obtain ⟨i, hi⟩ := List.mem_iff_getElem?.1 ht
  refine ⟨mkU_lt I.mkl hm on, fun u hu => ?_, I.ap, I.cov⟩
  obtain ⟨a1, a2, a3, a4, a5⟩ := I.tr u hu
  refine ⟨a1, a2, a3, a4, ?_⟩
  obtain ⟨j, hj⟩ := List.mem_iff_getElem?.1 hu
  by_cases e : j = i
  · subst e
    rw [hi] at hj
    obtain rfl := Option.some.inj hj
    exact It
  · have d := I.ap j i u t e hj hi
    exact (IsT.marks (mk' := mkU mk x m on) (fun y hy => mkU_ne (x := x) fun e2 => d y hy (e2 ▸ hx)) a5).congr (so.on d)
theorem step3 (hR : Rt V S T) (hN : (N : Int) = Nn V S) (hNp : 1 ≤ N) (Y : Play V S T N l0 q a b P M W mk s ts R rvs h) (hts : 0 < ts.length) (hro : md.ro = 0) (A B K : Int) (on : Bool) :
    ∃ mk' s' h', C md 17 [(Value.pointer (some ⟨q, 0, none⟩)), (Value.agg #[(Value.int .i64 3), (Value.int .i64 A), (Value.int .i64 B), (Value.int .i64 K), (Value.bool on)])] h = some ((Value.bool true), h') ∧ Play V S T N l0 q a b P M W mk' s' ts R rvs h' ∧ Left h h' a b q (slB M) := by
  obtain ⟨G, I, hl⟩ := Y
  have cn := Cn_le hR
  have lh1 : (h ++ [Blk.own (opC 3 A B K on)]).length = h.length + 1 := by simp
  have G1 := G.old (h' := h ++ [Blk.own (opC 3 A B K on)]) fun y hy => List.getElem?_append_left hy
  have opb : (h ++ [Blk.own (opC 3 A B K on)])[h.length]? = some (Blk.own (opC 3 A B K on)) := List.getElem?_concat_length ..
  have r0 : rd (h ++ [Blk.own (opC 3 A B K on)]) h.length 0 = some ((Value.int .i64 3)) := by rw [rd_at opb]; rfl
  have r1 : rd (h ++ [Blk.own (opC 3 A B K on)]) h.length 1 = some ((Value.int .i64 A)) := by rw [rd_at opb]; rfl
  have r2 : rd (h ++ [Blk.own (opC 3 A B K on)]) h.length 2 = some ((Value.int .i64 B)) := by rw [rd_at opb]; rfl
  have r3 : rd (h ++ [Blk.own (opC 3 A B K on)]) h.length 3 = some ((Value.int .i64 K)) := by rw [rd_at opb]; rfl
  have r4 : rd (h ++ [Blk.own (opC 3 A B K on)]) h.length 4 = some ((Value.bool on)) := by rw [rd_at opb]; rfl
  obtain ⟨i, ei, hi⟩ := row_s (md := md) G1 hts (by omega) A
  obtain ⟨j, ej, hj⟩ := row_s (md := md) G1 hts (by omega) B
  obtain ⟨m, hm, em⟩ := i_and1 K
  -- the node
  have nd := nodes_s md (h ++ [Blk.own (opC 3 A B K on)]) hR
  rw [← hN] at nd
  generalize hA0 : (if 0 > A then 0 else A) = A0
  have hA1 : 0 ≤ A0 := by rw [← hA0]; split <;> omega
  have dv : intOp .rem A0 (N : Int) .i64 = some ((Value.int .i64 (A0.tmod N))) := by
    have h0 : ¬ (N : Int) = 0 := by omega
    unfold intOp
    simp only [h0, if_false]
  have tb : 0 ≤ A0.tmod N ∧ A0.tmod N < N := by
    have hb0 : 0 < (N : Int) := by omega
    rw [Int.tmod_eq_emod_of_nonneg hA1]
    exact ⟨Int.emod_nonneg _ (by omega), Int.emod_lt_of_pos _ hb0⟩
  have w1 : IntKind.wrap .i64 (1 + A0.tmod N) = 1 + A0.tmod N := wi (by omega) (by omega)
  generalize hxe : 1 + A0.tmod N = x at w1
  have hx : 1 ≤ x ∧ x ≤ N := by omega
  have hxn : Nix V S x := ⟨by omega, by omega⟩
  obtain ⟨t, ht, hxt⟩ := I.cov x hxn
  obtain ⟨a1, a2, a3, a4, a5⟩ := I.tr t ht
  have hsz := row_small hN a2 a3
  rw [Tr.row_len] at hsz
  generalize hh1 : h ++ [Blk.own (opC 3 A B K on)] = h1 at *
  obtain ⟨s', g2, e2, A2, o2, It, so⟩ := tMark (md := md) (m := m) hR I.mkl G1.th (by omega) (by omega) (by omega) a5 a2 a3 (by omega) hxt hm on
  have l2 := o2.len
  have G2 := G1.only A2 fun y hy h1 h2 => o2.oth y h1 h2
  have r3q := pl3 G1.hq
  have rT := plT G1.hq
  have rM2 : rd g2 q 12 = some M := by rw [rd_at G2.hq]; rfl
  obtain ⟨ix, rx⟩ := G2.getM hx
  have q1 := i_shl2 hm
  have q2 := fun {α : Type} (k : Value → Option α) => i_clr (I.mkl x) hm k
  have q3 := fun {α : Type} (k : Value → Option α) => i_set (I.mkl x) hm k
  have mF : mkU mk x m false x = markS (mk x) m false := if_pos rfl
  have mT : mkU mk x m true x = markS (mk x) m true := if_pos rfl
  obtain ⟨g3, e3, G3, l3, o3⟩ := G2.setM (md := md) (mk' := mkU mk x m false) hx (fun y hy => if_neg hy) (by omega)
  rw [mF] at e3
  obtain ⟨msx, emx, hmx, _⟩ := G.own
  have lmx := lt_of hmx
  have hla := G.th.la
  have nop : h.length ≠ slB M := by omega
  have r43 : rd g3 h.length 4 = some ((Value.bool on)) := by
    rw [rd_at (k := Blk.own (opC 3 A B K on)) (by rw [o3 _ nop, o2.oth _ (by omega) (by omega)]; exact opb)]; rfl
  have left3 : ∀ y, y < h.length → y ≠ a → y ≠ b → y ≠ q → y ≠ slB M → g3[y]? = h[y]? := fun y hy h1' h2 _ h4 => by rw [o3 y h4, o2.oth y h1' h2, ← hh1, List.getElem?_append_left hy]
  have nb0 : (1 : Int) + A0.tmod N = x := hxe
  cases on
  · refine ⟨mkU mk x m false, s', g3, ?_, ⟨G3, I.mark hm ht hxt It so, hl⟩, ⟨by omega, left3⟩⟩
    rw [C, call_eq, F17_eq]
    unfold F17
    simp only [go_sem, Nat.reduceAdd, Nat.reduceLeDiff, Nat.reduceMul, Int.reduceBEq, Int.reduceBNe, Int.reduceLT, Int.reduceLE, Int.reduceGT, hh1, r0, r1, r2, r3, r4, ei, ej, okNil, okP_p, r3q, nd, hA0, divI_p, dv, aBin_add, hxe, w1, rT, em, e2, rM2, ixSV_p, ix, rx, q1, q2, e3, r43]
  · have rM3 : rd g3 q 12 = some M := by rw [rd_at G3.hq]; rfl
    obtain ⟨ix3, rx3⟩ := G3.getM hx
    rw [mF] at rx3
    obtain ⟨g4, e4, G4, l4, o4⟩ := G3.setM (md := md) (mk' := mkU mk x m true) hx (fun y hy => by unfold mkU; rw [if_neg hy, if_neg hy]) (by omega)
    rw [mT] at e4
    refine ⟨mkU mk x m true, s', g4, ?_, ⟨G4, I.mark hm ht hxt It so, hl⟩, ⟨by omega, fun y hy h1' h2 h3 h4 => by rw [o4 y h4]; exact left3 y hy h1' h2 h3 h4⟩⟩
    rw [C, call_eq, F17_eq]
    unfold F17
    simp only [go_sem, Nat.reduceAdd, Nat.reduceLeDiff, Nat.reduceMul, Int.reduceBEq, Int.reduceBNe, Int.reduceLT, Int.reduceLE, Int.reduceGT, hh1, r0, r1, r2, r3, r4, ei, ej, okNil, okP_p, r3q, nd, hA0, divI_p, dv, aBin_add, hxe, w1, rT, em, e2, rM2, ixSV_p, ix, rx, q1, q2, e3, r43, rM3, ix3, rx3, q3, e4]
theorem step0 (Y : Play V S T N l0 q a b P M W mk s ts R rvs h) (hN : N < 60000) (hts : 0 < ts.length) (kd A B K : Int) (on : Bool) (h1 : kd ≠ 1) (h2 : kd ≠ 2) (h3 : kd ≠ 3) :
    ∃ h', C md 17 [(Value.pointer (some ⟨q, 0, none⟩)), (Value.agg #[(Value.int .i64 kd), (Value.int .i64 A), (Value.int .i64 B), (Value.int .i64 K), (Value.bool on)])] h = some ((Value.bool true), h') ∧ Play V S T N l0 q a b P M W mk s ts R rvs h' ∧ Left h h' a b q (slB M) := by
  obtain ⟨G, I, hl⟩ := Y
  have G1 := G.old (h' := h ++ [Blk.own (opC kd A B K on)]) fun y hy => List.getElem?_append_left hy
  have opb : (h ++ [Blk.own (opC kd A B K on)])[h.length]? = some (Blk.own (opC kd A B K on)) := List.getElem?_concat_length ..
  have r0 : rd (h ++ [Blk.own (opC kd A B K on)]) h.length 0 = some ((Value.int .i64 kd)) := by rw [rd_at opb]; rfl
  have r1 : rd (h ++ [Blk.own (opC kd A B K on)]) h.length 1 = some ((Value.int .i64 A)) := by rw [rd_at opb]; rfl
  have r2 : rd (h ++ [Blk.own (opC kd A B K on)]) h.length 2 = some ((Value.int .i64 B)) := by rw [rd_at opb]; rfl
  obtain ⟨i, ei, hi⟩ := row_s (md := md) G1 hts (by omega) A
  obtain ⟨j, ej, hj⟩ := row_s (md := md) G1 hts (by omega) B
  have b1 : (kd == 1) = false := by simp [h1]
  have b2 : (kd == 2) = false := by simp [h2]
  have b3 : (kd == 3) = false := by simp [h3]
  refine ⟨_, ?_, ⟨G1, I, hl⟩, ⟨by simp, fun y hy _ _ _ _ => List.getElem?_append_left hy⟩⟩
  rw [C, call_eq, F17_eq]
  unfold F17
  simp only [go_sem, Nat.reduceAdd, Nat.reduceLeDiff, Nat.reduceMul, Int.reduceBEq, Int.reduceBNe, Int.reduceLT, Int.reduceLE, Int.reduceGT, r0, r1, r2, ei, ej, b1, b2, b3]
end Go.Det.E

/- The play of 09 at its beginning: all nodes alone. -/
namespace Go.Det.E
open Go.Proofs Go.Det Go.Det.U
attribute [local congr] bind_c cond_c
variable {md : Md} {h hh k h' : Heap} {a b q n0 cb lb pb mb wb fb : Nat} {V S T x v p f : Int} {l c us D : List Int} {ws : List Bool} {l0 : Int → Int} {s s' : NS} {dv ov P M W R R' : Value} {N ob : Nat} {mk mk' : Int → Nat} {vx : Int → Bool} {ts ts' : List Tr} {rvs rvs' : List Value} {pr : Int → Int}
theorem Rep.putPrio (hR : Rt V S T) (Q : Rep V S T l0 l s) (h1 : 1 ≤ x) (h2 : x ≤ Nn V S) (hv : 0 ≤ v ∧ v < 18446744073709551616) : Rep V S T (upI l0 (qN V S T x + 5) v) (putI l (qN V S T x + 5) v) s := by
  have q := qN_in hR h1 h2
  have hl := Q.len
  have g := fun j => getI_put l (qN V S T x + 5) j v
  refine ⟨by rw [putI_len]; exact hl, Q.wd.put _ hv, fun i hi => ?_, fun y a b => ?_, fun y a b => ?_, fun y a b => ?_, fun y a b c => ?_, fun y a b c => ?_⟩
  · rw [g]
    by_cases e : i = qN V S T x + 5
    · subst e; rw [if_pos ⟨rfl, by omega, by omega⟩]; exact (upI_same _ _ _).symm
    · rw [if_neg (by omega), Q.oth i hi]; exact (upI_else e).symm
  · rw [g, if_neg (by unfold qN; omega)]; exact Q.lf y a b
  · rw [g, if_neg (by unfold qN; omega)]; exact Q.rt y a b
  · rw [g, if_neg (by unfold qN; omega)]; exact Q.sm y a b
  · rw [g, if_neg (by unfold qN; omega)]; exact Q.sh y a b c
  · rw [g, if_neg (by unfold qN; omega)]; exact Q.ns y a b c
theorem prO_put {y : Int} : prO V S T (upI l0 (qN V S T x + 5) v) y = if y = x then v else prO V S T l0 y := by
  unfold prO
  by_cases e : y = x
  · subst e; rw [if_pos rfl]; exact upI_same _ _ _
  · rw [if_neg e]; exact upI_else (by unfold qN; omega)
theorem tprio (hR : Rt V S T) (A : TH V S T l0 a b s h) (hro : md.ro ≤ a) (hrb : md.ro ≤ b) (hx : Nix V S x) (hv : 0 ≤ v ∧ v < 18446744073709551616) :
    ∃ h' e, C md 54 [(Value.pointer (some ⟨a, 0, none⟩)), (Value.int .i64 (qN V S T x + 5)), (Value.int .u64 v)] h = some ((Value.int .i64 e), h') ∧ TH V S T (upI l0 (qN V S T x + 5) v) a b s h' ∧ Only a b h h' := by
  obtain ⟨l, c, A, Q⟩ := A
  obtain ⟨h', c', e, f, A', o⟩ := astore_e A hro hrb (qN V S T x + 5) v
  exact ⟨h', e, f, ⟨_, c', A', Q.putPrio hR hx.1 hx.2 hv⟩, o⟩
def mk0 : Int → Nat := fun _ => 0
abbrev single (y : Nat) : Tr := .nd .nil (y : Int) .nil
def singles (x : Nat) : List Tr := (List.range' 1 (x - 1)).map single
theorem singles_succ {x : Nat} (h : 1 ≤ x) : singles (x + 1) = singles x ++ [single x] := by
  unfold singles
  rw [show x + 1 - 1 = (x - 1) + 1 by omega, List.range'_concat, List.map_append]
  simp
  omega
theorem alone_same (x : Int) : SameOut [x] s (aloneS V s x) := fun y hy => by
  have h : y ≠ x := by simpa using hy
  exact ⟨upI_else h, upI_else h, upI_else h, upI_else h⟩
theorem alone_T (y : Nat) : IsT mk0 (vxB V) (aloneS V s (y : Int)) (single y) 0 := by
  refine ⟨upI_same _ _ _, upI_same _ _ _, upI_same _ _ _, (upI_same _ _ _).trans ?_, trivial, trivial⟩
  show _ = SM (0 + 0 + 1) (0 + 0 + (bif vxB V (y : Int) then 1 else 0)) 0 ((0 ||| 0) ||| 0)
  rw [Nat.zero_add, Nat.zero_add]
  rfl
/-- A node's draw. -/
def drw (D : List Int) (x : Nat) : Int := if D = [] then 0 else D.getD (x % D.length) 0
/-- The play's beginning, up to a node. -/
structure BG (V S T : Int) (N : Nat) (a b q n0 cb lb pb mb wb fb : Nat) (dv ov : Value) (D : List Int) (l0 : Int → Int) (s : NS) (us : List Int) (ws : List Bool) (R : Value) (rvs : List Value) (x : Nat) (k : Heap) : Prop where
  th : TH V S T l0 a b s k
  hq : k[q]? = some (.own (plC V S T a (.slice none 0 0) (.slice none 0 0) (.slice none 0 0) (.slice none 0 0)))
  hf : k[fb]? = some (.own [R, (Value.slice (some ⟨pb, 0, none⟩) (N + 1) 1), (Value.slice (some ⟨mb, 0, none⟩) (N + 1) 1), (Value.slice (some ⟨wb, 0, none⟩) (N + 1) 1)])
  hc : k[cb]? = some (.own [(Value.int .i64 V), (Value.int .i64 S), (Value.int .i64 T), dv, ov])
  hl : k[lb]? = some (.own [(Value.int .i64 V), (Value.int .i64 S), (Value.int .i64 T)])
  hp : k[pb]? = some (.own (flat eU us))
  lu : us.length = N + 1
  hw : k[wb]? = some (.own (flat eBo ws))
  lw : ws.length = N + 1
  hm : k[mb]? = some (.own (flat eZ (List.replicate (N + 1) 0)))
  sd : Sl k 1 eU dv D
  z : ∀ y : Nat, x ≤ y → y ≤ N → us[y]? = some 0
  done : ∀ y : Nat, 1 ≤ y → y < x → us[y]? = some (prO V S T l0 (y : Int)) ∧ ws[y]? = some (vxB V (y : Int)) ∧ IsT mk0 (vxB V) s (single y) 0 ∧ prO V S T l0 (y : Int) = drw D y
  so : SlO k n0 1 eV R rvs
  f2 : F2 (RQ k) rvs (singles x)
  rv : ∀ rv ∈ rvs, n0 ≤ slB rv ∧ slB rv < k.length ∧ slB rv ≠ slB R
  ln : rvs.length = x - 1
  n0 : n0 ≤ k.length
theorem bInt9 {α : Type} {x : Int} (h : Heap) (k : Value → Heap → Option α) : aBuildSlice Try.prog 44 1 [(0, (Value.int .i64 x))] h k = k ((Value.slice (some ⟨h.length, 0, none⟩) 1 1)) (h ++ [Blk.own [(Value.int .i64 x)]]) := by kernel_rfl
theorem begun_round {hb : Heap} {s2 : Value} (hR : Rt V S T) (hN : (N : Int) = Nn V S) (hN2 : N < 60000) (hro : md.ro = 0) (hlim : md.lim ≤ cb) (d1 : slB dv ≤ cb) (d2 : cb < lb) (d3 : lb < a ∧ lb < b) (d4 : a < q ∧ b < q) (d5 : q < pb) (d6 : pb < mb) (d7 : mb < wb) (d8 : wb < fb) (d9 : fb < n0) (wD : Wd D) (lD : D.length < 60000)
    {x : Nat} (B : BG V S T N a b q n0 cb lb pb mb wb fb dv ov D l0 s us ws R rvs x k) (hx1 : 1 ≤ x) (hxN : x ≤ N) :
    ∃ l0' s' us' ws' R' rvs' k', J15_0 C md hb ((Value.pointer (some ⟨cb, 0, none⟩))) s2 ((Value.pointer (some ⟨lb, 0, none⟩))) ((Value.pointer (some ⟨a, 0, none⟩))) ((Value.pointer (some ⟨q, 0, none⟩))) ((Value.int .i64 ((N : Int)))) ((Value.pointer (some ⟨fb, 0, none⟩))) ((Value.int .i64 ((x : Int)))) k = J15_0 C md hb ((Value.pointer (some ⟨cb, 0, none⟩))) s2 ((Value.pointer (some ⟨lb, 0, none⟩))) ((Value.pointer (some ⟨a, 0, none⟩))) ((Value.pointer (some ⟨q, 0, none⟩))) ((Value.int .i64 ((N : Int)))) ((Value.pointer (some ⟨fb, 0, none⟩))) ((Value.int .i64 (((x + 1 : Nat) : Int)))) k' ∧ BG V S T N a b q n0 cb lb pb mb wb fb dv ov D l0' s' us' ws' R' rvs' (x + 1) k' ∧ k.length ≤ k'.length ∧ ∀ y, y < cb → k'[y]? = k[y]? := by
  have cn := Cn_le hR
  have hnx : Nix V S (x : Int) := ⟨by omega, by omega⟩
  have hle : (x : Int) ≤ (N : Int) := by omega
  have w : IntKind.wrap .i64 ((x : Int) + 1) = ((x + 1 : Nat) : Int) := by rw [wi (by omega) (by omega)]; rfl
  have kn := B.n0
  -- the node's draw
  obtain ⟨us1, d, k1, e1, hp1, lu1, ud, ue, dd, l1, o1, edr⟩ : ∃ us1 d k1, J15_0 C md hb ((Value.pointer (some ⟨cb, 0, none⟩))) s2 ((Value.pointer (some ⟨lb, 0, none⟩))) ((Value.pointer (some ⟨a, 0, none⟩))) ((Value.pointer (some ⟨q, 0, none⟩))) ((Value.int .i64 ((N : Int)))) ((Value.pointer (some ⟨fb, 0, none⟩))) ((Value.int .i64 ((x : Int)))) k = (J15_0b0 C md ((Value.pointer (some ⟨cb, 0, none⟩))) s2 ((Value.pointer (some ⟨lb, 0, none⟩))) ((Value.pointer (some ⟨a, 0, none⟩))) ((Value.pointer (some ⟨q, 0, none⟩))) ((Value.int .i64 ((N : Int)))) ((Value.pointer (some ⟨fb, 0, none⟩))) ((Value.int .i64 ((x : Int)))) k1).bind (fun y => match y with
      | .inl (s, h) => J15_0 C md hb s.1 s.2.1 s.2.2.1 s.2.2.2.1 s.2.2.2.2.1 s.2.2.2.2.2.1 s.2.2.2.2.2.2.1 s.2.2.2.2.2.2.2 h
      | .inr (e, s, h) => Jk15_0 C md hb e s.1 s.2.1 s.2.2.1 s.2.2.2.1 s.2.2.2.2.1 s.2.2.2.2.2.1 s.2.2.2.2.2.2.1 s.2.2.2.2.2.2.2 h) ∧ k1[pb]? = some (Blk.own (flat eU us1)) ∧ us1.length = N + 1 ∧ us1[x]? = some d ∧ (∀ y : Nat, y ≠ x → us1[y]? = us[y]?) ∧ (0 ≤ d ∧ d < 18446744073709551616) ∧ k1.length = k.length ∧ (∀ y, y ≠ pb → k1[y]? = k[y]?) ∧ d = drw D x := by
    have rD : rd k cb 3 = some dv := by rw [rd_at B.hc]; rfl
    have len := fun {α : Type} (kk : Value → Option α) => B.sd.len kk
    by_cases hD : D = []
    · refine ⟨us, 0, k, ?_, B.hp, B.lu, B.z x (by omega) hxN, fun _ _ => rfl, by omega, rfl, fun _ _ => rfl, by unfold drw; rw [if_pos hD]⟩
      have z : ¬ ((D.length : Int) > 0) := by rw [hD]; simp
      rw [J15_0_step]
      unfold Jr15_0
      simp only [go_sem, Nat.reduceAdd, Nat.reduceLeDiff, Nat.reduceMul, Int.reduceBEq, Int.reduceBNe, Int.reduceLT, Int.reduceLE, Int.reduceGT, aBin_leq, hle, rD, len, z]
      rfl
    · have hl0 : 0 < D.length := List.length_pos_iff.2 hD
      have z : ((D.length : Int) > 0) := by omega
      have nz : ¬ ((D.length : Int) = 0) := by omega
      have te : (x : Int).tmod (D.length : Int) = ((x % D.length : Nat) : Int) := by rw [Int.tmod_eq_emod_of_nonneg (by omega)]; rfl
      have hmod : x % D.length < D.length := Nat.mod_lt _ hl0
      have hd : D[x % D.length]? = some (D[x % D.length]'hmod) := List.getElem?_eq_getElem hmod
      obtain ⟨ix, rx⟩ := Sl.getU B.sd hd
      generalize hdv : D[x % D.length]'hmod = d at *
      have dr : 0 ≤ d ∧ d < 18446744073709551616 := wD d (List.mem_of_getElem? hd)
      have rP : rd k fb 1 = some ((Value.slice (some ⟨pb, 0, none⟩) (N + 1) 1)) := by rw [rd_at B.hf]; rfl
      have ip := fun {α : Type} (kk : Value → Option α) => ixS_p 1 pb 0 (N + 1) 1 (x : Int) kk ⟨by omega, by omega⟩
      simp only [Nat.zero_add, Nat.mul_one, Int.toNat_natCast] at ip
      have lp := lt_of B.hp
      have wp := wr_at (md := md) (i := x) (vs := [(Value.int .u64 d)]) B.hp (by rw [flat_len eU_len, B.lu]; simp; omega) (by omega) (.inr rfl)
      have el := lay_flat (enc := eU) (sz := 1) eU_len us (k := x) d (by have := B.lu; omega)
      rw [Nat.mul_one] at el
      have el' : lay (flat eU us) x [(Value.int .u64 d)] = flat eU (us.set x d) := el
      rw [el'] at wp
      refine ⟨us.set x d, d, k.set pb (Blk.own (flat eU (us.set x d))), ?_, set_same lp, by rw [List.length_set, B.lu], by rw [List.getElem?_set_self (by have := B.lu; omega)], fun y hy => List.getElem?_set_ne (Ne.symm hy), dr, by rw [List.length_set], fun y hy => set_else hy, by unfold drw; rw [if_neg hD, List.getD_eq_getElem?_getD, hd]; rfl⟩
      rw [J15_0_step]
      unfold Jr15_0
      simp only [go_sem, Nat.reduceAdd, Nat.reduceLeDiff, Nat.reduceMul, Int.reduceBEq, Int.reduceBNe, Int.reduceLT, Int.reduceLE, Int.reduceGT, aBin_leq, hle, rD, len, z, rP, aBin_rem nz, te, ixSV_p, ix, rx, ip, wp]
      rfl
  rw [e1]
  -- the node's kind
  have hl1 : k1[lb]? = some (.own [(Value.int .i64 V), (Value.int .i64 S), (Value.int .i64 T)]) := (o1 _ (by omega)).trans B.hl
  have rl1 : rdN k1 lb 0 3 = some [(Value.int .i64 V), (Value.int .i64 S), (Value.int .i64 T)] := by rw [rdN_at hl1 (Nat.le_refl 3)]; rfl
  obtain ⟨nv, sl, sd, nd⟩ := node_in hR (x := (x : Int)) (Bl_t.2 ⟨by omega, by omega⟩)
  have st5 := fun (hq : Heap) (k' : Heap → Option (((Value × Value × Value × Value × Value × Value × Value × Value) × Heap) ⊕ (Exit × (Value × Value × Value × Value × Value × Value × Value × Value) × Heap))) => st_N md 5 k1.length 0 (thC (arcB V (x : Int)) (lvlB V (x : Int)) nv sl sd) hq k' rfl rfl
  have w5 := wrN_new0 (md := md) (h := k1) (bs := []) (i := 0) (cs := [(Value.bool false), (Value.int .i64 0), (Value.int .i64 0), (Value.int .i64 0), (Value.int .i64 0)]) (vs := thC (arcB V (x : Int)) (lvlB V (x : Int)) nv sl sd) (by omega) (by omega) (Nat.le_refl 5)
  have eL : lay [(Value.bool false), (Value.int .i64 0), (Value.int .i64 0), (Value.int .i64 0), (Value.int .i64 0)] 0 (thC (arcB V (x : Int)) (lvlB V (x : Int)) nv sl sd) = thC (arcB V (x : Int)) (lvlB V (x : Int)) nv sl sd := rfl
  rw [eL] at w5
  have n2 : (k1 ++ [Blk.own (thC (arcB V (x : Int)) (lvlB V (x : Int)) nv sl sd)])[k1.length]? = some (Blk.own (thC (arcB V (x : Int)) (lvlB V (x : Int)) nv sl sd)) := List.getElem?_concat_length ..
  have ra : rd (k1 ++ [Blk.own (thC (arcB V (x : Int)) (lvlB V (x : Int)) nv sl sd)]) k1.length 0 = some ((Value.bool (arcB V (x : Int)))) := by rw [rd_at n2]; rfl
  have o2 : ∀ y, y < k1.length → (k1 ++ [Blk.own (thC (arcB V (x : Int)) (lvlB V (x : Int)) nv sl sd)])[y]? = k1[y]? := fun y hy => List.getElem?_append_left hy
  have l2 : (k1 ++ [Blk.own (thC (arcB V (x : Int)) (lvlB V (x : Int)) nv sl sd)]).length = k1.length + 1 := by simp
  generalize hk2 : k1 ++ [Blk.own (thC (arcB V (x : Int)) (lvlB V (x : Int)) nv sl sd)] = k2 at *
  have hf2 : k2[fb]? = some (.own [R, (Value.slice (some ⟨pb, 0, none⟩) (N + 1) 1), (Value.slice (some ⟨mb, 0, none⟩) (N + 1) 1), (Value.slice (some ⟨wb, 0, none⟩) (N + 1) 1)]) := by rw [o2 _ (by omega), o1 _ (by omega)]; exact B.hf
  have rW2 : rd k2 fb 3 = some ((Value.slice (some ⟨wb, 0, none⟩) (N + 1) 1)) := by rw [rd_at hf2]; rfl
  have iw := fun {α : Type} (kk : Value → Option α) => ixS_p 1 wb 0 (N + 1) 1 (x : Int) kk ⟨by omega, by omega⟩
  have ip := fun {α : Type} (kk : Value → Option α) => ixS_p 1 pb 0 (N + 1) 1 (x : Int) kk ⟨by omega, by omega⟩
  simp only [Nat.zero_add, Nat.mul_one, Int.toNat_natCast] at iw ip
  have hw2 : k2[wb]? = some (.own (flat eBo ws)) := by rw [o2 _ (by omega), o1 _ (by omega)]; exact B.hw
  have ww := wr_at (md := md) (i := x) (vs := [(Value.bool (!arcB V (x : Int)))]) hw2 (by rw [flat_len eBo_len, B.lw]; simp; omega) (by omega) (.inr rfl)
  have el := lay_flat (enc := eBo) (sz := 1) eBo_len ws (k := x) (!arcB V (x : Int)) (by have := B.lw; omega)
  rw [Nat.mul_one] at el
  have el' : lay (flat eBo ws) x [(Value.bool (!arcB V (x : Int)))] = flat eBo (ws.set x (!arcB V (x : Int))) := el
  rw [el'] at ww
  generalize hk3 : k2.set wb (Blk.own (flat eBo (ws.set x (!arcB V (x : Int))))) = k3 at *
  have l3 : k3.length = k2.length := by rw [← hk3, List.length_set]
  have o3 : ∀ y, y ≠ wb → k3[y]? = k2[y]? := fun y hy => by rw [← hk3]; exact set_else hy
  have hw3 : k3[wb]? = some (.own (flat eBo (ws.set x (!arcB V (x : Int))))) := by rw [← hk3]; exact set_same (lt_of hw2)
  have o31 : ∀ y, y < k.length → y ≠ pb → y ≠ wb → k3[y]? = k[y]? := fun y h1 h2 h3 => by rw [o3 y h3, o2 y (by omega), o1 y h2]
  have A3 : TH V S T l0 a b s k3 := B.th.old (o31 a (by omega) (by omega) (by omega)) (o31 b (by omega) (by omega) (by omega))
  have hl3 : k3[lb]? = some (.own [(Value.int .i64 V), (Value.int .i64 S), (Value.int .i64 T)]) := (o31 _ (by omega) (by omega) (by omega)).trans B.hl
  have rl3 : rdN k3 lb 0 3 = some [(Value.int .i64 V), (Value.int .i64 S), (Value.int .i64 T)] := by rw [rdN_at hl3 (Nat.le_refl 3)]; rfl
  have fs := fun (m : Md) (h : Heap) => fs_of hR hnx (f := 5) (by omega) m h
  have hf3 : k3[fb]? = some (.own [R, (Value.slice (some ⟨pb, 0, none⟩) (N + 1) 1), (Value.slice (some ⟨mb, 0, none⟩) (N + 1) 1), (Value.slice (some ⟨wb, 0, none⟩) (N + 1) 1)]) := (o31 _ (by omega) (by omega) (by omega)).trans B.hf
  have rP3 : rd k3 fb 1 = some ((Value.slice (some ⟨pb, 0, none⟩) (N + 1) 1)) := by rw [rd_at hf3]; rfl
  have hp3 : k3[pb]? = some (.own (flat eU us1)) := by rw [o3 _ (by omega), o2 _ (by omega)]; exact hp1
  have S3 : Sl k3 1 eU ((Value.slice (some ⟨pb, 0, none⟩) (N + 1) 1)) us1 := Sl.whole eU_len hp3 rfl (by omega)
  have rd3 : rd k3 pb x = some ((Value.int .u64 d)) := by
    have := (Sl.getU S3 ud).2
    have e0 : slB ((Value.slice (some ⟨pb, 0, none⟩) (N + 1) 1)) = pb ∧ slO ((Value.slice (some ⟨pb, 0, none⟩) (N + 1) 1)) = 0 := ⟨rfl, rfl⟩
    rw [e0.1, e0.2, Nat.zero_add] at this
    exact this
  obtain ⟨k4, er, e4, A4, o4⟩ := tprio (md := md) hR A3 (by omega) (by omega) hnx dd
  have l4 := o4.len
  have hq4 : k4[q]? = some (.own (plC V S T a (.slice none 0 0) (.slice none 0 0) (.slice none 0 0) (.slice none 0 0))) := (o4.oth q (by omega) (by omega)).trans ((o31 _ (by omega) (by omega) (by omega)).trans B.hq)
  have rT4 := plT hq4
  obtain ⟨k5, e5, A5, o5⟩ := tAlone (md := md) hR A4 (by omega) (by omega) (by omega) hnx
  have l5 := o5.len
  have o53 : ∀ y, y ≠ a → y ≠ b → k5[y]? = k3[y]? := fun y h1 h2 => by rw [o5.oth y h1 h2, o4.oth y h1 h2]
  have o5k : ∀ y, y < k.length → y ≠ pb → y ≠ wb → y ≠ a → y ≠ b → k5[y]? = k[y]? := fun y h1 h2 h3 h4 h5 => by rw [o53 y h4 h5, o31 y h1 h2 h3]
  have hf5 : k5[fb]? = some (.own [R, (Value.slice (some ⟨pb, 0, none⟩) (N + 1) 1), (Value.slice (some ⟨mb, 0, none⟩) (N + 1) 1), (Value.slice (some ⟨wb, 0, none⟩) (N + 1) 1)]) := (o5k _ (by omega) (by omega) (by omega) (by omega) (by omega)).trans B.hf
  have rR5 : rd k5 fb 0 = some R := by rw [rd_at hf5]; rfl
  -- the node's row
  have l6 : (k5 ++ [Blk.own [(Value.int .i64 ((x : Int)))]]).length = k5.length + 1 := by simp
  have o6 : ∀ y, y < k5.length → (k5 ++ [Blk.own [(Value.int .i64 ((x : Int)))]])[y]? = k5[y]? := fun y hy => List.getElem?_append_left hy
  have n6 : (k5 ++ [Blk.own [(Value.int .i64 ((x : Int)))]])[k5.length]? = some (Blk.own [(Value.int .i64 ((x : Int)))]) := List.getElem?_concat_length ..
  generalize hk6 : k5 ++ [Blk.own [(Value.int .i64 ((x : Int)))]] = k6 at *
  have o6k : ∀ y, y < k.length → y ≠ pb → y ≠ wb → y ≠ a → y ≠ b → k6[y]? = k[y]? := fun y h1 h2 h3 h4 h5 => by rw [o6 y (by omega), o5k y h1 h2 h3 h4 h5]
  have SO6 : SlO k6 n0 1 eV R rvs := by
    rcases B.so.own with e | ⟨h1, cs, h2⟩
    · refine ⟨?_, .inl e⟩
      have := B.so.sl
      rw [e] at this ⊢
      rcases this.is with ⟨_, e2⟩ | ⟨_, _, _, e2, _⟩
      · rw [e2]; exact Sl.nil _ eV_len
      · cases e2
    · have hlt := lt_of h2
      have e := o6k (slB R) hlt (by omega) (by omega) (by omega) (by omega)
      exact ⟨B.so.sl.heap fun _ => e, .inr ⟨h1, cs, e.trans h2⟩⟩
  have kl := B.ln
  obtain ⟨v', k7, e7, S7, l7, f7⟩ := append_own2 (md := md) (ys := [(Value.slice (some ⟨k5.length, 0, none⟩) 1 1)]) tRows9 SO6 (by omega) (by omega) (cs := [(Value.slice (some ⟨k5.length, 0, none⟩) 1 1)]) (by simp [flat]) (by simp) rfl (by simp; omega)
  simp only [List.length_cons, List.length_nil, Nat.zero_add] at e7
  simp only [← hk6, List.append_assoc, List.length_append, List.cons_append, List.nil_append, List.length_cons, List.length_nil, Nat.zero_add] at e7
  have big := SlO.big S7 (by simp)
  obtain ⟨a8, l8, c8, rfl⟩ := Sl.sliceV S7.sl
  have nR : ∀ y, y < n0 → y < k6.length → k7[y]? = k6[y]? := fun y h1 h2 => f7 y h2 (B.so.own.imp id fun q => by omega)
  have hf7 : k7[fb]? = some (.own [R, (Value.slice (some ⟨pb, 0, none⟩) (N + 1) 1), (Value.slice (some ⟨mb, 0, none⟩) (N + 1) 1), (Value.slice (some ⟨wb, 0, none⟩) (N + 1) 1)]) := by rw [nR _ (by omega) (by omega), o6 _ (by omega)]; exact hf5
  have w8 := wr_at (md := md) (i := 0) (vs := [Value.slice a8 l8 c8]) hf7 (by show 1 ≤ 4; omega) (by omega) (.inl (by omega))
  have eF : lay [R, (Value.slice (some ⟨pb, 0, none⟩) (N + 1) 1), (Value.slice (some ⟨mb, 0, none⟩) (N + 1) 1), (Value.slice (some ⟨wb, 0, none⟩) (N + 1) 1)] 0 [Value.slice a8 l8 c8] = [Value.slice a8 l8 c8, (Value.slice (some ⟨pb, 0, none⟩) (N + 1) 1), (Value.slice (some ⟨mb, 0, none⟩) (N + 1) 1), (Value.slice (some ⟨wb, 0, none⟩) (N + 1) 1)] := rfl
  rw [eF] at w8
  have hfl := lt_of hf7
  generalize hk8 : k7.set fb (Blk.own [Value.slice a8 l8 c8, (Value.slice (some ⟨pb, 0, none⟩) (N + 1) 1), (Value.slice (some ⟨mb, 0, none⟩) (N + 1) 1), (Value.slice (some ⟨wb, 0, none⟩) (N + 1) 1)]) = k8 at *
  have o8 : ∀ y, y ≠ fb → k8[y]? = k7[y]? := fun y hy => by rw [← hk8]; exact set_else hy
  have l8' : k8.length = k7.length := by rw [← hk8, List.length_set]
  -- what is as it was
  have low : ∀ y, y < n0 → y ≠ fb → y ≠ pb → y ≠ wb → y ≠ a → y ≠ b → k8[y]? = k[y]? := fun y h1 h2 h3 h4 h5 h6 => by rw [o8 y h2, nR y h1 (by omega), o6k y (by omega) h3 h4 h5 h6]
  have low3 : ∀ y, y < n0 → y ≠ fb → y ≠ a → y ≠ b → k8[y]? = k3[y]? := fun y h1 h2 h3 h4 => by rw [o8 y h2, nR y h1 (by omega), o6 y (by omega), o53 y h3 h4]
  have A8 : TH V S T (upI l0 (qN V S T (x : Int) + 5) d) a b (aloneS V s (x : Int)) k8 := A5.old (by rw [o8 _ (by omega), nR _ (by omega) (by omega), o6 _ (by omega)]) (by rw [o8 _ (by omega), nR _ (by omega) (by omega), o6 _ (by omega)])
  refine ⟨upI l0 (qN V S T (x : Int) + 5) d, aloneS V s (x : Int), us1, ws.set x (!arcB V (x : Int)), Value.slice a8 l8 c8, rvs ++ [(Value.slice (some ⟨k5.length, 0, none⟩) 1 1)], k8, ?_, ?_, by omega, fun y hy => low y (by omega) (by omega) (by omega) (by omega) (by omega) (by omega)⟩
  · unfold J15_0b0
    simp only [go_sem, Nat.reduceAdd, Nat.reduceLeDiff, Nat.reduceMul, Int.reduceBEq, Int.reduceBNe, Int.reduceLT, Int.reduceLE, Int.reduceGT, rl1, nd, hk2, st5, w5, rW2, ra, ixSV_p, iw, ww, rl3, fs, rP3, ip, rd3, e4, okNil, okP_p, rT4, e5, rR5, bInt9, bRows9, e7, st_1s, w8, aBin_add, w]
  · have xb : slB ((Value.slice (some ⟨k5.length, 0, none⟩) 1 1)) = k5.length := rfl
    refine ⟨A8, (low _ (by omega) (by omega) (by omega) (by omega) (by omega) (by omega)).trans B.hq, by rw [← hk8]; exact set_same hfl, (low _ (by omega) (by omega) (by omega) (by omega) (by omega) (by omega)).trans B.hc, (low _ (by omega) (by omega) (by omega) (by omega) (by omega) (by omega)).trans B.hl, (low3 _ (by omega) (by omega) (by omega) (by omega)).trans hp3, lu1, (low3 _ (by omega) (by omega) (by omega) (by omega)).trans hw3, by rw [List.length_set]; exact B.lw, (low _ (by omega) (by omega) (by omega) (by omega) (by omega) (by omega)).trans B.hm, B.sd.heap fun _ => low _ (by omega) (by omega) (by omega) (by omega) (by omega) (by omega), fun y h1 h2 => by rw [ue y (by omega)]; exact B.z y (by omega) h2, fun y h1 h2 => ?_, ?_, ?_, fun rv hrv => ?_, by simp; omega, by omega⟩
    · by_cases e : y = x
      · subst e
        refine ⟨by rw [ud, prO_put, if_pos rfl], ?_, alone_T y, by rw [prO_put, if_pos rfl]; exact edr⟩
        rw [List.getElem?_set_self (by have := B.lw; omega), vx_arc]; simp
      · obtain ⟨c1, c2, c3, c4⟩ := B.done y h1 (by omega)
        refine ⟨by rw [ue y e, c1, prO_put, if_neg (by omega)], by rw [List.getElem?_set_ne (by omega)]; exact c2, c3.congr ((alone_same (x : Int)).on fun z hz hz2 => ?_), by rw [prO_put, if_neg (by omega)]; exact c4⟩
        simp [Tr.row] at hz hz2
        omega
    · refine ⟨S7.sl.heap fun _ => o8 _ (by omega), ?_⟩
      rcases S7.own with e | ⟨h1, cs, h2⟩
      · exact .inl e
      · exact .inr ⟨by omega, cs, (o8 _ (by omega)).trans h2⟩
    · rw [singles_succ hx1]
      refine (F2.mono B.f2 fun rv hrv t ht => ?_).app ⟨?_, trivial⟩
      · obtain ⟨h1, h2, h3⟩ := B.rv rv hrv
        exact Sl.heap ht fun _ => by rw [o8 _ (by omega), f7 _ (by omega) (.inr h3), o6k _ h2 (by omega) (by omega) (by omega) (by omega)]
      · have e : k8[k5.length]? = some (Blk.own [(Value.int .i64 ((x : Int)))]) := by
          rw [o8 _ (by omega), f7 _ (by omega) ?_]
          · exact n6
          · refine B.so.own.imp id fun ⟨_, cs, h2⟩ => ?_
            have := lt_of h2
            omega
        exact Sl.whole eZ_len e rfl rfl
    · rcases List.mem_append.1 hrv with h1 | h1
      · obtain ⟨g1, g2, g3⟩ := B.rv rv h1
        exact ⟨g1, by omega, by omega⟩
      · simp only [List.mem_singleton] at h1
        subst h1
        rw [xb]
        exact ⟨by omega, by omega, by omega⟩
end Go.Det.E

/- The play of 09: begun, whole; may a case be gone through? -/
namespace Go.Det.E
open Go.Proofs Go.Det Go.Det.U
attribute [local congr] bind_c cond_c
variable {md : Md} {h hh k h' : Heap} {a b q n0 cb lb pb mb wb fb : Nat} {V S T x v p f : Int} {l c us D : List Int} {ws : List Bool} {l0 : Int → Int} {s s' : NS} {dv ov P M W R R' : Value} {N ob : Nat} {mk mk' : Int → Nat} {vx : Int → Bool} {ts ts' : List Tr} {rvs rvs' : List Value} {pr : Int → Int}
theorem begun_loop {hb : Heap} {s2 : Value} (hR : Rt V S T) (hN : (N : Int) = Nn V S) (hN2 : N < 60000) (hro : md.ro = 0) (hlim : md.lim ≤ cb) (d1 : slB dv ≤ cb) (d2 : cb < lb) (d3 : lb < a ∧ lb < b) (d4 : a < q ∧ b < q) (d5 : q < pb) (d6 : pb < mb) (d7 : mb < wb) (d8 : wb < fb) (d9 : fb < n0) (wD : Wd D) (lD : D.length < 60000) : ∀ (m x : Nat) (k : Heap) (l0 : Int → Int) (s : NS) (us : List Int) (ws : List Bool) (R : Value) (rvs : List Value), x + m = N + 1 → 1 ≤ x → BG V S T N a b q n0 cb lb pb mb wb fb dv ov D l0 s us ws R rvs x k →
    ∃ l0' s' us' ws' R' rvs' k', J15_0 C md hb ((Value.pointer (some ⟨cb, 0, none⟩))) s2 ((Value.pointer (some ⟨lb, 0, none⟩))) ((Value.pointer (some ⟨a, 0, none⟩))) ((Value.pointer (some ⟨q, 0, none⟩))) ((Value.int .i64 ((N : Int)))) ((Value.pointer (some ⟨fb, 0, none⟩))) ((Value.int .i64 ((x : Int)))) k = J15_1 C md hb ((Value.pointer (some ⟨q, 0, none⟩))) ((Value.pointer (some ⟨fb, 0, none⟩))) k' ∧ BG V S T N a b q n0 cb lb pb mb wb fb dv ov D l0' s' us' ws' R' rvs' (N + 1) k' ∧ k.length ≤ k'.length ∧ ∀ y, y < cb → k'[y]? = k[y]? := by
  intro m
  induction m with
  | zero =>
    intro x k l0 s us ws R rvs hx h1 B
    obtain rfl : x = N + 1 := by omega
    refine ⟨l0, s, us, ws, R, rvs, k, ?_, B, Nat.le_refl _, fun _ _ => rfl⟩
    have hle : ¬ ((N + 1 : Nat) : Int) ≤ (N : Int) := by omega
    rw [J15_0_step]
    unfold Jr15_0
    simp only [go_sem, Nat.reduceAdd, Nat.reduceLeDiff, Nat.reduceMul, Int.reduceBEq, Int.reduceBNe, Int.reduceLT, Int.reduceLE, Int.reduceGT, aBin_leq, hle, Jk15_0]
  | succ m ih =>
    intro x k l0 s us ws R rvs hx h1 B
    obtain ⟨l1, s1, us1, ws1, R1, rvs1, k1, e1, B1, g1, o1⟩ := begun_round (md := md) (hb := hb) (s2 := s2) hR hN hN2 hro hlim d1 d2 d3 d4 d5 d6 d7 d8 d9 wD lD B h1 (by omega)
    obtain ⟨l2, s2', us2, ws2, R2, rvs2, k2, e2, B2, g2, o2⟩ := ih (x + 1) k1 l1 s1 us1 ws1 R1 rvs1 (by omega) (by omega) B1
    exact ⟨l2, s2', us2, ws2, R2, rvs2, k2, e1.trans e2, B2, by omega, fun y hy => by rw [o2 y hy, o1 y hy]⟩
theorem bPlay9 {α : Type} {V S T : Int} {a : Nat} (k : Value → Option α) : aBuild Try.prog 49 [(0, (Value.agg #[(Value.int .i64 V), (Value.int .i64 S), (Value.int .i64 T)])), (1, (Value.pointer (some ⟨a, 0, none⟩))), (2, (Value.agg #[(Value.int .i64 V), (Value.int .i64 S), (Value.int .i64 T), ifA a, (Value.int .i64 1), (Value.int .i64 0)]))] k = k ((Value.agg (List.toArray (plC V S T a (.slice none 0 0) (.slice none 0 0) (.slice none 0 0) (.slice none 0 0))))) := by kernel_rfl
theorem bTrees9 {α : Type} {V S T : Int} {a : Nat} (k : Value → Option α) : aBuild Try.prog 42 [(0, (Value.agg #[(Value.int .i64 V), (Value.int .i64 S), (Value.int .i64 T)])), (1, ifA a), (2, (Value.agg #[(Value.int .i64 1), (Value.int .i64 0)]))] k = k ((Value.agg #[(Value.int .i64 V), (Value.int .i64 S), (Value.int .i64 T), ifA a, (Value.int .i64 1), (Value.int .i64 0)])) := by kernel_rfl
theorem bForest9 {α : Type} {a b c : Option Addr} {l1 l2 l3 c1 c2 c3 : Nat} (k : Value → Option α) : aBuild Try.prog 47 [(1, .slice a l1 c1), (2, .slice b l2 c2), (3, .slice c l3 c3)] k = k ((Value.agg (List.toArray ([.slice none 0 0, .slice a l1 c1, .slice b l2 c2, .slice c l3 c3])))) := by kernel_rfl
theorem tU9 : SlT Try.prog 24 103 1 8 [(Value.int .u64 0)] := ⟨by kernel_rfl, by kernel_rfl, by kernel_rfl, rfl, by decide, by decide, rfl⟩
theorem tB9 : SlT Try.prog 45 4 1 1 [(Value.bool false)] := ⟨by kernel_rfl, by kernel_rfl, by kernel_rfl, rfl, by decide, by decide, rfl⟩
theorem repU9 (n : Nat) : repL n [(Value.int .u64 0)] = flat eU (List.replicate n 0) := by
  induction n with
  | zero => rfl
  | succ n ih => rw [List.replicate_succ, flat_cons, ← ih]; rfl
theorem repZ9 (n : Nat) : repL n [(Value.int .i64 0)] = flat eZ (List.replicate n 0) := by
  induction n with
  | zero => rfl
  | succ n ih => rw [List.replicate_succ, flat_cons, ← ih]; rfl
theorem repB9 (n : Nat) : repL n [(Value.bool false)] = flat eBo (List.replicate n false) := by
  induction n with
  | zero => rfl
  | succ n ih => rw [List.replicate_succ, flat_cons, ← ih]; rfl
theorem rep0 (hR : Rt V S T) : Rep V S T (fun _ => 0) (List.replicate (Cn V S T).toNat 0) ⟨fun _ => 0, fun _ => 0, fun _ => 0, fun _ => 0⟩ := by
  have cn := Cn_le hR
  have g : ∀ i, getI (List.replicate (Cn V S T).toNat (0 : Int)) i = 0 := by
    intro i
    unfold getI
    split
    · rename_i h
      simp only [List.length_replicate] at h
      rw [List.getD, List.getElem?_replicate_of_lt (by omega)]; rfl
    · rfl
  refine ⟨by simp; omega, Wd.zero _, fun i _ => g i, fun y _ _ => g _, fun y _ _ => g _, fun y _ _ => g _, fun y _ _ _ => ?_, fun y _ _ _ => g _⟩
  rw [g]
  exact ⟨by decide, rfl⟩
theorem singles_mem {x : Nat} {t : Tr} : t ∈ singles x ↔ ∃ y : Nat, t = single y ∧ 1 ≤ y ∧ y < x := by
  unfold singles
  rw [List.mem_map]
  constructor
  · rintro ⟨y, hy, rfl⟩
    rw [List.mem_range'_1] at hy
    exact ⟨y, rfl, by omega, by omega⟩
  · rintro ⟨y, rfl, h1, h2⟩
    exact ⟨y, by rw [List.mem_range'_1]; omega, rfl⟩
theorem singles_PI (hN : (N : Int) = Nn V S) (hd : ∀ y : Nat, 1 ≤ y → y < N + 1 → IsT mk0 (vxB V) s (single y) 0) : PI V S pr mk0 s (singles (N + 1)) := by
  refine ⟨fun _ => by show 0 < 4; omega, fun t ht => ?_, ?_, fun y hy => ⟨single y.toNat, singles_mem.2 ⟨y.toNat, rfl, by omega, by omega⟩, ?_⟩⟩
  · obtain ⟨y, rfl, h1, h2⟩ := singles_mem.1 ht
    refine ⟨⟨by simp [Tr.row], by simp [Tr.row], trivial, trivial⟩, by simp [Tr.row], fun z hz => ?_, by simp, hd y h1 h2⟩
    simp [Tr.row] at hz
    subst hz
    exact ⟨by omega, by omega⟩
  · rw [apart_pw]
    unfold singles
    rw [List.pairwise_map]
    refine List.Pairwise.imp ?_ (List.pairwise_lt_range' ..)
    intro y z hyz w h1 h2
    simp [Tr.row] at h1 h2
    omega
  · simp [Tr.row]; omega
theorem begun9 (hR : Rt V S T) (hN : (N : Int) = Nn V S) (hro : md.ro = 0) (hlim : md.lim ≤ h.length) (SD : Sl h 1 eU dv D) (wD : Wd D) (lD : D.length < 60000) :
    ∃ h' q a b l0 s P M W R rvs, C md 15 [(Value.agg #[(Value.int .i64 V), (Value.int .i64 S), (Value.int .i64 T), dv, ov])] h = some ((Value.pointer (some ⟨q, 0, none⟩)), h') ∧ Play V S T N l0 q a b P M W mk0 s (singles (N + 1)) R rvs h' ∧ h.length ≤ h'.length ∧ (∀ y, y < h.length → h'[y]? = h[y]?) ∧ h.length ≤ q ∧ h.length ≤ a ∧ h.length ≤ b ∧ h.length ≤ slB M ∧ ∀ y : Nat, 1 ≤ y → y ≤ N → prO V S T l0 (y : Int) = drw D y := by
  have cn := Cn_le hR
  generalize hg0 : h ++ [Blk.own [(Value.int .i64 V), (Value.int .i64 S), (Value.int .i64 T), dv, ov]] = g0
  have lg0 : g0.length = h.length + 1 := by rw [← hg0]; simp
  have c0 : g0[h.length]? = some (Blk.own [(Value.int .i64 V), (Value.int .i64 S), (Value.int .i64 T), dv, ov]) := by rw [← hg0]; exact List.getElem?_concat_length ..
  have r0 : rdN g0 h.length 0 3 = some [(Value.int .i64 V), (Value.int .i64 S), (Value.int .i64 T)] := by rw [rdN_at c0 (by show 3 ≤ 5; omega)]; rfl
  have st3 := fun (hq : Heap) (kk : Heap → Option (Value × Heap)) => st_N md 3 g0.length 0 [(Value.int .i64 V), (Value.int .i64 S), (Value.int .i64 T)] hq kk rfl rfl
  have w3 := wrN_new0 (md := md) (h := g0) (bs := []) (i := 0) (cs := [(Value.int .i64 0), (Value.int .i64 0), (Value.int .i64 0)]) (vs := [(Value.int .i64 V), (Value.int .i64 S), (Value.int .i64 T)]) (by omega) (by omega) (Nat.le_refl 3)
  have eL : lay [(Value.int .i64 0), (Value.int .i64 0), (Value.int .i64 0)] 0 [(Value.int .i64 V), (Value.int .i64 S), (Value.int .i64 T)] = [(Value.int .i64 V), (Value.int .i64 S), (Value.int .i64 T)] := rfl
  rw [eL] at w3
  generalize hg1 : g0 ++ [Blk.own [(Value.int .i64 V), (Value.int .i64 S), (Value.int .i64 T)]] = g1 at w3
  have lg1 : g1.length = h.length + 2 := by rw [← hg1]; simp; omega
  have o1 : ∀ y, y < g0.length → g1[y]? = g0[y]? := fun y hy => by rw [← hg1, List.getElem?_append_left hy]
  have c1 : g1[g0.length]? = some (Blk.own [(Value.int .i64 V), (Value.int .i64 S), (Value.int .i64 T)]) := by rw [← hg1]; exact List.getElem?_concat_length ..
  have r1 : rdN g1 g0.length 0 3 = some [(Value.int .i64 V), (Value.int .i64 S), (Value.int .i64 T)] := by rw [rdN_at c1 (Nat.le_refl 3)]; rfl
  have ce := fun (m : Md) (h : Heap) => cells_s m h hR
  obtain ⟨g2, a, b, e2, A2, O2, la, lb⟩ := new_e md g1 (n := Cn V S T) (by omega) (by omega)
  have lg2 := O2.len
  have lta := lt_of A2.ha
  have ltb := lt_of A2.hb
  have c2 : g2[g0.length]? = some (Blk.own [(Value.int .i64 V), (Value.int .i64 S), (Value.int .i64 T)]) := (O2.old _ (by omega)).trans c1
  have r2 : rdN g2 g0.length 0 3 = some [(Value.int .i64 V), (Value.int .i64 S), (Value.int .i64 T)] := by rw [rdN_at c2 (Nat.le_refl 3)]; rfl
  have mo := fun (m : Md) => memof_s m g2 lta
  generalize hg3 : g2 ++ [Blk.own (plC V S T a (.slice none 0 0) (.slice none 0 0) (.slice none 0 0) (.slice none 0 0))] = g3
  have lg3 : g3.length = g2.length + 1 := by rw [← hg3]; simp
  have o3 : ∀ y, y < g2.length → g3[y]? = g2[y]? := fun y hy => by rw [← hg3, List.getElem?_append_left hy]
  have q3 : g3[g2.length]? = some (Blk.own (plC V S T a (.slice none 0 0) (.slice none 0 0) (.slice none 0 0) (.slice none 0 0))) := by rw [← hg3]; exact List.getElem?_concat_length ..
  have c3 : g3[g0.length]? = some (Blk.own [(Value.int .i64 V), (Value.int .i64 S), (Value.int .i64 T)]) := (o3 _ (by omega)).trans c2
  have r3 : rdN g3 g0.length 0 3 = some [(Value.int .i64 V), (Value.int .i64 S), (Value.int .i64 T)] := by rw [rdN_at c3 (Nat.le_refl 3)]; rfl
  have nd := fun (m : Md) (h : Heap) => nodes_s m h hR
  rw [← hN] at nd
  have w1 : IntKind.wrap .i64 ((N : Int) + 1) = ((N + 1 : Nat) : Int) := by rw [wi (by omega) (by omega)]; rfl
  have m4 := fun (kk : Value → Heap → Option (Value × Heap)) => make_p tU9 (n := ((N + 1 : Nat) : Int)) (c := ((N + 1 : Nat) : Int)) (by omega) (by omega) (by omega) (by omega) g3 kk
  rw [repU9] at m4
  simp only [Int.toNat_natCast] at m4
  generalize hus : List.replicate (N + 1) (0 : Int) = us at m4
  generalize hg4 : g3 ++ [Blk.own (flat eU us)] = g4 at m4
  have lg4 : g4.length = g3.length + 1 := by rw [← hg4]; simp
  have m5 := fun (kk : Value → Heap → Option (Value × Heap)) => make_p tInt9 (n := ((N + 1 : Nat) : Int)) (c := ((N + 1 : Nat) : Int)) (by omega) (by omega) (by omega) (by omega) g4 kk
  rw [repZ9] at m5
  simp only [Int.toNat_natCast, hus] at m5
  generalize hg5 : g4 ++ [Blk.own (flat eZ us)] = g5 at m5
  have lg5 : g5.length = g4.length + 1 := by rw [← hg5]; simp
  have m6 := fun (kk : Value → Heap → Option (Value × Heap)) => make_p tB9 (n := ((N + 1 : Nat) : Int)) (c := ((N + 1 : Nat) : Int)) (by omega) (by omega) (by omega) (by omega) g5 kk
  rw [repB9] at m6
  simp only [Int.toNat_natCast] at m6
  generalize hws : List.replicate (N + 1) false = ws at m6
  generalize hg6 : g5 ++ [Blk.own (flat eBo ws)] = g6 at m6
  have lg6 : g6.length = g5.length + 1 := by rw [← hg6]; simp
  have st4 := fun (hq : Heap) (kk : Heap → Option (Value × Heap)) => st_N md 4 g6.length 0 [.slice none 0 0, (Value.slice (some ⟨g3.length, 0, none⟩) (N + 1) 1), (Value.slice (some ⟨g4.length, 0, none⟩) (N + 1) 1), (Value.slice (some ⟨g5.length, 0, none⟩) (N + 1) 1)] hq kk rfl rfl
  have w4 := wrN_new0 (md := md) (h := g6) (bs := []) (i := 0) (cs := [.slice none 0 0, .slice none 0 0, .slice none 0 0, .slice none 0 0]) (vs := [.slice none 0 0, (Value.slice (some ⟨g3.length, 0, none⟩) (N + 1) 1), (Value.slice (some ⟨g4.length, 0, none⟩) (N + 1) 1), (Value.slice (some ⟨g5.length, 0, none⟩) (N + 1) 1)]) (by omega) (by omega) (Nat.le_refl 4)
  have eL4 : lay [.slice none 0 0, .slice none 0 0, .slice none 0 0, .slice none 0 0] 0 [.slice none 0 0, (Value.slice (some ⟨g3.length, 0, none⟩) (N + 1) 1), (Value.slice (some ⟨g4.length, 0, none⟩) (N + 1) 1), (Value.slice (some ⟨g5.length, 0, none⟩) (N + 1) 1)] = [.slice none 0 0, (Value.slice (some ⟨g3.length, 0, none⟩) (N + 1) 1), (Value.slice (some ⟨g4.length, 0, none⟩) (N + 1) 1), (Value.slice (some ⟨g5.length, 0, none⟩) (N + 1) 1)] := rfl
  rw [eL4] at w4
  generalize hg7 : g6 ++ [Blk.own [.slice none 0 0, (Value.slice (some ⟨g3.length, 0, none⟩) (N + 1) 1), (Value.slice (some ⟨g4.length, 0, none⟩) (N + 1) 1), (Value.slice (some ⟨g5.length, 0, none⟩) (N + 1) 1)]] = g7 at w4
  have lg7 : g7.length = g6.length + 1 := by rw [← hg7]; simp
  have k7 : ∀ y, y < g6.length → g7[y]? = g6[y]? := fun y hy => by rw [← hg7, List.getElem?_append_left hy]
  have k6 : ∀ y, y < g5.length → g7[y]? = g5[y]? := fun y hy => by rw [k7 y (by omega), ← hg6, List.getElem?_append_left hy]
  have k5 : ∀ y, y < g4.length → g7[y]? = g4[y]? := fun y hy => by rw [k6 y (by omega), ← hg5, List.getElem?_append_left hy]
  have k4 : ∀ y, y < g3.length → g7[y]? = g3[y]? := fun y hy => by rw [k5 y (by omega), ← hg4, List.getElem?_append_left hy]
  have k2 : ∀ y, y < g1.length → g7[y]? = g1[y]? := fun y hy => by rw [k4 y (by omega), o3 y (by omega), O2.old y hy]
  have kh : ∀ y, y < h.length → g7[y]? = h[y]? := fun y hy => by rw [k2 y (by omega), o1 y (by omega), ← hg0, List.getElem?_append_left hy]
  have lus : us.length = N + 1 := by rw [← hus]; simp
  have lws : ws.length = N + 1 := by rw [← hws]; simp
  have B0 : BG V S T N a b g2.length g7.length h.length g0.length g3.length g4.length g5.length g6.length dv ov D (fun _ => 0) ⟨fun _ => 0, fun _ => 0, fun _ => 0, fun _ => 0⟩ us ws (.slice none 0 0) [] 1 g7 := by
    refine ⟨⟨_, _, A2.same (by rw [k4 _ (by omega), o3 _ lta]) (by rw [k4 _ (by omega), o3 _ ltb]), rep0 hR⟩, (k4 _ (by omega)).trans q3, by rw [← hg7]; exact List.getElem?_concat_length .., by rw [k2 _ (by omega), o1 _ (by omega)]; exact c0, (k2 _ (by omega)).trans c1, by rw [k5 _ (by omega), ← hg4]; exact List.getElem?_concat_length .., lus, by rw [k7 _ (by omega), ← hg6]; exact List.getElem?_concat_length .., lws, by rw [k6 _ (by omega), ← hg5, hus]; exact List.getElem?_concat_length .., SD.heap fun hl => kh _ hl, fun y h1 h2 => ?_, fun y h1 h2 => by omega, SlO.nil _ _ eV_len, trivial, fun rv hrv => by simp at hrv, rfl, Nat.le_refl _⟩
    rw [← hus, List.getElem?_replicate_of_lt (by omega)]
  obtain ⟨l0, s, us', ws', R, rvs, kf, ef, B, lf, of⟩ := begun_loop (md := md) (hb := h) (s2 := .pointer none) (a := a) (b := b) (q := g2.length) (n0 := g7.length) (cb := h.length) (lb := g0.length) (pb := g3.length) (mb := g4.length) (wb := g5.length) (fb := g6.length) (dv := dv) (ov := ov) (D := D) hR hN (by omega) hro hlim (by have := Sl.slB_le SD; omega) (by omega) ⟨by omega, by omega⟩ ⟨lta, ltb⟩ (by omega) (by omega) (by omega) (by omega) (by omega) wD lD N 1 g7 _ _ us ws _ _ (by omega) (by omega) B0
  have uP : Try.prog.underlying 36 = some (.pointer 122) := by kernel_rfl
  have ec : (Value.agg (List.toArray (plC V S T a (.slice none 0 0) (.slice none 0 0) (.slice none 0 0) (.slice none 0 0)))).cells.toList = plC V S T a (.slice none 0 0) (.slice none 0 0) (.slice none 0 0) (.slice none 0 0) := rfl
  -- the forest is put into the play
  have rF : rdN kf g6.length 0 4 = some [R, (Value.slice (some ⟨g3.length, 0, none⟩) (N + 1) 1), (Value.slice (some ⟨g4.length, 0, none⟩) (N + 1) 1), (Value.slice (some ⟨g5.length, 0, none⟩) (N + 1) 1)] := by rw [rdN_at B.hf (Nat.le_refl 4)]; rfl
  obtain ⟨a8, l8, c8, rfl⟩ := Sl.sliceV B.so.sl
  have stF := fun (hq : Heap) (kk : Heap → Option (Value × Heap)) => st_N md 4 g2.length 10 [Value.slice a8 l8 c8, (Value.slice (some ⟨g3.length, 0, none⟩) (N + 1) 1), (Value.slice (some ⟨g4.length, 0, none⟩) (N + 1) 1), (Value.slice (some ⟨g5.length, 0, none⟩) (N + 1) 1)] hq kk rfl rfl
  have wF := wr_at (md := md) (i := 10) (vs := [Value.slice a8 l8 c8, (Value.slice (some ⟨g3.length, 0, none⟩) (N + 1) 1), (Value.slice (some ⟨g4.length, 0, none⟩) (N + 1) 1), (Value.slice (some ⟨g5.length, 0, none⟩) (N + 1) 1)]) B.hq (by show 14 ≤ 14; omega) (by omega) (.inl (by omega))
  have eLF : lay (plC V S T a (.slice none 0 0) (.slice none 0 0) (.slice none 0 0) (.slice none 0 0)) 10 [Value.slice a8 l8 c8, (Value.slice (some ⟨g3.length, 0, none⟩) (N + 1) 1), (Value.slice (some ⟨g4.length, 0, none⟩) (N + 1) 1), (Value.slice (some ⟨g5.length, 0, none⟩) (N + 1) 1)] = plC V S T a (Value.slice a8 l8 c8) ((Value.slice (some ⟨g3.length, 0, none⟩) (N + 1) 1)) ((Value.slice (some ⟨g4.length, 0, none⟩) (N + 1) 1)) ((Value.slice (some ⟨g5.length, 0, none⟩) (N + 1) 1)) := rfl
  rw [eLF] at wF
  have keep : ∀ y, y ≠ g2.length → (kf.set g2.length (Blk.own (plC V S T a (Value.slice a8 l8 c8) ((Value.slice (some ⟨g3.length, 0, none⟩) (N + 1) 1)) ((Value.slice (some ⟨g4.length, 0, none⟩) (N + 1) 1)) ((Value.slice (some ⟨g5.length, 0, none⟩) (N + 1) 1)))))[y]? = kf[y]? := fun y hy => set_else hy
  have nR : rvs ≠ [] ∨ N = 0 := by
    by_cases hN0 : N = 0
    · exact .inr hN0
    · left; intro e; have := B.ln; rw [e] at this; simp at this; omega
  have bR : slB (Value.slice a8 l8 c8) = 0 ∨ g7.length ≤ slB (Value.slice a8 l8 c8) := by
    rcases B.so.own with e | ⟨e, _⟩
    · left; rw [e]; rfl
    · exact .inr e
  have nz : 0 < a ∧ 0 < b ∧ 0 < g2.length ∧ 0 < g4.length := by omega
  have e3 : slB ((Value.slice (some ⟨g3.length, 0, none⟩) (N + 1) 1)) = g3.length := rfl
  have e4 : slB ((Value.slice (some ⟨g4.length, 0, none⟩) (N + 1) 1)) = g4.length := rfl
  have e5 : slB ((Value.slice (some ⟨g5.length, 0, none⟩) (N + 1) 1)) = g5.length := rfl
  have G : PG V S T l0 mk0 s (singles (N + 1)) N (kf.set g2.length (Blk.own (plC V S T a (Value.slice a8 l8 c8) ((Value.slice (some ⟨g3.length, 0, none⟩) (N + 1) 1)) ((Value.slice (some ⟨g4.length, 0, none⟩) (N + 1) 1)) ((Value.slice (some ⟨g5.length, 0, none⟩) (N + 1) 1))))) g2.length a b (Value.slice a8 l8 c8) ((Value.slice (some ⟨g3.length, 0, none⟩) (N + 1) 1)) ((Value.slice (some ⟨g4.length, 0, none⟩) (N + 1) 1)) ((Value.slice (some ⟨g5.length, 0, none⟩) (N + 1) 1)) rvs := by
    refine ⟨B.th.old (keep _ (by omega)) (keep _ (by omega)), set_same (lt_of B.hq), ⟨⟨us', Sl.whole eU_len ((keep _ (by omega)).trans B.hp) rfl (by have := B.lu; omega), B.lu, fun y h1 h2 => (B.done y h1 (by omega)).1⟩, ⟨List.replicate (N + 1) 0, Sl.whole eZ_len ((keep _ (by omega)).trans B.hm) rfl (by simp), by simp, fun y h1 h2 => by rw [List.getElem?_replicate_of_lt (by omega)]; rfl⟩, ⟨ws', Sl.whole eBo_len ((keep _ (by omega)).trans B.hw) rfl (by have := B.lw; omega), B.lw, fun y h1 h2 => (B.done y h1 (by omega)).2.1⟩⟩, ⟨B.so.sl.heap fun _ => keep _ (by omega), B.f2.len, fun i rv t h1 h2 => Sl.heap (B.f2.get i rv t h1 h2) fun _ => keep _ (by have := (B.rv rv (List.mem_of_getElem? h1)).1; omega)⟩, by omega, by omega, by rw [e4]; omega, by rw [e3, e4]; omega, by rw [e5, e4]; omega, fun rv hrv => by have := (B.rv rv hrv).1; rw [e4]; omega, by rw [e4]; omega, ⟨List.replicate (N + 1) 0, rfl, (keep _ (by omega)).trans B.hm, by simp⟩⟩
  have I : PI V S (prO V S T l0) mk0 s (singles (N + 1)) := singles_PI hN fun y h1 h2 => (B.done y h1 h2).2.2.1
  refine ⟨_, g2.length, a, b, l0, s, _, _, _, _, rvs, ?_, ⟨G, I, ts_len hR hN I⟩, by rw [List.length_set]; omega, fun y hy => by rw [keep y (by omega), of y hy, kh y hy], by omega, by omega, by omega, by rw [e4]; omega, fun y h1 h2 => (B.done y h1 (by omega)).2.2.2⟩
  rw [C, call_eq, F15_eq]
  unfold F15
  simp only [go_sem, Nat.reduceAdd, Nat.reduceLeDiff, Nat.reduceMul, Int.reduceBEq, Int.reduceBNe, Int.reduceLT, Int.reduceLE, Int.reduceGT, hg0, r0, st3, w3, r1, ce, e2, aBin_eqlP uP, r2, mo, bTrees9, bPlay9, ec, hg3, r3, nd, w1, m4, m5, m6, bForest9, st4, w4]
  rw [Int.natCast_one] at ef
  rw [ef]
  unfold J15_1
  simp only [go_sem, Nat.reduceAdd, Nat.reduceLeDiff, Nat.reduceMul, Int.reduceBEq, Int.reduceBNe, Int.reduceLT, Int.reduceLE, Int.reduceGT, rF, okNil, okP_p, stF, wF]
end Go.Det.E

/- The laws of 09: what each begins with; TreapPlays. -/
namespace Go.Det.U
structure Op9 where
  k : Int
  a : Int
  b : Int
  c : Int
  t : Bool
end Go.Det.U
namespace Go.Det.E
open Go.Proofs Go.Det Go.Det.U
attribute [local congr] bind_c cond_c
variable {md : Md} {h hh k h' : Heap} {a b q : Nat} {V S T x v p f : Int} {D : List Int} {l0 : Int → Int} {s s' : NS} {dv ov P M W R R' : Value} {N : Nat} {mk mk' : Int → Nat} {ts ts' : List Tr} {rvs rvs' : List Value} {ops : List Op9}
abbrev encO (o : Op9) : List Value := [(Value.int .i64 o.k), (Value.int .i64 o.a), (Value.int .i64 o.b), (Value.int .i64 o.c), (Value.bool o.t)]
theorem encO_len (o : Op9) : (encO o).length = 5 := rfl
theorem ops9_of {h : Heap} {ess : List (List Value)} (a : TyE h [.i .i64, .i .i64, .i .i64, .i .i64, .b] ess) : ∃ ops : List Op9, ess = ops.map encO := by
  induction ess with
  | nil => exact ⟨[], rfl⟩
  | cons es ess ih =>
    cases a with
    | cons _ _ _ b h2 =>
      obtain ⟨v1, r, rfl, a1, b⟩ := l_cons b
      obtain ⟨v2, r, rfl, a2, b⟩ := l_cons b
      obtain ⟨v3, r, rfl, a3, b⟩ := l_cons b
      obtain ⟨v4, r, rfl, a4, b⟩ := l_cons b
      obtain ⟨v6, r, rfl, a6, b⟩ := l_cons b
      obtain rfl := l_nil b
      obtain ⟨x1, rfl, _⟩ := inI64 a1
      obtain ⟨x2, rfl, _⟩ := inI64 a2
      obtain ⟨x3, rfl, _⟩ := inI64 a3
      obtain ⟨x4, rfl, _⟩ := inI64 a4
      obtain ⟨x6, rfl⟩ := inB a6
      obtain ⟨ops, e⟩ := ih h2
      exact ⟨⟨x1, x2, x3, x4, x6⟩ :: ops, by rw [e]; rfl⟩
theorem arg_case {h : Heap} {v : Value} (x : TyArg Try.prog h 27 v) : ∃ (V S T : Int) (dv ov : Value) (D : List Int) (ops : List Op9), v = (Value.agg #[(Value.int .i64 V), (Value.int .i64 S), (Value.int .i64 T), dv, ov]) ∧ Sl h 1 eU dv D ∧ Wd D ∧ Sl h 5 encO ov ops := by
  obtain ⟨acs, e, b⟩ := argN (P := Try.prog) (l := [.i .i64, .i .i64, .i .i64, .sl [.i .u64], .sl [.i .i64, .i .i64, .i .i64, .i .i64, .b]]) (by kernel_rfl) (by kernel_rfl) x
  obtain ⟨v1, r, rfl, a1, b⟩ := l_cons b
  obtain ⟨v2, r, rfl, a2, b⟩ := l_cons b
  obtain ⟨v3, r, rfl, a3, b⟩ := l_cons b
  obtain ⟨v4, r, rfl, a4, b⟩ := l_cons b
  obtain ⟨v5, r, rfl, a5, b⟩ := l_cons b
  obtain rfl := l_nil b
  obtain ⟨V, rfl, _⟩ := inI64 a1
  obtain ⟨S, rfl, _⟩ := inI64 a2
  obtain ⟨T, rfl, _⟩ := inI64 a3
  have hD : ∃ D, Sl h 1 eU v4 D ∧ Wd D := by
    rcases inSl a4 with e | ⟨b, ess, e, hb', hl, he⟩
    · rw [e]; exact ⟨[], Sl.nil _ eU_len, fun _ h => by simp at h⟩
    · obtain ⟨vs, rfl, e2, hv⟩ := elems1 he
      have : ∃ ws : List Int, vs = ws.map (.int .u64) ∧ Wd ws := by
        clear e hb' hl he e2
        induction vs with
        | nil => exact ⟨[], rfl, fun _ h => by simp at h⟩
        | cons v vs ih =>
          obtain ⟨ws, e, w⟩ := ih fun u hu => hv u (List.mem_cons_of_mem _ hu)
          obtain ⟨n, rfl, n0, n1⟩ := inU64 (hv v List.mem_cons_self)
          refine ⟨n :: ws, by rw [e]; rfl, fun m hm => ?_⟩
          rcases List.mem_cons.1 hm with rfl | hm
          · exact ⟨n0, n1⟩
          · exact w m hm
      obtain ⟨ws, rfl, w⟩ := this
      refine ⟨ws, ?_, w⟩
      rw [e]
      refine Sl.whole eU_len hb' ?_ (by simp)
      show List.flatten _ = _
      rw [e2]
      clear hb' hl he e2 e hv w
      induction ws with
      | nil => rfl
      | cons x ws ih => rw [flat_cons, ← ih]; rfl
  obtain ⟨D, SD, wD⟩ := hD
  have hO : ∃ ops, Sl h 5 encO v5 ops := by
    rcases inSl a5 with e | ⟨b, ess, e, hb, _, he⟩
    · rw [e]; exact ⟨[], Sl.nil _ encO_len⟩
    · obtain ⟨ops, rfl⟩ := ops9_of he
      rw [e]
      exact ⟨ops, Sl.whole encO_len hb rfl (by simp)⟩
  obtain ⟨ops, SO⟩ := hO
  exact ⟨V, S, T, v4, v5, D, ops, e, SD, wD, SO⟩
theorem refright9 (md : Md) (h : Heap) (V S T : Int) : C md 50 [(Value.agg #[(Value.int .i64 V), (Value.int .i64 S), (Value.int .i64 T)])] h = some ((Value.bool (decide (Rt V S T))), h) := by
  rw [C, call_eq, F50_eq]
  unfold F50 Rt
  by_cases h1 : 1 ≤ V <;> (try by_cases h2 : V ≤ 16) <;> (try by_cases h3 : 0 ≤ S) <;> (try by_cases h4 : S ≤ 48) <;> (try by_cases h5 : 1 ≤ T) <;> (try by_cases h6 : T ≤ 8) <;>
    simp only [go_sem, Nat.reduceAdd, Nat.reduceLeDiff, Nat.reduceMul, Int.reduceBEq, Int.reduceBNe, Int.reduceLT, Int.reduceLE, Int.reduceGT, ge_iff_le, *, aBin_leq, aBin_geq, false_and, and_false, true_and, and_self]
theorem right9 (hro : md.ro ≤ h.length) (hlim : md.lim ≤ h.length) (SD : Sl h 1 eU dv D) (SO : Sl h 5 encO ov ops) :
    C md 13 [(Value.agg #[(Value.int .i64 V), (Value.int .i64 S), (Value.int .i64 T), dv, ov])] h = some ((Value.bool (decide (Rt V S T ∧ V ≤ 4 ∧ S ≤ 3 ∧ (D.length : Int) ≤ 60 ∧ (ops.length : Int) ≤ 60))), h) := by
  have ld := fun {α : Type} (k : Value → Option α) => SD.len k
  have lo := fun {α : Type} (k : Value → Option α) => SO.len k
  have h1 : md.ro ≤ h.length + 1 := by omega
  have h2 : md.lim ≤ h.length + 1 := by omega
  rw [C, call_eq, F13_eq]
  unfold F13
  by_cases c1 : Rt V S T
  · by_cases c2 : V ≤ 4
    · by_cases c3 : S ≤ 3
      · by_cases c4 : (D.length : Int) ≤ 60
        · by_cases c5 : (ops.length : Int) ≤ 60
          · have : decide (Rt V S T ∧ V ≤ 4 ∧ S ≤ 3 ∧ (D.length : Int) ≤ 60 ∧ (ops.length : Int) ≤ 60) = true := decide_eq_true ⟨c1, c2, c3, c4, c5⟩
            rw [this]
            simp only [go_sem, Nat.reduceAdd, Nat.reduceLeDiff, Nat.reduceMul, Int.reduceBEq, Int.reduceBNe, Int.reduceLT, Int.reduceLE, Int.reduceGT, refright9, c1, aBin_leq, c2, c3, ld, c4, lo, c5, h1, h2]
          · have : decide (Rt V S T ∧ V ≤ 4 ∧ S ≤ 3 ∧ (D.length : Int) ≤ 60 ∧ (ops.length : Int) ≤ 60) = false := decide_eq_false fun z => c5 z.2.2.2.2
            rw [this]
            simp only [go_sem, Nat.reduceAdd, Nat.reduceLeDiff, Nat.reduceMul, Int.reduceBEq, Int.reduceBNe, Int.reduceLT, Int.reduceLE, Int.reduceGT, refright9, c1, aBin_leq, c2, c3, ld, c4, lo, c5, h1, h2]
        · have : decide (Rt V S T ∧ V ≤ 4 ∧ S ≤ 3 ∧ (D.length : Int) ≤ 60 ∧ (ops.length : Int) ≤ 60) = false := decide_eq_false fun z => c4 z.2.2.2.1
          rw [this]
          simp only [go_sem, Nat.reduceAdd, Nat.reduceLeDiff, Nat.reduceMul, Int.reduceBEq, Int.reduceBNe, Int.reduceLT, Int.reduceLE, Int.reduceGT, refright9, c1, aBin_leq, c2, c3, ld, c4, h1, h2]
      · have : decide (Rt V S T ∧ V ≤ 4 ∧ S ≤ 3 ∧ (D.length : Int) ≤ 60 ∧ (ops.length : Int) ≤ 60) = false := decide_eq_false fun z => c3 z.2.2.1
        rw [this]
        simp only [go_sem, Nat.reduceAdd, Nat.reduceLeDiff, Nat.reduceMul, Int.reduceBEq, Int.reduceBNe, Int.reduceLT, Int.reduceLE, Int.reduceGT, refright9, c1, aBin_leq, c2, c3, h1, h2]
    · have : decide (Rt V S T ∧ V ≤ 4 ∧ S ≤ 3 ∧ (D.length : Int) ≤ 60 ∧ (ops.length : Int) ≤ 60) = false := decide_eq_false fun z => c2 z.2.1
      rw [this]
      simp only [go_sem, Nat.reduceAdd, Nat.reduceLeDiff, Nat.reduceMul, Int.reduceBEq, Int.reduceBNe, Int.reduceLT, Int.reduceLE, Int.reduceGT, refright9, c1, aBin_leq, c2, h1, h2]
  · have : decide (Rt V S T ∧ V ≤ 4 ∧ S ≤ 3 ∧ (D.length : Int) ≤ 60 ∧ (ops.length : Int) ≤ 60) = false := decide_eq_false fun z => c1 z.1
    rw [this]
    simp only [go_sem, Nat.reduceAdd, Nat.reduceLeDiff, Nat.reduceMul, Int.reduceBEq, Int.reduceBNe, Int.reduceLT, Int.reduceLE, Int.reduceGT, refright9, c1, h1, h2]
theorem ts_pos (hN : (N : Int) = Nn V S) (hNp : 1 ≤ N) {pr : Int → Int} (I : PI V S pr mk s ts) : 0 < ts.length := by
  obtain ⟨t, ht, _⟩ := I.cov 1 ⟨by omega, by omega⟩
  exact List.length_pos_iff.2 (fun e => by rw [e] at ht; simp at ht)
theorem step9 (hR : Rt V S T) (hN : (N : Int) = Nn V S) (hNp : 1 ≤ N) (Y : Play V S T N l0 q a b P M W mk s ts R rvs h) (hro : md.ro = 0) (hlim : md.lim ≤ q) (o : Op9) :
    ∃ mk' s' ts' R' rvs' h', C md 17 [(Value.pointer (some ⟨q, 0, none⟩)), (Value.agg #[(Value.int .i64 o.k), (Value.int .i64 o.a), (Value.int .i64 o.b), (Value.int .i64 o.c), (Value.bool o.t)])] h = some ((Value.bool true), h') ∧ Play V S T N l0 q a b P M W mk' s' ts' R' rvs' h' ∧ Left h h' a b q (slB M) := by
  have hp := ts_pos hN hNp Y.i
  have cn := Cn_le hR
  obtain ⟨kd, oa, ob, oc, ot⟩ := o
  by_cases h1 : kd = 1
  · subst h1
    obtain ⟨s', ts', R', rvs', h', e⟩ := step1 (md := md) hR hN Y hp hro hlim oa ob oc ot
    exact ⟨mk, s', ts', R', rvs', h', e⟩
  by_cases h2 : kd = 2
  · subst h2
    obtain ⟨s', ts', R', rvs', h', e⟩ := step2 (md := md) hR hN Y hp hro hlim oa ob oc ot
    exact ⟨mk, s', ts', R', rvs', h', e⟩
  by_cases h3 : kd = 3
  · subst h3
    obtain ⟨mk', s', h', e⟩ := step3 (md := md) hR hN hNp Y hp hro oa ob oc ot
    exact ⟨mk', s', ts, R, rvs, h', e⟩
  · obtain ⟨h', e⟩ := step0 (md := md) Y (by omega) hp kd oa ob oc ot h1 h2 h3
    exact ⟨mk, s, ts, R, rvs, h', e⟩
end Go.Det.E

/- Trees in memory: marks asked for, the root, a node's place. -/
namespace Go.Det.E
open Go.Proofs Go.Det Go.Det.U
attribute [local congr] bind_c cond_c
variable {md : Md} {h hh : Heap} {a b : Nat} {V S T x v p f : Int} {l c : List Int} {l0 : Int → Int} {s s' : NS} {sz nv own all : Nat} {mk mk' : Int → Nat} {vx : Int → Bool}
def bitB (o m : Nat) : Bool := decide (o / 2 ^ m % 2 = 1)
theorem u_bit {o m : Nat} (ho : o < 4) (hm : m < 2) : ∃ v, shOp .shr (o : Int) (m : Int) .u64 = some ((Value.int .u64 v)) ∧ (bAnd .u64 v 1 == 1) = bitB o m := by
  refine ⟨((o / 2 ^ m : Nat) : Int), ?_⟩
  obtain rfl | rfl : m = 0 ∨ m = 1 := by omega
  all_goals (obtain rfl | rfl | rfl | rfl : o = 0 ∨ o = 1 ∨ o = 2 ∨ o = 3 := by omega) <;> exact ⟨by kernel_rfl, by kernel_rfl⟩
theorem sm_top (k : SMok sz nv own all) : Int.fdiv (SM sz nv own all) (2 ^ 34) = (all : Int) := by
  rw [SM_eq, fdiv_nat]
  have : smN sz nv own all / 2 ^ 34 = all := by have := k.sz; have := k.nv; have := k.own; unfold smN; omega
  rw [this]
theorem tMarked (hR : Rt V S T) (A : TH V S T l0 a b s h) (hro : md.ro ≤ a) (hx : x = 0 ∨ Nix V S x) (k : SMok sz nv own all) (hs : sumV s x = SM sz nv own all) {m : Nat} (hm : m < 2) :
    ∃ h', C md 25 [(Value.agg #[(Value.int .i64 V), (Value.int .i64 S), (Value.int .i64 T), ifA a, (Value.int .i64 1), (Value.int .i64 0)]), (Value.int .i64 x), (Value.int .i64 ((m : Int)))] h = some ((Value.bool (bitB own m)), h') ∧ TH V S T l0 a b s h' ∧ Only a b h h' := by
  obtain ⟨la, lb⟩ := A.la
  obtain ⟨k1, e1, A1, o1⟩ := tmarks (md := ⟨md.ro, h.length⟩) hR (A.app [Blk.own [(Value.int .i64 V), (Value.int .i64 S), (Value.int .i64 T), ifA a, (Value.int .i64 1), (Value.int .i64 0)]]) hro hx k hs
  obtain ⟨v, e2, e3⟩ := u_bit k.own hm
  refine ⟨k1.take h.length, ?_, A1.take la lb, o1.take⟩
  rw [C, call_eq, F25_eq]
  unfold F25
  simp only [go_sem, Nat.reduceAdd, Nat.reduceLeDiff, Nat.reduceMul, Int.reduceBEq, Int.reduceBNe, Int.reduceLT, Int.reduceLE, Int.reduceGT, e1, e2, aBin_and, aBin_eql, e3]
theorem thas (hR : Rt V S T) (A : TH V S T l0 a b s h) (hro : md.ro ≤ a) (hx : x = 0 ∨ Nix V S x) (k : SMok sz nv own all) (hs : sumV s x = SM sz nv own all) {m : Nat} (hm : m < 2) :
    ∃ h', C md 67 [(Value.agg #[(Value.int .i64 V), (Value.int .i64 S), (Value.int .i64 T), ifA a, (Value.int .i64 1), (Value.int .i64 0)]), (Value.int .i64 x), (Value.int .i64 ((m : Int)))] h = some ((Value.bool (bitB all m)), h') ∧ TH V S T l0 a b s h' ∧ Only a b h h' := by
  obtain ⟨la, lb⟩ := A.la
  obtain ⟨k1, e1, A1, o1⟩ := tsum (md := ⟨md.ro, h.length⟩) hR (A.app [Blk.own [(Value.int .i64 V), (Value.int .i64 S), (Value.int .i64 T), ifA a, (Value.int .i64 1), (Value.int .i64 0)]]) hro hx
  rw [hs] at e1
  obtain ⟨v, e2, e3⟩ := u_bit k.all hm
  have tp := sm_top k
  refine ⟨k1.take h.length, ?_, A1.take la lb, o1.take⟩
  rw [C, call_eq, F67_eq]
  unfold F67
  simp only [go_sem, Nat.reduceAdd, Nat.reduceLeDiff, Nat.reduceMul, Int.reduceBEq, Int.reduceBNe, Int.reduceLT, Int.reduceLE, Int.reduceGT, e1, tp, e2, aBin_and, aBin_eql, e3]
/-- From a node the loop comes to the root. -/
theorem root_up {s4 : Value} (hR : Rt V S T) (hro : md.ro ≤ a) (hr : md.ro ≤ hh.length) (la : a < hh.length) (lb : b < hh.length) : ∀ (t : Tr) (p : Int) (k : Heap), Only a b (hh ++ [Blk.own [(Value.int .i64 V), (Value.int .i64 S), (Value.int .i64 T), ifA a, (Value.int .i64 1), (Value.int .i64 0)]]) k → TH V S T l0 a b s k → Ch V S p → IsT mk (vxB V) s t p → (∀ y ∈ t.row, Nix V S y) → x ∈ t.row →
    ∃ k', J21_0 C ⟨md.ro, hh.length⟩ hh ((Value.int .i64 x)) ((Value.pointer (some ⟨hh.length, 0, none⟩))) s4 k = J21_0 C ⟨md.ro, hh.length⟩ hh ((Value.int .i64 t.rt)) ((Value.pointer (some ⟨hh.length, 0, none⟩))) s4 k' ∧ TH V S T l0 a b s k' ∧ Only a b (hh ++ [Blk.own [(Value.int .i64 V), (Value.int .i64 S), (Value.int .i64 T), ifA a, (Value.int .i64 1), (Value.int .i64 0)]]) k' := by
  intro t
  induction t with
  | nil => intro p k _ _ _ _ _ hx; simp [Tr.row] at hx
  | nd l y r ihl ihr =>
    intro p k o A hp I h0 hx
    obtain ⟨a1, a2, a3, a4, a5, a6⟩ := I
    have hy := h0 y (by simp [Tr.row])
    -- a round from a child
    have round : ∀ (z : Int) (k1 : Heap), Only a b (hh ++ [Blk.own [(Value.int .i64 V), (Value.int .i64 S), (Value.int .i64 T), ifA a, (Value.int .i64 1), (Value.int .i64 0)]]) k1 → TH V S T l0 a b s k1 → Nix V S z → s.par z = y → ∃ k', J21_0 C ⟨md.ro, hh.length⟩ hh ((Value.int .i64 z)) ((Value.pointer (some ⟨hh.length, 0, none⟩))) s4 k1 = J21_0 C ⟨md.ro, hh.length⟩ hh ((Value.int .i64 y)) ((Value.pointer (some ⟨hh.length, 0, none⟩))) s4 k' ∧ TH V S T l0 a b s k' ∧ Only a b (hh ++ [Blk.own [(Value.int .i64 V), (Value.int .i64 S), (Value.int .i64 T), ifA a, (Value.int .i64 1), (Value.int .i64 0)]]) k' := by
      intro z k1 o1 A1 hz e
      have t1 := tv6 (tvB (V := V) (S := S) (T := T) la lb o1)
      have ll1 := lkeep o1
      obtain ⟨g, f, A2, o2⟩ := tparent (md := ⟨md.ro, hh.length⟩) hR A1 hro (by show md.ro ≤ k1.length; omega) hz (by rw [e]; exact ch_small hR (.inr hy))
      rw [e] at f
      have zn : (z != 0) = true := by rw [bne_iff_ne]; omega
      have yn : (y == 0) = false := by rw [beq_eq_false_iff_ne]; omega
      refine ⟨g, ?_, A2, o1.trans o2⟩
      rw [J21_0_step]
      unfold Jr21_0
      simp only [go_sem, Nat.reduceAdd, Nat.reduceLeDiff, Nat.reduceMul, Int.reduceBEq, Int.reduceBNe, Int.reduceLT, Int.reduceLE, Int.reduceGT, aBin_neq, zn, t1, f, yn]
    have sub : ∀ (u : Tr), IsT mk (vxB V) s u y → (∀ z ∈ u.row, Nix V S z) → x ∈ u.row → (∃ k', J21_0 C ⟨md.ro, hh.length⟩ hh ((Value.int .i64 x)) ((Value.pointer (some ⟨hh.length, 0, none⟩))) s4 k = J21_0 C ⟨md.ro, hh.length⟩ hh ((Value.int .i64 u.rt)) ((Value.pointer (some ⟨hh.length, 0, none⟩))) s4 k' ∧ TH V S T l0 a b s k' ∧ Only a b (hh ++ [Blk.own [(Value.int .i64 V), (Value.int .i64 S), (Value.int .i64 T), ifA a, (Value.int .i64 1), (Value.int .i64 0)]]) k') → ∃ k', J21_0 C ⟨md.ro, hh.length⟩ hh ((Value.int .i64 x)) ((Value.pointer (some ⟨hh.length, 0, none⟩))) s4 k = J21_0 C ⟨md.ro, hh.length⟩ hh ((Value.int .i64 y)) ((Value.pointer (some ⟨hh.length, 0, none⟩))) s4 k' ∧ TH V S T l0 a b s k' ∧ Only a b (hh ++ [Blk.own [(Value.int .i64 V), (Value.int .i64 S), (Value.int .i64 T), ifA a, (Value.int .i64 1), (Value.int .i64 0)]]) k' := by
      intro u Iu hu hxu ⟨k1, e1, A1, o1⟩
      have ne : u ≠ .nil := fun e => by rw [e] at hxu; simp [Tr.row] at hxu
      obtain ⟨k2, e2, A2, o2⟩ := round u.rt k1 o1 A1 (hu _ (rt_mem ne)) (Iu.par ne)
      exact ⟨k2, e1.trans e2, A2, o2⟩
    rw [rt_nd]
    simp only [Tr.row, List.mem_append, List.mem_cons] at hx
    rcases hx with q | q | q
    · exact sub l a5 (fun z hz => h0 z (by simp [Tr.row, hz])) q (ihl y k o A (.inr hy) a5 (fun z hz => h0 z (by simp [Tr.row, hz])) q)
    · subst q; exact ⟨k, rfl, A, o⟩
    · exact sub r a6 (fun z hz => h0 z (by simp [Tr.row, hz])) q (ihr y k o A (.inr hy) a6 (fun z hz => h0 z (by simp [Tr.row, hz])) q)
theorem tRoot (hR : Rt V S T) {t : Tr} (A : TH V S T l0 a b s h) (hro : md.ro ≤ a) (hr : md.ro ≤ h.length) (I : IsT mk (vxB V) s t 0) (h0 : ∀ y ∈ t.row, Nix V S y) (hx : x ∈ t.row) :
    ∃ h', C md 21 [(Value.agg #[(Value.int .i64 V), (Value.int .i64 S), (Value.int .i64 T), ifA a, (Value.int .i64 1), (Value.int .i64 0)]), (Value.int .i64 x)] h = some ((Value.int .i64 t.rt), h') ∧ TH V S T l0 a b s h' ∧ Only a b h h' := by
  obtain ⟨la, lb⟩ := A.la
  have ne : t ≠ .nil := fun e => by rw [e] at hx; simp [Tr.row] at hx
  have hy := h0 _ (rt_mem ne)
  obtain ⟨k1, e1, A1, o1⟩ := root_up (md := md) (s4 := (Value.int .i64 0)) hR hro hr la lb t 0 (h ++ [Blk.own [(Value.int .i64 V), (Value.int .i64 S), (Value.int .i64 T), ifA a, (Value.int .i64 1), (Value.int .i64 0)]]) Only.refl (A.app _) (.inl rfl) I h0 hx
  have t1 := tv6 (tvB (V := V) (S := S) (T := T) la lb o1)
  have ll1 := lkeep o1
  have ep := I.par ne
  obtain ⟨g, f, A2, o2'⟩ := tparent (md := ⟨md.ro, h.length⟩) hR A1 hro (by show md.ro ≤ k1.length; omega) hy (by rw [ep]; omega)
  rw [ep] at f
  have o2 := o1.trans o2'
  have yn : (t.rt != 0) = true := by rw [bne_iff_ne]; omega
  refine ⟨g.take h.length, ?_, A2.take la lb, o2.take⟩
  rw [C, call_eq, F21_eq]
  unfold F21
  simp only [go_sem, Nat.reduceAdd, Nat.reduceLeDiff, Nat.reduceMul, Int.reduceBEq, Int.reduceBNe, Int.reduceLT, Int.reduceLE, Int.reduceGT]
  rw [e1, J21_0_step]
  unfold Jr21_0
  have z : ((0 : Int) == 0) = true := rfl
  simp only [go_sem, Nat.reduceAdd, Nat.reduceLeDiff, Nat.reduceMul, Int.reduceBEq, Int.reduceBNe, Int.reduceLT, Int.reduceLE, Int.reduceGT, aBin_neq, yn, t1, f, z, Jk21_0]
end Go.Det.E

/- Trees in memory: a node's place, a tree's row. -/
namespace Go.Det.E
open Go.Proofs Go.Det Go.Det.U
attribute [local congr] bind_c cond_c
variable {md : Md} {h hh : Heap} {a b : Nat} {V S T x v p f : Int} {l c : List Int} {l0 : Int → Int} {s s' : NS} {sz nv own all : Nat} {mk mk' : Int → Nat} {vx : Int → Bool}
theorem index_up {s4 : Value} (hR : Rt V S T) (hm : ∀ y, mk y < 4) (hro : md.ro ≤ a) (hr : md.ro ≤ hh.length) (la : a < hh.length) (lb : b < hh.length) : ∀ (t : Tr) (p : Int), Ch V S p → IsT mk (vxB V) s t p → t.row.Nodup → (∀ y ∈ t.row, Nix V S y) → t.sz < 60000 → x ∈ t.row →
    ∃ (L : Tr) (i : Nat), s.lf x = L.rt ∧ IsT mk (vxB V) s L x ∧ (∀ y ∈ L.row, y ∈ t.row) ∧ L.sz ≤ t.sz ∧ t.row[i]? = some x ∧ ∀ k, Only a b (hh ++ [Blk.own [(Value.int .i64 V), (Value.int .i64 S), (Value.int .i64 T), ifA a, (Value.int .i64 1), (Value.int .i64 0)]]) k → TH V S T l0 a b s k → ∃ k', J22_0 C ⟨md.ro, hh.length⟩ hh ((Value.int .i64 x)) ((Value.pointer (some ⟨hh.length, 0, none⟩))) s4 ((Value.int .i64 ((L.sz : Int)))) k = J22_0 C ⟨md.ro, hh.length⟩ hh ((Value.int .i64 t.rt)) ((Value.pointer (some ⟨hh.length, 0, none⟩))) s4 ((Value.int .i64 ((i : Int)))) k' ∧ TH V S T l0 a b s k' ∧ Only a b (hh ++ [Blk.own [(Value.int .i64 V), (Value.int .i64 S), (Value.int .i64 T), ifA a, (Value.int .i64 1), (Value.int .i64 0)]]) k' := by
  intro t
  induction t with
  | nil => intro p _ _ _ _ _ hx; simp [Tr.row] at hx
  | nd l y r ihl ihr =>
    intro p hp I hn h0 hz hx
    obtain ⟨a1, a2, a3, a4, a5, a6⟩ := I
    have hn' : (l.row ++ y :: r.row).Nodup := hn
    have pp := parts_of (V := V) (S := S) hn'
    have hy := h0 y (by simp [Tr.row])
    have hy' := nix_small hR hy
    have h0l : ∀ z ∈ l.row, Nix V S z := fun z hz => h0 z (by simp [Tr.row, hz])
    have h0r : ∀ z ∈ r.row, Nix V S z := fun z hz => h0 z (by simp [Tr.row, hz])
    simp only [Tr.sz] at hz
    rw [rt_nd]
    -- a round from a child
    have round : ∀ (u : Tr) (j : Nat) (k1 : Heap), u ≠ .nil → IsT mk (vxB V) s u y → (∀ z ∈ u.row, Nix V S z) → j < 60000 → Only a b (hh ++ [Blk.own [(Value.int .i64 V), (Value.int .i64 S), (Value.int .i64 T), ifA a, (Value.int .i64 1), (Value.int .i64 0)]]) k1 → TH V S T l0 a b s k1 → ∃ k', J22_0 C ⟨md.ro, hh.length⟩ hh ((Value.int .i64 u.rt)) ((Value.pointer (some ⟨hh.length, 0, none⟩))) s4 ((Value.int .i64 ((j : Int)))) k1 = J22_0 C ⟨md.ro, hh.length⟩ hh ((Value.int .i64 y)) ((Value.pointer (some ⟨hh.length, 0, none⟩))) s4 ((Value.int .i64 (((bif r.rt == u.rt then j + (1 + l.sz) else j : Nat) : Int)))) k' ∧ TH V S T l0 a b s k' ∧ Only a b (hh ++ [Blk.own [(Value.int .i64 V), (Value.int .i64 S), (Value.int .i64 T), ifA a, (Value.int .i64 1), (Value.int .i64 0)]]) k' := by
      intro u j k1 ne Iu hu hj o1 A1
      have e := Iu.par ne
      have hz1 := hu _ (rt_mem ne)
      have t1 := tv6 (tvB (V := V) (S := S) (T := T) la lb o1)
      have ll1 := lkeep o1
      obtain ⟨g, f, A2, o2'⟩ := tparent (md := ⟨md.ro, hh.length⟩) hR A1 hro (by show md.ro ≤ k1.length; omega) hz1 (by rw [e]; exact ch_small hR (.inr hy))
      rw [e] at f
      have o2 := o1.trans o2'
      have t2 := tv6 (tvB (V := V) (S := S) (T := T) la lb o2)
      have ll2 := lkeep o2
      obtain ⟨g3, f3, A3, o3'⟩ := tget4 (md := ⟨md.ro, hh.length⟩) hR A2 hro hy (by rw [a3]; exact ch_small hR (rt_ch h0r))
      rw [a3] at f3
      have o3 := o2.trans o3'
      have t3 := tv6 (tvB (V := V) (S := S) (T := T) la lb o3)
      have ll3 := lkeep o3
      have yn : (y == 0) = false := by rw [beq_eq_false_iff_ne]; omega
      cases hc : (r.rt == u.rt)
      · refine ⟨g3, ?_, A3, o3⟩
        rw [J22_0_step]
        unfold Jr22_0
        simp only [go_sem, Nat.reduceAdd, Nat.reduceLeDiff, Nat.reduceMul, Int.reduceBEq, Int.reduceBNe, Int.reduceLT, Int.reduceLE, Int.reduceGT, t1, f, yn, t2, f3, aBin_eql, hc]
      · obtain ⟨g4, f4, A4, o4'⟩ := tget3 (md := ⟨md.ro, hh.length⟩) hR A3 hro hy (by rw [a2]; exact ch_small hR (rt_ch h0l))
        rw [a2] at f4
        have o4 := o3.trans o4'
        have t4 := tv6 (tvB (V := V) (S := S) (T := T) la lb o4)
        obtain ⟨ol, kl, sl⟩ := smok_tr (vx := vxB V) hm l (by omega)
        obtain ⟨g5, f5, A5, o5'⟩ := tsize (md := ⟨md.ro, hh.length⟩) hR A4 hro (rt_ch h0l) kl ((sum_of a5.body fun z hz => (h0l z hz).1).trans sl)
        have w1 : IntKind.wrap .i64 ((j : Int) + IntKind.wrap .i64 (1 + (l.sz : Int))) = ((j + (1 + l.sz) : Nat) : Int) := by
          rw [wi (x := 1 + (l.sz : Int)) (by omega) (by omega), wi (by omega) (by omega)]; omega
        refine ⟨g5, ?_, A5, o4.trans o5'⟩
        rw [J22_0_step]
        unfold Jr22_0
        simp only [go_sem, Nat.reduceAdd, Nat.reduceLeDiff, Nat.reduceMul, Int.reduceBEq, Int.reduceBNe, Int.reduceLT, Int.reduceLE, Int.reduceGT, t1, f, yn, t2, f3, aBin_eql, hc, t3, f4, cLE_t, f5, aBin_add, w1, t4]
    simp only [Tr.row, List.mem_append, List.mem_cons] at hx
    rcases hx with q | q | q
    · obtain ⟨L, i, e1, e2, e3, e4, e5, e6⟩ := ihl y (.inr hy) a5 pp.nl h0l (by omega) q
      have il := (List.getElem?_eq_some_iff.1 e5).1
      have ne : l ≠ .nil := fun e => by rw [e] at q; simp [Tr.row] at q
      have hc : (r.rt == l.rt) = false := by
        rw [beq_eq_false_iff_ne]
        intro e
        rcases rt_in r with w | w
        · have := h0l _ (rt_mem ne); omega
        · exact pp.lr _ (rt_mem ne) (e ▸ w)
      have ls := l.row_len
      refine ⟨L, i, e1, e2, fun z hz => by simp [Tr.row, e3 z hz], by simp only [Tr.sz]; omega, ?_, fun k o A => ?_⟩
      · show (l.row ++ y :: r.row)[i]? = some x
        rw [List.getElem?_append_left il]; exact e5
      · obtain ⟨k1, f1, A1, o1⟩ := e6 k o A
        obtain ⟨k2, f2, A2, o2⟩ := round l i k1 ne a5 h0l (by omega) o1 A1
        rw [hc] at f2
        exact ⟨k2, f1.trans f2, A2, o2⟩
    · subst q
      refine ⟨l, l.sz, a2, a5, fun z hz => by simp [Tr.row, hz], by simp only [Tr.sz]; omega, ?_, fun k o A => ⟨k, rfl, A, o⟩⟩
      show (l.row ++ x :: r.row)[l.sz]? = some x
      rw [← Tr.row_len, List.getElem?_append_right (Nat.le_refl _)]; simp
    · obtain ⟨L, i, e1, e2, e3, e4, e5, e6⟩ := ihr y (.inr hy) a6 pp.nr h0r (by omega) q
      have il := (List.getElem?_eq_some_iff.1 e5).1
      have ne : r ≠ .nil := fun e => by rw [e] at q; simp [Tr.row] at q
      have hc : (r.rt == r.rt) = true := by simp
      have ls := r.row_len
      refine ⟨L, i + (1 + l.sz), e1, e2, fun z hz => by simp [Tr.row, e3 z hz], by simp only [Tr.sz]; omega, ?_, fun k o A => ?_⟩
      · show (l.row ++ y :: r.row)[i + (1 + l.sz)]? = some x
        rw [← Tr.row_len l, List.getElem?_append_right (by omega), show i + (1 + l.row.length) - l.row.length = i + 1 by omega, List.getElem?_cons_succ]; exact e5
      · obtain ⟨k1, f1, A1, o1⟩ := e6 k o A
        obtain ⟨k2, f2, A2, o2⟩ := round r i k1 ne a6 h0r (by omega) o1 A1
        rw [hc] at f2
        exact ⟨k2, f1.trans f2, A2, o2⟩
theorem tIndex (hR : Rt V S T) (hm : ∀ y, mk y < 4) {t : Tr} (A : TH V S T l0 a b s h) (hro : md.ro ≤ a) (hr : md.ro ≤ h.length) (I : IsT mk (vxB V) s t 0) (hn : t.row.Nodup) (h0 : ∀ y ∈ t.row, Nix V S y) (hz : t.sz < 60000) (hx : x ∈ t.row) :
    ∃ (i : Nat) (h' : Heap), t.row[i]? = some x ∧ C md 22 [(Value.agg #[(Value.int .i64 V), (Value.int .i64 S), (Value.int .i64 T), ifA a, (Value.int .i64 1), (Value.int .i64 0)]), (Value.int .i64 x)] h = some ((Value.int .i64 ((i : Int))), h') ∧ TH V S T l0 a b s h' ∧ Only a b h h' := by
  obtain ⟨la, lb⟩ := A.la
  have ne : t ≠ .nil := fun e => by rw [e] at hx; simp [Tr.row] at hx
  have hy := h0 _ (rt_mem ne)
  have hxx := h0 _ hx
  obtain ⟨L, i, e1, e2, e3, e4, e5, e6⟩ := index_up (md := md) (s4 := (Value.int .i64 0)) (l0 := l0) (hh := h) (a := a) (b := b) hR hm hro hr la lb t 0 (.inl rfl) I hn h0 hz hx
  have hL0 : ∀ y ∈ L.row, Nix V S y := fun y hy => h0 y (e3 y hy)
  obtain ⟨g1, f1, A1, o1⟩ := tget3 (md := ⟨md.ro, h.length⟩) hR (A.app [Blk.own [(Value.int .i64 V), (Value.int .i64 S), (Value.int .i64 T), ifA a, (Value.int .i64 1), (Value.int .i64 0)]]) hro hxx (by rw [e1]; exact ch_small hR (rt_ch hL0))
  rw [e1] at f1
  have t1 := tv6 (tvB (V := V) (S := S) (T := T) la lb o1)
  obtain ⟨oL, kL, sL⟩ := smok_tr (vx := vxB V) hm L (by omega)
  obtain ⟨g2, f2, A2, o2'⟩ := tsize (md := ⟨md.ro, h.length⟩) hR A1 hro (rt_ch hL0) kL ((sum_of e2.body fun z hz => (hL0 z hz).1).trans sL)
  have o2 := o1.trans o2'
  obtain ⟨g3, f3, A3, o3⟩ := e6 g2 o2 A2
  have t3 := tv6 (tvB (V := V) (S := S) (T := T) la lb o3)
  have ll3 := lkeep o3
  have ep := I.par ne
  obtain ⟨g, f, A4, o4'⟩ := tparent (md := ⟨md.ro, h.length⟩) hR A3 hro (by show md.ro ≤ g3.length; omega) hy (by rw [ep]; omega)
  rw [ep] at f
  have o4 := o3.trans o4'
  refine ⟨i, g.take h.length, e5, ?_, A4.take la lb, o4.take⟩
  have z : ((0 : Int) == 0) = true := rfl
  rw [C, call_eq, F22_eq]
  unfold F22
  simp only [go_sem, Nat.reduceAdd, Nat.reduceLeDiff, Nat.reduceMul, Int.reduceBEq, Int.reduceBNe, Int.reduceLT, Int.reduceLE, Int.reduceGT, f1, t1, f2, cLE_t]
  rw [f3, J22_0_step]
  unfold Jr22_0
  simp only [go_sem, Nat.reduceAdd, Nat.reduceLeDiff, Nat.reduceMul, Int.reduceBEq, Int.reduceBNe, Int.reduceLT, Int.reduceLE, Int.reduceGT, t3, f, z, Jk22_0]
/-! ### The first marked one -/
def firstM (mk : Int → Nat) (m : Nat) : List Int → Int
  | [] => 0
  | x :: xs => bif bitB (mk x) m then x else firstM mk m xs
theorem bit_or (x y m : Nat) : bitB (x ||| y) m = (bitB x m || bitB y m) := by
  have e : ∀ z, bitB z m = z.testBit m := fun z => by unfold bitB; rw [Nat.testBit_eq_decide_div_mod_eq]
  rw [e, e, e, Nat.testBit_or]
theorem bit_0 (m : Nat) : bitB 0 m = false := by unfold bitB; simp
theorem firstM_app (mk : Int → Nat) (m : Nat) (l r : List Int) (h : ∀ y ∈ l, bitB (mk y) m = false) : firstM mk m (l ++ r) = firstM mk m r := by
  induction l with
  | nil => rfl
  | cons x l ih =>
    rw [List.cons_append, firstM, h x (by simp)]
    exact ih fun y hy => h y (by simp [hy])
theorem firstM_l (mk : Int → Nat) (m : Nat) (l r : List Int) (h : ∃ y ∈ l, bitB (mk y) m = true) : firstM mk m (l ++ r) = firstM mk m l := by
  induction l with
  | nil => obtain ⟨y, hy, _⟩ := h; simp at hy
  | cons x l ih =>
    rw [List.cons_append, firstM, firstM]
    cases hx : bitB (mk x) m
    · refine ih ?_
      obtain ⟨y, hy, e⟩ := h
      rcases List.mem_cons.1 hy with rfl | hy
      · rw [hx] at e; cases e
      · exact ⟨y, hy, e⟩
    · rfl
theorem am_bit (mk : Int → Nat) (m : Nat) (t : Tr) : bitB (t.am mk) m = true ↔ ∃ y ∈ t.row, bitB (mk y) m = true := by
  induction t with
  | nil => simp [Tr.am, Tr.row, bit_0]
  | nd l x r hl hr =>
    rw [Tr.am, bit_or, bit_or]
    simp only [Bool.or_eq_true, hl, hr, Tr.row, List.mem_append, List.mem_cons]
    constructor
    · rintro ((h | ⟨y, hy, h⟩) | ⟨y, hy, h⟩)
      · exact ⟨x, .inr (.inl rfl), h⟩
      · exact ⟨y, .inl hy, h⟩
      · exact ⟨y, .inr (.inr hy), h⟩
    · rintro ⟨y, (hy | rfl | hy), h⟩
      · exact .inl (.inr ⟨y, hy, h⟩)
      · exact .inl (.inl h)
      · exact .inr ⟨y, hy, h⟩
theorem first_down {s6 : Value} (hR : Rt V S T) (hm : ∀ y, mk y < 4) (hro : md.ro ≤ a) (hr : md.ro ≤ hh.length) (la : a < hh.length) (lb : b < hh.length) {m : Nat} (h2 : m < 2) : ∀ (t : Tr) (k : Heap), IsB mk (vxB V) s t → (∀ y ∈ t.row, Nix V S y) → t.sz < 60000 → bitB (t.am mk) m = true → Only a b (hh ++ [Blk.own [(Value.int .i64 V), (Value.int .i64 S), (Value.int .i64 T), ifA a, (Value.int .i64 1), (Value.int .i64 0)]]) k → TH V S T l0 a b s k →
    ∃ k', J26_0 C ⟨md.ro, hh.length⟩ hh ((Value.int .i64 ((m : Int)))) ((Value.pointer (some ⟨hh.length, 0, none⟩))) s6 ((Value.int .i64 t.rt)) k = some ((Value.int .i64 (firstM mk m t.row)), k'.take hh.length) ∧ TH V S T l0 a b s k' ∧ Only a b (hh ++ [Blk.own [(Value.int .i64 V), (Value.int .i64 S), (Value.int .i64 T), ifA a, (Value.int .i64 1), (Value.int .i64 0)]]) k' := by
  intro t
  induction t with
  | nil => intro k _ _ _ h; rw [Tr.am, bit_0] at h; cases h
  | nd l x r ihl ihr =>
    intro k B h0 hz hb o A
    obtain ⟨b1, b2, b3, b4, b5⟩ := B
    have hx := h0 x (by simp [Tr.row])
    have h0l : ∀ z ∈ l.row, Nix V S z := fun z hz => h0 z (by simp [Tr.row, hz])
    have h0r : ∀ z ∈ r.row, Nix V S z := fun z hz => h0 z (by simp [Tr.row, hz])
    simp only [Tr.sz] at hz
    have t0 := tv6 (tvB (V := V) (S := S) (T := T) la lb o)
    have n0 := l.nv_le (vxB V)
    have n1 := r.nv_le (vxB V)
    obtain ⟨g1, f1, A1, o1'⟩ := tget3 (md := ⟨md.ro, hh.length⟩) hR A hro hx (by rw [b1]; exact ch_small hR (rt_ch h0l))
    rw [b1] at f1
    have o1 := o.trans o1'
    have t1 := tv6 (tvB (V := V) (S := S) (T := T) la lb o1)
    obtain ⟨ol, kl, sl⟩ := smok_tr (vx := vxB V) hm l (by omega)
    obtain ⟨g2, f2, A2, o2'⟩ := thas (md := ⟨md.ro, hh.length⟩) hR A1 hro (rt_ch h0l) kl ((sum_of b4.body fun z hz => (h0l z hz).1).trans sl) h2
    have o2 := o1.trans o2'
    have t2 := tv6 (tvB (V := V) (S := S) (T := T) la lb o2)
    rw [rt_nd]
    cases hl : bitB (l.am mk) m
    · have no : ∀ y ∈ l.row, bitB (mk y) m = false := fun y hy => by
        cases hq : bitB (mk y) m
        · rfl
        · rw [(am_bit mk m l).2 ⟨y, hy, hq⟩] at hl; cases hl
      have er : firstM mk m (Tr.nd l x r).row = bif bitB (mk x) m then x else firstM mk m r.row := by
        show firstM mk m (l.row ++ x :: r.row) = _
        rw [firstM_app _ _ _ _ no]; rfl
      rw [hl] at f2
      obtain ⟨g3, f3, A3, o3'⟩ := tMarked (md := ⟨md.ro, hh.length⟩) hR A2 hro (.inr hx) (sz := l.sz + r.sz + 1) (nv := l.nv (vxB V) + r.nv (vxB V) + (bif vxB V x then 1 else 0)) (own := mk x) (all := (mk x ||| l.am mk) ||| r.am mk) ⟨by omega, by cases vxB V x <;> simp <;> omega, hm x, Nat.or_lt_two_pow (n := 2) (Nat.or_lt_two_pow (n := 2) (hm x) (l.am_lt hm)) (r.am_lt hm)⟩ (by unfold sumV; rw [if_neg (by omega), b3]; rfl) h2
      have o3 := o2.trans o3'
      have t3 := tv6 (tvB (V := V) (S := S) (T := T) la lb o3)
      cases hxm : bitB (mk x) m
      · rw [hxm] at f3 er
        obtain ⟨g4, f4, A4, o4'⟩ := tget4 (md := ⟨md.ro, hh.length⟩) hR A3 hro hx (by rw [b2]; exact ch_small hR (rt_ch h0r))
        rw [b2] at f4
        have hbr : bitB (r.am mk) m = true := by
          rw [Tr.am, bit_or, bit_or, hxm, hl] at hb
          simpa using hb
        obtain ⟨k', e, A5, o5⟩ := ihr g4 b5.body h0r (by omega) hbr (o3.trans o4') A4
        refine ⟨k', ?_, A5, o5⟩
        rw [er, J26_0_step]
        unfold Jr26_0
        simp only [go_sem, Nat.reduceAdd, Nat.reduceLeDiff, Nat.reduceMul, Int.reduceBEq, Int.reduceBNe, Int.reduceLT, Int.reduceLE, Int.reduceGT, t0, f1, t1, f2, t2, f3, t3, f4]
        exact e
      · rw [hxm] at f3 er
        refine ⟨g3, ?_, A3, o3⟩
        rw [er, J26_0_step]
        unfold Jr26_0
        simp only [go_sem, Nat.reduceAdd, Nat.reduceLeDiff, Nat.reduceMul, Int.reduceBEq, Int.reduceBNe, Int.reduceLT, Int.reduceLE, Int.reduceGT, t0, f1, t1, f2, t2, f3, Jk26_0]
    · rw [hl] at f2
      have er : firstM mk m (Tr.nd l x r).row = firstM mk m l.row := firstM_l _ _ _ _ ((am_bit mk m l).1 hl)
      obtain ⟨k', e, A5, o5⟩ := ihl g2 b4.body h0l (by omega) hl o2 A2
      refine ⟨k', ?_, A5, o5⟩
      rw [er, J26_0_step]
      unfold Jr26_0
      simp only [go_sem, Nat.reduceAdd, Nat.reduceLeDiff, Nat.reduceMul, Int.reduceBEq, Int.reduceBNe, Int.reduceLT, Int.reduceLE, Int.reduceGT, t0, f1, t1, f2]
      exact e
theorem firstM_no {m : Nat} {l : List Int} (h : ∀ y ∈ l, bitB (mk y) m = false) : firstM mk m l = 0 := by
  have := firstM_app mk m l [] h
  rw [List.append_nil] at this
  exact this
theorem tFirst (hR : Rt V S T) (hm : ∀ y, mk y < 4) {t : Tr} (A : TH V S T l0 a b s h) (hro : md.ro ≤ a) (hr : md.ro ≤ h.length) (I : IsB mk (vxB V) s t) (h0 : ∀ y ∈ t.row, Nix V S y) (hz : t.sz < 60000) {m : Nat} (h2 : m < 2) :
    ∃ h', C md 26 [(Value.agg #[(Value.int .i64 V), (Value.int .i64 S), (Value.int .i64 T), ifA a, (Value.int .i64 1), (Value.int .i64 0)]), (Value.int .i64 t.rt), (Value.int .i64 ((m : Int)))] h = some ((Value.int .i64 (firstM mk m t.row)), h') ∧ TH V S T l0 a b s h' ∧ Only a b h h' := by
  obtain ⟨la, lb⟩ := A.la
  obtain ⟨ol, kl, sl⟩ := smok_tr (vx := vxB V) hm t (by omega)
  obtain ⟨g1, f1, A1, o1⟩ := thas (md := ⟨md.ro, h.length⟩) hR (A.app [Blk.own [(Value.int .i64 V), (Value.int .i64 S), (Value.int .i64 T), ifA a, (Value.int .i64 1), (Value.int .i64 0)]]) hro (rt_ch h0) kl ((sum_of I fun z hz => (h0 z hz).1).trans sl) h2
  cases hb : bitB (t.am mk) m
  · rw [hb] at f1
    have no : ∀ y ∈ t.row, bitB (mk y) m = false := fun y hy => by
      cases hq : bitB (mk y) m
      · rfl
      · rw [(am_bit mk m t).2 ⟨y, hy, hq⟩] at hb; cases hb
    refine ⟨g1.take h.length, ?_, A1.take la lb, o1.take⟩
    rw [firstM_no no, C, call_eq, F26_eq]
    unfold F26
    simp only [go_sem, Nat.reduceAdd, Nat.reduceLeDiff, Nat.reduceMul, Int.reduceBEq, Int.reduceBNe, Int.reduceLT, Int.reduceLE, Int.reduceGT, f1]
  · rw [hb] at f1
    obtain ⟨k', e, A2, o2⟩ := first_down (md := md) (s6 := (Value.int .i64 0)) hR hm hro hr la lb h2 t g1 I h0 hz hb o1 A1
    refine ⟨k'.take h.length, ?_, A2.take la lb, o2.take⟩
    rw [C, call_eq, F26_eq]
    unfold F26
    simp only [go_sem, Nat.reduceAdd, Nat.reduceLeDiff, Nat.reduceMul, Int.reduceBEq, Int.reduceBNe, Int.reduceLT, Int.reduceLE, Int.reduceGT, f1]
    exact e
end Go.Det.E

/- Trees in memory: a tree's row. -/
namespace Go.Det.E
open Go.Proofs Go.Det Go.Det.U
attribute [local congr] bind_c cond_c
variable {md : Md} {h hh : Heap} {a b : Nat} {V S T x v p f : Int} {l c : List Int} {l0 : Int → Int} {s s' : NS} {sz nv own all : Nat} {mk mk' : Int → Nat} {vx : Int → Bool}
theorem SlO.heap2 {ε : Type} {enc : ε → List Value} {n0 n1 sz : Nat} {v : Value} {xs : List ε} (S : SlO h n0 sz enc v xs) (e : n0 ≤ slB v → hh[slB v]? = h[slB v]?) (hn : n1 ≤ n0) : SlO hh n1 sz enc v xs := by
  rcases S.own with q | ⟨h1, cs, h2⟩
  · have := S.sl
    rcases this.is with ⟨e1, e2⟩ | ⟨_, _, _, e2, _⟩
    · rw [e1, e2]; exact SlO.nil _ _ this.he
    · rw [q] at e2; cases e2
  · exact ⟨S.sl.heap fun _ => e h1, .inr ⟨by omega, cs, (e h1).trans h2⟩⟩
theorem tList (hR : Rt V S T) : ∀ (t : Tr) (h : Heap), TH V S T l0 a b s h → md.ro ≤ a → md.ro ≤ b → md.ro ≤ h.length → IsB mk (vxB V) s t → (∀ y ∈ t.row, Nix V S y) → t.sz < 60000 →
    ∃ v h', C md 20 [(Value.agg #[(Value.int .i64 V), (Value.int .i64 S), (Value.int .i64 T), ifA a, (Value.int .i64 1), (Value.int .i64 0)]), (Value.int .i64 t.rt)] h = some (v, h') ∧ SlO h' h.length 1 eZ v t.row ∧ TH V S T l0 a b s h' ∧ h.length ≤ h'.length ∧ ∀ y, y < h.length → y ≠ a → y ≠ b → h'[y]? = h[y]? := by
  intro t
  induction t with
  | nil =>
    intro h A hro hrb hr B h0 hz
    refine ⟨.slice none 0 0, h ++ [Blk.own [(Value.int .i64 V), (Value.int .i64 S), (Value.int .i64 T), ifA a, (Value.int .i64 1), (Value.int .i64 0)]], ?_, SlO.nil _ _ eZ_len, A.app _, by simp, fun y hy _ _ => List.getElem?_append_left hy⟩
    rw [C, call_eq, F20_eq]
    unfold F20
    simp only [rt_0]
    simp only [go_sem, Nat.reduceAdd, Nat.reduceLeDiff, Nat.reduceMul, Int.reduceBEq, Int.reduceBNe, Int.reduceLT, Int.reduceLE, Int.reduceGT]
  | nd l x r ihl ihr =>
    intro h A hro hrb hr B h0 hz
    obtain ⟨la, lb⟩ := A.la
    obtain ⟨b1, b2, b3, b4, b5⟩ := B
    have hx := h0 x (by simp [Tr.row])
    have hx' := nix_small hR hx
    have x0 : (x == 0) = false := by rw [beq_eq_false_iff_ne]; omega
    have h0l : ∀ z ∈ l.row, Nix V S z := fun z hz => h0 z (by simp [Tr.row, hz])
    have h0r : ∀ z ∈ r.row, Nix V S z := fun z hz => h0 z (by simp [Tr.row, hz])
    simp only [Tr.sz] at hz
    have sll := l.row_len
    have slr := r.row_len
    have lh1 : (h ++ [Blk.own [(Value.int .i64 V), (Value.int .i64 S), (Value.int .i64 T), ifA a, (Value.int .i64 1), (Value.int .i64 0)]]).length = h.length + 1 := by simp
    obtain ⟨g1, f1, A1, o1⟩ := tget3 (md := md) hR (A.app [Blk.own [(Value.int .i64 V), (Value.int .i64 S), (Value.int .i64 T), ifA a, (Value.int .i64 1), (Value.int .i64 0)]]) hro hx (by rw [b1]; exact ch_small hR (rt_ch h0l))
    rw [b1] at f1
    have B1 := tvB (V := V) (S := S) (T := T) la lb o1
    have t1 := tv6 B1
    have l1 := o1.len
    obtain ⟨v7, g2, f2, S2, A2, l2, o2⟩ := ihl g1 A1 hro hrb (by omega) b4.body h0l (by omega)
    have B2 : g2[h.length]? = some (.own [(Value.int .i64 V), (Value.int .i64 S), (Value.int .i64 T), ifA a, (Value.int .i64 1), (Value.int .i64 0)]) := (o2 _ (by omega) (by omega) (by omega)).trans B1
    have t2 := tv6 B2
    have B2' : (g2 ++ [Blk.own [(Value.int .i64 x)]])[h.length]? = some (.own [(Value.int .i64 V), (Value.int .i64 S), (Value.int .i64 T), ifA a, (Value.int .i64 1), (Value.int .i64 0)]) := by rw [List.getElem?_append_left (by omega)]; exact B2
    have t2' := tv6 B2'
    obtain ⟨v10, g3, f3, S3, l3, o3⟩ := append_own2 (md := md) (ys := [x]) tInt9 S2 (by omega) l2 (cs := [(Value.int .i64 x)]) (by simp [flat]) (by simp) rfl (by simp; omega)
    simp only [List.length_cons, List.length_nil, Nat.zero_add] at f3
    have k3 : ∀ y, y < g1.length → g3[y]? = g2[y]? := fun y hy => o3 y (by omega) (S2.own.imp id fun q => by omega)
    have A3 := A2.old (k3 a (by omega)) (k3 b (by omega))
    have B3 : g3[h.length]? = some (.own [(Value.int .i64 V), (Value.int .i64 S), (Value.int .i64 T), ifA a, (Value.int .i64 1), (Value.int .i64 0)]) := (k3 _ (by omega)).trans B2
    have t3 := tv6 B3
    obtain ⟨g4, f4, A4, o4⟩ := tget4 (md := md) hR A3 hro hx (by rw [b2]; exact ch_small hR (rt_ch h0r))
    rw [b2] at f4
    have l4 := o4.len
    have B4 : g4[h.length]? = some (.own [(Value.int .i64 V), (Value.int .i64 S), (Value.int .i64 T), ifA a, (Value.int .i64 1), (Value.int .i64 0)]) := (o4.oth _ (by omega) (by omega)).trans B3
    have t4 := tv6 B4
    obtain ⟨v17, g5, f5, S5, A5, l5, o5⟩ := ihr g4 A4 hro hrb (by omega) b5.body h0r (by omega)
    have lt3 := S3.sl.lt (by simp)
    have S3' : SlO g5 h.length 1 eZ v10 (l.row ++ [x]) := SlO.heap2 S3 (fun hb => by rw [o5 _ (by omega) (by omega) (by omega), o4.oth _ (by omega) (by omega)]) (by omega)
    obtain ⟨v19, g6, f6, S6, O6⟩ := append_sl (md := md) tInt9 S3' S5.sl hr (by omega) (fun x => rfl) (by simp; omega)
    have l6 := O6.len
    refine ⟨v19, g6, ?_, by simpa [Tr.row] using S6, A5.old (O6.old _ la) (O6.old _ lb), by omega, fun y hy h1 h2 => ?_⟩
    · rw [C, call_eq, F20_eq]
      unfold F20
      simp only [rt_nd]
      simp only [go_sem, Nat.reduceAdd, Nat.reduceLeDiff, Nat.reduceMul, Int.reduceBEq, Int.reduceBNe, Int.reduceLT, Int.reduceLE, Int.reduceGT, x0, f1, t1, f2, t2, t2', cLE_t, f3, t3, f4, t4, f5, f6]
    · rw [O6.old y hy, o5 y (by omega) h1 h2, o4.oth y h1 h2, k3 y (by omega), o2 y (by omega) h1 h2, o1.oth y h1 h2, List.getElem?_append_left hy]
end Go.Det.E
