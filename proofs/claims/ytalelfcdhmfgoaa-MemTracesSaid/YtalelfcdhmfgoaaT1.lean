/- Memory that is reckoned with: a row of accesses, replayed. -/
import Derived.Test.YtalelfcdhmfgoaaM3
import Derived.Test.YtalelfcdhmfgoaaE4
import Derived.Test.YtalelfcdhmfgoaaN1
import Derived.Test.YtalelfcdhmfgoaaDetS
set_option autoImplicit false
set_option linter.unusedVariables false
set_option linter.unusedSimpArgs false
namespace Go.Det.E
open Go.Proofs Go.Det
attribute [local congr] bind_c cond_c
/-- An access. -/
structure Acc where
  s : Bool
  i : Int
  v : Int
abbrev encX (x : Acc) : List Value := [(Value.bool x.s), (Value.int .i64 x.i), (Value.int .u64 x.v)]
theorem encX_len (x : Acc) : (encX x).length = 3 := rfl
theorem encX_cell (x : Acc) : (encX x).all isCell = true := rfl
abbrev encU (x : Int) : List Value := [(Value.int .u64 x)]
theorem encU_len (x : Int) : (encU x).length = 1 := rfl
theorem encU_cell (x : Int) : (encU x).all isCell = true := rfl
theorem flatU (ys : List Int) : flat encU ys = ys.map (.int .u64) := by
  induction ys with
  | nil => rfl
  | cons y ys ih => rw [flat_cons, ih]; rfl
theorem arg_words {h : Heap} {v : Value} (x : TyArg Try.prog h 22 v) : ∃ ws : List Int, Sl h 1 encU v ws ∧ Wd ws ∧ ws.length ≤ maxLen := by
  rcases inSl (arg1 (c := .sl [.i .u64]) (by kernel_rfl) (by kernel_rfl) x : TyS h (.sl [.i .u64]) _) with e | ⟨b, ess, e, hb', hl, he⟩
  · rw [e]; exact ⟨[], Sl.nil _ encU_len, fun _ h => by simp at h, Nat.zero_le _⟩
  · obtain ⟨vs, rfl, e2, hv⟩ := elems1 he
    have : ∃ ws : List Int, vs = ws.map (.int .u64) ∧ Wd ws := by
      clear e hb' hl e2 he
      induction vs with
      | nil => exact ⟨[], rfl, fun _ h => by simp at h⟩
      | cons y ys ih =>
        obtain ⟨n, rfl, hn⟩ := inU64 (hv y (by simp))
        obtain ⟨ws, rfl, w⟩ := ih (fun z hz => hv z (by simp [hz]))
        refine ⟨n :: ws, rfl, fun q hq => ?_⟩
        rcases List.mem_cons.1 hq with rfl | hq
        · exact hn
        · exact w q hq
    obtain ⟨ws, rfl, w⟩ := this
    rw [e]
    refine ⟨ws, Sl.whole encU_len hb' ?_ (by simp), w, by simpa using hl⟩
    simp only [Blk.cells, e2]
    exact (flatU ws).symm
theorem acc_of {h : Heap} {ess : List (List Value)} (a : TyE h [.b, .i .i64, .i .u64] ess) : ∃ row : List Acc, ess = row.map encX ∧ ∀ x ∈ row, 0 ≤ x.v ∧ x.v < 18446744073709551616 := by
  induction ess with
  | nil => exact ⟨[], rfl, fun _ h => by simp at h⟩
  | cons es ess ih =>
    cases a with
    | cons _ _ _ b h2 =>
      obtain ⟨v1, r, rfl, a1, b⟩ := l_cons b
      obtain ⟨v2, r, rfl, a2, b⟩ := l_cons b
      obtain ⟨v3, r, rfl, a3, b⟩ := l_cons b
      obtain rfl := l_nil b
      obtain ⟨x1, rfl⟩ := inB a1
      obtain ⟨x2, rfl, _⟩ := inI64 a2
      obtain ⟨x3, rfl, h3⟩ := inU64 a3
      obtain ⟨row, e, hr⟩ := ih h2
      refine ⟨⟨x1, x2, x3⟩ :: row, by rw [e]; rfl, fun q hq => ?_⟩
      rcases List.mem_cons.1 hq with rfl | hq
      · exact h3
      · exact hr q hq
theorem arg_accs {h : Heap} {t : TypeId} (ht : shapesOf Try.prog 8 t = some [.sl [.b, .i .i64, .i .u64]]) (hu : (Try.prog.underlying t).all (fun d => !isAggD d) = true) {v : Value} (a : TyArg Try.prog h t v) : ∃ row : List Acc, Sl h 3 encX v row ∧ (∀ x ∈ row, 0 ≤ x.v ∧ x.v < 18446744073709551616) ∧ row.length ≤ maxLen := by
  have a' : TyS h (.sl [.b, .i .i64, .i .u64]) v := arg1 ht hu a
  rcases inSl a' with rfl | ⟨b, ess, rfl, hb, hl, he⟩
  · exact ⟨[], Sl.nil _ encX_len, fun _ h => by simp at h, Nat.zero_le _⟩
  · obtain ⟨row, rfl, hr⟩ := acc_of he
    exact ⟨row, Sl.whole encX_len hb rfl (by simp), hr, by simpa using hl⟩
variable {md : Md} {h hh h' : Heap} {a b k : Nat} {l c cells : List Int} {v rv : Value} {row : List Acc}
theorem Sl.uread {v : Value} (S : Sl h 1 encU v cells) {k : Nat} {x : Int} (hx : cells[k]? = some x) :
    (∀ {α : Type} (kk : Value → Option α), ixS 1 v (k : Int) kk = kk ((Value.pointer (some ⟨slB v, slO v + k, none⟩)))) ∧ rd h (slB v) (slO v + k) = some ((Value.int .u64 x)) := by
  have h1 : k < cells.length := (List.getElem?_eq_some_iff.1 hx).1
  refine ⟨fun kk => ?_, ?_⟩
  · rw [S.ix (by omega) (by omega) kk, Nat.mul_one]; rfl
  · have := S.cell hx (j := 0) (by decide)
    rw [Nat.mul_one, Nat.add_zero] at this
    exact this
theorem fill_set (cells : List Int) {k : Nat} {x : Int} (hx : cells[k]? = some x) : putI (cells.take k ++ List.replicate (cells.length - k) 0) (k : Int) x = cells.take (k + 1) ++ List.replicate (cells.length - (k + 1)) 0 := by
  have h1 : k < cells.length := (List.getElem?_eq_some_iff.1 hx).1
  rw [putI_in ⟨by omega, by simp; omega⟩, List.take_add_one, hx]
  have e : cells.length - k = (cells.length - (k + 1)) + 1 := by omega
  rw [e, List.replicate_succ]
  have ht : (cells.take k).length = k := by simp; omega
  rw [show ((k : Int)).toNat = k from by simp, List.set_append_right _ _ (by omega), ht, Nat.sub_self, List.set_cons_zero]
  simp
theorem begun_loop {h0 : Heap} {s2 : Value} (SV : ∀ hx : Heap, (∀ y, y < h0.length → hx[y]? = h0[y]?) → Sl hx 1 encU v cells) (hlen : cells.length ≤ 60) (la : h0.length ≤ a) (lb : h0.length ≤ b) (hra : md.ro ≤ a) (hrb : md.ro ≤ b) : ∀ (m k : Nat) (hh : Heap) (c : List Int), k + m = cells.length →
    Ar hh a b (cells.take k ++ List.replicate (cells.length - k) 0) c → (∀ y, y < h0.length → hh[y]? = h0[y]?) →
    ∃ h' c', J5_0 C md h s2 ((Value.pointer (some ⟨a, 0, none⟩))) v ((Value.int .i64 ((cells.length : Int)))) ((Value.int .i64 ((k : Int)))) hh = some ((Value.pointer (some ⟨a, 0, none⟩)), h') ∧ Ar h' a b cells c' ∧ (∀ y, y < h0.length → h'[y]? = h0[y]?) ∧ h'.length = hh.length := by
  intro m
  induction m with
  | zero =>
    intro k hh c hk A O
    obtain rfl : k = cells.length := by omega
    refine ⟨hh, c, ?_, by simpa using A, O, rfl⟩
    rw [J5_0_step]
    unfold Jr5_0
    simp only [go_sem, Nat.reduceAdd, Nat.reduceLeDiff, Nat.reduceMul, Int.reduceBEq, Int.reduceBNe, Int.reduceLT, Int.reduceLE, Int.reduceGT, aBin_lss, Int.lt_irrefl, Jk5_0]
  | succ m ih =>
    intro k hh c hk A O
    have hlt : (k : Int) < (cells.length : Int) := by omega
    obtain ⟨x, hx⟩ : ∃ x, cells[k]? = some x := ⟨cells[k]'(by omega), List.getElem?_eq_getElem (by omega)⟩
    obtain ⟨ix, r⟩ := Sl.uread (SV hh O) hx
    have w : IntKind.wrap .i64 ((k : Int) + 1) = ((k + 1 : Nat) : Int) := by rw [wi (by omega) (by omega)]; rfl
    obtain ⟨h2, e2, A2, o2⟩ := st_x (md := md) A hra hrb (k : Int) x
    have er : erR (cells.take k ++ List.replicate (cells.length - k) 0) (k : Int) = 0 := by
      unfold erR; rw [if_pos]; exact ⟨by omega, by simp; omega⟩
    rw [er] at e2
    rw [fill_set cells hx] at A2
    obtain ⟨h', c', e', A', O', l'⟩ := ih (k + 1) h2 _ (by omega) A2 (fun y hy => (o2.oth y (by omega) (by omega)).trans (O y hy))
    refine ⟨h', c', ?_, A', O', l'.trans o2.len⟩
    rw [J5_0_step]
    unfold Jr5_0
    simp only [go_sem, Nat.reduceAdd, Nat.reduceLeDiff, Nat.reduceMul, Int.reduceBEq, Int.reduceBNe, Int.reduceLT, Int.reduceLE, Int.reduceGT, aBin_lss, hlt, ix, r, e2, bne_self_eq_false, aBin_add, w]
    exact e'
/-- An arena with these numbers. -/
theorem begun06 (md : Md) (hr : md.ro ≤ h.length) (SV : Sl h 1 encU v cells) (hlen : cells.length ≤ 60) :
    ∃ h' a b c, C md 5 [v] h = some ((Value.pointer (some ⟨a, 0, none⟩)), h') ∧ Ar h' a b cells c ∧ Old h.length h h' ∧ h.length ≤ a ∧ h.length ≤ b := by
  have len := fun {α : Type} (k : Value → Option α) => SV.len k
  obtain ⟨h1, a, b, e1, A1, O1, la, lb⟩ := new_e md h (n := (cells.length : Int)) (by omega) (by omega)
  have sv : ∀ hx : Heap, (∀ y, y < h.length → hx[y]? = h[y]?) → Sl hx 1 encU v cells := fun hx f => SV.heap fun hl => f _ hl
  obtain ⟨h', c', e', A', O', l'⟩ := begun_loop (md := md) (h := h) (h0 := h) (s2 := .pointer none) sv hlen la lb (by omega) (by omega) cells.length 0 h1 _ (by omega) (by simpa using A1) O1.old
  refine ⟨h', a, b, c', ?_, A', ⟨by rw [l']; exact O1.len, O'⟩, la, lb⟩
  rw [C, call_eq, F5_eq]
  unfold F5
  simp only [go_sem, Nat.reduceAdd, Nat.reduceLeDiff, Nat.reduceMul, Int.reduceBEq, Int.reduceBNe, Int.reduceLT, Int.reduceLE, Int.reduceGT, len, e1, bne_self_eq_false, aBin_eqlP uPa]
  exact e'
/-- What a row's replay does: the cells then, how many accesses were as they should, and were all? -/
def rp : List Int → List Acc → List Int × Nat × Bool
  | l, [] => (l, 0, true)
  | l, x :: xs => if x.s = true then ((rp (putI l x.i x.v) xs).1, (rp (putI l x.i x.v) xs).2.1 + 1, (rp (putI l x.i x.v) xs).2.2)
      else if getI l x.i = x.v then ((rp l xs).1, (rp l xs).2.1 + 1, (rp l xs).2.2) else (l, 0, false)
theorem rp_len : ∀ (xs : List Acc) (l : List Int), (rp l xs).1.length = l.length := by
  intro xs
  induction xs with
  | nil => intro l; rfl
  | cons x xs ih =>
    intro l
    rw [rp]
    split
    · simp only [ih, putI_len]
    · split
      · simp only [ih]
      · rfl
theorem rp_le : ∀ (xs : List Acc) (l : List Int), (rp l xs).2.1 ≤ xs.length ∧ ((rp l xs).2.2 = true ↔ (rp l xs).2.1 = xs.length) := by
  intro xs
  induction xs with
  | nil => intro l; exact ⟨Nat.le_refl _, by simp [rp]⟩
  | cons x xs ih =>
    intro l
    rw [rp]
    split
    · have := ih (putI l x.i x.v)
      simp only [List.length_cons]
      exact ⟨by omega, by rw [this.2]; omega⟩
    · split
      · have := ih l
        simp only [List.length_cons]
        exact ⟨by omega, by rw [this.2]; omega⟩
      · simp
theorem replay_loop (SV : ∀ hx : Heap, OG a b h hx → Sl hx 3 encX rv row) (hlen : row.length ≤ 1000) (la : a < h.length) (lb : b < h.length) (hra : md.ro ≤ a) (hrb : md.ro ≤ b) (hro : md.ro ≤ h.length) (hlim : md.lim ≤ h.length) : ∀ (m k : Nat) (hh : Heap) (l c : List Int), k + m = row.length → Ar hh a b l c → OG a b h hh →
    ∃ h' c', J15_0 C md h (ifA a) rv ((Value.int .i64 0)) ((Value.bool false)) rv ((Value.int .i64 ((row.length : Int)))) ((Value.int .i64 ((k : Int)))) hh = some ((Value.tuple #[(Value.int .i64 (((k + (rp l (row.drop k)).2.1 : Nat) : Int))), (Value.bool ((rp l (row.drop k)).2.2))]), h') ∧ Ar h' a b (rp l (row.drop k)).1 c' ∧ Only a b h h' := by
  intro m
  induction m with
  | zero =>
    intro k hh l c hk A O
    obtain rfl : k = row.length := by omega
    have len := fun {α : Type} (kk : Value → Option α) => (SV hh O).len kk
    rw [List.drop_length]
    refine ⟨hh.take h.length, c, ?_, A.take la lb, O.done⟩
    rw [J15_0_step]
    unfold Jr15_0
    simp only [go_sem, Nat.reduceAdd, Nat.reduceLeDiff, Nat.reduceMul, Int.reduceBEq, Int.reduceBNe, Int.reduceLT, Int.reduceLE, Int.reduceGT, aBin_lss, Int.lt_irrefl, Jk15_0, J15_1, len, rp]
  | succ m ih =>
    intro k hh l c hk A O
    have hlt : (k : Int) < (row.length : Int) := by omega
    obtain ⟨x, hx⟩ : ∃ x, row[k]? = some x := ⟨row[k]'(by omega), List.getElem?_eq_getElem (by omega)⟩
    have S0 := SV hh O
    have ix := fun {α : Type} (kk : Value → Option α) => S0.ix (i := (k : Int)) (by omega) hlt kk
    have el := S0.elem hx
    have ol := O.len
    have hr1 : md.ro ≤ hh.length := by omega
    have hl1 : md.lim ≤ hh.length := by omega
    have A6 := A.app [Blk.own (encX x)]
    have O6 := O.app [Blk.own (encX x)]
    have st3 := fun (h' : Heap) (kk : Heap → Option (((Value × Value × Value × Value × Value × Value × Value) × Heap) ⊕ (Exit × (Value × Value × Value × Value × Value × Value × Value) × Heap))) => st_N md 3 hh.length 0 (encX x) h' kk rfl rfl
    have w : IntKind.wrap .i64 ((k : Int) + 1) = ((k + 1 : Nat) : Int) := by rw [wi (by omega) (by omega)]; rfl
    have dr : row.drop k = x :: row.drop (k + 1) := by
      obtain ⟨hk', rfl⟩ := List.getElem?_eq_some_iff.1 hx
      exact List.drop_eq_getElem_cons hk'
    rw [dr, rp]
    have lta := lt_of A.ha
    have ltb := lt_of A.hb
    cases hs : x.s
    · obtain ⟨h7, e7, A7, o7⟩ := pl_x (md := md) A6 hra x.i
      have b7 : h7[hh.length]? = some (.own (encX x)) := by rw [o7.oth _ (by omega) (by omega)]; simp
      simp only [encX, hs] at e7
      have r7 : rd h7 hh.length 2 = some ((Value.int .u64 x.v)) := by rw [rd_own b7]; rfl
      simp only [Bool.false_eq_true, if_false]
      by_cases hg : getI l x.i = x.v
      · rw [if_pos hg]
        obtain ⟨h', c', e', A', O'⟩ := ih (k + 1) h7 l _ (by omega) A7 (O6.only o7)
        refine ⟨h', c', ?_, A', O'⟩
        have hb : (getI l x.i != x.v) = false := by simp [hg]
        rw [J15_0_step]
        unfold Jr15_0
        simp only [go_sem, Nat.reduceAdd, Nat.reduceLeDiff, Nat.reduceMul, Int.reduceBEq, Int.reduceBNe, Int.reduceLT, Int.reduceLE, Int.reduceGT, aBin_lss, hlt, ix, el, st3, hr1, hl1, hs, clI_load, e7, r7, cLE_t, hb, aBin_add, w]
        rw [e', Nat.add_assoc, Nat.add_comm 1]
      · rw [if_neg hg]
        refine ⟨h7.take h.length, _, ?_, A7.take la lb, (O6.only o7).done⟩
        have hb : (getI l x.i != x.v) = true := by simp [hg]
        rw [J15_0_step]
        unfold Jr15_0
        simp only [go_sem, Nat.reduceAdd, Nat.reduceLeDiff, Nat.reduceMul, Int.reduceBEq, Int.reduceBNe, Int.reduceLT, Int.reduceLE, Int.reduceGT, aBin_lss, hlt, ix, el, st3, hr1, hl1, hs, clI_load, e7, r7, cLE_t, hb, Jk15_0]
    · obtain ⟨h7, e7, A7, o7⟩ := ps_x (md := md) A6 hra hrb x.i x.v
      simp only [encX, hs] at e7
      simp only [if_true]
      obtain ⟨h', c', e', A', O'⟩ := ih (k + 1) h7 _ _ (by omega) A7 (O6.only o7)
      refine ⟨h', c', ?_, A', O'⟩
      rw [J15_0_step]
      unfold Jr15_0
      simp only [go_sem, Nat.reduceAdd, Nat.reduceLeDiff, Nat.reduceMul, Int.reduceBEq, Int.reduceBNe, Int.reduceLT, Int.reduceLE, Int.reduceGT, aBin_lss, hlt, ix, el, st3, hr1, hl1, hs, clI_store, e7, aBin_add, w]
      rw [e', Nat.add_assoc, Nat.add_comm 1]
theorem replay_e (SV : ∀ hx : Heap, OG a b h hx → Sl hx 3 encX rv row) (hlen : row.length ≤ 1000) (A : Ar h a b l c) (hra : md.ro ≤ a) (hrb : md.ro ≤ b) (hro : md.ro ≤ h.length) :
    ∃ h' c', C md 15 [ifA a, rv] h = some ((Value.tuple #[(Value.int .i64 ((((rp l row).2.1 : Nat) : Int))), (Value.bool ((rp l row).2.2))]), h') ∧ Ar h' a b (rp l row).1 c' ∧ Only a b h h' := by
  have len := fun {α : Type} (kk : Value → Option α) => (SV h OG.refl).len kk
  obtain ⟨h', c', e', A', O'⟩ := replay_loop (md := ⟨md.ro, h.length⟩) SV hlen (lt_of A.ha) (lt_of A.hb) hra hrb hro (Nat.le_refl _) row.length 0 h l c (by omega) A OG.refl
  rw [List.drop_zero, Nat.zero_add] at e'
  rw [List.drop_zero] at A'
  refine ⟨h', c', ?_, A', O'⟩
  rw [C, call_eq, F15_eq]
  unfold F15
  simp only [go_sem, Nat.reduceAdd, Nat.reduceLeDiff, Nat.reduceMul, Int.reduceBEq, Int.reduceBNe, Int.reduceLT, Int.reduceLE, Int.reduceGT, len]
  exact e'
end Go.Det.E
