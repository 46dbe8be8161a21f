/- Parts of a graph: in order, each vertex in one of them, with those that it is joined with. -/
import Derived.Test.YtkbpnndheliokaaH7
set_option autoImplicit false
set_option linter.unusedVariables false
set_option linter.unusedSimpArgs false
namespace Go.Det.E
open Go.Proofs Go.Det
attribute [local congr] bind_c cond_c
variable {E : Nat → Nat → Bool} {n r : Nat} {nb : List Nat}
theorem compI_mem {x : Int} : x ∈ compI E n r ↔ ∃ w : Nat, x = w ∧ w < n ∧ Way E r w := by
  unfold compI compN
  rw [List.mem_map]
  constructor
  · rintro ⟨w, hw, rfl⟩
    rw [List.mem_filter, List.mem_range, wayB_t] at hw
    exact ⟨w, rfl, hw⟩
  · rintro ⟨w, rfl, h1, h2⟩
    exact ⟨w, by rw [List.mem_filter, List.mem_range, wayB_t]; exact ⟨h1, h2⟩, rfl⟩
theorem compI_has {v : Nat} (hv : v < n) : decide ((v : Int) ∈ compI E n r) = wayB E r v := by
  refine Bool.eq_iff_iff.2 ?_
  rw [decide_eq_true_iff, compI_mem, wayB_t]
  constructor
  · rintro ⟨w, e, _, h⟩
    have : w = v := by omega
    rw [← this]; exact h
  · intro h; exact ⟨v, rfl, hv, h⟩
theorem compI_sorted : (compI E n r).Pairwise (· < ·) := by
  unfold compI compN
  rw [List.pairwise_map]
  refine List.Pairwise.imp (fun h => ?_) ((List.pairwise_lt_range (n := n)).filter _)
  omega
theorem compI_head (hs : ∀ v w, E v w = true → E w v = true) (hr : r < n) (rep : isRep E r = true) : ∃ tl, compI E n r = (r : Int) :: tl := by
  have hm : (r : Int) ∈ compI E n r := compI_mem.2 ⟨r, rfl, hr, .here⟩
  have so := compI_sorted (E := E) (n := n) (r := r)
  cases hc : compI E n r with
  | nil => rw [hc] at hm; simp at hm
  | cons y tl =>
    rw [hc] at hm so
    have hy : y ∈ compI E n r := by rw [hc]; simp
    obtain ⟨w, rfl, hw, hway⟩ := compI_mem.1 hy
    refine ⟨tl, ?_⟩
    rcases List.mem_cons.1 hm with e | e
    · rw [e]
    · have := (List.pairwise_cons.1 so).1 _ e
      exact absurd (hway.symm hs) (isRep_t.1 rep w (by omega))
theorem compI_len : (compI E n r).length ≤ n := by
  unfold compI compN
  rw [List.length_map]
  exact Nat.le_trans (List.length_filter_le _ _) (by simp)
theorem compI_count {w : Nat} (hw : w < n) : (compI E n r).count (w : Int) = if wayB E r w then 1 else 0 := by
  have nd : (compI E n r).Nodup := compI_sorted.imp fun h => by omega
  rw [nd.count]
  have := compI_has (E := E) (n := n) (r := r) hw
  by_cases h : (w : Int) ∈ compI E n r
  · rw [if_pos h]; rw [decide_eq_true h] at this; rw [← this]; rfl
  · rw [if_neg h]; rw [decide_eq_false h] at this; rw [← this]; rfl
theorem reps_succ (k : Nat) : reps E (k + 1) = reps E k ++ if isRep E k then [k] else [] := by
  unfold reps
  rw [List.range_succ, List.filter_append]
  cases h : isRep E k <;> simp [h]
open Classical in
theorem reps_count (hs : ∀ v w, E v w = true → E w v = true) {w : Nat} (hw : w < n) : ∀ k, ((reps E k).flatMap (compI E n)).count (w : Int) = if ∃ x, x < k ∧ Way E x w then 1 else 0 := by
  intro k
  induction k with
  | zero => simp [reps]
  | succ k ih =>
    rw [reps_succ, List.flatMap_append, List.count_append, ih]
    cases hr : isRep E k
    · have : (∃ x, x < k + 1 ∧ Way E x w) ↔ ∃ x, x < k ∧ Way E x w := by
        constructor
        · rintro ⟨x, hx, h⟩
          by_cases e : x = k
          · subst e
            have : ¬ ∀ y, y < x → ¬ Way E y x := fun q => by rw [isRep_t.2 q] at hr; cases hr
            refine Classical.byContradiction fun q => this fun y hy hw => q ⟨y, hy, hw.trans h⟩
          · exact ⟨x, by omega, h⟩
        · rintro ⟨x, hx, h⟩; exact ⟨x, by omega, h⟩
      simp only [Bool.false_eq_true, if_false, List.flatMap_nil, List.count_nil, Nat.add_zero]
      by_cases q : ∃ x, x < k ∧ Way E x w
      · rw [if_pos q, if_pos (this.2 q)]
      · rw [if_neg q, if_neg fun z => q (this.1 z)]
    · simp only [if_true, List.flatMap_cons, List.flatMap_nil, List.append_nil, compI_count hw]
      by_cases q : ∃ x, x < k ∧ Way E x w
      · obtain ⟨x, hx, h⟩ := q
        have nk : wayB E k w = false := by
          cases hb : wayB E k w
          · rfl
          · exact absurd (h.trans ((wayB_t.1 hb).symm hs)) (isRep_t.1 hr x hx)
        simp only [nk, Bool.false_eq_true, if_false, Nat.add_zero]
        rw [if_pos ⟨x, hx, h⟩, if_pos ⟨x, by omega, h⟩]
      · rw [if_neg q]
        cases hb : wayB E k w
        · have : ¬ ∃ x, x < k + 1 ∧ Way E x w := by
            rintro ⟨x, hx, h⟩
            by_cases e : x = k
            · subst e; rw [wayB_t.2 h] at hb; cases hb
            · exact q ⟨x, by omega, h⟩
          simp only [Bool.false_eq_true, if_false, Nat.add_zero]
          rw [if_neg this]
        · simp only [if_true, Nat.zero_add]
          rw [if_pos ⟨k, by omega, wayB_t.1 hb⟩]
theorem reps_one (hs : ∀ v w, E v w = true → E w v = true) {w : Nat} (hw : w < n) : ((reps E n).flatMap (compI E n)).count (w : Int) = 1 := by
  rw [reps_count hs hw, if_pos ⟨w, hw, .here⟩]
/-- How often each number is in a list. -/
def cntL (n : Nat) (xs : List Int) : List Value := (List.range n).map fun w : Nat => (Value.int .i64 (((xs.count (w : Int) : Nat) : Int)))
theorem cntL_len (n : Nat) (xs : List Int) : (cntL n xs).length = n := by simp [cntL]
theorem cntL_get {n w : Nat} (xs : List Int) (hw : w < n) : (cntL n xs)[w]? = some ((Value.int .i64 (((xs.count (w : Int) : Nat) : Int)))) := by simp [cntL, hw]
theorem cntL_set {n w : Nat} (xs : List Int) (hw : w < n) : (cntL n xs).set w ((Value.int .i64 (((xs.count (w : Int) + 1 : Nat) : Int)))) = cntL n (xs ++ [(w : Int)]) := by
  refine List.ext_getElem? fun i => ?_
  rw [List.getElem?_set, cntL_len]
  by_cases hi : i < n
  · by_cases e : w = i
    · subst e
      rw [if_pos rfl, if_pos hw, cntL_get _ hw, List.count_append]; simp
    · rw [if_neg e, cntL_get _ hi, cntL_get _ hi, List.count_append]
      have : ((w : Int) == (i : Int)) = false := by simp; omega
      rw [List.count_cons, List.count_nil, this]; simp
  · have : ¬ w = i := by omega
    rw [if_neg this, List.getElem?_eq_none (by rw [cntL_len]; omega), List.getElem?_eq_none (by rw [cntL_len]; omega)]
variable {md : Md} {h hh : Heap} {q mb sb : Nat} {es : List (MK × Value)}
theorem pchk_loop {n0 : Nat} {pv s4 s112 s113 s114 : Value} {p : List Int} (S : SM n nb es) (N : Nb n nb) (Y : Sy nb) (h16 : n ≤ 16) (hr : r < n) (hp : p = compI (eB n nb) n r) (hsb : sb < n0) (hms : mb ≠ sb) (hro : md.ro ≤ sb) : ∀ (rest pre : List Int) (hh : Heap) (xs : List Int), pre ++ rest = p → xs.length + rest.length < 100000 → hh[mb]? = some (.mp (.two .i64) es) → SlO hh n0 1 eZ pv p → hh[sb]? = some (.own (cntL n xs)) →
    ∃ h', J4_6b0 C md ((Value.int .i64 ((n : Int)))) s4 (.map (some mb)) ((Value.slice (some ⟨sb, 0, none⟩) n 1)) ((Value.int .i64 ((r : Int)))) pv s112 s113 s114 pv ((Value.int .i64 ((p.length : Int)))) ((Value.int .i64 ((pre.length : Int)))) hh = J4_6b1 C md ((Value.int .i64 ((n : Int)))) s4 (.map (some mb)) ((Value.slice (some ⟨sb, 0, none⟩) n 1)) ((Value.int .i64 ((r : Int)))) pv s112 s113 s114 h' ∧
      h'[sb]? = some (.own (cntL n (xs ++ rest))) ∧ h'.length = hh.length ∧ ∀ y, y ≠ sb → h'[y]? = hh[y]? := by
  intro rest
  induction rest with
  | nil =>
    intro pre hh xs e hx hm SP hb
    rw [List.append_nil] at e
    subst e
    refine ⟨hh, ?_, by rw [List.append_nil]; exact hb, rfl, fun _ _ => rfl⟩
    rw [J4_6b0_step]
    unfold Jr4_6b0
    simp only [go_sem, Nat.reduceAdd, Nat.reduceLeDiff, Nat.reduceMul, Int.reduceBEq, Int.reduceBNe, Int.reduceLT, Int.reduceLE, Int.reduceGT, aBin_lss, Int.lt_irrefl, Jk4_6b0]
  | cons x rest ih =>
    intro pre hh xs e hx hm SP hb
    have hxp : p[pre.length]? = some x := by rw [← e]; simp
    have pl : p.length ≤ n := hp ▸ compI_len
    have hlt : (pre.length : Int) < (p.length : Int) := by have := (List.getElem?_eq_some_iff.1 hxp).1; omega
    obtain ⟨ix, rx⟩ := Sl.getI SP.sl hxp
    obtain ⟨w, ew, hw, hway⟩ := compI_mem.1 (hp ▸ List.mem_of_getElem? hxp : x ∈ compI (eB n nb) n r)
    have c1 : ¬ x < 0 := by omega
    have c2 : ¬ x ≥ (n : Int) := by omega
    have wj : IntKind.wrap .i64 ((pre.length : Int) + 1) = ((pre.length + 1 : Nat) : Int) := by rw [wi (by omega) (by omega)]; rfl
    have ej := fun (m : Md) => sjoined_s (md := m) (u := (r : Int)) (v := x) S N Y h16 ⟨by omega, by omega⟩ ⟨by omega, by omega⟩ hm
    have ewb : wayB (eB n nb) (r : Int).toNat x.toNat = true := by
      rw [ew, Int.toNat_natCast, Int.toNat_natCast]; exact wayB_t.2 hway
    simp only [ewb] at ej
    have ltn : x < (n : Int) := by omega
    have gx := fun {α : Type} (kk : Value → Option α) => ixS_p 1 sb 0 n 1 x kk ⟨by omega, ltn⟩
    have xt : x.toNat = w := by omega
    simp only [xt, Nat.zero_add, Nat.mul_one] at gx
    have rc : rd hh sb w = some ((Value.int .i64 (((xs.count (w : Int) : Nat) : Int)))) := by rw [rd_own hb, cntL_get _ hw]
    have cl : xs.count (w : Int) ≤ xs.length := List.count_le_length
    have ww : IntKind.wrap .i64 (((xs.count (w : Int) : Nat) : Int) + 1) = ((xs.count (w : Int) + 1 : Nat) : Int) := by
      simp only [List.length_cons] at hx
      rw [wi (by omega) (by omega)]; rfl
    have wr : wrN md hh sb w [(Value.int .i64 (((xs.count (w : Int) + 1 : Nat) : Int)))] = some (hh.set sb (.own (cntL n (xs ++ [x])))) := by
      rw [wr_own hb hro rfl (by rw [cntL_len]; exact hw), cntL_set xs hw, ew]
    obtain ⟨h', e2, q1, q2, q3⟩ := ih (pre ++ [x]) (hh.set sb (.own (cntL n (xs ++ [x])))) (xs ++ [x]) (by rw [← e]; simp) (by simp only [List.length_append, List.length_cons, List.length_nil] at hx ⊢; omega) (by rw [set_else (Ne.symm hms)]; exact hm) (SP.at fun y h1 _ => set_else (by omega)) (set_here hb)
    refine ⟨h', ?_, by rw [q1, List.append_assoc]; rfl, by rw [q2]; simp, fun y hy => by rw [q3 y hy, set_else (Ne.symm hy)]⟩
    simp only [List.length_append, List.length_cons, List.length_nil, Nat.zero_add] at e2
    rw [J4_6b0_step]
    unfold Jr4_6b0
    by_cases hpre : pre = []
    · have z0 : ¬ ((pre.length : Nat) : Int) > 0 := by rw [hpre]; simp
      simp only [go_sem, Nat.reduceAdd, Nat.reduceLeDiff, Nat.reduceMul, Int.reduceBEq, Int.reduceBNe, Int.reduceLT, Int.reduceLE, Int.reduceGT, aBin_lss, hlt, ixSV_p, ix, rx, c1, aBin_geq, c2, aBin_gtr, z0, ej, aUn_not, gx, rc, ww, wr, aBin_add, wj]
      exact e2
    · have pp : 0 < pre.length := List.length_pos_iff.2 hpre
      have z0 : ((pre.length : Nat) : Int) > 0 := by omega
      obtain ⟨y, hy⟩ : ∃ y, p[pre.length - 1]? = some y := ⟨p[pre.length - 1]'(by omega), List.getElem?_eq_getElem (by omega)⟩
      obtain ⟨iy, ry⟩ := Sl.getI SP.sl hy
      have wm : IntKind.wrap .i64 ((pre.length : Int) - 1) = ((pre.length - 1 : Nat) : Int) := by rw [wi (by omega) (by omega)]; omega
      have hyx : ¬ y ≥ x := by
        have so : p.Pairwise (· < ·) := hp ▸ compI_sorted
        obtain ⟨g1, g2⟩ := List.getElem?_eq_some_iff.1 hy
        obtain ⟨g3, g4⟩ := List.getElem?_eq_some_iff.1 hxp
        have := List.pairwise_iff_getElem.1 so _ _ g1 g3 (by omega)
        rw [g2, g4] at this
        omega
      simp only [go_sem, Nat.reduceAdd, Nat.reduceLeDiff, Nat.reduceMul, Int.reduceBEq, Int.reduceBNe, Int.reduceLT, Int.reduceLE, Int.reduceGT, aBin_lss, hlt, ixSV_p, ix, rx, c1, aBin_geq, c2, aBin_gtr, z0, aBin_sub, wm, iy, ry, hyx, ej, aUn_not, gx, rc, ww, wr, aBin_add, wj]
      exact e2
theorem pin_loop {pv s4 s15 s16 s7 s112 s113 s114 s173 s174 : Value} {p : List Int} {v : Int} (SP : Sl hh 1 eZ pv p) (hl : p.length < 1000) : ∀ (rest pre : List Int) (b : Bool), pre ++ rest = p →
    J4_6b2b0 C md ((Value.int .i64 ((n : Int)))) s4 s7 s15 s16 pv ((Value.int .i64 v)) ((Value.bool b)) s112 s113 s114 s173 s174 pv ((Value.int .i64 ((p.length : Int)))) ((Value.int .i64 ((pre.length : Int)))) hh =
      J4_6b2b1 C md ((Value.int .i64 ((n : Int)))) s4 s7 s15 s16 pv ((Value.int .i64 v)) ((Value.bool (b || decide (v ∈ rest)))) s112 s113 s114 s173 s174 hh := by
  intro rest
  induction rest with
  | nil =>
    intro pre b e
    rw [List.append_nil] at e
    subst e
    rw [J4_6b2b0_step]
    unfold Jr4_6b2b0
    simp only [go_sem, Nat.reduceAdd, Nat.reduceLeDiff, Nat.reduceMul, Int.reduceBEq, Int.reduceBNe, Int.reduceLT, Int.reduceLE, Int.reduceGT, aBin_lss, Int.lt_irrefl, Jk4_6b2b0, List.not_mem_nil]
  | cons x rest ih =>
    intro pre b e
    have hxp : p[pre.length]? = some x := by rw [← e]; simp
    have hlt : (pre.length : Int) < (p.length : Int) := by have := (List.getElem?_eq_some_iff.1 hxp).1; omega
    obtain ⟨ix, rx⟩ := Sl.getI SP hxp
    have wj : IntKind.wrap .i64 ((pre.length : Int) + 1) = ((pre.length + 1 : Nat) : Int) := by rw [wi (by omega) (by omega)]; rfl
    have e2 := fun b => ih (pre ++ [x]) b (by rw [← e]; simp)
    simp only [List.length_append, List.length_cons, List.length_nil, Nat.zero_add] at e2
    have eb : (b || decide (v ∈ x :: rest)) = ((b || (v == x)) || decide (v ∈ rest)) := by
      rw [Bool.or_assoc]
      congr 1
      rw [Bool.eq_iff_iff]
      simp
    rw [eb, ← e2 (b || (v == x)), J4_6b2b0_step]
    unfold Jr4_6b2b0
    cases b
    · simp only [go_sem, Nat.reduceAdd, Nat.reduceLeDiff, Nat.reduceMul, Int.reduceBEq, Int.reduceBNe, Int.reduceLT, Int.reduceLE, Int.reduceGT, aBin_lss, hlt, ixSV_p, ix, rx, aBin_eql, aBin_add, wj]
    · simp only [go_sem, Nat.reduceAdd, Nat.reduceLeDiff, Nat.reduceMul, Int.reduceBEq, Int.reduceBNe, Int.reduceLT, Int.reduceLE, Int.reduceGT, aBin_lss, hlt, ixSV_p, ix, rx, aBin_eql, aBin_add, wj]
theorem pall_loop {pv s4 s15 s112 s113 s114 : Value} {p : List Int} {K : Nat} (S : SM n nb es) (N : Nb n nb) (Y : Sy nb) (h16 : n ≤ 16) (hr : r < n) (hp : p = compI (eB n nb) n r) (hm : hh[mb]? = some (.mp (.two .i64) es)) (SP : Sl hh 1 eZ pv p) (hK : K < 1000) (h114 : s114 = (Value.int .i64 ((K : Int)))) : ∀ (m k : Nat), k + m = n →
    J4_6b2 C md ((Value.int .i64 ((n : Int)))) s4 (.map (some mb)) s15 ((Value.int .i64 ((r : Int)))) pv s112 s113 s114 ((Value.int .i64 ((n : Int)))) ((Value.int .i64 ((k : Int)))) hh = some (.inl (((Value.int .i64 ((n : Int))), s4, .map (some mb), s15, (Value.int .i64 ((r : Int))), s112, s113, (Value.int .i64 (((K + 1 : Nat) : Int)))), hh)) := by
  subst h114
  have wK : IntKind.wrap .i64 ((K : Int) + 1) = ((K + 1 : Nat) : Int) := by rw [wi (by omega) (by omega)]; rfl
  have uB : Try.prog.underlying 4 = some .bool := by kernel_rfl
  have pl : p.length ≤ n := hp ▸ compI_len
  have len := fun {α : Type} (kk : Value → Option α) => SP.len kk
  intro m
  induction m with
  | zero =>
    intro k hk
    obtain rfl : k = n := by omega
    rw [J4_6b2_step]
    unfold Jr4_6b2
    simp only [go_sem, Nat.reduceAdd, Nat.reduceLeDiff, Nat.reduceMul, Int.reduceBEq, Int.reduceBNe, Int.reduceLT, Int.reduceLE, Int.reduceGT, aBin_lss, Int.lt_irrefl, Jk4_6b2, aBin_add, wK]
  | succ m ih =>
    intro k hk
    have hlt : (k : Int) < (n : Int) := by omega
    have w : IntKind.wrap .i64 ((k : Int) + 1) = ((k + 1 : Nat) : Int) := by rw [wi (by omega) (by omega)]; rfl
    have e := pin_loop (md := md) (n := n) (s4 := s4) (s15 := s15) (s16 := (Value.int .i64 ((r : Int)))) (s7 := .map (some mb)) (s112 := s112) (s113 := s113) (s114 := (Value.int .i64 ((K : Int)))) (s173 := (Value.int .i64 ((n : Int)))) (s174 := (Value.int .i64 ((k : Int)))) (v := (k : Int)) SP (by omega) p [] false rfl
    have ej := fun (m : Md) => sjoined_s (md := m) (u := (r : Int)) (v := (k : Int)) S N Y h16 ⟨by omega, by omega⟩ ⟨by omega, by omega⟩ hm
    simp only [Int.toNat_natCast] at ej
    have em : decide ((k : Int) ∈ p) = wayB (eB n nb) r k := by rw [hp]; exact compI_has (by omega)
    rw [em, Bool.false_or] at e
    simp only [List.length_nil, Int.natCast_zero] at e
    have nf : ∀ b : Bool, (b != b) = false := by simp
    rw [J4_6b2_step]
    unfold Jr4_6b2
    simp only [go_sem, Nat.reduceAdd, Nat.reduceLeDiff, Nat.reduceMul, Int.reduceBEq, Int.reduceBNe, Int.reduceLT, Int.reduceLE, Int.reduceGT, aBin_lss, hlt, len]
    rw [e]
    unfold J4_6b2b1
    simp only [go_sem, Nat.reduceAdd, Nat.reduceLeDiff, Nat.reduceMul, Int.reduceBEq, Int.reduceBNe, Int.reduceLT, Int.reduceLE, Int.reduceGT, ej, aBin_neqB uB, nf, aBin_add, w]
    exact ih (k + 1) (by omega)
theorem Sl.getV {v : Value} {xs : List Value} (S : Sl h 1 eV v xs) {k : Nat} {x : Value} (hx : xs[k]? = some x) :
    (∀ {α : Type} (kk : Value → Option α), ixS 1 v (k : Int) kk = kk ((Value.pointer (some ⟨slB v, slO v + k, none⟩)))) ∧ rd h (slB v) (slO v + k) = some x := by
  have h1 : k < xs.length := (List.getElem?_eq_some_iff.1 hx).1
  refine ⟨fun kk => ?_, ?_⟩
  · rw [S.ix (by omega) (by omega) kk, Nat.mul_one, Int.toNat_natCast]
  · have := S.cell hx (j := 0) (by decide)
    rw [Nat.mul_one, Nat.add_zero] at this
    exact this
theorem ploop {n0 : Nat} {s4 v : Value} {vs : List Value} {ps : List Nat} (S : SM n nb es) (N : Nb n nb) (Y : Sy nb) (h16 : n ≤ 16) (hsb : sb < n0) (hms : mb ≠ sb) (hro : md.ro ≤ sb) (hvl : vs.length = ps.length) (hps : ps = reps (eB n nb) n) (h0 : Heap) : ∀ (rest pre : List Nat) (hh : Heap) (xs : List Int) (f : Int), pre ++ rest = ps → xs.length ≤ pre.length * 16 → (∀ r ∈ rest, f < (r : Int)) →
    hh[mb]? = some (.mp (.two .i64) es) → SlO hh n0 1 eV v vs → (∀ (i : Nat) (x : Value) (r : Nat), vs[i]? = some x → ps[i]? = some r → SlO hh n0 1 eZ x (compI (eB n nb) n r)) → hh[sb]? = some (.own (cntL n xs)) →
    ∃ h' , J4_6 C md h0 ((Value.int .i64 ((n : Int)))) s4 (.map (some mb)) ((Value.slice (some ⟨sb, 0, none⟩) n 1)) ((Value.int .i64 f)) v ((Value.int .i64 ((ps.length : Int)))) ((Value.int .i64 ((pre.length : Int)))) hh = J4_7 C md h0 s4 ((Value.slice (some ⟨sb, 0, none⟩) n 1)) h' ∧ h'[sb]? = some (.own (cntL n (xs ++ rest.flatMap (compI (eB n nb) n)))) := by
  have rl : ps.length ≤ n := hps ▸ reps_len n
  intro rest
  induction rest with
  | nil =>
    intro pre hh xs f e hx hf hm SV SE hb
    rw [List.append_nil] at e
    subst e
    refine ⟨hh, ?_, by simpa using hb⟩
    rw [J4_6_step]
    unfold Jr4_6
    simp only [go_sem, Nat.reduceAdd, Nat.reduceLeDiff, Nat.reduceMul, Int.reduceBEq, Int.reduceBNe, Int.reduceLT, Int.reduceLE, Int.reduceGT, aBin_lss, Int.lt_irrefl, Jk4_6]
  | cons r rest ih =>
    intro pre hh xs f e hx hf hm SV SE hb
    have hrp : ps[pre.length]? = some r := by rw [← e]; simp
    have hpl := (List.getElem?_eq_some_iff.1 hrp).1
    have hlt : (pre.length : Int) < (ps.length : Int) := by omega
    have hrm : r ∈ reps (eB n nb) n := hps ▸ List.mem_of_getElem? hrp
    have hrm' := List.mem_filter.1 hrm
    have hrn : r < n := List.mem_range.1 hrm'.1
    obtain ⟨x, hxv⟩ : ∃ x, vs[pre.length]? = some x := ⟨vs[pre.length]'(by omega), List.getElem?_eq_getElem (by omega)⟩
    obtain ⟨ix, rx⟩ := Sl.getV SV.sl hxv
    have SX := SE _ _ _ hxv hrp
    obtain ⟨tl, etl⟩ := compI_head (n := n) (fun v w => eB_sym N Y v w) hrn hrm'.2
    have len := fun {α : Type} (kk : Value → Option α) => SX.sl.len kk
    have c0 : ((((compI (eB n nb) n r).length : Nat) : Int) == 0) = false := by rw [etl]; simp; omega
    obtain ⟨i0, r0⟩ := Sl.getI SX.sl (k := 0) (x := (r : Int)) (by rw [etl]; rfl)
    simp only [Int.natCast_zero, Nat.add_zero] at i0 r0
    have cf : ¬ (r : Int) ≤ f := by have := hf r (by simp); omega
    have cpl := compI_len (E := eB n nb) (n := n) (r := r)
    obtain ⟨h1, e1, b1, l1, f1⟩ := pchk_loop (md := md) (pv := x) (s4 := s4) (s112 := v) (s113 := (Value.int .i64 ((ps.length : Int)))) (s114 := (Value.int .i64 ((pre.length : Int)))) S N Y h16 hrn rfl hsb hms hro (compI (eB n nb) n r) [] hh xs rfl (by omega) hm SX hb
    have at1 : ∀ y, n0 ≤ y → y < hh.length → h1[y]? = hh[y]? := fun y q _ => f1 y (by omega)
    have SX1 := SX.at at1
    have hm1 := (f1 mb hms).trans hm
    have e2 := pall_loop (md := md) (pv := x) (s4 := s4) (s15 := (Value.slice (some ⟨sb, 0, none⟩) n 1)) (s112 := v) (s113 := (Value.int .i64 ((ps.length : Int)))) (K := pre.length) S N Y h16 hrn rfl hm1 SX1.sl (by omega) rfl n 0 (by omega)
    obtain ⟨h', e3, q1⟩ := ih (pre ++ [r]) h1 (xs ++ compI (eB n nb) n r) (r : Int) (by rw [← e]; simp) (by simp only [List.length_append, List.length_cons, List.length_nil]; omega) (fun r' hr' => by
      have so : ps.Pairwise (· < ·) := by rw [hps]; exact (List.pairwise_lt_range (n := n)).filter _
      rw [← e, List.pairwise_append] at so
      have := (List.pairwise_cons.1 so.2.1).1 r' hr'
      omega) hm1 (SV.at at1) (fun i y r' a b => (SE i y r' a b).at at1) b1
    refine ⟨h', ?_, by rw [q1, List.append_assoc]; rfl⟩
    simp only [List.length_append, List.length_cons, List.length_nil, Nat.zero_add] at e3
    simp only [List.length_nil, Int.natCast_zero] at e1 e2
    rw [J4_6_step]
    unfold Jr4_6
    simp only [go_sem, Nat.reduceAdd, Nat.reduceLeDiff, Nat.reduceMul, Int.reduceBEq, Int.reduceBNe, Int.reduceLT, Int.reduceLE, Int.reduceGT, aBin_lss, hlt, ixSV_p, ix, rx, len, c0, i0, r0, aBin_leq, cf]
    rw [e1]
    unfold J4_6b1
    rw [e2]
    exact e3
theorem pone_loop {s4 : Value} (h0 : Heap) {xs : List Int} (hb : hh[sb]? = some (.own (cntL n xs))) (h1 : ∀ w, w < n → xs.count (w : Int) = 1) (h16 : n ≤ 16) : ∀ (m k : Nat), k + m = n →
    J4_8 C md h0 s4 ((Value.slice (some ⟨sb, 0, none⟩) n 1)) ((Value.int .i64 ((n : Int)))) ((Value.int .i64 ((k : Int)))) hh = some ((Value.bool true), hh.take h0.length) := by
  intro m
  induction m with
  | zero =>
    intro k hk
    obtain rfl : k = n := by omega
    rw [J4_8_step]
    unfold Jr4_8
    simp only [go_sem, Nat.reduceAdd, Nat.reduceLeDiff, Nat.reduceMul, Int.reduceBEq, Int.reduceBNe, Int.reduceLT, Int.reduceLE, Int.reduceGT, aBin_lss, Int.lt_irrefl, Jk4_8, awake24]
  | succ m ih =>
    intro k hk
    have hlt : (k : Int) < (n : Int) := by omega
    have w : IntKind.wrap .i64 ((k : Int) + 1) = ((k + 1 : Nat) : Int) := by rw [wi (by omega) (by omega)]; rfl
    have gx := fun {α : Type} (kk : Value → Option α) => ixS_p 1 sb 0 n 1 (k : Int) kk ⟨by omega, hlt⟩
    have rc : rd hh sb k = some ((Value.int .i64 1)) := by rw [rd_own hb, cntL_get _ (by omega), h1 k (by omega)]; rfl
    have c1 : ((1 : Int) != 1) = false := rfl
    rw [J4_8_step]
    unfold Jr4_8
    simp only [go_sem, Nat.reduceAdd, Nat.reduceLeDiff, Nat.reduceMul, Int.reduceBEq, Int.reduceBNe, Int.reduceLT, Int.reduceLE, Int.reduceGT, aBin_lss, hlt, ixSV_p, gx, rc, c1, aBin_add, w]
    exact ih (k + 1) (by omega)
end Go.Det.E
