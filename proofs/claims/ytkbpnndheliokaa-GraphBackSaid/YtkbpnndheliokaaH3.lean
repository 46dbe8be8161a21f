/- Graphs: what their functions do. -/
import Derived.Test.YtkbpnndheliokaaE6
import Derived.Test.YtkbpnndheliokaaH1
import Derived.Test.YtkbpnndheliokaaM3
import Derived.Test.YtkbpnndheliokaaDetZ
set_option autoImplicit false
set_option linter.unusedVariables false
set_option linter.unusedSimpArgs false
namespace Go.Det.E
open Go.Proofs Go.Det
attribute [local congr] bind_c cond_c
variable {md : Md} {h hh : Heap} {q n : Nat} {nb : List Nat} {u v : Int}
def grC (n : Nat) (nb : List Nat) : List Value := (Value.int .i64 ((n : Int))) :: nb.map (fun x : Nat => (Value.int .u32 ((x : Int))))
/-- A graph at a block. -/
structure Gr (h : Heap) (q n : Nat) (nb : List Nat) : Prop where
  hq : h[q]? = some (.own (grC n nb))
  n1 : 1 ≤ n
  n16 : n ≤ 16
  N : Nb n nb
theorem Gr.rd0 (G : Gr h q n nb) : rd h q 0 = some ((Value.int .i64 ((n : Int)))) := by rw [rd_own G.hq]; rfl
theorem Gr.lt32 (G : Gr h q n nb) (u : Nat) : nb.getD u 0 < 2 ^ 32 := Nat.lt_of_lt_of_le (G.N.lt u) (Nat.pow_le_pow_right (by omega) (by have := G.n16; omega))
theorem Gr.rd1 (G : Gr h q n nb) {u : Nat} (hu : u < 16) : rd h q (1 + u) = some ((Value.int .u32 (((nb.getD u 0 : Nat) : Int)))) := by
  rw [rd_own G.hq]
  have : u < nb.length := by rw [G.N.len]; exact hu
  rw [Nat.add_comm]
  simp [grC, List.getD, this]
theorem Gr.app (G : Gr h q n nb) (bs : Heap) : Gr (h ++ bs) q n nb := ⟨by rw [List.getElem?_append_left (lt_of G.hq)]; exact G.hq, G.n1, G.n16, G.N⟩
theorem Gr.same {h' : Heap} (G : Gr h q n nb) (e : h'[q]? = h[q]?) : Gr h' q n nb := ⟨e.trans G.hq, G.n1, G.n16, G.N⟩
def inB (n : Nat) (v : Int) : Bool := decide (0 ≤ v) && decide (v < (n : Int))
theorem inB_t {n : Nat} {v : Int} : inB n v = true ↔ 0 ≤ v ∧ v < (n : Int) := by unfold inB; simp
theorem inB_f {n : Nat} {v : Int} : inB n v = false ↔ ¬ (0 ≤ v ∧ v < (n : Int)) := by rw [← inB_t]; simp
theorem there_s (G : Gr h q n nb) (v : Int) : C md 39 [(Value.pointer (some ⟨q, 0, none⟩)), (Value.int .i64 v)] h = some ((Value.bool (inB n v)), h) := by
  rw [C, call_eq, F39_eq]
  unfold F39
  have r0 := G.rd0
  by_cases h0 : v ≥ 0
  · by_cases h1 : v < (n : Int)
    · have : inB n v = true := inB_t.2 ⟨h0, h1⟩
      simp only [go_sem, Nat.reduceAdd, Nat.reduceLeDiff, Nat.reduceMul, Int.reduceBEq, Int.reduceBNe, Int.reduceLT, Int.reduceLE, Int.reduceGT, h0, r0, okNil, okP_p, aBin_lss, h1, this]
    · have : inB n v = false := inB_f.2 fun q => h1 q.2
      simp only [go_sem, Nat.reduceAdd, Nat.reduceLeDiff, Nat.reduceMul, Int.reduceBEq, Int.reduceBNe, Int.reduceLT, Int.reduceLE, Int.reduceGT, h0, r0, okNil, okP_p, aBin_lss, h1, this]
  · have : inB n v = false := inB_f.2 fun q => h0 q.1
    simp only [go_sem, Nat.reduceAdd, Nat.reduceLeDiff, Nat.reduceMul, Int.reduceBEq, Int.reduceBNe, Int.reduceLT, Int.reduceLE, Int.reduceGT, h0, this]
/-- A bit of a vertex. -/
def bt (nb : List Nat) (u v : Int) : Bool := (nb.getD u.toNat 0).testBit v.toNat
theorem and1 {x : Nat} (hx : x < 2 ^ 32) {v : Int} (h0 : 0 ≤ v) (h1 : v < 32) {α : Type} {ty : TypeId} {k : Value → Option α} :
    aBin Try.prog .shr ty ((Value.int .u32 ((x : Int)))) ((Value.int .i64 v)) k = k ((Value.int .u32 (((x / 2 ^ v.toNat : Nat) : Int)))) := by
  have := (bit32 hx h0 h1).1
  simp only [aBin, this]
theorem has_g (G : Gr h q n nb) (u v : Int) : C md 13 [(Value.pointer (some ⟨q, 0, none⟩)), (Value.int .i64 u), (Value.int .i64 v)] h = some ((Value.bool ((inB n u && inB n v) && bt nb u v)), h) := by
  rw [C, call_eq, F13_eq]
  unfold F13
  have e1 := fun (m : Md) => there_s (md := m) G u
  have e2 := fun (m : Md) => there_s (md := m) G v
  have n16 := G.n16
  cases hu : inB n u
  · simp only [go_sem, Nat.reduceAdd, Nat.reduceLeDiff, Nat.reduceMul, Int.reduceBEq, Int.reduceBNe, Int.reduceLT, Int.reduceLE, Int.reduceGT, e1, hu]
  · cases hv : inB n v
    · simp only [go_sem, Nat.reduceAdd, Nat.reduceLeDiff, Nat.reduceMul, Int.reduceBEq, Int.reduceBNe, Int.reduceLT, Int.reduceLE, Int.reduceGT, e1, e2, hu, hv]
    · have hu' := inB_t.1 hu
      have hv' := inB_t.1 hv
      have hx := fun (k : Value → Option (Value × Heap)) => ixA_p 1 q 1 16 u k ⟨hu'.1, by omega⟩
      have r := G.rd1 (u := u.toNat) (by omega)
      have b := bit32 (G.lt32 u.toNat) (v := v) hv'.1 (by omega)
      have s := fun {α : Type} {ty : TypeId} {k : Value → Option α} => and1 (G.lt32 u.toNat) (v := v) hv'.1 (by omega) (α := α) (ty := ty) (k := k)
      have b2 := b.2
      have hx2 := hx
      simp only [go_sem, Nat.reduceAdd, Nat.reduceLeDiff, Nat.reduceMul, Int.reduceBEq, Int.reduceBNe, Int.reduceLT, Int.reduceLE, Int.reduceGT, e1, e2, hu, hv, okNil, okP_p, ixAV_p, hx, r, s, aBin_and, aBin_eql, b2, bt]
theorem in_loop (G : Gr h q n nb) {seen : Nat} (hs : seen < 2 ^ n) (s4 : Value) : ∀ (m k : Nat), k + m = n →
    J40_0b0 C md ((Value.pointer (some ⟨q, 0, none⟩))) s4 ((Value.int .u32 ((seen : Int)))) ((Value.int .u32 (((mo nb seen k : Nat) : Int)))) ((Value.int .i64 ((n : Int)))) ((Value.int .i64 ((k : Int)))) h = J40_0b1 C md ((Value.pointer (some ⟨q, 0, none⟩))) s4 ((Value.int .u32 ((seen : Int)))) ((Value.int .u32 (((mo nb seen n : Nat) : Int)))) h := by
  have n16 := G.n16
  have s32 : seen < 2 ^ 32 := Nat.lt_of_lt_of_le hs (Nat.pow_le_pow_right (by omega) (by omega))
  intro m
  induction m with
  | zero =>
    intro k hk
    obtain rfl : k = n := by omega
    rw [J40_0b0_step]
    unfold Jr40_0b0
    simp only [go_sem, Nat.reduceAdd, Nat.reduceLeDiff, Nat.reduceMul, Int.reduceBEq, Int.reduceBNe, Int.reduceLT, Int.reduceLE, Int.reduceGT, aBin_lss, Int.lt_irrefl, Jk40_0b0]
  | succ m ih =>
    intro k hk
    have hlt : (k : Int) < (n : Int) := by omega
    have w : IntKind.wrap .i64 ((k : Int) + 1) = ((k + 1 : Nat) : Int) := by rw [wi (by omega) (by omega)]; rfl
    have s := fun {α : Type} {ty : TypeId} {k' : Value → Option α} => and1 s32 (v := (k : Int)) (by omega) (by omega) (α := α) (ty := ty) (k := k')
    have b := (bit32 s32 (v := (k : Int)) (by omega) (by omega)).2
    have hx := fun {α : Type} (kk : Value → Option α) => ixA_p 1 q 1 16 (k : Int) kk ⟨by omega, by omega⟩
    have r := G.rd1 (u := k) (by omega)
    have m32 : mo nb seen k < 2 ^ 32 := Nat.lt_of_lt_of_le (mo_lt G.N hs k) (Nat.pow_le_pow_right (by omega) (by omega))
    have o := bOr32 m32 (G.lt32 k)
    simp only [Int.toNat_natCast] at b s
    rw [J40_0b0_step]
    unfold Jr40_0b0
    cases hb : seen.testBit k
    · have e : mo nb seen (k + 1) = mo nb seen k := by rw [mo, hb]; rfl
      have e2 := ih (k + 1) (by omega)
      rw [e] at e2
      simp only [go_sem, Nat.reduceAdd, Nat.reduceLeDiff, Nat.reduceMul, Int.reduceBEq, Int.reduceBNe, Int.reduceLT, Int.reduceLE, Int.reduceGT, aBin_lss, hlt, s, aBin_and, aBin_eql, b, hb, aBin_add, w]
      exact e2
    · have e : mo nb seen (k + 1) = mo nb seen k ||| nb.getD k 0 := by rw [mo, hb]; rfl
      have e2 := ih (k + 1) (by omega)
      rw [e] at e2
      simp only [go_sem, Nat.reduceAdd, Nat.reduceLeDiff, Nat.reduceMul, Int.reduceBEq, Int.reduceBNe, Int.reduceLT, Int.reduceLE, Int.reduceGT, aBin_lss, hlt, s, aBin_and, aBin_eql, b, hb, okNil, okP_p, ixAV_p, hx, r, aBin_or, o, aBin_add, w]
      exact e2
theorem out_loop (G : Gr h q n nb) {u : Nat} (hu : u < n) (s4 : Value) (h0 : Heap) : ∀ (m : Nat) (seen : Nat), unseen n seen ≤ m → seen < 2 ^ n → seen.testBit u = true → (∀ w, seen.testBit w = true → Way (eB n nb) u w) →
    ∃ R : Nat, R < 2 ^ n ∧ (∀ w, R.testBit w = true ↔ Way (eB n nb) u w) ∧ J40_0 C md h0 ((Value.pointer (some ⟨q, 0, none⟩))) s4 ((Value.int .u32 ((seen : Int)))) h = some ((Value.int .u32 ((R : Int))), h0) := by
  have n16 := G.n16
  have p32 : ∀ {x : Nat}, x < 2 ^ n → x < 2 ^ 32 := fun hx => Nat.lt_of_lt_of_le hx (Nat.pow_le_pow_right (by omega) (by omega))
  have r0 := G.rd0
  have step : ∀ (seen : Nat), seen < 2 ^ n → (mo nb seen n = seen → J40_0 C md h0 ((Value.pointer (some ⟨q, 0, none⟩))) s4 ((Value.int .u32 ((seen : Int)))) h = some ((Value.int .u32 ((seen : Int))), h0)) ∧
      (mo nb seen n ≠ seen → J40_0 C md h0 ((Value.pointer (some ⟨q, 0, none⟩))) s4 ((Value.int .u32 ((seen : Int)))) h = J40_0 C md h0 ((Value.pointer (some ⟨q, 0, none⟩))) s4 ((Value.int .u32 (((mo nb seen n : Nat) : Int)))) h) := by
    intro seen hs
    have e := in_loop (md := md) G hs s4 n 0 (by omega)
    simp only [mo, Int.natCast_zero] at e
    constructor
    · intro hm
      rw [J40_0_step]
      unfold Jr40_0
      simp only [go_sem, Nat.reduceAdd, Nat.reduceLeDiff, Nat.reduceMul, Int.reduceBEq, Int.reduceBNe, Int.reduceLT, Int.reduceLE, Int.reduceGT, okNil, okP_p, r0]
      rw [e]
      unfold J40_0b1
      rw [hm]
      simp only [go_sem, Nat.reduceAdd, Nat.reduceLeDiff, Nat.reduceMul, Int.reduceBEq, Int.reduceBNe, Int.reduceLT, Int.reduceLE, Int.reduceGT, aBin_eql, Jk40_0, below]
    · intro hm
      have hb : (((mo nb seen n : Nat) : Int) == (seen : Int)) = false := by
        rw [beq_eq_false_iff_ne]; intro q; exact hm (by omega)
      rw [J40_0_step]
      unfold Jr40_0
      simp only [go_sem, Nat.reduceAdd, Nat.reduceLeDiff, Nat.reduceMul, Int.reduceBEq, Int.reduceBNe, Int.reduceLT, Int.reduceLE, Int.reduceGT, okNil, okP_p, r0]
      rw [e]
      unfold J40_0b1
      simp only [go_sem, Nat.reduceAdd, Nat.reduceLeDiff, Nat.reduceMul, Int.reduceBEq, Int.reduceBNe, Int.reduceLT, Int.reduceLE, Int.reduceGT, aBin_eql, hb]
  intro m
  induction m with
  | zero =>
    intro seen hm hs hb hw
    by_cases he : mo nb seen n = seen
    · exact ⟨seen, hs, whole_way hb hw he, (step seen hs).1 he⟩
    · have := more_less G.N hs he; omega
  | succ m ih =>
    intro seen hm hs hb hw
    by_cases he : mo nb seen n = seen
    · exact ⟨seen, hs, whole_way hb hw he, (step seen hs).1 he⟩
    · have := more_less G.N hs he
      obtain ⟨R, h1, h2, h3⟩ := ih (mo nb seen n) (by omega) (mo_lt G.N hs n) ((mo_bit nb seen n u).2 (.inl hb)) (fun w => more_way hw w)
      exact ⟨R, h1, h2, ((step seen hs).2 he).trans h3⟩
theorem reach_s (G : Gr h q n nb) (hu : inB n u = true) : ∃ R : Nat, R < 2 ^ n ∧ (∀ w, R.testBit w = true ↔ Way (eB n nb) u.toNat w) ∧ ∀ md, C md 40 [(Value.pointer (some ⟨q, 0, none⟩)), (Value.int .i64 u)] h = some ((Value.int .u32 ((R : Int))), h) := by
  have hu' := inB_t.1 hu
  have n16 := G.n16
  have hlt : u.toNat < n := by omega
  have s := sh32 (v := u) hu'.1 (by omega)
  have hs : 2 ^ u.toNat < 2 ^ n := Nat.pow_lt_pow_right (by omega) hlt
  have key : ∀ md : Md, ∃ R : Nat, R < 2 ^ n ∧ (∀ w, R.testBit w = true ↔ Way (eB n nb) u.toNat w) ∧ C md 40 [(Value.pointer (some ⟨q, 0, none⟩)), (Value.int .i64 u)] h = some ((Value.int .u32 ((R : Int))), h) := by
    intro md
    obtain ⟨R, h1, h2, h3⟩ := out_loop (md := ⟨h.length, h.length⟩) G hlt ((Value.int .u32 0)) h _ (2 ^ u.toNat) (Nat.le_refl _) hs (by rw [Nat.testBit_two_pow_self]) (fun w hw => by
      rw [Nat.testBit_two_pow] at hw
      have : u.toNat = w := by simpa using hw
      rw [this]; exact .here)
    refine ⟨R, h1, h2, ?_⟩
    rw [C, call_eq, F40_eq]
    unfold F40
    simp only [go_sem, Nat.reduceAdd, Nat.reduceLeDiff, Nat.reduceMul, Int.reduceBEq, Int.reduceBNe, Int.reduceLT, Int.reduceLE, Int.reduceGT, s]
    exact h3
  obtain ⟨R, h1, h2, _⟩ := key ⟨0, 0⟩
  refine ⟨R, h1, h2, fun md => ?_⟩
  obtain ⟨R', h1', h2', h3'⟩ := key md
  have : R' = R := Nat.eq_of_testBit_eq fun w => by
    have := (h2' w).trans (h2 w).symm
    cases h : R.testBit w <;> cases h' : R'.testBit w <;> simp_all
  rw [← this]; exact h3'
noncomputable def wayB (E : Nat → Nat → Bool) (u v : Nat) : Bool := @decide (Way E u v) (Classical.propDecidable _)
theorem wayB_t {E : Nat → Nat → Bool} {u v : Nat} : wayB E u v = true ↔ Way E u v := by unfold wayB; exact @decide_eq_true_iff _ (Classical.propDecidable _)
/-- Is there a way? -/
noncomputable def wy (n : Nat) (nb : List Nat) (u v : Int) : Bool := (inB n u && inB n v) && wayB (eB n nb) u.toNat v.toNat
theorem joined_g (G : Gr h q n nb) (u v : Int) : C md 14 [(Value.pointer (some ⟨q, 0, none⟩)), (Value.int .i64 u), (Value.int .i64 v)] h = some ((Value.bool (wy n nb u v)), h) := by
  rw [C, call_eq, F14_eq]
  unfold F14 wy
  have e1 := fun (m : Md) => there_s (md := m) G u
  have e2 := fun (m : Md) => there_s (md := m) G v
  have n16 := G.n16
  cases hu : inB n u
  · simp only [go_sem, Nat.reduceAdd, Nat.reduceLeDiff, Nat.reduceMul, Int.reduceBEq, Int.reduceBNe, Int.reduceLT, Int.reduceLE, Int.reduceGT, e1, hu]
  · cases hv : inB n v
    · simp only [go_sem, Nat.reduceAdd, Nat.reduceLeDiff, Nat.reduceMul, Int.reduceBEq, Int.reduceBNe, Int.reduceLT, Int.reduceLE, Int.reduceGT, e1, e2, hu, hv]
    · have hv' := inB_t.1 hv
      obtain ⟨R, h1, h2, h3⟩ := reach_s G hu
      have h32 : R < 2 ^ 32 := Nat.lt_of_lt_of_le h1 (Nat.pow_le_pow_right (by omega) (by omega))
      have b2 := (bit32 h32 (v := v) hv'.1 (by omega)).2
      have s := fun {α : Type} {ty : TypeId} {k : Value → Option α} => and1 h32 (v := v) hv'.1 (by omega) (α := α) (ty := ty) (k := k)
      have e : R.testBit v.toNat = wayB (eB n nb) u.toNat v.toNat := Bool.eq_iff_iff.2 ((h2 _).trans wayB_t.symm)
      rw [e] at b2
      simp only [go_sem, Nat.reduceAdd, Nat.reduceLeDiff, Nat.reduceMul, Int.reduceBEq, Int.reduceBNe, Int.reduceLT, Int.reduceLE, Int.reduceGT, e1, e2, hu, hv, h3, s, aBin_and, aBin_eql, b2]
theorem wthere (h : Heap) {b : Nat} (hb : rd h b 0 = some ((Value.int .i64 ((n : Int))))) (v : Int) : C md 69 [(Value.int .i64 v), (Value.pointer (some ⟨b, 0, none⟩))] h = some ((Value.bool (inB n v)), h) := by
  rw [C, call_eq, F69_eq]
  unfold F69
  by_cases h0 : v ≥ 0
  · by_cases h1 : v < (n : Int)
    · have : inB n v = true := inB_t.2 ⟨h0, h1⟩
      simp only [go_sem, Nat.reduceAdd, Nat.reduceLeDiff, Nat.reduceMul, Int.reduceBEq, Int.reduceBNe, Int.reduceLT, Int.reduceLE, Int.reduceGT, h0, hb, aBin_lss, h1, this]
    · have : inB n v = false := inB_f.2 fun q => h1 q.2
      simp only [go_sem, Nat.reduceAdd, Nat.reduceLeDiff, Nat.reduceMul, Int.reduceBEq, Int.reduceBNe, Int.reduceLT, Int.reduceLE, Int.reduceGT, h0, hb, aBin_lss, h1, this]
  · have : inB n v = false := inB_f.2 fun q => h0 q.1
    simp only [go_sem, Nat.reduceAdd, Nat.reduceLeDiff, Nat.reduceMul, Int.reduceBEq, Int.reduceBNe, Int.reduceLT, Int.reduceLE, Int.reduceGT, h0, this]
def wr (n : Nat) (k u v : Int) : Int := if k < 1 ∨ 3 < k then 10 else bif !(inB n u && inB n v) then 30 else if u = v ∧ k ≠ 3 then 31 else 0
theorem wrong_s (h : Heap) (k u v a b : Int) : C md 42 [(Value.agg #[(Value.int .i64 ((n : Int))), (Value.int .i64 a), (Value.int .i64 b)]), (Value.agg #[(Value.int .i64 k), (Value.int .i64 u), (Value.int .i64 v)])] h = some ((Value.int .i64 (wr n k u v)), h) := by
  rw [C, call_eq, F42_eq]
  unfold F42
  have e1 := fun (m : Md) (x : Int) => wthere (md := m) (n := n) (b := h.length) (h ++ [Blk.own [(Value.int .i64 ((n : Int))), (Value.int .i64 a), (Value.int .i64 b)], Blk.own [(Value.int .i64 k), (Value.int .i64 u), (Value.int .i64 v)]]) (by rw [rd_new0]; rfl) x
  by_cases k1 : k < 1
  · have ew : wr n k u v = 10 := if_pos (.inl k1)
    simp only [go_sem, Nat.reduceAdd, Nat.reduceLeDiff, Nat.reduceMul, Int.reduceBEq, Int.reduceBNe, Int.reduceLT, Int.reduceLE, Int.reduceGT, k1, ew]
  by_cases k3 : k > 3
  · have ew : wr n k u v = 10 := if_pos (.inr k3)
    simp only [go_sem, Nat.reduceAdd, Nat.reduceLeDiff, Nat.reduceMul, Int.reduceBEq, Int.reduceBNe, Int.reduceLT, Int.reduceLE, Int.reduceGT, k1, aBin_gtr, k3, ew]
  have kk : ¬ (k < 1 ∨ 3 < k) := by omega
  have w1 : wr n k u v = bif !(inB n u && inB n v) then 30 else if u = v ∧ k ≠ 3 then 31 else 0 := if_neg kk
  cases hu : inB n u
  · have ew : wr n k u v = 30 := by rw [w1, hu]; rfl
    simp only [go_sem, Nat.reduceAdd, Nat.reduceLeDiff, Nat.reduceMul, Int.reduceBEq, Int.reduceBNe, Int.reduceLT, Int.reduceLE, Int.reduceGT, k1, aBin_gtr, k3, e1, hu, ew]
  cases hv : inB n v
  · have ew : wr n k u v = 30 := by rw [w1, hu, hv]; rfl
    simp only [go_sem, Nat.reduceAdd, Nat.reduceLeDiff, Nat.reduceMul, Int.reduceBEq, Int.reduceBNe, Int.reduceLT, Int.reduceLE, Int.reduceGT, k1, aBin_gtr, k3, e1, hu, clV_1, hv, aUn_not, ew]
  have w2 : wr n k u v = if u = v ∧ k ≠ 3 then 31 else 0 := by rw [w1, hu, hv]; rfl
  by_cases huv : u = v
  · have b1 : (u == v) = true := by simp [huv]
    by_cases k4 : k = 3
    · have b2 : (k != 3) = false := by simp [k4]
      have ew : wr n k u v = 0 := w2.trans (if_neg fun q => q.2 k4)
      simp only [go_sem, Nat.reduceAdd, Nat.reduceLeDiff, Nat.reduceMul, Int.reduceBEq, Int.reduceBNe, Int.reduceLT, Int.reduceLE, Int.reduceGT, k1, aBin_gtr, k3, e1, hu, clV_1, hv, aUn_not, b1, aBin_neq, b2, ew]
    · have b2 : (k != 3) = true := by simp [k4]
      have ew : wr n k u v = 31 := w2.trans (if_pos ⟨huv, k4⟩)
      simp only [go_sem, Nat.reduceAdd, Nat.reduceLeDiff, Nat.reduceMul, Int.reduceBEq, Int.reduceBNe, Int.reduceLT, Int.reduceLE, Int.reduceGT, k1, aBin_gtr, k3, e1, hu, clV_1, hv, aUn_not, b1, aBin_neq, b2, ew]
  · have b1 : (u == v) = false := by simp [huv]
    have ew : wr n k u v = 0 := w2.trans (if_neg fun q => huv q.1)
    simp only [go_sem, Nat.reduceAdd, Nat.reduceLeDiff, Nat.reduceMul, Int.reduceBEq, Int.reduceBNe, Int.reduceLT, Int.reduceLE, Int.reduceGT, k1, aBin_gtr, k3, e1, hu, clV_1, hv, aUn_not, b1, ew]
/-- A turned edge. -/
def tn (nb : List Nat) (u v : Nat) : List Nat := (nb.set u (nb.getD u 0 ^^^ 2 ^ v)).set v (nb.getD v 0 ^^^ 2 ^ u)
theorem tn_get {n : Nat} {nb : List Nat} (N : Nb n nb) {u v : Nat} (hu : u < 16) (hv : v < 16) (huv : u ≠ v) (x : Nat) : (tn nb u v).getD x 0 = if x = v then nb.getD v 0 ^^^ 2 ^ u else if x = u then nb.getD u 0 ^^^ 2 ^ v else nb.getD x 0 := by
  have l := N.len
  unfold tn
  simp only [List.getD_eq_getElem?_getD, List.getElem?_set, List.length_set, l]
  by_cases h1 : v = x
  · subst h1; simp [hv]
  · have h1' : ¬ x = v := fun q => h1 q.symm
    by_cases h2 : u = x
    · subst h2; simp [h1, h1', hu]
    · have h2' : ¬ x = u := fun q => h2 q.symm
      simp [h1, h1', h2, h2']
theorem tn_nb {n : Nat} {nb : List Nat} (N : Nb n nb) (h16 : n ≤ 16) {u v : Nat} (hu : u < n) (hv : v < n) (huv : u ≠ v) : Nb n (tn nb u v) := by
  refine ⟨by simp [tn, N.len], fun x => ?_⟩
  rw [tn_get N (by omega) (by omega) huv]
  split
  · exact Nat.xor_lt_two_pow (N.lt v) (Nat.pow_lt_pow_right (by omega) hu)
  · split
    · exact Nat.xor_lt_two_pow (N.lt u) (Nat.pow_lt_pow_right (by omega) hv)
    · exact N.lt x
theorem tn_bit {n : Nat} {nb : List Nat} (N : Nb n nb) {u v : Nat} (hu : u < 16) (hv : v < 16) (huv : u ≠ v) (x y : Nat) : ((tn nb u v).getD x 0).testBit y = ((nb.getD x 0).testBit y ^^ (decide (x = u ∧ y = v) || decide (x = v ∧ y = u))) := by
  rw [tn_get N hu hv huv]
  by_cases h1 : x = v
  · subst h1
    have : ¬ x = u := fun q => huv q.symm
    simp [Nat.testBit_xor, Nat.testBit_two_pow, this, eq_comm]
  · by_cases h2 : x = u
    · subst h2
      simp [Nat.testBit_xor, Nat.testBit_two_pow, h1, eq_comm]
    · simp [h1, h2]
theorem grC_set {u : Nat} {x : Nat} : (grC n nb).set (1 + u) ((Value.int .u32 ((x : Int)))) = grC n (nb.set u x) := by
  rw [Nat.add_comm]; simp [grC, List.map_set]
theorem aBin_xor {α : Type} {P : Program} {ty : TypeId} {kd : IntKind} {a b : Int} {k : Value → Option α} : aBin P .xor ty (.int kd a) (.int kd b) k = k (.int kd (bXor kd a b)) := by simp [aBin, intOp, bXor]
theorem turn_s (G : Gr h q n nb) (hro : md.ro ≤ q) (hu : inB n u = true) (hv : inB n v = true) (huv : u ≠ v) :
    C md 43 [(Value.pointer (some ⟨q, 0, none⟩)), (Value.int .i64 u), (Value.int .i64 v)] h = some ((Value.tuple #[]), h.set q (.own (grC n (tn nb u.toNat v.toNat)))) := by
  have hu' := inB_t.1 hu
  have hv' := inB_t.1 hv
  have n16 := G.n16
  rw [C, call_eq, F43_eq]
  unfold F43
  have hx := fun {α : Type} (kk : Value → Option α) => ixA_p 1 q 1 16 u kk ⟨hu'.1, by omega⟩
  have hy := fun {α : Type} (kk : Value → Option α) => ixA_p 1 q 1 16 v kk ⟨hv'.1, by omega⟩
  have r := G.rd1 (u := u.toNat) (by omega)
  have s1 := sh32 (v := u) hu'.1 (by omega)
  have s2 := sh32 (v := v) hv'.1 (by omega)
  have p1 : (2 : Nat) ^ u.toNat < 2 ^ 32 := Nat.pow_lt_pow_right (by omega) (by omega)
  have p2 : (2 : Nat) ^ v.toNat < 2 ^ 32 := Nat.pow_lt_pow_right (by omega) (by omega)
  have x1 := bXor32 (G.lt32 u.toNat) p2
  have x2 := bXor32 (G.lt32 v.toNat) p1
  have w1 : wrN ⟨md.ro, h.length⟩ h q (1 + u.toNat) [(Value.int .u32 (((nb.getD u.toNat 0 ^^^ 2 ^ v.toNat : Nat) : Int)))] = some (h.set q (.own (grC n (nb.set u.toNat (nb.getD u.toNat 0 ^^^ 2 ^ v.toNat))))) := by
    rw [wr_own (md := ⟨md.ro, h.length⟩) G.hq hro rfl (by simp [grC, G.N.len]; omega), grC_set]
  have h1 := set_here (k' := .own (grC n (nb.set u.toNat (nb.getD u.toNat 0 ^^^ 2 ^ v.toNat)))) G.hq
  have r2 : rd (h.set q (.own (grC n (nb.set u.toNat (nb.getD u.toNat 0 ^^^ 2 ^ v.toNat))))) q (1 + v.toNat) = some ((Value.int .u32 (((nb.getD v.toNat 0 : Nat) : Int)))) := by
    rw [rd_own h1]
    have l := G.N.len
    have : v.toNat < 16 := by omega
    have ne : ¬ u.toNat = v.toNat := by omega
    rw [Nat.add_comm]
    simp [grC, List.getD, List.getElem?_set, l, this, ne]
  have w2 : wrN ⟨md.ro, h.length⟩ (h.set q (.own (grC n (nb.set u.toNat (nb.getD u.toNat 0 ^^^ 2 ^ v.toNat))))) q (1 + v.toNat) [(Value.int .u32 (((nb.getD v.toNat 0 ^^^ 2 ^ u.toNat : Nat) : Int)))] = some (h.set q (.own (grC n (tn nb u.toNat v.toNat)))) := by
    rw [wr_own (md := ⟨md.ro, h.length⟩) h1 hro rfl (by simp [grC, G.N.len]; omega), grC_set, List.set_set]
    rfl
  have tk : (h.set q (.own (grC n (tn nb u.toNat v.toNat)))).take h.length = h.set q (.own (grC n (tn nb u.toNat v.toNat))) := take_same (by simp)
  simp only [go_sem, Nat.reduceAdd, Nat.reduceLeDiff, Nat.reduceMul, Int.reduceBEq, Int.reduceBNe, Int.reduceLT, Int.reduceLE, Int.reduceGT, okNil, okP_p, hx, hy, r, s1, s2, aBin_xor, x1, x2, w1, r2, w2, tk]
theorem Gr.turn (G : Gr h q n nb) (hu : inB n u = true) (hv : inB n v = true) (huv : u ≠ v) : Gr (h.set q (.own (grC n (tn nb u.toNat v.toNat)))) q n (tn nb u.toNat v.toNat) := by
  have hu' := inB_t.1 hu
  have hv' := inB_t.1 hv
  exact ⟨set_here G.hq, G.n1, G.n16, tn_nb G.N G.n16 (by omega) (by omega) (by omega)⟩
theorem set_self {h : Heap} {q : Nat} {k : Blk} (e : h[q]? = some k) : h.set q k = h := by
  refine List.ext_getElem? fun i => ?_
  rw [List.getElem?_set]
  split
  · rename_i hi; subst hi; rw [if_pos (lt_of e), e]
  · rfl
/-- A call of a graph: what it answers, and the graph then. -/
noncomputable def gDo (n : Nat) (nb : List Nat) (k u v : Int) : Bool × Int × List Nat :=
  if wr n k u v ≠ 0 then (false, wr n k u v, nb) else if k = 3 then (wy n nb u v, 0, nb) else if bt nb u v = decide (k = 1) then (false, 0, nb) else (true, 0, tn nb u.toNat v.toNat)
theorem wr_0 {k u v : Int} (h : wr n k u v = 0) : 1 ≤ k ∧ k ≤ 3 ∧ inB n u = true ∧ inB n v = true ∧ (k ≠ 3 → u ≠ v) := by
  unfold wr at h
  split at h
  · cases h
  · rename_i hk
    cases hu : inB n u
    · rw [hu] at h; cases h
    · cases hv : inB n v
      · rw [hu, hv] at h; cases h
      · rw [hu, hv] at h
        simp only [Bool.and_self, Bool.not_true, cond_false] at h
        refine ⟨by omega, by omega, rfl, rfl, fun h3 e => ?_⟩
        rw [if_pos ⟨e, h3⟩] at h
        cases h
theorem do_s (G : Gr h q n nb) (hro : md.ro ≤ q) (k u v : Int) :
    C md 18 [(Value.pointer (some ⟨q, 0, none⟩)), (Value.agg #[(Value.int .i64 k), (Value.int .i64 u), (Value.int .i64 v)])] h = some ((Value.tuple #[(Value.bool ((gDo n nb k u v).1)), (Value.int .i64 ((gDo n nb k u v).2.1))]), h.set q (.own (grC n (gDo n nb k u v).2.2))) := by
  rw [C, call_eq, F18_eq]
  unfold F18
  have G1 := G.app [.own [(Value.int .i64 k), (Value.int .i64 u), (Value.int .i64 v)]]
  have r0 := G1.rd0
  have ew := fun (m : Md) => wrong_s (md := m) (n := n) (h ++ [.own [(Value.int .i64 k), (Value.int .i64 u), (Value.int .i64 v)]]) k u v 0 0
  have ltq := lt_of G.hq
  by_cases h0 : wr n k u v = 0
  · have b0 : (wr n k u v != 0) = false := by simp [h0]
    obtain ⟨k1, k3, hu, hv, huv⟩ := wr_0 h0
    by_cases hk3 : k = 3
    · have b3 : (k == 3) = true := by simp [hk3]
      have ej := fun (m : Md) => joined_g (md := m) G1 u v
      have e : gDo n nb k u v = (wy n nb u v, 0, nb) := by unfold gDo; rw [if_neg (fun q => q h0), if_pos hk3]
      rw [e]
      simp only [go_sem, Nat.reduceAdd, Nat.reduceLeDiff, Nat.reduceMul, Int.reduceBEq, Int.reduceBNe, Int.reduceLT, Int.reduceLE, Int.reduceGT, okNil, okP_p, r0, ew, b0, b3, ej, set_self G.hq]
    · have b3 : (k == 3) = false := by simp [hk3]
      have eh := fun (m : Md) => has_g (md := m) G1 u v
      have uB : Try.prog.underlying 4 = some .bool := by kernel_rfl
      have hk1 : (k == 1) = decide (k = 1) := rfl
      by_cases hb : bt nb u v = decide (k = 1)
      · have e : gDo n nb k u v = (false, 0, nb) := by unfold gDo; rw [if_neg (fun q => q h0), if_neg hk3, if_pos hb]
        have bb : (bt nb u v == (k == 1)) = true := by rw [hb, hk1]; simp
        rw [e]
        simp only [go_sem, Nat.reduceAdd, Nat.reduceLeDiff, Nat.reduceMul, Int.reduceBEq, Int.reduceBNe, Int.reduceLT, Int.reduceLE, Int.reduceGT, okNil, okP_p, r0, ew, b0, b3, eh, hu, hv, aBin_eqlB uB, bb, set_self G.hq]
      · have e : gDo n nb k u v = (true, 0, tn nb u.toNat v.toNat) := by unfold gDo; rw [if_neg (fun q => q h0), if_neg hk3, if_neg hb]
        have bb : (bt nb u v == (k == 1)) = false := by rw [hk1]; simpa using hb
        have et := fun (m : Md) (hm : m.ro ≤ q) => turn_s (md := m) G1 hm hu hv (huv hk3)
        have et2 := et ⟨md.ro, h.length⟩ hro
        have tk : ((h ++ [Blk.own [(Value.int .i64 k), (Value.int .i64 u), (Value.int .i64 v)]]).set q (.own (grC n (tn nb u.toNat v.toNat)))).take h.length = h.set q (.own (grC n (tn nb u.toNat v.toNat))) := by
          rw [List.set_append_left _ _ ltq, List.take_left' (by simp)]
        rw [e]
        simp only [go_sem, Nat.reduceAdd, Nat.reduceLeDiff, Nat.reduceMul, Int.reduceBEq, Int.reduceBNe, Int.reduceLT, Int.reduceLE, Int.reduceGT, okNil, okP_p, r0, ew, b0, b3, eh, hu, hv, aBin_eqlB uB, bb, et2, tk]
  · have b0 : (wr n k u v != 0) = true := by simp [h0]
    have e : gDo n nb k u v = (false, wr n k u v, nb) := by unfold gDo; rw [if_pos h0]
    rw [e]
    simp only [go_sem, Nat.reduceAdd, Nat.reduceLeDiff, Nat.reduceMul, Int.reduceBEq, Int.reduceBNe, Int.reduceLT, Int.reduceLE, Int.reduceGT, okNil, okP_p, r0, ew, b0, set_self G.hq]
end Go.Det.E
