/- The edges' slots, in the order of pairs. -/
import Derived.Test.YtocjphligodnfaaG13
set_option autoImplicit false
set_option linter.unusedVariables false
set_option linter.unusedSimpArgs false
namespace Go.Det.E
open Go.Proofs Go.Det
attribute [local congr] bind_c cond_c
theorem tInts : SlT Try.prog 47 3 1 8 [(Value.int .i64 0)] := ⟨by kernel_rfl, by kernel_rfl, by kernel_rfl, rfl, by decide, by decide, rfl⟩
abbrev encI (x : Int) : List Value := [(Value.int .i64 x)]
theorem encI_len (x : Int) : (encI x).length = 1 := rfl
/-- The slot of a pair, if it has one. -/
def slotP (all : List One) (i j : Nat) : List Int := match all[(ixF (pP i j) all 0).toNat]?, decide (ixF (pP i j) all 0 < 0) with
  | some x, false => [x.s]
  | _, _ => []
def slotsR (all : List One) (i : Nat) : Nat → List Int
  | 0 => []
  | d + 1 => slotsR all i d ++ slotP all i (i + 1 + d)
def slotsA (all : List One) (n : Nat) : Nat → List Int
  | 0 => []
  | i + 1 => slotsA all n i ++ slotsR all i (n - 1 - i)
variable {md : Md} {h : Heap} {p a b q : Nat} {S T : Int} {l c : List Int} {v vv : Value} {n : Nat} {all : List One}
theorem all_v (hR : Rt n S T) (I : EI n S T l all) (hra : md.ro ≤ a) (hab : a < h.length ∧ b < h.length) (hro : md.ro ≤ h.length) {i : Nat} (hi : i < n) (pre : List Int) (hpre : pre.length ≤ 300) (bq : h[q]? = some (.own [(Value.int .i64 ((n : Int))), (Value.int .i64 S), (Value.int .i64 T), ifA a])) (hq : q ≠ a ∧ q ≠ b) (s2 s11 : Value) : ∀ (m d : Nat) (s3 : Value) (c : List Int) (hh : Heap), i + 1 + d + m = n → Near a b h hh → Ar hh a b l c → SlO hh h.length 1 encI s3 (pre ++ slotsR all i d) → (slotsR all i d).length ≤ d →
    ∃ s3' c' hh', J45_0b0 C md ((Value.pointer (some ⟨q, 0, none⟩))) s2 s3 ((Value.int .i64 ((i : Int)))) ((Value.int .i64 (((i + 1 + d : Nat) : Int)))) s11 ((Value.int .i64 ((i : Int)))) hh = some (.inl (((Value.pointer (some ⟨q, 0, none⟩)), s2, s3', s11, (Value.int .i64 (((i + 1 : Nat) : Int)))), hh')) ∧ Near a b h hh' ∧ Ar hh' a b l c' ∧ SlO hh' h.length 1 encI s3' (pre ++ slotsR all i (n - 1 - i)) := by
  intro m
  induction m with
  | zero =>
    intro d s3 c hh hd N A Q hlen
    have hb := (N.oth _ (lt_of bq) hq.1 hq.2).trans bq
    have r0 : rd hh q 0 = some ((Value.int .i64 ((n : Int)))) := by rw [rd_own hb]; rfl
    have hlt : ¬ ((i + 1 + d : Nat) : Int) < (n : Int) := by omega
    have e : IntKind.wrap .i64 ((i : Int) + 1) = ((i + 1 : Nat) : Int) := by have r := hR; unfold Rt at r; rw [wi (by omega) (by omega)]; rfl
    have hd' : n - 1 - i = d := by omega
    refine ⟨s3, c, hh, ?_, N, A, by rw [hd']; exact Q⟩
    rw [J45_0b0_step]
    unfold Jr45_0b0
    simp only [go_sem, Nat.reduceAdd, Nat.reduceLeDiff, Nat.reduceMul, Int.reduceBEq, Int.reduceBNe, Int.reduceLT, Int.reduceLE, Int.reduceGT, r0, aBin_lss, hlt, Jk45_0b0, aBin_add, e]
  | succ m ih =>
    intro d s3 c hh hd N A Q hlen
    have r := hR
    unfold Rt at r
    have hb := (N.oth _ (lt_of bq) hq.1 hq.2).trans bq
    have r0 : rd hh q 0 = some ((Value.int .i64 ((n : Int)))) := by rw [rd_own hb]; rfl
    have hlt : ((i + 1 + d : Nat) : Int) < (n : Int) := by omega
    have e : IntKind.wrap .i64 (((i + 1 + d : Nat) : Int) + 1) = ((i + 1 + (d + 1) : Nat) : Int) := by rw [wi (by omega) (by omega)]; omega
    have mm := mm_of (u := (i : Int)) (v := ((i + 1 + d : Nat) : Int)) (by omega)
    rcases pair_of I (u := (i : Int)) (v := ((i + 1 + d : Nat) : Int)) (by omega) (by omega) (by omega) with ⟨h1, h2⟩ | ⟨k, x, h1, h2, h3, h4, h5⟩
    · rw [mm.1, mm.2] at h1
      obtain ⟨h9, c9, e9, A9, o9⟩ := find_e (md := md) hR A hra (i : Int) ((i + 1 + d : Nat) : Int) (o := none) trivial h2
      simp only [resO] at e9
      have sp : slotP all i (i + 1 + d) = [] := by unfold slotP; rw [h1]; simp
      have Q9 : SlO h9 h.length 1 encI s3 (pre ++ slotsR all i (d + 1)) := by
        rw [slotsR, sp, List.append_nil]; exact Q.at fun x h1 h2 => o9.oth x (by omega) (by omega)
      obtain ⟨s3', c', hh', e1, r1⟩ := ih (d + 1) s3 c9 h9 (by omega) (N.only o9) A9 Q9 (by rw [slotsR, sp]; simp; omega)
      refine ⟨s3', c', hh', ?_, r1⟩
      rw [J45_0b0_step]
      unfold Jr45_0b0
      simp only [go_sem, Nat.reduceAdd, Nat.reduceLeDiff, Nat.reduceMul, Int.reduceBEq, Int.reduceBNe, Int.reduceLT, Int.reduceLE, Int.reduceGT, r0, aBin_lss, hlt, rdq hb, e9, aBin_add, e]
      exact e1
    · rw [mm.1, mm.2] at h1
      obtain ⟨h9, c9, e9, A9, o9⟩ := find_e (md := md) hR A hra (i : Int) ((i + 1 + d : Nat) : Int) (o := some (x.s, x.t)) (ok_of hR I (List.mem_of_getElem? h2)) h5
      simp only [resO] at e9
      have sp : slotP all i (i + 1 + d) = [x.s] := by
        unfold slotP
        rw [h1]
        have : ((k : Int)).toNat = k := by omega
        have h0 : decide ((k : Int) < 0) = false := by simp
        rw [this, h2, h0]
      have N9 := N.only o9
      have hN := N9.len
      have Q9 : SlO h9 h.length 1 encI s3 (pre ++ slotsR all i d) := Q.at fun x h1 h2 => o9.oth x (by omega) (by omega)
      obtain ⟨s4, h10, a10, Q10, O10⟩ := append_own (md := md) tInts Q9 hro hN (cs := [(Value.int .i64 x.s)]) (ys := [x.s]) rfl (by simp) rfl (by simp; omega)
      have a10' : ∀ (kk : Value → Heap → Option (((Value × Value × Value × Value × Value × Value × Value) × Heap) ⊕ (Exit × (Value × Value × Value × Value × Value × Value × Value) × Heap))), aBuiltin Try.prog md .append #[47, 47] [s3, (Value.slice (some ⟨h9.length, 0, none⟩) 1 1)] (h9 ++ [Blk.own [(Value.int .i64 x.s)]]) kk = kk s4 h10 := fun kk => a10 kk
      have N10 : Near a b h h10 := ⟨by have := O10.len; omega, fun x hx h1 h2 => (O10.old x hx).trans (N9.oth x hx h1 h2)⟩
      have A10 : Ar h10 a b l c9 := ⟨(O10.old _ hab.1).trans A9.ha, (O10.old _ hab.2).trans A9.hb, A9.hc, A9.ne⟩
      obtain ⟨s3', c', hh', e1, r1⟩ := ih (d + 1) s4 c9 h10 (by omega) N10 A10 (by rw [slotsR, sp, ← List.append_assoc]; exact Q10) (by rw [slotsR, sp]; simp; omega)
      refine ⟨s3', c', hh', ?_, r1⟩
      rw [J45_0b0_step]
      unfold Jr45_0b0
      simp only [go_sem, Nat.reduceAdd, Nat.reduceLeDiff, Nat.reduceMul, Int.reduceBEq, Int.reduceBNe, Int.reduceLT, Int.reduceLE, Int.reduceGT, r0, aBin_lss, hlt, rdq hb, e9]
      rw [a10']
      simp only [go_sem, Nat.reduceAdd, Nat.reduceLeDiff, Nat.reduceMul, Int.reduceBEq, Int.reduceBNe, Int.reduceLT, Int.reduceLE, Int.reduceGT, aBin_add, e]
      exact e1
theorem slotP_len (all : List One) (i j : Nat) : (slotP all i j).length ≤ 1 := by
  unfold slotP
  split <;> simp
theorem slotsR_len (all : List One) (i d : Nat) : (slotsR all i d).length ≤ d := by
  induction d with
  | zero => simp [slotsR]
  | succ d ih => rw [slotsR, List.length_append]; have := slotP_len all i (i + 1 + d); omega
theorem slotsA_len (all : List One) {n : Nat} (hn : n ≤ 16) (i : Nat) : (slotsA all n i).length ≤ 16 * i := by
  induction i with
  | zero => simp [slotsA]
  | succ i ih => rw [slotsA, List.length_append]; have := slotsR_len all i (n - 1 - i); omega
theorem all_u {h0 : Heap} (hR : Rt n S T) (I : EI n S T l all) (hra : md.ro ≤ a) (hab : a < h.length ∧ b < h.length) (hro : md.ro ≤ h.length) (bq : h[q]? = some (.own [(Value.int .i64 ((n : Int))), (Value.int .i64 S), (Value.int .i64 T), ifA a])) (hq : q ≠ a ∧ q ≠ b) (s2 : Value) : ∀ (m i : Nat) (s3 : Value) (c : List Int) (hh : Heap), i + m = n → Near a b h hh → Ar hh a b l c → SlO hh h.length 1 encI s3 (slotsA all n i) →
    ∃ s3' c' hh', J45_0 C md h0 ((Value.pointer (some ⟨q, 0, none⟩))) s2 s3 ((Value.int .i64 ((n : Int)))) ((Value.int .i64 ((i : Int)))) hh = some (s3', hh') ∧ Near a b h hh' ∧ Ar hh' a b l c' ∧ SlO hh' h.length 1 encI s3' (slotsA all n n) := by
  have r := hR
  unfold Rt at r
  intro m
  induction m with
  | zero =>
    intro i s3 c hh hi N A Q
    obtain rfl : i = n := by omega
    refine ⟨s3, c, hh, ?_, N, A, Q⟩
    rw [J45_0_step]
    unfold Jr45_0
    simp only [go_sem, Nat.reduceAdd, Nat.reduceLeDiff, Nat.reduceMul, Int.reduceBEq, Int.reduceBNe, Int.reduceLT, Int.reduceLE, Int.reduceGT, aBin_lss, Int.lt_irrefl, Jk45_0]
  | succ m ih =>
    intro i s3 c hh hi N A Q
    have hlt : (i : Int) < (n : Int) := by omega
    have e : IntKind.wrap .i64 ((i : Int) + 1) = ((i + 1 + 0 : Nat) : Int) := by rw [wi (by omega) (by omega)]; rfl
    have hl := slotsA_len all (n := n) (by omega) i
    obtain ⟨s4, c4, h4, e4, N4, A4, Q4⟩ := all_v (md := md) hR I hra hab hro (i := i) (by omega) (slotsA all n i) (by omega) bq hq s2 ((Value.int .i64 ((n : Int)))) (n - 1 - i) 0 s3 c hh (by omega) N A (by rw [slotsR, List.append_nil]; exact Q) (by simp [slotsR])
    obtain ⟨s3', c', hh', e1, r1⟩ := ih (i + 1) s4 c4 h4 (by omega) N4 A4 Q4
    refine ⟨s3', c', hh', ?_, r1⟩
    rw [J45_0_step]
    unfold Jr45_0
    simp only [go_sem, Nat.reduceAdd, Nat.reduceLeDiff, Nat.reduceMul, Int.reduceBEq, Int.reduceBNe, Int.reduceLT, Int.reduceLE, Int.reduceGT, aBin_lss, hlt, aBin_add, e]
    rw [Nat.add_zero] at e4
    rw [e4]
    exact e1
theorem all_e (hR : Rt n S T) (A : Ar h a b l c) (I : EI n S T l all) (hra : md.ro ≤ a) (hro : md.ro ≤ h.length) :
    ∃ v' c' h', C md 45 [E4 n S T a] h = some (v', h') ∧ Near a b h h' ∧ Ar h' a b l c' ∧ SlO h' (h.length + 1) 1 encI v' (slotsA all n n) := by
  have la := lt_of A.ha
  have lb := lt_of A.hb
  obtain ⟨v', c', h', e, N, A', Q⟩ := all_u (md := md) (h := h ++ [Blk.own [(Value.int .i64 ((n : Int))), (Value.int .i64 S), (Value.int .i64 T), ifA a]]) (h0 := h) (q := h.length) hR I hra (by simp; omega) (by simp; omega) (by simp) (by omega) (.slice none 0 0) n 0 (.slice none 0 0) c _ (by omega) Near.refl (A.app _) (SlO.nil _ _ encI_len)
  refine ⟨v', c', h', ?_, (Near.refl.app _).trans N, A', by simpa using Q⟩
  rw [C, call_eq, F45_eq]
  unfold F45
  simp only [go_sem, Nat.reduceAdd, Nat.reduceLeDiff, Nat.reduceMul, Int.reduceBEq, Int.reduceBNe, Int.reduceLT, Int.reduceLE, Int.reduceGT]
  exact e
end Go.Det.E
