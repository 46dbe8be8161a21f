/- Sorted numbers without those that are as the one ahead (slices.Compact); the sort of no numbers. -/
import Derived.Test.YtalelfcdhmfgoaaO8
import Derived.Test.YtalelfcdhmfgoaaDetW
set_option autoImplicit false
set_option linter.unusedVariables false
set_option linter.unusedSimpArgs false
namespace Go.Det.O
open Go.Det.E
open Go.Proofs Go.Det
attribute [local congr] bind_c cond_c
variable {md : Md} {h hh k h' h'' h0 : Heap} {v : Value} {d e : Array Int} {n i j b o : Nat}
/-- The first numbers, without those that are as the one ahead. -/
def dd (d : Array Int) : Nat → List Int
  | 0 => []
  | 1 => [d[0]!]
  | j + 2 => if d[j + 1]! = d[j]! then dd d (j + 1) else dd d (j + 1) ++ [d[j + 1]!]
theorem dd_next (d : Array Int) (h : 1 ≤ j) : dd d (j + 1) = if d[j]! = d[j - 1]! then dd d j else dd d j ++ [d[j]!] := by
  obtain ⟨j, rfl⟩ : ∃ q, j = q + 1 := ⟨j - 1, by omega⟩
  rfl
theorem dd_le (d : Array Int) : ∀ j, (dd d j).length ≤ j := by
  intro j
  induction j with
  | zero => exact Nat.le_refl _
  | succ j ih =>
    by_cases h : 1 ≤ j
    · rw [dd_next d h]; split
      · omega
      · simp; omega
    · obtain rfl : j = 0 := by omega
      exact Nat.le_refl _
theorem dd_lt (d : Array Int) (h : 1 ≤ j) (e : d[j]! = d[j - 1]!) : (dd d (j + 1)).length ≤ j := by
  rw [dd_next d h, if_pos e]; exact dd_le d j
theorem lay_take : ∀ (vs cs : List Value) (i : Nat), (lay cs i vs).take i = cs.take i := by
  intro vs
  induction vs with
  | nil => intro cs i; rfl
  | cons v vs ih =>
    intro cs i
    have h1 := ih (cs.set i v) (i + 1)
    have h2 : ((lay (cs.set i v) (i + 1) vs).take (i + 1)).take i = ((cs.set i v).take (i + 1)).take i := by rw [h1]
    rw [List.take_take, List.take_take, Nat.min_eq_left (by omega)] at h2
    rw [lay, h2, List.take_set_of_le (by omega)]
theorem tZ : SlT Try.prog 41 3 1 8 [(Value.int .i64 0)] := ⟨by kernel_rfl, by kernel_rfl, by kernel_rfl, rfl, by decide, by decide, rfl⟩
theorem repZ_len (n : Nat) : (repL n [(Value.int .i64 0)]).length = n := by
  induction n with
  | zero => rfl
  | succ n ih => rw [repL]; simp [ih]
theorem repZ_sc (n : Nat) : (repL n [(Value.int .i64 0)]).all scalar = true := by
  induction n with
  | zero => rfl
  | succ n ih => rw [repL]; simp [ih]; rfl
theorem clear_p {cs : List Value} (hb : h[b]? = some (.own cs)) (hl : o + n ≤ cs.length) (hro : md.ro ≤ b) :
    ∃ h', (∀ {α : Type} (kk : Value → Heap → Option α), aBuiltin Try.prog md .clear #[41] [(Value.slice (some ⟨b, o, none⟩) n 1)] h kk = kk ((Value.tuple #[])) h') ∧ O1 ((Value.slice (some ⟨b, o, none⟩) n 1)) h h' ∧ ∃ cs', h'[b]? = some (.own cs') ∧ cs'.take o = cs.take o ∧ cs'.length = cs.length := by
  by_cases hn : n = 0
  · subst hn
    refine ⟨h, fun kk => ?_, Only.refl, cs, hb, rfl, rfl⟩
    simp only [aBuiltin]
    unfold aClear
    simp [tZ.hu, tZ.hz, scalar, isCell]
  · obtain ⟨h', w, hb', l', o'⟩ := put_e (md := md) hb hro o (repL n [(Value.int .i64 0)]) _ (repZ_sc n) (by rw [repZ_len]; exact hl) rfl
    refine ⟨h', fun kk => ?_, ⟨l', fun x h1 _ => o' x h1⟩, _, hb', lay_take _ _ _, lay_length _ _ _⟩
    simp only [aBuiltin]
    unfold aClear
    simp [tZ.hu, tZ.hz, scalar, isCell, hn, w]
theorem cp_end {L : List Int} {k : Nat} (hro : md.ro ≤ b) (A : AR h ((Value.slice (some ⟨b, o, none⟩) n 1)) e) (hn : e.size = n) (hk : k ≤ n) (hL : e.toList.take k = L) :
    ∃ h', J23_0b1 C md ((Value.slice (some ⟨b, o, none⟩) n 1)) ((Value.int .i64 ((k : Int)))) h = some (.inr (.ret, ((Value.slice (some ⟨b, o, none⟩) n 1), (Value.slice (some ⟨b, o, none⟩) k 1), (Value.int .i64 ((k : Int)))), h')) ∧ Sl h' 1 eZ ((Value.slice (some ⟨b, o, none⟩) k 1)) L ∧ O1 ((Value.slice (some ⟨b, o, none⟩) n 1)) h h' := by
  obtain ⟨cs, hb⟩ := A.ow
  replace hb : h[b]? = some (.own cs) := hb
  rcases A.sl.is with ⟨q, _⟩ | ⟨b', o', kb, q, hb', hc, hl⟩
  · cases q
  · have sz : e.toList.length = n := by simp [hn]
    rw [sz] at q hc hl
    injection q with q _ _
    injection q with q
    injection q with q1 q2 _
    subst q1 q2
    rw [hb] at hb'
    obtain rfl := Option.some.inj hb'
    replace hl : o + n * 1 ≤ cs.length := hl
    replace hc : (cs.drop o).take (n * 1) = flat eZ e.toList := hc
    obtain ⟨h', ec, oc, cs', hb2, ht, hl2⟩ := clear_p (md := md) (n := n - k) (o := o + k) hb (by omega) hro
    have s1 : ∀ {α : Type} (kk : Value → Option α), aSlice Try.prog 41 ((Value.slice (some ⟨b, o, none⟩) n 1)) (some ((Value.int .i64 ((k : Int))))) none none kk = kk ((Value.slice (some ⟨b, o + k, none⟩) (n - k) 1)) := fun kk => by
      obtain ⟨j, hj, e1, e2⟩ := tZ.info
      unfold aSlice
      simp only [tZ.hu, hj]
      rw [if_pos ⟨by omega, by omega, by omega, .inr e1.symm⟩]
      have : ((n : Int) - (k : Int)).toNat = n - k := by omega
      rw [this, e1, Nat.mul_one]
      rfl
    have s2 : ∀ {α : Type} (kk : Value → Option α), aSlice Try.prog 41 ((Value.slice (some ⟨b, o, none⟩) n 1)) none (some ((Value.int .i64 ((k : Int))))) none kk = kk ((Value.slice (some ⟨b, o, none⟩) k 1)) := fun kk => by
      obtain ⟨j, hj, e1, e2⟩ := tZ.info
      unfold aSlice
      simp only [tZ.hu, hj]
      rw [if_pos ⟨by omega, by omega, by omega, .inr e1.symm⟩]
      simp
    refine ⟨h', ?_, ?_, oc⟩
    · unfold J23_0b1
      simp only [go_sem, Nat.reduceAdd, Nat.reduceLeDiff, Nat.reduceMul, Int.reduceBEq, Int.reduceBNe, Int.reduceLT, Int.reduceLE, Int.reduceGT, s1, ec, s2]
    · have hL2 : L.length = k := by rw [← hL]; simp; omega
      refine Sl.part eZ_len hb2 ?_ ?_ hL2.symm
      · show (cs'.drop o).take (L.length * 1) = _
        rw [hL2, ← hL, ← flat_take eZ_len, ← hc, List.take_take, Nat.min_eq_left (by omega)]
        have e1 : (cs'.drop o).take (k * 1) = (cs'.take (o + k)).drop o := by rw [List.drop_take]; congr 1; omega
        have e2 : (cs.drop o).take (k * 1) = (cs.take (o + k)).drop o := by rw [List.drop_take]; congr 1; omega
        rw [e1, e2, ht]
      · show o + L.length * 1 ≤ cs'.length
        rw [hL2]; omega
theorem cp_in {s2 : Value} (hro : md.ro ≤ b) (hi : 1 ≤ i) (hn : n ≤ 1000) (hd : d.size = n) (hin : i ≤ n) : ∀ (m k q : Nat) (e : Array Int) (h : Heap), n - i - q ≤ m → 1 ≤ q → i + q ≤ n + 1 → q ≤ n - i ∨ q = n - i → AR h ((Value.slice (some ⟨b, o, none⟩) n 1)) e → e.size = n → (∀ p, i + q - 1 ≤ p → p < n → e[p]! = d[p]!) → k ≤ i + q - 1 →
    e.toList.take k = dd d (i + q) → (dd d (i + q)).length = k →
    ∃ h' k', J23_0b0 C md ((Value.slice (some ⟨b, o, none⟩) n 1)) s2 ((Value.int .i64 ((k : Int)))) ((Value.slice (some ⟨b, o + i, none⟩) (n - i) 1)) ((Value.int .i64 ((q : Int)))) h = some (.inr (.ret, ((Value.slice (some ⟨b, o, none⟩) n 1), (Value.slice (some ⟨b, o, none⟩) k' 1), (Value.int .i64 ((k' : Int)))), h')) ∧ Sl h' 1 eZ ((Value.slice (some ⟨b, o, none⟩) k' 1)) (dd d n) ∧ O1 ((Value.slice (some ⟨b, o, none⟩) n 1)) h h' := by
  intro m
  induction m with
  | zero =>
    intro k q e h hm hq1 hq hq2 A he hp hk ht hl
    obtain rfl : q = n - i := by omega
    have nlt : ¬ (((n - i : Nat) : Int) < ((n - i : Nat) : Int)) := by omega
    have e3 : i + (n - i) = n := by omega
    rw [e3] at ht
    obtain ⟨h', e1, S1, o1⟩ := cp_end (md := md) (k := k) hro A he (by omega) ht
    refine ⟨h', k, ?_, S1, o1⟩
    rw [J23_0b0_step]
    unfold Jr23_0b0
    simp only [go_sem, Nat.reduceAdd, Nat.reduceLeDiff, Nat.reduceMul, Int.reduceBEq, Int.reduceBNe, Int.reduceLT, Int.reduceLE, Int.reduceGT, aBin_lss, nlt, Jk23_0b0]
    exact e1
  | succ m ih =>
    intro k q e h hm hq1 hq hq2 A he hp hk ht hl
    by_cases hlt : q < n - i
    · have hlt' : ((q : Int) < ((n - i : Nat) : Int)) := by omega
      have w1 : IntKind.wrap .i64 ((q : Int) + 1) = ((q + 1 : Nat) : Int) := by rw [wi (by omega) (by omega)]; rfl
      have wm : IntKind.wrap .i64 ((q : Int) - 1) = ((q - 1 : Nat) : Int) := by rw [wi (by omega) (by omega)]; omega
      have wk : IntKind.wrap .i64 ((k : Int) + 1) = ((k + 1 : Nat) : Int) := by rw [wi (by omega) (by omega)]; rfl
      have x1 : ∀ {α : Type} (kk : Value → Option α), ixSV 1 ((Value.slice (some ⟨b, o + i, none⟩) (n - i) 1)) ((Value.int .i64 ((q : Int)))) kk = kk ((Value.pointer (some ⟨b, o + (i + q), none⟩))) := fun kk => by
        rw [ixSV_p, ixS_p 1 b (o + i) (n - i) 1 (q : Int) kk ⟨by omega, by omega⟩]
        rw [Int.toNat_natCast, Nat.mul_one, Nat.add_assoc]
      have x2 : ∀ {α : Type} (kk : Value → Option α), ixSV 1 ((Value.slice (some ⟨b, o + i, none⟩) (n - i) 1)) ((Value.int .i64 (((q - 1 : Nat) : Int)))) kk = kk ((Value.pointer (some ⟨b, o + (i + q - 1), none⟩))) := fun kk => by
        rw [ixSV_p, ixS_p 1 b (o + i) (n - i) 1 ((q - 1 : Nat) : Int) kk ⟨by omega, by omega⟩]
        rw [Int.toNat_natCast, Nat.mul_one]; congr 4; omega
      have x3 := fun {α : Type} (kk : Value → Option α) => (A.rd (i := k) (by omega)).1 kk
      replace x3 : ∀ {α : Type} (kk : Value → Option α), ixSV 1 ((Value.slice (some ⟨b, o, none⟩) n 1)) ((Value.int .i64 ((k : Int)))) kk = kk ((Value.pointer (some ⟨b, o + k, none⟩))) := fun kk => by rw [ixSV_p]; exact x3 kk
      have r1 : rd h b (o + (i + q)) = some ((Value.int .i64 (d[i + q]!))) := by rw [← hp _ (by omega) (by omega)]; exact (A.rd (i := i + q) (by omega)).2
      have r2 : rd h b (o + (i + q - 1)) = some ((Value.int .i64 (d[i + q - 1]!))) := by rw [← hp _ (by omega) (by omega)]; exact (A.rd (i := i + q - 1) (by omega)).2
      have dn := dd_next d (j := i + q) (by omega)
      by_cases hne : d[i + q]! = d[i + q - 1]!
      · rw [if_pos hne] at dn
        have nb : (d[i + q]! != d[i + q - 1]!) = false := by rw [hne]; simp
        obtain ⟨h', k', e1, S1, o1⟩ := ih k (q + 1) e h (by omega) (by omega) (by omega) (by omega) A he (fun p h1 h2 => hp p (by omega) h2) (by omega) (by rw [← Nat.add_assoc, dn]; exact ht) (by rw [← Nat.add_assoc, dn]; exact hl)
        refine ⟨h', k', ?_, S1, o1⟩
        rw [J23_0b0_step]
        unfold Jr23_0b0
        simp only [go_sem, Nat.reduceAdd, Nat.reduceLeDiff, Nat.reduceMul, Int.reduceBEq, Int.reduceBNe, Int.reduceLT, Int.reduceLE, Int.reduceGT, aBin_lss, hlt', x1, r1, aBin_sub, wm, x2, r2, nb, aBin_add, w1]
        exact e1
      · rw [if_neg hne] at dn
        have nb : (d[i + q]! != d[i + q - 1]!) = true := by simpa using hne
        obtain ⟨h1, ew, A1, o1⟩ := A.wr (md := md) (i := k) (by omega) hro d[i + q]!
        replace ew : wrN md h b (o + k) [(Value.int .i64 (d[i + q]!))] = some h1 := ew
        have kl : k < e.toList.length := by simp; omega
        have tk : (e.setIfInBounds k d[i + q]!).toList.take (k + 1) = dd d (i + (q + 1)) := by
          rw [← Nat.add_assoc, dn, ← ht, Array.toList_setIfInBounds, List.take_add_one, List.take_set_of_le (Nat.le_refl _), List.getElem?_set_self kl]
          rfl
        obtain ⟨h', k', e1, S1, o2⟩ := ih (k + 1) (q + 1) (e.setIfInBounds k d[i + q]!) h1 (by omega) (by omega) (by omega) (by omega) A1 (by simpa using he) (fun p h1 h2 => by
          rw [← hp p (by omega) h2, getElem!_pos _ p (by simp; omega), getElem!_pos e p (by omega)]
          exact Array.getElem_setIfInBounds_ne (by omega) (by omega)) (by omega) tk (by rw [← tk]; simp; omega)
        refine ⟨h', k', ?_, S1, o1.trans o2⟩
        rw [J23_0b0_step]
        unfold Jr23_0b0
        simp only [go_sem, Nat.reduceAdd, Nat.reduceLeDiff, Nat.reduceMul, Int.reduceBEq, Int.reduceBNe, Int.reduceLT, Int.reduceLE, Int.reduceGT, aBin_lss, hlt', x1, r1, aBin_sub, wm, x2, r2, nb, x3, st_1i, ew, aBin_add, wk, w1]
        exact e1
    · obtain rfl : q = n - i := by omega
      have nlt : ¬ (((n - i : Nat) : Int) < ((n - i : Nat) : Int)) := by omega
      have e3 : i + (n - i) = n := by omega
      rw [e3] at ht
      obtain ⟨h', e1, S1, o1⟩ := cp_end (md := md) (k := k) hro A he (by omega) ht
      refine ⟨h', k, ?_, S1, o1⟩
      rw [J23_0b0_step]
      unfold Jr23_0b0
      simp only [go_sem, Nat.reduceAdd, Nat.reduceLeDiff, Nat.reduceMul, Int.reduceBEq, Int.reduceBNe, Int.reduceLT, Int.reduceLE, Int.reduceGT, aBin_lss, nlt, Jk23_0b0]
      exact e1
theorem cp_lp {h0 : Heap} {s2 : Value} (hro : md.ro ≤ b) (hn : n ≤ 1000) (hd : d.size = n) (A : AR h ((Value.slice (some ⟨b, o, none⟩) n 1)) d) (hlen : h.length = h0.length) : ∀ (m k : Nat), n - k ≤ m → 1 ≤ k → k ≤ n → dd d k = d.toList.take k →
    ∃ h' k', J23_0 C md h0 ((Value.slice (some ⟨b, o, none⟩) n 1)) s2 ((Value.int .i64 ((k : Int)))) h = some ((Value.slice (some ⟨b, o, none⟩) k' 1), h') ∧ Sl h' 1 eZ ((Value.slice (some ⟨b, o, none⟩) k' 1)) (dd d n) ∧ O1 ((Value.slice (some ⟨b, o, none⟩) n 1)) h h' := by
  have ltb := A.ltb
  replace ltb : b < h.length := ltb
  have bl : Nat.blt b h0.length = true := by rw [Nat.blt_eq]; omega
  intro m
  induction m with
  | zero =>
    intro k hm h1 hk hdd
    obtain rfl : k = n := by omega
    have nlt : ¬ ((k : Int) < (k : Int)) := by omega
    refine ⟨h, k, ?_, ?_, Only.refl⟩
    · rw [J23_0_step]
      unfold Jr23_0
      simp only [go_sem, Nat.reduceAdd, Nat.reduceLeDiff, Nat.reduceMul, Int.reduceBEq, Int.reduceBNe, Int.reduceLT, Int.reduceLE, Int.reduceGT, aBin_lss, nlt, Jk23_0, bl, take_len hlen]
    · rw [hdd, List.take_of_length_le (by simp; omega)]; exact A.sl
  | succ m ih =>
    intro k hm h1 hk hdd
    by_cases hlt : k < n
    · have hlt' : ((k : Int) < (n : Int)) := by omega
      have w1 : IntKind.wrap .i64 ((k : Int) + 1) = ((k + 1 : Nat) : Int) := by rw [wi (by omega) (by omega)]; rfl
      have wm : IntKind.wrap .i64 ((k : Int) - 1) = ((k - 1 : Nat) : Int) := by rw [wi (by omega) (by omega)]; omega
      obtain ⟨y1, r1⟩ := A.rd (i := k) (by omega)
      obtain ⟨y2, r2⟩ := A.rd (i := k - 1) (by omega)
      have x1 : ∀ {α : Type} (kk : Value → Option α), ixSV 1 ((Value.slice (some ⟨b, o, none⟩) n 1)) ((Value.int .i64 ((k : Int)))) kk = kk ((Value.pointer (some ⟨b, o + k, none⟩))) := fun kk => by rw [ixSV_p]; exact y1 kk
      have x2 : ∀ {α : Type} (kk : Value → Option α), ixSV 1 ((Value.slice (some ⟨b, o, none⟩) n 1)) ((Value.int .i64 (((k - 1 : Nat) : Int)))) kk = kk ((Value.pointer (some ⟨b, o + (k - 1), none⟩))) := fun kk => by rw [ixSV_p]; exact y2 kk
      replace r1 : rd h b (o + k) = some ((Value.int .i64 (d[k]!))) := r1
      replace r2 : rd h b (o + (k - 1)) = some ((Value.int .i64 (d[k - 1]!))) := r2
      have dn := dd_next d h1
      by_cases hne : d[k]! = d[k - 1]!
      · rw [if_pos hne] at dn
        have nb : (d[k]! == d[k - 1]!) = true := by rw [hne]; simp
        have s1 : ∀ {α : Type} (kk : Value → Option α), aSlice Try.prog 41 ((Value.slice (some ⟨b, o, none⟩) n 1)) (some ((Value.int .i64 ((k : Int))))) none none kk = kk ((Value.slice (some ⟨b, o + k, none⟩) (n - k) 1)) := fun kk => by
          obtain ⟨j, hj, e1, e2⟩ := tZ.info
          unfold aSlice
          simp only [tZ.hu, hj]
          rw [if_pos ⟨by omega, by omega, by omega, .inr e1.symm⟩]
          have : ((n : Int) - (k : Int)).toNat = n - k := by omega
          rw [this, e1, Nat.mul_one]
          rfl
        have lk : (dd d k).length = k := by rw [hdd]; simp; omega
        obtain ⟨h', k', e1, S1, o1⟩ := cp_in (md := md) (o := o) (s2 := s2) hro h1 hn hd hk (n - k) k 1 d h (by omega) (by omega) (by omega) (by omega) A hd (fun _ _ _ => rfl) (by omega) (by rw [dn]; exact hdd.symm) (by rw [dn]; exact lk)
        refine ⟨h', k', ?_, S1, o1⟩
        have hl1 : h'.length = h0.length := o1.len.trans hlen
        replace e1 : J23_0b0 C md ((Value.slice (some ⟨b, o, none⟩) n 1)) s2 ((Value.int .i64 ((k : Int)))) ((Value.slice (some ⟨b, o + k, none⟩) (n - k) 1)) ((Value.int .i64 1)) h = _ := e1
        rw [J23_0_step]
        unfold Jr23_0
        simp only [go_sem, Nat.reduceAdd, Nat.reduceLeDiff, Nat.reduceMul, Int.reduceBEq, Int.reduceBNe, Int.reduceLT, Int.reduceLE, Int.reduceGT, aBin_lss, hlt', x1, r1, aBin_sub, wm, x2, r2, nb, s1, e1, Jk23_0, bl, take_len hl1]
      · rw [if_neg hne] at dn
        have nb : (d[k]! == d[k - 1]!) = false := by simpa using hne
        obtain ⟨h', k', e1, S1, o1⟩ := ih (k + 1) (by omega) (by omega) (by omega) (by rw [dn, hdd, List.take_add_one, get_at d (by omega)]; rfl)
        refine ⟨h', k', ?_, S1, o1⟩
        rw [J23_0_step]
        unfold Jr23_0
        simp only [go_sem, Nat.reduceAdd, Nat.reduceLeDiff, Nat.reduceMul, Int.reduceBEq, Int.reduceBNe, Int.reduceLT, Int.reduceLE, Int.reduceGT, aBin_lss, hlt', x1, r1, aBin_sub, wm, x2, r2, nb, aBin_add, w1]
        exact e1
    · obtain rfl : k = n := by omega
      have nlt : ¬ ((k : Int) < (k : Int)) := by omega
      refine ⟨h, k, ?_, ?_, Only.refl⟩
      · rw [J23_0_step]
        unfold Jr23_0
        simp only [go_sem, Nat.reduceAdd, Nat.reduceLeDiff, Nat.reduceMul, Int.reduceBEq, Int.reduceBNe, Int.reduceLT, Int.reduceLE, Int.reduceGT, aBin_lss, nlt, Jk23_0, bl, take_len hlen]
      · rw [hdd, List.take_of_length_le (by simp; omega)]; exact A.sl
theorem AR.form (A : AR h v d) (h1 : 1 ≤ d.size) : ∃ b o, v = (Value.slice (some ⟨b, o, none⟩) d.size 1) := by
  rcases A.sl.is with ⟨_, q⟩ | ⟨b, o, kb, q, _⟩
  · have : d.toList.length = 0 := by rw [q]; rfl
    have e : d.toList.length = d.size := by simp
    omega
  · exact ⟨b, o, by simpa using q⟩
theorem compact_s (hro : md.ro ≤ slB v) (A : AR h v d) (h1 : 1 ≤ d.size) (hd : d.size ≤ 1000) :
    ∃ v' h', C md 23 [v] h = some (v', h') ∧ Sl h' 1 eZ v' (dd d d.size) ∧ O1 v h h' := by
  obtain ⟨b, o, rfl⟩ := A.form h1
  have ltb := A.ltb
  replace ltb : b < h.length := ltb
  have bl : Nat.blt b h.length = true := by rw [Nat.blt_eq]; omega
  rw [C, call_eq, F23_eq]
  unfold F23
  by_cases h2 : d.size < 2
  · have c : ((d.size : Int) < 2) := by omega
    have hz : d.size = 1 := by omega
    refine ⟨(Value.slice (some ⟨b, o, none⟩) d.size 1), h, ?_, ?_, Only.refl⟩
    · simp only [go_sem, Nat.reduceAdd, Nat.reduceLeDiff, Nat.reduceMul, Int.reduceBEq, Int.reduceBNe, Int.reduceLT, Int.reduceLE, Int.reduceGT, c, bl, take_len rfl]
    · have : dd d d.size = d.toList := by
        rw [hz]
        obtain ⟨l⟩ := d
        cases l with
        | nil => simp at hz
        | cons x l => cases l with
          | nil => rfl
          | cons y l => simp at hz
      rw [this]; exact A.sl
  · have c : ¬ ((d.size : Int) < 2) := by omega
    obtain ⟨h', k', e1, S1, o1⟩ := cp_lp (md := ⟨md.ro, h.length⟩) (h0 := h) (s2 := .slice none 0 0) (n := d.size) hro hd rfl A rfl (d.size - 1) 1 (by omega) (Nat.le_refl _) (by omega) (by
      obtain ⟨l⟩ := d
      cases l with
      | nil => simp at h1
      | cons x l => rfl)
    refine ⟨(Value.slice (some ⟨b, o, none⟩) k' 1), h', ?_, S1, o1⟩
    simp only [go_sem, Nat.reduceAdd, Nat.reduceLeDiff, Nat.reduceMul, Int.reduceBEq, Int.reduceBNe, Int.reduceLT, Int.reduceLE, Int.reduceGT, c]
    exact e1
end Go.Det.O
