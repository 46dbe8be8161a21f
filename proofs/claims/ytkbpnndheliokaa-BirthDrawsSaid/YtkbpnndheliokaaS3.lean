/- Free slots: memory at first. -/
import Derived.Test.YtkbpnndheliokaaS2
set_option autoImplicit false
set_option linter.unusedVariables false
set_option linter.unusedSimpArgs false
namespace Go.Det.E
open Go.Proofs Go.Det
attribute [local congr] bind_c cond_c
variable {md : Md} {h hh h' : Heap} {a b k q : Nat} {l c : List Int} {V T : Int} {n : Nat}
/-- The first rounds of Init. -/
def ini (T : Int) (n : Nat) (l : List Int) : Nat → List Int
  | 0 => l
  | k + 1 => putI (ini T n l k) (Ox n T k 0) (k + 2)
def initL (T : Int) (n : Nat) (l : List Int) : List Int :=
  if n = 0 then putI l T 0 else putI (putI (ini T n l n) (Ox n T (n - 1) 0) 0) T 1
theorem ini_len (T : Int) (n : Nat) (l : List Int) : ∀ k, (ini T n l k).length = l.length := by
  intro k
  induction k with
  | zero => rfl
  | succ k ih => rw [ini, putI_len, ih]
theorem initL_len (T : Int) (n : Nat) (l : List Int) : (initL T n l).length = l.length := by
  unfold initL; split <;> simp [putI_len, ini_len]
theorem ini_wd (T : Int) {n : Nat} (hn : n ≤ 48) {l : List Int} (w : Wd l) : ∀ k, k ≤ n → Wd (ini T n l k) := by
  intro k
  induction k with
  | zero => intro _; exact w
  | succ k ih => intro hk; exact (ih (by omega)).put _ ⟨by omega, by omega⟩
theorem initL_wd (T : Int) {n : Nat} (hn : n ≤ 48) {l : List Int} (w : Wd l) : Wd (initL T n l) := by
  unfold initL
  split
  · exact w.put _ ⟨by omega, by omega⟩
  · exact ((ini_wd T hn w n (Nat.le_refl _)).put _ ⟨by omega, by omega⟩).put _ ⟨by omega, by omega⟩
theorem up1 (x : Int) (h0 : 0 ≤ x) (h1 : x < 1000000) : up [0, x, 0, 0, 0] 1 = [0, x + 1, 0, 0, 0] := by
  show [0, IntKind.wrap .i64 (x + 1), 0, 0, 0] = _
  rw [wi (by omega) (by omega)]
theorem init_loop (hR : Rt V n T) (hra : md.ro ≤ a) (hrb : md.ro ≤ b) (hro : md.ro ≤ h.length) (la : a < h.length) (lb : b < h.length) (hl : T + 1 + (n : Int) * 7 ≤ l.length) (hq : q = h.length) : ∀ (m k : Nat) (hh : Heap), k + m = n →
    hh[q]? = some (.own [(Value.int .i64 V), (Value.int .i64 ((n : Int))), (Value.int .i64 T)]) → Ar hh a b (ini T n l k) [0, k, 0, 0, 0] → OG a b h hh →
    ∃ h', J46_0 C md h (ifA a) ((Value.pointer (some ⟨q, 0, none⟩))) ((Value.int .i64 ((n : Int)))) ((Value.int .i64 ((k : Int)))) hh = some ((Value.tuple #[]), h') ∧ Ar h' a b (initL T n l) [0, if n = 0 then 1 else n + 2, 0, 0, 0] ∧ Only a b h h' := by
  have hS : (0 : Int) ≤ n ∧ (n : Int) ≤ 48 := hR.2.1
  have hT : 1 ≤ T ∧ T ≤ 8 := hR.2.2
  intro m
  induction m with
  | zero =>
    intro k hh hk hq0 A O
    obtain rfl : k = n := by omega
    have r1 : rd hh q 1 = some ((Value.int .i64 ((k : Int)))) := by rw [rd_own hq0]; rfl
    have rL : rdN hh q 0 3 = some [(Value.int .i64 V), (Value.int .i64 ((k : Int))), (Value.int .i64 T)] := by rw [rdN_own hq0 (by simp)]; rfl
    have lq := lt_of hq0
    have hh0 : md.ro ≤ hh.length := by omega
    by_cases hz : k = 0
    · subst hz
      obtain ⟨h2, e2, A2, o2⟩ := ps_x (md := md) A hra hrb T 0
      rw [cS_in (by unfold inR; rw [ini_len]; omega), show ((0 : Nat) : Int) = 0 from rfl, up1 0 (by omega) (by omega)] at A2
      refine ⟨h2.take h.length, ?_, ?_, (O.only o2).done⟩
      · rw [J46_0_step]
        unfold Jr46_0
        simp only [go_sem, Nat.reduceAdd, Nat.reduceLeDiff, Nat.reduceMul, Int.reduceBEq, Int.reduceBNe, Int.reduceLT, Int.reduceLE, Int.reduceGT, aBin_lss, Int.lt_irrefl, Jk46_0]
        unfold J46_1
        have z : (((0 : Nat) : Int) == 0) = true := rfl
        simp only [go_sem, Nat.reduceAdd, Nat.reduceLeDiff, Nat.reduceMul, Int.reduceBEq, Int.reduceBNe, Int.reduceLT, Int.reduceLE, Int.reduceGT, r1, rL, z, free_s, okN_store, clI_store, e2]
      · exact A2.take la lb
    · have z : ((k : Int) == 0) = false := by simp; omega
      have wk : IntKind.wrap .i64 ((k : Int) - 1) = (k : Int) - 1 := wi (by omega) (by omega)
      have nf := fun (m : Md) (h : Heap) => nextfree_s m h hR (a := (k : Int) - 1)
      obtain ⟨h2, e2, A2, o2⟩ := ps_x (md := md) A hra hrb (Ox k T ((k : Int) - 1) 0) 0
      have ox : Ox k T ((k : Int) - 1) 0 = T + 1 + ((k : Int) - 1) * 7 := Ox_in (by omega) (by omega)
      rw [cS_in (by unfold inR; rw [ini_len, ox]; omega), up1 k (by omega) (by omega)] at A2
      have q2 := (o2.oth q (by omega) (by omega)).trans hq0
      have rL2 : rdN h2 q 0 3 = some [(Value.int .i64 V), (Value.int .i64 ((k : Int))), (Value.int .i64 T)] := by rw [rdN_own q2 (by simp)]; rfl
      obtain ⟨h3, e3, A3, o3⟩ := ps_x (md := md) A2 hra hrb T 1
      rw [cS_in (by unfold inR; rw [putI_len, ini_len]; omega), up1 _ (by omega) (by omega)] at A3
      refine ⟨h3.take h.length, ?_, ?_, ((O.only o2).only o3).done⟩
      · rw [J46_0_step]
        unfold Jr46_0
        simp only [go_sem, Nat.reduceAdd, Nat.reduceLeDiff, Nat.reduceMul, Int.reduceBEq, Int.reduceBNe, Int.reduceLT, Int.reduceLE, Int.reduceGT, aBin_lss, Int.lt_irrefl, Jk46_0]
        unfold J46_1
        simp only [go_sem, Nat.reduceAdd, Nat.reduceLeDiff, Nat.reduceMul, Int.reduceBEq, Int.reduceBNe, Int.reduceLT, Int.reduceLE, Int.reduceGT, r1, rL, z, wk, nf, okN_store, clI_store, e2, rL2, free_s, e3]
      · have : initL T k l = putI (putI (ini T k l k) (Ox k T ((k : Int) - 1) 0) 0) T 1 := by unfold initL; rw [if_neg hz]
        rw [this, if_neg hz, show (k : Int) + 2 = k + 1 + 1 by omega]
        exact A3.take la lb
  | succ m ih =>
    intro k hh hk hq0 A O
    have rL : rdN hh q 0 3 = some [(Value.int .i64 V), (Value.int .i64 ((n : Int))), (Value.int .i64 T)] := by rw [rdN_own hq0 (by simp)]; rfl
    have hkn : (k : Int) < (n : Int) := by omega
    have nf := fun (m : Md) (h : Heap) => nextfree_s m h hR (a := (k : Int))
    have w2 : IntKind.wrap .i64 ((k : Int) + 2) = (k : Int) + 2 := wi (by omega) (by omega)
    have w3 : IntKind.wrap .u64 ((k : Int) + 2) = (k : Int) + 2 := wu (by omega) (by omega)
    have w1 : IntKind.wrap .i64 ((k : Int) + 1) = ((k + 1 : Nat) : Int) := by rw [wi (by omega) (by omega)]; rfl
    obtain ⟨h2, e2, A2, o2⟩ := ps_x (md := md) A hra hrb (Ox n T (k : Int) 0) ((k : Int) + 2)
    have ox : Ox n T (k : Int) 0 = T + 1 + (k : Int) * 7 := Ox_in (by omega) (by omega)
    rw [cS_in (by unfold inR; rw [ini_len, ox]; omega), up1 k (by omega) (by omega)] at A2
    have q2 := (o2.oth q (by have := O.len; omega) (by have := O.len; omega)).trans hq0
    obtain ⟨h', e', A', o'⟩ := ih (k + 1) h2 (by omega) q2 A2 (O.only o2)
    refine ⟨h', ?_, A', o'⟩
    rw [J46_0_step]
    unfold Jr46_0
    simp only [go_sem, Nat.reduceAdd, Nat.reduceLeDiff, Nat.reduceMul, Int.reduceBEq, Int.reduceBNe, Int.reduceLT, Int.reduceLE, Int.reduceGT, aBin_lss, hkn, rL, nf, aBin_add, w2, cIU, w3, okN_store, clI_store, e2, w1]
    exact e'
theorem init_e (hR : Rt V n T) (A : Ar h a b l [0, 0, 0, 0, 0]) (hra : md.ro ≤ a) (hrb : md.ro ≤ b) (hro : md.ro ≤ h.length) (hl : T + 1 + (n : Int) * 7 ≤ l.length) :
    ∃ h', C md 46 [ifA a, (Value.agg #[(Value.int .i64 V), (Value.int .i64 ((n : Int))), (Value.int .i64 T)])] h = some ((Value.tuple #[]), h') ∧ Ar h' a b (initL T n l) [0, if n = 0 then 1 else n + 2, 0, 0, 0] ∧ Only a b h h' := by
  have la := lt_of A.ha
  have lb := lt_of A.hb
  obtain ⟨h', e', A', o'⟩ := init_loop (md := ⟨md.ro, h.length⟩) (h := h) (q := h.length) (l := l) hR hra hrb hro la lb hl rfl n 0 (h ++ [Blk.own [(Value.int .i64 V), (Value.int .i64 ((n : Int))), (Value.int .i64 T)]]) (by omega) (by simp) (A.app _) (OG.refl.app _)
  refine ⟨h', ?_, A', o'⟩
  rw [C, call_eq, F46_eq]
  unfold F46
  simp only [go_sem, Nat.reduceAdd, Nat.reduceLeDiff, Nat.reduceMul, Int.reduceBEq, Int.reduceBNe, Int.reduceLT, Int.reduceLE, Int.reduceGT]
  exact e'
/-- What memory has at first. -/
theorem ini_get (hn : n ≤ 48) (hT : 1 ≤ T) (hl : T + 1 + (n : Int) * 7 ≤ l.length) : ∀ k, k ≤ n → ∀ s : Nat, s < k → getI (ini T n l k) (Ox n T s 0) = s + 2 := by
  intro k
  induction k with
  | zero => intro _ s hs; omega
  | succ k ih =>
    intro hk s hs
    rw [ini]
    have o1 : Ox n T (k : Int) 0 = T + 1 + (k : Int) * 7 := Ox_in (by omega) (by omega)
    have o2 : Ox n T (s : Int) 0 = T + 1 + (s : Int) * 7 := Ox_in (by omega) (by omega)
    by_cases e : s = k
    · subst e
      rw [getI_same (by unfold inR; rw [ini_len, o1]; omega)]
    · rw [getI_else (by rw [o1, o2]; omega)]
      exact ih (by omega) s (by omega)
theorem init_fr (hn : n ≤ 48) (hT : 1 ≤ T) (hl : T + 1 + (n : Int) * 7 ≤ l.length) : Fr n T (initL T n l) (getI (initL T n l) T % 65536) ((List.range n).map fun (i : Nat) => (i : Int)) := by
  unfold initL
  by_cases hz : n = 0
  · subst hz
    rw [if_pos rfl, getI_same (by unfold inR; omega)]
    exact rfl
  · rw [if_neg hz]
    have o1 : Ox n T ((n : Int) - 1) 0 = T + 1 + ((n : Int) - 1) * 7 := Ox_in (by omega) (by omega)
    rw [getI_same (by unfold inR; rw [putI_len, ini_len]; omega)]
    have gt : ∀ s : Nat, s < n → getI (putI (putI (ini T n l n) (Ox n T ((n : Int) - 1) 0) 0) T 1) (Ox n T s 0) = if s = n - 1 then 0 else (s : Int) + 2 := by
      intro s hs
      have o2 : Ox n T (s : Int) 0 = T + 1 + (s : Int) * 7 := Ox_in (by omega) (by omega)
      rw [getI_else (by rw [o2]; omega)]
      split
      · rename_i e
        have : ((s : Nat) : Int) = (n : Int) - 1 := by omega
        rw [this, getI_same (by unfold inR; rw [ini_len, o1]; omega)]
      · rename_i e
        rw [getI_else (by rw [o1, o2]; omega)]
        exact ini_get hn hT hl n (Nat.le_refl _) s hs
    generalize putI (putI (ini T n l n) (Ox n T ((n : Int) - 1) 0) 0) T 1 = l' at gt
    have go : ∀ m k : Nat, k + m = n → Fr n T l' (if k = n then 0 else (k : Int) + 1) ((List.range' k m).map fun (i : Nat) => (i : Int)) := by
      intro m
      induction m with
      | zero => intro k hk; obtain rfl : k = n := by omega
                rw [if_pos rfl]; exact rfl
      | succ m ih =>
        intro k hk
        rw [if_neg (by omega), List.range'_succ, List.map_cons]
        refine ⟨rfl, by omega, by omega, ?_⟩
        rw [gt k (by omega)]
        have := ih (k + 1) (by omega)
        by_cases e : k = n - 1
        · rw [if_pos e]; rw [if_pos (by omega)] at this; exact this
        · rw [if_neg e]; rw [if_neg (by omega)] at this
          have e2 : (k : Int) + 2 = ((k + 1 : Nat) : Int) + 1 := by omega
          rw [e2]; exact this
    have := go n 0 (by omega)
    rw [if_neg (by omega)] at this
    rw [List.range_eq_range']
    exact this
theorem rt1 (hn : n ≤ 48) : Rt 1 n 1 := ⟨by omega, by omega, by omega⟩
theorem Cn1 : (1 : Int) + 1 + (n : Int) * 7 ≤ Cn 1 n 1 ∧ Cn 1 n 1 ≤ 5000 ∨ 48 < n := by
  by_cases hn : n ≤ 48
  · left
    have h1 := Cn_le (rt1 hn)
    refine ⟨?_, h1.2.1⟩
    have lv : Lv 1 = 1 := rfl
    simp only [Cn, Nd, Eg, Hd, Nn, lv]
    omega
  · right; omega
theorem init_tag (hn : n ≤ 48) (hl : (1 : Int) + 1 + (n : Int) * 7 ≤ l.length) : getI (initL 1 n l) 1 / 65536 = 0 := by
  unfold initL
  by_cases hz : n = 0
  · subst hz
    rw [if_pos rfl, getI_same (by unfold inR; omega)]; rfl
  · rw [if_neg hz, getI_same (by unfold inR; rw [putI_len, ini_len]; omega)]; rfl
end Go.Det.E
