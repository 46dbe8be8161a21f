/- slices.Sort of whole numbers: whole. -/
import Derived.Test.YtalelfcdhmfgoaaO7
set_option autoImplicit false
set_option linter.unusedVariables false
set_option linter.unusedSimpArgs false
namespace Go.Det.O
open Go.Det.E
open Go.Proofs Go.Det Go.Sort
attribute [local congr] bind_c cond_c
variable {md : Md} {h hh k h' h'' h0 : Heap} {v : Value} {d d' : Array Int} {i j a b c n pv p limit N : Nat} {x y aa bb : Int} {wb wp : Bool}
/-- What a round comes to: the part is sorted, or the loop that goes on sorts it. -/
def RoundO (v : Value) (md : Md) (h0 h : Heap) (d : Array Int) (a b : Nat) (e : Option (((Value × Value × Value × Value × Value × Value) × Heap) ⊕ (Exit × (Value × Value × Value × Value × Value × Value) × Heap))) : Prop :=
  (∃ st h' d', e = some (.inr (.ret, st, h')) ∧ AR h' v d' ∧ O1 v h h' ∧ PermIn a b d d' ∧ SortedIn ltInt a b d') ∨
  (∃ s0 s1 s2 s3 s8 s9 h4 h' d', e = some (.inl ((s0, s1, s2, s3, s8, s9), h4)) ∧ J25_0 C md h0 s0 s1 s2 s3 s8 s9 h4 = some ((Value.tuple #[]), h') ∧ AR h' v d' ∧ O1 v h h' ∧ PermIn a b d d' ∧ SortedIn ltInt a b d')
theorem RoundO.pre {e : Option (((Value × Value × Value × Value × Value × Value) × Heap) ⊕ (Exit × (Value × Value × Value × Value × Value × Value) × Heap))} (R : RoundO v md h0 h' d' a b e) (o : O1 v h h') (P : PermIn a b d d') : RoundO v md h0 h d a b e := by
  rcases R with ⟨st, k, d2, e1, A2, o2, P2, S2⟩ | ⟨s0, s1, s2, s3, s8, s9, h4, k, d2, e1, e2, A2, o2, P2, S2⟩
  · exact .inl ⟨st, k, d2, e1, A2, o.trans o2, permIn_trans _ _ _ _ _ P P2, S2⟩
  · exact .inr ⟨s0, s1, s2, s3, s8, s9, h4, k, d2, e1, e2, A2, o.trans o2, permIn_trans _ _ _ _ _ P P2, S2⟩
theorem pdq_b1 {x : Int} (I : PdqI v N) (hN : b - a = N) (h12 : 12 < b - a) (hb : b ≤ d.size) (hd : d.size ≤ 100) (hl : limit ≤ 100) (hro : md.ro ≤ slB v) (hrl : md.ro ≤ h.length) (A : AR h v d) (hlen : h.length = h0.length) (B : Below ltInt a b d) (hp1 : a ≤ pv) (hp2 : pv < b) :
    RoundO v md h0 h d a b (J25_0b1 C md v ((Value.int .i64 ((a : Int)))) ((Value.int .i64 ((b : Int)))) ((Value.int .i64 ((limit : Int)))) ((Value.bool wb)) ((Value.bool wp)) ((Value.int .i64 (((b - a : Nat) : Int)))) ((Value.int .i64 ((pv : Int)))) ((Value.int .i64 x)) h) := by
  have go : ∀ {k : Heap} {d1 : Array Int}, AR k v d1 → O1 v h k → PermIn a b d d1 → RoundO v md h0 h d a b (J25_0b2 C md v ((Value.int .i64 ((a : Int)))) ((Value.int .i64 ((b : Int)))) ((Value.int .i64 ((limit : Int)))) ((Value.bool wb)) ((Value.bool wp)) ((Value.int .i64 (((b - a : Nat) : Int)))) ((Value.int .i64 ((pv : Int)))) k) := fun {k d1} A1 o1 P1 => by
    have z1 : d1.size = d.size := P1.1
    obtain ⟨a', b', wb', wp', h4, h', d', e1, e2, A2, o2, P2, S2⟩ := pdq_b2 (md := md) (h0 := h0) (wb := wb) (wp := wp) I hN h12 (by omega) (by omega) hl hro (by rw [o1.len]; exact hrl) A1 (by rw [o1.len]; exact hlen) (Below.permA permIn_all hb B P1) hp1 hp2
    exact RoundO.pre (.inr ⟨_, _, _, _, _, _, h4, h', d', e1, e2, A2, o2, P2, S2⟩) o1 P1
  have no : ∀ bb : Bool, (wb && wp && bb) = false → J25_0b1 C md v ((Value.int .i64 ((a : Int)))) ((Value.int .i64 ((b : Int)))) ((Value.int .i64 ((limit : Int)))) ((Value.bool wb)) ((Value.bool wp)) ((Value.int .i64 (((b - a : Nat) : Int)))) ((Value.int .i64 ((pv : Int)))) ((Value.int .i64 x)) h = J25_0b2 C md v ((Value.int .i64 ((a : Int)))) ((Value.int .i64 ((b : Int)))) ((Value.int .i64 ((limit : Int)))) ((Value.bool wb)) ((Value.bool wp)) ((Value.int .i64 (((b - a : Nat) : Int)))) ((Value.int .i64 ((pv : Int)))) h → True := fun _ _ _ => trivial
  cases wb
  · have e : J25_0b1 C md v ((Value.int .i64 ((a : Int)))) ((Value.int .i64 ((b : Int)))) ((Value.int .i64 ((limit : Int)))) ((Value.bool false)) ((Value.bool wp)) ((Value.int .i64 (((b - a : Nat) : Int)))) ((Value.int .i64 ((pv : Int)))) ((Value.int .i64 x)) h = J25_0b2 C md v ((Value.int .i64 ((a : Int)))) ((Value.int .i64 ((b : Int)))) ((Value.int .i64 ((limit : Int)))) ((Value.bool false)) ((Value.bool wp)) ((Value.int .i64 (((b - a : Nat) : Int)))) ((Value.int .i64 ((pv : Int)))) h := by
      unfold J25_0b1
      simp only [go_sem, Nat.reduceAdd, Nat.reduceLeDiff, Nat.reduceMul, Int.reduceBEq, Int.reduceBNe, Int.reduceLT, Int.reduceLE, Int.reduceGT]
    rw [e]
    exact go A Only.refl (permIn_refl _ _ _)
  · cases wp
    · have e : J25_0b1 C md v ((Value.int .i64 ((a : Int)))) ((Value.int .i64 ((b : Int)))) ((Value.int .i64 ((limit : Int)))) ((Value.bool true)) ((Value.bool false)) ((Value.int .i64 (((b - a : Nat) : Int)))) ((Value.int .i64 ((pv : Int)))) ((Value.int .i64 x)) h = J25_0b2 C md v ((Value.int .i64 ((a : Int)))) ((Value.int .i64 ((b : Int)))) ((Value.int .i64 ((limit : Int)))) ((Value.bool true)) ((Value.bool false)) ((Value.int .i64 (((b - a : Nat) : Int)))) ((Value.int .i64 ((pv : Int)))) h := by
        unfold J25_0b1
        simp only [go_sem, Nat.reduceAdd, Nat.reduceLeDiff, Nat.reduceMul, Int.reduceBEq, Int.reduceBNe, Int.reduceLT, Int.reduceLE, Int.reduceGT]
      rw [e]
      exact go A Only.refl (permIn_refl _ _ _)
    · cases hx : x == 1
      · have e : J25_0b1 C md v ((Value.int .i64 ((a : Int)))) ((Value.int .i64 ((b : Int)))) ((Value.int .i64 ((limit : Int)))) ((Value.bool true)) ((Value.bool true)) ((Value.int .i64 (((b - a : Nat) : Int)))) ((Value.int .i64 ((pv : Int)))) ((Value.int .i64 x)) h = J25_0b2 C md v ((Value.int .i64 ((a : Int)))) ((Value.int .i64 ((b : Int)))) ((Value.int .i64 ((limit : Int)))) ((Value.bool true)) ((Value.bool true)) ((Value.int .i64 (((b - a : Nat) : Int)))) ((Value.int .i64 ((pv : Int)))) h := by
          unfold J25_0b1
          simp only [go_sem, Nat.reduceAdd, Nat.reduceLeDiff, Nat.reduceMul, Int.reduceBEq, Int.reduceBNe, Int.reduceLT, Int.reduceLE, Int.reduceGT, aBin_eql, hx]
        rw [e]
        exact go A Only.refl (permIn_refl _ _ _)
      · obtain ⟨k1, e1, A1, o1⟩ := partial_s (md := md) (a := a) (b := b) hro A (by omega) hb (by omega)
        obtain ⟨P1, S1⟩ := partialInsertionSort_holds (lt := ltInt) swo d a b (by omega) hb B
        cases hr : (partialInsertionSort ltInt d a b).2
        · rw [hr] at e1
          have e : J25_0b1 C md v ((Value.int .i64 ((a : Int)))) ((Value.int .i64 ((b : Int)))) ((Value.int .i64 ((limit : Int)))) ((Value.bool true)) ((Value.bool true)) ((Value.int .i64 (((b - a : Nat) : Int)))) ((Value.int .i64 ((pv : Int)))) ((Value.int .i64 x)) h = J25_0b2 C md v ((Value.int .i64 ((a : Int)))) ((Value.int .i64 ((b : Int)))) ((Value.int .i64 ((limit : Int)))) ((Value.bool true)) ((Value.bool true)) ((Value.int .i64 (((b - a : Nat) : Int)))) ((Value.int .i64 ((pv : Int)))) k1 := by
            unfold J25_0b1
            simp only [go_sem, Nat.reduceAdd, Nat.reduceLeDiff, Nat.reduceMul, Int.reduceBEq, Int.reduceBNe, Int.reduceLT, Int.reduceLE, Int.reduceGT, aBin_eql, hx, e1]
          rw [e]
          exact go A1 o1 P1
        · rw [hr] at e1
          have e : J25_0b1 C md v ((Value.int .i64 ((a : Int)))) ((Value.int .i64 ((b : Int)))) ((Value.int .i64 ((limit : Int)))) ((Value.bool true)) ((Value.bool true)) ((Value.int .i64 (((b - a : Nat) : Int)))) ((Value.int .i64 ((pv : Int)))) ((Value.int .i64 x)) h = some (.inr (.ret, (v, (Value.int .i64 ((a : Int))), (Value.int .i64 ((b : Int))), (Value.int .i64 ((limit : Int))), (Value.bool true), (Value.bool true)), k1)) := by
            unfold J25_0b1
            simp only [go_sem, Nat.reduceAdd, Nat.reduceLeDiff, Nat.reduceMul, Int.reduceBEq, Int.reduceBNe, Int.reduceLT, Int.reduceLE, Int.reduceGT, aBin_eql, hx, e1]
          rw [e]
          exact .inl ⟨_, k1, _, rfl, A1, o1, P1, S1 hr⟩
theorem pdq_b0 (I : PdqI v N) (hN : b - a = N) (h12 : 12 < b - a) (hb : b ≤ d.size) (hd : d.size ≤ 100) (hl : limit ≤ 100) (hro : md.ro ≤ slB v) (hrl : md.ro ≤ h.length) (A : AR h v d) (hlen : h.length = h0.length) (B : Below ltInt a b d) :
    RoundO v md h0 h d a b (J25_0b0 C md v ((Value.int .i64 ((a : Int)))) ((Value.int .i64 ((b : Int)))) ((Value.int .i64 ((limit : Int)))) ((Value.bool wb)) ((Value.bool wp)) ((Value.int .i64 (((b - a : Nat) : Int)))) h) := by
  obtain ⟨k1, e1, A1, o1⟩ := choose_s (md := md) (a := a) (b := b) hrl A (by omega) hb (by omega)
  obtain ⟨q1, q2⟩ := choosePivot_holds ltInt d a b (by omega)
  generalize (choosePivot ltInt d a b).1 = pv at e1 q1 q2
  generalize (choosePivot ltInt d a b).2 = hint at e1
  by_cases h2 : hint = .decreasing
  · have z : (hintI hint == 2) = true := by rw [h2]; rfl
    obtain ⟨k2, e2, A2, o2⟩ := reverse_s (md := md) (a := a) (b := b) hro A1 hb (by omega) (by omega)
    have P2 := reverseRange_holds (α := Int) d a b (by omega) hb
    have z2 : (reverseRange d a b).size = d.size := P2.1
    have w1 : IntKind.wrap .i64 ((b : Int) - 1) = ((b - 1 : Nat) : Int) := by rw [wi (by omega) (by omega)]; omega
    have w2 : IntKind.wrap .i64 ((pv : Int) - (a : Int)) = ((pv - a : Nat) : Int) := by rw [wi (by omega) (by omega)]; omega
    have w3 : IntKind.wrap .i64 (((b - 1 : Nat) : Int) - ((pv - a : Nat) : Int)) = ((b - 1 - (pv - a) : Nat) : Int) := by rw [wi (by omega) (by omega)]; omega
    have R := pdq_b1 (md := md) (h0 := h0) (x := 1) (wb := wb) (wp := wp) (pv := b - 1 - (pv - a)) I hN h12 (by omega) (by omega) hl hro (by rw [o2.len, o1.len]; exact hrl) A2 (by rw [o2.len, o1.len]; exact hlen) (Below.permA permIn_all hb B P2) (by omega) (by omega)
    have e : J25_0b0 C md v ((Value.int .i64 ((a : Int)))) ((Value.int .i64 ((b : Int)))) ((Value.int .i64 ((limit : Int)))) ((Value.bool wb)) ((Value.bool wp)) ((Value.int .i64 (((b - a : Nat) : Int)))) h = J25_0b1 C md v ((Value.int .i64 ((a : Int)))) ((Value.int .i64 ((b : Int)))) ((Value.int .i64 ((limit : Int)))) ((Value.bool wb)) ((Value.bool wp)) ((Value.int .i64 (((b - a : Nat) : Int)))) ((Value.int .i64 (((b - 1 - (pv - a) : Nat) : Int)))) ((Value.int .i64 1)) k2 := by
      unfold J25_0b0
      simp only [go_sem, Nat.reduceAdd, Nat.reduceLeDiff, Nat.reduceMul, Int.reduceBEq, Int.reduceBNe, Int.reduceLT, Int.reduceLE, Int.reduceGT, e1, z, e2, aBin_sub, w1, w2, w3]
    rw [e]
    exact R.pre (o1.trans o2) P2
  · have z : (hintI hint == 2) = false := by cases hint <;> first | rfl | exact absurd rfl h2
    have R := pdq_b1 (md := md) (h0 := h0) (x := hintI hint) (wb := wb) (wp := wp) (pv := pv) I hN h12 hb hd hl hro (by rw [o1.len]; exact hrl) A1 (by rw [o1.len]; exact hlen) B q1 q2
    have e : J25_0b0 C md v ((Value.int .i64 ((a : Int)))) ((Value.int .i64 ((b : Int)))) ((Value.int .i64 ((limit : Int)))) ((Value.bool wb)) ((Value.bool wp)) ((Value.int .i64 (((b - a : Nat) : Int)))) h = J25_0b1 C md v ((Value.int .i64 ((a : Int)))) ((Value.int .i64 ((b : Int)))) ((Value.int .i64 ((limit : Int)))) ((Value.bool wb)) ((Value.bool wp)) ((Value.int .i64 (((b - a : Nat) : Int)))) ((Value.int .i64 ((pv : Int)))) ((Value.int .i64 (hintI hint))) k1 := by
      unfold J25_0b0
      simp only [go_sem, Nat.reduceAdd, Nat.reduceLeDiff, Nat.reduceMul, Int.reduceBEq, Int.reduceBNe, Int.reduceLT, Int.reduceLE, Int.reduceGT, e1, z]
    rw [e]
    exact R.pre o1 (permIn_refl _ _ _)
theorem pdq_all (v : Value) : ∀ N, PdqI v N := by
  intro N
  induction N with
  | zero => intro a b limit wb wp d h h0 md hab; omega
  | succ N ih =>
    intro a b limit wb wp d h h0 md hab h1 hb hd hl hro hrl A hlen B
    by_cases hN : b - a < N
    · exact ih a b limit wb wp d h h0 md hN h1 hb hd hl hro hrl A hlen B
    · have hN' : b - a = N := by omega
      have wl : IntKind.wrap .i64 ((b : Int) - (a : Int)) = ((b - a : Nat) : Int) := by rw [wi (by omega) (by omega)]; omega
      by_cases h12 : b - a ≤ 12
      · have c1 : (((b - a : Nat) : Int) ≤ 12) := by omega
        obtain ⟨k1, e1, A1, o1⟩ := insertion_s (md := md) (a := a) (b := b) hro A hb (by omega) (by omega)
        obtain ⟨P1, S1⟩ := insertionSort_holds (lt := ltInt) swo d a b h1 hb
        refine ⟨k1, _, ?_, A1, o1, P1, S1⟩
        rw [J25_0_step]
        unfold Jr25_0
        simp only [go_sem, Nat.reduceAdd, Nat.reduceLeDiff, Nat.reduceMul, Int.reduceBEq, Int.reduceBNe, Int.reduceLT, Int.reduceLE, Int.reduceGT, aBin_sub, wl, aBin_leq, c1, e1, Jk25_0, take_len (o1.len.trans hlen)]
      · have c1 : ¬ (((b - a : Nat) : Int) ≤ 12) := by omega
        by_cases h00 : limit = 0
        · have z : ((limit : Int) == 0) = true := by rw [h00]; rfl
          obtain ⟨k1, e1, A1, o1⟩ := heap_s (md := md) (a := a) (b := b) hro A (by omega) hb (by omega)
          obtain ⟨P1, S1⟩ := heapSort_holds (lt := ltInt) swo d a b h1 hb
          refine ⟨k1, _, ?_, A1, o1, P1, S1⟩
          rw [J25_0_step]
          unfold Jr25_0
          simp only [go_sem, Nat.reduceAdd, Nat.reduceLeDiff, Nat.reduceMul, Int.reduceBEq, Int.reduceBNe, Int.reduceLT, Int.reduceLE, Int.reduceGT, aBin_sub, wl, aBin_leq, c1, aBin_eql, z, e1, Jk25_0, take_len (o1.len.trans hlen)]
        · have z : ((limit : Int) == 0) = false := by rw [beq_eq_false_iff_ne]; omega
          have nt : (!true) = false := rfl
          have nf : (!false) = true := rfl
          cases wb
          · obtain ⟨k1, d1, e1, A1, P1, o1⟩ := break_s (md := md) (a := a) (b := b) hro hrl A (by omega) hb hd
            have z1 : d1.size = d.size := P1.1
            have wm : IntKind.wrap .i64 ((limit : Int) - 1) = ((limit - 1 : Nat) : Int) := by rw [wi (by omega) (by omega)]; omega
            have R := (pdq_b0 (md := md) (h0 := h0) (wb := false) (wp := wp) (limit := limit - 1) ih hN' (by omega) (by omega) (by omega) (by omega) hro (by rw [o1.len]; exact hrl) A1 (by rw [o1.len]; exact hlen) (Below.permA permIn_all hb B P1)).pre o1 P1
            rcases R with ⟨st, h', d', e, A', o', P', S'⟩ | ⟨s0, s1, s2, s3, s8, s9, h4, h', d', e, e2, A', o', P', S'⟩
            · refine ⟨h', d', ?_, A', o', P', S'⟩
              rw [J25_0_step]
              unfold Jr25_0
              simp only [go_sem, Nat.reduceAdd, Nat.reduceLeDiff, Nat.reduceMul, Int.reduceBEq, Int.reduceBNe, Int.reduceLT, Int.reduceLE, Int.reduceGT, aBin_sub, wl, aBin_leq, c1, aBin_eql, z, aUn_not, nf, e1, wm, e, Jk25_0, take_len (o'.len.trans hlen)]
            · refine ⟨h', d', ?_, A', o', P', S'⟩
              rw [J25_0_step]
              unfold Jr25_0
              simp only [go_sem, Nat.reduceAdd, Nat.reduceLeDiff, Nat.reduceMul, Int.reduceBEq, Int.reduceBNe, Int.reduceLT, Int.reduceLE, Int.reduceGT, aBin_sub, wl, aBin_leq, c1, aBin_eql, z, aUn_not, nf, e1, wm, e]
              exact e2
          · have R := pdq_b0 (md := md) (h0 := h0) (wb := true) (wp := wp) (limit := limit) ih hN' (by omega) hb hd hl hro hrl A hlen B
            rcases R with ⟨st, h', d', e, A', o', P', S'⟩ | ⟨s0, s1, s2, s3, s8, s9, h4, h', d', e, e2, A', o', P', S'⟩
            · refine ⟨h', d', ?_, A', o', P', S'⟩
              rw [J25_0_step]
              unfold Jr25_0
              simp only [go_sem, Nat.reduceAdd, Nat.reduceLeDiff, Nat.reduceMul, Int.reduceBEq, Int.reduceBNe, Int.reduceLT, Int.reduceLE, Int.reduceGT, aBin_sub, wl, aBin_leq, c1, aBin_eql, z, aUn_not, nt, e, Jk25_0, take_len (o'.len.trans hlen)]
            · refine ⟨h', d', ?_, A', o', P', S'⟩
              rw [J25_0_step]
              unfold Jr25_0
              simp only [go_sem, Nat.reduceAdd, Nat.reduceLeDiff, Nat.reduceMul, Int.reduceBEq, Int.reduceBNe, Int.reduceLT, Int.reduceLE, Int.reduceGT, aBin_sub, wl, aBin_leq, c1, aBin_eql, z, aUn_not, nt, e]
              exact e2
theorem sort_s (hro : md.ro ≤ slB v) (hrl : md.ro ≤ h.length) (A : AR h v d) (hd : d.size ≤ 100) :
    ∃ h' d', C md 22 [v] h = some ((Value.tuple #[]), h') ∧ AR h' v d' ∧ O1 v h h' ∧ PermIn 0 d.size d d' ∧ SortedIn ltInt 0 d.size d' := by
  have len := fun {α : Type} (kk : Value → Option α) => A.sl.len kk
  have sz : d.toList.length = d.size := by simp
  rw [sz] at len
  have bl : bitsLen d.size ≤ 7 := (bitsLen_le_iff d.size 7).2 (by omega)
  have wn : IntKind.wrap .u64 (d.size : Int) = (d.size : Int) := wu (by omega) (by omega)
  have ls := fun (m : Md) (g : Heap) => len_s (n := d.size) m g hd
  obtain ⟨h', d', e, A', o, P, S⟩ := (pdq_all v (d.size + 1)).call (md := ⟨md.ro, h.length⟩) (a := 0) (b := d.size) (limit := bitsLen d.size) (by omega) (Nat.zero_le _) (Nat.le_refl _) hd (by omega) hro hrl A (.inl rfl)
  refine ⟨h', d', ?_, A', o, P, S⟩
  have z0 : ((0 : Nat) : Int) = 0 := rfl
  rw [z0] at e
  rw [C, call_eq, F22_eq]
  unfold F22
  simp only [go_sem, Nat.reduceAdd, Nat.reduceLeDiff, Nat.reduceMul, Int.reduceBEq, Int.reduceBNe, Int.reduceLT, Int.reduceLE, Int.reduceGT, len, wn, ls, e, take_len o.len]
end Go.Det.O
