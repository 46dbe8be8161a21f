/- Partitions. -/
import Derived.Test.YtalelfcdhmfgoaaO4
set_option autoImplicit false
set_option linter.unusedVariables false
set_option linter.unusedSimpArgs false
namespace Go.Det.O
open Go.Det.E
open Go.Proofs Go.Det
attribute [local congr] bind_c cond_c
variable {md : Md} {h hh k h' h'' h0 : Heap} {v s8 s9 : Value} {d d' : Array Int} {i j a b c n pv : Nat} {x y aa bb : Int}
theorem pt_u0 (A : AR h v d) (ha : a < d.size) (hj : j < d.size) (hn : d.size < 50000) : ∀ (m i : Nat), j + 1 - i ≤ m → i < 50000 → J35_0 C md h0 v ((Value.int .i64 ((a : Int)))) s8 s9 ((Value.int .i64 ((i : Int)))) ((Value.int .i64 ((j : Int)))) h = J35_2 C md h0 v ((Value.int .i64 ((a : Int)))) s8 s9 ((Value.int .i64 (((Go.Sort.scanUp (fun x => Go.Sort.ltInt x d[a]!) d j i : Nat) : Int)))) ((Value.int .i64 ((j : Int)))) h := by
  intro m
  have stop : ∀ i : Nat, ¬ i ≤ j → i < 50000 → J35_0 C md h0 v ((Value.int .i64 ((a : Int)))) s8 s9 ((Value.int .i64 ((i : Int)))) ((Value.int .i64 ((j : Int)))) h = J35_2 C md h0 v ((Value.int .i64 ((a : Int)))) s8 s9 ((Value.int .i64 (((Go.Sort.scanUp (fun x => Go.Sort.ltInt x d[a]!) d j i : Nat) : Int)))) ((Value.int .i64 ((j : Int)))) h := fun i hi _ => by
    have c1 : ¬ ((i : Int) ≤ (j : Int)) := by omega
    have e : Go.Sort.scanUp (fun x => Go.Sort.ltInt x d[a]!) d j i = i := by rw [Go.Sort.scanUp, decide_eq_false hi]; rfl
    rw [e, J35_0_step]
    unfold Jr35_0
    simp only [go_sem, Nat.reduceAdd, Nat.reduceLeDiff, Nat.reduceMul, Int.reduceBEq, Int.reduceBNe, Int.reduceLT, Int.reduceLE, Int.reduceGT, aBin_leq, c1, Jk35_0, J35_1]
  induction m with
  | zero => intro i hm hi; exact stop i (by omega) hi
  | succ m ih =>
    intro i hm hi
    by_cases hle : i ≤ j
    · have c1 : ((i : Int) ≤ (j : Int)) := by omega
      have w1 : IntKind.wrap .i64 ((i : Int) + 1) = ((i + 1 : Nat) : Int) := by rw [wi (by omega) (by omega)]; omega
      obtain ⟨x1, r1⟩ := A.rd (i := i) (by omega)
      obtain ⟨x2, r2⟩ := A.rd (i := a) ha
      have nt : (!true) = false := rfl
      have nf : (!false) = true := rfl
      cases hl : Go.Sort.ltInt d[i]! d[a]!
      · have e : Go.Sort.scanUp (fun x => Go.Sort.ltInt x d[a]!) d j i = i := by rw [Go.Sort.scanUp, decide_eq_true hle]; simp only [hl]; rfl
        rw [e, J35_0_step]
        unfold Jr35_0
        simp only [go_sem, Nat.reduceAdd, Nat.reduceLeDiff, Nat.reduceMul, Int.reduceBEq, Int.reduceBNe, Int.reduceLT, Int.reduceLE, Int.reduceGT, aBin_leq, c1, ixSV_p, x1, r1, x2, r2, less_s, hl, aUn_not, nt, nf, Jk35_0, J35_1]
      · have e : Go.Sort.scanUp (fun x => Go.Sort.ltInt x d[a]!) d j i = Go.Sort.scanUp (fun x => Go.Sort.ltInt x d[a]!) d j (i + 1) := by rw [Go.Sort.scanUp, decide_eq_true hle]; simp only [hl]; rfl
        rw [e, J35_0_step]
        unfold Jr35_0
        simp only [go_sem, Nat.reduceAdd, Nat.reduceLeDiff, Nat.reduceMul, Int.reduceBEq, Int.reduceBNe, Int.reduceLT, Int.reduceLE, Int.reduceGT, aBin_leq, c1, ixSV_p, x1, r1, x2, r2, less_s, hl, aUn_not, nt, nf, aBin_add, w1]
        exact ih (i + 1) (by omega) (by omega)
    · exact stop i hle hi
theorem pt_d0 (A : AR h v d) (ha : a < d.size) (hi : 1 ≤ i) (hn : d.size < 50000) : ∀ (j : Nat), j < d.size → J35_2 C md h0 v ((Value.int .i64 ((a : Int)))) s8 s9 ((Value.int .i64 ((i : Int)))) ((Value.int .i64 ((j : Int)))) h = J35_3 C md h0 v ((Value.int .i64 ((a : Int)))) s8 s9 ((Value.int .i64 ((i : Int)))) ((Value.int .i64 (((Go.Sort.scanDown (fun x => !Go.Sort.ltInt x d[a]!) d i j : Nat) : Int)))) h := by
  intro j
  induction j with
  | zero =>
    intro hj
    have c1 : ¬ ((i : Int) ≤ ((0 : Nat) : Int)) := by omega
    show J35_2 C md h0 v ((Value.int .i64 ((a : Int)))) s8 s9 ((Value.int .i64 ((i : Int)))) ((Value.int .i64 (((0 : Nat) : Int)))) h = J35_3 C md h0 v ((Value.int .i64 ((a : Int)))) s8 s9 ((Value.int .i64 ((i : Int)))) ((Value.int .i64 (((0 : Nat) : Int)))) h
    rw [J35_2_step]
    unfold Jr35_2
    simp only [go_sem, Nat.reduceAdd, Nat.reduceLeDiff, Nat.reduceMul, Int.reduceBEq, Int.reduceBNe, Int.reduceLT, Int.reduceLE, Int.reduceGT, aBin_leq, c1, Jk35_2]
  | succ j ih =>
    intro hj
    by_cases hle : i ≤ j + 1
    · have c1 : ((i : Int) ≤ ((j + 1 : Nat) : Int)) := by omega
      have w1 : IntKind.wrap .i64 (((j + 1 : Nat) : Int) - 1) = (j : Int) := by rw [wi (by omega) (by omega)]; omega
      obtain ⟨x1, r1⟩ := A.rd (i := j + 1) hj
      obtain ⟨x2, r2⟩ := A.rd (i := a) ha
      have nt : (!true) = false := rfl
      have nf : (!false) = true := rfl
      cases hl : Go.Sort.ltInt d[j + 1]! d[a]!
      · have e : Go.Sort.scanDown (fun x => !Go.Sort.ltInt x d[a]!) d i (j + 1) = Go.Sort.scanDown (fun x => !Go.Sort.ltInt x d[a]!) d i j := by rw [Go.Sort.scanDown, decide_eq_true hle]; simp only [hl]; rfl
        rw [e, J35_2_step]
        unfold Jr35_2
        simp only [go_sem, Nat.reduceAdd, Nat.reduceLeDiff, Nat.reduceMul, Int.reduceBEq, Int.reduceBNe, Int.reduceLT, Int.reduceLE, Int.reduceGT, aBin_leq, c1, ixSV_p, x1, r1, x2, r2, less_s, hl, aUn_not, nt, nf, aBin_sub, w1]
        exact ih (by omega)
      · have e : Go.Sort.scanDown (fun x => !Go.Sort.ltInt x d[a]!) d i (j + 1) = j + 1 := by rw [Go.Sort.scanDown, decide_eq_true hle]; simp only [hl]; rfl
        rw [e, J35_2_step]
        unfold Jr35_2
        simp only [go_sem, Nat.reduceAdd, Nat.reduceLeDiff, Nat.reduceMul, Int.reduceBEq, Int.reduceBNe, Int.reduceLT, Int.reduceLE, Int.reduceGT, aBin_leq, c1, ixSV_p, x1, r1, x2, r2, less_s, hl, aUn_not, nt, nf, Jk35_2]
    · have c1 : ¬ ((i : Int) ≤ ((j + 1 : Nat) : Int)) := by omega
      have e : Go.Sort.scanDown (fun x => !Go.Sort.ltInt x d[a]!) d i (j + 1) = j + 1 := by rw [Go.Sort.scanDown, decide_eq_false hle]; rfl
      rw [e, J35_2_step]
      unfold Jr35_2
      simp only [go_sem, Nat.reduceAdd, Nat.reduceLeDiff, Nat.reduceMul, Int.reduceBEq, Int.reduceBNe, Int.reduceLT, Int.reduceLE, Int.reduceGT, aBin_leq, c1, Jk35_2]
theorem pt_u1 (A : AR h v d) (ha : a < d.size) (hj : j < d.size) (hn : d.size < 50000) : ∀ (m i : Nat), j + 1 - i ≤ m → i < 50000 → J35_4b0 C md v ((Value.int .i64 ((a : Int)))) s8 s9 ((Value.int .i64 ((i : Int)))) ((Value.int .i64 ((j : Int)))) h = J35_4b2 C md v ((Value.int .i64 ((a : Int)))) s8 s9 ((Value.int .i64 (((Go.Sort.scanUp (fun x => Go.Sort.ltInt x d[a]!) d j i : Nat) : Int)))) ((Value.int .i64 ((j : Int)))) h := by
  intro m
  have stop : ∀ i : Nat, ¬ i ≤ j → i < 50000 → J35_4b0 C md v ((Value.int .i64 ((a : Int)))) s8 s9 ((Value.int .i64 ((i : Int)))) ((Value.int .i64 ((j : Int)))) h = J35_4b2 C md v ((Value.int .i64 ((a : Int)))) s8 s9 ((Value.int .i64 (((Go.Sort.scanUp (fun x => Go.Sort.ltInt x d[a]!) d j i : Nat) : Int)))) ((Value.int .i64 ((j : Int)))) h := fun i hi _ => by
    have c1 : ¬ ((i : Int) ≤ (j : Int)) := by omega
    have e : Go.Sort.scanUp (fun x => Go.Sort.ltInt x d[a]!) d j i = i := by rw [Go.Sort.scanUp, decide_eq_false hi]; rfl
    rw [e, J35_4b0_step]
    unfold Jr35_4b0
    simp only [go_sem, Nat.reduceAdd, Nat.reduceLeDiff, Nat.reduceMul, Int.reduceBEq, Int.reduceBNe, Int.reduceLT, Int.reduceLE, Int.reduceGT, aBin_leq, c1, Jk35_4b0, J35_4b1]
  induction m with
  | zero => intro i hm hi; exact stop i (by omega) hi
  | succ m ih =>
    intro i hm hi
    by_cases hle : i ≤ j
    · have c1 : ((i : Int) ≤ (j : Int)) := by omega
      have w1 : IntKind.wrap .i64 ((i : Int) + 1) = ((i + 1 : Nat) : Int) := by rw [wi (by omega) (by omega)]; omega
      obtain ⟨x1, r1⟩ := A.rd (i := i) (by omega)
      obtain ⟨x2, r2⟩ := A.rd (i := a) ha
      have nt : (!true) = false := rfl
      have nf : (!false) = true := rfl
      cases hl : Go.Sort.ltInt d[i]! d[a]!
      · have e : Go.Sort.scanUp (fun x => Go.Sort.ltInt x d[a]!) d j i = i := by rw [Go.Sort.scanUp, decide_eq_true hle]; simp only [hl]; rfl
        rw [e, J35_4b0_step]
        unfold Jr35_4b0
        simp only [go_sem, Nat.reduceAdd, Nat.reduceLeDiff, Nat.reduceMul, Int.reduceBEq, Int.reduceBNe, Int.reduceLT, Int.reduceLE, Int.reduceGT, aBin_leq, c1, ixSV_p, x1, r1, x2, r2, less_s, hl, aUn_not, nt, nf, Jk35_4b0, J35_4b1]
      · have e : Go.Sort.scanUp (fun x => Go.Sort.ltInt x d[a]!) d j i = Go.Sort.scanUp (fun x => Go.Sort.ltInt x d[a]!) d j (i + 1) := by rw [Go.Sort.scanUp, decide_eq_true hle]; simp only [hl]; rfl
        rw [e, J35_4b0_step]
        unfold Jr35_4b0
        simp only [go_sem, Nat.reduceAdd, Nat.reduceLeDiff, Nat.reduceMul, Int.reduceBEq, Int.reduceBNe, Int.reduceLT, Int.reduceLE, Int.reduceGT, aBin_leq, c1, ixSV_p, x1, r1, x2, r2, less_s, hl, aUn_not, nt, nf, aBin_add, w1]
        exact ih (i + 1) (by omega) (by omega)
    · exact stop i hle hi
theorem pt_d1 (A : AR h v d) (ha : a < d.size) (hi : 1 ≤ i) (hn : d.size < 50000) : ∀ (j : Nat), j < d.size → J35_4b2 C md v ((Value.int .i64 ((a : Int)))) s8 s9 ((Value.int .i64 ((i : Int)))) ((Value.int .i64 ((j : Int)))) h = J35_4b3 C md v ((Value.int .i64 ((a : Int)))) s8 s9 ((Value.int .i64 ((i : Int)))) ((Value.int .i64 (((Go.Sort.scanDown (fun x => !Go.Sort.ltInt x d[a]!) d i j : Nat) : Int)))) h := by
  intro j
  induction j with
  | zero =>
    intro hj
    have c1 : ¬ ((i : Int) ≤ ((0 : Nat) : Int)) := by omega
    show J35_4b2 C md v ((Value.int .i64 ((a : Int)))) s8 s9 ((Value.int .i64 ((i : Int)))) ((Value.int .i64 (((0 : Nat) : Int)))) h = J35_4b3 C md v ((Value.int .i64 ((a : Int)))) s8 s9 ((Value.int .i64 ((i : Int)))) ((Value.int .i64 (((0 : Nat) : Int)))) h
    rw [J35_4b2_step]
    unfold Jr35_4b2
    simp only [go_sem, Nat.reduceAdd, Nat.reduceLeDiff, Nat.reduceMul, Int.reduceBEq, Int.reduceBNe, Int.reduceLT, Int.reduceLE, Int.reduceGT, aBin_leq, c1, Jk35_4b2]
  | succ j ih =>
    intro hj
    by_cases hle : i ≤ j + 1
    · have c1 : ((i : Int) ≤ ((j + 1 : Nat) : Int)) := by omega
      have w1 : IntKind.wrap .i64 (((j + 1 : Nat) : Int) - 1) = (j : Int) := by rw [wi (by omega) (by omega)]; omega
      obtain ⟨x1, r1⟩ := A.rd (i := j + 1) hj
      obtain ⟨x2, r2⟩ := A.rd (i := a) ha
      have nt : (!true) = false := rfl
      have nf : (!false) = true := rfl
      cases hl : Go.Sort.ltInt d[j + 1]! d[a]!
      · have e : Go.Sort.scanDown (fun x => !Go.Sort.ltInt x d[a]!) d i (j + 1) = Go.Sort.scanDown (fun x => !Go.Sort.ltInt x d[a]!) d i j := by rw [Go.Sort.scanDown, decide_eq_true hle]; simp only [hl]; rfl
        rw [e, J35_4b2_step]
        unfold Jr35_4b2
        simp only [go_sem, Nat.reduceAdd, Nat.reduceLeDiff, Nat.reduceMul, Int.reduceBEq, Int.reduceBNe, Int.reduceLT, Int.reduceLE, Int.reduceGT, aBin_leq, c1, ixSV_p, x1, r1, x2, r2, less_s, hl, aUn_not, nt, nf, aBin_sub, w1]
        exact ih (by omega)
      · have e : Go.Sort.scanDown (fun x => !Go.Sort.ltInt x d[a]!) d i (j + 1) = j + 1 := by rw [Go.Sort.scanDown, decide_eq_true hle]; simp only [hl]; rfl
        rw [e, J35_4b2_step]
        unfold Jr35_4b2
        simp only [go_sem, Nat.reduceAdd, Nat.reduceLeDiff, Nat.reduceMul, Int.reduceBEq, Int.reduceBNe, Int.reduceLT, Int.reduceLE, Int.reduceGT, aBin_leq, c1, ixSV_p, x1, r1, x2, r2, less_s, hl, aUn_not, nt, nf, Jk35_4b2]
    · have c1 : ¬ ((i : Int) ≤ ((j + 1 : Nat) : Int)) := by omega
      have e : Go.Sort.scanDown (fun x => !Go.Sort.ltInt x d[a]!) d i (j + 1) = j + 1 := by rw [Go.Sort.scanDown, decide_eq_false hle]; rfl
      rw [e, J35_4b2_step]
      unfold Jr35_4b2
      simp only [go_sem, Nat.reduceAdd, Nat.reduceLeDiff, Nat.reduceMul, Int.reduceBEq, Int.reduceBNe, Int.reduceLT, Int.reduceLE, Int.reduceGT, aBin_leq, c1, Jk35_4b2]
theorem pe_u1 (A : AR h v d) (ha : a < d.size) (hj : j < d.size) (hn : d.size < 50000) : ∀ (m i : Nat), j + 1 - i ≤ m → i < 50000 → J34_0b0 C md v ((Value.int .i64 ((a : Int)))) s8 ((Value.int .i64 ((i : Int)))) ((Value.int .i64 ((j : Int)))) h = J34_0b2 C md v ((Value.int .i64 ((a : Int)))) s8 ((Value.int .i64 (((Go.Sort.scanUp (fun x => !Go.Sort.ltInt d[a]! x) d j i : Nat) : Int)))) ((Value.int .i64 ((j : Int)))) h := by
  intro m
  have stop : ∀ i : Nat, ¬ i ≤ j → i < 50000 → J34_0b0 C md v ((Value.int .i64 ((a : Int)))) s8 ((Value.int .i64 ((i : Int)))) ((Value.int .i64 ((j : Int)))) h = J34_0b2 C md v ((Value.int .i64 ((a : Int)))) s8 ((Value.int .i64 (((Go.Sort.scanUp (fun x => !Go.Sort.ltInt d[a]! x) d j i : Nat) : Int)))) ((Value.int .i64 ((j : Int)))) h := fun i hi _ => by
    have c1 : ¬ ((i : Int) ≤ (j : Int)) := by omega
    have e : Go.Sort.scanUp (fun x => !Go.Sort.ltInt d[a]! x) d j i = i := by rw [Go.Sort.scanUp, decide_eq_false hi]; rfl
    rw [e, J34_0b0_step]
    unfold Jr34_0b0
    simp only [go_sem, Nat.reduceAdd, Nat.reduceLeDiff, Nat.reduceMul, Int.reduceBEq, Int.reduceBNe, Int.reduceLT, Int.reduceLE, Int.reduceGT, aBin_leq, c1, Jk34_0b0, J34_0b1]
  induction m with
  | zero => intro i hm hi; exact stop i (by omega) hi
  | succ m ih =>
    intro i hm hi
    by_cases hle : i ≤ j
    · have c1 : ((i : Int) ≤ (j : Int)) := by omega
      have w1 : IntKind.wrap .i64 ((i : Int) + 1) = ((i + 1 : Nat) : Int) := by rw [wi (by omega) (by omega)]; omega
      obtain ⟨x1, r1⟩ := A.rd (i := i) (by omega)
      obtain ⟨x2, r2⟩ := A.rd (i := a) ha
      have nt : (!true) = false := rfl
      have nf : (!false) = true := rfl
      cases hl : Go.Sort.ltInt d[a]! d[i]!
      · have e : Go.Sort.scanUp (fun x => !Go.Sort.ltInt d[a]! x) d j i = Go.Sort.scanUp (fun x => !Go.Sort.ltInt d[a]! x) d j (i + 1) := by rw [Go.Sort.scanUp, decide_eq_true hle]; simp only [hl]; rfl
        rw [e, J34_0b0_step]
        unfold Jr34_0b0
        simp only [go_sem, Nat.reduceAdd, Nat.reduceLeDiff, Nat.reduceMul, Int.reduceBEq, Int.reduceBNe, Int.reduceLT, Int.reduceLE, Int.reduceGT, aBin_leq, c1, ixSV_p, x1, r1, x2, r2, less_s, hl, aUn_not, nt, nf, aBin_add, w1]
        exact ih (i + 1) (by omega) (by omega)
      · have e : Go.Sort.scanUp (fun x => !Go.Sort.ltInt d[a]! x) d j i = i := by rw [Go.Sort.scanUp, decide_eq_true hle]; simp only [hl]; rfl
        rw [e, J34_0b0_step]
        unfold Jr34_0b0
        simp only [go_sem, Nat.reduceAdd, Nat.reduceLeDiff, Nat.reduceMul, Int.reduceBEq, Int.reduceBNe, Int.reduceLT, Int.reduceLE, Int.reduceGT, aBin_leq, c1, ixSV_p, x1, r1, x2, r2, less_s, hl, aUn_not, nt, nf, Jk34_0b0, J34_0b1]
    · exact stop i hle hi
theorem pe_d1 (A : AR h v d) (ha : a < d.size) (hi : 1 ≤ i) (hn : d.size < 50000) : ∀ (j : Nat), j < d.size → J34_0b2 C md v ((Value.int .i64 ((a : Int)))) s8 ((Value.int .i64 ((i : Int)))) ((Value.int .i64 ((j : Int)))) h = J34_0b3 C md v ((Value.int .i64 ((a : Int)))) s8 ((Value.int .i64 ((i : Int)))) ((Value.int .i64 (((Go.Sort.scanDown (fun x => Go.Sort.ltInt d[a]! x) d i j : Nat) : Int)))) h := by
  intro j
  induction j with
  | zero =>
    intro hj
    have c1 : ¬ ((i : Int) ≤ ((0 : Nat) : Int)) := by omega
    show J34_0b2 C md v ((Value.int .i64 ((a : Int)))) s8 ((Value.int .i64 ((i : Int)))) ((Value.int .i64 (((0 : Nat) : Int)))) h = J34_0b3 C md v ((Value.int .i64 ((a : Int)))) s8 ((Value.int .i64 ((i : Int)))) ((Value.int .i64 (((0 : Nat) : Int)))) h
    rw [J34_0b2_step]
    unfold Jr34_0b2
    simp only [go_sem, Nat.reduceAdd, Nat.reduceLeDiff, Nat.reduceMul, Int.reduceBEq, Int.reduceBNe, Int.reduceLT, Int.reduceLE, Int.reduceGT, aBin_leq, c1, Jk34_0b2]
  | succ j ih =>
    intro hj
    by_cases hle : i ≤ j + 1
    · have c1 : ((i : Int) ≤ ((j + 1 : Nat) : Int)) := by omega
      have w1 : IntKind.wrap .i64 (((j + 1 : Nat) : Int) - 1) = (j : Int) := by rw [wi (by omega) (by omega)]; omega
      obtain ⟨x1, r1⟩ := A.rd (i := j + 1) hj
      obtain ⟨x2, r2⟩ := A.rd (i := a) ha
      have nt : (!true) = false := rfl
      have nf : (!false) = true := rfl
      cases hl : Go.Sort.ltInt d[a]! d[j + 1]!
      · have e : Go.Sort.scanDown (fun x => Go.Sort.ltInt d[a]! x) d i (j + 1) = j + 1 := by rw [Go.Sort.scanDown, decide_eq_true hle]; simp only [hl]; rfl
        rw [e, J34_0b2_step]
        unfold Jr34_0b2
        simp only [go_sem, Nat.reduceAdd, Nat.reduceLeDiff, Nat.reduceMul, Int.reduceBEq, Int.reduceBNe, Int.reduceLT, Int.reduceLE, Int.reduceGT, aBin_leq, c1, ixSV_p, x1, r1, x2, r2, less_s, hl, aUn_not, nt, nf, Jk34_0b2]
      · have e : Go.Sort.scanDown (fun x => Go.Sort.ltInt d[a]! x) d i (j + 1) = Go.Sort.scanDown (fun x => Go.Sort.ltInt d[a]! x) d i j := by rw [Go.Sort.scanDown, decide_eq_true hle]; simp only [hl]; rfl
        rw [e, J34_0b2_step]
        unfold Jr34_0b2
        simp only [go_sem, Nat.reduceAdd, Nat.reduceLeDiff, Nat.reduceMul, Int.reduceBEq, Int.reduceBNe, Int.reduceLT, Int.reduceLE, Int.reduceGT, aBin_leq, c1, ixSV_p, x1, r1, x2, r2, less_s, hl, aUn_not, nt, nf, aBin_sub, w1]
        exact ih (by omega)
    · have c1 : ¬ ((i : Int) ≤ ((j + 1 : Nat) : Int)) := by omega
      have e : Go.Sort.scanDown (fun x => Go.Sort.ltInt d[a]! x) d i (j + 1) = j + 1 := by rw [Go.Sort.scanDown, decide_eq_false hle]; rfl
      rw [e, J34_0b2_step]
      unfold Jr34_0b2
      simp only [go_sem, Nat.reduceAdd, Nat.reduceLeDiff, Nat.reduceMul, Int.reduceBEq, Int.reduceBNe, Int.reduceLT, Int.reduceLE, Int.reduceGT, aBin_leq, c1, Jk34_0b2]
/-- The loop of the partition. -/
theorem pt_lp (hro : md.ro ≤ slB v) (hn : n < 40000) (ha : a < n) : ∀ (m i j : Nat) (d : Array Int) (h : Heap), j + 1 - i ≤ m → 1 ≤ i → i ≤ j + 2 → j < n → AR h v d → d.size = n →
    ∃ h', J35_4 C md h0 v ((Value.int .i64 ((a : Int)))) s8 s9 ((Value.int .i64 ((i : Int)))) ((Value.int .i64 ((j : Int)))) h = J35_5 C md h0 v ((Value.int .i64 ((a : Int)))) ((Value.int .i64 (((Go.Sort.partLoop Go.Sort.ltInt a i j d).1 : Int)))) h' ∧ AR h' v (Go.Sort.partLoop Go.Sort.ltInt a i j d).2 ∧ O1 v h h' ∧ (Go.Sort.partLoop Go.Sort.ltInt a i j d).1 ≤ j := by
  intro m
  induction m with
  | zero =>
    intro i j d h hm h1 hij hj A hd
    have e1 := pt_u1 (md := md) (s8 := s8) (s9 := s9) (a := a) (j := j) A (by omega) (by omega) (by omega) (j + 1 - i) i (Nat.le_refl _) (by omega)
    have q1 := Go.Sort.scanUp_ge (fun x => Go.Sort.ltInt x d[a]!) d j i
    rw [Go.Sort.partLoop_eq]
    generalize hi2 : Go.Sort.scanUp (fun x => Go.Sort.ltInt x d[a]!) d j i = i2 at e1 q1
    have e2 := pt_d1 (md := md) (s8 := s8) (s9 := s9) (a := a) (i := i2) A (by omega) (by omega) (by omega) j (by omega)
    have q2 := Go.Sort.scanDown_le (fun x => !Go.Sort.ltInt x d[a]!) d i2 j
    generalize hj2 : Go.Sort.scanDown (fun x => !Go.Sort.ltInt x d[a]!) d i2 j = j2 at e2 q2
    have c1 : ((i2 : Int) > (j2 : Int)) := by omega
    have c1' : i2 > j2 := by omega
    refine ⟨h, ?_, by simp only [if_pos c1']; exact A, Only.refl, by simp only [if_pos c1']; exact q2⟩
    simp only [if_pos c1']
    rw [J35_4_step]
    unfold Jr35_4
    simp only [go_sem, Nat.reduceAdd, Nat.reduceLeDiff, Nat.reduceMul, Int.reduceBEq, Int.reduceBNe, Int.reduceLT, Int.reduceLE, Int.reduceGT, e1, e2]
    unfold J35_4b3
    simp only [go_sem, Nat.reduceAdd, Nat.reduceLeDiff, Nat.reduceMul, Int.reduceBEq, Int.reduceBNe, Int.reduceLT, Int.reduceLE, Int.reduceGT, aBin_gtr, c1, Jk35_4]
  | succ m ih =>
    intro i j d h hm h1 hij hj A hd
    have e1 := pt_u1 (md := md) (s8 := s8) (s9 := s9) (a := a) (j := j) A (by omega) (by omega) (by omega) (j + 1 - i) i (Nat.le_refl _) (by omega)
    have q1 := Go.Sort.scanUp_ge (fun x => Go.Sort.ltInt x d[a]!) d j i
    rw [Go.Sort.partLoop_eq]
    generalize hi2 : Go.Sort.scanUp (fun x => Go.Sort.ltInt x d[a]!) d j i = i2 at e1 q1
    have e2 := pt_d1 (md := md) (s8 := s8) (s9 := s9) (a := a) (i := i2) A (by omega) (by omega) (by omega) j (by omega)
    have q2 := Go.Sort.scanDown_le (fun x => !Go.Sort.ltInt x d[a]!) d i2 j
    generalize hj2 : Go.Sort.scanDown (fun x => !Go.Sort.ltInt x d[a]!) d i2 j = j2 at e2 q2
    by_cases c1' : i2 > j2
    · have c1 : ((i2 : Int) > (j2 : Int)) := by omega
      refine ⟨h, ?_, by simp only [if_pos c1']; exact A, Only.refl, by simp only [if_pos c1']; exact q2⟩
      simp only [if_pos c1']
      rw [J35_4_step]
      unfold Jr35_4
      simp only [go_sem, Nat.reduceAdd, Nat.reduceLeDiff, Nat.reduceMul, Int.reduceBEq, Int.reduceBNe, Int.reduceLT, Int.reduceLE, Int.reduceGT, e1, e2]
      unfold J35_4b3
      simp only [go_sem, Nat.reduceAdd, Nat.reduceLeDiff, Nat.reduceMul, Int.reduceBEq, Int.reduceBNe, Int.reduceLT, Int.reduceLE, Int.reduceGT, aBin_gtr, c1, Jk35_4]
    · have c1 : ¬ ((i2 : Int) > (j2 : Int)) := by omega
      obtain ⟨x1, r1⟩ := A.rd (i := i2) (by omega)
      obtain ⟨x2, r2⟩ := A.rd (i := j2) (by omega)
      obtain ⟨g1, g2, w1, w2, A2, o2⟩ := A.swp (md := md) (i := i2) (j := j2) (by omega) (by omega) hro
      have wi2 : IntKind.wrap .i64 ((i2 : Int) + 1) = ((i2 + 1 : Nat) : Int) := by rw [wi (by omega) (by omega)]; omega
      have wj2 : IntKind.wrap .i64 ((j2 : Int) - 1) = ((j2 - 1 : Nat) : Int) := by rw [wi (by omega) (by omega)]; omega
      obtain ⟨h', e3, A3, o3, q3⟩ := ih (i2 + 1) (j2 - 1) _ g2 (by omega) (by omega) (by omega) (by omega) A2 (by rw [Go.Sort.size_swp]; exact hd)
      refine ⟨h', ?_, by simp only [if_neg c1']; exact A3, o2.trans o3, by simp only [if_neg c1']; omega⟩
      simp only [if_neg c1']
      rw [J35_4_step]
      unfold Jr35_4
      simp only [go_sem, Nat.reduceAdd, Nat.reduceLeDiff, Nat.reduceMul, Int.reduceBEq, Int.reduceBNe, Int.reduceLT, Int.reduceLE, Int.reduceGT, e1, e2]
      unfold J35_4b3
      simp only [go_sem, Nat.reduceAdd, Nat.reduceLeDiff, Nat.reduceMul, Int.reduceBEq, Int.reduceBNe, Int.reduceLT, Int.reduceLE, Int.reduceGT, aBin_gtr, c1, ixSV_p, x2, r2, x1, r1, st_1i, w1, w2, aBin_add, wi2, aBin_sub, wj2]
      exact e3
theorem partition_s (hro : md.ro ≤ slB v) (A : AR h v d) (hab : a + 1 < b) (hb : b ≤ d.size) (hp : pv < d.size) (hn : d.size < 40000) :
    ∃ h', C md 35 [v, (Value.int .i64 ((a : Int))), (Value.int .i64 ((b : Int))), (Value.int .i64 ((pv : Int)))] h = some ((Value.tuple #[(Value.int .i64 (((Go.Sort.partition Go.Sort.ltInt d a b pv).1 : Int))), (Value.bool ((Go.Sort.partition Go.Sort.ltInt d a b pv).2.1))]), h') ∧ AR h' v (Go.Sort.partition Go.Sort.ltInt d a b pv).2.2 ∧ O1 v h h' := by
  obtain ⟨x1, r1⟩ := A.rd (i := a) (by omega)
  obtain ⟨x2, r2⟩ := A.rd (i := pv) hp
  obtain ⟨g1, g2, w1, w2, A2, o2⟩ := A.swp (md := ⟨md.ro, h.length⟩) (i := a) (j := pv) (by omega) hp hro
  have sz := Go.Sort.size_swp d a pv
  have wa : IntKind.wrap .i64 ((a : Int) + 1) = ((a + 1 : Nat) : Int) := by rw [wi (by omega) (by omega)]; omega
  have wb : IntKind.wrap .i64 ((b : Int) - 1) = ((b - 1 : Nat) : Int) := by rw [wi (by omega) (by omega)]; omega
  unfold Go.Sort.partition
  generalize Go.Sort.swp d a pv = d1 at A2 sz
  have e1 := pt_u0 (md := ⟨md.ro, h.length⟩) (h0 := h) (s8 := (Value.int .i64 0)) (s9 := (Value.bool false)) (a := a) (j := b - 1) A2 (by omega) (by omega) (by omega) (b - 1 + 1 - (a + 1)) (a + 1) (Nat.le_refl _) (by omega)
  have q1 := Go.Sort.scanUp_ge (fun x => Go.Sort.ltInt x d1[a]!) d1 (b - 1) (a + 1)
  simp only []
  generalize Go.Sort.scanUp (fun x => Go.Sort.ltInt x d1[a]!) d1 (b - 1) (a + 1) = i2 at e1 q1
  have e2 := pt_d0 (md := ⟨md.ro, h.length⟩) (h0 := h) (s8 := (Value.int .i64 0)) (s9 := (Value.bool false)) (a := a) (i := i2) A2 (by omega) (by omega) (by omega) (b - 1) (by omega)
  have q2 := Go.Sort.scanDown_le (fun x => !Go.Sort.ltInt x d1[a]!) d1 i2 (b - 1)
  generalize Go.Sort.scanDown (fun x => !Go.Sort.ltInt x d1[a]!) d1 i2 (b - 1) = j2 at e2 q2
  obtain ⟨x4, r4⟩ := A2.rd (i := j2) (by omega)
  obtain ⟨x5, r5⟩ := A2.rd (i := a) (by omega)
  by_cases c1' : i2 > j2
  · have c1 : ((i2 : Int) > (j2 : Int)) := by omega
    rw [if_pos c1']
    obtain ⟨k1, k2, y1, y2, A3, o3⟩ := A2.swp (md := ⟨md.ro, h.length⟩) (i := j2) (j := a) (by omega) (by omega) hro
    have o := o2.trans o3
    refine ⟨k2, ?_, A3, o⟩
    rw [C, call_eq, F35_eq]
    unfold F35
    simp only [go_sem, Nat.reduceAdd, Nat.reduceLeDiff, Nat.reduceMul, Int.reduceBEq, Int.reduceBNe, Int.reduceLT, Int.reduceLE, Int.reduceGT, x2, r2, x1, r1, st_1i, w1, w2, wa, wb, e1, e2]
    unfold J35_3
    simp only [go_sem, Nat.reduceAdd, Nat.reduceLeDiff, Nat.reduceMul, Int.reduceBEq, Int.reduceBNe, Int.reduceLT, Int.reduceLE, Int.reduceGT, aBin_gtr, c1, ixSV_p, x5, r5, x4, r4, st_1i, y1, y2, take_len o.len]
  · have c1 : ¬ ((i2 : Int) > (j2 : Int)) := by omega
    rw [if_neg c1']
    obtain ⟨x3, r3⟩ := A2.rd (i := i2) (by omega)
    obtain ⟨k1, k2, y1, y2, A3, o3⟩ := A2.swp (md := ⟨md.ro, h.length⟩) (i := i2) (j := j2) (by omega) (by omega) hro
    have wi2 : IntKind.wrap .i64 ((i2 : Int) + 1) = ((i2 + 1 : Nat) : Int) := by rw [wi (by omega) (by omega)]; omega
    have wj2 : IntKind.wrap .i64 ((j2 : Int) - 1) = ((j2 - 1 : Nat) : Int) := by rw [wi (by omega) (by omega)]; omega
    obtain ⟨k3, e3, A4, o4, q4⟩ := pt_lp (md := ⟨md.ro, h.length⟩) (h0 := h) (s8 := (Value.int .i64 0)) (s9 := (Value.bool false)) (a := a) (n := d.size) hro hn (by omega) (j2 - 1 + 1 - (i2 + 1)) (i2 + 1) (j2 - 1) _ k2 (Nat.le_refl _) (by omega) (by omega) (by omega) A3 (by rw [Go.Sort.size_swp]; exact sz)
    have s4 := (A3.same A4).trans (show _ = d.size by rw [Go.Sort.size_swp]; exact sz)
    generalize Go.Sort.partLoop Go.Sort.ltInt a (i2 + 1) (j2 - 1) (Go.Sort.swp d1 i2 j2) = r at e3 A4 q4 s4
    obtain ⟨x6, r6⟩ := A4.rd (i := r.1) (by omega)
    obtain ⟨x7, r7⟩ := A4.rd (i := a) (by omega)
    obtain ⟨k5, k6, y3, y4, A5, o5⟩ := A4.swp (md := ⟨md.ro, h.length⟩) (i := r.1) (j := a) (by omega) (by omega) hro
    have o := ((o2.trans o3).trans o4).trans o5
    refine ⟨k6, ?_, A5, o⟩
    rw [C, call_eq, F35_eq]
    unfold F35
    simp only [go_sem, Nat.reduceAdd, Nat.reduceLeDiff, Nat.reduceMul, Int.reduceBEq, Int.reduceBNe, Int.reduceLT, Int.reduceLE, Int.reduceGT, x2, r2, x1, r1, st_1i, w1, w2, wa, wb, e1, e2]
    unfold J35_3
    simp only [go_sem, Nat.reduceAdd, Nat.reduceLeDiff, Nat.reduceMul, Int.reduceBEq, Int.reduceBNe, Int.reduceLT, Int.reduceLE, Int.reduceGT, aBin_gtr, c1, ixSV_p, x4, r4, x3, r3, st_1i, y1, y2, aBin_add, wi2, aBin_sub, wj2, e3]
    unfold J35_5
    simp only [go_sem, Nat.reduceAdd, Nat.reduceLeDiff, Nat.reduceMul, Int.reduceBEq, Int.reduceBNe, Int.reduceLT, Int.reduceLE, Int.reduceGT, ixSV_p, x7, r7, x6, r6, st_1i, y3, y4, take_len o.len]
/-- The loop of the other one. -/
theorem pe_lp {h0 : Heap} (hro : md.ro ≤ slB v) (hn : n < 40000) (ha : a < n) : ∀ (m i j : Nat) (d : Array Int) (h : Heap), j + 1 - i ≤ m → 1 ≤ i → i ≤ j + 2 → j < n → AR h v d → d.size = n → h.length = h0.length →
    ∃ h', J34_0 C md h0 v ((Value.int .i64 ((a : Int)))) s8 ((Value.int .i64 ((i : Int)))) ((Value.int .i64 ((j : Int)))) h = some ((Value.int .i64 (((Go.Sort.partEqLoop Go.Sort.ltInt a i j d).1 : Int))), h') ∧ AR h' v (Go.Sort.partEqLoop Go.Sort.ltInt a i j d).2 ∧ O1 v h h' := by
  intro m
  induction m with
  | zero =>
    intro i j d h hm h1 hij hj A hd hl
    have e1 := pe_u1 (md := md) (s8 := s8) (a := a) (j := j) A (by omega) (by omega) (by omega) (j + 1 - i) i (Nat.le_refl _) (by omega)
    have q1 := Go.Sort.scanUp_ge (fun x => !Go.Sort.ltInt d[a]! x) d j i
    rw [Go.Sort.partEqLoop_eq]
    generalize hi2 : Go.Sort.scanUp (fun x => !Go.Sort.ltInt d[a]! x) d j i = i2 at e1 q1
    have e2 := pe_d1 (md := md) (s8 := s8) (a := a) (i := i2) A (by omega) (by omega) (by omega) j (by omega)
    have q2 := Go.Sort.scanDown_le (fun x => Go.Sort.ltInt d[a]! x) d i2 j
    generalize hj2 : Go.Sort.scanDown (fun x => Go.Sort.ltInt d[a]! x) d i2 j = j2 at e2 q2
    have c1 : ((i2 : Int) > (j2 : Int)) := by omega
    have c1' : i2 > j2 := by omega
    refine ⟨h, ?_, by simp only [if_pos c1']; exact A, Only.refl⟩
    simp only [if_pos c1']
    rw [J34_0_step]
    unfold Jr34_0
    simp only [go_sem, Nat.reduceAdd, Nat.reduceLeDiff, Nat.reduceMul, Int.reduceBEq, Int.reduceBNe, Int.reduceLT, Int.reduceLE, Int.reduceGT, e1, e2]
    unfold J34_0b3
    simp only [go_sem, Nat.reduceAdd, Nat.reduceLeDiff, Nat.reduceMul, Int.reduceBEq, Int.reduceBNe, Int.reduceLT, Int.reduceLE, Int.reduceGT, aBin_gtr, c1, Jk34_0, take_len hl]
  | succ m ih =>
    intro i j d h hm h1 hij hj A hd hl
    have e1 := pe_u1 (md := md) (s8 := s8) (a := a) (j := j) A (by omega) (by omega) (by omega) (j + 1 - i) i (Nat.le_refl _) (by omega)
    have q1 := Go.Sort.scanUp_ge (fun x => !Go.Sort.ltInt d[a]! x) d j i
    rw [Go.Sort.partEqLoop_eq]
    generalize hi2 : Go.Sort.scanUp (fun x => !Go.Sort.ltInt d[a]! x) d j i = i2 at e1 q1
    have e2 := pe_d1 (md := md) (s8 := s8) (a := a) (i := i2) A (by omega) (by omega) (by omega) j (by omega)
    have q2 := Go.Sort.scanDown_le (fun x => Go.Sort.ltInt d[a]! x) d i2 j
    generalize hj2 : Go.Sort.scanDown (fun x => Go.Sort.ltInt d[a]! x) d i2 j = j2 at e2 q2
    by_cases c1' : i2 > j2
    · have c1 : ((i2 : Int) > (j2 : Int)) := by omega
      refine ⟨h, ?_, by simp only [if_pos c1']; exact A, Only.refl⟩
      simp only [if_pos c1']
      rw [J34_0_step]
      unfold Jr34_0
      simp only [go_sem, Nat.reduceAdd, Nat.reduceLeDiff, Nat.reduceMul, Int.reduceBEq, Int.reduceBNe, Int.reduceLT, Int.reduceLE, Int.reduceGT, e1, e2]
      unfold J34_0b3
      simp only [go_sem, Nat.reduceAdd, Nat.reduceLeDiff, Nat.reduceMul, Int.reduceBEq, Int.reduceBNe, Int.reduceLT, Int.reduceLE, Int.reduceGT, aBin_gtr, c1, Jk34_0, take_len hl]
    · have c1 : ¬ ((i2 : Int) > (j2 : Int)) := by omega
      obtain ⟨x1, r1⟩ := A.rd (i := i2) (by omega)
      obtain ⟨x2, r2⟩ := A.rd (i := j2) (by omega)
      obtain ⟨g1, g2, w1, w2, A2, o2⟩ := A.swp (md := md) (i := i2) (j := j2) (by omega) (by omega) hro
      have wi2 : IntKind.wrap .i64 ((i2 : Int) + 1) = ((i2 + 1 : Nat) : Int) := by rw [wi (by omega) (by omega)]; omega
      have wj2 : IntKind.wrap .i64 ((j2 : Int) - 1) = ((j2 - 1 : Nat) : Int) := by rw [wi (by omega) (by omega)]; omega
      obtain ⟨h', e3, A3, o3⟩ := ih (i2 + 1) (j2 - 1) _ g2 (by omega) (by omega) (by omega) (by omega) A2 (by rw [Go.Sort.size_swp]; exact hd) (by rw [o2.len]; exact hl)
      refine ⟨h', ?_, by simp only [if_neg c1']; exact A3, o2.trans o3⟩
      simp only [if_neg c1']
      rw [J34_0_step]
      unfold Jr34_0
      simp only [go_sem, Nat.reduceAdd, Nat.reduceLeDiff, Nat.reduceMul, Int.reduceBEq, Int.reduceBNe, Int.reduceLT, Int.reduceLE, Int.reduceGT, e1, e2]
      unfold J34_0b3
      simp only [go_sem, Nat.reduceAdd, Nat.reduceLeDiff, Nat.reduceMul, Int.reduceBEq, Int.reduceBNe, Int.reduceLT, Int.reduceLE, Int.reduceGT, aBin_gtr, c1, ixSV_p, x2, r2, x1, r1, st_1i, w1, w2, aBin_add, wi2, aBin_sub, wj2]
      exact e3
theorem parteq_s (hro : md.ro ≤ slB v) (A : AR h v d) (hab : a + 1 < b) (hb : b ≤ d.size) (hp : pv < d.size) (hn : d.size < 40000) :
    ∃ h', C md 34 [v, (Value.int .i64 ((a : Int))), (Value.int .i64 ((b : Int))), (Value.int .i64 ((pv : Int)))] h = some ((Value.int .i64 (((Go.Sort.partitionEqual Go.Sort.ltInt d a b pv).1 : Int))), h') ∧ AR h' v (Go.Sort.partitionEqual Go.Sort.ltInt d a b pv).2 ∧ O1 v h h' := by
  obtain ⟨x1, r1⟩ := A.rd (i := a) (by omega)
  obtain ⟨x2, r2⟩ := A.rd (i := pv) hp
  obtain ⟨g1, g2, w1, w2, A2, o2⟩ := A.swp (md := ⟨md.ro, h.length⟩) (i := a) (j := pv) (by omega) hp hro
  have wa : IntKind.wrap .i64 ((a : Int) + 1) = ((a + 1 : Nat) : Int) := by rw [wi (by omega) (by omega)]; omega
  have wb : IntKind.wrap .i64 ((b : Int) - 1) = ((b - 1 : Nat) : Int) := by rw [wi (by omega) (by omega)]; omega
  obtain ⟨h', e3, A3, o3⟩ := pe_lp (md := ⟨md.ro, h.length⟩) (h0 := h) (s8 := (Value.int .i64 0)) (a := a) (n := d.size) hro hn (by omega) (b - 1 + 1 - (a + 1)) (a + 1) (b - 1) _ g2 (Nat.le_refl _) (by omega) (by omega) (by omega) A2 (Go.Sort.size_swp d a pv) o2.len
  refine ⟨h', ?_, A3, o2.trans o3⟩
  rw [C, call_eq, F34_eq]
  unfold F34
  simp only [go_sem, Nat.reduceAdd, Nat.reduceLeDiff, Nat.reduceMul, Int.reduceBEq, Int.reduceBNe, Int.reduceLT, Int.reduceLE, Int.reduceGT, x2, r2, x1, r1, st_1i, w1, w2, wa, wb]
  exact e3
end Go.Det.O
