/- An arena as memory, with its counts. -/
import Derived.Test.YtalelfcdhmfgoaaM1
set_option autoImplicit false
set_option linter.unusedVariables false
set_option linter.unusedSimpArgs false
namespace Go.Det.E
open Go.Proofs Go.Det
attribute [local congr] bind_c cond_c
/-- Is there such a cell? -/
def inR (l : List Int) (i : Int) : Prop := 0 ≤ i ∧ i < l.length
instance (l : List Int) (i : Int) : Decidable (inR l i) := by unfold inR; infer_instance
theorem getI_in {l : List Int} {i : Int} (h : inR l i) : getI l i = l.getD i.toNat 0 := if_pos h
theorem getI_out {l : List Int} {i : Int} (h : ¬ inR l i) : getI l i = 0 := if_neg h
theorem putI_in {l : List Int} {i v : Int} (h : inR l i) : putI l i v = l.set i.toNat v := if_pos h
theorem putI_out {l : List Int} {i v : Int} (h : ¬ inR l i) : putI l i v = l := if_neg h
def erR (l : List Int) (i : Int) : Int := if inR l i then 0 else 20
/-- The counts after a load; after a store. -/
def cL (l c : List Int) (i : Int) : List Int := if inR l i then up c 0 else c
def cS (l c : List Int) (i : Int) : List Int := if inR l i then up c 1 else c
/-- Is a swap done? -/
def isW (l : List Int) (i was : Int) : Bool := decide (inR l i) && getI l i == was
def cW (l c : List Int) (i was : Int) : List Int := if inR l i then (bif getI l i == was then up c 2 else up c 3) else c
variable {md : Md} {h : Heap} {a b : Nat} {l c : List Int}
theorem ld_x (A : Ar h a b l c) (hro : md.ro ≤ a) (i : Int) :
    ∃ h', C md 14 [(Value.pointer (some ⟨a, 0, none⟩)), (Value.int .i64 i)] h = some ((Value.tuple #[(Value.int .u64 (getI l i)), (Value.int .i64 (erR l i))]), h') ∧ Ar h' a b l (cL l c i) ∧ Only a b h h' := by
  by_cases hi : inR l i
  · refine ⟨_, ?_, by rw [cL, if_pos hi]; exact A.up 0, Only.one _⟩
    rw [load_s A hro hi.1 hi.2, getI_in hi, erR, if_pos hi]
  · refine ⟨h, ?_, by rw [cL, if_neg hi]; exact A, Only.refl⟩
    rw [load_n A (by unfold inR at hi; omega), getI_out hi, erR, if_neg hi]
theorem st_x (A : Ar h a b l c) (hro : md.ro ≤ a) (hrb : md.ro ≤ b) (i v : Int) :
    ∃ h', C md 18 [(Value.pointer (some ⟨a, 0, none⟩)), (Value.int .i64 i), (Value.int .u64 v)] h = some ((Value.int .i64 (erR l i)), h') ∧ Ar h' a b (putI l i v) (cS l c i) ∧ Only a b h h' := by
  by_cases hi : inR l i
  · refine ⟨_, by rw [store_s A hro hrb hi.1 hi.2 v, erR, if_pos hi], ?_, Only.two _ _⟩
    rw [putI_in hi, cS, if_pos hi]
    exact (A.up 1).cells (by simp)
  · refine ⟨h, by rw [store_n A (by unfold inR at hi; omega) v, erR, if_neg hi], ?_, Only.refl⟩
    rw [putI_out hi, cS, if_neg hi]; exact A
theorem pl_x (A : Ar h a b l c) (hro : md.ro ≤ a) (i : Int) :
    ∃ h', C md 17 [(Value.agg #[(Value.pointer (some ⟨a, 0, none⟩))]), (Value.int .i64 i)] h = some ((Value.int .u64 (getI l i)), h') ∧ Ar h' a b l (cL l c i) ∧ Only a b h h' := by
  have la := lt_of A.ha
  have lb := lt_of A.hb
  obtain ⟨h1, e1, A1, o1⟩ := ld_x (md := ⟨md.ro, h.length⟩) (A.app [.own [(Value.pointer (some ⟨a, 0, none⟩))]]) hro i
  refine ⟨h1.take h.length, ?_, A1.take la lb, o1.take⟩
  rw [C, call_eq, F17_eq]
  unfold F17
  simp only [go_sem, Nat.reduceAdd, Nat.reduceLeDiff, Nat.reduceMul, Int.reduceBEq, Int.reduceBNe, Int.reduceLT, Int.reduceLE, Int.reduceGT, e1]
theorem ps_x (A : Ar h a b l c) (hro : md.ro ≤ a) (hrb : md.ro ≤ b) (i v : Int) :
    ∃ h', C md 61 [(Value.agg #[(Value.pointer (some ⟨a, 0, none⟩))]), (Value.int .i64 i), (Value.int .u64 v)] h = some ((Value.tuple #[]), h') ∧ Ar h' a b (putI l i v) (cS l c i) ∧ Only a b h h' := by
  have la := lt_of A.ha
  have lb := lt_of A.hb
  obtain ⟨h1, e1, A1, o1⟩ := st_x (md := ⟨md.ro, h.length⟩) (A.app [.own [(Value.pointer (some ⟨a, 0, none⟩))]]) hro hrb i v
  refine ⟨h1.take h.length, ?_, A1.take la lb, o1.take⟩
  rw [C, call_eq, F61_eq]
  unfold F61
  simp only [go_sem, Nat.reduceAdd, Nat.reduceLeDiff, Nat.reduceMul, Int.reduceBEq, Int.reduceBNe, Int.reduceLT, Int.reduceLE, Int.reduceGT, e1]
theorem five {c : List Int} (hc : c.length = 5) : ∃ c0 c1 c2 c3 c4, c = [c0, c1, c2, c3, c4] := by
  rcases c with _ | ⟨c0, _ | ⟨c1, _ | ⟨c2, _ | ⟨c3, _ | ⟨c4, _ | ⟨c5, c⟩⟩⟩⟩⟩⟩ <;> simp at hc
  exact ⟨_, _, _, _, _, rfl⟩
theorem eqCt {α : Type} {k : Value → Option α} {a b c d e a' b' c' d' e' : Int} : aBin Try.prog .eql 57 ((Value.agg #[(Value.int .i64 a), (Value.int .i64 b), (Value.int .i64 c), (Value.int .i64 d), (Value.int .i64 e)])) ((Value.agg #[(Value.int .i64 a'), (Value.int .i64 b'), (Value.int .i64 c'), (Value.int .i64 d'), (Value.int .i64 e')])) k = k (.bool (a == a' && (b == b' && (c == c' && (d == d' && (e == e' && true)))))) :=
  aBin_eqlA (xs := [_, _, _, _, _]) (ys := [_, _, _, _, _]) (ks := [.i, .i, .i, .i, .i]) (by kernel_rfl) (by kernel_rfl) (by kernel_rfl) rfl rfl (cellsEq_i (cellsEq_i (cellsEq_i (cellsEq_i (cellsEq_i cellsEq_n)))))
/-- All cells have numbers of 64 bits. -/
def Wd (l : List Int) : Prop := ∀ x ∈ l, 0 ≤ x ∧ x < 18446744073709551616
theorem Wd.get {l : List Int} (w : Wd l) (i : Int) : 0 ≤ getI l i ∧ getI l i < 18446744073709551616 := by
  unfold getI
  split
  · rename_i hi
    have : i.toNat < l.length := by omega
    rw [List.getD, List.getElem?_eq_getElem this]
    exact w _ (List.getElem_mem _)
  · omega
theorem Wd.put {l : List Int} (w : Wd l) (i : Int) {v : Int} (hv : 0 ≤ v ∧ v < 18446744073709551616) : Wd (putI l i v) := by
  unfold putI
  split
  · intro x hx
    rcases List.mem_or_eq_of_mem_set hx with h | h
    · exact w x h
    · subst h; exact hv
  · exact w
theorem Wd.zero (n : Nat) : Wd (List.replicate n 0) := by
  intro x hx
  have := (List.mem_replicate.1 hx).2
  omega
theorem inR_put {l : List Int} {i j v : Int} (hi : inR l i) : inR (putI l j v) i := by unfold inR at hi ⊢; rw [putI_len]; exact hi
theorem getI_same {l : List Int} {i v : Int} (hi : inR l i) : getI (putI l i v) i = v := by rw [getI_put, if_pos ⟨rfl, hi⟩]
theorem getI_else {l : List Int} {i j v : Int} (hij : i ≠ j) : getI (putI l i v) j = getI l j := by rw [getI_put, if_neg (fun q => hij q.1)]
theorem Ar.same {h h' : Heap} {a b : Nat} {l c : List Int} (A : Ar h a b l c) (ha : h'[a]? = h[a]?) (hb : h'[b]? = h[b]?) : Ar h' a b l c := ⟨ha.trans A.ha, hb.trans A.hb, A.hc, A.ne⟩
end Go.Det.E
