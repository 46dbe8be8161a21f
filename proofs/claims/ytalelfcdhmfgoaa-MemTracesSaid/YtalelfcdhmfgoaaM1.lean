/- An arena as memory: loads and stores. -/
import Derived.Test.YtalelfcdhmfgoaaE1
import Derived.Test.YtalelfcdhmfgoaaL2
import Derived.Test.YtalelfcdhmfgoaaDetV
import Derived.Test.YtalelfcdhmfgoaaDetW
import Derived.Test.YtalelfcdhmfgoaaN1
set_option autoImplicit false
set_option linter.unusedVariables false
set_option linter.unusedSimpArgs false
namespace Go.Det.E
open Go.Proofs Go.Det
attribute [local congr] bind_c cond_c
theorem uPu : Try.prog.underlying 66 = some (.pointer 32) := by kernel_rfl
theorem uPa : Try.prog.underlying 25 = some (.pointer 59) := by kernel_rfl
theorem uSu : Try.prog.underlying 22 = some (.slice 32) := by kernel_rfl
def arC (b : Nat) (n : Nat) (c : List Int) : List Value := .slice (some ⟨b, 0, none⟩) n 1 :: c.map (.int .i64)
/-- An arena at a block, its cells at another one. -/
structure Ar (h : Heap) (a b : Nat) (l c : List Int) : Prop where
  ha : h[a]? = some (.own (arC b l.length c))
  hb : h[b]? = some (.own (l.map (.int .u64)))
  hc : c.length = 5
  ne : a ≠ b
def up (c : List Int) (j : Nat) : List Int := c.set j (IntKind.wrap .i64 (c.getD j 0 + 1))
theorem arC_set (b n : Nat) (c : List Int) (j : Nat) (x : Int) : (arC b n c).set (j + 1) (.int .i64 x) = arC b n (c.set j x) := by
  simp [arC, List.map_set]
theorem arC_get {b n : Nat} {c : List Int} {j : Nat} (hj : j < c.length) : (arC b n c)[j + 1]? = some (.int .i64 (c.getD j 0)) := by
  simp [arC, hj, List.getD]
theorem at_s {md : Md} {h : Heap} {a b j : Nat} {l c : List Int} (A : Ar h a b l c) (hro : md.ro ≤ a) (hj : j < 5) {i : Int} (h0 : 0 ≤ i) (h1 : i < l.length) :
    C md 24 [(Value.pointer (some ⟨a, 0, none⟩)), (Value.int .i64 i), (Value.pointer (some ⟨a, j + 1, none⟩))] h = some ((Value.pointer (some ⟨b, i.toNat, none⟩)), h.set a (.own (arC b l.length (up c j)))) := by
  rw [C, call_eq, F24_eq]
  unfold F24
  have hi0 : ¬ i < 0 := by omega
  have hi1 : ¬ (l.length : Int) ≤ i := by omega
  have r1 : rd h a 0 = some ((Value.slice (some ⟨b, 0, none⟩) l.length 1)) := by rw [rd_own A.ha]; rfl
  have r2 : rd h a (j + 1) = some (.int .i64 (c.getD j 0)) := by rw [rd_own A.ha, arC_get (by rw [A.hc]; exact hj)]
  have hlen : j + 1 < (arC b l.length c).length := by simp [arC, A.hc]; omega
  have w1 : wrN ⟨md.ro, h.length⟩ h a (j + 1) [.int .i64 (IntKind.wrap .i64 (c.getD j 0 + 1))] = some (h.set a (.own (arC b l.length (up c j)))) := by
    rw [wr_own (md := ⟨md.ro, h.length⟩) (v := .int .i64 (IntKind.wrap .i64 (c.getD j 0 + 1))) A.ha hro rfl hlen, arC_set]; rfl
  have r3 : rd (h.set a (.own (arC b l.length (up c j)))) a 0 = some ((Value.slice (some ⟨b, 0, none⟩) l.length 1)) := by rw [rd_own (set_here A.ha)]; rfl
  have bl : Nat.blt b h.length = true := by have := lt_of A.hb; simp [Nat.blt]; omega
  have tk : (h.set a (.own (arC b l.length (up c j)))).take h.length = h.set a (.own (arC b l.length (up c j))) := take_same (by simp)
  have hx := fun (k : Value → Option (Value × Heap)) => ixS_p 1 b 0 l.length 1 i k ⟨h0, h1⟩
  simp only [go_sem, Nat.reduceAdd, Nat.reduceLeDiff, Nat.reduceMul, Int.reduceBEq, Int.reduceBNe, Int.reduceLT, Int.reduceLE, Int.reduceGT, hi0, hi1, r1, r2, r3, w1, aBin_geq, hx, bl, tk]
theorem at_none {md : Md} {h : Heap} {a b j : Nat} {l c : List Int} (A : Ar h a b l c) {i : Int} (hi : i < 0 ∨ (l.length : Int) ≤ i) :
    C md 24 [(Value.pointer (some ⟨a, 0, none⟩)), (Value.int .i64 i), (Value.pointer (some ⟨a, j + 1, none⟩))] h = some (.pointer none, h) := by
  rw [C, call_eq, F24_eq]
  unfold F24
  have r1 : rd h a 0 = some ((Value.slice (some ⟨b, 0, none⟩) l.length 1)) := by rw [rd_own A.ha]; rfl
  have tk : h.take h.length = h := take_same (Nat.le_refl _)
  by_cases hi0 : i < 0
  · simp only [go_sem, Nat.reduceAdd, Nat.reduceLeDiff, Nat.reduceMul, Int.reduceBEq, Int.reduceBNe, Int.reduceLT, Int.reduceLE, Int.reduceGT, hi0, tk]
  · have hi1 : (l.length : Int) ≤ i := by omega
    simp only [go_sem, Nat.reduceAdd, Nat.reduceLeDiff, Nat.reduceMul, Int.reduceBEq, Int.reduceBNe, Int.reduceLT, Int.reduceLE, Int.reduceGT, hi0, hi1, r1, aBin_geq, tk]
theorem Ar.count {h : Heap} {a b : Nat} {l c c' : List Int} (A : Ar h a b l c) (hc : c'.length = 5) : Ar (h.set a (.own (arC b l.length c'))) a b l c' :=
  ⟨set_here A.ha, by rw [set_else A.ne]; exact A.hb, hc, A.ne⟩
theorem Ar.cells {h : Heap} {a b : Nat} {l l' c : List Int} (A : Ar h a b l c) (hl : l'.length = l.length) : Ar (h.set b (.own (l'.map (.int .u64)))) a b l' c :=
  ⟨by rw [set_else A.ne.symm, hl]; exact A.ha, set_here A.hb, A.hc, A.ne⟩
theorem up_len (c : List Int) (j : Nat) : (up c j).length = c.length := by simp [up]
theorem Ar.up {h : Heap} {a b : Nat} {l c : List Int} (A : Ar h a b l c) (j : Nat) : Ar (h.set a (.own (arC b l.length (up c j)))) a b l (up c j) := A.count (by rw [up_len, A.hc])
theorem Ar.rd {h : Heap} {a b : Nat} {l c : List Int} (A : Ar h a b l c) {i : Nat} (hi : i < l.length) : rd h b i = some (.int .u64 (l.getD i 0)) := by
  rw [rd_own A.hb]; simp [hi, List.getD]
theorem Ar.wr {md : Md} {h : Heap} {a b : Nat} {l c : List Int} (A : Ar h a b l c) (hro : md.ro ≤ b) {i : Nat} (hi : i < l.length) (x : Int) : wrN md h b i [.int .u64 x] = some (h.set b (.own ((l.set i x).map (.int .u64)))) := by
  rw [wr_own (v := .int .u64 x) A.hb hro rfl (by simpa using hi), List.map_set]
theorem load_s {md : Md} {h : Heap} {a b : Nat} {l c : List Int} (A : Ar h a b l c) (hro : md.ro ≤ a) {i : Int} (h0 : 0 ≤ i) (h1 : i < l.length) :
    C md 14 [(Value.pointer (some ⟨a, 0, none⟩)), (Value.int .i64 i)] h = some ((Value.tuple #[(Value.int .u64 (l.getD i.toNat 0)), (Value.int .i64 0)]), h.set a (.own (arC b l.length (up c 0)))) := by
  rw [C, call_eq, F14_eq]
  unfold F14
  have e := at_s (md := ⟨md.ro, h.length⟩) A hro (j := 0) (by decide) h0 h1
  have tk : (h.set a (.own (arC b l.length (up c 0)))).take h.length = h.set a (.own (arC b l.length (up c 0))) := take_same (by simp)
  have r := (A.up 0).rd (i := i.toNat) (by omega)
  simp only [go_sem, Nat.reduceAdd, Nat.reduceLeDiff, Nat.reduceMul, Int.reduceBEq, Int.reduceBNe, Int.reduceLT, Int.reduceLE, Int.reduceGT, e, aBin_eqlP uPu, r, tk]
theorem load_n {md : Md} {h : Heap} {a b : Nat} {l c : List Int} (A : Ar h a b l c) {i : Int} (hi : i < 0 ∨ (l.length : Int) ≤ i) :
    C md 14 [(Value.pointer (some ⟨a, 0, none⟩)), (Value.int .i64 i)] h = some ((Value.tuple #[(Value.int .u64 0), (Value.int .i64 20)]), h) := by
  rw [C, call_eq, F14_eq]
  unfold F14
  have e := at_none (md := ⟨md.ro, h.length⟩) A (j := 0) hi
  have tk : h.take h.length = h := take_same (Nat.le_refl _)
  simp only [go_sem, Nat.reduceAdd, Nat.reduceLeDiff, Nat.reduceMul, Int.reduceBEq, Int.reduceBNe, Int.reduceLT, Int.reduceLE, Int.reduceGT, e, aBin_eqlN uPu, tk]
theorem store_s {md : Md} {h : Heap} {a b : Nat} {l c : List Int} (A : Ar h a b l c) (hro : md.ro ≤ a) (hrb : md.ro ≤ b) {i : Int} (h0 : 0 ≤ i) (h1 : i < l.length) (v : Int) :
    C md 18 [(Value.pointer (some ⟨a, 0, none⟩)), (Value.int .i64 i), (Value.int .u64 v)] h = some ((Value.int .i64 0), (h.set a (.own (arC b l.length (up c 1)))).set b (.own ((l.set i.toNat v).map (.int .u64)))) := by
  rw [C, call_eq, F18_eq]
  unfold F18
  have e := at_s (md := ⟨md.ro, h.length⟩) A hro (j := 1) (by decide) h0 h1
  have w := (A.up 1).wr (md := ⟨md.ro, h.length⟩) hrb (i := i.toNat) (by omega) v
  have tk : ((h.set a (.own (arC b l.length (up c 1)))).set b (.own ((l.set i.toNat v).map (.int .u64)))).take h.length = (h.set a (.own (arC b l.length (up c 1)))).set b (.own ((l.set i.toNat v).map (.int .u64))) := take_same (by simp)
  simp only [go_sem, Nat.reduceAdd, Nat.reduceLeDiff, Nat.reduceMul, Int.reduceBEq, Int.reduceBNe, Int.reduceLT, Int.reduceLE, Int.reduceGT, e, aBin_eqlP uPu, w, tk]
theorem store_n {md : Md} {h : Heap} {a b : Nat} {l c : List Int} (A : Ar h a b l c) {i : Int} (hi : i < 0 ∨ (l.length : Int) ≤ i) (v : Int) :
    C md 18 [(Value.pointer (some ⟨a, 0, none⟩)), (Value.int .i64 i), (Value.int .u64 v)] h = some ((Value.int .i64 20), h) := by
  rw [C, call_eq, F18_eq]
  unfold F18
  have e := at_none (md := ⟨md.ro, h.length⟩) A (j := 1) hi
  have tk : h.take h.length = h := take_same (Nat.le_refl _)
  simp only [go_sem, Nat.reduceAdd, Nat.reduceLeDiff, Nat.reduceMul, Int.reduceBEq, Int.reduceBNe, Int.reduceLT, Int.reduceLE, Int.reduceGT, e, aBin_eqlN uPu, tk]
/-- What a number of a cell holds; what cells are behind a store. -/
def getI (l : List Int) (i : Int) : Int := if 0 ≤ i ∧ i < l.length then l.getD i.toNat 0 else 0
def putI (l : List Int) (i v : Int) : List Int := if 0 ≤ i ∧ i < l.length then l.set i.toNat v else l
theorem putI_len (l : List Int) (i v : Int) : (putI l i v).length = l.length := by unfold putI; split <;> simp
theorem getI_put (l : List Int) (i j v : Int) : getI (putI l i v) j = if i = j ∧ 0 ≤ i ∧ i < l.length then v else getI l j := by
  unfold putI
  by_cases hi : 0 ≤ i ∧ i < l.length
  · rw [if_pos hi]
    unfold getI
    by_cases hj : 0 ≤ j ∧ j < l.length
    · rw [if_pos (by simpa using hj), if_pos hj]
      by_cases e : i = j
      · subst e; rw [if_pos ⟨rfl, hi⟩]
        have : i.toNat < l.length := by omega
        simp [List.getD, this]
      · rw [if_neg (fun h => e h.1)]
        simp only [List.getD]
        rw [List.getElem?_set_ne (by omega)]
    · rw [if_neg (by simpa using hj), if_neg hj, if_neg (fun h => hj (by rw [← h.1]; exact hi))]
  · rw [if_neg hi, if_neg (fun h => hi h.2)]
theorem Ar.app {h : Heap} {a b : Nat} {l c : List Int} (A : Ar h a b l c) (bs : List Blk) : Ar (h ++ bs) a b l c :=
  ⟨by rw [List.getElem?_append_left (lt_of A.ha)]; exact A.ha, by rw [List.getElem?_append_left (lt_of A.hb)]; exact A.hb, A.hc, A.ne⟩
theorem Ar.take {h : Heap} {a b n : Nat} {l c : List Int} (A : Ar h a b l c) (ha : a < n) (hb : b < n) : Ar (h.take n) a b l c :=
  ⟨by rw [List.getElem?_take, if_pos ha]; exact A.ha, by rw [List.getElem?_take, if_pos hb]; exact A.hb, A.hc, A.ne⟩
theorem Ar.old {h h' : Heap} {a b n : Nat} {l c : List Int} (A : Ar h a b l c) (O : Old n h h') (ha : a < n) (hb : b < n) : Ar h' a b l c :=
  ⟨(O.old _ ha).trans A.ha, (O.old _ hb).trans A.hb, A.hc, A.ne⟩
theorem aload_e {md : Md} {h : Heap} {a b : Nat} {l c : List Int} (A : Ar h a b l c) (hro : md.ro ≤ a) (i : Int) :
    ∃ h' c' e, C md 14 [(Value.pointer (some ⟨a, 0, none⟩)), (Value.int .i64 i)] h = some ((Value.tuple #[(Value.int .u64 (getI l i)), (Value.int .i64 e)]), h') ∧ Ar h' a b l c' ∧ Only a b h h' := by
  by_cases hi : 0 ≤ i ∧ i < l.length
  · refine ⟨_, up c 0, 0, ?_, A.up 0, Only.one _⟩
    rw [load_s A hro hi.1 hi.2, getI, if_pos hi]
  · refine ⟨h, c, 20, ?_, A, Only.refl⟩
    rw [load_n A (by omega), getI, if_neg hi]
theorem astore_e {md : Md} {h : Heap} {a b : Nat} {l c : List Int} (A : Ar h a b l c) (hro : md.ro ≤ a) (hrb : md.ro ≤ b) (i v : Int) :
    ∃ h' c' e, C md 18 [(Value.pointer (some ⟨a, 0, none⟩)), (Value.int .i64 i), (Value.int .u64 v)] h = some ((Value.int .i64 e), h') ∧ Ar h' a b (putI l i v) c' ∧ Only a b h h' := by
  by_cases hi : 0 ≤ i ∧ i < l.length
  · refine ⟨_, up c 1, 0, store_s A hro hrb hi.1 hi.2 v, ?_, Only.two _ _⟩
    rw [putI, if_pos hi]
    exact (A.up 1).cells (by simp)
  · refine ⟨h, c, 20, store_n A (by omega) v, ?_, Only.refl⟩
    rw [putI, if_neg hi]; exact A
theorem tU : SlT Try.prog 22 32 1 8 [(Value.int .u64 0)] := ⟨uSu, by kernel_rfl, by kernel_rfl, rfl, by decide, by decide, rfl⟩
theorem bAr {α : Type} {a : Option Addr} {n c : Nat} (k : Value → Option α) : aBuild Try.prog 59 [(0, .slice a n c)] k = k (.agg #[.slice a n c, (Value.int .i64 0), (Value.int .i64 0), (Value.int .i64 0), (Value.int .i64 0), (Value.int .i64 0)]) := by kernel_rfl
theorem cells_agg (l : List Value) : (Value.agg l.toArray).cells.toList = l := by simp [Value.cells]
theorem repL_int (n : Nat) : repL n [(Value.int .u64 0)] = (List.replicate n (0 : Int)).map (.int .u64) := by
  induction n with
  | zero => rfl
  | succ n ih => simp only [repL, ih, List.replicate_succ, List.map_cons]; rfl
theorem new_e (md : Md) (h : Heap) {n : Int} (h0 : 0 ≤ n) (h1 : n ≤ 16384) :
    ∃ h' a b, C md 13 [(Value.int .i64 n)] h = some ((Value.tuple #[(Value.pointer (some ⟨a, 0, none⟩)), (Value.int .i64 0)]), h') ∧ Ar h' a b (List.replicate n.toNat 0) [0, 0, 0, 0, 0] ∧ Old h.length h h' ∧ h.length ≤ a ∧ h.length ≤ b := by
  refine ⟨h ++ [.own ((List.replicate n.toNat (0 : Int)).map (.int .u64)), .own (arC h.length n.toNat [0, 0, 0, 0, 0])], h.length + 1, h.length, ?_, ⟨?_, ?_, rfl, by omega⟩, Old.app _ (Nat.le_refl _), by omega, Nat.le_refl _⟩
  · rw [C, call_eq, F13_eq]
    unfold F13
    have e0 : ¬ n < 0 := by omega
    have e1 : ¬ 16384 < n := by omega
    have hm := fun (h : Heap) (k : Value → Heap → Option (Value × Heap)) => make_p tU h0 (Int.le_refl n) (by omega) (by omega) h k
    simp only [go_sem, Nat.reduceAdd, Nat.reduceLeDiff, Nat.reduceMul, Int.reduceBEq, Int.reduceBNe, Int.reduceLT, Int.reduceLE, Int.reduceGT, e0, e1, aBin_gtr, hm, bAr, cells_agg, repL_int]
    rfl
  · rw [List.getElem?_append_right (by omega), Nat.add_sub_cancel_left, List.length_replicate]; rfl
  · rw [List.getElem?_append_right (Nat.le_refl _), Nat.sub_self]; rfl
/-- Memory as an interface's value. -/
abbrev ifA (a : Nat) : Value := .iface 52 ((Value.agg #[(Value.pointer (some ⟨a, 0, none⟩))]))
theorem clI_load {α : Type} {rc : Rec} {md : Md} {x : Value} {args : List Value} {h : Heap} {k : Value → Heap → Option α} : clI Try.prog rc md (.iface 52 x) "Load" args h k = cl (rc md 17 (x :: args) h) k := by
  have e : aMethod Try.prog 52 x "Load" = some (17, x) := by kernel_rfl
  unfold clI; simp only [e]
theorem okN_load {x : Value} : okNil Try.prog (.func (.method "Load") #[.iface 52 x] #[]) = true := by kernel_rfl
theorem okN_store {x : Value} : okNil Try.prog (.func (.method "Store") #[.iface 52 x] #[]) = true := by kernel_rfl
theorem clI_store {α : Type} {rc : Rec} {md : Md} {x : Value} {args : List Value} {h : Heap} {k : Value → Heap → Option α} : clI Try.prog rc md (.iface 52 x) "Store" args h k = cl (rc md 61 (x :: args) h) k := by
  have e : aMethod Try.prog 52 x "Store" = some (61, x) := by kernel_rfl
  unfold clI; simp only [e]
theorem pload_e {md : Md} {h : Heap} {a b : Nat} {l c : List Int} (A : Ar h a b l c) (hro : md.ro ≤ a) (i : Int) :
    ∃ h' c', C md 17 [(Value.agg #[(Value.pointer (some ⟨a, 0, none⟩))]), (Value.int .i64 i)] h = some ((Value.int .u64 (getI l i)), h') ∧ Ar h' a b l c' ∧ Only a b h h' := by
  have la := lt_of A.ha
  have lb := lt_of A.hb
  obtain ⟨h1, c1, e, e1, A1, o1⟩ := aload_e (md := ⟨md.ro, h.length⟩) (A.app [.own [(Value.pointer (some ⟨a, 0, none⟩))]]) hro i
  refine ⟨h1.take h.length, c1, ?_, A1.take la lb, o1.take⟩
  rw [C, call_eq, F17_eq]
  unfold F17
  simp only [go_sem, Nat.reduceAdd, Nat.reduceLeDiff, Nat.reduceMul, Int.reduceBEq, Int.reduceBNe, Int.reduceLT, Int.reduceLE, Int.reduceGT, e1]
theorem pstore_e {md : Md} {h : Heap} {a b : Nat} {l c : List Int} (A : Ar h a b l c) (hro : md.ro ≤ a) (hrb : md.ro ≤ b) (i v : Int) :
    ∃ h' c', C md 61 [(Value.agg #[(Value.pointer (some ⟨a, 0, none⟩))]), (Value.int .i64 i), (Value.int .u64 v)] h = some ((Value.tuple #[]), h') ∧ Ar h' a b (putI l i v) c' ∧ Only a b h h' := by
  have la := lt_of A.ha
  have lb := lt_of A.hb
  obtain ⟨h1, c1, e, e1, A1, o1⟩ := astore_e (md := ⟨md.ro, h.length⟩) (A.app [.own [(Value.pointer (some ⟨a, 0, none⟩))]]) hro hrb i v
  refine ⟨h1.take h.length, c1, ?_, A1.take la lb, o1.take⟩
  rw [C, call_eq, F61_eq]
  unfold F61
  simp only [go_sem, Nat.reduceAdd, Nat.reduceLeDiff, Nat.reduceMul, Int.reduceBEq, Int.reduceBNe, Int.reduceLT, Int.reduceLE, Int.reduceGT, e1]
theorem memof_s (md : Md) (h : Heap) {a : Nat} (ha : a < h.length) : C md 16 [(Value.pointer (some ⟨a, 0, none⟩))] h = some ((Value.agg #[(Value.pointer (some ⟨a, 0, none⟩))]), h) := by
  rw [C, call_eq, F16_eq]
  unfold F16
  have b : aBuild Try.prog 52 [(0, (Value.pointer (some ⟨a, 0, none⟩)))] = fun (k : Value → Option (Value × Heap)) => k ((Value.agg #[(Value.pointer (some ⟨a, 0, none⟩))])) := by kernel_rfl
  have bl : Nat.blt a h.length = true := by simp [Nat.blt]; omega
  have s := fun (hh : Heap) (k : Heap → Option (Value × Heap)) => st_N ⟨h.length, h.length⟩ 1 h.length 0 [(Value.pointer (some ⟨a, 0, none⟩))] hh k rfl rfl
  simp only [go_sem, Nat.reduceAdd, Nat.reduceLeDiff, Nat.reduceMul, Int.reduceBEq, Int.reduceBNe, Int.reduceLT, Int.reduceLE, Int.reduceGT, b, s, bl]
end Go.Det.E
