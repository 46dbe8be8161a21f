/- The laws of a play of traces: what stands of it, and the plain facts about what was stored. -/
import Derived.Test.YtalelfcdhmfgoaaTB
import Derived.Test.YtalelfcdhmfgoaaT2
import Derived.Test.YtalelfcdhmfgoaaT4
import Derived.Test.YtalelfcdhmfgoaaM3
set_option autoImplicit false
set_option linter.unusedVariables false
set_option linter.unusedSimpArgs false
namespace Go.Det.O
open Go.Det.E
open Go.Proofs Go.Det
attribute [local congr] bind_c cond_c
/-- No more without doubles than with. -/
theorem nodup_le {α : Type} [BEq α] [LawfulBEq α] : ∀ (l m : List α), l.Nodup → (∀ x ∈ l, x ∈ m) → l.length ≤ m.length := by
  intro l
  induction l with
  | nil => intro m _ _; simp
  | cons a l ih =>
    intro m hn hm
    rw [List.nodup_cons] at hn
    have ha : a ∈ m := hm a (by simp)
    have := ih (m.erase a) hn.2 fun x hx => (List.mem_erase_of_ne (by rintro rfl; exact hn.1 hx)).2 (hm x (by simp [hx]))
    rw [List.length_erase_of_mem ha] at this
    have := List.length_pos_of_mem ha
    simp only [List.length_cons]
    omega
theorem mGet_mem : ∀ (es : List (MK × Value)) (k : MK), (mGet es k).isSome = true ↔ k ∈ es.map (·.1) := by
  intro es k
  induction es with
  | nil => simp [mGet]
  | cons e r ih =>
    obtain ⟨a, u⟩ := e
    simp only [mGet, List.map_cons, List.mem_cons]
    by_cases h : a = k
    · rw [if_pos h]; simp [h]
    · rw [if_neg h, ih]
      exact ⟨.inr, fun q => q.resolve_left fun e => h e.symm⟩
theorem mOk_nodup : ∀ (es : List (MK × Value)), mOk es → (es.map (·.1)).Nodup := by
  intro es
  induction es with
  | nil => intro _; exact List.nodup_nil
  | cons e r ih =>
    obtain ⟨a, u⟩ := e
    intro h
    rw [List.map_cons, List.nodup_cons]
    refine ⟨fun q => ?_, ih h.2⟩
    have := (mGet_mem r a).2 q
    rw [h.1] at this
    cases this
theorem dd_all {d : Array Int} (hs : Go.Sort.SortedIn Go.Sort.ltInt 0 d.size d) : ∀ j, j ≤ d.size → (dd d j).Pairwise (· < ·) ∧ (∀ x, x ∈ dd d j ↔ ∃ p, p < j ∧ d[p]! = x) := by
  have mono : ∀ p q, p ≤ q → q < d.size → d[p]! ≤ d[q]! := by
    intro p q h1 h2
    rcases Nat.lt_or_ge p q with h | h
    · have := hs p q (Nat.zero_le _) h h2
      unfold Go.Sort.ltInt at this
      have := of_decide_eq_false this
      omega
    · obtain rfl : p = q := by omega
      exact Int.le_refl _
  intro j
  induction j with
  | zero => intro _; exact ⟨List.Pairwise.nil, fun x => by simp [dd]⟩
  | succ j ih =>
    intro hj
    obtain ⟨i1, i2⟩ := ih (by omega)
    by_cases h1 : 1 ≤ j
    · rw [dd_next d h1]
      split
      · rename_i he
        refine ⟨i1, fun x => (i2 x).trans ⟨fun ⟨p, q1, q2⟩ => ⟨p, by omega, q2⟩, fun ⟨p, q1, q2⟩ => ?_⟩⟩
        by_cases hp : p = j
        · exact ⟨j - 1, by omega, by rw [← he, ← hp, q2]⟩
        · exact ⟨p, by omega, q2⟩
      · rename_i he
        refine ⟨?_, fun x => ?_⟩
        · rw [List.pairwise_append]
          refine ⟨i1, List.pairwise_singleton _ _, fun x hx y hy => ?_⟩
          obtain ⟨p, q1, q2⟩ := (i2 x).1 hx
          rw [List.mem_singleton] at hy
          rw [hy, ← q2]
          have m1 := mono p (j - 1) (by omega) (by omega)
          have m2 := mono (j - 1) j (by omega) (by omega)
          omega
        · rw [List.mem_append, List.mem_singleton, i2]
          refine ⟨fun q => ?_, fun ⟨p, q1, q2⟩ => ?_⟩
          · rcases q with ⟨p, q1, q2⟩ | q
            · exact ⟨p, by omega, q2⟩
            · exact ⟨j, by omega, q.symm⟩
          · by_cases hp : p = j
            · exact .inr (by rw [← q2, hp])
            · exact .inl ⟨p, by omega, q2⟩
    · obtain rfl : j = 0 := by omega
      refine ⟨List.pairwise_singleton _ _, fun x => ?_⟩
      show x ∈ [d[0]!] ↔ _
      rw [List.mem_singleton]
      exact ⟨fun q => ⟨0, by omega, q.symm⟩, fun ⟨p, q1, q2⟩ => by obtain rfl : p = 0 := (by omega); exact q2.symm⟩
theorem Chg.all {cs out : List Int} (c : Chg cs out) : out.Pairwise (· < ·) ∧ ∀ x, x ∈ out ↔ x ∈ cs := by
  obtain ⟨d, hp, hs, rfl⟩ := c
  obtain ⟨h1, h2⟩ := dd_all hs d.size (Nat.le_refl _)
  refine ⟨h1, fun x => (h2 x).trans ?_⟩
  rw [← hp.mem_iff, List.mem_iff_getElem?]
  refine ⟨fun ⟨p, q1, q2⟩ => ⟨p, by rw [get_at d q1, q2]⟩, fun ⟨p, q⟩ => ?_⟩
  have hl : p < d.size := by have := (List.getElem?_eq_some_iff.1 q).1; simpa using this
  exact ⟨p, hl, Option.some.inj ((get_at d hl).symm.trans q)⟩
/-- A map of what was stored. -/
structure Mk (es : List (MK × Value)) (cs : List Int) : Prop where
  ok : mOk es
  get : ∀ y : MK, mGet es y = if ∃ x ∈ cs, y = [x] then some ((Value.bool true)) else none
  nn : ∀ x ∈ cs, 0 ≤ x
theorem Mk.nil : Mk [] [] := ⟨trivial, fun y => by simp [mGet], fun x hx => by simp at hx⟩
theorem Mk.put {es : List (MK × Value)} {cs : List Int} (m : Mk es cs) {i : Int} (hi : 0 ≤ i) : Mk (mPut es [i] ((Value.bool true))) (cs ++ [i]) := by
  refine ⟨mOk_put m.ok, fun y => ?_, fun x hx => by
    rw [List.mem_append, List.mem_singleton] at hx
    rcases hx with hx | rfl
    · exact m.nn x hx
    · exact hi⟩
  rw [mGet_put, m.get]
  by_cases h : y = [i]
  · rw [if_pos h, if_pos ⟨i, by simp, h⟩]
  · rw [if_neg h]
    congr 1
    apply propext
    refine ⟨fun ⟨x, q1, q2⟩ => ⟨x, by simp [q1], q2⟩, fun ⟨x, q1, q2⟩ => ⟨x, ?_, q2⟩⟩
    rw [List.mem_append, List.mem_singleton] at q1
    exact q1.resolve_right fun e => h (by rw [q2, e])
theorem Mk.len {es : List (MK × Value)} {cs out : List Int} (m : Mk es cs) (c : Chg cs out) : es.length = out.length := by
  obtain ⟨h1, h2⟩ := c.all
  have n1 := mOk_nodup es m.ok
  have n2 : (out.map fun x => [x]).Nodup := by
    rw [List.nodup_iff_pairwise_ne, List.pairwise_map]
    exact h1.imp fun h e => by injection e; omega
  have e1 : ∀ y, y ∈ es.map (·.1) ↔ y ∈ out.map fun x => [x] := by
    intro y
    rw [← mGet_mem, m.get, List.mem_map]
    constructor
    · intro h
      by_cases q : ∃ x ∈ cs, y = [x]
      · obtain ⟨x, q1, q2⟩ := q; exact ⟨x, (h2 x).2 q1, q2.symm⟩
      · rw [if_neg q] at h; cases h
    · rintro ⟨x, q1, q2⟩
      rw [if_pos ⟨x, (h2 x).1 q1, q2.symm⟩]; rfl
  have l1 := nodup_le _ _ n1 fun x hx => (e1 x).1 hx
  have l2 := nodup_le _ _ n2 fun x hx => (e1 x).2 hx
  rw [List.length_map, List.length_map] at l1 l2
  omega
/-- A play: the trace, the list, the row, the map of what was stored. -/
structure St (hh : Heap) (n0 k a b : Nat) (l : List Int) (rv : Value) (rw : List Acc) (lv gv : Value) (q : Nat) (es : List (MK × Value)) : Prop where
  T : Tr hh n0 k a b l rv rw
  L : SlO hh n0 1 encU lv l
  nl : lv ≠ .slice none 0 0
  G : SlO hh n0 3 encX gv rw
  Q : hh[q]? = some (.mp (.one .i64) es)
  gq : n0 ≤ q
  dL : ¬ ft a b k rv (slB lv)
  dG : gv = .slice none 0 0 ∨ (¬ ft a b k rv (slB gv) ∧ slB gv ≠ slB lv)
  M : Mk es (stc rw)
variable {md : Md} {h hh h' : Heap} {a b k n0 q : Nat} {l c cells : List Int} {rv lv gv : Value} {row : List Acc} {es : List (MK × Value)}
theorem Tr.own (T : Tr hh n0 k a b l rv row) : ∀ y, ft a b k rv y → ∃ cs, hh[y]? = some (.own cs) := by
  obtain ⟨c, A⟩ := T.A
  intro y hy
  rcases hy with rfl | rfl | rfl | ⟨hn, rfl⟩
  · exact ⟨_, A.ha⟩
  · exact ⟨_, A.hb⟩
  · exact ⟨_, T.K⟩
  · exact (T.R.own.resolve_left hn).2
theorem St.nq (Y : St hh n0 k a b l rv row lv gv q es) : ¬ ft a b k rv q ∧ slB lv ≠ q ∧ (gv = .slice none 0 0 ∨ slB gv ≠ q) := by
  have hq := Y.Q
  refine ⟨fun f => ?_, fun e => ?_, Y.G.own.imp id fun ⟨_, cs, e⟩ f => ?_⟩
  · obtain ⟨cs, e⟩ := Tr.own Y.T q f
    rw [hq] at e; cases e
  · obtain ⟨_, cs, e2⟩ := Y.L.own.resolve_left Y.nl
    rw [e, hq] at e2; cases e2
  · rw [f, hq] at e; cases e
theorem tI : SlT Try.prog 22 32 1 8 [(Value.int .u64 0)] := ⟨by kernel_rfl, by kernel_rfl, by kernel_rfl, rfl, by decide, by decide, rfl⟩
theorem mTB : mapTy Try.prog 31 = some (.one .i64, 4) := by kernel_rfl
theorem zB : zeroV Try.prog 4 = some ((Value.bool false)) := by kernel_rfl
theorem stc_app (r r' : List Acc) : stc (r ++ r') = stc r ++ stc r' := by simp [stc]
/-- What is below a number and none of the play's blocks. -/
def Free (hh : Heap) (k a b : Nat) (rv lv gv : Value) (q y : Nat) : Prop := y < hh.length ∧ ¬ ft a b k rv y ∧ y ≠ slB lv ∧ y ≠ q ∧ (gv = .slice none 0 0 ∨ y ≠ slB gv)
theorem St.low (Y : St hh n0 k a b l rv row lv gv q es) (hn0 : n0 ≤ hh.length) {y : Nat} (hy : y < n0) : Free hh k a b rv lv gv q y := by
  refine ⟨by omega, fun f => by have := Y.T.ge y f; omega, fun e => ?_, fun e => by have := Y.gq; omega, Y.G.lo.imp id fun g e => by omega⟩
  have := Y.L.lo.resolve_left Y.nl
  omega
theorem St.end_ (Y : St hh n0 k a b l rv row lv gv q es) (x : Blk) : Free (hh ++ [x]) k a b rv lv gv q hh.length := by
  refine ⟨by simp, fun f => by have := Y.T.lt _ f; omega, fun e => ?_, fun e => ?_, Y.G.lo.imp id fun g e => by omega⟩
  · have := Y.L.lo.resolve_left Y.nl; omega
  · have := lt_of Y.Q; omega
theorem ne_mp {g : Heap} {x y : Nat} {cs : List Value} {kd : KT} {e : List (MK × Value)} (h1 : g[x]? = some (.own cs)) (h2 : g[y]? = some (.mp kd e)) : x ≠ y := fun p => by
  subst p; rw [h1] at h2; cases h2
theorem St.app (Y : St hh n0 k a b l rv row lv gv q es) (bs : Heap) : St (hh ++ bs) n0 k a b l rv row lv gv q es :=
  ⟨Y.T.app bs, Y.L.at fun y h1 h2 => List.getElem?_append_left h2, Y.nl, Y.G.at fun y h1 h2 => List.getElem?_append_left h2, by rw [List.getElem?_append_left (lt_of Y.Q)]; exact Y.Q, Y.gq, Y.dL, Y.dG, Y.M⟩
/-- A load or store of the trace: the others stay. -/
theorem St.tr (Y : St hh n0 k a b l rv row lv gv q es) {l' : List Int} {rv' : Value} {row' : List Acc} (T : Tr h' n0 k a b l' rv' row') (hl : hh.length ≤ h'.length) (f : ∀ y, y < hh.length → ¬ ft a b k rv y → h'[y]? = hh[y]?) (g : ∀ y, ft a b k rv' y → ft a b k rv y ∨ hh.length ≤ y) :
    SlO h' n0 1 encU lv l ∧ SlO h' n0 3 encX gv row ∧ h'[q]? = some (.mp (.one .i64) es) ∧ ¬ ft a b k rv' (slB lv) ∧ (gv = .slice none 0 0 ∨ (¬ ft a b k rv' (slB gv) ∧ slB gv ≠ slB lv)) ∧ (∀ y, Free hh k a b rv lv gv q y → Free h' k a b rv' lv gv q y ∧ h'[y]? = hh[y]?) := by
  obtain ⟨nq1, nq2, nq3⟩ := Y.nq
  have lL := Y.L.lo.resolve_left Y.nl
  have lG := Y.G.lo
  refine ⟨Y.L.keep (.inr (f _ lL.2 Y.dL)), Y.G.keep ?_, (f q (lt_of Y.Q) nq1).trans Y.Q, fun x => (g _ x).elim Y.dL fun x => by omega, ?_, fun y F => ⟨⟨by have := F.1; omega, fun x => (g _ x).elim F.2.1 fun x => by have := F.1; omega, F.2.2⟩, f y F.1 F.2.1⟩⟩
  · rcases Y.dG with e | d
    · exact .inl e
    · rcases lG with e | lG
      · exact .inl e
      · exact .inr (f _ lG.2 d.1)
  · rcases Y.dG with e | d
    · exact .inl e
    · rcases lG with e | lG
      · exact .inl e
      · exact .inr ⟨fun x => (g _ x).elim d.1 fun x => by omega, d.2⟩
/-- Another access at the row's end. -/
theorem St.more (nl : lv ≠ .slice none 0 0) (gq : n0 ≤ q) {l' : List Int} {rv' : Value} {x : Acc} {es' : List (MK × Value)} (T : Tr hh n0 k a b l' rv' (row ++ [x])) (L : SlO hh n0 1 encU lv l') (Q : hh[q]? = some (.mp (.one .i64) es')) (dL : ¬ ft a b k rv' (slB lv)) (G : SlO hh n0 3 encX gv row) (dG : gv = .slice none 0 0 ∨ (¬ ft a b k rv' (slB gv) ∧ slB gv ≠ slB lv)) (M : Mk es' (stc (row ++ [x])))
    (hro : md.ro ≤ n0) (hn0 : n0 ≤ hh.length) (hl : row.length ≤ 1000) :
    ∃ gv' h', (∀ {α : Type} (kk : Value → Heap → Option α), aBuiltin Try.prog md .append #[30, 30] [gv, (Value.slice (some ⟨hh.length, 0, none⟩) 1 3)] (hh ++ [Blk.own (encX x)]) kk = kk gv' h') ∧ St h' n0 k a b l' rv' (row ++ [x]) lv gv' q es' ∧ hh.length ≤ h'.length ∧ ∀ y, Free hh k a b rv' lv gv q y → h'[y]? = hh[y]? := by
  obtain ⟨gv', h', ea, S', l', f'⟩ := append_own2 (md := md) (ys := [x]) tX G hro hn0 (cs := encX x) (by simp [flat]) (by simp) rfl (by simp; omega)
  have lL := L.lo.resolve_left nl
  have nqG : gv = .slice none 0 0 ∨ q ≠ slB gv := G.own.imp id fun ⟨_, cs, e⟩ f => by rw [← f, Q] at e; cases e
  have lo := S'.lo
  have Tlt := T.lt
  refine ⟨gv', h', fun kk => by simpa using ea kk, ⟨T.keep fun y hy => f' y (T.lt y hy) ?_, L.keep (.inr (f' _ lL.2 (dG.imp id fun d => Ne.symm d.2))), nl, S'.mono hn0, (f' q (lt_of Q) nqG).trans Q, gq, dL, ?_, M⟩, by omega, fun y F => f' y F.1 F.2.2.2.2⟩
  · exact dG.imp id fun d e => d.1 (e ▸ hy)
  · refine lo.imp id fun g => ⟨fun x => by have := Tlt _ x; omega, by omega⟩
end Go.Det.O
