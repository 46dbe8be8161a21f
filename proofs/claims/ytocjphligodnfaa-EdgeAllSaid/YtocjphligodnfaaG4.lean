/- The play of the edges: is it so? -/
import Derived.Test.YtocjphligodnfaaG3
set_option autoImplicit false
set_option linter.unusedVariables false
set_option linter.unusedSimpArgs false
namespace Go.Det.E
open Go.Proofs Go.Det
attribute [local congr] bind_c cond_c
theorem u4g : Try.prog.underlying 4 = some .bool := by kernel_rfl
theorem edge_neq {α : Type} {k : Value → Option α} {d d' : Bool} {a b c a' b' c' : Int} : aBin Try.prog .neq 66 ((Value.agg #[(Value.int .i64 a), (Value.int .i64 b), (Value.int .i64 c), (Value.bool d)])) ((Value.agg #[(Value.int .i64 a'), (Value.int .i64 b'), (Value.int .i64 c'), (Value.bool d')])) k = k ((Value.bool (!(a == a' && (b == b' && (c == c' && (d == d' && true))))))) :=
  aBin_neqA (xs := [_, _, _, _]) (ys := [_, _, _, _]) (ks := [.i, .i, .i, .b]) (by kernel_rfl) (by kernel_rfl) (by kernel_rfl) rfl rfl (cellsEq_i (cellsEq_i (cellsEq_i (cellsEq_b cellsEq_n))))
theorem ixF_neg {p : One → Bool} {xs : List One} {k : Nat} (h : ixF p xs k < 0) : ixF p xs k = -1 := by
  induction xs generalizing k with
  | nil => rfl
  | cons y xs ih =>
    simp only [ixF] at h ⊢
    cases hy : p y
    · rw [hy] at h; exact ih h
    · rw [hy] at h; simp only [cond_true] at h; omega
theorem pP_t {u v : Int} {x : One} : pP u v x = true ↔ x.u = u ∧ x.v = v := by
  unfold pP
  cases h : (x.u == u)
  · simp at h; simp [h]
  · simp at h; simp [h]
theorem pS_t {s : Int} {x : One} : pS s x = true ↔ x.s = s := by unfold pS; simp
/-- What is told of two vertices. -/
theorem pair_of {V S T : Int} {l : List Int} {all : List One} (I : EI V S T l all) {u v : Int} (huv : u ≠ v) (hu : 0 ≤ u ∧ u < V) (hv : 0 ≤ v ∧ v < V) :
    (ixF (pP (mn u v) (mx u v)) all 0 = -1 ∧ getI l (Ex V S T u v) = encO none) ∨ ∃ k x, ixF (pP (mn u v) (mx u v)) all 0 = ((k : Nat) : Int) ∧ all[k]? = some x ∧ x.u = mn u v ∧ x.v = mx u v ∧ getI l (Ex V S T u v) = encO (some (x.s, x.t)) := by
  have hm := mm_le huv
  have hc := mm_cases u v
  by_cases hi : ixF (pP (mn u v) (mx u v)) all 0 < 0
  · left
    refine ⟨ixF_neg hi, ?_⟩
    rw [ex_mm huv]
    refine I.none _ _ (by omega) hm (by omega) fun x hx h => ?_
    have := ixF_none hi x hx
    rw [pP_t.2 h] at this; cases this
  · right
    obtain ⟨k, x, h1, h2, h3⟩ := ixF_some (xs := all) (k := 0) (p := pP (mn u v) (mx u v)) (by omega)
    rw [Nat.zero_add] at h1
    have h4 := pP_t.1 h3
    refine ⟨k, x, h1, h2, h4.1, h4.2, ?_⟩
    have := (I.each x (List.mem_of_getElem? h2)).2.2.2.2.2
    rw [h4.1, h4.2] at this
    rw [ex_mm huv]; exact this
theorem ok_of {V S T : Int} {l : List Int} {all : List One} (hR : Rt V S T) (I : EI V S T l all) {x : One} (hx : x ∈ all) : okO (some (x.s, x.t)) := by
  have := (I.each x hx).1
  have := hR.2.1
  simp only [okO]; omega
variable {md : Md} {h : Heap} {p a b : Nat} {S T : Int} {l c : List Int} {v : Value} {all : List One} {n : Nat}
theorem Sl.near {hh : Heap} (P : SlO h (p + 1) 5 encE v all) (ha : a < p) (hb : b < p) (hx : all ≠ []) (N : Near a b h hh) : Sl hh 5 encE v all := by
  refine P.sl.heap fun hl => N.oth _ hl ?_ ?_
  · rcases P.own with h | h
    · rcases P.sl.is with ⟨_, e⟩ | ⟨b, o, k, e, _⟩
      · exact absurd e hx
      · rw [e] at h; cases h
    · omega
  · rcases P.own with h | h
    · rcases P.sl.is with ⟨_, e⟩ | ⟨b, o, k, e, _⟩
      · exact absurd e hx
      · rw [e] at h; cases h
    · omega
theorem Sl.near' {hh : Heap} (P : SlO h (p + 1) 5 encE v all) (ha : a < p) (hb : b < p) (N : Near a b h hh) : Sl hh 5 encE v all := by
  by_cases hx : all = []
  · rcases P.own with h' | h'
    · subst hx; rw [h']; exact Sl.nil _ encE_len
    · exact P.sl.heap fun hl => N.oth _ hl (by omega) (by omega)
  · exact Sl.near P ha hb hx N
theorem is_none {u w : Nat} {hh h9 : Heap} {s2 s15 : Value} (hlt : (w : Int) < (n : Int)) (t : ((u : Int) == (w : Int)) = false) (e : IntKind.wrap .i64 ((w : Int) + 1) = ((w + 1 : Nat) : Int))
    (r4 : rdN hh p 3 4 = some [(Value.int .i64 ((n : Int))), (Value.int .i64 S), (Value.int .i64 T), ifA a])
    (e9 : C md 47 [E4 n S T a, (Value.int .i64 ((u : Int))), (Value.int .i64 ((w : Int)))] hh = some ((Value.tuple #[(Value.int .i64 0), (Value.bool false), (Value.bool false)]), h9))
    (e17 : C md 46 [(Value.pointer (some ⟨p, 0, none⟩)), (Value.int .i64 ((u : Int))), (Value.int .i64 ((w : Int)))] h9 = some ((Value.int .i64 (-1)), h9)) :
    Jr44_0b0 C md ((Value.pointer (some ⟨p, 0, none⟩))) s2 ((Value.int .i64 ((u : Int)))) s15 ((Value.int .i64 ((u : Int)))) ((Value.int .i64 ((n : Int)))) ((Value.int .i64 ((w : Int)))) hh = some (.inl (((Value.pointer (some ⟨p, 0, none⟩)), s2, (Value.int .i64 ((u : Int))), s15, (Value.int .i64 ((u : Int))), (Value.int .i64 ((n : Int))), (Value.int .i64 (((w + 1 : Nat) : Int)))), h9)) := by
  unfold Jr44_0b0
  simp only [go_sem, Nat.reduceAdd, Nat.reduceLeDiff, Nat.reduceMul, Int.reduceBEq, Int.reduceBNe, Int.reduceLT, Int.reduceLE, Int.reduceGT, aBin_lss, hlt, aBin_eql, t, r4, e9, e17]
  rw [← e]
  refine Eq.trans ?_ rfl
  kernel_rfl
theorem bindS {α β : Type} {A : Option α} {x : α} {f : α → Option β} {r : Option β} (h1 : A = some x) (h2 : f x = r) : A.bind f = r := by rw [h1]; exact h2
theorem cBnS {γ : Type} {v : Value} {b : Bool} {k : Bool → Option γ} {r : Option γ} (h1 : v = .bool b) (h2 : k b = r) : cBn v k = r := by rw [h1]; exact h2
theorem condS {β : Type} {c d : Bool} {x y r : β} (h1 : c = d) (h2 : (bif d then x else y) = r) : (bif c then x else y) = r := by rw [h1]; exact h2
theorem is_some {u w k : Nat} {x : One} {hh h9 : Heap} {s2 s15 : Value} (hlt : (w : Int) < (n : Int)) (t : ((u : Int) == (w : Int)) = false) (e : IntKind.wrap .i64 ((w : Int) + 1) = ((w + 1 : Nat) : Int))
    (r4 : rdN hh p 3 4 = some [(Value.int .i64 ((n : Int))), (Value.int .i64 S), (Value.int .i64 T), ifA a])
    (e9 : C md 47 [E4 n S T a, (Value.int .i64 ((u : Int))), (Value.int .i64 ((w : Int)))] hh = some ((Value.tuple #[(Value.int .i64 x.s), (Value.bool x.t), (Value.bool true)]), h9))
    (e17 : C md 46 [(Value.pointer (some ⟨p, 0, none⟩)), (Value.int .i64 ((u : Int))), (Value.int .i64 ((w : Int)))] h9 = some ((Value.int .i64 ((k : Int))), h9))
    (r7 : rd h9 p 7 = some v) (ix : ∀ {α : Type} (kk : Value → Option α), ixS 5 v (k : Int) kk = kk ((Value.pointer (some ⟨slB v, slO v + k * 5, none⟩)))) (c0 : rd h9 (slB v) (slO v + k * 5) = some ((Value.int .i64 x.s))) (c4 : rd h9 (slB v) (slO v + k * 5 + 4) = some ((Value.bool x.t))) :
    Jr44_0b0 C md ((Value.pointer (some ⟨p, 0, none⟩))) s2 ((Value.int .i64 ((u : Int)))) s15 ((Value.int .i64 ((u : Int)))) ((Value.int .i64 ((n : Int)))) ((Value.int .i64 ((w : Int)))) hh = some (.inl (((Value.pointer (some ⟨p, 0, none⟩)), s2, (Value.int .i64 ((u : Int))), s15, (Value.int .i64 ((u : Int))), (Value.int .i64 ((n : Int))), (Value.int .i64 (((w + 1 : Nat) : Int)))), h9)) := by
  unfold Jr44_0b0
  have bf : (true != true) = false := rfl
  have q : ∀ z : Int, (z != z) = false := fun z => by simp
  have q2 : ∀ z : Bool, (z != z) = false := fun z => by cases z <;> rfl
  have hk0 : (0 : Int) ≤ (k : Int) := by omega
  simp only [go_sem, Nat.reduceAdd, Nat.reduceLeDiff, Nat.reduceMul, Int.reduceBEq, Int.reduceBNe, Int.reduceLT, Int.reduceLE, Int.reduceGT, aBin_lss, hlt, aBin_eql, t, r4, e9, e17]
  refine Eq.trans (aBin_neqB u4g) ?_
  have hk1 : (true != decide ((k : Int) ≥ 0)) = false := by simp
  rw [hk1]
  iterate 40 (first | (refine bindS (by (try simp only [go_sem, Nat.reduceAdd, Nat.reduceLeDiff, Nat.reduceMul, Int.reduceBEq, Int.reduceBNe, Int.reduceLT, Int.reduceLE, Int.reduceGT, r7, ix, c0, c4, aBin_neq, aUn_not, aBin_neqB u4g, q, q2]); exact rfl) ?_) | (refine cBnS (by (try simp only [go_sem, Nat.reduceAdd, Nat.reduceLeDiff, Nat.reduceMul, Int.reduceBEq, Int.reduceBNe, Int.reduceLT, Int.reduceLE, Int.reduceGT]); exact rfl) ?_))
  rw [e]

theorem is_v (hR : Rt n S T) (P : Pl h p a b n S T l c v all) (I : EI n S T l all) (hm : all.length < 100000) (hra : md.ro ≤ a) {u : Nat} (hu : u < n) (s2 s15 : Value) : ∀ (m w : Nat) (c : List Int) (hh : Heap), w + m = n → Near a b h hh → Ar hh a b l c →
    ∃ hh' c', J44_0b0 C md ((Value.pointer (some ⟨p, 0, none⟩))) s2 ((Value.int .i64 ((u : Int)))) s15 ((Value.int .i64 ((u : Int)))) ((Value.int .i64 ((n : Int)))) ((Value.int .i64 ((w : Int)))) hh = some (.inl (((Value.pointer (some ⟨p, 0, none⟩)), s2, s15, (Value.int .i64 (((u + 1 : Nat) : Int)))), hh')) ∧ Near a b h hh' ∧ Ar hh' a b l c' := by
  have r := hR
  unfold Rt at r
  have hpl := lt_of P.hp
  intro m
  induction m with
  | zero =>
    intro w c hh hw N A
    obtain rfl : w = n := by omega
    have e : IntKind.wrap .i64 ((u : Int) + 1) = ((u + 1 : Nat) : Int) := by rw [wi (by omega) (by omega)]; rfl
    refine ⟨hh, c, ?_, N, A⟩
    rw [J44_0b0_step]
    unfold Jr44_0b0
    simp only [go_sem, Nat.reduceAdd, Nat.reduceLeDiff, Nat.reduceMul, Int.reduceBEq, Int.reduceBNe, Int.reduceLT, Int.reduceLE, Int.reduceGT, aBin_lss, Int.lt_irrefl, Jk44_0b0, aBin_add, e]
  | succ m ih =>
    intro w c hh hw N A
    have hlt : (w : Int) < (n : Int) := by omega
    have e : IntKind.wrap .i64 ((w : Int) + 1) = ((w + 1 : Nat) : Int) := by rw [wi (by omega) (by omega)]; rfl
    by_cases huw : u = w
    · obtain ⟨hh', c', e1, N1, A1⟩ := ih (w + 1) c hh (by omega) N A
      refine ⟨hh', c', ?_, N1, A1⟩
      have t : ((u : Int) == (w : Int)) = true := by simp [huw]
      rw [J44_0b0_step]
      unfold Jr44_0b0
      simp only [go_sem, Nat.reduceAdd, Nat.reduceLeDiff, Nat.reduceMul, Int.reduceBEq, Int.reduceBNe, Int.reduceLT, Int.reduceLE, Int.reduceGT, aBin_lss, hlt, aBin_eql, t, aBin_add, e]
      exact e1
    · have t : ((u : Int) == (w : Int)) = false := by simp; omega
      have hb0 : hh[p]? = some (.own [(Value.int .i64 ((n : Int))), (Value.int .i64 S), (Value.int .i64 T), (Value.int .i64 ((n : Int))), (Value.int .i64 S), (Value.int .i64 T), ifA a, v]) := by rw [N.oth p hpl (by have := P.ha; omega) (by have := P.hb; omega)]; exact P.hp
      have r4 : rdN hh p 3 4 = some [(Value.int .i64 ((n : Int))), (Value.int .i64 S), (Value.int .i64 T), ifA a] := by rw [rdN_at hb0 (by simp [Blk.cells])]; rfl
      rcases pair_of I (u := (u : Int)) (v := (w : Int)) (by omega) (by omega) (by omega) with ⟨h1, h2⟩ | ⟨k, x, h1, h2, h3, h4, h5⟩
      · obtain ⟨h9, c9, e9, A9, o9⟩ := find_e (md := md) hR A hra (u : Int) (w : Int) (o := none) trivial h2
        have N9 := N.only o9
        have hb9 : h9[p]? = some (.own [(Value.int .i64 ((n : Int))), (Value.int .i64 S), (Value.int .i64 T), (Value.int .i64 ((n : Int))), (Value.int .i64 S), (Value.int .i64 T), ifA a, v]) := by rw [N9.oth p hpl (by have := P.ha; omega) (by have := P.hb; omega)]; exact P.hp
        have e17 := between_s (md := md) hb9 (Sl.near' P.sl P.ha P.hb N9) hm (u : Int) (w : Int)
        rw [h1] at e17
        obtain ⟨hh', c', e1, N1, A1⟩ := ih (w + 1) c9 h9 (by omega) N9 A9
        refine ⟨hh', c', ?_, N1, A1⟩
        simp only [resO] at e9
        rw [J44_0b0_step, is_none hlt t e r4 e9 e17]
        exact e1
      · obtain ⟨h9, c9, e9, A9, o9⟩ := find_e (md := md) hR A hra (u : Int) (w : Int) (o := some (x.s, x.t)) (ok_of hR I (List.mem_of_getElem? h2)) h5
        have N9 := N.only o9
        have hb9 : h9[p]? = some (.own [(Value.int .i64 ((n : Int))), (Value.int .i64 S), (Value.int .i64 T), (Value.int .i64 ((n : Int))), (Value.int .i64 S), (Value.int .i64 T), ifA a, v]) := by rw [N9.oth p hpl (by have := P.ha; omega) (by have := P.hb; omega)]; exact P.hp
        have S9 := Sl.near' P.sl P.ha P.hb N9
        have e17 := between_s (md := md) hb9 S9 hm (u : Int) (w : Int)
        rw [h1] at e17
        have r7 : rd h9 p 7 = some v := by rw [rd_at hb9]; rfl
        have hkl := (List.getElem?_eq_some_iff.1 h2).1
        have ix := fun {α : Type} (kk : Value → Option α) => S9.ix (i := (k : Int)) (by omega) (by omega) kk
        have c0 := S9.cell h2 (j := 0) (by omega)
        have c4 := S9.cell h2 (j := 4) (by omega)
        obtain ⟨hh', c', e1, N1, A1⟩ := ih (w + 1) c9 h9 (by omega) N9 A9
        refine ⟨hh', c', ?_, N1, A1⟩
        simp only [resO] at e9
        simp only [Nat.add_zero] at c0
        rw [J44_0b0_step, is_some hlt t e r4 e9 e17 r7 ix c0 c4]
        exact e1
theorem is_u (hR : Rt n S T) (P : Pl h p a b n S T l c v all) (I : EI n S T l all) (hm : all.length < 100000) (hra : md.ro ≤ a) (s2 : Value) : ∀ (m u : Nat) (c : List Int) (hh : Heap), u + m = n → Near a b h hh → Ar hh a b l c →
    ∃ hh' c', J44_0 C md h ((Value.pointer (some ⟨p, 0, none⟩))) s2 ((Value.int .i64 ((n : Int)))) ((Value.int .i64 ((u : Int)))) hh = J44_1 C md h ((Value.pointer (some ⟨p, 0, none⟩))) s2 hh' ∧ Near a b h hh' ∧ Ar hh' a b l c' := by
  have hpl := lt_of P.hp
  intro m
  induction m with
  | zero =>
    intro u c hh hw N A
    obtain rfl : u = n := by omega
    refine ⟨hh, c, ?_, N, A⟩
    rw [J44_0_step]
    unfold Jr44_0
    simp only [go_sem, Nat.reduceAdd, Nat.reduceLeDiff, Nat.reduceMul, Int.reduceBEq, Int.reduceBNe, Int.reduceLT, Int.reduceLE, Int.reduceGT, aBin_lss, Int.lt_irrefl, Jk44_0]
  | succ m ih =>
    intro u c hh hw N A
    have hlt : (u : Int) < (n : Int) := by omega
    have hb0 : hh[p]? = some (.own [(Value.int .i64 ((n : Int))), (Value.int .i64 S), (Value.int .i64 T), (Value.int .i64 ((n : Int))), (Value.int .i64 S), (Value.int .i64 T), ifA a, v]) := by rw [N.oth p hpl (by have := P.ha; omega) (by have := P.hb; omega)]; exact P.hp
    have r0 : rd hh p 0 = some ((Value.int .i64 ((n : Int)))) := by rw [rd_at hb0]; rfl
    obtain ⟨h1, c1, e1, N1, A1⟩ := is_v hR P I hm hra (u := u) (by omega) s2 ((Value.int .i64 ((n : Int)))) n 0 c hh (by omega) N A
    obtain ⟨h2, c2, e2, N2, A2⟩ := ih (u + 1) c1 h1 (by omega) N1 A1
    refine ⟨h2, c2, ?_, N2, A2⟩
    rw [J44_0_step]
    unfold Jr44_0
    simp only [go_sem, Nat.reduceAdd, Nat.reduceLeDiff, Nat.reduceMul, Int.reduceBEq, Int.reduceBNe, Int.reduceLT, Int.reduceLE, Int.reduceGT, aBin_lss, hlt, r0]
    rw [show ((0 : Int)) = ((0 : Nat) : Int) from rfl, e1]
    exact e2
theorem is_a (hR : Rt n S T) (P : Pl h p a b n S T l c v all) (I : EI n S T l all) (hm : all.length < 100000) (hra : md.ro ≤ a) (hlim : md.lim ≤ h.length) (s2 : Value) : ∀ (m k : Nat) (c : List Int) (hh : Heap), k + m = all.length → Near a b h hh → Ar hh a b l c →
    ∃ hh' c', J44_2 C md h ((Value.pointer (some ⟨p, 0, none⟩))) s2 v ((Value.int .i64 ((all.length : Int)))) ((Value.int .i64 ((k : Int)))) hh = some ((Value.bool true), hh'.take h.length) ∧ Near a b h hh' ∧ Ar hh' a b l c' := by
  have hpl := lt_of P.hp
  have hha := P.ha
  have hhb := P.hb
  intro m
  induction m with
  | zero =>
    intro k c hh hk N A
    obtain rfl : k = all.length := by omega
    refine ⟨hh, c, ?_, N, A⟩
    rw [J44_2_step]
    unfold Jr44_2
    simp only [go_sem, Nat.reduceAdd, Nat.reduceLeDiff, Nat.reduceMul, Int.reduceBEq, Int.reduceBNe, Int.reduceLT, Int.reduceLE, Int.reduceGT, aBin_lss, Int.lt_irrefl, Jk44_2]
  | succ m ih =>
    intro k c hh hk N A
    have hlt : (k : Int) < (all.length : Int) := by omega
    obtain ⟨x, hx⟩ : ∃ x, all[k]? = some x := ⟨all[k]'(by omega), List.getElem?_eq_getElem (by omega)⟩
    have hxm := List.mem_of_getElem? hx
    obtain ⟨q1, q2, q3, q4, q5, q6⟩ := I.each x hxm
    have r := hR
    unfold Rt at r
    have lv := Lv_le hR
    obtain ⟨xu, hxu⟩ : ∃ i : Nat, x.u = i := ⟨x.u.toNat, by omega⟩
    obtain ⟨xv, hxv⟩ : ∃ i : Nat, x.v = i := ⟨x.v.toNat, by omega⟩
    have S0 := Sl.near' P.sl P.ha P.hb N
    have ix := fun {α : Type} (kk : Value → Option α) => S0.ix (i := (k : Int)) (by omega) hlt kk
    have el := S0.elem hx
    have hNl := N.len
    have A0 := A.app [.own (encE x)]
    have N0 := N.app [.own (encE x)]
    have hb0 : (hh ++ [Blk.own (encE x)])[p]? = some (.own [(Value.int .i64 ((n : Int))), (Value.int .i64 S), (Value.int .i64 T), (Value.int .i64 ((n : Int))), (Value.int .i64 S), (Value.int .i64 T), ifA a, v]) := by rw [N0.oth p hpl (by omega) (by omega)]; exact P.hp
    have r4 : rdN (hh ++ [Blk.own (encE x)]) p 3 4 = some [(Value.int .i64 ((n : Int))), (Value.int .i64 S), (Value.int .i64 T), ifA a] := by rw [rdN_at hb0 (by simp [Blk.cells])]; rfl
    have hf : getI l (Ex n S T xu xv) = encO (some (x.s, x.t)) := by rw [← hxu, ← hxv]; exact q6
    have he : getI l (Ox S T x.s 1) = ((256 * xu + xv : Nat) : Int) := by rw [q4, hxu, hxv]; omega
    obtain ⟨h1, c1, e1, A1, o1⟩ := get_e (md := md) hR A0 hra x.s (u := xu) (v := xv) (by omega) (by omega) he q3.1 (by omega) q5 (ok_of hR I hxm) hf
    simp only [treeO] at e1
    rw [← hxu, ← hxv] at e1
    have N1 := N0.only o1
    have bx : h1[hh.length]? = some (.own (encE x)) := by
      have := o1.new (lt_of A.ha) (lt_of A.hb) 0
      exact this
    have r1 : rdN h1 hh.length 1 4 = some [(Value.int .i64 x.u), (Value.int .i64 x.v), (Value.int .i64 x.lv), (Value.bool x.t)] := by rw [rdN_at bx (by simp [Blk.cells])]; rfl
    have r1' : rdN (hh ++ [Blk.own (encE x)]) hh.length 1 4 = some [(Value.int .i64 x.u), (Value.int .i64 x.v), (Value.int .i64 x.lv), (Value.bool x.t)] := by rw [rdN_at (by simp : (hh ++ [Blk.own (encE x)])[hh.length]? = some (.own (encE x))) (by simp [Blk.cells])]; rfl
    obtain ⟨h2, c2, e2, N2, A2⟩ := ih (k + 1) c1 h1 (by omega) N1 A1
    refine ⟨h2, c2, ?_, N2, A2⟩
    have w : IntKind.wrap .i64 ((k : Int) + 1) = ((k + 1 : Nat) : Int) := by rw [wi (by omega) (by omega)]; rfl
    have st5 := fun (h' : Heap) (kk : Heap → Option (((Value × Value × Value × Value × Value) × Heap) ⊕ (Exit × (Value × Value × Value × Value × Value) × Heap))) => st_N md 5 hh.length 0 (encE x) h' kk rfl rfl
    have hro' : md.ro ≤ hh.length := by omega
    have hlim' : md.lim ≤ hh.length := by omega
    rw [J44_2_step]
    unfold Jr44_2
    simp only [go_sem, Nat.reduceAdd, Nat.reduceLeDiff, Nat.reduceMul, Int.reduceBEq, Int.reduceBNe, Int.reduceLT, Int.reduceLE, Int.reduceGT, aBin_lss, hlt, ix, el, st5, hro', hlim', r4, e1, r1, r1', edge_neq, aBin_add, w]
    exact e2
theorem is_e (hR : Rt n S T) (P : Pl h p a b n S T l c v all) (I : EI n S T l all) (hm : all.length < 100000) (hra : md.ro ≤ a) :
    ∃ h' c', C md 44 [(Value.pointer (some ⟨p, 0, none⟩))] h = some ((Value.bool true), h') ∧ Ar h' a b l c' ∧ Only a b h h' := by
  have hha := P.ha
  have hhb := P.hb
  have hpl := lt_of P.hp
  obtain ⟨h1, c1, e1, N1, A1⟩ := is_u (md := ⟨md.ro, h.length⟩) hR P I hm hra ((Value.bool false)) n 0 c h (by omega) Near.refl P.ar
  obtain ⟨h2, c2, e2, N2, A2⟩ := is_a (md := ⟨md.ro, h.length⟩) hR P I hm hra (Nat.le_refl _) ((Value.bool false)) all.length 0 c1 h1 (by omega) N1 A1
  have hb1 : h1[p]? = some (.own [(Value.int .i64 ((n : Int))), (Value.int .i64 S), (Value.int .i64 T), (Value.int .i64 ((n : Int))), (Value.int .i64 S), (Value.int .i64 T), ifA a, v]) := by rw [N1.oth p hpl (by omega) (by omega)]; exact P.hp
  have r7 : rd h1 p 7 = some v := by rw [rd_at hb1]; rfl
  have r0 : rd h p 0 = some ((Value.int .i64 ((n : Int)))) := by rw [rd_at P.hp]; rfl
  have len := fun {α : Type} (k : Value → Option α) => P.sl.sl.len k
  refine ⟨h2.take h.length, c2, ?_, A2.take (by omega) (by omega), N2.take⟩
  rw [C, call_eq, F44_eq]
  unfold F44
  simp only [go_sem, Nat.reduceAdd, Nat.reduceLeDiff, Nat.reduceMul, Int.reduceBEq, Int.reduceBNe, Int.reduceLT, Int.reduceLE, Int.reduceGT, r0]
  rw [show ((0 : Int)) = ((0 : Nat) : Int) from rfl, e1]
  unfold J44_1
  simp only [go_sem, Nat.reduceAdd, Nat.reduceLeDiff, Nat.reduceMul, Int.reduceBEq, Int.reduceBNe, Int.reduceLT, Int.reduceLE, Int.reduceGT, r7, len]
  exact e2
end Go.Det.E
