/- The document's graph: joined or not. -/
import Derived.Test.YtodeenahpoobkaaQ6
import Derived.Test.YtodeenahpoobkaaER
set_option autoImplicit false
set_option linter.unusedVariables false
set_option linter.unusedSimpArgs false
namespace Go.Det.E
open Go.Proofs Go.Det Go.Det.U
attribute [local congr] bind_c cond_c
variable {h hh hb k h' : Heap} {a b q n n0 n1 c cb lb tb : Nat} {V S T x y p f u v w sl K LV SL U W : Int} {s s' : NS} {r A B xs sn : List Int} {sv gv rv av bv X : Value} {i j m N : Nat} {ps ps' : List (Int × Int)} {e : Int × Int}
theorem has_lp {h0 : Heap} {s4 : Value} {md : Md} (X : Sl h 1 eZ sv sn) (hl : sn.length < 20000) : ∀ (m j : Nat), j + m = sn.length → (∀ y ∈ sn.take j, y ≠ x) → J76_0 C md h0 sv ((Value.int .i64 x)) s4 ((Value.int .i64 ((j : Int)))) h = some ((Value.bool (decide (x ∈ sn))), h0) := by
  have len := fun {α : Type} (kk : Value → Option α) => X.len kk
  intro m
  induction m with
  | zero =>
    intro j hj hb
    obtain rfl : j = sn.length := by omega
    rw [List.take_length] at hb
    have : decide (x ∈ sn) = false := decide_eq_false fun q => hb x q rfl
    rw [this, J76_0_step]
    unfold Jr76_0
    simp only [go_sem, Nat.reduceAdd, Nat.reduceLeDiff, Nat.reduceMul, Int.reduceBEq, Int.reduceBNe, Int.reduceLT, Int.reduceLE, Int.reduceGT, len, aBin_lss, Int.lt_irrefl, Jk76_0]
  | succ m ih =>
    intro j hj hb
    have hlt : (j : Int) < (sn.length : Int) := by omega
    have w1 : IntKind.wrap .i64 ((j : Int) + 1) = ((j + 1 : Nat) : Int) := by rw [wi (by omega) (by omega)]; rfl
    have hy : sn[j]? = some (sn[j]'(by omega)) := List.getElem?_eq_getElem (by omega)
    have tk : sn.take (j + 1) = sn.take j ++ [sn[j]'(by omega)] := by rw [List.take_add_one, hy]; rfl
    generalize sn[j]'(by omega) = y at hy tk
    obtain ⟨ix, rx⟩ := Sl.getI X hy
    rw [J76_0_step]
    unfold Jr76_0
    by_cases hc : y = x
    · subst hc
      have z : (y == y) = true := by simp
      have : decide (y ∈ sn) = true := decide_eq_true (List.mem_of_getElem? hy)
      rw [this]
      simp only [go_sem, Nat.reduceAdd, Nat.reduceLeDiff, Nat.reduceMul, Int.reduceBEq, Int.reduceBNe, Int.reduceLT, Int.reduceLE, Int.reduceGT, len, aBin_lss, hlt, ixSV_p, ix, rx, aBin_eql, z, Jk76_0]
    · have z : (y == x) = false := by rw [beq_eq_false_iff_ne]; exact hc
      simp only [go_sem, Nat.reduceAdd, Nat.reduceLeDiff, Nat.reduceMul, Int.reduceBEq, Int.reduceBNe, Int.reduceLT, Int.reduceLE, Int.reduceGT, len, aBin_lss, hlt, ixSV_p, ix, rx, aBin_eql, z, aBin_add, w1]
      exact ih (j + 1) (by omega) fun y' hy' => by
        rw [tk] at hy'
        rcases List.mem_append.1 hy' with q | q
        · exact hb y' q
        · simp at q; subst q; exact hc
theorem has_t (md : Md) (X : Sl h 1 eZ sv sn) (hl : sn.length < 20000) : C md 76 [sv, (Value.int .i64 x)] h = some ((Value.bool (decide (x ∈ sn))), h) := by
  rw [C, call_eq, F76_eq]
  unfold F76
  exact has_lp X hl sn.length 0 (by omega) (by simp)
/-- The vertices that were seen. -/
structure Seen (V : Int) (ps : List (Int × Int)) (u : Int) (sn : List Int) : Prop where
  nod : sn.Nodup
  rng : ∀ y ∈ sn, (0 ≤ y ∧ y < V) ∧ Conn ps u y
  hu : u ∈ sn
theorem Seen.len (hR : Rt V S T) (X : Seen V ps u sn) : sn.length ≤ 16 := by
  have rV := hR
  unfold Rt at rV
  have h1 : (sn.map (· + 1)).Nodup := by
    rw [List.Nodup, List.pairwise_map]
    exact List.Pairwise.imp (fun h e => h (by omega)) X.nod
  have := pig10 V.toNat ((sn.map (· + 1)).map Int.toNat) (by
    rw [List.Nodup, List.pairwise_map]
    refine List.Pairwise.imp_of_mem ?_ h1
    intro x y hx hy hne e
    obtain ⟨x', hx', rfl⟩ := List.mem_map.1 hx
    obtain ⟨y', hy', rfl⟩ := List.mem_map.1 hy
    have := (X.rng x' hx').1
    have := (X.rng y' hy').1
    exact hne (by omega)) (fun n hn => by
    obtain ⟨z, hz, rfl⟩ := List.mem_map.1 hn
    obtain ⟨y, hy, rfl⟩ := List.mem_map.1 hz
    have := (X.rng y hy).1
    omega)
  simp at this
  omega
theorem Seen.add (X : Seen V ps u sn) (hx : x ∈ sn) (ha : Adj ps x y) (hy : 0 ≤ y ∧ y < V) (hn : y ∉ sn) : Seen V ps u (sn ++ [y]) :=
  ⟨List.nodup_append.2 ⟨X.nod, by simp, fun z hz w hw e => by simp at hw; subst hw; subst e; exact hn hz⟩, fun z hz => by
    rcases List.mem_append.1 hz with q | q
    · exact X.rng z q
    · simp only [List.mem_singleton] at q; subst q
      exact ⟨hy, (X.rng x hx).2.step ha⟩, List.mem_append.2 (.inl X.hu)⟩
/-- Of a node: its neighbours by some slots were seen. -/
def Near (ps : List (Int × Int)) (sn : List Int) (x : Int) (k : Nat) : Prop := ∀ (s : Nat) (e : Int × Int), s < k → Lk ps s e → (e.1 = x → e.2 ∈ sn) ∧ (e.2 = x → e.1 ∈ sn)
theorem Seen.closed (X : Seen V ps u sn) (hd : ∀ (j : Nat) (y : Int), sn[j]? = some y → Near ps sn y ps.length) (h : Conn ps u v) : v ∈ sn := by
  induction h with
  | refl => exact X.hu
  | @step v' w' _ ad ihc =>
    obtain ⟨s', e', hl', q⟩ := ad
    obtain ⟨j, hj⟩ := List.mem_iff_getElem?.1 ihc
    have sl := (List.getElem?_eq_some_iff.1 hl'.1).1
    obtain ⟨q1, q2⟩ := hd j v' hj s' e' sl hl'
    rcases q with ⟨h1, rfl⟩ | ⟨h1, rfl⟩
    · exact q1 h1
    · exact q2 h1
/-- One slot, at one node. -/
theorem join_k {h0 : Heap} {s2 s6 gv : Value} {n1 : Nat} (hR : Rt V S T) (hn1 : n1 = h0.length) (G : Sl k 2 eZ2 gv ps) (hval : ∀ (s : Nat) (e : Int × Int), Lk ps s e → (0 ≤ e.1 ∧ e.1 < V) ∧ (0 ≤ e.2 ∧ e.2 < V)) (hgv : slB gv < n1) (hps : ps.length < 20000) (hi : sn[i]? = some x) (hk : n1 ≤ k.length) (SO : SlO k n1 1 eZ sv sn) (X : Seen V ps u sn) {t : Nat} (he : ps[t]? = some e) (hN : Near ps sn x t) :
    ∃ sv' sn' k', J37_0b0 C ⟨n1, n1⟩ gv s2 s6 sv ((Value.int .i64 ((i : Int)))) ((Value.int .i64 ((t : Int)))) k = J37_0b0 C ⟨n1, n1⟩ gv s2 s6 sv' ((Value.int .i64 ((i : Int)))) ((Value.int .i64 (((t + 1 : Nat) : Int)))) k' ∧ SlO k' n1 1 eZ sv' sn' ∧ Seen V ps u sn' ∧ (∃ z, sn' = sn ++ z) ∧ Near ps sn' x (t + 1) ∧ n1 ≤ k'.length ∧ ∀ y, y < n1 → k'[y]? = k[y]? := by
  have tl := (List.getElem?_eq_some_iff.1 he).1
  have lenG := fun {α : Type} (kk : Value → Option α) => G.len kk
  have hlt : (t : Int) < (ps.length : Int) := by omega
  have w1 : IntKind.wrap .i64 ((t : Int) + 1) = ((t + 1 : Nat) : Int) := by rw [wi (by omega) (by omega)]; rfl
  have ixg := fun {α : Type} (kk : Value → Option α) => G.ix (i := (t : Int)) (by omega) hlt kk
  simp only [Int.toNat_natCast] at ixg
  have r0 : rd k (slB gv) (slO gv + t * 2) = some ((Value.int .i64 e.1)) := G.cell he (j := 0) (by decide)
  have r1 : rd k (slB gv) (slO gv + t * 2 + 1) = some ((Value.int .i64 e.2)) := G.cell he (j := 1) (by decide)
  have ia0 := fun {α : Type} (kk : Value → Option α) => ixA_p 1 (slB gv) (slO gv + t * 2) 2 0 kk (by omega)
  have ia1 := fun {α : Type} (kk : Value → Option α) => ixA_p 1 (slB gv) (slO gv + t * 2) 2 1 kk (by omega)
  simp only [show (0 : Int).toNat = 0 from rfl, show (1 : Int).toNat = 1 from rfl, Nat.zero_mul, Nat.one_mul, Nat.add_zero] at ia0 ia1
  by_cases hneg : e.1 < 0
  · refine ⟨sv, sn, k, ?_, SO, X, ⟨[], by simp⟩, fun s' e' hs' hl' => ?_, hk, fun _ _ => rfl⟩
    · rw [J37_0b0_step]
      unfold Jr37_0b0
      simp only [go_sem, Nat.reduceAdd, Nat.reduceLeDiff, Nat.reduceMul, Int.reduceBEq, Int.reduceBNe, Int.reduceLT, Int.reduceLE, Int.reduceGT, lenG, aBin_lss, hlt, ixSV_p, ixg, ia0, r0, ia1, r1, hneg, aBin_add, w1]
    · by_cases q : s' = t
      · subst q
        have h1 := hl'.1
        rw [he] at h1
        obtain rfl := Option.some.inj h1
        exact absurd hl'.2 (by omega)
      · exact hN s' e' (by omega) hl'
  · have hl : Lk ps t e := ⟨he, by omega⟩
    obtain ⟨ee1, ee2⟩ := hval t e hl
    have hxm := List.mem_of_getElem? hi
    obtain ⟨ixs, rxs⟩ := Sl.getI SO.sl hi
    have sl16 := X.len hR
    -- the second half, from any list that has grown
    have half : ∀ (sv1 : Value) (sn1 : List Int) (k1 : Heap), SlO k1 n1 1 eZ sv1 sn1 → Seen V ps u sn1 → (∃ z, sn1 = sn ++ z) → (e.1 = x → e.2 ∈ sn1) → n1 ≤ k1.length → (∀ y, y < n1 → k1[y]? = k[y]?) → ∃ sv' sn' k', (J37_0b0b0 C ⟨n1, n1⟩ gv s2 s6 sv1 ((Value.int .i64 ((i : Int)))) ((Value.int .i64 ((t : Int)))) ((Value.int .i64 e.1)) ((Value.int .i64 e.2)) k1) = some (.inl ((gv, s2, s6, sv', (Value.int .i64 ((i : Int))), (Value.int .i64 (((t + 1 : Nat) : Int)))), k')) ∧ SlO k' n1 1 eZ sv' sn' ∧ Seen V ps u sn' ∧ (∃ z, sn' = sn ++ z) ∧ Near ps sn' x (t + 1) ∧ n1 ≤ k'.length ∧ ∀ y, y < n1 → k'[y]? = k[y]? := fun sv1 sn1 k1 SO1 X1 hz h12 hk1 o1 => by
      obtain ⟨z, rfl⟩ := hz
      have hi1 : (sn ++ z)[i]? = some x := by rw [List.getElem?_append_left (List.getElem?_eq_some_iff.1 hi).1]; exact hi
      obtain ⟨ix1, rx1⟩ := Sl.getI SO1.sl hi1
      have sl1 := X1.len hR
      have hs1 := has_t (x := e.1) ⟨n1, n1⟩ SO1.sl (by omega)
      have fin : ∀ (sn' : List Int), (∃ z', sn' = sn ++ z') → (∀ y ∈ sn ++ z, y ∈ sn') → (e.2 = x → e.1 ∈ sn') → Near ps sn' x (t + 1) := fun sn' hz' hsub h21 s' e' hs' hl' => by
        by_cases q : s' = t
        · subst q
          obtain rfl := lk_uniq hl hl'
          exact ⟨fun h => hsub _ (h12 h), h21⟩
        · obtain ⟨q1, q2⟩ := hN s' e' (by omega) hl'
          obtain ⟨z', rfl⟩ := hz'
          exact ⟨fun h => List.mem_append.2 (.inl (q1 h)), fun h => List.mem_append.2 (.inl (q2 h))⟩
      by_cases c1 : e.2 = x
      · have b1 : (e.2 == x) = true := by rw [c1]; simp
        by_cases c2 : e.1 ∈ sn ++ z
        · have d1 : decide (e.1 ∈ sn ++ z) = true := decide_eq_true c2
          rw [d1] at hs1
          refine ⟨sv1, sn ++ z, k1, ?_, SO1, X1, ⟨z, rfl⟩, fin _ ⟨z, rfl⟩ (fun _ h => h) (fun _ => c2), hk1, o1⟩
          unfold J37_0b0b0
          simp only [go_sem, Nat.reduceAdd, Nat.reduceLeDiff, Nat.reduceMul, Int.reduceBEq, Int.reduceBNe, Int.reduceLT, Int.reduceLE, Int.reduceGT, ixSV_p, ix1, rx1, aBin_eql, b1, hs1, aUn_not, aBin_add, w1]
        · have d1 : decide (e.1 ∈ sn ++ z) = false := decide_eq_false c2
          rw [d1] at hs1
          obtain ⟨v2, k2, ea, S2, l2, f2⟩ := append_own2 (md := ⟨n1, n1⟩) (ys := [e.1]) tInt9 SO1 (Nat.le_refl _) hk1 (cs := [(Value.int .i64 e.1)]) (by simp [flat]) (by simp) rfl (by simp; simp at sl1; omega)
          simp only [List.length_cons, List.length_nil, Nat.zero_add] at ea
          have bI : ∀ {α : Type} (hx : Heap) (kk : Value → Heap → Option α), aBuildSlice Try.prog 44 1 [(0, (Value.int .i64 e.1))] hx kk = kk ((Value.slice (some ⟨hx.length, 0, none⟩) 1 1)) (hx ++ [Blk.own [(Value.int .i64 e.1)]]) := fun hx kk => by kernel_rfl
          refine ⟨v2, sn ++ z ++ [e.1], k2, ?_, S2.mono hk1, X1.add (List.mem_of_getElem? hi1) ⟨t, e, hl, .inr ⟨c1, rfl⟩⟩ ee1 c2, ⟨z ++ [e.1], by simp⟩, fin _ ⟨z ++ [e.1], by simp⟩ (fun y hy => List.mem_append.2 (.inl hy)) (fun _ => by simp), by omega, fun y hy => (f2 y (by omega) (SO1.own.imp id fun q => by omega)).trans (o1 y hy)⟩
          unfold J37_0b0b0
          simp only [go_sem, Nat.reduceAdd, Nat.reduceLeDiff, Nat.reduceMul, Int.reduceBEq, Int.reduceBNe, Int.reduceLT, Int.reduceLE, Int.reduceGT, ixSV_p, ix1, rx1, aBin_eql, b1, hs1, aUn_not, bI, ea, aBin_add, w1]
      · have b1 : (e.2 == x) = false := by rw [beq_eq_false_iff_ne]; exact c1
        refine ⟨sv1, sn ++ z, k1, ?_, SO1, X1, ⟨z, rfl⟩, fin _ ⟨z, rfl⟩ (fun _ h => h) (fun h => absurd h c1), hk1, o1⟩
        unfold J37_0b0b0
        simp only [go_sem, Nat.reduceAdd, Nat.reduceLeDiff, Nat.reduceMul, Int.reduceBEq, Int.reduceBNe, Int.reduceLT, Int.reduceLE, Int.reduceGT, ixSV_p, ix1, rx1, aBin_eql, b1, aUn_not, aBin_add, w1]
    have hs0 := has_t (x := e.2) ⟨n1, n1⟩ SO.sl (by omega)
    by_cases c1 : e.1 = x
    · have b1 : (e.1 == x) = true := by rw [c1]; simp
      by_cases c2 : e.2 ∈ sn
      · have d1 : decide (e.2 ∈ sn) = true := decide_eq_true c2
        rw [d1] at hs0
        obtain ⟨sv', sn', k', e9, z⟩ := half sv sn k SO X ⟨[], by simp⟩ (fun _ => c2) hk (fun _ _ => rfl)
        refine ⟨sv', sn', k', ?_, z⟩
        rw [J37_0b0_step]
        unfold Jr37_0b0
        simp only [go_sem, Nat.reduceAdd, Nat.reduceLeDiff, Nat.reduceMul, Int.reduceBEq, Int.reduceBNe, Int.reduceLT, Int.reduceLE, Int.reduceGT, lenG, aBin_lss, hlt, ixSV_p, ixg, ia0, r0, ia1, r1, hneg, ixs, rxs, b1, hs0, aUn_not, e9]
      · have d1 : decide (e.2 ∈ sn) = false := decide_eq_false c2
        rw [d1] at hs0
        obtain ⟨v2, k2, ea, S2, l2, f2⟩ := append_own2 (md := ⟨n1, n1⟩) (ys := [e.2]) tInt9 SO (Nat.le_refl _) hk (cs := [(Value.int .i64 e.2)]) (by simp [flat]) (by simp) rfl (by simp; omega)
        simp only [List.length_cons, List.length_nil, Nat.zero_add] at ea
        obtain ⟨sv', sn', k', e9, z⟩ := half v2 (sn ++ [e.2]) k2 (S2.mono hk) (X.add hxm ⟨t, e, hl, .inl ⟨c1, rfl⟩⟩ ee2 c2) ⟨[e.2], rfl⟩ (fun _ => by simp) (by omega) (fun y hy => f2 y (by omega) (SO.own.imp id fun q => by omega))
        refine ⟨sv', sn', k', ?_, z⟩
        rw [J37_0b0_step]
        unfold Jr37_0b0
        simp only [go_sem, Nat.reduceAdd, Nat.reduceLeDiff, Nat.reduceMul, Int.reduceBEq, Int.reduceBNe, Int.reduceLT, Int.reduceLE, Int.reduceGT, lenG, aBin_lss, hlt, ixSV_p, ixg, ia0, r0, ia1, r1, hneg, ixs, rxs, b1, hs0, aUn_not, ea, e9]
    · have b1 : (e.1 == x) = false := by rw [beq_eq_false_iff_ne]; exact c1
      obtain ⟨sv', sn', k', e9, z⟩ := half sv sn k SO X ⟨[], by simp⟩ (fun h => absurd h c1) hk (fun _ _ => rfl)
      refine ⟨sv', sn', k', ?_, z⟩
      rw [J37_0b0_step]
      unfold Jr37_0b0
      simp only [go_sem, Nat.reduceAdd, Nat.reduceLeDiff, Nat.reduceMul, Int.reduceBEq, Int.reduceBNe, Int.reduceLT, Int.reduceLE, Int.reduceGT, lenG, aBin_lss, hlt, ixSV_p, ixg, ia0, r0, ia1, r1, hneg, ixs, rxs, b1, aUn_not, e9]
/-- All slots, at one node. -/
theorem join_n {h0 : Heap} {s2 s6 gv : Value} {n1 : Nat} (hR : Rt V S T) (hn1 : n1 = h0.length) (hval : ∀ (s : Nat) (e : Int × Int), Lk ps s e → (0 ≤ e.1 ∧ e.1 < V) ∧ (0 ≤ e.2 ∧ e.2 < V)) (hgv : slB gv < n1) (hps : ps.length < 20000) : ∀ (m t : Nat) (k : Heap) (sv : Value) (sn : List Int), t + m = ps.length → Sl k 2 eZ2 gv ps → sn[i]? = some x → n1 ≤ k.length → SlO k n1 1 eZ sv sn → Seen V ps u sn → Near ps sn x t →
    ∃ sv' sn' k', J37_0b0 C ⟨n1, n1⟩ gv s2 s6 sv ((Value.int .i64 ((i : Int)))) ((Value.int .i64 ((t : Int)))) k = (aBin Try.prog .add 3 ((Value.int .i64 ((i : Int)))) ((Value.int .i64 1)) fun v1 => some (.inl ((gv, s2, s6, sv', v1), k'))) ∧ SlO k' n1 1 eZ sv' sn' ∧ Seen V ps u sn' ∧ (∃ z, sn' = sn ++ z) ∧ Near ps sn' x ps.length ∧ n1 ≤ k'.length ∧ ∀ y, y < n1 → k'[y]? = k[y]? := by
  intro m
  induction m with
  | zero =>
    intro t k sv sn ht G hi hk SO X hN
    obtain rfl : t = ps.length := by omega
    have lenG := fun {α : Type} (kk : Value → Option α) => G.len kk
    refine ⟨sv, sn, k, ?_, SO, X, ⟨[], by simp⟩, hN, hk, fun _ _ => rfl⟩
    rw [J37_0b0_step]
    unfold Jr37_0b0
    simp only [go_sem, Nat.reduceAdd, Nat.reduceLeDiff, Nat.reduceMul, Int.reduceBEq, Int.reduceBNe, Int.reduceLT, Int.reduceLE, Int.reduceGT, lenG, aBin_lss, Int.lt_irrefl, Jk37_0b0]
  | succ m ih =>
    intro t k sv sn ht G hi hk SO X hN
    obtain ⟨e, he⟩ : ∃ e, ps[t]? = some e := ⟨ps[t]'(by omega), List.getElem?_eq_getElem (by omega)⟩
    obtain ⟨sv1, sn1, k1, e1, SO1, X1, ⟨z1, rfl⟩, N1, hk1, o1⟩ := join_k (s2 := s2) (s6 := s6) hR hn1 G hval hgv hps hi hk SO X he hN
    obtain ⟨sv2, sn2, k2, e2, SO2, X2, ⟨z2, rfl⟩, N2, hk2, o2⟩ := ih (t + 1) k1 sv1 (sn ++ z1) (by omega) (G.heap fun _ => o1 _ hgv) (by rw [List.getElem?_append_left (List.getElem?_eq_some_iff.1 hi).1]; exact hi) hk1 SO1 X1 N1
    exact ⟨sv2, _, k2, e1.trans e2, SO2, X2, ⟨z1 ++ z2, by simp⟩, N2, hk2, fun y hy => (o2 y hy).trans (o1 y hy)⟩
theorem join_lp {h0 : Heap} {s6 gv : Value} {n1 : Nat} (hR : Rt V S T) (hn1 : n1 = h0.length) (hval : ∀ (s : Nat) (e : Int × Int), Lk ps s e → (0 ≤ e.1 ∧ e.1 < V) ∧ (0 ≤ e.2 ∧ e.2 < V)) (hgv : slB gv < n1) (hps : ps.length < 20000) : ∀ (m i : Nat) (k : Heap) (sv : Value) (sn : List Int), i + m = 17 → i ≤ sn.length → Sl k 2 eZ2 gv ps → n1 ≤ k.length → SlO k n1 1 eZ sv sn → Seen V ps u sn → (∀ (j : Nat) (y : Int), j < i → sn[j]? = some y → Near ps sn y ps.length) →
    ∃ r : Bool, J37_0 C ⟨n1, n1⟩ h0 gv ((Value.int .i64 v)) s6 sv ((Value.int .i64 ((i : Int)))) k = some ((Value.bool r), h0) ∧ (r = true ↔ Conn ps u v) := by
  intro m
  induction m with
  | zero =>
    intro i k sv sn hi hle G hk SO X hd
    have := X.len hR
    omega
  | succ m ih =>
    intro i k sv sn hi hle G hk SO X hd
    have sl16 := X.len hR
    have lenS' := fun {α : Type} (kk : Value → Option α) => SO.sl.len kk
    have w1 : IntKind.wrap .i64 ((i : Int) + 1) = ((i + 1 : Nat) : Int) := by rw [wi (by omega) (by omega)]; rfl
    by_cases hlt : i < sn.length
    · have hlt' : (i : Int) < (sn.length : Int) := by omega
      have hy : sn[i]? = some (sn[i]'hlt) := List.getElem?_eq_getElem hlt
      generalize sn[i]'hlt = x at hy
      obtain ⟨sv1, sn1, k1, e1, SO1, X1, ⟨z1, rfl⟩, N1, hk1, o1⟩ := join_n (i := i) (x := x) (s2 := (Value.int .i64 v)) (s6 := s6) hR hn1 hval hgv hps ps.length 0 k sv sn (by omega) G hy hk SO X (fun s e h => by omega)
      obtain ⟨r, e2, hr⟩ := ih (i + 1) k1 sv1 (sn ++ z1) (by omega) (by simp; omega) (G.heap fun _ => o1 _ hgv) hk1 SO1 X1 (fun j y hj hjy => by
        by_cases e : j = i
        · subst e
          rw [List.getElem?_append_left hlt, hy] at hjy
          obtain rfl := Option.some.inj hjy
          exact N1
        · rw [List.getElem?_append_left (by omega)] at hjy
          intro s' e' hs' hl'
          obtain ⟨q1, q2⟩ := hd j y (by omega) hjy s' e' hs' hl'
          exact ⟨fun h => List.mem_append.2 (.inl (q1 h)), fun h => List.mem_append.2 (.inl (q2 h))⟩)
      refine ⟨r, ?_, hr⟩
      have z0 : (((0 : Nat) : Int)) = 0 := rfl
      rw [z0] at e1
      rw [J37_0_step]
      unfold Jr37_0
      simp only [go_sem, Nat.reduceAdd, Nat.reduceLeDiff, Nat.reduceMul, Int.reduceBEq, Int.reduceBNe, Int.reduceLT, Int.reduceLE, Int.reduceGT, lenS', aBin_lss, hlt', e1, aBin_add, w1]
      exact e2
    · obtain rfl : i = sn.length := by omega
      have hs1 := has_t (x := v) ⟨n1, n1⟩ SO.sl (by omega)
      refine ⟨decide (v ∈ sn), ?_, ?_⟩
      · rw [J37_0_step]
        unfold Jr37_0
        simp only [go_sem, Nat.reduceAdd, Nat.reduceLeDiff, Nat.reduceMul, Int.reduceBEq, Int.reduceBNe, Int.reduceLT, Int.reduceLE, Int.reduceGT, lenS', aBin_lss, Int.lt_irrefl, Jk37_0]
        unfold J37_1
        simp only [go_sem, Nat.reduceAdd, Nat.reduceLeDiff, Nat.reduceMul, Int.reduceBEq, Int.reduceBNe, Int.reduceLT, Int.reduceLE, Int.reduceGT, hs1]
      · rw [decide_eq_true_eq]
        refine ⟨fun h => (X.rng v h).2, fun h => ?_⟩
        exact X.closed (fun j y hj => hd j y (List.getElem?_eq_some_iff.1 hj).1 hj) h
theorem refJoined (hR : Rt V S T) (hval : ∀ (s : Nat) (e : Int × Int), Lk ps s e → (0 ≤ e.1 ∧ e.1 < V) ∧ (0 ≤ e.2 ∧ e.2 < V)) (G : Sl h 2 eZ2 gv ps) (hp : 0 < h.length) (hps : ps.length < 20000) (hu : 0 ≤ u ∧ u < V) (md : Md) : ∃ r : Bool, C md 37 [gv, (Value.int .i64 u), (Value.int .i64 v)] h = some ((Value.bool r), h) ∧ (r = true ↔ Conn ps u v) := by
  have hgv : slB gv < h.length := by
    rcases G.is with ⟨rfl, rfl⟩ | ⟨bb, oo, kk, rfl, hb, hc, hl⟩
    · exact hp
    · exact lt_of hb
  have hb1 : (h ++ [Blk.own [(Value.int .i64 u)]])[h.length]? = some (Blk.own [(Value.int .i64 u)]) := List.getElem?_concat_length ..
  have SO : SlO (h ++ [Blk.own [(Value.int .i64 u)]]) h.length 1 eZ ((Value.slice (some ⟨h.length, 0, none⟩) 1 1)) [u] := ⟨Sl.whole eZ_len hb1 rfl rfl, .inr ⟨Nat.le_refl _, _, hb1⟩⟩
  obtain ⟨r, e, hr⟩ := join_lp (v := v) (h0 := h) (n1 := h.length) (s6 := (Value.bool false)) hR rfl hval hgv hps 17 0 (h ++ [Blk.own [(Value.int .i64 u)]]) _ [u] rfl (by simp) G.app (by simp) SO (show Seen V ps u [u] from ⟨by simp, fun y hy => by rw [List.mem_singleton.1 hy]; exact ⟨hu, .refl⟩, by simp⟩) (fun j y hj => by omega)
  refine ⟨r, ?_, hr⟩
  rw [C, call_eq, F37_eq]
  unfold F37
  exact e
end Go.Det.E
/- The laws of 10: what each begins with. -/
namespace Go.Det.E
open Go.Proofs Go.Det Go.Det.U
attribute [local congr] bind_c cond_c
variable {md : Md} {h hh k h' : Heap} {V S T x v p f : Int} {D : List Int} {dv ov : Value} {ops : List OpT}
abbrev encT (o : OpT) : List Value := [(Value.int .i64 o.k), (Value.int .i64 o.lv), (Value.int .i64 o.sl), (Value.int .i64 o.u), (Value.int .i64 o.w)]
theorem encT_len (o : OpT) : (encT o).length = 5 := rfl
theorem ops10_of {h : Heap} {ess : List (List Value)} (a : TyE h [.i .i64, .i .i64, .i .i64, .i .i64, .i .i64] ess) : ∃ ops : List OpT, ess = ops.map encT := by
  induction ess with
  | nil => exact ⟨[], rfl⟩
  | cons es ess ih =>
    cases a with
    | cons _ _ _ b h2 =>
      obtain ⟨v1, r, rfl, a1, b⟩ := l_cons b
      obtain ⟨v2, r, rfl, a2, b⟩ := l_cons b
      obtain ⟨v3, r, rfl, a3, b⟩ := l_cons b
      obtain ⟨v4, r, rfl, a4, b⟩ := l_cons b
      obtain ⟨v6, r, rfl, a6, b⟩ := l_cons b
      obtain rfl := l_nil b
      obtain ⟨x1, rfl, _⟩ := inI64 a1
      obtain ⟨x2, rfl, _⟩ := inI64 a2
      obtain ⟨x3, rfl, _⟩ := inI64 a3
      obtain ⟨x4, rfl, _⟩ := inI64 a4
      obtain ⟨x6, rfl, _⟩ := inI64 a6
      obtain ⟨ops, e⟩ := ih h2
      exact ⟨⟨x1, x2, x3, x4, x6⟩ :: ops, by rw [e]; rfl⟩
theorem arg_case10 {h : Heap} {v : Value} (x : TyArg Try.prog h 66 v) : ∃ (V S T : Int) (dv ov : Value) (D : List Int) (ops : List OpT), v = (Value.agg #[(Value.int .i64 V), (Value.int .i64 S), (Value.int .i64 T), dv, ov]) ∧ Sl h 1 eU dv D ∧ Wd D ∧ Sl h 5 encT ov ops := by
  obtain ⟨acs, e, b⟩ := argN (P := Try.prog) (l := [.i .i64, .i .i64, .i .i64, .sl [.i .u64], .sl [.i .i64, .i .i64, .i .i64, .i .i64, .i .i64]]) (by kernel_rfl) (by kernel_rfl) x
  obtain ⟨v1, r, rfl, a1, b⟩ := l_cons b
  obtain ⟨v2, r, rfl, a2, b⟩ := l_cons b
  obtain ⟨v3, r, rfl, a3, b⟩ := l_cons b
  obtain ⟨v4, r, rfl, a4, b⟩ := l_cons b
  obtain ⟨v5, r, rfl, a5, b⟩ := l_cons b
  obtain rfl := l_nil b
  obtain ⟨V, rfl, _⟩ := inI64 a1
  obtain ⟨S, rfl, _⟩ := inI64 a2
  obtain ⟨T, rfl, _⟩ := inI64 a3
  have hD : ∃ D, Sl h 1 eU v4 D ∧ Wd D := by
    rcases inSl a4 with e | ⟨b, ess, e, hb', hl, he⟩
    · rw [e]; exact ⟨[], Sl.nil _ eU_len, fun _ h => by simp at h⟩
    · obtain ⟨vs, rfl, e2, hv⟩ := elems1 he
      have : ∃ ws : List Int, vs = ws.map (.int .u64) ∧ Wd ws := by
        clear e hb' hl he e2
        induction vs with
        | nil => exact ⟨[], rfl, fun _ h => by simp at h⟩
        | cons v vs ih =>
          obtain ⟨ws, e, w⟩ := ih fun u hu => hv u (List.mem_cons_of_mem _ hu)
          obtain ⟨n, rfl, n0, n1⟩ := inU64 (hv v List.mem_cons_self)
          refine ⟨n :: ws, by rw [e]; rfl, fun m hm => ?_⟩
          rcases List.mem_cons.1 hm with rfl | hm
          · exact ⟨n0, n1⟩
          · exact w m hm
      obtain ⟨ws, rfl, w⟩ := this
      refine ⟨ws, ?_, w⟩
      rw [e]
      refine Sl.whole eU_len hb' ?_ (by simp)
      show List.flatten _ = _
      rw [e2]
      clear hb' hl he e2 e hv w
      induction ws with
      | nil => rfl
      | cons x ws ih => rw [flat_cons, ← ih]; rfl
  obtain ⟨D, SD, wD⟩ := hD
  have hO : ∃ ops, Sl h 5 encT v5 ops := by
    rcases inSl a5 with e | ⟨b, ess, e, hb, _, he⟩
    · rw [e]; exact ⟨[], Sl.nil _ encT_len⟩
    · obtain ⟨ops, rfl⟩ := ops10_of he
      rw [e]
      exact ⟨ops, Sl.whole encT_len hb rfl (by simp)⟩
  obtain ⟨ops, SO⟩ := hO
  exact ⟨V, S, T, v4, v5, D, ops, e, SD, wD, SO⟩
theorem refright10 (md : Md) (h : Heap) (V S T : Int) : C md 50 [(Value.agg #[(Value.int .i64 V), (Value.int .i64 S), (Value.int .i64 T)])] h = some ((Value.bool (decide (Rt V S T))), h) := by
  rw [C, call_eq, F50_eq]
  unfold F50 Rt
  by_cases h1 : 1 ≤ V <;> (try by_cases h2 : V ≤ 16) <;> (try by_cases h3 : 0 ≤ S) <;> (try by_cases h4 : S ≤ 48) <;> (try by_cases h5 : 1 ≤ T) <;> (try by_cases h6 : T ≤ 8) <;>
    simp only [go_sem, Nat.reduceAdd, Nat.reduceLeDiff, Nat.reduceMul, Int.reduceBEq, Int.reduceBNe, Int.reduceLT, Int.reduceLE, Int.reduceGT, ge_iff_le, *, aBin_leq, aBin_geq, false_and, and_false, true_and, and_self]
theorem right10 (hro : md.ro ≤ h.length) (hlim : md.lim ≤ h.length) (SD : Sl h 1 eU dv D) (SO : Sl h 5 encT ov ops) :
    C md 31 [(Value.agg #[(Value.int .i64 V), (Value.int .i64 S), (Value.int .i64 T), dv, ov])] h = some ((Value.bool (decide (Rt V S T ∧ V ≤ 8 ∧ S ≤ 8 ∧ (D.length : Int) ≤ 60 ∧ (ops.length : Int) ≤ 60))), h) := by
  have ld := fun {α : Type} (k : Value → Option α) => SD.len k
  have lo := fun {α : Type} (k : Value → Option α) => SO.len k
  have h1 : md.ro ≤ h.length + 1 := by omega
  have h2 : md.lim ≤ h.length + 1 := by omega
  rw [C, call_eq, F31_eq]
  unfold F31
  by_cases c1 : Rt V S T
  · by_cases c2 : V ≤ 8
    · by_cases c3 : S ≤ 8
      · by_cases c4 : (D.length : Int) ≤ 60
        · by_cases c5 : (ops.length : Int) ≤ 60
          · have : decide (Rt V S T ∧ V ≤ 8 ∧ S ≤ 8 ∧ (D.length : Int) ≤ 60 ∧ (ops.length : Int) ≤ 60) = true := decide_eq_true ⟨c1, c2, c3, c4, c5⟩
            rw [this]
            simp only [go_sem, Nat.reduceAdd, Nat.reduceLeDiff, Nat.reduceMul, Int.reduceBEq, Int.reduceBNe, Int.reduceLT, Int.reduceLE, Int.reduceGT, refright10, c1, aBin_leq, c2, c3, ld, c4, lo, c5, h1, h2]
          · have : decide (Rt V S T ∧ V ≤ 8 ∧ S ≤ 8 ∧ (D.length : Int) ≤ 60 ∧ (ops.length : Int) ≤ 60) = false := decide_eq_false fun z => c5 z.2.2.2.2
            rw [this]
            simp only [go_sem, Nat.reduceAdd, Nat.reduceLeDiff, Nat.reduceMul, Int.reduceBEq, Int.reduceBNe, Int.reduceLT, Int.reduceLE, Int.reduceGT, refright10, c1, aBin_leq, c2, c3, ld, c4, lo, c5, h1, h2]
        · have : decide (Rt V S T ∧ V ≤ 8 ∧ S ≤ 8 ∧ (D.length : Int) ≤ 60 ∧ (ops.length : Int) ≤ 60) = false := decide_eq_false fun z => c4 z.2.2.2.1
          rw [this]
          simp only [go_sem, Nat.reduceAdd, Nat.reduceLeDiff, Nat.reduceMul, Int.reduceBEq, Int.reduceBNe, Int.reduceLT, Int.reduceLE, Int.reduceGT, refright10, c1, aBin_leq, c2, c3, ld, c4, h1, h2]
      · have : decide (Rt V S T ∧ V ≤ 8 ∧ S ≤ 8 ∧ (D.length : Int) ≤ 60 ∧ (ops.length : Int) ≤ 60) = false := decide_eq_false fun z => c3 z.2.2.1
        rw [this]
        simp only [go_sem, Nat.reduceAdd, Nat.reduceLeDiff, Nat.reduceMul, Int.reduceBEq, Int.reduceBNe, Int.reduceLT, Int.reduceLE, Int.reduceGT, refright10, c1, aBin_leq, c2, c3, h1, h2]
    · have : decide (Rt V S T ∧ V ≤ 8 ∧ S ≤ 8 ∧ (D.length : Int) ≤ 60 ∧ (ops.length : Int) ≤ 60) = false := decide_eq_false fun z => c2 z.2.1
      rw [this]
      simp only [go_sem, Nat.reduceAdd, Nat.reduceLeDiff, Nat.reduceMul, Int.reduceBEq, Int.reduceBNe, Int.reduceLT, Int.reduceLE, Int.reduceGT, refright10, c1, aBin_leq, c2, h1, h2]
  · have : decide (Rt V S T ∧ V ≤ 8 ∧ S ≤ 8 ∧ (D.length : Int) ≤ 60 ∧ (ops.length : Int) ≤ 60) = false := decide_eq_false fun z => c1 z.1
    rw [this]
    simp only [go_sem, Nat.reduceAdd, Nat.reduceLeDiff, Nat.reduceMul, Int.reduceBEq, Int.reduceBNe, Int.reduceLT, Int.reduceLE, Int.reduceGT, refright10, c1, h1, h2]
end Go.Det.E

/- The laws of 10: is the machine awake. -/
namespace Go.Det.E
open Go.Proofs Go.Det Go.Det.U
attribute [local congr] bind_c cond_c
theorem take_same10 {h k : Heap} (hl : h.length ≤ k.length) (o : ∀ y, y < h.length → k[y]? = h[y]?) : k.take h.length = h := by
  refine List.ext_getElem? fun y => ?_
  by_cases hy : y < h.length
  · rw [List.getElem?_take_of_lt hy, o y hy]
  · rw [List.getElem?_eq_none (by rw [List.length_take]; omega), List.getElem?_eq_none (by omega)]
set_option maxHeartbeats 4000000 in
set_option maxRecDepth 100000 in
theorem awake10 (n : Nat) (h : Heap) (hp : 0 < h.length) : C ⟨0, n⟩ 32 [] h = some ((Value.bool true), h) := by
  have hR : Rt 2 1 1 := by unfold Rt; omega
  obtain ⟨k1, q, a, b, l0, s1, RW, LK, lvs, lks, rvss, e1, H1, W, l1, o1⟩ := begun10 (V := 2) (S := 1) (T := 1) (n := h.length) (dv := .slice none 0 0) (ov := .slice none 0 0) (D := []) hR hp (Nat.le_refl _) (Sl.nil h eU_len) (fun _ h => by simp at h)
  have lo := H1.lo
  have hrs : (rss0 2)[0]? = some [[1], [2]] := by decide
  have hps : (pss0 2 1)[0]? = some [(-1, -1)] := by decide
  have nl : ∀ e, ¬ Lk [((-1 : Int), (-1 : Int))] 0 e := fun e h => by
    have := h.1
    simp at this
    have h2 := h.2
    rw [← this] at h2
    exact absurd h2 (by decide)
  have r1 : HR 2 (prO 2 1 1 l0) s1 [1] := W.hr 0 _ hrs [1] (by simp)
  have r2 : HR 2 (prO 2 1 1 l0) s1 [2] := W.hr 0 _ hrs [2] (by simp)
  have a50 : Ax 2 1 0 0 0 = 5 := by decide
  have a60 : Ax 2 1 0 0 1 = 6 := by decide
  have r5 : HR 2 (prO 2 1 1 l0) s1 [Ax 2 1 0 0 0] := W.al 0 _ hps 0 (by decide) nl 0 (.inl rfl)
  have r6 : HR 2 (prO 2 1 1 l0) s1 [Ax 2 1 0 0 1] := W.al 0 _ hps 0 (by decide) nl 1 (.inr rfl)
  have nx : ∀ y ∈ [(1 : Int), 5, 2, 6], Nix 2 1 y := by decide
  have nd : [(1 : Int), 5, 2, 6].Nodup := by decide
  have T1 := p6 H1.hq
  obtain ⟨s2, k2, f2, A2, o2, I2, so2⟩ := rLink (n := h.length) (lv := 0) (sl := 0) (u := 0) (w := 1) (A := [1]) (B := [2]) (i := 0) (j := 0) hR H1.th r1 r2 r5 r6 (by decide) (by decide) (by decide) (by decide)
  have er : linkR [1] [2] 0 0 (Ax 2 1 0 0 0) (Ax 2 1 0 0 1) = [1, 5, 2, 6] := by decide
  rw [er] at f2 I2
  have H2 := H1.only A2 fun y _ h1 h2 => o2.oth y h1 h2
  have T2 := p6 H2.hq
  obtain ⟨v, k3, f3, S3, A3, l3, o3⟩ := rList (n := h.length) hR A2 I2 nd nx
  have H3 := H2.only A3 o3
  have T3 := p6 H3.hq
  have i1 : Vx 2 0 0 ∈ [(1 : Int), 5, 2, 6] := by decide
  have i2 : Vx 2 0 1 ∈ [(1 : Int), 5, 2, 6] := by decide
  have i5 : Ax 2 1 0 0 0 ∈ [(1 : Int), 5, 2, 6] := by decide
  have i6 : Ax 2 1 0 0 1 ∈ [(1 : Int), 5, 2, 6] := by decide
  obtain ⟨k4, f4, A4, o4⟩ := rSame (n := h.length) (lv := 0) (u := 0) (w := 1) hR A3 I2 I2 nx nx i1 i2
  rw [beq_self_eq_true] at f4
  have H4 := H3.only A4 fun y _ h1 h2 => o4.oth y h1 h2
  have T4 := p6 H4.hq
  obtain ⟨k5, f5, A5, o5⟩ := rCount (n := h.length) (lv := 0) (u := 1) hR A4 I2 nd nx i2
  have c2 : (([(1 : Int), 5, 2, 6].filter (vxB 2)).length : Int) = 2 := by decide
  rw [c2] at f5
  have H5 := H4.only A5 fun y _ h1 h2 => o5.oth y h1 h2
  have T5 := p6 H5.hq
  obtain ⟨k6, f6, A6, o6⟩ := rLinked (n := h.length) (lv := 0) (sl := 0) hR A5 I2 I2 nx nx i5 i6
  rw [beq_self_eq_true] at f6
  have H6 := H5.only A6 fun y _ h1 h2 => o6.oth y h1 h2
  have T6 := p6 H6.hq
  obtain ⟨s7, k7, f7, A7, o7, I7, I7', I50, I60, so7⟩ := rCut (n := h.length) (lv := 0) (sl := 0) (P := [1]) (I := [2]) (Q := []) (c := 5) (d := 6) (r := [1, 5, 2, 6]) hR A6 (.inl ⟨a50.symm, a60.symm⟩) rfl I2 nd nx
  have H7 := H6.only A7 fun y _ h1 h2 => o7.oth y h1 h2
  have T7 := p6 H7.hq
  have nx1 : ∀ y ∈ [(1 : Int)], Nix 2 1 y := by decide
  have nx2 : ∀ y ∈ [(2 : Int)], Nix 2 1 y := by decide
  have e1q : ([1] : List Int) ++ [] = [1] := rfl
  rw [e1q] at f7 I7'
  obtain ⟨k8, f8, A8, o8⟩ := rSame (n := h.length) (lv := 0) (u := 0) (w := 1) (r1 := [1]) (r2 := [2]) hR A7 I7' I7 nx1 nx2 (by decide) (by decide)
  have b12 : ((1 : Int) == 2) = false := rfl
  rw [RT_one, RT_one, b12] at f8
  have H8 := H7.only A8 fun y _ h1 h2 => o8.oth y h1 h2
  have T8 := p6 H8.hq
  have nx5 : ∀ y ∈ [Ax 2 1 0 0 0], Nix 2 1 y := by decide
  have nx6 : ∀ y ∈ [Ax 2 1 0 0 1], Nix 2 1 y := by decide
  obtain ⟨k9, f9, A9, o9⟩ := rLinked (n := h.length) (lv := 0) (sl := 0) hR A8 I50 I60 nx5 nx6 (by simp) (by simp)
  have b56 : (Ax 2 1 0 0 0 == Ax 2 1 0 0 1) = false := by decide
  rw [RT_one, RT_one, b56] at f9
  have H9 := H8.only A9 fun y _ h1 h2 => o9.oth y h1 h2
  have T9 := p6 H9.hq
  obtain ⟨kA, fA, AA, oA⟩ := rCount (n := h.length) (lv := 0) (u := 0) (r := [1]) hR A9 I7' (by decide) nx1 (by decide)
  have c1 : (([(1 : Int)].filter (vxB 2)).length : Int) = 1 := by decide
  rw [c1] at fA
  have uP : Try.prog.underlying 68 = some (.pointer 78) := by kernel_rfl
  have len := fun {α : Type} (kk : Value → Option α) => S3.sl.len kk
  have ln4 : (([(1 : Int), 5, 2, 6].length : Nat) : Int) = 4 := rfl
  rw [ln4] at len
  have la := H2.th.la
  have bv : k2.length ≤ slB v ∧ slB v < k3.length := by
    rcases S3.own with e | ⟨q1, cs, q2⟩
    · subst e
      have := S3.nil_of
      simp at this
    · exact ⟨q1, lt_of q2⟩
  have X7 : Sl k7 1 eZ v [1, 5, 2, 6] := S3.sl.heap fun _ => by
    rw [o7.oth _ (by omega) (by omega), o6.oth _ (by omega) (by omega), o5.oth _ (by omega) (by omega), o4.oth _ (by omega) (by omega)]
  obtain ⟨ix0, rx0⟩ := Sl.getI X7 (k := 0) (x := 1) rfl
  obtain ⟨ix2, rx2⟩ := Sl.getI X7 (k := 2) (x := 2) rfl
  have z0 : (((0 : Nat) : Int)) = 0 := rfl
  have z2 : (((2 : Nat) : Int)) = 2 := rfl
  rw [z0] at ix0
  rw [z2] at ix2
  simp only [Nat.add_zero] at ix0 rx0
  have l2 := o2.len
  have l4 := o4.len
  have l5 := o5.len
  have l6 := o6.len
  have l7 := o7.len
  have l8 := o8.len
  have l9 := o9.len
  have lA := oA.len
  have tk : kA.take h.length = h := take_same10 (by omega) fun y hy => by
    rw [oA.oth _ (by omega) (by omega), o9.oth _ (by omega) (by omega), o8.oth _ (by omega) (by omega), o7.oth _ (by omega) (by omega), o6.oth _ (by omega) (by omega), o5.oth _ (by omega) (by omega), o4.oth _ (by omega) (by omega), o3 _ (by omega) (by omega) (by omega), o2.oth _ (by omega) (by omega), o1 y hy]
  rw [C, call_eq, F32_eq]
  unfold F32
  simp only [go_sem, Nat.reduceAdd, Nat.reduceLeDiff, Nat.reduceMul, Int.reduceBEq, Int.reduceBNe, Int.reduceLT, Int.reduceLE, Int.reduceGT, e1, aBin_eqlP uP, okNil, okP_p, T1, f2, T2, f3, T3, cLE_t, f4, T4, f5, T5, f6, T6, f7, len, aBin_eql, ix0, rx0, ix2, rx2, T7, f8, T8, f9, T9, fA, tk, aUn_not]
end Go.Det.E

/- TourRows. -/
namespace Go.Det.E
open Go.Proofs Go.Det Go.Det.U
attribute [local congr] bind_c cond_c
variable {h hh hb k h' : Heap} {a b q n n0 n1 c cb lb tb eb : Nat} {V S T x y p f u w sl K LV SL U W c1 d1 : Int} {D l : List Int} {l0 : Int → Int} {pr : Int → Int} {s s' : NS} {r A B xs P I Q : List Int} {dv ov rv av bv RW LK lv lvv lk X iv wv : Value} {i j m sn N ir : Nat} {rs rs' : List (List Int)} {ps ps' : List (Int × Int)} {rss rss' : List (List (List Int))} {pss pss' : List (List (Int × Int))} {rvs lvs lks : List Value} {rvss : List (List Value)} {cs : List Value} {e : Int × Int} {ops : List OpT}
theorem rows10_loop (hR : Rt V S T) {p1 : Value} (lhb : h.length ≤ hb.length) (SO : Sl hb 5 encT ov ops) (hl : ops.length ≤ 60) : ∀ (m i : Nat) (k : Heap) (c : Nat) (s : NS) (lvs : List Value) (rvss : List (List Value)) (rss : List (List (List Int))) (pss : List (List (Int × Int))), i + m = ops.length → c + 2 * m ≤ 1000 → H10 V S T l0 a b q hb.length RW LK lvs lks rvss s rss pss k → PW V S (prO V S T l0) c s rss pss → hb.length ≤ k.length → (∀ y, y < hb.length → k[y]? = hb[y]?) →
    ∃ c' s' lvs' rvss' rss' pss' k', J10_0 C ⟨0, h.length⟩ h p1 ((Value.bool false)) ((Value.pointer (some ⟨q, 0, none⟩))) ov ((Value.int .i64 ((ops.length : Int)))) ((Value.int .i64 ((i : Int)))) k = J10_1 C ⟨0, h.length⟩ h p1 ((Value.bool false)) ((Value.pointer (some ⟨q, 0, none⟩))) k' ∧ c' ≤ 1000 ∧ H10 V S T l0 a b q hb.length RW LK lvs' lks rvss' s' rss' pss' k' ∧ PW V S (prO V S T l0) c' s' rss' pss' ∧ hb.length ≤ k'.length ∧ ∀ y, y < hb.length → k'[y]? = hb[y]? := by
  intro m
  induction m with
  | zero =>
    intro i k c s lvs rvss rss pss hi hc H W hlk ok
    obtain rfl : i = ops.length := by omega
    refine ⟨c, s, lvs, rvss, rss, pss, k, ?_, by omega, H, W, hlk, ok⟩
    rw [J10_0_step]
    unfold Jr10_0
    simp only [go_sem, Nat.reduceAdd, Nat.reduceLeDiff, Nat.reduceMul, Int.reduceBEq, Int.reduceBNe, Int.reduceLT, Int.reduceLE, Int.reduceGT, aBin_lss, Int.lt_irrefl, Jk10_0]
  | succ m ih =>
    intro i k c s lvs rvss rss pss hi hc H W hlk ok
    have hlt : (i : Int) < (ops.length : Int) := by omega
    have w : IntKind.wrap .i64 ((i : Int) + 1) = ((i + 1 : Nat) : Int) := by rw [wi (by omega) (by omega)]; rfl
    obtain ⟨o, ho⟩ : ∃ o, ops[i]? = some o := ⟨ops[i]'(by omega), List.getElem?_eq_getElem (by omega)⟩
    have S1 : Sl k 5 encT ov ops := SO.heap fun hl => ok _ hl
    have ix := fun {α : Type} (kk : Value → Option α) => S1.ix (i := (i : Int)) (by omega) hlt kk
    have el := S1.elem ho
    simp only [Int.toNat_natCast] at ix
    have st5 := fun (kk : Heap → Option (((Value × Value × Value × Value × Value × Value) × Heap) ⊕ (Exit × (Value × Value × Value × Value × Value × Value) × Heap))) => st_N ⟨0, h.length⟩ 5 k.length 0 (encT o) (k ++ [Blk.own [(Value.int .i64 0), (Value.int .i64 0), (Value.int .i64 0), (Value.int .i64 0), (Value.int .i64 0)]]) kk rfl rfl
    have w5 : wrN ⟨0, h.length⟩ (k ++ [Blk.own [(Value.int .i64 0), (Value.int .i64 0), (Value.int .i64 0), (Value.int .i64 0), (Value.int .i64 0)]]) k.length 0 (encT o) = some (k ++ [Blk.own (encT o)]) := wrN_new0 (bs := []) (Nat.zero_le _) (by show h.length ≤ _; omega) (by simp)
    have r5 : rdN (k ++ [Blk.own (encT o)]) k.length 0 5 = some (encT o) := by rw [rdN_new0]; rfl
    have H1 := H.old (h' := k ++ [Blk.own (encT o)]) fun y hy => List.getElem?_append_left hy
    have l1 : (k ++ [Blk.own (encT o)]).length = k.length + 1 := by simp
    have o1 : ∀ y, y < k.length → (k ++ [Blk.own (encT o)])[y]? = k[y]? := fun y hy => List.getElem?_append_left hy
    obtain ⟨lvs2, rvss2, s2, rss2, pss2, k2, e2, H2, W2, l2, o2⟩ := step10 (n := h.length) hR H1 W (by omega) (by omega) o.k o.lv o.sl o.u o.w
    obtain ⟨c3, s3, lvs3, rvss3, rss3, pss3, k3, eg, z⟩ := ih (i + 1) k2 (c + 2) s2 lvs2 rvss2 rss2 pss2 (by omega) (by omega) H2 W2 (by omega) (fun y hy => by rw [o2 y hy, o1 y (by omega), ok y hy])
    refine ⟨c3, s3, lvs3, rvss3, rss3, pss3, k3, ?_, z⟩
    rw [J10_0_step]
    unfold Jr10_0
    simp only [go_sem, Nat.reduceAdd, Nat.reduceLeDiff, Nat.reduceMul, Int.reduceBEq, Int.reduceBNe, Int.reduceLT, Int.reduceLE, Int.reduceGT, aBin_lss, hlt, ixSV_p, ix, el, st5, w5, r5, e2, aBin_add, w]
    exact eg
theorem vx_of2 {v : Int} (hR : Rt V S T) (hi : (i : Int) < Lv V) (hv : 0 ≤ v ∧ v < V) : Vx V i v - 1 < Lv V * V := by
  rw [Vx_eq hi hv]
  have := Int.mul_le_mul_of_nonneg_right (show (i : Int) + 1 ≤ Lv V by omega) (show 0 ≤ V by omega)
  rw [Int.add_mul] at this
  omega
theorem ax_of2 {d : Int} {sn : Nat} (hR : Rt V S T) (hi : (i : Int) < Lv V) (hs : (sn : Int) < S) (hd : d = 0 ∨ d = 1) : ¬ Ax V S sn i d - 1 < Lv V * V := by
  rw [Ax_eq hi hs hd]
  have l := Lv_le hR
  have := Int.mul_nonneg (show 0 ≤ (sn : Int) by omega) (show 0 ≤ 2 * Lv V by omega)
  omega
theorem node_vx {v : Int} (hR : Rt V S T) (hi : (i : Int) < Lv V) (hv : 0 ≤ v ∧ v < V) : ∃ a : Int, ∀ (md : Md) (h : Heap), C md 42 [(Value.agg #[(Value.int .i64 V), (Value.int .i64 S), (Value.int .i64 T)]), (Value.int .i64 (Vx V i v))] h = some ((Value.tuple #[(Value.agg (List.toArray (thC false a v 0 0))), (Value.bool true)]), h) := by
  have nx := NL_nix hR hi (.inl ⟨v, hv, rfl⟩)
  have cn := Cn_le hR
  have e := Int.mul_ediv_add_emod (Vx V i v - 1) V
  have m0 := Int.emod_nonneg (Vx V i v - 1) (show V ≠ 0 by omega)
  have m1 := Int.emod_lt_of_pos (Vx V i v - 1) (show 0 < V by omega)
  have hv2 : (Vx V i v - 1) % V = v := by
    have q := Vx_eq hi hv
    have e2 : (Vx V i v - 1) / V * V + (Vx V i v - 1) % V = (i : Int) * V + v := by rw [Int.mul_comm]; omega
    exact (muladd e2 ⟨m0, m1⟩ hv).2
  refine ⟨(Vx V i v - 1) / V, fun md h => ?_⟩
  rw [node_s md h hR (by unfold I64; have := nx.1; have := nx.2; omega)]
  unfold thing thAt
  rw [Bl_t.2 ⟨by have := nx.1; omega, by have := nx.2; omega⟩, if_pos (vx_of2 hR hi hv), hv2]
  rfl
theorem node_ax {d : Int} {sn : Nat} (hR : Rt V S T) (hi : (i : Int) < Lv V) (hs : (sn : Int) < S) (hd : d = 0 ∨ d = 1) : ∃ a b c : Int, ∀ (md : Md) (h : Heap), C md 42 [(Value.agg #[(Value.int .i64 V), (Value.int .i64 S), (Value.int .i64 T)]), (Value.int .i64 (Ax V S sn i d))] h = some ((Value.tuple #[(Value.agg (List.toArray (thC true a 0 b c))), (Value.bool true)]), h) := by
  have nx := NL_nix hR hi (.inr ⟨sn, d, hs, hd, rfl⟩)
  have cn := Cn_le hR
  refine ⟨(Ax V S sn i d - 1 - Lv V * V) % (2 * Lv V) / 2, (Ax V S sn i d - 1 - Lv V * V) / (2 * Lv V), (Ax V S sn i d - 1 - Lv V * V) % 2, fun md h => ?_⟩
  rw [node_s md h hR (by unfold I64; have := nx.1; have := nx.2; omega)]
  unfold thing thAt
  rw [Bl_t.2 ⟨by have := nx.1; omega, by have := nx.2; omega⟩, if_neg (ax_of2 hR hi hs hd)]
  rfl
/-- The side that is found. -/
def sdv (V : Int) (sd : Int) (I : List Int) (j : Nat) : Int := if (I.take j).any (fun y => decide (y - 1 < Lv V * V)) = true then sd else -1
theorem sdv_succ {sd : Int} {y : Int} (hy : I[j]? = some y) : sdv V sd I (j + 1) = if y - 1 < Lv V * V then sd else sdv V sd I j := by
  unfold sdv
  rw [List.take_add_one, hy, List.any_append]
  by_cases h : y - 1 < Lv V * V
  · simp [h]
  · simp [h]
theorem sdv_is (V sd : Int) (I : List Int) (j : Nat) : sdv V sd I j = -1 ∨ sdv V sd I j = sd := by
  unfold sdv
  split
  · exact .inr rfl
  · exact .inl rfl
/-- Between a slot's arcs, node by node. -/
theorem turn_v {s2 s6 s7 s43 s44 s45 s50 s51 s52 : Value} {sd : Int} (hR : Rt V S T) (hi : (i : Int) < Lv V) (hn : n ≤ eb) (hc : h.length < eb) (hI : ∀ y ∈ I, (∃ v : Int, (0 ≤ v ∧ v < V) ∧ y = Vx V i v) ∨ ∃ (s : Nat) (d : Int), (s : Int) < S ∧ (d = 0 ∨ d = 1) ∧ y = Ax V S s i d) (hsd : sd = 0 ∨ sd = 1) (hval : ∀ (s : Nat) (e : Int × Int), Lk ps s e → (0 ≤ e.1 ∧ e.1 < V) ∧ (0 ≤ e.2 ∧ e.2 < V)) (hpl : ps.length < 20000) (hjn : ∀ v : Int, 0 ≤ v ∧ v < V → Vx V i v ∈ I → ((Conn ps v e.2 ↔ sd = 1) ∧ Conn ps v (if sd = 1 then e.2 else e.1))) (hil : I.length < 20000) : ∀ (m j : Nat) (g : Heap), j + m = I.length → Sl g 1 eZ iv I → Sl g 2 eZ2 wv ps → g[eb]? = some (.own [(Value.int .i64 e.1), (Value.int .i64 e.2)]) → g[h.length]? = some (.own [(Value.int .i64 V), (Value.int .i64 S), (Value.int .i64 T), dv, ov]) →
    ∃ g', J10_2b0b0 C ⟨0, n⟩ ((Value.pointer (some ⟨h.length, 0, none⟩))) s2 ((Value.pointer (some ⟨q, 0, none⟩))) s6 s7 ((Value.pointer (some ⟨eb, 0, none⟩))) wv ((Value.int .i64 (sdv V sd I j))) s43 s44 s45 s50 s51 s52 iv ((Value.int .i64 ((I.length : Int)))) ((Value.int .i64 ((j : Int)))) g = J10_2b0b1 C ⟨0, n⟩ ((Value.pointer (some ⟨h.length, 0, none⟩))) s2 ((Value.pointer (some ⟨q, 0, none⟩))) s6 s7 ((Value.int .i64 (sdv V sd I I.length))) s43 s44 s45 s50 s51 s52 g' ∧ g.length ≤ g'.length ∧ ∀ y, y < g.length → g'[y]? = g[y]? := by
  intro m
  induction m with
  | zero =>
    intro j g hj X G he hcs
    obtain rfl : j = I.length := by omega
    refine ⟨g, ?_, Nat.le_refl _, fun _ _ => rfl⟩
    rw [J10_2b0b0_step]
    unfold Jr10_2b0b0
    simp only [go_sem, Nat.reduceAdd, Nat.reduceLeDiff, Nat.reduceMul, Int.reduceBEq, Int.reduceBNe, Int.reduceLT, Int.reduceLE, Int.reduceGT, aBin_lss, Int.lt_irrefl, Jk10_2b0b0]
  | succ m ih =>
    intro j g hj X G he hcs
    have leb := lt_of he
    have lcs := lt_of hcs
    have hlt : (j : Int) < (I.length : Int) := by omega
    have w1 : IntKind.wrap .i64 ((j : Int) + 1) = ((j + 1 : Nat) : Int) := by rw [wi (by omega) (by omega)]; rfl
    have hy : I[j]? = some (I[j]'(by omega)) := List.getElem?_eq_getElem (by omega)
    generalize I[j]'(by omega) = y at hy
    have hym := List.mem_of_getElem? hy
    obtain ⟨ix, rx⟩ := Sl.getI X hy
    have rl : rdN g h.length 0 3 = some [(Value.int .i64 V), (Value.int .i64 S), (Value.int .i64 T)] := by rw [rdN_at hcs (by show 3 ≤ 5; omega)]; rfl
    have ss := sdv_succ (V := V) (sd := sd) hy
    -- the node's block
    have blk : ∀ (arc : Bool) (a v b c : Int), ∃ g1, wrN ⟨0, n⟩ (g ++ [Blk.own [(Value.bool false), (Value.int .i64 0), (Value.int .i64 0), (Value.int .i64 0), (Value.int .i64 0)]]) g.length 0 (thC arc a v b c) = some g1 ∧ g1.length = g.length + 1 ∧ (∀ y, y < g.length → g1[y]? = g[y]?) ∧ rd g1 g.length 0 = some ((Value.bool arc)) ∧ rd g1 g.length 2 = some ((Value.int .i64 v)) := fun arc a v b c => by
      have w5 := wrN_new0 (md := ⟨0, n⟩) (h := g) (bs := []) (i := 0) (cs := [(Value.bool false), (Value.int .i64 0), (Value.int .i64 0), (Value.int .i64 0), (Value.int .i64 0)]) (vs := thC arc a v b c) (Nat.zero_le _) (by show n ≤ _; omega) (Nat.le_refl 5)
      have eL : lay [(Value.bool false), (Value.int .i64 0), (Value.int .i64 0), (Value.int .i64 0), (Value.int .i64 0)] 0 (thC arc a v b c) = thC arc a v b c := rfl
      rw [eL] at w5
      have hbk : (g ++ [Blk.own (thC arc a v b c)])[g.length]? = some (Blk.own (thC arc a v b c)) := List.getElem?_concat_length ..
      exact ⟨_, w5, by simp, fun y hy => List.getElem?_append_left hy, by rw [rd_at hbk]; rfl, by rw [rd_at hbk]; rfl⟩
    rcases hI y hym with ⟨v, hv, rfl⟩ | ⟨s', d', hs', hd', rfl⟩
    · obtain ⟨av, nd⟩ := node_vx (S := S) hR hi hv
      rw [if_pos (vx_of2 hR hi hv)] at ss
      obtain ⟨hj2, hjs⟩ := hjn v hv hym
      obtain ⟨g1, w5, l1, o1, ra, rv2⟩ := blk false av v 0 0
      have st5 := fun (hq : Heap) (k' : Heap → Option (((Value × Value × Value × Value × Value × Value × Value × Value × Value × Value × Value × Value × Value × Value × Value × Value × Value) × Heap) ⊕ (Exit × (Value × Value × Value × Value × Value × Value × Value × Value × Value × Value × Value × Value × Value × Value × Value × Value × Value) × Heap))) => st_N ⟨0, n⟩ 5 g.length 0 (thC false av v 0 0) hq k' rfl rfl
      have X1 : Sl g1 1 eZ iv I := X.heap fun hl => o1 _ hl
      have G1 : Sl g1 2 eZ2 wv ps := G.heap fun hl => o1 _ hl
      have he1 : g1[eb]? = some (.own [(Value.int .i64 e.1), (Value.int .i64 e.2)]) := (o1 _ leb).trans he
      have hc1 := (o1 _ lcs).trans hcs
      have r0 : rd g1 eb 0 = some ((Value.int .i64 e.1)) := by rw [rd_at he1]; rfl
      have r1 : rd g1 eb 1 = some ((Value.int .i64 e.2)) := by rw [rd_at he1]; rfl
      have ia1 := fun {α : Type} (kk : Value → Option α) => ixA_p 1 eb 0 2 1 kk (by omega)
      simp only [show (1 : Int).toNat = 1 from rfl, Nat.one_mul, Nat.zero_add] at ia1
      obtain ⟨rb, ej, hrb⟩ := refJoined (v := e.2) hR hval G1 (by omega) hpl hv ⟨0, n⟩
      -- the side is known now
      have rest : ∃ g', J10_2b0b0b0 C ⟨0, n⟩ ((Value.pointer (some ⟨h.length, 0, none⟩))) s2 ((Value.pointer (some ⟨q, 0, none⟩))) s6 s7 ((Value.pointer (some ⟨eb, 0, none⟩))) wv ((Value.int .i64 sd)) ((Value.pointer (some ⟨g.length, 0, none⟩))) s43 s44 s45 s50 s51 s52 iv ((Value.int .i64 ((I.length : Int)))) ((Value.int .i64 ((j : Int)))) g1 = some (.inl (((Value.pointer (some ⟨h.length, 0, none⟩)), s2, (Value.pointer (some ⟨q, 0, none⟩)), s6, s7, (Value.pointer (some ⟨eb, 0, none⟩)), wv, (Value.int .i64 sd), s43, s44, s45, s50, s51, s52, iv, (Value.int .i64 ((I.length : Int))), (Value.int .i64 (((j + 1 : Nat) : Int)))), g1)) ∧ J10_2b0b0 C ⟨0, n⟩ ((Value.pointer (some ⟨h.length, 0, none⟩))) s2 ((Value.pointer (some ⟨q, 0, none⟩))) s6 s7 ((Value.pointer (some ⟨eb, 0, none⟩))) wv ((Value.int .i64 sd)) s43 s44 s45 s50 s51 s52 iv ((Value.int .i64 ((I.length : Int)))) ((Value.int .i64 (((j + 1 : Nat) : Int)))) g1 = J10_2b0b1 C ⟨0, n⟩ ((Value.pointer (some ⟨h.length, 0, none⟩))) s2 ((Value.pointer (some ⟨q, 0, none⟩))) s6 s7 ((Value.int .i64 (sdv V sd I I.length))) s43 s44 s45 s50 s51 s52 g' ∧ g.length ≤ g'.length ∧ ∀ y, y < g.length → g'[y]? = g[y]? := by
        obtain ⟨g', e', l', o'⟩ := ih (j + 1) g1 (by omega) X1 G1 he1 hc1
        rw [ss] at e'
        refine ⟨g', ?_, e', by omega, fun y hy => (o' y (by omega)).trans (o1 y hy)⟩
        unfold J10_2b0b0b0
        rcases hsd with rfl | rfl
        · rw [if_neg (by decide)] at hjs
          obtain ⟨rb2, ej2, hrb2⟩ := refJoined (v := e.1) hR hval G1 (by omega) hpl hv ⟨0, n⟩
          rw [hrb2.2 hjs] at ej2
          have ia0 := fun {α : Type} (kk : Value → Option α) => ixA_p 1 eb 0 2 0 kk (by omega)
          simp only [show (0 : Int).toNat = 0 from rfl, Nat.zero_mul, Nat.zero_add] at ia0
          simp only [go_sem, Nat.reduceAdd, Nat.reduceLeDiff, Nat.reduceMul, Int.reduceBEq, Int.reduceBNe, Int.reduceLT, Int.reduceLE, Int.reduceGT, rv2, ixAV_p, ia0, r0, ej2, aBin_add, w1]
        · rw [if_pos rfl] at hjs
          have ej2 := ej
          rw [hrb.2 hjs] at ej2
          simp only [go_sem, Nat.reduceAdd, Nat.reduceLeDiff, Nat.reduceMul, Int.reduceBEq, Int.reduceBNe, Int.reduceLT, Int.reduceLE, Int.reduceGT, rv2, ixAV_p, ia1, r1, ej2, aBin_add, w1]
      obtain ⟨g', er, e', l', o'⟩ := rest
      refine ⟨g', ?_, l', o'⟩
      rw [J10_2b0b0_step]
      unfold Jr10_2b0b0
      rcases sdv_is V sd I j with hsj | hsj
      · rw [hsj]
        have neg : (-1 : Int) < 0 := by decide
        rcases hsd with rfl | rfl
        · have br : rb = false := by
            cases hb : rb
            · rfl
            · exact absurd (hj2.1 (hrb.1 hb)) (by decide)
          rw [br] at ej
          simp only [go_sem, Nat.reduceAdd, Nat.reduceLeDiff, Nat.reduceMul, Int.reduceBEq, Int.reduceBNe, Int.reduceLT, Int.reduceLE, Int.reduceGT, aBin_lss, hlt, ixSV_p, ix, rx, rl, nd, st5, w5, ra, neg, rv2, ia1, r1, ej, er]
          exact e'
        · have br : rb = true := hrb.2 (hj2.2 rfl)
          rw [br] at ej
          simp only [go_sem, Nat.reduceAdd, Nat.reduceLeDiff, Nat.reduceMul, Int.reduceBEq, Int.reduceBNe, Int.reduceLT, Int.reduceLE, Int.reduceGT, aBin_lss, hlt, ixSV_p, ix, rx, rl, nd, st5, w5, ra, neg, rv2, ia1, r1, ej, er]
          exact e'
      · rw [hsj]
        have nneg : ¬ (sd < 0) := by omega
        simp only [go_sem, Nat.reduceAdd, Nat.reduceLeDiff, Nat.reduceMul, Int.reduceBEq, Int.reduceBNe, Int.reduceLT, Int.reduceLE, Int.reduceGT, aBin_lss, hlt, ixSV_p, ix, rx, rl, nd, st5, w5, ra, nneg, er]
        exact e'
    · obtain ⟨na, nb, nc, nd⟩ := node_ax hR hi hs' hd'
      rw [if_neg (ax_of2 hR hi hs' hd')] at ss
      obtain ⟨g1, w5, l1, o1, ra, rv2⟩ := blk true na 0 nb nc
      have st5 := fun (hq : Heap) (k' : Heap → Option (((Value × Value × Value × Value × Value × Value × Value × Value × Value × Value × Value × Value × Value × Value × Value × Value × Value) × Heap) ⊕ (Exit × (Value × Value × Value × Value × Value × Value × Value × Value × Value × Value × Value × Value × Value × Value × Value × Value × Value) × Heap))) => st_N ⟨0, n⟩ 5 g.length 0 (thC true na 0 nb nc) hq k' rfl rfl
      obtain ⟨g', e', l', o'⟩ := ih (j + 1) g1 (by omega) (X.heap fun hl => o1 _ hl) (G.heap fun hl => o1 _ hl) ((o1 _ leb).trans he) ((o1 _ lcs).trans hcs)
      rw [ss] at e'
      refine ⟨g', ?_, by omega, fun y hy => (o' y (by omega)).trans (o1 y hy)⟩
      rw [J10_2b0b0_step]
      unfold Jr10_2b0b0
      simp only [go_sem, Nat.reduceAdd, Nat.reduceLeDiff, Nat.reduceMul, Int.reduceBEq, Int.reduceBNe, Int.reduceLT, Int.reduceLE, Int.reduceGT, aBin_lss, hlt, ixSV_p, ix, rx, rl, nd, st5, w5, ra, aBin_add, w1]
      exact e'
theorem eZ2_all (x : Int × Int) : (eZ2 x).all isCell = true := rfl
set_option maxHeartbeats 4000000 in
set_option maxRecDepth 100000 in
/-- Each slot of a level. -/
theorem turn_s {s2 s43 s44 : Value} (hR : Rt V S T) (W : PW V S (prO V S T l0) c s rss pss) (hi : (i : Int) < Lv V) (hn : n ≤ n0) (hn0 : h.length < n0) (hlk : lks[i]? = some lk) (hrs : rss[i]? = some rs) (hps : pss[i]? = some ps) : ∀ (m j : Nat) (g : Heap), j + m = ps.length → H10 V S T l0 a b q n0 RW LK lvs lks rvss s rss pss g → g[h.length]? = some (.own [(Value.int .i64 V), (Value.int .i64 S), (Value.int .i64 T), dv, ov]) →
    ∃ g', J10_2b0 C ⟨0, n⟩ ((Value.pointer (some ⟨h.length, 0, none⟩))) s2 ((Value.pointer (some ⟨q, 0, none⟩))) ((Value.int .i64 ((i : Int)))) lk s43 s44 ((Value.int .i64 ((i : Int)))) lk ((Value.int .i64 ((ps.length : Int)))) ((Value.int .i64 ((j : Int)))) g = (aBin Try.prog .add 3 ((Value.int .i64 ((i : Int)))) ((Value.int .i64 1)) fun v1 => some (.inl (((Value.pointer (some ⟨h.length, 0, none⟩)), s2, (Value.pointer (some ⟨q, 0, none⟩)), s43, s44, v1), g'))) ∧ H10 V S T l0 a b q n0 RW LK lvs lks rvss s rss pss g' ∧ g'[h.length]? = some (.own [(Value.int .i64 V), (Value.int .i64 S), (Value.int .i64 T), dv, ov]) := by
  have rV := hR
  unfold Rt at rV
  have w := W.wf i rs ps hrs hps
  have cw := W.cw i rs ps hrs hps
  have pl := w.len
  intro m
  induction m with
  | zero =>
    intro j g hj H hc
    obtain rfl : j = ps.length := by omega
    refine ⟨g, ?_, H, hc⟩
    rw [J10_2b0_step]
    unfold Jr10_2b0
    simp only [go_sem, Nat.reduceAdd, Nat.reduceLeDiff, Nat.reduceMul, Int.reduceBEq, Int.reduceBNe, Int.reduceLT, Int.reduceLE, Int.reduceGT, aBin_lss, Int.lt_irrefl, Jk10_2b0]
  | succ m ih =>
    intro j g hj H hc
    have hlt : (j : Int) < (ps.length : Int) := by omega
    have hs : (j : Int) < S := by omega
    have lq := lt_of H.hq
    have lo := H.lo
    obtain ⟨la, lb⟩ := H.th.la
    have w1 : IntKind.wrap .i64 ((j : Int) + 1) = ((j + 1 : Nat) : Int) := by rw [wi (by omega) (by omega)]; rfl
    have X := H.lp i lk ps hlk hps
    obtain ⟨e, he⟩ : ∃ e, ps[j]? = some e := ⟨ps[j]'(by omega), List.getElem?_eq_getElem (by omega)⟩
    have ix := fun {α : Type} (kk : Value → Option α) => X.ix (i := (j : Int)) (by omega) hlt kk
    have el := X.elem he
    simp only [Int.toNat_natCast] at ix
    have st2 := fun (hq : Heap) (kk : Heap → Option (((Value × Value × Value × Value × Value × Value × Value × Value × Value × Value × Value) × Heap) ⊕ (Exit × (Value × Value × Value × Value × Value × Value × Value × Value × Value × Value × Value) × Heap))) => st_N ⟨0, n⟩ 2 g.length 0 [(Value.int .i64 e.1), (Value.int .i64 e.2)] hq kk rfl rfl
    have w2 : wrN ⟨0, n⟩ (g ++ [Blk.own [(Value.int .i64 0), (Value.int .i64 0)]]) g.length 0 [(Value.int .i64 e.1), (Value.int .i64 e.2)] = some (g ++ [Blk.own [(Value.int .i64 e.1), (Value.int .i64 e.2)]]) := wrN_new0 (md := ⟨0, n⟩) (h := g) (bs := []) (i := 0) (cs := [(Value.int .i64 0), (Value.int .i64 0)]) (vs := [(Value.int .i64 e.1), (Value.int .i64 e.2)]) (Nat.zero_le _) (by show n ≤ _; omega) (by simp)
    have bn : (g ++ [Blk.own [(Value.int .i64 e.1), (Value.int .i64 e.2)]])[g.length]? = some (Blk.own [(Value.int .i64 e.1), (Value.int .i64 e.2)]) := List.getElem?_concat_length ..
    have o1 : ∀ y, y < g.length → (g ++ [Blk.own [(Value.int .i64 e.1), (Value.int .i64 e.2)]])[y]? = g[y]? := fun y hy => List.getElem?_append_left hy
    have H1 := H.old o1
    have lg1 : (g ++ [Blk.own [(Value.int .i64 e.1), (Value.int .i64 e.2)]]).length = g.length + 1 := by simp
    have c1 := (o1 h.length (by omega)).trans hc
    have ia0 := fun {α : Type} (kk : Value → Option α) => ixA_p 1 g.length 0 2 0 kk (by omega)
    simp only [show (0 : Int).toNat = 0 from rfl, Nat.zero_mul, Nat.add_zero] at ia0
    generalize hg1 : g ++ [Blk.own [(Value.int .i64 e.1), (Value.int .i64 e.2)]] = g1 at *
    have rb : rd g1 g.length 0 = some ((Value.int .i64 e.1)) := by rw [rd_at bn]; rfl
    rcases w.val j e he with rfl | ⟨q1, q2⟩
    · have neg : (-1 : Int) < 0 := by decide
      obtain ⟨g', e', z⟩ := ih (j + 1) g1 (by omega) H1 c1
      refine ⟨g', ?_, z⟩
      rw [J10_2b0_step]
      unfold Jr10_2b0
      simp only [go_sem, Nat.reduceAdd, Nat.reduceLeDiff, Nat.reduceMul, Int.reduceBEq, Int.reduceBNe, Int.reduceLT, Int.reduceLE, Int.reduceGT, aBin_lss, hlt, ixSV_p, ix, el, st2, w2, hg1, ia0, rb, neg, aBin_add, w1]
      exact e'
    · have nneg : ¬ (e.1 < 0) := by omega
      have hl : Lk ps j e := ⟨he, q1.1⟩
      obtain ⟨r, hr, f0⟩ := w.lin j e hl
      obtain ⟨ir, hir⟩ := List.mem_iff_getElem?.1 hr
      have tkn : Ax V S j i 0 ≠ Ax V S j i 1 := fun h => by have := (A_pos hR hi hi hs hs (.inl rfl) (.inr rfl) h).2.2; omega
      obtain ⟨cc, dd, P, I, Q, hcd, er⟩ := split_two f0.1 f0.2.1 tkn
      have hcd2 : (Ax V S j i 0 = cc ∧ Ax V S j i 1 = dd) ∨ (Ax V S j i 0 = dd ∧ Ax V S j i 1 = cc) := by
        rcases hcd with ⟨q, q'⟩ | ⟨q, q'⟩
        · exact .inl ⟨q.symm, q'.symm⟩
        · exact .inr ⟨q'.symm, q.symm⟩
      have W' := WF.cut hR hi w hir hl hcd er
      have C' := CWl.cut hR hi w cw hir hl hcd er
      have ends := cut_ends hR hi w hr hl hcd er
      have inI : I ∈ wo ir ir 0 rs ++ [I, P ++ Q] := by simp
      have nIO : ∀ y, y ∈ I → y ∉ P ++ Q := fun y h1 h2 => by
        obtain ⟨bI, bO⟩ := cut_btw hR hcd er (w.nod r hr)
        exact bO y h2 (bI y h1)
      have nx : ∀ y ∈ r, Nix V S y := fun y hy => NL_nix hR hi (w.nl hr hy)
      have a0 := fun (m : Md) (h : Heap) => arc_s m h (a := (j : Int)) (b := (i : Int)) (c := 0) hR
      have a1 := fun (m : Md) (h : Heap) => arc_s m h (a := (j : Int)) (b := (i : Int)) (c := 1) hR
      have rl : rdN g1 h.length 0 3 = some [(Value.int .i64 V), (Value.int .i64 S), (Value.int .i64 T)] := by rw [rdN_at c1 (by show 3 ≤ 5; omega)]; rfl
      have r6 := p6 H1.hq
      obtain ⟨g2, f2, A2, o2⟩ := rRoot (n := n) hR H1.th (W.hr i rs hrs r hr) nx f0.1
      have H2 := H1.only A2 fun y _ h1 h2 => o2.oth y h1 h2
      have l2 := o2.len
      have r62 := p6 H2.hq
      obtain ⟨v3, g3, f3, S3, A3, l3, o3⟩ := rList (n := n) hR A2 (W.hr i rs hrs r hr) (w.nod r hr) nx
      have H3 := H2.only A3 o3
      have smr := WF.small hR hi w hr
      obtain ⟨v4, v4', g4, f4, S4, S4b, O4⟩ := refCut (n := n) (c' := Ax V S j i 0) (d' := Ax V S j i 1) S3.sl (by omega) smr er hcd2 (w.nod r hr)
      have l4 := O4.len
      have H4 := H3.old O4.old
      have b5 : (g4 ++ [Blk.own []])[g4.length]? = some (.own []) := List.getElem?_concat_length ..
      have o5 : ∀ y, y < g4.length → (g4 ++ [Blk.own []])[y]? = g4[y]? := fun y hy => List.getElem?_append_left hy
      have H5 := H4.old o5
      have S5 : SlO (g4 ++ [Blk.own []]) g4.length 2 eZ2 ((Value.slice (some ⟨g4.length, 0, none⟩) 0 2)) [] := ⟨Sl.whole eZ2_len b5 rfl rfl, .inr ⟨Nat.le_refl _, _, b5⟩⟩
      obtain ⟨v6, g6, f6, S6, O6⟩ := append_sl (md := ⟨0, n⟩) tG10 S5 (H5.lp i lk ps hlk hps) (Nat.zero_le _) (by simp) eZ2_all (by simp; omega)
      have l6 := O6.len
      simp only [List.length_append, List.length_cons, List.length_nil] at l6
      simp only [List.nil_append] at S6
      have o46 : ∀ y, y < g4.length → g6[y]? = g4[y]? := fun y hy => (O6.old y hy).trans (o5 y hy)
      have H6 := H4.old o46
      obtain ⟨bb6, cs6, hc6⟩ : g4.length ≤ slB v6 ∧ ∃ cs, g6[slB v6]? = some (.own cs) := by
        rcases S6.own with q | q
        · subst q
          have := S6.nil_of
          rw [this] at he
          simp at he
        · exact q
      obtain ⟨g7, e7, S7, l7, _, o7⟩ := Sl.put (md := ⟨0, n⟩) (x := ((-1, -1) : Int × Int)) S6.sl hc6 (show j < ps.length by omega) (Nat.zero_le _) (.inr rfl)
      have ix6 := fun {α : Type} (kk : Value → Option α) => S6.sl.ix (i := (j : Int)) (by omega) (by omega) kk
      simp only [Int.toNat_natCast] at ix6
      have st7 := fun (hq : Heap) (kk : Heap → Option (((Value × Value × Value × Value × Value × Value × Value × Value × Value × Value × Value) × Heap) ⊕ (Exit × (Value × Value × Value × Value × Value × Value × Value × Value × Value × Value × Value) × Heap))) => st_N ⟨0, n⟩ 2 (slB v6) (slO v6 + j * 2) [(Value.int .i64 (-1)), (Value.int .i64 (-1))] hq kk rfl rfl
      have o47 : ∀ y, y < g4.length → g7[y]? = g4[y]? := fun y hy => (o7 y (by omega)).trans (o46 y hy)
      have H7 := H4.old o47
      have o17 : ∀ y, y < g1.length → y ≠ a → y ≠ b → g7[y]? = g1[y]? := fun y hy h1 h2 => by rw [o47 y (by omega), O4.old y (by omega), o3 y (by omega) h1 h2, o2.oth y h1 h2]
      have hcs7 := (o17 h.length (by omega) (by omega) (by omega)).trans c1
      have heb7 := (o17 g.length (by omega) (by omega) (by omega)).trans bn
      have SI : Sl g7 1 eZ v4 I := by
        rcases S4.own with e | ⟨q3, cs, q4⟩
        · subst e
          have := S4.nil_of
          rw [this]
          exact Sl.nil _ eZ_len
        · exact S4.sl.heap fun hl => o47 _ hl
      have lenI := fun {α : Type} (kk : Value → Option α) => S4.sl.len kk
      have smI := WF.small hR hi W' inI
      have ee := w.ends hl
      -- which end is between the arcs
      obtain ⟨sd, hsd, hend, hjn⟩ : ∃ sd : Int, (sd = 0 ∨ sd = 1) ∧ Vx V i (if sd = 1 then e.2 else e.1) ∈ I ∧ ∀ v : Int, 0 ≤ v ∧ v < V → Vx V i v ∈ I → ((Conn (ps.set j (-1, -1)) v e.2 ↔ sd = 1) ∧ Conn (ps.set j (-1, -1)) v (if sd = 1 then e.2 else e.1)) := by
        rcases ends with ⟨z1, z2⟩ | ⟨z1, z2⟩
        · exact ⟨0, .inl rfl, z1, fun v hv hvI => ⟨⟨fun hcn => absurd z2 (nIO _ (W'.conn inI hvI hcn)), fun h => by cases h⟩, C' I inI v e.1 hv ee.1 hvI z1⟩⟩
        · exact ⟨1, .inr rfl, z1, fun v hv hvI => ⟨⟨fun _ => rfl, fun _ => C' I inI v e.2 hv ee.2 hvI z1⟩, C' I inI v e.2 hv ee.2 hvI z1⟩⟩
      obtain ⟨g8, e8, l8, o8⟩ := turn_v (h := h) (n := n) (q := q) (eb := g.length) (e := e) (iv := v4) (wv := v6) (s2 := s2) (s6 := (Value.int .i64 ((i : Int)))) (s7 := lk) (s43 := s43) (s44 := s44) (s45 := (Value.int .i64 ((i : Int)))) (s50 := lk) (s51 := (Value.int .i64 ((ps.length : Int)))) (s52 := (Value.int .i64 ((j : Int)))) (dv := dv) (ov := ov) hR hi (by omega) (by omega) (fun y hy => by
        rcases W'.mem I inI y hy with h | ⟨s', e', d', hl', hd', h⟩
        · exact .inl h
        · exact .inr ⟨s', d', hl'.lt W'.len, hd', h⟩) hsd (fun s' e' h' => W'.ends h') (by rw [List.length_set]; omega) hjn smI I.length 0 g7 (by omega) SI S7 heb7 hcs7
      have s0 : sdv V sd I 0 = -1 := rfl
      have sE : sdv V sd I I.length = sd := by
        unfold sdv
        rw [List.take_length, if_pos]
        rw [List.any_eq_true]
        refine ⟨_, hend, decide_eq_true (vx_of2 hR hi ?_)⟩
        rcases hsd with rfl | rfl
        · exact ee.1
        · exact ee.2
      rw [s0, sE] at e8
      have nsd : ¬ (sd < 0) := by omega
      have H8 := H7.old o8
      obtain ⟨g', e', z⟩ := ih (j + 1) g8 (by omega) H8 ((o8 h.length (by omega)).trans hcs7)
      refine ⟨g', ?_, z⟩
      have z00 : (((0 : Nat) : Int)) = 0 := rfl
      rw [z00] at e8
      rw [J10_2b0_step]
      unfold Jr10_2b0
      simp only [go_sem, Nat.reduceAdd, Nat.reduceLeDiff, Nat.reduceMul, Int.reduceBEq, Int.reduceBNe, Int.reduceLT, Int.reduceLE, Int.reduceGT, aBin_lss, hlt, ixSV_p, ix, el, st2, w2, hg1, ia0, rb, nneg, rl, a0, a1, okNil, okP_p, r6, f2, r62, cLE_t, f3, f4, f6, ix6, st7, e7, lenI]
      rw [e8]
      unfold J10_2b0b1
      simp only [go_sem, Nat.reduceAdd, Nat.reduceLeDiff, Nat.reduceMul, Int.reduceBEq, Int.reduceBNe, Int.reduceLT, Int.reduceLE, Int.reduceGT, aBin_lss, nsd, aBin_add, w1]
      exact e'
theorem turn_lv {h0 : Heap} (hR : Rt V S T) (W : PW V S (prO V S T l0) c s rss pss) (hn : n ≤ n0) (hn0 : h.length < n0) : ∀ (m i : Nat) (g : Heap), i + m = lks.length → H10 V S T l0 a b q n0 RW LK lvs lks rvss s rss pss g → g[h.length]? = some (.own [(Value.int .i64 V), (Value.int .i64 S), (Value.int .i64 T), dv, ov]) →
    ∃ g', J10_2 C ⟨0, n⟩ h0 ((Value.pointer (some ⟨h.length, 0, none⟩))) ((Value.bool false)) ((Value.pointer (some ⟨q, 0, none⟩))) LK ((Value.int .i64 ((lks.length : Int)))) ((Value.int .i64 ((i : Int)))) g = some ((Value.bool true), g') := by
  have rV := hR
  unfold Rt at rV
  have rL := Lv_le hR
  intro m
  induction m with
  | zero =>
    intro i g hi H hc
    obtain rfl : i = lks.length := by omega
    have aw := fun (m : Nat) => awake10 m g (by have := lt_of H.hq; omega)
    refine ⟨g.take h0.length, ?_⟩
    rw [J10_2_step]
    unfold Jr10_2
    simp only [go_sem, Nat.reduceAdd, Nat.reduceLeDiff, Nat.reduceMul, Int.reduceBEq, Int.reduceBNe, Int.reduceLT, Int.reduceLE, Int.reduceGT, aBin_lss, Int.lt_irrefl, Jk10_2, aw]
  | succ m ih =>
    intro i g hi H hc
    obtain ⟨ll1, ll2, ll3⟩ := H.ll
    have l1 := W.l1
    have l2 := W.l2
    have hlt : (i : Int) < (lks.length : Int) := by omega
    have hil : (i : Int) < Lv V := by omega
    have w1 : IntKind.wrap .i64 ((i : Int) + 1) = ((i + 1 : Nat) : Int) := by rw [wi (by omega) (by omega)]; rfl
    obtain ⟨rs, ps, hrs, hps, w⟩ := W.lev hil
    obtain ⟨lk, hlk⟩ : ∃ z, lks[i]? = some z := ⟨lks[i]'(by omega), List.getElem?_eq_getElem (by omega)⟩
    obtain ⟨ix, rx⟩ := Sl.getV H.lk hlk
    have X := H.lp i lk ps hlk hps
    have lenk := fun {α : Type} (kk : Value → Option α) => X.len kk
    obtain ⟨g1, e1, H1, c1⟩ := turn_s (h := h) (n := n) (s2 := (Value.bool false)) (s43 := LK) (s44 := (Value.int .i64 ((lks.length : Int)))) hR W hil hn hn0 hlk hrs hps ps.length 0 g (by omega) H hc
    obtain ⟨g', e'⟩ := ih (i + 1) g1 (by omega) H1 c1
    refine ⟨g', ?_⟩
    have z00 : (((0 : Nat) : Int)) = 0 := rfl
    rw [z00] at e1
    rw [J10_2_step]
    unfold Jr10_2
    simp only [go_sem, Nat.reduceAdd, Nat.reduceLeDiff, Nat.reduceMul, Int.reduceBEq, Int.reduceBNe, Int.reduceLT, Int.reduceLE, Int.reduceGT, aBin_lss, hlt, ixSV_p, ix, rx, lenk, e1, aBin_add, w1]
    exact e'
theorem rows10_law : Law Try.prog cfg 10 [66] := by
  intro h avs ha
  obtain ⟨x, r, rfl, a0, ha⟩ := args_cons ha
  obtain rfl := args_nil ha
  obtain ⟨V, S, T, dv, ov, D, ops, rfl, SD, wD, SO⟩ := arg_case10 a0
  have rt := right10 (md := ⟨0, h.length⟩) (h := h ++ [Blk.own [(Value.int .i64 V), (Value.int .i64 S), (Value.int .i64 T), dv, ov]]) (V := V) (S := S) (T := T) (Nat.zero_le _) (by show h.length ≤ _; simp) SD.app SO.app
  rw [call_eq, F10_eq]
  unfold F10
  have aw := fun (m : Nat) => awake10 m (h ++ [Blk.own [(Value.int .i64 V), (Value.int .i64 S), (Value.int .i64 T), dv, ov]]) (by simp)
  by_cases hq : Rt V S T ∧ V ≤ 8 ∧ S ≤ 8 ∧ (D.length : Int) ≤ 60 ∧ (ops.length : Int) ≤ 60
  · rw [decide_eq_true hq] at rt
    obtain ⟨hR, h4, h3, hD, hO⟩ := hq
    have SD1 : Sl (h ++ [Blk.own [(Value.int .i64 V), (Value.int .i64 S), (Value.int .i64 T), dv, ov]]) 1 eU dv D := SD.app
    have lhb : (h ++ [Blk.own [(Value.int .i64 V), (Value.int .i64 S), (Value.int .i64 T), dv, ov]]).length = h.length + 1 := by simp
    obtain ⟨h1, q, a, b, l0, s, RW, LK, lvs, lks, rvss, e1, H1, W1, l1, o1⟩ := begun10 (n := h.length) (h := h ++ [Blk.own [(Value.int .i64 V), (Value.int .i64 S), (Value.int .i64 T), dv, ov]]) (ov := ov) hR (by omega) (by omega) SD1 wD
    have c1 : h1[h.length]? = some (Blk.own [(Value.int .i64 V), (Value.int .i64 S), (Value.int .i64 T), dv, ov]) := by rw [o1 _ (by omega)]; exact List.getElem?_concat_length ..
    have rO : rd h1 h.length 4 = some ov := by rw [rd_at c1]; rfl
    have len := fun {α : Type} (k : Value → Option α) => SO.len k
    obtain ⟨c2, s2, lvs2, rvss2, rss2, pss2, k2, eg, hc2, H2, W2, hl2, ok2⟩ := rows10_loop (h := h) (p1 := (Value.pointer (some ⟨h.length, 0, none⟩))) hR (by omega) SO.app (by omega) ops.length 0 h1 16 s lvs rvss _ _ (by omega) (by omega) H1 W1 l1 o1
    have rK := pLK H2.hq
    have lenK := fun {α : Type} (kk : Value → Option α) => H2.lk.len kk
    have k2c : k2[h.length]? = some (Blk.own [(Value.int .i64 V), (Value.int .i64 S), (Value.int .i64 T), dv, ov]) := (ok2 h.length (by omega)).trans (List.getElem?_concat_length ..)
    obtain ⟨g, ef⟩ := turn_lv (h := h) (n := h.length) (h0 := h) hR W2 (by omega) (by omega) lks.length 0 k2 (by omega) H2 k2c
    have eJ : J10_1 C ⟨0, h.length⟩ h ((Value.pointer (some ⟨h.length, 0, none⟩))) ((Value.bool false)) ((Value.pointer (some ⟨q, 0, none⟩))) k2 = some ((Value.bool true), g) := by
      unfold J10_1
      simp only [go_sem, Nat.reduceAdd, Nat.reduceLeDiff, Nat.reduceMul, Int.reduceBEq, Int.reduceBNe, Int.reduceLT, Int.reduceLE, Int.reduceGT, okNil, okP_p, rK, lenK]
      exact ef
    have uP : Try.prog.underlying 68 = some (.pointer 78) := by kernel_rfl
    refine ⟨g, ?_⟩
    simp only [go_sem, Nat.reduceAdd, Nat.reduceLeDiff, Nat.reduceMul, Int.reduceBEq, Int.reduceBNe, Int.reduceLT, Int.reduceLE, Int.reduceGT, rt, e1, aBin_eqlP uP, rO, len]
    exact eg.trans eJ
  · rw [decide_eq_false hq] at rt
    exact ⟨_, by simp only [go_sem, Nat.reduceAdd, Nat.reduceLeDiff, Nat.reduceMul, Int.reduceBEq, Int.reduceBNe, Int.reduceLT, Int.reduceLE, Int.reduceGT, rt, aw]; rfl⟩
end Go.Det.E
