/- AdjBack: an edge that comes, and leaves. -/
import Derived.Test.YtibaodefgncbmaaQ6
import Derived.Test.YtibaodefgncbmaaEK
set_option autoImplicit false
set_option linter.unusedVariables false
set_option linter.unusedSimpArgs false
namespace Go.Det.E
open Go.Proofs Go.Det Go.Det.U
attribute [local congr] bind_c cond_c
variable {md : Md} {h hb hh k h' : Heap} {a b n q eb lb c : Nat} {V S T x y z u v w i lv sl K SL U W LV : Int} {f f' : Int → Int} {s s' : NS} {mk : Int → Nat} {L L' : Int → Int → List Int} {E Em : EM} {ees les : List (MK × Value)} {ops : List Op12} {ov : Value}
/-- Low blocks do not matter. -/
theorem HB.hi (H : HB V S T f a b q eb lb s mk E Em L ees les h) (hc : c ≤ a ∧ c ≤ b) (o : ∀ y, c ≤ y → y < h.length → h'[y]? = h[y]?) : HB V S T f a b q eb lb s mk E Em L ees les h' := by
  obtain ⟨la, lb'⟩ := H.th.la
  have lq := lt_of H.hq
  have sp := H.sp
  exact ⟨H.th.old (o a (by omega) la) (o b (by omega) lb'), H.ee, H.ls, H.lm, (o q (by omega) lq).trans H.hq, H.me.keep (o _ (by omega) (by omega)), H.ml.keep (by omega) (o _ (by omega) (by omega)) (fun y hy hl => o y (by omega) hl), H.sp⟩
theorem HA.hi (H : HA V S T f a b q eb lb s mk E L ees les h) (hc : c ≤ a ∧ c ≤ b) (o : ∀ y, c ≤ y → y < h.length → h'[y]? = h[y]?) : HA V S T f a b q eb lb s mk E L ees les h' := ⟨H.hb.hi hc o, H.lk⟩
/-- An edge's four cells; none: zeros. -/
abbrev e4 (E : EM) (sl : Int) : List Value := [(Value.int .i64 (((E sl).getD (0, 0, 0)).1)), (Value.int .i64 (((E sl).getD (0, 0, 0)).2.1)), (Value.int .i64 (((E sl).getD (0, 0, 0)).2.2)), (Value.bool false)]
theorem look12 (Q : ME h eb ees E) (sl : Int) {α : Type} (kk : Value → Option α) : aLookup Try.prog 42 (.map (some eb)) ((Value.int .i64 sl)) true h kk = kk ((Value.tuple #[.agg (List.toArray (e4 E sl)), (Value.bool ((E sl).isSome))])) := by
  rw [aLookup_ok tyE zvE (key1 (x := sl)) Q.at_, Q.get]
  unfold e4
  cases E sl <;> rfl
/-- An edge's cells are laid. -/
theorem lay4 (hn : n ≤ h.length) (E : EM) (sl : Int) {α : Type} (kk : Heap → Option α) : st ⟨0, n⟩ 4 ((Value.pointer (some ⟨h.length, 0, none⟩))) (.agg (List.toArray (e4 E sl))) (h ++ [Blk.own [(Value.int .i64 0), (Value.int .i64 0), (Value.int .i64 0), (Value.bool false)]]) kk = kk (h ++ [Blk.own (e4 E sl)]) := by
  rw [st_N ⟨0, n⟩ 4 h.length 0 (e4 E sl) _ kk rfl rfl]
  have w : wrN ⟨0, n⟩ (h ++ [Blk.own [(Value.int .i64 0), (Value.int .i64 0), (Value.int .i64 0), (Value.bool false)]]) h.length 0 (e4 E sl) = some (h ++ [Blk.own (e4 E sl)]) := wrN_new0 (bs := []) (Nat.zero_le _) hn (by simp)
  rw [w]; rfl
theorem opr {b : Nat} (hc : k[b]? = some (.own (op12 K SL U W LV))) : rdN k b 0 5 = some (op12 K SL U W LV) := by rw [rdN_at hc (by simp [Blk.cells])]; rfl
/-- A call, from its own block. -/
theorem back_loop {h0 : Heap} {s5 s6 : Value} (hR : Rt V S T) (SO : Sl hb 5 encO12 ov ops) (hl : ops.length ≤ 60) (hn : n ≤ a ∧ n ≤ eb) (hba : hb.length ≤ a ∧ hb.length ≤ b ∧ hb.length ≤ eb ∧ hb.length ≤ lb) : ∀ (m i : Nat) (k : Heap) (f : Int → Int) (s : NS) (mk : Int → Nat) (E : EM) (L : Int → Int → List Int) (ees les : List (MK × Value)), i + m = ops.length → HA V S T f a b q eb lb s mk E L ees les k → hb.length ≤ k.length → (∀ y, y < hb.length → k[y]? = hb[y]?) →
    ∃ f' s' mk' E' L' ees' les' k', J5_0 C ⟨0, n⟩ h0 s5 s6 ((Value.pointer (some ⟨q, 0, none⟩))) ov ((Value.int .i64 ((ops.length : Int)))) ((Value.int .i64 ((i : Int)))) k = J5_1 C ⟨0, n⟩ h0 s5 ((Value.pointer (some ⟨q, 0, none⟩))) k' ∧ HA V S T f' a b q eb lb s' mk' E' L' ees' les' k' ∧ hb.length ≤ k'.length ∧ ∀ y, y < hb.length → k'[y]? = hb[y]? := by
  intro m
  induction m with
  | zero =>
    intro i k f s mk E L ees les hi H hlk ok
    obtain rfl : i = ops.length := by omega
    refine ⟨f, s, mk, E, L, ees, les, k, ?_, H, hlk, ok⟩
    rw [J5_0_step]
    unfold Jr5_0
    simp only [go_sem, Nat.reduceAdd, Nat.reduceLeDiff, Nat.reduceMul, Int.reduceBEq, Int.reduceBNe, Int.reduceLT, Int.reduceLE, Int.reduceGT, aBin_lss, Int.lt_irrefl, Jk5_0]
  | succ m ih =>
    intro i k f s mk E L ees les hi H hlk ok
    have hlt : (i : Int) < (ops.length : Int) := by omega
    have w : IntKind.wrap .i64 ((i : Int) + 1) = ((i + 1 : Nat) : Int) := by rw [wi (by omega) (by omega)]; rfl
    obtain ⟨o, ho⟩ : ∃ o, ops[i]? = some o := ⟨ops[i]'(by omega), List.getElem?_eq_getElem (by omega)⟩
    have S1 : Sl k 5 encO12 ov ops := SO.heap fun hl => ok _ hl
    have ix := fun {α : Type} (kk : Value → Option α) => S1.ix (i := (i : Int)) (by omega) hlt kk
    have el := S1.elem ho
    simp only [Int.toNat_natCast] at ix
    have la := H.hb.th.la
    have st5 := fun {α : Type} (kk : Heap → Option α) => st_N ⟨0, n⟩ 5 k.length 0 (encO12 o) (k ++ [Blk.own [(Value.int .i64 0), (Value.int .i64 0), (Value.int .i64 0), (Value.int .i64 0), (Value.int .i64 0)]]) kk rfl rfl
    have w5 : wrN ⟨0, n⟩ (k ++ [Blk.own [(Value.int .i64 0), (Value.int .i64 0), (Value.int .i64 0), (Value.int .i64 0), (Value.int .i64 0)]]) k.length 0 (encO12 o) = some (k ++ [Blk.own (encO12 o)]) := wrN_new0 (bs := []) (Nat.zero_le _) (by show n ≤ _; omega) (by simp)
    have r5 : rdN (k ++ [Blk.own (encO12 o)]) k.length 0 5 = some (encO12 o) := by rw [rdN_new0]; rfl
    have H1 : HA V S T f a b q eb lb s mk E L ees les (k ++ [Blk.own (encO12 o)]) := ⟨H.hb.fm fun y hy => List.getElem?_append_left hy, H.lk⟩
    have l1 : (k ++ [Blk.own (encO12 o)]).length = k.length + 1 := by simp
    have o1 : ∀ y, y < k.length → (k ++ [Blk.own (encO12 o)])[y]? = k[y]? := fun y hy => List.getElem?_append_left hy
    obtain ⟨f2, s2, mk2, E2, L2, ees2, les2, k2, e2, H2, fm2, _⟩ := step12 (n := n) hR H1 hn o.k o.sl o.u o.w o.lv
    have l2 := fm2.len
    obtain ⟨f3, s3, mk3, E3, L3, ees3, les3, k', e4, z⟩ := ih (i + 1) k2 _ _ _ _ _ _ _ (by omega) H2 (by omega) (fun y hy => by rw [fm2.old y (by omega) (by omega) (by omega) (by omega) (by omega), o1 y (by omega), ok y hy])
    refine ⟨f3, s3, mk3, E3, L3, ees3, les3, k', ?_, z⟩
    rw [J5_0_step]
    unfold Jr5_0
    simp only [go_sem, Nat.reduceAdd, Nat.reduceLeDiff, Nat.reduceMul, Int.reduceBEq, Int.reduceBNe, Int.reduceLT, Int.reduceLE, Int.reduceGT, aBin_lss, hlt, ixSV_p, ix, el, st5, w5, r5, e2, aBin_add, w]
    exact e4
/-- A call's kind is another one now. -/
theorem kind_set (hc : k[c]? = some (.own (op12 K SL U W LV))) (x : Int) : wrN ⟨0, n⟩ k c 0 [(Value.int .i64 x)] = some (k.set c (.own (op12 x SL U W LV))) ∧ (k.set c (.own (op12 x SL U W LV)))[c]? = some (.own (op12 x SL U W LV)) :=
  ⟨wr_own hc (Nat.zero_le _) rfl (by simp), List.getElem?_set_self (lt_of hc)⟩
set_option maxHeartbeats 8000000 in
set_option maxRecDepth 100000 in
theorem back_end {h0 : Heap} (hR : Rt V S T) (H : HA V S T f a b q eb lb s mk E L ees les k) (hc : k[c]? = some (.own (op12 K SL U W LV))) (hca : c < a ∧ c < b ∧ c < eb ∧ c < lb) (hn : n ≤ a ∧ n ≤ eb) :
    ∃ k', J5_1 C ⟨0, n⟩ h0 ((Value.pointer (some ⟨c, 0, none⟩))) ((Value.pointer (some ⟨q, 0, none⟩))) k = some ((Value.bool true), k') := by
  have sp := H.hb.sp
  have lq := lt_of H.hb.hq
  have lc := lt_of hc
  have la := H.hb.th.la
  -- before: was it there?
  have qE := qEB H.hb.hq
  have r1 := (o12_at hc).2.1
  have lk1 := fun {α : Type} (kk : Value → Option α) => look12 H.hb.me SL kk
  have oz : ∀ y, y < k.length → (k ++ [Blk.own [(Value.int .i64 0), (Value.int .i64 0), (Value.int .i64 0), (Value.bool false)]])[y]? = k[y]? := fun y hy => List.getElem?_append_left hy
  have lk2 := fun {α : Type} (kk : Value → Option α) => look12 (H.hb.me.keep (oz eb (by omega))) SL kk
  have qE2 := qEB ((oz q lq).trans H.hb.hq)
  have r12 := (o12_at ((oz c lc).trans hc)).2.1
  have ly := fun {α : Type} (kk : Heap → Option α) => lay4 (n := n) (h := k) (by omega) E SL kk
  have H1 : HA V S T f a b q eb lb s mk E L ees les (k ++ [Blk.own (e4 E SL)]) := ⟨H.hb.fm fun y hy => List.getElem?_append_left hy, H.lk⟩
  have c1 : (k ++ [Blk.own (e4 E SL)])[c]? = some (.own (op12 K SL U W LV)) := (List.getElem?_append_left lc).trans hc
  have l1 : (k ++ [Blk.own (e4 E SL)]).length = k.length + 1 := by simp
  generalize k ++ [Blk.own (e4 E SL)] = k1 at ly H1 c1 l1
  -- put
  obtain ⟨w2, c2⟩ := kind_set (n := n) c1 1
  have H2 := H1.hi (h' := k1.set c (.own (op12 1 SL U W LV))) (c := c + 1) (by omega) (fun y hy _ => List.getElem?_set_ne (by omega))
  have l2 : (k1.set c (.own (op12 1 SL U W LV))).length = k1.length := by simp
  generalize k1.set c (.own (op12 1 SL U W LV)) = k2 at w2 c2 H2 l2
  have r2 := opr c2
  obtain ⟨f3, s3, mk3, E3, L3, ees3, les3, k3, e3, H3, fm3, sr⟩ := step12 (n := n) hR H2 hn 1 SL U W LV
  have c3 : k3[c]? = some (.own (op12 1 SL U W LV)) := (fm3.old c (by omega) (by omega) (by omega) (by omega) (by omega)).trans c2
  have l3 := fm3.len
  have qE3 := qEB H3.hb.hq
  have r3 := (o12_at c3).2.1
  have lk3 := fun {α : Type} (kk : Value → Option α) => look12 H3.hb.me SL kk
  have oz3 : ∀ y, y < k3.length → (k3 ++ [Blk.own [(Value.int .i64 0), (Value.int .i64 0), (Value.int .i64 0), (Value.bool false)]])[y]? = k3[y]? := fun y hy => List.getElem?_append_left hy
  have lk4 := fun {α : Type} (kk : Value → Option α) => look12 (H3.hb.me.keep (oz3 eb (by omega))) SL kk
  have qE4 := qEB ((oz3 q (by omega)).trans H3.hb.hq)
  have r4 := (o12_at ((oz3 c (by omega)).trans c3)).2.1
  have ly3 := fun {α : Type} (kk : Heap → Option α) => lay4 (n := n) (h := k3) (by omega) E3 SL kk
  have H4 : HA V S T f3 a b q eb lb s3 mk3 E3 L3 ees3 les3 (k3 ++ [Blk.own (e4 E3 SL)]) := ⟨H3.hb.fm fun y hy => List.getElem?_append_left hy, H3.lk⟩
  have c4 : (k3 ++ [Blk.own (e4 E3 SL)])[c]? = some (.own (op12 1 SL U W LV)) := (List.getElem?_append_left (by omega)).trans c3
  generalize k3 ++ [Blk.own (e4 E3 SL)] = k4 at ly3 H4 c4
  have aw := fun (m : Nat) => awake12 m k4
  have nt : (!true) = false := rfl
  have nf : (!false) = true := rfl
  unfold J5_1
  by_cases b1 : (E SL).isSome = true
  · exact ⟨_, by simp only [go_sem, Nat.reduceAdd, Nat.reduceLeDiff, Nat.reduceMul, Int.reduceBEq, Int.reduceBNe, Int.reduceLT, Int.reduceLE, Int.reduceGT, okNil, okP_p, qE, r1, lk1, lk2, qE2, r12, ly, st_1i, w2, r2, e3, qE3, r3, lk3, lk4, qE4, r4, ly3, b1, aw]; rfl⟩
  · rw [Bool.not_eq_true] at b1
    by_cases b2 : (E3 SL).isSome = true
    · have hE : E SL = none := by
        cases e : E SL with
        | none => rfl
        | some x => rw [e] at b1; cases b1
      have hE3 : E3 SL ≠ none := fun e => by rw [e] at b2; cases b2
      obtain ⟨d1, d2, d3, d4, r, hr⟩ := sr rfl hE hE3
      have mc := mm_cases' U W
      have hi : In V (mn U W) LV := ⟨by omega, d4⟩
      have qA := q10 H4.hb.hq
      obtain ⟨t0, t1, t2, t3, t4⟩ := o12_at c4
      obtain ⟨k5, e5, A5, o5⟩ := adFirst (md := ⟨0, n⟩) hR H4.hb.th H4.hb.ls (Nat.zero_le _) hi
      rw [if_neg (by rw [hr]; simp), decide_eq_true (by rw [hr]; simp)] at e5
      have es : slt (hdL (L3 (mn U W) LV)) = SL := by rw [hr]; exact slt0 SL
      rw [es] at e5
      have H5 := H4.wk A5 fun y _ h1 h2 => o5.oth y h1 h2
      have c5 : k5[c]? = some (.own (op12 1 SL U W LV)) := (o5.oth c (by omega) (by omega)).trans c4
      have r5 := (o12_at c5).2.1
      obtain ⟨k6, e6, H6, o6⟩ := is12 n hR H5
      have c6 : k6[c]? = some (.own (op12 1 SL U W LV)) := (o6.oth c (by omega) (by omega)).trans c5
      obtain ⟨w7, c7⟩ := kind_set (n := n) c6 2
      have H7 := H6.hi (h' := k6.set c (.own (op12 2 SL U W LV))) (c := c + 1) (by omega) (fun y hy _ => List.getElem?_set_ne (by omega))
      generalize k6.set c (.own (op12 2 SL U W LV)) = k7 at w7 c7 H7
      have r7 := opr c7
      obtain ⟨f8, s8, mk8, E8, L8, ees8, les8, k8, e8, H8, fm8, _⟩ := step12 (n := n) hR H7 hn 2 SL U W LV
      obtain ⟨k9, e9, H9, o9⟩ := is12 n hR H8
      have aw9 := fun (m : Nat) => awake12 m k9
      have em : (if W < U then W else U) = mn U W := rfl
      have zz : (SL != SL) = false := by simp
      exact ⟨_, by simp only [go_sem, Nat.reduceAdd, Nat.reduceLeDiff, Nat.reduceMul, Int.reduceBEq, Int.reduceBNe, Int.reduceLT, Int.reduceLE, Int.reduceGT, okNil, okP_p, qE, r1, lk1, lk2, qE2, r12, ly, st_1i, w2, r2, e3, qE3, r3, lk3, lk4, qE4, r4, ly3, b1, b2, aUn_not, nt, nf, qA, t2, t3, t4, em, e5, r5, aBin_neq, zz, e6, w7, r7, e8, e9, aw9]; rfl⟩
    · rw [Bool.not_eq_true] at b2
      exact ⟨_, by simp only [go_sem, Nat.reduceAdd, Nat.reduceLeDiff, Nat.reduceMul, Int.reduceBEq, Int.reduceBNe, Int.reduceLT, Int.reduceLE, Int.reduceGT, okNil, okP_p, qE, r1, lk1, lk2, qE2, r12, ly, st_1i, w2, r2, e3, qE3, r3, lk3, lk4, qE4, r4, ly3, b1, b2, aUn_not, nf, aw]; rfl⟩
theorem arg_op12 {h : Heap} {v : Value} (a : TyArg Try.prog h 47 v) : ∃ K SL U W LV : Int, v = .agg (List.toArray (op12 K SL U W LV)) := by
  obtain ⟨acs, e, b⟩ := argN (P := Try.prog) (l := [.i .i64, .i .i64, .i .i64, .i .i64, .i .i64]) (by kernel_rfl) (by kernel_rfl) a
  obtain ⟨v1, r, rfl, a1, b⟩ := l_cons b
  obtain ⟨v2, r, rfl, a2, b⟩ := l_cons b
  obtain ⟨v3, r, rfl, a3, b⟩ := l_cons b
  obtain ⟨v4, r, rfl, a4, b⟩ := l_cons b
  obtain ⟨v5, r, rfl, a5, b⟩ := l_cons b
  obtain rfl := l_nil b
  obtain ⟨x1, rfl, _⟩ := inI64 a1
  obtain ⟨x2, rfl, _⟩ := inI64 a2
  obtain ⟨x3, rfl, _⟩ := inI64 a3
  obtain ⟨x4, rfl, _⟩ := inI64 a4
  obtain ⟨x5, rfl, _⟩ := inI64 a5
  exact ⟨x1, x2, x3, x4, x5, e⟩
/-- What each law of 12 lays at first, behind any blocks. -/
theorem lay12g (hR : Rt V S T) (hb : Heap) (hn : n < hb.length) (c0 : hb[n]? = some (.own [(Value.int .i64 V), (Value.int .i64 S), (Value.int .i64 T)])) :
    ∃ g1 a b s, C ⟨0, n⟩ 9 [(Value.agg #[(Value.int .i64 V), (Value.int .i64 S), (Value.int .i64 T)])] hb = some ((Value.tuple #[.agg (List.toArray (B10 V S T a)), (Value.bool true)]), g1) ∧ (hb.length ≤ a ∧ hb.length ≤ b) ∧ Old hb.length hb g1 ∧
      (∀ {α : Type} (kk : Heap → Option α), st ⟨0, n⟩ 10 ((Value.pointer (some ⟨g1.length, 0, none⟩))) (.agg (List.toArray (B10 V S T a))) (g1 ++ [Blk.own [(Value.int .i64 0), (Value.int .i64 0), (Value.int .i64 0), .nilIface, (Value.int .i64 0), (Value.int .i64 0), (Value.int .i64 0), (Value.int .i64 0), (Value.int .i64 0), .nilIface]]) kk = kk (g1 ++ [Blk.own (B10 V S T a)])) ∧
      rdN (g1 ++ [Blk.own (B10 V S T a)]) n 0 3 = some [(Value.int .i64 V), (Value.int .i64 S), (Value.int .i64 T)] ∧ rdN (g1 ++ [Blk.own (B10 V S T a)]) g1.length 0 10 = some (B10 V S T a) ∧ HA V S T (fun _ => 0) a b (g1.length + 1 + 2) (g1.length + 1) (g1.length + 1 + 1) s (fun _ => 0) E0 L0 [] [] (g1 ++ [Blk.own (B10 V S T a), Blk.mp (.one .i64) [], Blk.mp (.two .i64) [], Blk.own (qC V S T a (g1.length + 1) (g1.length + 1 + 1))]) ∧ hb.length ≤ g1.length := by
  obtain ⟨g1, a, b, s, e1, A1, M1, ab, O1⟩ := begun12 (n := n) (h := hb) hR (by omega)
  have l1 := O1.len
  refine ⟨g1, a, b, s, e1, ab, O1, fun kk => ?_, ?_, ?_, ?_, l1⟩
  · rw [st_N ⟨0, n⟩ 10 g1.length 0 (B10 V S T a) _ kk rfl rfl]
    have w10 : wrN ⟨0, n⟩ (g1 ++ [Blk.own [(Value.int .i64 0), (Value.int .i64 0), (Value.int .i64 0), .nilIface, (Value.int .i64 0), (Value.int .i64 0), (Value.int .i64 0), (Value.int .i64 0), (Value.int .i64 0), .nilIface]]) g1.length 0 (B10 V S T a) = some (g1 ++ [Blk.own (B10 V S T a)]) := wrN_new0 (bs := []) (Nat.zero_le _) (by show n ≤ _; omega) (by simp)
    rw [w10]; rfl
  · rw [rdN_at (by rw [List.getElem?_append_left (by omega), O1.old _ (by omega)]; exact c0) (Nat.le_refl 3)]; rfl
  · rw [rdN_at (List.getElem?_concat_length ..) (by simp [Blk.cells])]; rfl
  · have la := A1.la
    have := HA.start hR (A1.app [Blk.own (B10 V S T a)]) M1
    have lg2 : (g1 ++ [Blk.own (B10 V S T a)]).length = g1.length + 1 := by simp
    rw [lg2, List.append_assoc] at this
    exact this
theorem back12_law : Law Try.prog cfg 5 [23, 24, 47] := by
  intro h avs ha
  obtain ⟨x, r, rfl, a0, ha⟩ := args_cons ha
  obtain ⟨ov, r, rfl, a1, ha⟩ := args_cons ha
  obtain ⟨y, r, rfl, a2, ha⟩ := args_cons ha
  obtain rfl := args_nil ha
  obtain ⟨V, S, T, rfl⟩ := arg_lay12 a0
  obtain ⟨ops, SO⟩ := arg_ops12 a1
  obtain ⟨K, SL, U, W, LV, rfl⟩ := arg_op12 a2
  have l0 : (h ++ [Blk.own [(Value.int .i64 V), (Value.int .i64 S), (Value.int .i64 T)]]).length = h.length + 1 := by simp
  generalize hhb : h ++ [Blk.own [(Value.int .i64 V), (Value.int .i64 S), (Value.int .i64 T)], Blk.own (op12 K SL U W LV)] = hb
  have lhb : hb.length = h.length + 2 := by rw [← hhb]; simp
  have ohb : ∀ y, y < h.length → hb[y]? = h[y]? := fun y hy => by rw [← hhb, List.getElem?_append_left hy]
  have c0 : hb[h.length]? = some (.own [(Value.int .i64 V), (Value.int .i64 S), (Value.int .i64 T)]) := by rw [← hhb, List.getElem?_append_right (Nat.le_refl _)]; simp
  have c1 : hb[h.length + 1]? = some (.own (op12 K SL U W LV)) := by rw [← hhb, List.getElem?_append_right (by omega)]; simp
  have rt := right12 ⟨0, h.length⟩ hb V S T
  have r0 : rdN hb h.length 0 3 = some [(Value.int .i64 V), (Value.int .i64 S), (Value.int .i64 T)] := by rw [rdN_at c0 (Nat.le_refl 3)]; rfl
  have len := fun {α : Type} (k : Value → Option α) => SO.len k
  have nt : (!true) = false := rfl
  have nf : (!false) = true := rfl
  rw [call_eq, F5_eq]
  unfold F5
  have aw := fun (m : Nat) => awake12 m hb
  by_cases hq : Rt V S T ∧ V ≤ 8
  · rw [decide_eq_true hq] at rt
    obtain ⟨hR, h8⟩ := hq
    by_cases h60 : (ops.length : Int) > 60
    · exact ⟨_, by simp only [go_sem, Nat.reduceAdd, Nat.reduceLeDiff, Nat.reduceMul, Int.reduceBEq, Int.reduceBNe, Int.reduceLT, Int.reduceLE, Int.reduceGT, hhb, rt, r0, nt, len, aBin_gtr, h60, aw]; rfl⟩
    · obtain ⟨g1, a, b, s, e1, ab, O1, st10, r3, r10, H, l1⟩ := lay12g (n := h.length) hR hb (by omega) c0
      have la := H.hb.th.la
      obtain ⟨f2, s2, mk2, E2, L2, ees2, les2, k2, e, H2, lk2, ok2⟩ := back_loop (n := h.length) (hb := hb) (h0 := h) (s5 := (Value.pointer (some ⟨h.length + 1, 0, none⟩))) (s6 := (Value.bool false)) hR (SO.heap fun hl => ohb _ hl) (by omega) (by omega) (by omega) ops.length 0 _ _ _ _ _ _ _ _ (by omega) H (by simp; omega) (fun y hy => by rw [List.getElem?_append_left (by omega), O1.old y (by omega)])
      obtain ⟨k', e'⟩ := back_end (n := h.length) (h0 := h) hR H2 ((ok2 _ (by omega)).trans c1) (by omega) (by omega)
      refine ⟨k', ?_⟩
      have z0 : ((0 : Nat) : Int) = 0 := rfl
      rw [z0] at e
      simp only [go_sem, Nat.reduceAdd, Nat.reduceLeDiff, Nat.reduceMul, Int.reduceBEq, Int.reduceBNe, Int.reduceLT, Int.reduceLE, Int.reduceGT, l0, hhb, rt, r0, nt, len, aBin_gtr, h60, e1, st10, r3, r10, mkE12, mkL12, bPlay12]
      exact e.trans e'
  · rw [decide_eq_false hq] at rt
    exact ⟨_, by simp only [go_sem, Nat.reduceAdd, Nat.reduceLeDiff, Nat.reduceMul, Int.reduceBEq, Int.reduceBNe, Int.reduceLT, Int.reduceLE, Int.reduceGT, hhb, rt, r0, nf, aw]; rfl⟩
end Go.Det.E
