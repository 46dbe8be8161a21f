/- AdjPlays. -/
import Derived.Test.YtibaodefgncbmaaQ6
set_option autoImplicit false
set_option linter.unusedVariables false
set_option linter.unusedSimpArgs false
namespace Go.Det.E
open Go.Proofs Go.Det Go.Det.U
attribute [local congr] bind_c cond_c
variable {md : Md} {h hb hh k h' : Heap} {a b n q eb lb : Nat} {V S T x y z u v w i lv sl K SL U W LV : Int} {f f' : Int → Int} {s s' : NS} {mk : Int → Nat} {L L' : Int → Int → List Int} {E Em : EM} {ees les : List (MK × Value)} {ops : List Op12} {ov : Value}
/-- The play, once its parts are laid. -/
theorem HA.start (hR : Rt V S T) (A : TH V S T (fun _ => 0) a b s h) (M : LM V S s (fun _ => 0) L0) : HA V S T (fun _ => 0) a b (h.length + 2) h.length (h.length + 1) s (fun _ => 0) E0 L0 [] [] (h ++ [Blk.mp (.one .i64) [], Blk.mp (.two .i64) [], Blk.own (qC V S T a h.length (h.length + 1))]) := by
  have la := A.la
  refine ⟨⟨A.app _, EE.zero hR, LS.zero hR, M, ?_, ⟨?_, trivial, fun _ => rfl⟩, ⟨?_, fun v i => SlO.nil _ _ eZ_len⟩, by omega⟩, ⟨fun v i x hx => (nomatch hx), fun sl u w i e => (nomatch e)⟩⟩
  · rw [List.getElem?_append_right (by omega)]; simp
  · rw [List.getElem?_append_right (by omega)]; simp
  · rw [List.getElem?_append_right (by omega)]; simp
/-- Any calls, each told whole. -/
theorem plays12_loop {h0 : Heap} (hR : Rt V S T) (SO : Sl hb 5 encO12 ov ops) (hl : ops.length ≤ 60) (hn : n ≤ a ∧ n ≤ eb) (hba : hb.length ≤ a ∧ hb.length ≤ b ∧ hb.length ≤ eb ∧ hb.length ≤ lb) {s4 : Value} : ∀ (m i : Nat) (k : Heap) (f : Int → Int) (s : NS) (mk : Int → Nat) (E : EM) (L : Int → Int → List Int) (ees les : List (MK × Value)), i + m = ops.length → HA V S T f a b q eb lb s mk E L ees les k → hb.length ≤ k.length → (∀ y, y < hb.length → k[y]? = hb[y]?) →
    ∃ k', J3_0 C ⟨0, n⟩ h0 s4 ((Value.pointer (some ⟨q, 0, none⟩))) ov ((Value.int .i64 ((ops.length : Int)))) ((Value.int .i64 ((i : Int)))) k = some ((Value.bool true), k') := by
  intro m
  induction m with
  | zero =>
    intro i k f s mk E L ees les hi H hlk ok
    obtain rfl : i = ops.length := by omega
    have aw := fun (m : Nat) => awake12 m k
    refine ⟨k.take h0.length, ?_⟩
    rw [J3_0_step]
    unfold Jr3_0
    simp only [go_sem, Nat.reduceAdd, Nat.reduceLeDiff, Nat.reduceMul, Int.reduceBEq, Int.reduceBNe, Int.reduceLT, Int.reduceLE, Int.reduceGT, aBin_lss, Int.lt_irrefl, Jk3_0, aw]
  | succ m ih =>
    intro i k f s mk E L ees les hi H hlk ok
    have hlt : (i : Int) < (ops.length : Int) := by omega
    have w : IntKind.wrap .i64 ((i : Int) + 1) = ((i + 1 : Nat) : Int) := by rw [wi (by omega) (by omega)]; rfl
    obtain ⟨o, ho⟩ : ∃ o, ops[i]? = some o := ⟨ops[i]'(by omega), List.getElem?_eq_getElem (by omega)⟩
    have S1 : Sl k 5 encO12 ov ops := SO.heap fun hl => ok _ hl
    have ix := fun {α : Type} (kk : Value → Option α) => S1.ix (i := (i : Int)) (by omega) hlt kk
    have el := S1.elem ho
    simp only [Int.toNat_natCast] at ix
    have la := H.hb.th.la
    have st5 := fun {α : Type} (kk : Heap → Option α) => st_N ⟨0, n⟩ 5 k.length 0 (encO12 o) (k ++ [Blk.own [(Value.int .i64 0), (Value.int .i64 0), (Value.int .i64 0), (Value.int .i64 0), (Value.int .i64 0)]]) kk rfl rfl
    have w5 : wrN ⟨0, n⟩ (k ++ [Blk.own [(Value.int .i64 0), (Value.int .i64 0), (Value.int .i64 0), (Value.int .i64 0), (Value.int .i64 0)]]) k.length 0 (encO12 o) = some (k ++ [Blk.own (encO12 o)]) := wrN_new0 (bs := []) (Nat.zero_le _) (by show n ≤ _; omega) (by simp)
    have r5 : rdN (k ++ [Blk.own (encO12 o)]) k.length 0 5 = some (encO12 o) := by rw [rdN_new0]; rfl
    have H1 : HA V S T f a b q eb lb s mk E L ees les (k ++ [Blk.own (encO12 o)]) := ⟨H.hb.fm fun y hy => List.getElem?_append_left hy, H.lk⟩
    have l1 : (k ++ [Blk.own (encO12 o)]).length = k.length + 1 := by simp
    have o1 : ∀ y, y < k.length → (k ++ [Blk.own (encO12 o)])[y]? = k[y]? := fun y hy => List.getElem?_append_left hy
    obtain ⟨f2, s2, mk2, E2, L2, ees2, les2, k2, e2, H2, fm2, _⟩ := step12 (n := n) hR H1 hn o.k o.sl o.u o.w o.lv
    obtain ⟨k3, e3, H3, o3⟩ := is12 n hR H2
    have l2 := fm2.len
    obtain ⟨k', e4⟩ := ih (i + 1) k3 _ _ _ _ _ _ _ (by omega) H3 (by rw [o3.len]; omega) (fun y hy => by rw [o3.oth y (by omega) (by omega), fm2.old y (by omega) (by omega) (by omega) (by omega) (by omega), o1 y (by omega), ok y hy])
    refine ⟨k', ?_⟩
    have nt : (!true) = false := rfl
    rw [J3_0_step]
    unfold Jr3_0
    simp only [go_sem, Nat.reduceAdd, Nat.reduceLeDiff, Nat.reduceMul, Int.reduceBEq, Int.reduceBNe, Int.reduceLT, Int.reduceLE, Int.reduceGT, aBin_lss, hlt, ixSV_p, ix, el, st5, w5, r5, e2, e3, nt, aBin_add, w]
    exact e4
/-- What each law of 12 lays at first. -/
theorem lay12 (hR : Rt V S T) (h : Heap) :
    ∃ g1 a b s, C ⟨0, h.length⟩ 9 [(Value.agg #[(Value.int .i64 V), (Value.int .i64 S), (Value.int .i64 T)])] (h ++ [Blk.own [(Value.int .i64 V), (Value.int .i64 S), (Value.int .i64 T)]]) = some ((Value.tuple #[.agg (List.toArray (B10 V S T a)), (Value.bool true)]), g1) ∧ (h.length + 1 ≤ a ∧ h.length + 1 ≤ b) ∧ Old (h.length + 1) (h ++ [Blk.own [(Value.int .i64 V), (Value.int .i64 S), (Value.int .i64 T)]]) g1 ∧
      (∀ {α : Type} (kk : Heap → Option α), st ⟨0, h.length⟩ 10 ((Value.pointer (some ⟨g1.length, 0, none⟩))) (.agg (List.toArray (B10 V S T a))) (g1 ++ [Blk.own [(Value.int .i64 0), (Value.int .i64 0), (Value.int .i64 0), .nilIface, (Value.int .i64 0), (Value.int .i64 0), (Value.int .i64 0), (Value.int .i64 0), (Value.int .i64 0), .nilIface]]) kk = kk (g1 ++ [Blk.own (B10 V S T a)])) ∧
      rdN (g1 ++ [Blk.own (B10 V S T a)]) h.length 0 3 = some [(Value.int .i64 V), (Value.int .i64 S), (Value.int .i64 T)] ∧ rdN (g1 ++ [Blk.own (B10 V S T a)]) g1.length 0 10 = some (B10 V S T a) ∧ HA V S T (fun _ => 0) a b (g1.length + 1 + 2) (g1.length + 1) (g1.length + 1 + 1) s (fun _ => 0) E0 L0 [] [] (g1 ++ [Blk.own (B10 V S T a), Blk.mp (.one .i64) [], Blk.mp (.two .i64) [], Blk.own (qC V S T a (g1.length + 1) (g1.length + 1 + 1))]) ∧ h.length + 1 ≤ g1.length := by
  have lg : (h ++ [Blk.own [(Value.int .i64 V), (Value.int .i64 S), (Value.int .i64 T)]]).length = h.length + 1 := by simp
  obtain ⟨g1, a, b, s, e1, A1, M1, ab, O1⟩ := begun12 (n := h.length) (h := h ++ [Blk.own [(Value.int .i64 V), (Value.int .i64 S), (Value.int .i64 T)]]) hR (by omega)
  rw [lg] at ab O1
  have l1 := O1.len
  rw [lg] at l1
  have c0 : g1[h.length]? = some (.own [(Value.int .i64 V), (Value.int .i64 S), (Value.int .i64 T)]) := by rw [O1.old _ (by omega)]; exact List.getElem?_concat_length ..
  refine ⟨g1, a, b, s, e1, ab, O1, fun kk => ?_, ?_, ?_, ?_, l1⟩
  · rw [st_N ⟨0, h.length⟩ 10 g1.length 0 (B10 V S T a) _ kk rfl rfl]
    have w10 : wrN ⟨0, h.length⟩ (g1 ++ [Blk.own [(Value.int .i64 0), (Value.int .i64 0), (Value.int .i64 0), .nilIface, (Value.int .i64 0), (Value.int .i64 0), (Value.int .i64 0), (Value.int .i64 0), (Value.int .i64 0), .nilIface]]) g1.length 0 (B10 V S T a) = some (g1 ++ [Blk.own (B10 V S T a)]) := wrN_new0 (bs := []) (Nat.zero_le _) (by show h.length ≤ _; omega) (by simp)
    rw [w10]; rfl
  · rw [rdN_at (by rw [List.getElem?_append_left (by omega)]; exact c0) (Nat.le_refl 3)]; rfl
  · rw [rdN_at (List.getElem?_concat_length ..) (by simp [Blk.cells])]; rfl
  · have la := A1.la
    have := HA.start hR (A1.app [Blk.own (B10 V S T a)]) M1
    have lg2 : (g1 ++ [Blk.own (B10 V S T a)]).length = g1.length + 1 := by simp
    rw [lg2, List.append_assoc] at this
    exact this
theorem mkE12 {α : Type} (h : Heap) (kk : Value → Heap → Option α) : aMakeMap Try.prog 42 h kk = kk (.map (some h.length)) (h ++ [.mp (.one .i64) []]) := aMakeMap_p tyE
theorem mkL12 {α : Type} (h : Heap) (kk : Value → Heap → Option α) : aMakeMap Try.prog 43 h kk = kk (.map (some h.length)) (h ++ [.mp (.two .i64) []]) := aMakeMap_p tyL
theorem plays12_law : Law Try.prog cfg 3 [23, 24] := by
  intro h avs ha
  obtain ⟨x, r, rfl, a0, ha⟩ := args_cons ha
  obtain ⟨ov, r, rfl, a1, ha⟩ := args_cons ha
  obtain rfl := args_nil ha
  obtain ⟨V, S, T, rfl⟩ := arg_lay12 a0
  obtain ⟨ops, SO⟩ := arg_ops12 a1
  have rt := right12 ⟨0, h.length⟩ (h ++ [Blk.own [(Value.int .i64 V), (Value.int .i64 S), (Value.int .i64 T)]]) V S T
  have r0 : rdN (h ++ [Blk.own [(Value.int .i64 V), (Value.int .i64 S), (Value.int .i64 T)]]) h.length 0 3 = some [(Value.int .i64 V), (Value.int .i64 S), (Value.int .i64 T)] := by rw [rdN_new0]; rfl
  have len := fun {α : Type} (k : Value → Option α) => SO.len k
  have nt : (!true) = false := rfl
  have nf : (!false) = true := rfl
  rw [call_eq, F3_eq]
  unfold F3
  have aw := fun (m : Nat) => awake12 m (h ++ [Blk.own [(Value.int .i64 V), (Value.int .i64 S), (Value.int .i64 T)]])
  by_cases hq : Rt V S T ∧ V ≤ 8
  · rw [decide_eq_true hq] at rt
    obtain ⟨hR, h8⟩ := hq
    by_cases h60 : (ops.length : Int) > 60
    · exact ⟨_, by simp only [go_sem, Nat.reduceAdd, Nat.reduceLeDiff, Nat.reduceMul, Int.reduceBEq, Int.reduceBNe, Int.reduceLT, Int.reduceLE, Int.reduceGT, rt, r0, nt, len, aBin_gtr, h60, aw]; rfl⟩
    · obtain ⟨g1, a, b, s, e1, ab, O1, st10, r3, r10, H, l1⟩ := lay12 hR h
      have la := H.hb.th.la
      obtain ⟨k', e⟩ := plays12_loop (n := h.length) (h0 := h) (s4 := (Value.bool false)) hR SO (by omega) (by omega) (by omega) ops.length 0 _ _ _ _ _ _ _ _ (by omega) H (by simp; omega) (fun y hy => by rw [List.getElem?_append_left (by omega), O1.old y (by omega), List.getElem?_append_left hy])
      refine ⟨k', ?_⟩
      have z0 : ((0 : Nat) : Int) = 0 := rfl
      rw [z0] at e
      simp only [go_sem, Nat.reduceAdd, Nat.reduceLeDiff, Nat.reduceMul, Int.reduceBEq, Int.reduceBNe, Int.reduceLT, Int.reduceLE, Int.reduceGT, rt, r0, nt, len, aBin_gtr, h60, e1, st10, r3, r10, mkE12, mkL12, bPlay12]
      exact e
  · rw [decide_eq_false hq] at rt
    exact ⟨_, by simp only [go_sem, Nat.reduceAdd, Nat.reduceLeDiff, Nat.reduceMul, Int.reduceBEq, Int.reduceBNe, Int.reduceLT, Int.reduceLE, Int.reduceGT, rt, r0, nf, aw]; rfl⟩
end Go.Det.E
