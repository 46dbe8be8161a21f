/- Values: whether two are one doesn't hang on which is told first. -/
import Derived.Test.YtbliaopehpcpbaaDoorK3
set_option autoImplicit false
set_option linter.unusedVariables false
set_option linter.unusedSimpArgs false
namespace Go.Det.E
open Go.Proofs Go.Det
attribute [local congr] bind_c cond_c
variable {md : Md} {h hh h' : Heap} {x y : Raw} {xs ys l : List Raw} {v w a b s4 s5 s7 : Value} {n m : Nat}
theorem sm_comm (x y : Raw) : sm x y = sm y x := by
  unfold sm
  by_cases h : kd x = kd y
  · rw [h]
    simp only [ne_eq, not_true_eq_false, if_false]
    repeat' split
    all_goals first | rfl | (rw [Bool.eq_iff_iff, beq_iff_eq, beq_iff_eq]; exact eq_comm)
  · rw [if_pos h, if_pos (Ne.symm h)]
theorem kd_cases (x : Raw) : kd x = 0 ∨ kd x = 1 ∨ kd x = 2 ∨ kd x = 3 := by
  unfold kd; split
  · omega
  · exact .inl rfl
theorem sm_self (x : Raw) : sm x x = (kd x != 0) := by
  unfold sm
  rw [if_neg (by simp)]
  rcases kd_cases x with e | e | e | e <;> rw [e]
  · rfl
  · simp
  · simp
  · simp
theorem same_s (md : Md) (h : Heap) (x y : Raw) : C md 20 [.agg #[(Value.int .i64 x.k), (Value.int .i64 x.n), .string x.s, .int .i32 x.r], .agg #[(Value.int .i64 y.k), (Value.int .i64 y.n), .string y.s, .int .i32 y.r]] h = some (.bool (sm x y), h) := by
  have k1 := fun (m : Md) (g : Heap) => rkind_s m g x
  have k2 := fun (m : Md) (g : Heap) => rkind_s m g y
  rw [C, call_eq, F20_eq]
  unfold F20 sm
  by_cases e : kd x = kd y
  · have e1 : (kd x != kd y) = false := by simp [e]
    rw [if_neg (fun q => q e)]
    rcases kd_cases x with q | q | q | q
    · have b1 : (kd x == 1) = false := by rw [q]; rfl
      have b2 : (kd x == 2) = false := by rw [q]; rfl
      have b3 : (kd x == 3) = false := by rw [q]; rfl
      rw [if_neg (by omega), if_neg (by omega), if_neg (by omega)]
      simp only [go_sem, Nat.reduceAdd, Nat.reduceLeDiff, Nat.reduceMul, Int.reduceBEq, Int.reduceBNe, Int.reduceLT, Int.reduceLE, Int.reduceGT, k1, k2, e1, b1, b2, b3]
    · have b1 : (kd x == 1) = true := by rw [q]; rfl
      rw [if_pos q]
      simp only [go_sem, Nat.reduceAdd, Nat.reduceLeDiff, Nat.reduceMul, Int.reduceBEq, Int.reduceBNe, Int.reduceLT, Int.reduceLE, Int.reduceGT, k1, k2, e1, b1]
    · have b1 : (kd x == 1) = false := by rw [q]; rfl
      have b2 : (kd x == 2) = true := by rw [q]; rfl
      rw [if_neg (by omega), if_pos q]
      simp only [go_sem, Nat.reduceAdd, Nat.reduceLeDiff, Nat.reduceMul, Int.reduceBEq, Int.reduceBNe, Int.reduceLT, Int.reduceLE, Int.reduceGT, k1, k2, e1, b1, b2, aBin_eqS]
    · have b1 : (kd x == 1) = false := by rw [q]; rfl
      have b2 : (kd x == 2) = false := by rw [q]; rfl
      have b3 : (kd x == 3) = true := by rw [q]; rfl
      rw [if_neg (by omega), if_neg (by omega), if_pos q]
      simp only [go_sem, Nat.reduceAdd, Nat.reduceLeDiff, Nat.reduceMul, Int.reduceBEq, Int.reduceBNe, Int.reduceLT, Int.reduceLE, Int.reduceGT, k1, k2, e1, b1, b2, b3]
  · have e1 : (kd x != kd y) = true := by simpa using e
    rw [if_pos e]
    simp only [go_sem, Nat.reduceAdd, Nat.reduceLeDiff, Nat.reduceMul, Int.reduceBEq, Int.reduceBNe, Int.reduceLT, Int.reduceLE, Int.reduceGT, k1, k2, e1]
/-- A value of a list. -/
theorem vget {l : List Raw} (S : Sl h 1 encM v l) {j : Nat} {x : Raw} (hx : l[j]? = some x) : (∀ {α : Type} (kk : Value → Option α), ixS 1 v (j : Int) kk = kk ((Value.pointer (some ⟨slB v, slO v + j, none⟩)))) ∧ rd h (slB v) (slO v + j) = some (mv x) :=
  Sl.getV (Sl.vals S) (by rw [List.getElem?_map, hx]; rfl)
/-- Parts of a list. -/
theorem rget {l : List Raw} (S : Sl h 4 encR v l) {j : Nat} {x : Raw} (hx : l[j]? = some x) : (∀ {α : Type} (kk : Value → Option α), ixS 4 v (j : Int) kk = kk ((Value.pointer (some ⟨slB v, slO v + j * 4, none⟩)))) ∧ rdN h (slB v) (slO v + j * 4) 4 = some [(Value.int .i64 x.k), (Value.int .i64 x.n), .string x.s, .int .i32 x.r] := by
  have h1 : j < l.length := (List.getElem?_eq_some_iff.1 hx).1
  exact ⟨fun kk => by rw [S.ix (by omega) (by omega) kk, Int.toNat_natCast], S.elem hx⟩
theorem eq_lists {l m : List Raw} (Sa : Sl h 1 encM a l) (Sb : Sl h 1 encM b m) (hlen : l.length ≤ 1000) (hb : below2 h.length b = true) (md : Md) :
    C md 19 [.iface 33 a, .iface 33 b] h = some (.bool (decide (l.length = m.length) && allF (fun i => sm (l.getD i ⟨0, 0, ⟨#[]⟩, 0⟩) (m.getD i ⟨0, 0, ⟨#[]⟩, 0⟩)) 0 l.length), h) := by
  have := eq_ll (F := fun i => sm (l.getD i ⟨0, 0, ⟨#[]⟩, 0⟩) (m.getD i ⟨0, 0, ⟨#[]⟩, 0⟩)) (Sl.vals Sa) (Sl.vals Sb) (by simpa using hlen) (fun i v w hv hw m' => by
    rw [List.getElem?_map] at hv hw
    cases hx : l[i]? with
    | none => rw [hx] at hv; cases hv
    | some x =>
      cases hy : m[i]? with
      | none => rw [hy] at hw; cases hw
      | some y =>
        rw [hx] at hv; rw [hy] at hw
        cases hv; cases hw
        rw [eq_mm, List.getD_eq_getElem?_getD, List.getD_eq_getElem?_getD, hx, hy]; rfl) hb md
  simpa using this
theorem turns_in {m : List Raw} {i : Nat} (Sl0 : Sl h 4 encR v l) (Sm : Sl h 4 encR w m) (Sb : Sl h 1 encM b m) (hx : l[i]? = some x) (hm : m.length ≤ 40) (hi : i ≤ 40) {s6 s35 s36 : Value} : ∀ (c k : Nat), k + c = m.length →
    J7_0b0 C md v w s4 s5 s6 ((Value.int .i64 ((i : Int)))) (mv x) s35 s36 ((Value.int .i64 ((i : Int)))) b ((Value.int .i64 ((m.length : Int)))) ((Value.int .i64 ((k : Int)))) h = some (.inl ((v, w, s4, s5, s6, s35, s36, (Value.int .i64 (((i + 1 : Nat) : Int)))), h)) := by
  have wi1 : IntKind.wrap .i64 ((i : Int) + 1) = ((i + 1 : Nat) : Int) := by rw [IntKind.wrap_i64]; omega
  intro c
  induction c with
  | zero =>
    intro k hk
    obtain rfl : k = m.length := by omega
    rw [J7_0b0_step]
    unfold Jr7_0b0
    simp only [go_sem, Nat.reduceAdd, Nat.reduceLeDiff, Nat.reduceMul, Int.reduceBEq, Int.reduceBNe, Int.reduceLT, Int.reduceLE, Int.reduceGT, aBin_lss, Int.lt_irrefl, Jk7_0b0, aBin_add, wi1]
  | succ c ih =>
    intro k hk
    have hlt : (k : Int) < (m.length : Int) := by omega
    obtain ⟨y, hy⟩ : ∃ y, m[k]? = some y := ⟨m[k]'(by omega), List.getElem?_eq_getElem (by omega)⟩
    have w1 : IntKind.wrap .i64 ((k : Int) + 1) = ((k + 1 : Nat) : Int) := by rw [IntKind.wrap_i64]; omega
    obtain ⟨i1, r1⟩ := vget Sb hy
    obtain ⟨i2, r2⟩ := rget Sl0 hx
    obtain ⟨i3, r3⟩ := rget Sm hy
    have q1 := fun (m' : Md) (g : Heap) => eq_mm m' g x y
    have q2 := fun (m' : Md) (g : Heap) => eq_mm m' g y x
    rw [sm_comm y x] at q2
    have q3 := fun (m' : Md) (g : Heap) => same_s m' g x y
    have bb : ∀ z : Bool, (z == z) = true := by intro z; cases z <;> rfl
    rw [J7_0b0_step]
    unfold Jr7_0b0
    simp only [go_sem, Nat.reduceAdd, Nat.reduceLeDiff, Nat.reduceMul, Int.reduceBEq, Int.reduceBNe, Int.reduceLT, Int.reduceLE, Int.reduceGT, aBin_lss, hlt, ixSV_p, i1, r1, q1, q2, aBin_neB, bb, i2, r2, i3, r3, q3, aBin_add, w1]
    exact ih (k + 1) (by omega)
theorem turns_out {m : List Raw} (Sl0 : Sl h 4 encR v l) (Sm : Sl h 4 encR w m) (Sa : Sl h 1 encM a l) (Sb : Sl h 1 encM b m) (hl : l.length ≤ 40) (hm : m.length ≤ 40) {h0 : Heap} : ∀ (c i : Nat), i + c = l.length →
    ∃ g, J7_0 C md h0 v w s4 a b a ((Value.int .i64 ((l.length : Int)))) ((Value.int .i64 ((i : Int)))) h = some (.bool true, g) := by
  intro c
  induction c with
  | zero =>
    intro i hi
    obtain rfl : i = l.length := by omega
    refine ⟨h.take h0.length, ?_⟩
    rw [J7_0_step]
    unfold Jr7_0
    simp only [go_sem, Nat.reduceAdd, Nat.reduceLeDiff, Nat.reduceMul, Int.reduceBEq, Int.reduceBNe, Int.reduceLT, Int.reduceLE, Int.reduceGT, aBin_lss, Int.lt_irrefl, Jk7_0, awake03]
  | succ c ih =>
    intro i hi
    have hlt : (i : Int) < (l.length : Int) := by omega
    obtain ⟨x, hx⟩ : ∃ x, l[i]? = some x := ⟨l[i]'(by omega), List.getElem?_eq_getElem (by omega)⟩
    obtain ⟨i1, r1⟩ := vget Sa hx
    obtain ⟨i2, r2⟩ := rget Sl0 hx
    have q1 := fun (m' : Md) (g : Heap) => eq_mm m' g x x
    rw [sm_self] at q1
    have q2 := fun (m' : Md) (g : Heap) => rkind_s m' g x
    have q3 := fun (m' : Md) (g : Heap) => eq_ml m' g x a
    have lb := fun {α : Type} (k : Value → Option α) => Sb.len k
    have bb : ∀ z : Bool, (z == z) = true := by intro z; cases z <;> rfl
    have e := turns_in (md := md) (s4 := s4) (s5 := a) (s6 := b) (s35 := a) (s36 := (Value.int .i64 ((l.length : Int)))) Sl0 Sm Sb hx hm (by omega) m.length 0 (by omega)
    obtain ⟨g, eg⟩ := ih (i + 1) (by omega)
    refine ⟨g, ?_⟩
    rw [J7_0_step]
    unfold Jr7_0
    have z0 : ((0 : Nat) : Int) = 0 := rfl
    rw [z0] at e
    simp only [go_sem, Nat.reduceAdd, Nat.reduceLeDiff, Nat.reduceMul, Int.reduceBEq, Int.reduceBNe, Int.reduceLT, Int.reduceLE, Int.reduceGT, aBin_lss, hlt, ixSV_p, i1, r1, q1, i2, r2, q2, aBin_neB, bb, q3, lb, e]
    exact eg
theorem turns_law : Law Tryd.prog cfg 7 [24, 24] := by
  intro h avs ha
  obtain ⟨v, r, rfl, a0, ha⟩ := args_cons ha
  obtain ⟨w, r, rfl, a1, ha⟩ := args_cons ha
  obtain rfl := args_nil ha
  obtain ⟨l, SV, hr, _⟩ := arg_raws a0
  obtain ⟨m, SW, hr', _⟩ := arg_raws a1
  have len := fun {α : Type} (k : Value → Option α) => SV.len k
  have len' := fun {α : Type} (k : Value → Option α) => SW.len k
  rw [call_eq, F7_eq]
  unfold F7
  have tk : h.take h.length = h := take_same (Nat.le_refl _)
  by_cases h40 : (l.length : Int) > 40
  · exact ⟨h, by simp only [go_sem, Nat.reduceAdd, Nat.reduceLeDiff, Nat.reduceMul, Int.reduceBEq, Int.reduceBNe, Int.reduceLT, Int.reduceLE, Int.reduceGT, len, h40, awake03, tk]⟩
  by_cases g40 : (m.length : Int) > 40
  · exact ⟨h, by simp only [go_sem, Nat.reduceAdd, Nat.reduceLeDiff, Nat.reduceMul, Int.reduceBEq, Int.reduceBNe, Int.reduceLT, Int.reduceLE, Int.reduceGT, len, len', h40, aBin_gtr, g40, awake03, tk]⟩
  obtain ⟨v2, h2, e2, S2, O2⟩ := list_s ⟨0, h.length⟩ (Nat.zero_le _) (Nat.le_refl _) SV (by omega)
  have l2 := O2.len
  obtain ⟨v3, h3, e3, S3, O3⟩ := list_s ⟨0, h.length⟩ (h := h2) (Nat.zero_le _) (by show h.length ≤ h2.length; omega) (SW.heap fun hl => O2.old _ hl) (by omega)
  have l3 := O3.len
  have S2' : SlO h3 h.length 1 encM v2 l := S2.at fun y h1 h2 => O3.old y h2
  have V3 : Sl h3 4 encR v l := SV.heap fun hl => by rw [O3.old _ (by omega), O2.old _ hl]
  have W3 : Sl h3 4 encR w m := SW.heap fun hl => by rw [O3.old _ (by omega), O2.old _ hl]
  have q1 := fun (m' : Md) => eq_lists S2'.sl S3.sl (by omega) (SlO.below S3) m'
  have q2 := fun (m' : Md) => eq_lists S3.sl S2'.sl (by omega) (SlO.below S2') m'
  have sw : (decide (m.length = l.length) && allF (fun i => sm (m.getD i ⟨0, 0, ⟨#[]⟩, 0⟩) (l.getD i ⟨0, 0, ⟨#[]⟩, 0⟩)) 0 m.length) = (decide (l.length = m.length) && allF (fun i => sm (l.getD i ⟨0, 0, ⟨#[]⟩, 0⟩) (m.getD i ⟨0, 0, ⟨#[]⟩, 0⟩)) 0 l.length) := by
    by_cases e : l.length = m.length
    · rw [e]
      congr 1
      exact allF_ext fun i _ _ => sm_comm _ _
    · rw [decide_eq_false e, decide_eq_false (Ne.symm e)]; rfl
  rw [sw] at q2
  have bb : ∀ z : Bool, (z == z) = true := by intro z; cases z <;> rfl
  have lv := fun {α : Type} (k : Value → Option α) => S2'.sl.len k
  obtain ⟨g, eg⟩ := turns_out (md := ⟨0, h.length⟩) (s4 := .bool false) (h0 := h) V3 W3 S2'.sl S3.sl (by omega) (by omega) l.length 0 (by omega)
  refine ⟨g, ?_⟩
  simp only [go_sem, Nat.reduceAdd, Nat.reduceLeDiff, Nat.reduceMul, Int.reduceBEq, Int.reduceBNe, Int.reduceLT, Int.reduceLE, Int.reduceGT, len, len', h40, aBin_gtr, g40, e2, e3, q1, q2, aBin_neB, bb, lv]
  exact eg
end Go.Det.E
