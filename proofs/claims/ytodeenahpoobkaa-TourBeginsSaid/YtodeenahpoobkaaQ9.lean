/- The laws of 10: what each begins with. -/
import Derived.Test.YtodeenahpoobkaaQ6
import Derived.Test.YtodeenahpoobkaaEG
set_option autoImplicit false
set_option linter.unusedVariables false
set_option linter.unusedSimpArgs false
namespace Go.Det.E
open Go.Proofs Go.Det Go.Det.U
attribute [local congr] bind_c cond_c
variable {md : Md} {h hh k h' : Heap} {V S T x v p f : Int} {D : List Int} {dv ov : Value} {ops : List OpT}
abbrev encT (o : OpT) : List Value := [(Value.int .i64 o.k), (Value.int .i64 o.lv), (Value.int .i64 o.sl), (Value.int .i64 o.u), (Value.int .i64 o.w)]
theorem encT_len (o : OpT) : (encT o).length = 5 := rfl
theorem ops10_of {h : Heap} {ess : List (List Value)} (a : TyE h [.i .i64, .i .i64, .i .i64, .i .i64, .i .i64] ess) : ∃ ops : List OpT, ess = ops.map encT := by
  induction ess with
  | nil => exact ⟨[], rfl⟩
  | cons es ess ih =>
    cases a with
    | cons _ _ _ b h2 =>
      obtain ⟨v1, r, rfl, a1, b⟩ := l_cons b
      obtain ⟨v2, r, rfl, a2, b⟩ := l_cons b
      obtain ⟨v3, r, rfl, a3, b⟩ := l_cons b
      obtain ⟨v4, r, rfl, a4, b⟩ := l_cons b
      obtain ⟨v6, r, rfl, a6, b⟩ := l_cons b
      obtain rfl := l_nil b
      obtain ⟨x1, rfl, _⟩ := inI64 a1
      obtain ⟨x2, rfl, _⟩ := inI64 a2
      obtain ⟨x3, rfl, _⟩ := inI64 a3
      obtain ⟨x4, rfl, _⟩ := inI64 a4
      obtain ⟨x6, rfl, _⟩ := inI64 a6
      obtain ⟨ops, e⟩ := ih h2
      exact ⟨⟨x1, x2, x3, x4, x6⟩ :: ops, by rw [e]; rfl⟩
theorem arg_case10 {h : Heap} {v : Value} (x : TyArg Try.prog h 66 v) : ∃ (V S T : Int) (dv ov : Value) (D : List Int) (ops : List OpT), v = (Value.agg #[(Value.int .i64 V), (Value.int .i64 S), (Value.int .i64 T), dv, ov]) ∧ Sl h 1 eU dv D ∧ Wd D ∧ Sl h 5 encT ov ops := by
  obtain ⟨acs, e, b⟩ := argN (P := Try.prog) (l := [.i .i64, .i .i64, .i .i64, .sl [.i .u64], .sl [.i .i64, .i .i64, .i .i64, .i .i64, .i .i64]]) (by kernel_rfl) (by kernel_rfl) x
  obtain ⟨v1, r, rfl, a1, b⟩ := l_cons b
  obtain ⟨v2, r, rfl, a2, b⟩ := l_cons b
  obtain ⟨v3, r, rfl, a3, b⟩ := l_cons b
  obtain ⟨v4, r, rfl, a4, b⟩ := l_cons b
  obtain ⟨v5, r, rfl, a5, b⟩ := l_cons b
  obtain rfl := l_nil b
  obtain ⟨V, rfl, _⟩ := inI64 a1
  obtain ⟨S, rfl, _⟩ := inI64 a2
  obtain ⟨T, rfl, _⟩ := inI64 a3
  have hD : ∃ D, Sl h 1 eU v4 D ∧ Wd D := by
    rcases inSl a4 with e | ⟨b, ess, e, hb', hl, he⟩
    · rw [e]; exact ⟨[], Sl.nil _ eU_len, fun _ h => by simp at h⟩
    · obtain ⟨vs, rfl, e2, hv⟩ := elems1 he
      have : ∃ ws : List Int, vs = ws.map (.int .u64) ∧ Wd ws := by
        clear e hb' hl he e2
        induction vs with
        | nil => exact ⟨[], rfl, fun _ h => by simp at h⟩
        | cons v vs ih =>
          obtain ⟨ws, e, w⟩ := ih fun u hu => hv u (List.mem_cons_of_mem _ hu)
          obtain ⟨n, rfl, n0, n1⟩ := inU64 (hv v List.mem_cons_self)
          refine ⟨n :: ws, by rw [e]; rfl, fun m hm => ?_⟩
          rcases List.mem_cons.1 hm with rfl | hm
          · exact ⟨n0, n1⟩
          · exact w m hm
      obtain ⟨ws, rfl, w⟩ := this
      refine ⟨ws, ?_, w⟩
      rw [e]
      refine Sl.whole eU_len hb' ?_ (by simp)
      show List.flatten _ = _
      rw [e2]
      clear hb' hl he e2 e hv w
      induction ws with
      | nil => rfl
      | cons x ws ih => rw [flat_cons, ← ih]; rfl
  obtain ⟨D, SD, wD⟩ := hD
  have hO : ∃ ops, Sl h 5 encT v5 ops := by
    rcases inSl a5 with e | ⟨b, ess, e, hb, _, he⟩
    · rw [e]; exact ⟨[], Sl.nil _ encT_len⟩
    · obtain ⟨ops, rfl⟩ := ops10_of he
      rw [e]
      exact ⟨ops, Sl.whole encT_len hb rfl (by simp)⟩
  obtain ⟨ops, SO⟩ := hO
  exact ⟨V, S, T, v4, v5, D, ops, e, SD, wD, SO⟩
theorem refright10 (md : Md) (h : Heap) (V S T : Int) : C md 50 [(Value.agg #[(Value.int .i64 V), (Value.int .i64 S), (Value.int .i64 T)])] h = some ((Value.bool (decide (Rt V S T))), h) := by
  rw [C, call_eq, F50_eq]
  unfold F50 Rt
  by_cases h1 : 1 ≤ V <;> (try by_cases h2 : V ≤ 16) <;> (try by_cases h3 : 0 ≤ S) <;> (try by_cases h4 : S ≤ 48) <;> (try by_cases h5 : 1 ≤ T) <;> (try by_cases h6 : T ≤ 8) <;>
    simp only [go_sem, Nat.reduceAdd, Nat.reduceLeDiff, Nat.reduceMul, Int.reduceBEq, Int.reduceBNe, Int.reduceLT, Int.reduceLE, Int.reduceGT, ge_iff_le, *, aBin_leq, aBin_geq, false_and, and_false, true_and, and_self]
theorem right10 (hro : md.ro ≤ h.length) (hlim : md.lim ≤ h.length) (SD : Sl h 1 eU dv D) (SO : Sl h 5 encT ov ops) :
    C md 31 [(Value.agg #[(Value.int .i64 V), (Value.int .i64 S), (Value.int .i64 T), dv, ov])] h = some ((Value.bool (decide (Rt V S T ∧ V ≤ 8 ∧ S ≤ 8 ∧ (D.length : Int) ≤ 60 ∧ (ops.length : Int) ≤ 60))), h) := by
  have ld := fun {α : Type} (k : Value → Option α) => SD.len k
  have lo := fun {α : Type} (k : Value → Option α) => SO.len k
  have h1 : md.ro ≤ h.length + 1 := by omega
  have h2 : md.lim ≤ h.length + 1 := by omega
  rw [C, call_eq, F31_eq]
  unfold F31
  by_cases c1 : Rt V S T
  · by_cases c2 : V ≤ 8
    · by_cases c3 : S ≤ 8
      · by_cases c4 : (D.length : Int) ≤ 60
        · by_cases c5 : (ops.length : Int) ≤ 60
          · have : decide (Rt V S T ∧ V ≤ 8 ∧ S ≤ 8 ∧ (D.length : Int) ≤ 60 ∧ (ops.length : Int) ≤ 60) = true := decide_eq_true ⟨c1, c2, c3, c4, c5⟩
            rw [this]
            simp only [go_sem, Nat.reduceAdd, Nat.reduceLeDiff, Nat.reduceMul, Int.reduceBEq, Int.reduceBNe, Int.reduceLT, Int.reduceLE, Int.reduceGT, refright10, c1, aBin_leq, c2, c3, ld, c4, lo, c5, h1, h2]
          · have : decide (Rt V S T ∧ V ≤ 8 ∧ S ≤ 8 ∧ (D.length : Int) ≤ 60 ∧ (ops.length : Int) ≤ 60) = false := decide_eq_false fun z => c5 z.2.2.2.2
            rw [this]
            simp only [go_sem, Nat.reduceAdd, Nat.reduceLeDiff, Nat.reduceMul, Int.reduceBEq, Int.reduceBNe, Int.reduceLT, Int.reduceLE, Int.reduceGT, refright10, c1, aBin_leq, c2, c3, ld, c4, lo, c5, h1, h2]
        · have : decide (Rt V S T ∧ V ≤ 8 ∧ S ≤ 8 ∧ (D.length : Int) ≤ 60 ∧ (ops.length : Int) ≤ 60) = false := decide_eq_false fun z => c4 z.2.2.2.1
          rw [this]
          simp only [go_sem, Nat.reduceAdd, Nat.reduceLeDiff, Nat.reduceMul, Int.reduceBEq, Int.reduceBNe, Int.reduceLT, Int.reduceLE, Int.reduceGT, refright10, c1, aBin_leq, c2, c3, ld, c4, h1, h2]
      · have : decide (Rt V S T ∧ V ≤ 8 ∧ S ≤ 8 ∧ (D.length : Int) ≤ 60 ∧ (ops.length : Int) ≤ 60) = false := decide_eq_false fun z => c3 z.2.2.1
        rw [this]
        simp only [go_sem, Nat.reduceAdd, Nat.reduceLeDiff, Nat.reduceMul, Int.reduceBEq, Int.reduceBNe, Int.reduceLT, Int.reduceLE, Int.reduceGT, refright10, c1, aBin_leq, c2, c3, h1, h2]
    · have : decide (Rt V S T ∧ V ≤ 8 ∧ S ≤ 8 ∧ (D.length : Int) ≤ 60 ∧ (ops.length : Int) ≤ 60) = false := decide_eq_false fun z => c2 z.2.1
      rw [this]
      simp only [go_sem, Nat.reduceAdd, Nat.reduceLeDiff, Nat.reduceMul, Int.reduceBEq, Int.reduceBNe, Int.reduceLT, Int.reduceLE, Int.reduceGT, refright10, c1, aBin_leq, c2, h1, h2]
  · have : decide (Rt V S T ∧ V ≤ 8 ∧ S ≤ 8 ∧ (D.length : Int) ≤ 60 ∧ (ops.length : Int) ≤ 60) = false := decide_eq_false fun z => c1 z.1
    rw [this]
    simp only [go_sem, Nat.reduceAdd, Nat.reduceLeDiff, Nat.reduceMul, Int.reduceBEq, Int.reduceBNe, Int.reduceLT, Int.reduceLE, Int.reduceGT, refright10, c1, h1, h2]
end Go.Det.E
/- The laws of 10: is the machine awake. -/
namespace Go.Det.E
open Go.Proofs Go.Det Go.Det.U
attribute [local congr] bind_c cond_c
theorem take_same10 {h k : Heap} (hl : h.length ≤ k.length) (o : ∀ y, y < h.length → k[y]? = h[y]?) : k.take h.length = h := by
  refine List.ext_getElem? fun y => ?_
  by_cases hy : y < h.length
  · rw [List.getElem?_take_of_lt hy, o y hy]
  · rw [List.getElem?_eq_none (by rw [List.length_take]; omega), List.getElem?_eq_none (by omega)]
set_option maxHeartbeats 4000000 in
set_option maxRecDepth 100000 in
theorem awake10 (n : Nat) (h : Heap) (hp : 0 < h.length) : C ⟨0, n⟩ 32 [] h = some ((Value.bool true), h) := by
  have hR : Rt 2 1 1 := by unfold Rt; omega
  obtain ⟨k1, q, a, b, l0, s1, RW, LK, lvs, lks, rvss, e1, H1, W, l1, o1⟩ := begun10 (V := 2) (S := 1) (T := 1) (n := h.length) (dv := .slice none 0 0) (ov := .slice none 0 0) (D := []) hR hp (Nat.le_refl _) (Sl.nil h eU_len) (fun _ h => by simp at h)
  have lo := H1.lo
  have hrs : (rss0 2)[0]? = some [[1], [2]] := by decide
  have hps : (pss0 2 1)[0]? = some [(-1, -1)] := by decide
  have nl : ∀ e, ¬ Lk [((-1 : Int), (-1 : Int))] 0 e := fun e h => by
    have := h.1
    simp at this
    have h2 := h.2
    rw [← this] at h2
    exact absurd h2 (by decide)
  have r1 : HR 2 (prO 2 1 1 l0) s1 [1] := W.hr 0 _ hrs [1] (by simp)
  have r2 : HR 2 (prO 2 1 1 l0) s1 [2] := W.hr 0 _ hrs [2] (by simp)
  have a50 : Ax 2 1 0 0 0 = 5 := by decide
  have a60 : Ax 2 1 0 0 1 = 6 := by decide
  have r5 : HR 2 (prO 2 1 1 l0) s1 [Ax 2 1 0 0 0] := W.al 0 _ hps 0 (by decide) nl 0 (.inl rfl)
  have r6 : HR 2 (prO 2 1 1 l0) s1 [Ax 2 1 0 0 1] := W.al 0 _ hps 0 (by decide) nl 1 (.inr rfl)
  have nx : ∀ y ∈ [(1 : Int), 5, 2, 6], Nix 2 1 y := by decide
  have nd : [(1 : Int), 5, 2, 6].Nodup := by decide
  have T1 := p6 H1.hq
  obtain ⟨s2, k2, f2, A2, o2, I2, so2⟩ := rLink (n := h.length) (lv := 0) (sl := 0) (u := 0) (w := 1) (A := [1]) (B := [2]) (i := 0) (j := 0) hR H1.th r1 r2 r5 r6 (by decide) (by decide) (by decide) (by decide)
  have er : linkR [1] [2] 0 0 (Ax 2 1 0 0 0) (Ax 2 1 0 0 1) = [1, 5, 2, 6] := by decide
  rw [er] at f2 I2
  have H2 := H1.only A2 fun y _ h1 h2 => o2.oth y h1 h2
  have T2 := p6 H2.hq
  obtain ⟨v, k3, f3, S3, A3, l3, o3⟩ := rList (n := h.length) hR A2 I2 nd nx
  have H3 := H2.only A3 o3
  have T3 := p6 H3.hq
  have i1 : Vx 2 0 0 ∈ [(1 : Int), 5, 2, 6] := by decide
  have i2 : Vx 2 0 1 ∈ [(1 : Int), 5, 2, 6] := by decide
  have i5 : Ax 2 1 0 0 0 ∈ [(1 : Int), 5, 2, 6] := by decide
  have i6 : Ax 2 1 0 0 1 ∈ [(1 : Int), 5, 2, 6] := by decide
  obtain ⟨k4, f4, A4, o4⟩ := rSame (n := h.length) (lv := 0) (u := 0) (w := 1) hR A3 I2 I2 nx nx i1 i2
  rw [beq_self_eq_true] at f4
  have H4 := H3.only A4 fun y _ h1 h2 => o4.oth y h1 h2
  have T4 := p6 H4.hq
  obtain ⟨k5, f5, A5, o5⟩ := rCount (n := h.length) (lv := 0) (u := 1) hR A4 I2 nd nx i2
  have c2 : (([(1 : Int), 5, 2, 6].filter (vxB 2)).length : Int) = 2 := by decide
  rw [c2] at f5
  have H5 := H4.only A5 fun y _ h1 h2 => o5.oth y h1 h2
  have T5 := p6 H5.hq
  obtain ⟨k6, f6, A6, o6⟩ := rLinked (n := h.length) (lv := 0) (sl := 0) hR A5 I2 I2 nx nx i5 i6
  rw [beq_self_eq_true] at f6
  have H6 := H5.only A6 fun y _ h1 h2 => o6.oth y h1 h2
  have T6 := p6 H6.hq
  obtain ⟨s7, k7, f7, A7, o7, I7, I7', I50, I60, so7⟩ := rCut (n := h.length) (lv := 0) (sl := 0) (P := [1]) (I := [2]) (Q := []) (c := 5) (d := 6) (r := [1, 5, 2, 6]) hR A6 (.inl ⟨a50.symm, a60.symm⟩) rfl I2 nd nx
  have H7 := H6.only A7 fun y _ h1 h2 => o7.oth y h1 h2
  have T7 := p6 H7.hq
  have nx1 : ∀ y ∈ [(1 : Int)], Nix 2 1 y := by decide
  have nx2 : ∀ y ∈ [(2 : Int)], Nix 2 1 y := by decide
  have e1q : ([1] : List Int) ++ [] = [1] := rfl
  rw [e1q] at f7 I7'
  obtain ⟨k8, f8, A8, o8⟩ := rSame (n := h.length) (lv := 0) (u := 0) (w := 1) (r1 := [1]) (r2 := [2]) hR A7 I7' I7 nx1 nx2 (by decide) (by decide)
  have b12 : ((1 : Int) == 2) = false := rfl
  rw [RT_one, RT_one, b12] at f8
  have H8 := H7.only A8 fun y _ h1 h2 => o8.oth y h1 h2
  have T8 := p6 H8.hq
  have nx5 : ∀ y ∈ [Ax 2 1 0 0 0], Nix 2 1 y := by decide
  have nx6 : ∀ y ∈ [Ax 2 1 0 0 1], Nix 2 1 y := by decide
  obtain ⟨k9, f9, A9, o9⟩ := rLinked (n := h.length) (lv := 0) (sl := 0) hR A8 I50 I60 nx5 nx6 (by simp) (by simp)
  have b56 : (Ax 2 1 0 0 0 == Ax 2 1 0 0 1) = false := by decide
  rw [RT_one, RT_one, b56] at f9
  have H9 := H8.only A9 fun y _ h1 h2 => o9.oth y h1 h2
  have T9 := p6 H9.hq
  obtain ⟨kA, fA, AA, oA⟩ := rCount (n := h.length) (lv := 0) (u := 0) (r := [1]) hR A9 I7' (by decide) nx1 (by decide)
  have c1 : (([(1 : Int)].filter (vxB 2)).length : Int) = 1 := by decide
  rw [c1] at fA
  have uP : Try.prog.underlying 68 = some (.pointer 78) := by kernel_rfl
  have len := fun {α : Type} (kk : Value → Option α) => S3.sl.len kk
  have ln4 : (([(1 : Int), 5, 2, 6].length : Nat) : Int) = 4 := rfl
  rw [ln4] at len
  have la := H2.th.la
  have bv : k2.length ≤ slB v ∧ slB v < k3.length := by
    rcases S3.own with e | ⟨q1, cs, q2⟩
    · subst e
      have := S3.nil_of
      simp at this
    · exact ⟨q1, lt_of q2⟩
  have X7 : Sl k7 1 eZ v [1, 5, 2, 6] := S3.sl.heap fun _ => by
    rw [o7.oth _ (by omega) (by omega), o6.oth _ (by omega) (by omega), o5.oth _ (by omega) (by omega), o4.oth _ (by omega) (by omega)]
  obtain ⟨ix0, rx0⟩ := Sl.getI X7 (k := 0) (x := 1) rfl
  obtain ⟨ix2, rx2⟩ := Sl.getI X7 (k := 2) (x := 2) rfl
  have z0 : (((0 : Nat) : Int)) = 0 := rfl
  have z2 : (((2 : Nat) : Int)) = 2 := rfl
  rw [z0] at ix0
  rw [z2] at ix2
  simp only [Nat.add_zero] at ix0 rx0
  have l2 := o2.len
  have l4 := o4.len
  have l5 := o5.len
  have l6 := o6.len
  have l7 := o7.len
  have l8 := o8.len
  have l9 := o9.len
  have lA := oA.len
  have tk : kA.take h.length = h := take_same10 (by omega) fun y hy => by
    rw [oA.oth _ (by omega) (by omega), o9.oth _ (by omega) (by omega), o8.oth _ (by omega) (by omega), o7.oth _ (by omega) (by omega), o6.oth _ (by omega) (by omega), o5.oth _ (by omega) (by omega), o4.oth _ (by omega) (by omega), o3 _ (by omega) (by omega) (by omega), o2.oth _ (by omega) (by omega), o1 y hy]
  rw [C, call_eq, F32_eq]
  unfold F32
  simp only [go_sem, Nat.reduceAdd, Nat.reduceLeDiff, Nat.reduceMul, Int.reduceBEq, Int.reduceBNe, Int.reduceLT, Int.reduceLE, Int.reduceGT, e1, aBin_eqlP uP, okNil, okP_p, T1, f2, T2, f3, T3, cLE_t, f4, T4, f5, T5, f6, T6, f7, len, aBin_eql, ix0, rx0, ix2, rx2, T7, f8, T8, f9, T9, fA, tk, aUn_not]
end Go.Det.E

/- TourBegins. -/
namespace Go.Det.E
open Go.Proofs Go.Det Go.Det.U
attribute [local congr] bind_c cond_c
variable {h hh hb k h' : Heap} {a b q n n0 n1 c cb lb tb : Nat} {V S T x y p f u w sl K LV SL U W : Int} {D l : List Int} {l0 : Int → Int} {pr : Int → Int} {s s' : NS} {r A B xs : List Int} {dv ov rv av bv RW LK lv lvv lk X : Value} {i j m sn N ir : Nat} {rs rs' : List (List Int)} {ps ps' : List (Int × Int)} {rss rss' : List (List (List Int))} {pss pss' : List (List (Int × Int))} {rvs lvs lks : List Value} {rvss : List (List Value)} {cs : List Value} {e : Int × Int} {ops : List OpT}
theorem begins10_loop (hR : Rt V S T) {p1 p2 p3 : Value} (lhb : h.length ≤ hb.length) (SO : Sl hb 5 encT ov ops) (hl : ops.length ≤ 60) : ∀ (m i : Nat) (k : Heap) (c : Nat) (s : NS) (lvs : List Value) (rvss : List (List Value)) (rss : List (List (List Int))) (pss : List (List (Int × Int))), i + m = ops.length → c + 2 * m ≤ 1000 → H10 V S T l0 a b q hb.length RW LK lvs lks rvss s rss pss k → PW V S (prO V S T l0) c s rss pss → hb.length ≤ k.length → (∀ y, y < hb.length → k[y]? = hb[y]?) →
    ∃ c' s' lvs' rvss' rss' pss' k', J12_0 C ⟨0, h.length⟩ h p1 p2 p3 ((Value.bool false)) ((Value.pointer (some ⟨q, 0, none⟩))) ov ((Value.int .i64 ((ops.length : Int)))) ((Value.int .i64 ((i : Int)))) k = J12_1 C ⟨0, h.length⟩ h p1 p2 p3 ((Value.bool false)) ((Value.pointer (some ⟨q, 0, none⟩))) k' ∧ c' ≤ 1000 ∧ H10 V S T l0 a b q hb.length RW LK lvs' lks rvss' s' rss' pss' k' ∧ PW V S (prO V S T l0) c' s' rss' pss' ∧ hb.length ≤ k'.length ∧ ∀ y, y < hb.length → k'[y]? = hb[y]? := by
  intro m
  induction m with
  | zero =>
    intro i k c s lvs rvss rss pss hi hc H W hlk ok
    obtain rfl : i = ops.length := by omega
    refine ⟨c, s, lvs, rvss, rss, pss, k, ?_, by omega, H, W, hlk, ok⟩
    rw [J12_0_step]
    unfold Jr12_0
    simp only [go_sem, Nat.reduceAdd, Nat.reduceLeDiff, Nat.reduceMul, Int.reduceBEq, Int.reduceBNe, Int.reduceLT, Int.reduceLE, Int.reduceGT, aBin_lss, Int.lt_irrefl, Jk12_0]
  | succ m ih =>
    intro i k c s lvs rvss rss pss hi hc H W hlk ok
    have hlt : (i : Int) < (ops.length : Int) := by omega
    have w : IntKind.wrap .i64 ((i : Int) + 1) = ((i + 1 : Nat) : Int) := by rw [wi (by omega) (by omega)]; rfl
    obtain ⟨o, ho⟩ : ∃ o, ops[i]? = some o := ⟨ops[i]'(by omega), List.getElem?_eq_getElem (by omega)⟩
    have S1 : Sl k 5 encT ov ops := SO.heap fun hl => ok _ hl
    have ix := fun {α : Type} (kk : Value → Option α) => S1.ix (i := (i : Int)) (by omega) hlt kk
    have el := S1.elem ho
    simp only [Int.toNat_natCast] at ix
    have st5 := fun (kk : Heap → Option (((Value × Value × Value × Value × Value × Value × Value × Value) × Heap) ⊕ (Exit × (Value × Value × Value × Value × Value × Value × Value × Value) × Heap))) => st_N ⟨0, h.length⟩ 5 k.length 0 (encT o) (k ++ [Blk.own [(Value.int .i64 0), (Value.int .i64 0), (Value.int .i64 0), (Value.int .i64 0), (Value.int .i64 0)]]) kk rfl rfl
    have w5 : wrN ⟨0, h.length⟩ (k ++ [Blk.own [(Value.int .i64 0), (Value.int .i64 0), (Value.int .i64 0), (Value.int .i64 0), (Value.int .i64 0)]]) k.length 0 (encT o) = some (k ++ [Blk.own (encT o)]) := wrN_new0 (bs := []) (Nat.zero_le _) (by show h.length ≤ _; omega) (by simp)
    have r5 : rdN (k ++ [Blk.own (encT o)]) k.length 0 5 = some (encT o) := by rw [rdN_new0]; rfl
    have H1 := H.old (h' := k ++ [Blk.own (encT o)]) fun y hy => List.getElem?_append_left hy
    have l1 : (k ++ [Blk.own (encT o)]).length = k.length + 1 := by simp
    have o1 : ∀ y, y < k.length → (k ++ [Blk.own (encT o)])[y]? = k[y]? := fun y hy => List.getElem?_append_left hy
    obtain ⟨lvs2, rvss2, s2, rss2, pss2, k2, e2, H2, W2, l2, o2⟩ := step10 (n := h.length) hR H1 W (by omega) (by omega) o.k o.lv o.sl o.u o.w
    obtain ⟨c3, s3, lvs3, rvss3, rss3, pss3, k3, eg, z⟩ := ih (i + 1) k2 (c + 2) s2 lvs2 rvss2 rss2 pss2 (by omega) (by omega) H2 W2 (by omega) (fun y hy => by rw [o2 y hy, o1 y (by omega), ok y hy])
    refine ⟨c3, s3, lvs3, rvss3, rss3, pss3, k3, ?_, z⟩
    rw [J12_0_step]
    unfold Jr12_0
    simp only [go_sem, Nat.reduceAdd, Nat.reduceLeDiff, Nat.reduceMul, Int.reduceBEq, Int.reduceBNe, Int.reduceLT, Int.reduceLE, Int.reduceGT, aBin_lss, hlt, ixSV_p, ix, el, st5, w5, r5, e2, aBin_add, w]
    exact eg
theorem RT_mem (pr : Int → Int) {r : List Int} (h : r ≠ []) : RT pr r ∈ r := by
  have hr := tree_row pr r
  cases ht : treeOf pr r with
  | nil => rw [ht] at hr; exact absurd hr.symm h
  | nd l x u =>
    unfold RT
    rw [ht] at hr ⊢
    rw [← hr]
    show x ∈ l.row ++ x :: u.row
    simp
/-- Each node is one of some level. -/
theorem node_lv (hR : Rt V S T) (hx : Nix V S x) : ∃ i : Nat, (i : Int) < Lv V ∧ NL V S i x := by
  have rV := hR
  unfold Rt at rV
  have rL := Lv_le hR
  obtain ⟨h1, h2⟩ := hx
  by_cases hv : x - 1 < Lv V * V
  · have e := Int.mul_ediv_add_emod (x - 1) V
    have m0 := Int.emod_nonneg (x - 1) (show V ≠ 0 by omega)
    have m1 := Int.emod_lt_of_pos (x - 1) (show 0 < V by omega)
    have d0 : 0 ≤ (x - 1) / V := Int.ediv_nonneg (by omega) (by omega)
    have d1 : (x - 1) / V < Lv V := Int.ediv_lt_of_lt_mul (by omega) hv
    refine ⟨((x - 1) / V).toNat, by omega, .inl ⟨(x - 1) % V, ⟨m0, m1⟩, ?_⟩⟩
    rw [Vx_eq (by omega) ⟨m0, m1⟩, show ((((x - 1) / V).toNat : Nat) : Int) = (x - 1) / V by omega, Int.mul_comm]
    omega
  · have hn : x - 1 - Lv V * V < S * (2 * Lv V) := by unfold Nn at h2; omega
    generalize hm : x - 1 - Lv V * V = m at hn
    have m0 : 0 ≤ m := by omega
    have e := Int.mul_ediv_add_emod m (2 * Lv V)
    have e0 := Int.emod_nonneg m (show 2 * Lv V ≠ 0 by omega)
    have e1 := Int.emod_lt_of_pos m (show 0 < 2 * Lv V by omega)
    have d0 : 0 ≤ m / (2 * Lv V) := Int.ediv_nonneg m0 (by omega)
    have d1 : m / (2 * Lv V) < S := Int.ediv_lt_of_lt_mul (by omega) hn
    generalize m % (2 * Lv V) = r at e e0 e1
    refine ⟨(r / 2).toNat, by omega, .inr ⟨(m / (2 * Lv V)).toNat, r % 2, by omega, by omega, ?_⟩⟩
    rw [Ax_eq (by omega) (by omega) (by omega), show (((m / (2 * Lv V)).toNat : Nat) : Int) = m / (2 * Lv V) by omega, show (((r / 2).toNat : Nat) : Int) = r / 2 by omega, Int.mul_comm (m / (2 * Lv V))]
    omega
/-- Each node has a row, or is alone; it is another row's node, or that row's. -/
theorem node_row {lvn : Nat} (hR : Rt V S T) (W : PW V S pr c s rss pss) (hl : (lvn : Int) < Lv V) (hrs : rss[lvn]? = some rs) (hA : A ∈ rs) (hx : Nix V S x) : ∃ r, x ∈ r ∧ HR V pr s r ∧ r.Nodup ∧ (∀ y ∈ r, Nix V S y) ∧ (r = A ∨ DjL r A) := by
  obtain ⟨i, hi, nl⟩ := node_lv hR hx
  obtain ⟨rs1, ps, e1, hps, w⟩ := W.lev hi
  have wA : WF V S lvn rs (pss[lvn]'(by have := W.l2; omega)) := W.wf lvn _ _ hrs (List.getElem?_eq_getElem _)
  have nA : ∀ y ∈ A, NL V S lvn y := fun y hy => wA.nl hA hy
  have inrow : ∀ r ∈ rs1, x ∈ r → ∃ r, x ∈ r ∧ HR V pr s r ∧ r.Nodup ∧ (∀ y ∈ r, Nix V S y) ∧ (r = A ∨ DjL r A) := fun r hr hxr => by
    refine ⟨r, hxr, W.hr i rs1 e1 r hr, w.nod r hr, fun y hy => NL_nix hR hi (w.nl hr hy), ?_⟩
    by_cases e : i = lvn
    · subst e
      rw [hrs] at e1
      obtain rfl := Option.some.inj e1
      obtain ⟨ja, hja⟩ := List.mem_iff_getElem?.1 hA
      obtain ⟨jr, hjr⟩ := List.mem_iff_getElem?.1 hr
      by_cases e2 : jr = ja
      · subst e2
        rw [hja] at hjr
        exact .inl (Option.some.inj hjr).symm
      · exact .inr (pw_get w.dj hjr hja e2)
    · exact .inr fun y hy hq => e (NL_lv hR hi hl (w.nl hr hy) (nA y hq))
  rcases nl with ⟨v, hv, rfl⟩ | ⟨sn, d, hs, hd, rfl⟩
  · obtain ⟨r, hr, hxr⟩ := w.cov v hv.1 hv.2
    exact inrow r hr hxr
  · by_cases hlk : ∃ e, Lk ps sn e
    · obtain ⟨e, he⟩ := hlk
      obtain ⟨r, hr, f0⟩ := w.lin sn e he
      refine inrow r hr ?_
      rcases hd with rfl | rfl
      · exact f0.1
      · exact f0.2.1
    · have hl2 : ∀ e, ¬ Lk ps sn e := fun e he => hlk ⟨e, he⟩
      refine ⟨[Ax V S sn i d], by simp, W.al i ps hps sn hs hl2 d hd, by simp, fun y hy => ?_, .inr fun y hy hq => ?_⟩
      · simp only [List.mem_singleton] at hy; subst hy
        exact hx
      · simp only [List.mem_singleton] at hy; subst hy
        by_cases e : i = lvn
        · subst e
          rw [hrs] at e1
          obtain rfl := Option.some.inj e1
          obtain ⟨e', he'⟩ := w.arc hR hi hA hs hd hq
          exact hl2 e' he'
        · exact e (NL_lv hR hi hl (.inr ⟨sn, d, hs, hd, rfl⟩) (nA _ hq))
/-- The rows, as they were. -/
theorem was_lp {rw : Nat → List Int} {g0 : Heap} {s1 s2 s10 : Value} (hR : Rt V S T) (hN : (N : Int) = Nn V S) (H0 : H10 V S T l0 a b q n0 RW LK lvs lks rvss s rss pss g0) (hn0 : h.length < n0) (hc0 : g0[h.length]? = some (.own [(Value.int .i64 V), (Value.int .i64 S), (Value.int .i64 T), dv, ov])) (hP : ∀ n : Nat, 1 ≤ n → n ≤ N → (n : Int) ∈ rw n ∧ HR V (prO V S T l0) s (rw n) ∧ (rw n).Nodup ∧ ∀ y ∈ rw n, Nix V S y) : ∀ (m x : Nat) (g : Heap) (was : Value) (wvs : List Value), x + m = N + 1 → 1 ≤ x → TH V S T l0 a b s g → g0.length ≤ g.length → (∀ y, y < g0.length → y ≠ a → y ≠ b → g[y]? = g0[y]?) → SlO g g0.length 1 eV was wvs → wvs.length = x - 1 → (∀ (j : Nat) (wv : Value), wvs[j]? = some wv → Sl g 1 eZ wv (rw (j + 1)) ∧ g0.length ≤ slB wv ∧ slB wv < g.length ∧ (was = nilS ∨ slB wv ≠ slB was)) →
    ∃ was' wvs' g', J12_2 C ⟨0, h.length⟩ h s1 s2 ((Value.pointer (some ⟨h.length, 0, none⟩))) ((Value.bool false)) ((Value.pointer (some ⟨q, 0, none⟩))) s10 was ((Value.int .i64 ((x : Int)))) g = J12_3 C ⟨0, h.length⟩ h s1 s2 ((Value.pointer (some ⟨h.length, 0, none⟩))) ((Value.bool false)) ((Value.pointer (some ⟨q, 0, none⟩))) s10 was' g' ∧ TH V S T l0 a b s g' ∧ g0.length ≤ g'.length ∧ (∀ y, y < g0.length → y ≠ a → y ≠ b → g'[y]? = g0[y]?) ∧ SlO g' g0.length 1 eV was' wvs' ∧ wvs'.length = N ∧ ∀ (j : Nat) (wv : Value), wvs'[j]? = some wv → Sl g' 1 eZ wv (rw (j + 1)) ∧ g0.length ≤ slB wv ∧ slB wv < g'.length := by
  have cn := Cn_le hR
  have lo := H0.lo
  have nd := fun (m : Md) (h : Heap) => nodes_s m h hR
  rw [← hN] at nd
  obtain ⟨la, lb⟩ := H0.th.la
  have lq := lt_of H0.hq
  intro m
  induction m with
  | zero =>
    intro x g was wvs hx h1 A hl o SO hw hv
    obtain rfl : x = N + 1 := by omega
    have c1 : g[h.length]? = some (.own [(Value.int .i64 V), (Value.int .i64 S), (Value.int .i64 T), dv, ov]) := (o _ (by omega) (by omega) (by omega)).trans hc0
    have rl : rdN g h.length 0 3 = some [(Value.int .i64 V), (Value.int .i64 S), (Value.int .i64 T)] := by rw [rdN_at c1 (by show 3 ≤ 5; omega)]; rfl
    have nle : ¬ (((N + 1 : Nat) : Int) ≤ (N : Int)) := by omega
    refine ⟨was, wvs, g, ?_, A, hl, o, SO, by omega, fun j wv hj => ⟨(hv j wv hj).1, (hv j wv hj).2.1, (hv j wv hj).2.2.1⟩⟩
    rw [J12_2_step]
    unfold Jr12_2
    simp only [go_sem, Nat.reduceAdd, Nat.reduceLeDiff, Nat.reduceMul, Int.reduceBEq, Int.reduceBNe, Int.reduceLT, Int.reduceLE, Int.reduceGT, rl, nd, aBin_leq, nle, Jk12_2]
  | succ m ih =>
    intro x g was wvs hx h1 A hl o SO hw hv
    have hle : (x : Int) ≤ (N : Int) := by omega
    have w : IntKind.wrap .i64 ((x : Int) + 1) = ((x + 1 : Nat) : Int) := by rw [wi (by omega) (by omega)]; rfl
    have c1 : g[h.length]? = some (.own [(Value.int .i64 V), (Value.int .i64 S), (Value.int .i64 T), dv, ov]) := (o _ (by omega) (by omega) (by omega)).trans hc0
    have rl : rdN g h.length 0 3 = some [(Value.int .i64 V), (Value.int .i64 S), (Value.int .i64 T)] := by rw [rdN_at c1 (by show 3 ≤ 5; omega)]; rfl
    obtain ⟨m1, m2, m3, m4⟩ := hP x h1 (by omega)
    have H := H0.only A o
    have r6 := p6 H.hq
    obtain ⟨g1, f1, A1, o1⟩ := rRoot (n := h.length) hR A m2 m4 m1
    have H1 := H.only A1 fun y _ h1 h2 => o1.oth y h1 h2
    have l1 := o1.len
    have r61 := p6 H1.hq
    obtain ⟨v, g2, f2, S2, A2, l2, o2⟩ := rList (n := h.length) hR A1 m2 m3 m4
    have og2 : ∀ y, y < g.length → y ≠ a → y ≠ b → g2[y]? = g[y]? := fun y hy h1 h2 => (o2 y (by omega) h1 h2).trans (o1.oth y h1 h2)
    have SO2 : SlO g2 g0.length 1 eV was wvs := SO.at fun y h1 h2 => og2 y h2 (by omega) (by omega)
    obtain ⟨a3, b3, d3, rfl⟩ := Sl.sliceV S2.sl
    obtain ⟨was', g4, ea, S4, l4, f4⟩ := append_own2 (md := ⟨0, h.length⟩) (ys := [Value.slice a3 b3 d3]) tRows10 SO2 (Nat.zero_le _) (by omega) (cs := [Value.slice a3 b3 d3]) (by simp [flat]) (by simp) rfl (by simp; omega)
    simp only [List.length_cons, List.length_nil, Nat.zero_add] at ea
    have nwas : was = nilS ∨ g0.length ≤ slB was := SO.own.imp id fun q => q.1
    have lwas : was = nilS ∨ slB was < g.length := SO.own.imp id fun ⟨_, cs, q⟩ => lt_of q
    have bwas' : g2.length ≤ slB was' := by
      rcases S4.own with e | ⟨q, _⟩
      · subst e
        have := S4.nil_of
        simp at this
      · exact q
    have bv : g1.length ≤ slB (Value.slice a3 b3 d3) ∧ slB (Value.slice a3 b3 d3) < g2.length := by
      rcases S2.own with e | ⟨q1, cs, q2⟩
      · rw [e] at S2
        have := S2.nil_of
        rw [this] at m1
        simp at m1
      · exact ⟨q1, lt_of q2⟩
    obtain ⟨was2, wvs2, g', e', z⟩ := ih (x + 1) g4 was' (wvs ++ [.slice a3 b3 d3]) (by omega) (by omega) (A2.old (f4 a (by omega) (nwas.imp id fun q => by omega)) (f4 b (by omega) (nwas.imp id fun q => by omega))) (by omega) (fun y hy h1 h2 => by rw [f4 y (by omega) (nwas.imp id fun q => by omega), og2 y (by omega) h1 h2, o y hy h1 h2]) (S4.mono (by omega)) (by simp; omega) (fun j wv hj => by
      by_cases e : j < wvs.length
      · rw [List.getElem?_append_left e] at hj
        obtain ⟨v1, v2, v3, v4⟩ := hv j wv hj
        exact ⟨v1.heap fun _ => (f4 _ (by omega) v4).trans (og2 _ v3 (by omega) (by omega)), v2, by omega, .inr (by omega)⟩
      · rw [List.getElem?_append_right (by omega)] at hj
        have h3 := List.mem_of_getElem? hj
        have hl3 := (List.getElem?_eq_some_iff.1 hj).1
        simp only [List.mem_singleton] at h3
        simp at hl3
        subst h3
        have ej : j + 1 = x := by omega
        rw [ej]
        exact ⟨S2.sl.heap fun _ => f4 _ bv.2 (lwas.imp id fun q => by omega), by omega, by omega, .inr (by omega)⟩)
    refine ⟨was2, wvs2, g', ?_, z⟩
    rw [J12_2_step]
    unfold Jr12_2
    simp only [go_sem, Nat.reduceAdd, Nat.reduceLeDiff, Nat.reduceMul, Int.reduceBEq, Int.reduceBNe, Int.reduceLT, Int.reduceLE, Int.reduceGT, rl, nd, aBin_leq, hle, okNil, okP_p, r6, f1, r61, cLE_t, f2, bRows10, ea, aBin_add, w]
    exact e'
/-- Each node's row again: that one begins elsewhere, the others are the same. -/
theorem now_lp {rw : Nat → List Int} {gB : Heap} {was : Value} {wvs : List Value} {pn : Nat} (hR : Rt V S T) (hN : (N : Int) = Nn V S) (HB : H10 V S T l0 a b q n0 RW LK lvs lks rvss s rss pss gB) (hn0 : h.length < n0) (hc0 : gB[h.length]? = some (.own [(Value.int .i64 V), (Value.int .i64 S), (Value.int .i64 T), dv, ov])) (hA : A.Nodup ∧ (∀ y ∈ A, Nix V S y) ∧ A[pn]? = some x ∧ HR V (prO V S T l0) s (rotR A pn)) (hP : ∀ n : Nat, 1 ≤ n → n ≤ N → (n : Int) ∈ rw n ∧ (rw n = A ∨ (HR V (prO V S T l0) s (rw n) ∧ DjL (rw n) A)) ∧ (rw n).Nodup ∧ ∀ y ∈ rw n, Nix V S y) (SW : Sl gB 1 eV was wvs) (hwl : wvs.length = N) (hws : slB was ≠ a ∧ slB was ≠ b) (hwv : ∀ (j : Nat) (wv : Value), wvs[j]? = some wv → Sl gB 1 eZ wv (rw (j + 1)) ∧ slB wv ≠ a ∧ slB wv ≠ b) : ∀ (m t : Nat) (g : Heap), t + m = N + 1 → 1 ≤ t → TH V S T l0 a b s g → gB.length ≤ g.length → (∀ y, y < gB.length → y ≠ a → y ≠ b → g[y]? = gB[y]?) →
    ∃ g', J12_4 C ⟨0, h.length⟩ h ((Value.pointer (some ⟨h.length, 0, none⟩))) ((Value.bool false)) ((Value.pointer (some ⟨q, 0, none⟩))) ((Value.int .i64 x)) was ((Value.int .i64 (RT (prO V S T l0) (rotR A pn)))) ((Value.int .i64 ((t : Int)))) g = some ((Value.bool true), g') := by
  have cn := Cn_le hR
  have lo := HB.lo
  have nd := fun (m : Md) (h : Heap) => nodes_s m h hR
  rw [← hN] at nd
  obtain ⟨la, lb⟩ := HB.th.la
  have lq := lt_of HB.hq
  obtain ⟨A1', A2', A3', A4'⟩ := hA
  intro m
  induction m with
  | zero =>
    intro t g hx h1 A hl o
    obtain rfl : t = N + 1 := by omega
    have c1 : g[h.length]? = some (.own [(Value.int .i64 V), (Value.int .i64 S), (Value.int .i64 T), dv, ov]) := (o _ (by omega) (by omega) (by omega)).trans hc0
    have rl : rdN g h.length 0 3 = some [(Value.int .i64 V), (Value.int .i64 S), (Value.int .i64 T)] := by rw [rdN_at c1 (by show 3 ≤ 5; omega)]; rfl
    have nle : ¬ (((N + 1 : Nat) : Int) ≤ (N : Int)) := by omega
    have aw := fun (m : Nat) => awake10 m g (by omega)
    refine ⟨g.take h.length, ?_⟩
    rw [J12_4_step]
    unfold Jr12_4
    simp only [go_sem, Nat.reduceAdd, Nat.reduceLeDiff, Nat.reduceMul, Int.reduceBEq, Int.reduceBNe, Int.reduceLT, Int.reduceLE, Int.reduceGT, rl, nd, aBin_leq, nle, Jk12_4, aw]
  | succ m ih =>
    intro t g hx h1 Ah hl o
    have hle : (t : Int) ≤ (N : Int) := by omega
    have w : IntKind.wrap .i64 ((t : Int) + 1) = ((t + 1 : Nat) : Int) := by rw [wi (by omega) (by omega)]; rfl
    have w1 : IntKind.wrap .i64 ((t : Int) - 1) = ((t - 1 : Nat) : Int) := by rw [wi (by omega) (by omega)]; omega
    have c1 : g[h.length]? = some (.own [(Value.int .i64 V), (Value.int .i64 S), (Value.int .i64 T), dv, ov]) := (o _ (by omega) (by omega) (by omega)).trans hc0
    have rl : rdN g h.length 0 3 = some [(Value.int .i64 V), (Value.int .i64 S), (Value.int .i64 T)] := by rw [rdN_at c1 (by show 3 ≤ 5; omega)]; rfl
    obtain ⟨m1, m2, m3, m4⟩ := hP t h1 (by omega)
    have sm := small_row hR m3 m4
    have H := HB.only Ah o
    have r6 := p6 H.hq
    obtain ⟨wv, hwv1⟩ : ∃ wv, wvs[t - 1]? = some wv := ⟨wvs[t - 1]'(by omega), List.getElem?_eq_getElem (by omega)⟩
    obtain ⟨X0, x1, x2⟩ := hwv (t - 1) wv hwv1
    rw [show t - 1 + 1 = t by omega] at X0
    obtain ⟨ix, _⟩ := Sl.getV SW hwv1
    -- told of a row that is there
    have told : ∀ R : List Int, (t : Int) ∈ R → HR V (prO V S T l0) s R → R.Nodup → (∀ y ∈ R, Nix V S y) → ∃ g1 g2 g3 v, C ⟨0, h.length⟩ 21 [(Value.agg #[(Value.int .i64 V), (Value.int .i64 S), (Value.int .i64 T), ifA a, (Value.int .i64 1), (Value.int .i64 0)]), (Value.int .i64 ((t : Int)))] g = some ((Value.int .i64 (RT (prO V S T l0) R)), g1) ∧ C ⟨0, h.length⟩ 20 [(Value.agg #[(Value.int .i64 V), (Value.int .i64 S), (Value.int .i64 T), ifA a, (Value.int .i64 1), (Value.int .i64 0)]), (Value.int .i64 (RT (prO V S T l0) R))] g1 = some (v, g2) ∧ C ⟨0, h.length⟩ 21 [(Value.agg #[(Value.int .i64 V), (Value.int .i64 S), (Value.int .i64 T), ifA a, (Value.int .i64 1), (Value.int .i64 0)]), (Value.int .i64 ((t : Int)))] g2 = some ((Value.int .i64 (RT (prO V S T l0) R)), g3) ∧ Sl g3 1 eZ v R ∧ slB v ≠ a ∧ slB v ≠ b ∧ slB v < g3.length ∧ TH V S T l0 a b s g3 ∧ gB.length ≤ g3.length ∧ (∀ y, y < gB.length → y ≠ a → y ≠ b → g3[y]? = gB[y]?) ∧ rdN g1 q 3 6 = some [(Value.int .i64 V), (Value.int .i64 S), (Value.int .i64 T), ifA a, (Value.int .i64 1), (Value.int .i64 0)] ∧ rdN g2 q 3 6 = some [(Value.int .i64 V), (Value.int .i64 S), (Value.int .i64 T), ifA a, (Value.int .i64 1), (Value.int .i64 0)] ∧ rd g2 (slB was) (slO was + (t - 1)) = some wv := fun R q1 q2 q3 q4 => by
      obtain ⟨g1, f1, A1, o1⟩ := rRoot (n := h.length) hR Ah q2 q4 q1
      have H1 := H.only A1 fun y _ h1 h2 => o1.oth y h1 h2
      have l1 := o1.len
      obtain ⟨v, g2, f2, S2, A2, l2, o2⟩ := rList (n := h.length) hR A1 q2 q3 q4
      have H2 := H1.only A2 o2
      obtain ⟨g3, f3, A3, o3⟩ := rRoot (n := h.length) hR A2 q2 q4 q1
      have l3 := o3.len
      have bv : g1.length ≤ slB v ∧ slB v < g2.length := by
        rcases S2.own with e | ⟨q1', cs, q2'⟩
        · rw [e] at S2
          have := S2.nil_of
          rw [this] at q1
          simp at q1
        · exact ⟨q1', lt_of q2'⟩
      have ob2 : ∀ y, y < gB.length → y ≠ a → y ≠ b → g2[y]? = gB[y]? := fun y hy h1 h2 => by rw [o2 y (by omega) h1 h2, o1.oth y h1 h2, o y hy h1 h2]
      have SW2 : Sl g2 1 eV was wvs := SW.heap fun hl => ob2 _ hl hws.1 hws.2
      exact ⟨g1, g2, g3, v, f1, f2, f3, S2.sl.heap fun _ => o3.oth _ (by omega) (by omega), by omega, by omega, by omega, A3, by omega, fun y hy h1 h2 => (o3.oth y h1 h2).trans (ob2 y hy h1 h2), p6 H1.hq, p6 H2.hq, (Sl.getV SW2 hwv1).2⟩
    by_cases eA : rw t = A
    · rw [eA] at m1 m3 m4 X0
      have hin : (t : Int) ∈ rotR A pn := rot_mem.2 m1
      obtain ⟨g1, g2, g3, v, f1, f2, f3, Sv, va, vb, vl, A3, l3, o3, r61, r62, rx⟩ := told (rotR A pn) hin A4' (rot_nodup A1') (fun y hy => A2' y (rot_mem.1 hy))
      have X3 : Sl g3 1 eZ wv A := X0.heap fun hl => o3 _ hl x1 x2
      rw [eA] at sm
      obtain ⟨v2, g4, f4, S4, O4⟩ := refBegun (n := h.length) X3 A1' A3' sm
      have l4 := O4.len
      have smr := small_row hR (rot_nodup (i := pn) A1') (fun y hy => A2' y (rot_mem.1 hy))
      have sm4 := same_t (n := h.length) (Sv.heap fun hl => O4.old _ vl) S4.sl smr
      obtain ⟨la3, lb3⟩ := A3.la
      obtain ⟨g', e'⟩ := ih (t + 1) g4 (by omega) (by omega) (A3.old (O4.old a la3) (O4.old b lb3)) (by omega) (fun y hy h1 h2 => (O4.old y (by omega)).trans (o3 y hy h1 h2))
      refine ⟨g', ?_⟩
      rw [J12_4_step]
      unfold Jr12_4
      simp only [go_sem, Nat.reduceAdd, Nat.reduceLeDiff, Nat.reduceMul, Int.reduceBEq, Int.reduceBNe, Int.reduceLT, Int.reduceLE, Int.reduceGT, rl, nd, aBin_leq, hle, okNil, okP_p, r6, f1, r61, cLE_t, f2, aBin_sub, w1, ixSV_p, ix, rx, r62, f3, aBin_eql, beq_self_eq_true, f4]
      unfold J12_4b0
      simp only [go_sem, Nat.reduceAdd, Nat.reduceLeDiff, Nat.reduceMul, Int.reduceBEq, Int.reduceBNe, Int.reduceLT, Int.reduceLE, Int.reduceGT, sm4, aBin_add, w]
      exact e'
    · obtain ⟨q1, q2⟩ := m2.resolve_left eA
      obtain ⟨g1, g2, g3, v, f1, f2, f3, Sv, va, vb, vl, A3, l3, o3, r61, r62, rx⟩ := told (rw t) m1 q1 m3 m4
      have X3 : Sl g3 1 eZ wv (rw t) := X0.heap fun hl => o3 _ hl x1 x2
      have sm4 := same_t (n := h.length) Sv X3 sm
      have ne : (RT (prO V S T l0) (rw t) == RT (prO V S T l0) (rotR A pn)) = false := by
        rw [beq_eq_false_iff_ne]
        intro e
        have h1 := RT_mem (prO V S T l0) (r := rw t) (List.ne_nil_of_mem m1)
        have h2 := RT_mem (prO V S T l0) (r := rotR A pn) (List.ne_nil_of_mem (rot_mem.2 (List.mem_of_getElem? A3')))
        rw [← e] at h2
        exact q2 _ h1 (rot_mem.1 h2)
      obtain ⟨g', e'⟩ := ih (t + 1) g3 (by omega) (by omega) A3 (by omega) o3
      refine ⟨g', ?_⟩
      rw [J12_4_step]
      unfold Jr12_4
      simp only [go_sem, Nat.reduceAdd, Nat.reduceLeDiff, Nat.reduceMul, Int.reduceBEq, Int.reduceBNe, Int.reduceLT, Int.reduceLE, Int.reduceGT, rl, nd, aBin_leq, hle, okNil, okP_p, r6, f1, r61, cLE_t, f2, aBin_sub, w1, ixSV_p, ix, rx, r62, f3, aBin_eql, ne]
      unfold J12_4b0
      simp only [go_sem, Nat.reduceAdd, Nat.reduceLeDiff, Nat.reduceMul, Int.reduceBEq, Int.reduceBNe, Int.reduceLT, Int.reduceLE, Int.reduceGT, sm4, aBin_add, w]
      exact e'
theorem begins_1 (hR : Rt V S T) (H : H10 V S T l0 a b q n0 RW LK lvs lks rvss s rss pss k) (W : PW V S (prO V S T l0) c s rss pss) (hn0 : h.length < n0) (hcase : k[h.length]? = some (.own [(Value.int .i64 V), (Value.int .i64 S), (Value.int .i64 T), dv, ov])) (hi : (i : Int) < Lv V) (hu : 0 ≤ U ∧ U < V) : ∃ g, J12_1 C ⟨0, h.length⟩ h ((Value.int .i64 ((i : Int)))) ((Value.int .i64 U)) ((Value.pointer (some ⟨h.length, 0, none⟩))) ((Value.bool false)) ((Value.pointer (some ⟨q, 0, none⟩))) k = some ((Value.bool true), g) := by
  have cn := Cn_le hR
  have lo := H.lo
  obtain ⟨N, hN⟩ : ∃ N : Nat, (N : Int) = Nn V S := ⟨(Nn V S).toNat, by omega⟩
  obtain ⟨rs, ps, hrs, hps, w⟩ := W.lev hi
  obtain ⟨A, hA, xA⟩ := w.cov U hu.1 hu.2
  obtain ⟨pn, hp⟩ := List.mem_iff_getElem?.1 xA
  have nA := w.nod A hA
  have nixA : ∀ y ∈ A, Nix V S y := fun y hy => NL_nix hR hi (w.nl hA hy)
  obtain ⟨rw, hrw⟩ : ∃ rw : Nat → List Int, ∀ n : Nat, (1 ≤ n ∧ n ≤ N) → ((n : Int) ∈ rw n ∧ HR V (prO V S T l0) s (rw n) ∧ (rw n).Nodup ∧ (∀ y ∈ rw n, Nix V S y) ∧ (rw n = A ∨ DjL (rw n) A)) := by
    have : ∀ n : Nat, ∃ r : List Int, (1 ≤ n ∧ n ≤ N) → ((n : Int) ∈ r ∧ HR V (prO V S T l0) s r ∧ r.Nodup ∧ (∀ y ∈ r, Nix V S y) ∧ (r = A ∨ DjL r A)) := fun n => by
      by_cases hn : 1 ≤ n ∧ n ≤ N
      · obtain ⟨r, hr⟩ := node_row hR W hi hrs hA (x := (n : Int)) ⟨by omega, by omega⟩
        exact ⟨r, fun _ => hr⟩
      · exact ⟨[], fun h => absurd h hn⟩
    exact ⟨fun n => Classical.choose (this n), fun n => Classical.choose_spec (this n)⟩
  have rl : rdN k h.length 0 3 = some [(Value.int .i64 V), (Value.int .i64 S), (Value.int .i64 T)] := by rw [rdN_at hcase (by show 3 ≤ 5; omega)]; rfl
  have vs := fun (m : Md) (h : Heap) => vertex_s m h (a := (i : Int)) (b := U) hR
  obtain ⟨la, lb⟩ := H.th.la
  obtain ⟨was, wvs, g1, e1, A1, l1, o1, S1, wl, wv⟩ := was_lp (h := h) (rw := rw) (s1 := (Value.int .i64 ((i : Int)))) (s2 := (Value.int .i64 U)) (s10 := (Value.int .i64 (Vx V (i : Int) U))) hR hN H hn0 hcase (fun n h1 h2 => ⟨(hrw n ⟨h1, h2⟩).1, (hrw n ⟨h1, h2⟩).2.1, (hrw n ⟨h1, h2⟩).2.2.1, (hrw n ⟨h1, h2⟩).2.2.2.1⟩) N 1 k nilS [] (by omega) (Nat.le_refl 1) H.th (Nat.le_refl _) (fun _ _ _ _ => rfl) (SlO.nil _ _ eV_len) rfl (fun j wv hj => by simp at hj)
  have H1 := H.only A1 o1
  have r61 := p6 H1.hq
  obtain ⟨s2, g2, f2, A2, o2, I2, so2⟩ := rBegin (n := h.length) (lv := (i : Int)) (u := U) hR A1 (W.hr i rs hrs A hA) nA nixA hp
  have H2 := H1.only A2 fun y _ h1 h2 => o2.oth y h1 h2
  have r62 := p6 H2.hq
  have l2 := o2.len
  obtain ⟨g3, f3, A3, o3⟩ := rRoot (n := h.length) hR A2 I2 (fun y hy => nixA y (rot_mem.1 hy)) (rot_mem.2 xA)
  have H3 := H2.only A3 fun y _ h1 h2 => o3.oth y h1 h2
  have l3 := o3.len
  have nwas : slB was ≠ a ∧ slB was ≠ b := by
    rcases S1.own with e | ⟨q1, _⟩
    · subst e
      have z : slB (nilS) = 0 := rfl
      rw [z]; omega
    · omega
  have og : ∀ y, y ≠ a → y ≠ b → g3[y]? = g1[y]? := fun y h1 h2 => (o3.oth y h1 h2).trans (o2.oth y h1 h2)
  have c3 : g3[h.length]? = some (.own [(Value.int .i64 V), (Value.int .i64 S), (Value.int .i64 T), dv, ov]) := by
    have := lt_of hcase
    rw [og _ (by omega) (by omega), o1 _ (by omega) (by omega) (by omega)]; exact hcase
  obtain ⟨g, e4⟩ := now_lp (h := h) (rw := rw) (was := was) (wvs := wvs) (gB := g3) (x := Vx V (i : Int) U) hR hN H3 hn0 c3 ⟨nA, nixA, hp, I2⟩ (fun n h1 h2 => by
    obtain ⟨q1, q2, q3, q4, q5⟩ := hrw n ⟨h1, h2⟩
    refine ⟨q1, ?_, q3, q4⟩
    rcases q5 with e | e
    · exact .inl e
    · exact .inr ⟨HR.same q2 (so2.on e), e⟩) (S1.sl.heap fun _ => og _ nwas.1 nwas.2) wl nwas (fun j v hj => by
    obtain ⟨z1, z2, z3⟩ := wv j v hj
    exact ⟨z1.heap fun _ => og _ (by omega) (by omega), by omega, by omega⟩) N 1 g3 (by omega) (Nat.le_refl 1) A3 (Nat.le_refl _) (fun _ _ _ _ => rfl)
  refine ⟨g, ?_⟩
  rw [Int.natCast_one] at e1 e4
  unfold J12_1
  simp only [go_sem, Nat.reduceAdd, Nat.reduceLeDiff, Nat.reduceMul, Int.reduceBEq, Int.reduceBNe, Int.reduceLT, Int.reduceLE, Int.reduceGT, rl, vs]
  rw [e1]
  unfold J12_3
  simp only [go_sem, Nat.reduceAdd, Nat.reduceLeDiff, Nat.reduceMul, Int.reduceBEq, Int.reduceBNe, Int.reduceLT, Int.reduceLE, Int.reduceGT, okNil, okP_p, r61, f2, r62, f3, bne_self_eq_false]
  exact e4
end Go.Det.E

/- TourBegins. -/
namespace Go.Det.E
open Go.Proofs Go.Det Go.Det.U
attribute [local congr] bind_c cond_c
theorem begins10_law : Law Try.prog cfg 12 [66, 3, 3] := by
  intro h avs ha
  obtain ⟨x, r, rfl, a0, ha⟩ := args_cons ha
  obtain ⟨x1, r, rfl, a1, ha⟩ := args_cons ha
  obtain ⟨x2, r, rfl, a2, ha⟩ := args_cons ha
  obtain rfl := args_nil ha
  obtain ⟨V, S, T, dv, ov, D, ops, rfl, SD, wD, SO⟩ := arg_case10 a0
  obtain ⟨LV, rfl, _⟩ := inI64 (arg1 (P := Try.prog) (by kernel_rfl) (by kernel_rfl) a1)
  obtain ⟨U, rfl, _⟩ := inI64 (arg1 (P := Try.prog) (by kernel_rfl) (by kernel_rfl) a2)
  have lhb : (h ++ [Blk.own [(Value.int .i64 V), (Value.int .i64 S), (Value.int .i64 T), dv, ov]]).length = h.length + 1 := by simp
  have rt := right10 (md := ⟨0, h.length⟩) (h := h ++ [Blk.own [(Value.int .i64 V), (Value.int .i64 S), (Value.int .i64 T), dv, ov]]) (V := V) (S := S) (T := T) (Nat.zero_le _) (by show h.length ≤ _; simp) SD.app SO.app
  have cb : (h ++ [Blk.own [(Value.int .i64 V), (Value.int .i64 S), (Value.int .i64 T), dv, ov]])[h.length]? = some (Blk.own [(Value.int .i64 V), (Value.int .i64 S), (Value.int .i64 T), dv, ov]) := List.getElem?_concat_length ..
  have rl : rdN (h ++ [Blk.own [(Value.int .i64 V), (Value.int .i64 S), (Value.int .i64 T), dv, ov]]) h.length 0 3 = some [(Value.int .i64 V), (Value.int .i64 S), (Value.int .i64 T)] := by rw [rdN_at cb (by show 3 ≤ 5; omega)]; rfl
  have rv : rd (h ++ [Blk.own [(Value.int .i64 V), (Value.int .i64 S), (Value.int .i64 T), dv, ov]]) h.length 0 = some ((Value.int .i64 V)) := by rw [rd_at cb]; rfl
  rw [call_eq, F12_eq]
  unfold F12
  have aw := fun (m : Nat) => awake10 m (h ++ [Blk.own [(Value.int .i64 V), (Value.int .i64 S), (Value.int .i64 T), dv, ov]]) (by simp)
  by_cases hq : Rt V S T ∧ V ≤ 8 ∧ S ≤ 8 ∧ (D.length : Int) ≤ 60 ∧ (ops.length : Int) ≤ 60
  · rw [decide_eq_true hq] at rt
    obtain ⟨hR, h4, h3, hD, hO⟩ := hq
    have lvs' := fun (m : Md) (h : Heap) => levels_s m h hR
    by_cases c1 : LV < 0
    · exact ⟨_, by simp only [go_sem, Nat.reduceAdd, Nat.reduceLeDiff, Nat.reduceMul, Int.reduceBEq, Int.reduceBNe, Int.reduceLT, Int.reduceLE, Int.reduceGT, rt, aBin_lss, aBin_geq, c1, aw]; rfl⟩
    by_cases c2 : LV ≥ Lv V
    · exact ⟨_, by simp only [go_sem, Nat.reduceAdd, Nat.reduceLeDiff, Nat.reduceMul, Int.reduceBEq, Int.reduceBNe, Int.reduceLT, Int.reduceLE, Int.reduceGT, rt, aBin_lss, aBin_geq, c1, rl, lvs', c2, aw]; rfl⟩
    by_cases c3 : U < 0
    · exact ⟨_, by simp only [go_sem, Nat.reduceAdd, Nat.reduceLeDiff, Nat.reduceMul, Int.reduceBEq, Int.reduceBNe, Int.reduceLT, Int.reduceLE, Int.reduceGT, rt, aBin_lss, aBin_geq, c1, rl, lvs', c2, c3, aw]; rfl⟩
    by_cases c4 : U ≥ V
    · exact ⟨_, by simp only [go_sem, Nat.reduceAdd, Nat.reduceLeDiff, Nat.reduceMul, Int.reduceBEq, Int.reduceBNe, Int.reduceLT, Int.reduceLE, Int.reduceGT, rt, aBin_lss, aBin_geq, c1, rl, lvs', c2, c3, rv, c4, aw]; rfl⟩
    obtain ⟨i, rfl⟩ : ∃ i : Nat, LV = i := ⟨LV.toNat, by omega⟩
    have SD1 : Sl (h ++ [Blk.own [(Value.int .i64 V), (Value.int .i64 S), (Value.int .i64 T), dv, ov]]) 1 eU dv D := SD.app
    obtain ⟨h1, q, a, b, l0, s, RW, LK, lvs, lks, rvss, e1, H1, W1, l1, o1⟩ := begun10 (n := h.length) (h := h ++ [Blk.own [(Value.int .i64 V), (Value.int .i64 S), (Value.int .i64 T), dv, ov]]) (ov := ov) hR (by omega) (by omega) SD1 wD
    have k1c : h1[h.length]? = some (Blk.own [(Value.int .i64 V), (Value.int .i64 S), (Value.int .i64 T), dv, ov]) := by rw [o1 _ (by omega)]; exact cb
    have rO : rd h1 h.length 4 = some ov := by rw [rd_at k1c]; rfl
    have len := fun {α : Type} (k : Value → Option α) => SO.len k
    obtain ⟨c5, s2, lvs2, rvss2, rss2, pss2, k2, eg, hc2, H2, W2, hl2, ok2⟩ := begins10_loop (h := h) (p1 := (Value.int .i64 ((i : Int)))) (p2 := (Value.int .i64 U)) (p3 := (Value.pointer (some ⟨h.length, 0, none⟩))) hR (by omega) SO.app (by omega) ops.length 0 h1 16 s lvs rvss _ _ (by omega) (by omega) H1 W1 l1 o1
    have k2c := (ok2 h.length (by omega)).trans cb
    obtain ⟨g, eJ⟩ := begins_1 (h := h) hR H2 W2 (by omega) k2c (show (i : Int) < Lv V by omega) (show 0 ≤ U ∧ U < V by omega)
    have uP : Try.prog.underlying 68 = some (.pointer 78) := by kernel_rfl
    refine ⟨g, ?_⟩
    simp only [go_sem, Nat.reduceAdd, Nat.reduceLeDiff, Nat.reduceMul, Int.reduceBEq, Int.reduceBNe, Int.reduceLT, Int.reduceLE, Int.reduceGT, rt, aBin_lss, aBin_geq, c1, rl, lvs', c2, c3, rv, c4, e1, aBin_eqlP uP, rO, len]
    exact eg.trans eJ
  · rw [decide_eq_false hq] at rt
    exact ⟨_, by simp only [go_sem, Nat.reduceAdd, Nat.reduceLeDiff, Nat.reduceMul, Int.reduceBEq, Int.reduceBNe, Int.reduceLT, Int.reduceLE, Int.reduceGT, rt, aw]; rfl⟩
end Go.Det.E
