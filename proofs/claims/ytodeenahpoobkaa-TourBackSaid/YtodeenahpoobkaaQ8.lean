/- The laws of 10: what each begins with. -/
import Derived.Test.YtodeenahpoobkaaQ6
import Derived.Test.YtodeenahpoobkaaEK
set_option autoImplicit false
set_option linter.unusedVariables false
set_option linter.unusedSimpArgs false
namespace Go.Det.E
open Go.Proofs Go.Det Go.Det.U
attribute [local congr] bind_c cond_c
variable {md : Md} {h hh k h' : Heap} {V S T x v p f : Int} {D : List Int} {dv ov : Value} {ops : List OpT}
abbrev encT (o : OpT) : List Value := [(Value.int .i64 o.k), (Value.int .i64 o.lv), (Value.int .i64 o.sl), (Value.int .i64 o.u), (Value.int .i64 o.w)]
theorem encT_len (o : OpT) : (encT o).length = 5 := rfl
theorem ops10_of {h : Heap} {ess : List (List Value)} (a : TyE h [.i .i64, .i .i64, .i .i64, .i .i64, .i .i64] ess) : ∃ ops : List OpT, ess = ops.map encT := by
  induction ess with
  | nil => exact ⟨[], rfl⟩
  | cons es ess ih =>
    cases a with
    | cons _ _ _ b h2 =>
      obtain ⟨v1, r, rfl, a1, b⟩ := l_cons b
      obtain ⟨v2, r, rfl, a2, b⟩ := l_cons b
      obtain ⟨v3, r, rfl, a3, b⟩ := l_cons b
      obtain ⟨v4, r, rfl, a4, b⟩ := l_cons b
      obtain ⟨v6, r, rfl, a6, b⟩ := l_cons b
      obtain rfl := l_nil b
      obtain ⟨x1, rfl, _⟩ := inI64 a1
      obtain ⟨x2, rfl, _⟩ := inI64 a2
      obtain ⟨x3, rfl, _⟩ := inI64 a3
      obtain ⟨x4, rfl, _⟩ := inI64 a4
      obtain ⟨x6, rfl, _⟩ := inI64 a6
      obtain ⟨ops, e⟩ := ih h2
      exact ⟨⟨x1, x2, x3, x4, x6⟩ :: ops, by rw [e]; rfl⟩
theorem arg_case10 {h : Heap} {v : Value} (x : TyArg Try.prog h 66 v) : ∃ (V S T : Int) (dv ov : Value) (D : List Int) (ops : List OpT), v = (Value.agg #[(Value.int .i64 V), (Value.int .i64 S), (Value.int .i64 T), dv, ov]) ∧ Sl h 1 eU dv D ∧ Wd D ∧ Sl h 5 encT ov ops := by
  obtain ⟨acs, e, b⟩ := argN (P := Try.prog) (l := [.i .i64, .i .i64, .i .i64, .sl [.i .u64], .sl [.i .i64, .i .i64, .i .i64, .i .i64, .i .i64]]) (by kernel_rfl) (by kernel_rfl) x
  obtain ⟨v1, r, rfl, a1, b⟩ := l_cons b
  obtain ⟨v2, r, rfl, a2, b⟩ := l_cons b
  obtain ⟨v3, r, rfl, a3, b⟩ := l_cons b
  obtain ⟨v4, r, rfl, a4, b⟩ := l_cons b
  obtain ⟨v5, r, rfl, a5, b⟩ := l_cons b
  obtain rfl := l_nil b
  obtain ⟨V, rfl, _⟩ := inI64 a1
  obtain ⟨S, rfl, _⟩ := inI64 a2
  obtain ⟨T, rfl, _⟩ := inI64 a3
  have hD : ∃ D, Sl h 1 eU v4 D ∧ Wd D := by
    rcases inSl a4 with e | ⟨b, ess, e, hb', hl, he⟩
    · rw [e]; exact ⟨[], Sl.nil _ eU_len, fun _ h => by simp at h⟩
    · obtain ⟨vs, rfl, e2, hv⟩ := elems1 he
      have : ∃ ws : List Int, vs = ws.map (.int .u64) ∧ Wd ws := by
        clear e hb' hl he e2
        induction vs with
        | nil => exact ⟨[], rfl, fun _ h => by simp at h⟩
        | cons v vs ih =>
          obtain ⟨ws, e, w⟩ := ih fun u hu => hv u (List.mem_cons_of_mem _ hu)
          obtain ⟨n, rfl, n0, n1⟩ := inU64 (hv v List.mem_cons_self)
          refine ⟨n :: ws, by rw [e]; rfl, fun m hm => ?_⟩
          rcases List.mem_cons.1 hm with rfl | hm
          · exact ⟨n0, n1⟩
          · exact w m hm
      obtain ⟨ws, rfl, w⟩ := this
      refine ⟨ws, ?_, w⟩
      rw [e]
      refine Sl.whole eU_len hb' ?_ (by simp)
      show List.flatten _ = _
      rw [e2]
      clear hb' hl he e2 e hv w
      induction ws with
      | nil => rfl
      | cons x ws ih => rw [flat_cons, ← ih]; rfl
  obtain ⟨D, SD, wD⟩ := hD
  have hO : ∃ ops, Sl h 5 encT v5 ops := by
    rcases inSl a5 with e | ⟨b, ess, e, hb, _, he⟩
    · rw [e]; exact ⟨[], Sl.nil _ encT_len⟩
    · obtain ⟨ops, rfl⟩ := ops10_of he
      rw [e]
      exact ⟨ops, Sl.whole encT_len hb rfl (by simp)⟩
  obtain ⟨ops, SO⟩ := hO
  exact ⟨V, S, T, v4, v5, D, ops, e, SD, wD, SO⟩
theorem refright10 (md : Md) (h : Heap) (V S T : Int) : C md 50 [(Value.agg #[(Value.int .i64 V), (Value.int .i64 S), (Value.int .i64 T)])] h = some ((Value.bool (decide (Rt V S T))), h) := by
  rw [C, call_eq, F50_eq]
  unfold F50 Rt
  by_cases h1 : 1 ≤ V <;> (try by_cases h2 : V ≤ 16) <;> (try by_cases h3 : 0 ≤ S) <;> (try by_cases h4 : S ≤ 48) <;> (try by_cases h5 : 1 ≤ T) <;> (try by_cases h6 : T ≤ 8) <;>
    simp only [go_sem, Nat.reduceAdd, Nat.reduceLeDiff, Nat.reduceMul, Int.reduceBEq, Int.reduceBNe, Int.reduceLT, Int.reduceLE, Int.reduceGT, ge_iff_le, *, aBin_leq, aBin_geq, false_and, and_false, true_and, and_self]
theorem right10 (hro : md.ro ≤ h.length) (hlim : md.lim ≤ h.length) (SD : Sl h 1 eU dv D) (SO : Sl h 5 encT ov ops) :
    C md 31 [(Value.agg #[(Value.int .i64 V), (Value.int .i64 S), (Value.int .i64 T), dv, ov])] h = some ((Value.bool (decide (Rt V S T ∧ V ≤ 8 ∧ S ≤ 8 ∧ (D.length : Int) ≤ 60 ∧ (ops.length : Int) ≤ 60))), h) := by
  have ld := fun {α : Type} (k : Value → Option α) => SD.len k
  have lo := fun {α : Type} (k : Value → Option α) => SO.len k
  have h1 : md.ro ≤ h.length + 1 := by omega
  have h2 : md.lim ≤ h.length + 1 := by omega
  rw [C, call_eq, F31_eq]
  unfold F31
  by_cases c1 : Rt V S T
  · by_cases c2 : V ≤ 8
    · by_cases c3 : S ≤ 8
      · by_cases c4 : (D.length : Int) ≤ 60
        · by_cases c5 : (ops.length : Int) ≤ 60
          · have : decide (Rt V S T ∧ V ≤ 8 ∧ S ≤ 8 ∧ (D.length : Int) ≤ 60 ∧ (ops.length : Int) ≤ 60) = true := decide_eq_true ⟨c1, c2, c3, c4, c5⟩
            rw [this]
            simp only [go_sem, Nat.reduceAdd, Nat.reduceLeDiff, Nat.reduceMul, Int.reduceBEq, Int.reduceBNe, Int.reduceLT, Int.reduceLE, Int.reduceGT, refright10, c1, aBin_leq, c2, c3, ld, c4, lo, c5, h1, h2]
          · have : decide (Rt V S T ∧ V ≤ 8 ∧ S ≤ 8 ∧ (D.length : Int) ≤ 60 ∧ (ops.length : Int) ≤ 60) = false := decide_eq_false fun z => c5 z.2.2.2.2
            rw [this]
            simp only [go_sem, Nat.reduceAdd, Nat.reduceLeDiff, Nat.reduceMul, Int.reduceBEq, Int.reduceBNe, Int.reduceLT, Int.reduceLE, Int.reduceGT, refright10, c1, aBin_leq, c2, c3, ld, c4, lo, c5, h1, h2]
        · have : decide (Rt V S T ∧ V ≤ 8 ∧ S ≤ 8 ∧ (D.length : Int) ≤ 60 ∧ (ops.length : Int) ≤ 60) = false := decide_eq_false fun z => c4 z.2.2.2.1
          rw [this]
          simp only [go_sem, Nat.reduceAdd, Nat.reduceLeDiff, Nat.reduceMul, Int.reduceBEq, Int.reduceBNe, Int.reduceLT, Int.reduceLE, Int.reduceGT, refright10, c1, aBin_leq, c2, c3, ld, c4, h1, h2]
      · have : decide (Rt V S T ∧ V ≤ 8 ∧ S ≤ 8 ∧ (D.length : Int) ≤ 60 ∧ (ops.length : Int) ≤ 60) = false := decide_eq_false fun z => c3 z.2.2.1
        rw [this]
        simp only [go_sem, Nat.reduceAdd, Nat.reduceLeDiff, Nat.reduceMul, Int.reduceBEq, Int.reduceBNe, Int.reduceLT, Int.reduceLE, Int.reduceGT, refright10, c1, aBin_leq, c2, c3, h1, h2]
    · have : decide (Rt V S T ∧ V ≤ 8 ∧ S ≤ 8 ∧ (D.length : Int) ≤ 60 ∧ (ops.length : Int) ≤ 60) = false := decide_eq_false fun z => c2 z.2.1
      rw [this]
      simp only [go_sem, Nat.reduceAdd, Nat.reduceLeDiff, Nat.reduceMul, Int.reduceBEq, Int.reduceBNe, Int.reduceLT, Int.reduceLE, Int.reduceGT, refright10, c1, aBin_leq, c2, h1, h2]
  · have : decide (Rt V S T ∧ V ≤ 8 ∧ S ≤ 8 ∧ (D.length : Int) ≤ 60 ∧ (ops.length : Int) ≤ 60) = false := decide_eq_false fun z => c1 z.1
    rw [this]
    simp only [go_sem, Nat.reduceAdd, Nat.reduceLeDiff, Nat.reduceMul, Int.reduceBEq, Int.reduceBNe, Int.reduceLT, Int.reduceLE, Int.reduceGT, refright10, c1, h1, h2]
end Go.Det.E
/- The laws of 10: is the machine awake. -/
namespace Go.Det.E
open Go.Proofs Go.Det Go.Det.U
attribute [local congr] bind_c cond_c
theorem take_same10 {h k : Heap} (hl : h.length ≤ k.length) (o : ∀ y, y < h.length → k[y]? = h[y]?) : k.take h.length = h := by
  refine List.ext_getElem? fun y => ?_
  by_cases hy : y < h.length
  · rw [List.getElem?_take_of_lt hy, o y hy]
  · rw [List.getElem?_eq_none (by rw [List.length_take]; omega), List.getElem?_eq_none (by omega)]
set_option maxHeartbeats 4000000 in
set_option maxRecDepth 100000 in
theorem awake10 (n : Nat) (h : Heap) (hp : 0 < h.length) : C ⟨0, n⟩ 32 [] h = some ((Value.bool true), h) := by
  have hR : Rt 2 1 1 := by unfold Rt; omega
  obtain ⟨k1, q, a, b, l0, s1, RW, LK, lvs, lks, rvss, e1, H1, W, l1, o1⟩ := begun10 (V := 2) (S := 1) (T := 1) (n := h.length) (dv := .slice none 0 0) (ov := .slice none 0 0) (D := []) hR hp (Nat.le_refl _) (Sl.nil h eU_len) (fun _ h => by simp at h)
  have lo := H1.lo
  have hrs : (rss0 2)[0]? = some [[1], [2]] := by decide
  have hps : (pss0 2 1)[0]? = some [(-1, -1)] := by decide
  have nl : ∀ e, ¬ Lk [((-1 : Int), (-1 : Int))] 0 e := fun e h => by
    have := h.1
    simp at this
    have h2 := h.2
    rw [← this] at h2
    exact absurd h2 (by decide)
  have r1 : HR 2 (prO 2 1 1 l0) s1 [1] := W.hr 0 _ hrs [1] (by simp)
  have r2 : HR 2 (prO 2 1 1 l0) s1 [2] := W.hr 0 _ hrs [2] (by simp)
  have a50 : Ax 2 1 0 0 0 = 5 := by decide
  have a60 : Ax 2 1 0 0 1 = 6 := by decide
  have r5 : HR 2 (prO 2 1 1 l0) s1 [Ax 2 1 0 0 0] := W.al 0 _ hps 0 (by decide) nl 0 (.inl rfl)
  have r6 : HR 2 (prO 2 1 1 l0) s1 [Ax 2 1 0 0 1] := W.al 0 _ hps 0 (by decide) nl 1 (.inr rfl)
  have nx : ∀ y ∈ [(1 : Int), 5, 2, 6], Nix 2 1 y := by decide
  have nd : [(1 : Int), 5, 2, 6].Nodup := by decide
  have T1 := p6 H1.hq
  obtain ⟨s2, k2, f2, A2, o2, I2, so2⟩ := rLink (n := h.length) (lv := 0) (sl := 0) (u := 0) (w := 1) (A := [1]) (B := [2]) (i := 0) (j := 0) hR H1.th r1 r2 r5 r6 (by decide) (by decide) (by decide) (by decide)
  have er : linkR [1] [2] 0 0 (Ax 2 1 0 0 0) (Ax 2 1 0 0 1) = [1, 5, 2, 6] := by decide
  rw [er] at f2 I2
  have H2 := H1.only A2 fun y _ h1 h2 => o2.oth y h1 h2
  have T2 := p6 H2.hq
  obtain ⟨v, k3, f3, S3, A3, l3, o3⟩ := rList (n := h.length) hR A2 I2 nd nx
  have H3 := H2.only A3 o3
  have T3 := p6 H3.hq
  have i1 : Vx 2 0 0 ∈ [(1 : Int), 5, 2, 6] := by decide
  have i2 : Vx 2 0 1 ∈ [(1 : Int), 5, 2, 6] := by decide
  have i5 : Ax 2 1 0 0 0 ∈ [(1 : Int), 5, 2, 6] := by decide
  have i6 : Ax 2 1 0 0 1 ∈ [(1 : Int), 5, 2, 6] := by decide
  obtain ⟨k4, f4, A4, o4⟩ := rSame (n := h.length) (lv := 0) (u := 0) (w := 1) hR A3 I2 I2 nx nx i1 i2
  rw [beq_self_eq_true] at f4
  have H4 := H3.only A4 fun y _ h1 h2 => o4.oth y h1 h2
  have T4 := p6 H4.hq
  obtain ⟨k5, f5, A5, o5⟩ := rCount (n := h.length) (lv := 0) (u := 1) hR A4 I2 nd nx i2
  have c2 : (([(1 : Int), 5, 2, 6].filter (vxB 2)).length : Int) = 2 := by decide
  rw [c2] at f5
  have H5 := H4.only A5 fun y _ h1 h2 => o5.oth y h1 h2
  have T5 := p6 H5.hq
  obtain ⟨k6, f6, A6, o6⟩ := rLinked (n := h.length) (lv := 0) (sl := 0) hR A5 I2 I2 nx nx i5 i6
  rw [beq_self_eq_true] at f6
  have H6 := H5.only A6 fun y _ h1 h2 => o6.oth y h1 h2
  have T6 := p6 H6.hq
  obtain ⟨s7, k7, f7, A7, o7, I7, I7', I50, I60, so7⟩ := rCut (n := h.length) (lv := 0) (sl := 0) (P := [1]) (I := [2]) (Q := []) (c := 5) (d := 6) (r := [1, 5, 2, 6]) hR A6 (.inl ⟨a50.symm, a60.symm⟩) rfl I2 nd nx
  have H7 := H6.only A7 fun y _ h1 h2 => o7.oth y h1 h2
  have T7 := p6 H7.hq
  have nx1 : ∀ y ∈ [(1 : Int)], Nix 2 1 y := by decide
  have nx2 : ∀ y ∈ [(2 : Int)], Nix 2 1 y := by decide
  have e1q : ([1] : List Int) ++ [] = [1] := rfl
  rw [e1q] at f7 I7'
  obtain ⟨k8, f8, A8, o8⟩ := rSame (n := h.length) (lv := 0) (u := 0) (w := 1) (r1 := [1]) (r2 := [2]) hR A7 I7' I7 nx1 nx2 (by decide) (by decide)
  have b12 : ((1 : Int) == 2) = false := rfl
  rw [RT_one, RT_one, b12] at f8
  have H8 := H7.only A8 fun y _ h1 h2 => o8.oth y h1 h2
  have T8 := p6 H8.hq
  have nx5 : ∀ y ∈ [Ax 2 1 0 0 0], Nix 2 1 y := by decide
  have nx6 : ∀ y ∈ [Ax 2 1 0 0 1], Nix 2 1 y := by decide
  obtain ⟨k9, f9, A9, o9⟩ := rLinked (n := h.length) (lv := 0) (sl := 0) hR A8 I50 I60 nx5 nx6 (by simp) (by simp)
  have b56 : (Ax 2 1 0 0 0 == Ax 2 1 0 0 1) = false := by decide
  rw [RT_one, RT_one, b56] at f9
  have H9 := H8.only A9 fun y _ h1 h2 => o9.oth y h1 h2
  have T9 := p6 H9.hq
  obtain ⟨kA, fA, AA, oA⟩ := rCount (n := h.length) (lv := 0) (u := 0) (r := [1]) hR A9 I7' (by decide) nx1 (by decide)
  have c1 : (([(1 : Int)].filter (vxB 2)).length : Int) = 1 := by decide
  rw [c1] at fA
  have uP : Try.prog.underlying 68 = some (.pointer 78) := by kernel_rfl
  have len := fun {α : Type} (kk : Value → Option α) => S3.sl.len kk
  have ln4 : (([(1 : Int), 5, 2, 6].length : Nat) : Int) = 4 := rfl
  rw [ln4] at len
  have la := H2.th.la
  have bv : k2.length ≤ slB v ∧ slB v < k3.length := by
    rcases S3.own with e | ⟨q1, cs, q2⟩
    · subst e
      have := S3.nil_of
      simp at this
    · exact ⟨q1, lt_of q2⟩
  have X7 : Sl k7 1 eZ v [1, 5, 2, 6] := S3.sl.heap fun _ => by
    rw [o7.oth _ (by omega) (by omega), o6.oth _ (by omega) (by omega), o5.oth _ (by omega) (by omega), o4.oth _ (by omega) (by omega)]
  obtain ⟨ix0, rx0⟩ := Sl.getI X7 (k := 0) (x := 1) rfl
  obtain ⟨ix2, rx2⟩ := Sl.getI X7 (k := 2) (x := 2) rfl
  have z0 : (((0 : Nat) : Int)) = 0 := rfl
  have z2 : (((2 : Nat) : Int)) = 2 := rfl
  rw [z0] at ix0
  rw [z2] at ix2
  simp only [Nat.add_zero] at ix0 rx0
  have l2 := o2.len
  have l4 := o4.len
  have l5 := o5.len
  have l6 := o6.len
  have l7 := o7.len
  have l8 := o8.len
  have l9 := o9.len
  have lA := oA.len
  have tk : kA.take h.length = h := take_same10 (by omega) fun y hy => by
    rw [oA.oth _ (by omega) (by omega), o9.oth _ (by omega) (by omega), o8.oth _ (by omega) (by omega), o7.oth _ (by omega) (by omega), o6.oth _ (by omega) (by omega), o5.oth _ (by omega) (by omega), o4.oth _ (by omega) (by omega), o3 _ (by omega) (by omega) (by omega), o2.oth _ (by omega) (by omega), o1 y hy]
  rw [C, call_eq, F32_eq]
  unfold F32
  simp only [go_sem, Nat.reduceAdd, Nat.reduceLeDiff, Nat.reduceMul, Int.reduceBEq, Int.reduceBNe, Int.reduceLT, Int.reduceLE, Int.reduceGT, e1, aBin_eqlP uP, okNil, okP_p, T1, f2, T2, f3, T3, cLE_t, f4, T4, f5, T5, f6, T6, f7, len, aBin_eql, ix0, rx0, ix2, rx2, T7, f8, T8, f9, T9, fA, tk, aUn_not]
end Go.Det.E

/- TourBack. -/
namespace Go.Det.E
open Go.Proofs Go.Det Go.Det.U
attribute [local congr] bind_c cond_c
variable {h hh hb k h' : Heap} {a b q n n0 n1 c cb lb tb : Nat} {V S T x y p f u w sl K LV SL U W : Int} {D l : List Int} {l0 : Int → Int} {pr : Int → Int} {s s' : NS} {r A B xs : List Int} {dv ov rv av bv RW LK lv lvv lk X : Value} {i j m sn N ir : Nat} {rs rs' : List (List Int)} {ps ps' : List (Int × Int)} {rss rss' : List (List (List Int))} {pss pss' : List (List (Int × Int))} {rvs lvs lks : List Value} {rvss : List (List Value)} {cs : List Value} {e : Int × Int} {ops : List OpT}
theorem rot_zero (A : List Int) : rotR A 0 = A := by unfold rotR; simp
theorem back10_loop (hR : Rt V S T) {p2 p3 : Value} (lhb : h.length ≤ hb.length) (SO : Sl hb 5 encT ov ops) (hl : ops.length ≤ 60) : ∀ (m i : Nat) (k : Heap) (c : Nat) (s : NS) (lvs : List Value) (rvss : List (List Value)) (rss : List (List (List Int))) (pss : List (List (Int × Int))), i + m = ops.length → c + 2 * m ≤ 1000 → H10 V S T l0 a b q hb.length RW LK lvs lks rvss s rss pss k → PW V S (prO V S T l0) c s rss pss → hb.length ≤ k.length → (∀ y, y < hb.length → k[y]? = hb[y]?) →
    ∃ c' s' lvs' rvss' rss' pss' k', J11_0 C ⟨0, h.length⟩ h p2 p3 ((Value.bool false)) ((Value.pointer (some ⟨q, 0, none⟩))) ov ((Value.int .i64 ((ops.length : Int)))) ((Value.int .i64 ((i : Int)))) k = J11_1 C ⟨0, h.length⟩ h p2 p3 ((Value.pointer (some ⟨q, 0, none⟩))) k' ∧ c' ≤ 1000 ∧ H10 V S T l0 a b q hb.length RW LK lvs' lks rvss' s' rss' pss' k' ∧ PW V S (prO V S T l0) c' s' rss' pss' ∧ hb.length ≤ k'.length ∧ ∀ y, y < hb.length → k'[y]? = hb[y]? := by
  intro m
  induction m with
  | zero =>
    intro i k c s lvs rvss rss pss hi hc H W hlk ok
    obtain rfl : i = ops.length := by omega
    refine ⟨c, s, lvs, rvss, rss, pss, k, ?_, by omega, H, W, hlk, ok⟩
    rw [J11_0_step]
    unfold Jr11_0
    simp only [go_sem, Nat.reduceAdd, Nat.reduceLeDiff, Nat.reduceMul, Int.reduceBEq, Int.reduceBNe, Int.reduceLT, Int.reduceLE, Int.reduceGT, aBin_lss, Int.lt_irrefl, Jk11_0]
  | succ m ih =>
    intro i k c s lvs rvss rss pss hi hc H W hlk ok
    have hlt : (i : Int) < (ops.length : Int) := by omega
    have w : IntKind.wrap .i64 ((i : Int) + 1) = ((i + 1 : Nat) : Int) := by rw [wi (by omega) (by omega)]; rfl
    obtain ⟨o, ho⟩ : ∃ o, ops[i]? = some o := ⟨ops[i]'(by omega), List.getElem?_eq_getElem (by omega)⟩
    have S1 : Sl k 5 encT ov ops := SO.heap fun hl => ok _ hl
    have ix := fun {α : Type} (kk : Value → Option α) => S1.ix (i := (i : Int)) (by omega) hlt kk
    have el := S1.elem ho
    simp only [Int.toNat_natCast] at ix
    have st5 := fun (kk : Heap → Option (((Value × Value × Value × Value × Value × Value × Value) × Heap) ⊕ (Exit × (Value × Value × Value × Value × Value × Value × Value) × Heap))) => st_N ⟨0, h.length⟩ 5 k.length 0 (encT o) (k ++ [Blk.own [(Value.int .i64 0), (Value.int .i64 0), (Value.int .i64 0), (Value.int .i64 0), (Value.int .i64 0)]]) kk rfl rfl
    have w5 : wrN ⟨0, h.length⟩ (k ++ [Blk.own [(Value.int .i64 0), (Value.int .i64 0), (Value.int .i64 0), (Value.int .i64 0), (Value.int .i64 0)]]) k.length 0 (encT o) = some (k ++ [Blk.own (encT o)]) := wrN_new0 (bs := []) (Nat.zero_le _) (by show h.length ≤ _; omega) (by simp)
    have r5 : rdN (k ++ [Blk.own (encT o)]) k.length 0 5 = some (encT o) := by rw [rdN_new0]; rfl
    have H1 := H.old (h' := k ++ [Blk.own (encT o)]) fun y hy => List.getElem?_append_left hy
    have l1 : (k ++ [Blk.own (encT o)]).length = k.length + 1 := by simp
    have o1 : ∀ y, y < k.length → (k ++ [Blk.own (encT o)])[y]? = k[y]? := fun y hy => List.getElem?_append_left hy
    obtain ⟨lvs2, rvss2, s2, rss2, pss2, k2, e2, H2, W2, l2, o2⟩ := step10 (n := h.length) hR H1 W (by omega) (by omega) o.k o.lv o.sl o.u o.w
    obtain ⟨c3, s3, lvs3, rvss3, rss3, pss3, k3, eg, z⟩ := ih (i + 1) k2 (c + 2) s2 lvs2 rvss2 rss2 pss2 (by omega) (by omega) H2 W2 (by omega) (fun y hy => by rw [o2 y hy, o1 y (by omega), ok y hy])
    refine ⟨c3, s3, lvs3, rvss3, rss3, pss3, k3, ?_, z⟩
    rw [J11_0_step]
    unfold Jr11_0
    simp only [go_sem, Nat.reduceAdd, Nat.reduceLeDiff, Nat.reduceMul, Int.reduceBEq, Int.reduceBNe, Int.reduceLT, Int.reduceLE, Int.reduceGT, aBin_lss, hlt, ixSV_p, ix, el, st5, w5, r5, e2, aBin_add, w]
    exact eg
set_option maxHeartbeats 8000000 in
set_option maxRecDepth 100000 in
theorem back_out (hR : Rt V S T) (H : H10 V S T l0 a b q n0 RW LK lvs lks rvss s rss pss k) (Wp : PW V S (prO V S T l0) c s rss pss) (hn0 : n0 = h.length + 2) (hcase : k[h.length]? = some (.own [(Value.int .i64 V), (Value.int .i64 S), (Value.int .i64 T), dv, ov])) (hop : k[h.length + 1]? = some (.own (opT K LV SL U W))) (hb : ¬ Good V S LV SL U W) : ∃ g, J11_1 C ⟨0, h.length⟩ h ((Value.pointer (some ⟨h.length, 0, none⟩))) ((Value.pointer (some ⟨h.length + 1, 0, none⟩))) ((Value.pointer (some ⟨q, 0, none⟩))) k = some ((Value.bool true), g) := by
  have hq0 := lt_of H.hq
  have lo := H.lo
  have p31 : rdN k h.length 0 3 = some [(Value.int .i64 V), (Value.int .i64 S), (Value.int .i64 T)] := by rw [rdN_at hcase (by show 3 ≤ 5; omega)]; rfl
  have st3 := fun (hq : Heap) (kk : Heap → Option (Value × Heap)) => st_N ⟨0, h.length⟩ 3 k.length 0 [(Value.int .i64 V), (Value.int .i64 S), (Value.int .i64 T)] hq kk rfl rfl
  have w3 := wrN_new0 (md := ⟨0, h.length⟩) (h := k) (bs := []) (i := 0) (cs := [(Value.int .i64 0), (Value.int .i64 0), (Value.int .i64 0)]) (vs := [(Value.int .i64 V), (Value.int .i64 S), (Value.int .i64 T)]) (Nat.zero_le _) (by show h.length ≤ _; omega) (Nat.le_refl 3)
  have eL : lay [(Value.int .i64 0), (Value.int .i64 0), (Value.int .i64 0)] 0 [(Value.int .i64 V), (Value.int .i64 S), (Value.int .i64 T)] = [(Value.int .i64 V), (Value.int .i64 S), (Value.int .i64 T)] := rfl
  rw [eL] at w3
  generalize hg : k ++ [Blk.own [(Value.int .i64 V), (Value.int .i64 S), (Value.int .i64 T)]] = g at w3
  have lg : g.length = k.length + 1 := by rw [← hg]; simp
  have og : ∀ y, y < k.length → g[y]? = k[y]? := fun y hy => by rw [← hg, List.getElem?_append_left hy]
  have cg : g[h.length + 1]? = some (Blk.own (opT K LV SL U W)) := (og _ (by omega)).trans hop
  have cl : g[k.length]? = some (Blk.own [(Value.int .i64 V), (Value.int .i64 S), (Value.int .i64 T)]) := by rw [← hg]; exact List.getElem?_concat_length ..
  obtain ⟨z0, z1, z2, z3, z4⟩ := op_at cg
  have y3 : rdN g k.length 0 3 = some [(Value.int .i64 V), (Value.int .i64 S), (Value.int .i64 T)] := by rw [rdN_at cl (Nat.le_refl 3)]; rfl
  have y0 : rd g k.length 0 = some ((Value.int .i64 V)) := by rw [rd_at cl]; rfl
  have y1 : rd g k.length 1 = some ((Value.int .i64 S)) := by rw [rd_at cl]; rfl
  have lvs' := fun (m : Md) (h : Heap) => levels_s m h hR
  have awg := fun (m : Nat) => awake10 m g (by omega)
  refine ⟨g.take h.length, ?_⟩
  unfold J11_1
  by_cases c1 : LV < 0
  · simp only [go_sem, Nat.reduceAdd, Nat.reduceLeDiff, Nat.reduceMul, Int.reduceBEq, Int.reduceBNe, Int.reduceLT, Int.reduceLE, Int.reduceGT, okNil, okP_p, p31, st3, w3, z0, z1, z2, z3, z4, y3, y0, y1, lvs', aBin_lss, aBin_geq, c1, awg]
  by_cases c2 : LV ≥ Lv V
  · simp only [go_sem, Nat.reduceAdd, Nat.reduceLeDiff, Nat.reduceMul, Int.reduceBEq, Int.reduceBNe, Int.reduceLT, Int.reduceLE, Int.reduceGT, okNil, okP_p, p31, st3, w3, z0, z1, z2, z3, z4, y3, y0, y1, lvs', aBin_lss, aBin_geq, c1, c2, awg]
  by_cases c3 : SL < 0
  · simp only [go_sem, Nat.reduceAdd, Nat.reduceLeDiff, Nat.reduceMul, Int.reduceBEq, Int.reduceBNe, Int.reduceLT, Int.reduceLE, Int.reduceGT, okNil, okP_p, p31, st3, w3, z0, z1, z2, z3, z4, y3, y0, y1, lvs', aBin_lss, aBin_geq, c1, c2, c3, awg]
  by_cases c4 : SL ≥ S
  · simp only [go_sem, Nat.reduceAdd, Nat.reduceLeDiff, Nat.reduceMul, Int.reduceBEq, Int.reduceBNe, Int.reduceLT, Int.reduceLE, Int.reduceGT, okNil, okP_p, p31, st3, w3, z0, z1, z2, z3, z4, y3, y0, y1, lvs', aBin_lss, aBin_geq, c1, c2, c3, c4, awg]
  by_cases c5 : U < 0
  · simp only [go_sem, Nat.reduceAdd, Nat.reduceLeDiff, Nat.reduceMul, Int.reduceBEq, Int.reduceBNe, Int.reduceLT, Int.reduceLE, Int.reduceGT, okNil, okP_p, p31, st3, w3, z0, z1, z2, z3, z4, y3, y0, y1, lvs', aBin_lss, aBin_geq, c1, c2, c3, c4, c5, awg]
  by_cases c6 : U ≥ V
  · simp only [go_sem, Nat.reduceAdd, Nat.reduceLeDiff, Nat.reduceMul, Int.reduceBEq, Int.reduceBNe, Int.reduceLT, Int.reduceLE, Int.reduceGT, okNil, okP_p, p31, st3, w3, z0, z1, z2, z3, z4, y3, y0, y1, lvs', aBin_lss, aBin_geq, c1, c2, c3, c4, c5, c6, awg]
  by_cases c7 : W < 0
  · simp only [go_sem, Nat.reduceAdd, Nat.reduceLeDiff, Nat.reduceMul, Int.reduceBEq, Int.reduceBNe, Int.reduceLT, Int.reduceLE, Int.reduceGT, okNil, okP_p, p31, st3, w3, z0, z1, z2, z3, z4, y3, y0, y1, lvs', aBin_lss, aBin_geq, c1, c2, c3, c4, c5, c6, c7, awg]
  by_cases c8 : W ≥ V
  · simp only [go_sem, Nat.reduceAdd, Nat.reduceLeDiff, Nat.reduceMul, Int.reduceBEq, Int.reduceBNe, Int.reduceLT, Int.reduceLE, Int.reduceGT, okNil, okP_p, p31, st3, w3, z0, z1, z2, z3, z4, y3, y0, y1, lvs', aBin_lss, aBin_geq, c1, c2, c3, c4, c5, c6, c7, c8, awg]
  · exact absurd ⟨⟨by omega, by omega⟩, ⟨by omega, by omega⟩, ⟨by omega, by omega⟩, ⟨by omega, by omega⟩⟩ hb
set_option maxHeartbeats 8000000 in
set_option maxRecDepth 100000 in
theorem back_in (hR : Rt V S T) (H : H10 V S T l0 a b q n0 RW LK lvs lks rvss s rss pss k) (Wp : PW V S (prO V S T l0) c s rss pss) (hn0 : n0 = h.length + 2) (hcase : k[h.length]? = some (.own [(Value.int .i64 V), (Value.int .i64 S), (Value.int .i64 T), dv, ov])) (hop : k[h.length + 1]? = some (.own (opT K i sn U W))) (hi : (i : Int) < Lv V) (hs : (sn : Int) < S) (hu : 0 ≤ U ∧ U < V) (hw : 0 ≤ W ∧ W < V) : ∃ g, J11_1 C ⟨0, h.length⟩ h ((Value.pointer (some ⟨h.length, 0, none⟩))) ((Value.pointer (some ⟨h.length + 1, 0, none⟩))) ((Value.pointer (some ⟨q, 0, none⟩))) k = some ((Value.bool true), g) := by
  have hq0 := lt_of H.hq
  have lo := H.lo
  have p31 : rdN k h.length 0 3 = some [(Value.int .i64 V), (Value.int .i64 S), (Value.int .i64 T)] := by rw [rdN_at hcase (by show 3 ≤ 5; omega)]; rfl
  have st3 := fun (hq : Heap) (kk : Heap → Option (Value × Heap)) => st_N ⟨0, h.length⟩ 3 k.length 0 [(Value.int .i64 V), (Value.int .i64 S), (Value.int .i64 T)] hq kk rfl rfl
  have w3 := wrN_new0 (md := ⟨0, h.length⟩) (h := k) (bs := []) (i := 0) (cs := [(Value.int .i64 0), (Value.int .i64 0), (Value.int .i64 0)]) (vs := [(Value.int .i64 V), (Value.int .i64 S), (Value.int .i64 T)]) (Nat.zero_le _) (by show h.length ≤ _; omega) (Nat.le_refl 3)
  have eL : lay [(Value.int .i64 0), (Value.int .i64 0), (Value.int .i64 0)] 0 [(Value.int .i64 V), (Value.int .i64 S), (Value.int .i64 T)] = [(Value.int .i64 V), (Value.int .i64 S), (Value.int .i64 T)] := rfl
  rw [eL] at w3
  generalize hg : k ++ [Blk.own [(Value.int .i64 V), (Value.int .i64 S), (Value.int .i64 T)]] = g at w3
  have lg : g.length = k.length + 1 := by rw [← hg]; simp
  have og : ∀ y, y < k.length → g[y]? = k[y]? := fun y hy => by rw [← hg, List.getElem?_append_left hy]
  have cg : g[h.length + 1]? = some (Blk.own (opT K i sn U W)) := (og _ (by omega)).trans hop
  have cl : g[k.length]? = some (Blk.own [(Value.int .i64 V), (Value.int .i64 S), (Value.int .i64 T)]) := by rw [← hg]; exact List.getElem?_concat_length ..
  obtain ⟨z0, z1, z2, z3, z4⟩ := op_at cg
  have y3 : rdN g k.length 0 3 = some [(Value.int .i64 V), (Value.int .i64 S), (Value.int .i64 T)] := by rw [rdN_at cl (Nat.le_refl 3)]; rfl
  have y0 : rd g k.length 0 = some ((Value.int .i64 V)) := by rw [rd_at cl]; rfl
  have y1 : rd g k.length 1 = some ((Value.int .i64 S)) := by rw [rd_at cl]; rfl
  have lvs' := fun (m : Md) (h : Heap) => levels_s m h hR
  have awg := fun (m : Nat) => awake10 m g (by omega)
  have Hg := H.old og
  have c1 : ¬ ((i : Int) < 0) := by omega
  have c2 : ¬ ((i : Int) ≥ Lv V) := by omega
  have c3 : ¬ ((sn : Int) < 0) := by omega
  have c4 : ¬ ((sn : Int) ≥ S) := by omega
  have c5 : ¬ (U < 0) := by omega
  have c6 : ¬ (U ≥ V) := by omega
  have c7 : ¬ (W < 0) := by omega
  have c8 : ¬ (W ≥ V) := by omega
  obtain ⟨rs, ps, hrs, hps, w⟩ := Wp.lev hi
  obtain ⟨ll1, ll2, ll3⟩ := H.ll
  have il1 := (List.getElem?_eq_some_iff.1 hrs).1
  have il2 := (List.getElem?_eq_some_iff.1 hps).1
  obtain ⟨lvv, hlv⟩ : ∃ z, lvs[i]? = some z := ⟨lvs[i]'(by omega), List.getElem?_eq_getElem (by omega)⟩
  obtain ⟨rvs, hrv⟩ : ∃ z, rvss[i]? = some z := ⟨rvss[i]'(by omega), List.getElem?_eq_getElem (by omega)⟩
  obtain ⟨lk, hlk⟩ : ∃ z, lks[i]? = some z := ⟨lks[i]'(by omega), List.getElem?_eq_getElem (by omega)⟩
  have Xg := Hg.lr i lvv rvs rs hlv hrv hrs
  have cn := Wp.cnt i rs hrs
  have sm := fun {r} (hr : r ∈ rs) => WF.small hR hi w hr
  obtain ⟨A, hA, xA⟩ := w.cov U hu.1 hu.2
  obtain ⟨B, hB, xB⟩ := w.cov W hw.1 hw.2
  obtain ⟨ia, ha⟩ := List.mem_iff_getElem?.1 hA
  obtain ⟨ib, hb⟩ := List.mem_iff_getElem?.1 hB
  have vU := fun (m : Md) (h : Heap) => vertex_s m h (a := (i : Int)) (b := U) hR
  have vW := fun (m : Md) (h : Heap) => vertex_s m h (a := (i : Int)) (b := W) hR
  have a0 := fun (m : Md) (h : Heap) => arc_s m h (a := (sn : Int)) (b := (i : Int)) (c := 0) hR
  have a1 := fun (m : Md) (h : Heap) => arc_s m h (a := (sn : Int)) (b := (i : Int)) (c := 1) hR
  have psl : sn < ps.length := by have := w.len; omega
  obtain ⟨e, he⟩ : ∃ z, ps[sn]? = some z := ⟨ps[sn]'psl, List.getElem?_eq_getElem psl⟩
  have rK := pLK Hg.hq
  obtain ⟨ixK, rxK⟩ := Sl.getV Hg.lk hlk
  have P2 := Hg.lp i lk ps hlk hps
  have ixE := fun {α : Type} (kk : Value → Option α) => P2.ix (i := (sn : Int)) (by omega) (by omega) kk
  simp only [Int.toNat_natCast] at ixE
  have rE : rd g (slB lk) (slO lk + sn * 2) = some ((Value.int .i64 e.1)) := P2.cell he (j := 0) (by decide)
  have ia0 := fun {α : Type} (kk : Value → Option α) => ixA_p 1 (slB lk) (slO lk + sn * 2) 2 0 kk (by omega)
  simp only [show (0 : Int).toNat = 0 from rfl, Nat.zero_mul, Nat.add_zero] at ia0
  have r6 := p6 Hg.hq
  rcases w.val sn e he with rfl | ⟨q1, _⟩
  · have t2 : ¬ ((-1 : Int) ≥ 0) := by decide
    have nixA : ∀ y ∈ A, Nix V S y := fun y hy => NL_nix hR hi (w.nl hA hy)
    have nixB : ∀ y ∈ B, Nix V S y := fun y hy => NL_nix hR hi (w.nl hB hy)
    have HA := Wp.hr i rs hrs A hA
    have HB := Wp.hr i rs hrs B hB
    obtain ⟨g1, f1, A1, o1⟩ := rSame (n := h.length) (lv := (i : Int)) (u := U) (w := W) hR Hg.th HA HB nixA nixB xA xB
    have H1 := Hg.only A1 fun y _ h1 h2 => o1.oth y h1 h2
    have l1 := o1.len
    have aw1 := fun (m : Nat) => awake10 m g1 (by omega)
    cases hsm : (RT (prO V S T l0) A == RT (prO V S T l0) B)
    · rw [hsm] at f1
      have hab : ia ≠ ib := fun e => by
        subst e
        rw [ha] at hb
        obtain rfl := Option.some.inj hb
        simp at hsm
      have dAB := pw_get w.dj ha hb hab
      have nl : ∀ e, ¬ Lk ps sn e := fun e h => by
        have := h.1
        rw [he] at this
        obtain rfl := Option.some.inj this
        exact absurd h.2 (by decide)
      have noarc : ∀ r ∈ rs, ∀ d, (d = 0 ∨ d = 1) → Ax V S sn i d ∉ r := fun r hr d hd h => by
        obtain ⟨e, he⟩ := w.arc hR hi hr hs hd h
        exact nl e he
      have ktn : Ax V S sn i 1 ≠ Ax V S sn i 0 := fun h => by have := (A_pos hR hi hi hs hs (.inr rfl) (.inl rfl) h).2.2; omega
      have Ht := Wp.al i ps hps sn hs nl 0 (.inl rfl)
      have Hk := Wp.al i ps hps sn hs nl 1 (.inr rfl)
      obtain ⟨p, hp⟩ := List.mem_iff_getElem?.1 xA
      obtain ⟨q', hq'⟩ := List.mem_iff_getElem?.1 xB
      obtain ⟨ZA, eZA⟩ := rot_hd hp
      obtain ⟨ZB, eZB⟩ := rot_hd hq'
      have mA : ∀ y, y ∈ rotR A p ↔ y ∈ A := fun y => rot_mem
      have mB : ∀ y, y ∈ rotR B q' ↔ y ∈ B := fun y => rot_mem
      have nA := rot_nodup (i := p) (w.nod A hA)
      have nB := rot_nodup (i := q') (w.nod B hB)
      have smA : (rotR A p).length < 20000 := small_row hR nA fun y hy => nixA y ((mA y).1 hy)
      have smB : (rotR B q').length < 20000 := small_row hR nB fun y hy => nixB y ((mB y).1 hy)
      obtain ⟨s2, k1, f2, A2, o2, I2, so2⟩ := rBegin (n := h.length) (lv := (i : Int)) (u := U) hR A1 HA (w.nod A hA) nixA hp
      have H2 := H1.only A2 fun y _ h1 h2 => o2.oth y h1 h2
      obtain ⟨va, k2, f3, S3, A3, l3, o3⟩ := rList (n := h.length) hR A2 I2 nA (fun y hy => nixA y ((mA y).1 hy))
      have H3 := H2.only A3 o3
      have HB2 := HR.same HB (so2.on fun y hy hq => dAB y hq hy)
      obtain ⟨s4, k3, f4, A4, o4, I4, so4⟩ := rBegin (n := h.length) (lv := (i : Int)) (u := W) hR A3 HB2 (w.nod B hB) nixB hq'
      have H4 := H3.only A4 fun y _ h1 h2 => o4.oth y h1 h2
      obtain ⟨vb, k4, f5, S5, A5, l5, o5⟩ := rList (n := h.length) hR A4 I4 nB (fun y hy => nixB y ((mB y).1 hy))
      have H5 := H4.only A5 o5
      have I2' := HR.same I2 (so4.on fun y hy hq => dAB y ((mA y).1 hy) hq)
      have Ht4 := HR.same (HR.same Ht (so2.on fun y hy hq => by simp at hy; subst hy; exact noarc A hA 0 (.inl rfl) hq)) (so4.on fun y hy hq => by simp at hy; subst hy; exact noarc B hB 0 (.inl rfl) hq)
      have Hk4 := HR.same (HR.same Hk (so2.on fun y hy hq => by simp at hy; subst hy; exact noarc A hA 1 (.inr rfl) hq)) (so4.on fun y hy hq => by simp at hy; subst hy; exact noarc B hB 1 (.inr rfl) hq)
      have nAB : (((rotR A p ++ [Ax V S sn i 0]) ++ rotR B q') ++ [Ax V S sn i 1]).Nodup := by
        refine List.nodup_append.2 ⟨List.nodup_append.2 ⟨List.nodup_append.2 ⟨nA, by simp, fun y hy z hz e => ?_⟩, nB, fun y hy z hz e => ?_⟩, by simp, fun y hy z hz e => ?_⟩
        · simp at hz; subst hz; subst e; exact noarc A hA 0 (.inl rfl) ((mA _).1 hy)
        · subst e
          rcases List.mem_append.1 hy with h | h
          · exact dAB y ((mA _).1 h) ((mB _).1 hz)
          · simp at h; subst h; exact noarc B hB 0 (.inl rfl) ((mB _).1 hz)
        · simp at hz; subst hz; subst e
          rcases List.mem_append.1 hy with h | h
          · rcases List.mem_append.1 h with h | h
            · exact noarc A hA 1 (.inr rfl) ((mA _).1 h)
            · simp at h; exact ktn h
          · exact noarc B hB 1 (.inr rfl) ((mB _).1 h)
      have nixAB : ∀ y ∈ ((rotR A p ++ [Ax V S sn i 0]) ++ rotR B q') ++ [Ax V S sn i 1], Nix V S y := fun y hy => by
        simp only [List.mem_append, List.mem_singleton] at hy
        rcases hy with ((h | h) | h) | h
        · exact nixA y ((mA _).1 h)
        · exact NL_nix hR hi (.inr ⟨sn, 0, hs, .inl rfl, h⟩)
        · exact nixB y ((mB _).1 h)
        · exact NL_nix hR hi (.inr ⟨sn, 1, hs, .inr rfl, h⟩)
      obtain ⟨s6, k5, f6, A6, o6, I6, so6⟩ := rLink (n := h.length) (lv := (i : Int)) (sl := (sn : Int)) (u := U) (w := W) (A := rotR A p) (B := rotR B q') (i := 0) (j := 0) hR A5 I2' I4 Ht4 Hk4 nAB nixAB (by rw [eZA]; rfl) (by rw [eZB]; rfl)
      have H6 := H5.only A6 fun y _ h1 h2 => o6.oth y h1 h2
      have eR : linkR (rotR A p) (rotR B q') 0 0 (Ax V S sn i 0) (Ax V S sn i 1) = (rotR A p ++ Ax V S sn i 0 :: rotR B q') ++ Ax V S sn i 1 :: [] := by
        unfold linkR
        rw [rot_zero, rot_zero]; simp
      have eR2 : ((rotR A p ++ [Ax V S sn i 0]) ++ rotR B q') ++ [Ax V S sn i 1] = (rotR A p ++ Ax V S sn i 0 :: rotR B q') ++ Ax V S sn i 1 :: [] := by simp
      rw [eR] at f6 I6
      rw [eR2] at nAB nixAB
      obtain ⟨s7, k6, f7, A7, o7, I7, I7', _, _, so7⟩ := rCut (n := h.length) (lv := (i : Int)) (sl := (sn : Int)) hR A6 (.inl ⟨rfl, rfl⟩) rfl I6 nAB nixAB
      rw [List.append_nil] at f7 I7'
      have H7 := H6.only A7 fun y _ h1 h2 => o7.oth y h1 h2
      obtain ⟨v8, k7, f8, S8, A8, l8, o8⟩ := rList (n := h.length) hR A7 I7 nB (fun y hy => nixB y ((mB y).1 hy))
      have H8 := H7.only A8 o8
      obtain ⟨v9, k8, f9, S9, A9, l9, o9⟩ := rList (n := h.length) hR A8 I7' nA (fun y hy => nixA y ((mA y).1 hy))
      have H9 := H8.only A9 o9
      obtain ⟨k9, fA, AA, oA⟩ := rRoot (n := h.length) hR A9 I7' (fun y hy => nixA y ((mA y).1 hy)) ((mA _).2 xA)
      have HA' := H9.only AA fun y _ h1 h2 => oA.oth y h1 h2
      obtain ⟨kA, fB, AB, oB⟩ := rRoot (n := h.length) hR AA I7 (fun y hy => nixB y ((mB y).1 hy)) ((mB _).2 xB)
      have m2 := o2.len
      have m4 := o4.len
      have m6 := o6.len
      have m7 := o7.len
      have mA9 := oA.len
      have mB9 := oB.len
      have awE := fun (m : Nat) => awake10 m kA (by omega)
      have bnd : ∀ {kk kk' : Heap} {v : Value} {xs : List Int}, SlO kk' kk.length 1 eZ v xs → xs ≠ [] → kk.length ≤ slB v ∧ slB v < kk'.length := fun {kk kk' v xs} Sx hx => by
        rcases Sx.own with e | ⟨q1, cs, q2⟩
        · subst e
          exact absurd Sx.nil_of hx
        · exact ⟨q1, lt_of q2⟩
      have neA : rotR A p ≠ [] := by rw [eZA]; simp
      have neB : rotR B q' ≠ [] := by rw [eZB]; simp
      have b3 := bnd S3 neA
      have b5 := bnd S5 neB
      have ltab := H1.th.la
      have va8 : Sl k8 1 eZ va (rotR A p) := S3.sl.heap fun _ => by
        rw [o9 _ (by omega) (by omega) (by omega), o8 _ (by omega) (by omega) (by omega), o7.oth _ (by omega) (by omega), o6.oth _ (by omega) (by omega), o5 _ (by omega) (by omega) (by omega), o4.oth _ (by omega) (by omega)]
      have vb7 : Sl k7 1 eZ vb (rotR B q') := S5.sl.heap fun _ => by
        rw [o8 _ (by omega) (by omega) (by omega), o7.oth _ (by omega) (by omega), o6.oth _ (by omega) (by omega)]
      have sm8 := same_t (n := h.length) S8.sl vb7 smB
      have sm9 := same_t (n := h.length) S9.sl va8 smA
      -- the op's block, and the lay's, at each heap
      have opk : ∀ {kk : Heap}, kk[h.length + 1]? = g[h.length + 1]? → _ := fun {kk} e => op_at (k := kk) (e.trans cg)
      have x1 : g1[h.length + 1]? = g[h.length + 1]? := o1.oth _ (by omega) (by omega)
      have x2 : k1[h.length + 1]? = g[h.length + 1]? := (o2.oth _ (by omega) (by omega)).trans x1
      have x3 : k2[h.length + 1]? = g[h.length + 1]? := (o3 _ (by omega) (by omega) (by omega)).trans x2
      have x4 : k3[h.length + 1]? = g[h.length + 1]? := (o4.oth _ (by omega) (by omega)).trans x3
      have x5 : k4[h.length + 1]? = g[h.length + 1]? := (o5 _ (by omega) (by omega) (by omega)).trans x4
      have x6 : k5[h.length + 1]? = g[h.length + 1]? := (o6.oth _ (by omega) (by omega)).trans x5
      obtain ⟨_, a11, a12, a13, a14⟩ := opk x1
      obtain ⟨_, a21, a22, a23, a24⟩ := opk x2
      obtain ⟨_, a31, a32, a33, a34⟩ := opk x3
      obtain ⟨_, a41, a42, a43, a44⟩ := opk x4
      obtain ⟨_, a51, a52, a53, a54⟩ := opk x5
      obtain ⟨_, a61, a62, a63, a64⟩ := opk x6
      have cl1 : g1[k.length]? = some (Blk.own [(Value.int .i64 V), (Value.int .i64 S), (Value.int .i64 T)]) := (o1.oth _ (by have := H.th.la; omega) (by have := H.th.la; omega)).trans cl
      have y31 : rdN g1 k.length 0 3 = some [(Value.int .i64 V), (Value.int .i64 S), (Value.int .i64 T)] := by rw [rdN_at cl1 (Nat.le_refl 3)]; rfl
      have r61 := p6 H1.hq
      have r62 := p6 H2.hq
      have r63 := p6 H3.hq
      have r64 := p6 H4.hq
      have r65 := p6 H5.hq
      have r66 := p6 H6.hq
      have r67 := p6 H7.hq
      have r68 := p6 H8.hq
      have r69 := p6 H9.hq
      have r6A := p6 HA'.hq
      refine ⟨kA.take h.length, ?_⟩
      unfold J11_1
      simp only [go_sem, Nat.reduceAdd, Nat.reduceLeDiff, Nat.reduceMul, Int.reduceBEq, Int.reduceBNe, Int.reduceLT, Int.reduceLE, Int.reduceGT, okNil, okP_p, p31, st3, w3, z0, z1, z2, z3, z4, y3, y0, y1, lvs', aBin_lss, aBin_geq, c1, c2, c3, c4, c5, c6, c7, c8, rK, ixSV_p, ixK, rxK, ixE, ia0, rE, t2, r6, f1, vU, vW, y31, a11, a12, a13, a14, r61, f2, cLE_t, r62, f3, a21, a23, a24, a31, a32, a33, a34, r63, f4, a41, a43, a44, r64, f5, r65, a51, a52, a53, a54, f6, r66, a61, a62, a63, a64, f7, r67, f8, sm8, r68, f9, sm9, r69, fA, aBin_eql, beq_self_eq_true, r6A, fB, awE]
    · rw [hsm] at f1
      refine ⟨g1.take h.length, ?_⟩
      unfold J11_1
      simp only [go_sem, Nat.reduceAdd, Nat.reduceLeDiff, Nat.reduceMul, Int.reduceBEq, Int.reduceBNe, Int.reduceLT, Int.reduceLE, Int.reduceGT, okNil, okP_p, p31, st3, w3, z0, z1, z2, z3, z4, y3, y0, y1, lvs', aBin_lss, aBin_geq, c1, c2, c3, c4, c5, c6, c7, c8, rK, ixSV_p, ixK, rxK, ixE, ia0, rE, t2, r6, f1, aw1]
  · have t2 : e.1 ≥ 0 := q1.1
    refine ⟨g.take h.length, ?_⟩
    unfold J11_1
    simp only [go_sem, Nat.reduceAdd, Nat.reduceLeDiff, Nat.reduceMul, Int.reduceBEq, Int.reduceBNe, Int.reduceLT, Int.reduceLE, Int.reduceGT, okNil, okP_p, p31, st3, w3, z0, z1, z2, z3, z4, y3, y0, y1, lvs', aBin_lss, aBin_geq, c1, c2, c3, c4, c5, c6, c7, c8, rK, ixSV_p, ixK, rxK, ixE, ia0, rE, t2, awg]
end Go.Det.E

/- TourBack. -/
namespace Go.Det.E
open Go.Proofs Go.Det Go.Det.U
attribute [local congr] bind_c cond_c
theorem arg_op10 {h : Heap} {v : Value} (x : TyArg Try.prog h 71 v) : ∃ o : OpT, v = (Value.agg #[(Value.int .i64 o.k), (Value.int .i64 o.lv), (Value.int .i64 o.sl), (Value.int .i64 o.u), (Value.int .i64 o.w)]) := by
  obtain ⟨acs, e, b⟩ := argN (P := Try.prog) (l := [.i .i64, .i .i64, .i .i64, .i .i64, .i .i64]) (by kernel_rfl) (by kernel_rfl) x
  obtain ⟨v1, r, rfl, a1, b⟩ := l_cons b
  obtain ⟨v2, r, rfl, a2, b⟩ := l_cons b
  obtain ⟨v3, r, rfl, a3, b⟩ := l_cons b
  obtain ⟨v4, r, rfl, a4, b⟩ := l_cons b
  obtain ⟨v5, r, rfl, a5, b⟩ := l_cons b
  obtain rfl := l_nil b
  obtain ⟨x1, rfl, _⟩ := inI64 a1
  obtain ⟨x2, rfl, _⟩ := inI64 a2
  obtain ⟨x3, rfl, _⟩ := inI64 a3
  obtain ⟨x4, rfl, _⟩ := inI64 a4
  obtain ⟨x5, rfl, _⟩ := inI64 a5
  exact ⟨⟨x1, x2, x3, x4, x5⟩, e⟩
theorem back10_law : Law Try.prog cfg 11 [66, 71] := by
  intro h avs ha
  obtain ⟨x, r, rfl, a0, ha⟩ := args_cons ha
  obtain ⟨x2, r, rfl, a1, ha⟩ := args_cons ha
  obtain rfl := args_nil ha
  obtain ⟨V, S, T, dv, ov, D, ops, rfl, SD, wD, SO⟩ := arg_case10 a0
  obtain ⟨⟨K, LV, SL, U, W⟩, rfl⟩ := arg_op10 a1
  simp only []
  have lhb : (h ++ [Blk.own [(Value.int .i64 V), (Value.int .i64 S), (Value.int .i64 T), dv, ov], Blk.own (opT K LV SL U W)]).length = h.length + 2 := by simp
  have rt := right10 (md := ⟨0, h.length⟩) (h := h ++ [Blk.own [(Value.int .i64 V), (Value.int .i64 S), (Value.int .i64 T), dv, ov], Blk.own (opT K LV SL U W)]) (V := V) (S := S) (T := T) (Nat.zero_le _) (by show h.length ≤ _; simp) SD.app SO.app
  rw [call_eq, F11_eq]
  unfold F11
  have aw := fun (m : Nat) => awake10 m (h ++ [Blk.own [(Value.int .i64 V), (Value.int .i64 S), (Value.int .i64 T), dv, ov], Blk.own (opT K LV SL U W)]) (by simp)
  by_cases hq : Rt V S T ∧ V ≤ 8 ∧ S ≤ 8 ∧ (D.length : Int) ≤ 60 ∧ (ops.length : Int) ≤ 60
  · rw [decide_eq_true hq] at rt
    obtain ⟨hR, h4, h3, hD, hO⟩ := hq
    have SD1 : Sl (h ++ [Blk.own [(Value.int .i64 V), (Value.int .i64 S), (Value.int .i64 T), dv, ov], Blk.own (opT K LV SL U W)]) 1 eU dv D := SD.app
    obtain ⟨h1, q, a, b, l0, s, RW, LK, lvs, lks, rvss, e1, H1, W1, l1, o1⟩ := begun10 (n := h.length) (h := h ++ [Blk.own [(Value.int .i64 V), (Value.int .i64 S), (Value.int .i64 T), dv, ov], Blk.own (opT K LV SL U W)]) (ov := ov) hR (by omega) (by omega) SD1 wD
    have cb : (h ++ [Blk.own [(Value.int .i64 V), (Value.int .i64 S), (Value.int .i64 T), dv, ov], Blk.own (opT K LV SL U W)])[h.length]? = some (Blk.own [(Value.int .i64 V), (Value.int .i64 S), (Value.int .i64 T), dv, ov]) := by rw [List.getElem?_append_right (Nat.le_refl _)]; simp
    have cb2 : (h ++ [Blk.own [(Value.int .i64 V), (Value.int .i64 S), (Value.int .i64 T), dv, ov], Blk.own (opT K LV SL U W)])[h.length + 1]? = some (Blk.own (opT K LV SL U W)) := by rw [List.getElem?_append_right (by omega)]; simp
    have c1 : h1[h.length]? = some (Blk.own [(Value.int .i64 V), (Value.int .i64 S), (Value.int .i64 T), dv, ov]) := by rw [o1 _ (by omega)]; exact cb
    have rO : rd h1 h.length 4 = some ov := by rw [rd_at c1]; rfl
    have len := fun {α : Type} (k : Value → Option α) => SO.len k
    obtain ⟨c2, s2, lvs2, rvss2, rss2, pss2, k2, eg, hc2, H2, W2, hl2, ok2⟩ := back10_loop (h := h) (p2 := (Value.pointer (some ⟨h.length, 0, none⟩))) (p3 := (Value.pointer (some ⟨h.length + 1, 0, none⟩))) hR (by omega) SO.app (by omega) ops.length 0 h1 16 s lvs rvss _ _ (by omega) (by omega) H1 W1 l1 o1
    have k2c := (ok2 h.length (by omega)).trans cb
    have k2o := (ok2 (h.length + 1) (by omega)).trans cb2
    obtain ⟨g, eJ⟩ : ∃ g, J11_1 C ⟨0, h.length⟩ h ((Value.pointer (some ⟨h.length, 0, none⟩))) ((Value.pointer (some ⟨h.length + 1, 0, none⟩))) ((Value.pointer (some ⟨q, 0, none⟩))) k2 = some ((Value.bool true), g) := by
      rcases Classical.em (Good V S LV SL U W) with gd | gd
      · obtain ⟨⟨g1, g2⟩, ⟨g3, g4⟩, g5, g6⟩ := gd
        obtain ⟨i, rfl⟩ : ∃ i : Nat, LV = i := ⟨LV.toNat, by omega⟩
        obtain ⟨sn, rfl⟩ : ∃ i : Nat, SL = i := ⟨SL.toNat, by omega⟩
        exact back_in hR H2 W2 lhb k2c k2o g2 g4 g5 g6
      · exact back_out hR H2 W2 lhb k2c k2o gd
    have uP : Try.prog.underlying 68 = some (.pointer 78) := by kernel_rfl
    refine ⟨g, ?_⟩
    simp only [go_sem, Nat.reduceAdd, Nat.reduceLeDiff, Nat.reduceMul, Int.reduceBEq, Int.reduceBNe, Int.reduceLT, Int.reduceLE, Int.reduceGT, rt, e1, aBin_eqlP uP, rO, len]
    exact eg.trans eJ
  · rw [decide_eq_false hq] at rt
    exact ⟨_, by simp only [go_sem, Nat.reduceAdd, Nat.reduceLeDiff, Nat.reduceMul, Int.reduceBEq, Int.reduceBNe, Int.reduceLT, Int.reduceLE, Int.reduceGT, rt, aw]; rfl⟩
end Go.Det.E
