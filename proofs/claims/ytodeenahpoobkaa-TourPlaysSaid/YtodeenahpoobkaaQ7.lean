/- The laws of 10: what each begins with. -/
import Derived.Test.YtodeenahpoobkaaQ6
import Derived.Test.YtodeenahpoobkaaEP
set_option autoImplicit false
set_option linter.unusedVariables false
set_option linter.unusedSimpArgs false
namespace Go.Det.E
open Go.Proofs Go.Det Go.Det.U
attribute [local congr] bind_c cond_c
variable {md : Md} {h hh k h' : Heap} {V S T x v p f : Int} {D : List Int} {dv ov : Value} {ops : List OpT}
abbrev encT (o : OpT) : List Value := [(Value.int .i64 o.k), (Value.int .i64 o.lv), (Value.int .i64 o.sl), (Value.int .i64 o.u), (Value.int .i64 o.w)]
theorem encT_len (o : OpT) : (encT o).length = 5 := rfl
theorem ops10_of {h : Heap} {ess : List (List Value)} (a : TyE h [.i .i64, .i .i64, .i .i64, .i .i64, .i .i64] ess) : ∃ ops : List OpT, ess = ops.map encT := by
  induction ess with
  | nil => exact ⟨[], rfl⟩
  | cons es ess ih =>
    cases a with
    | cons _ _ _ b h2 =>
      obtain ⟨v1, r, rfl, a1, b⟩ := l_cons b
      obtain ⟨v2, r, rfl, a2, b⟩ := l_cons b
      obtain ⟨v3, r, rfl, a3, b⟩ := l_cons b
      obtain ⟨v4, r, rfl, a4, b⟩ := l_cons b
      obtain ⟨v6, r, rfl, a6, b⟩ := l_cons b
      obtain rfl := l_nil b
      obtain ⟨x1, rfl, _⟩ := inI64 a1
      obtain ⟨x2, rfl, _⟩ := inI64 a2
      obtain ⟨x3, rfl, _⟩ := inI64 a3
      obtain ⟨x4, rfl, _⟩ := inI64 a4
      obtain ⟨x6, rfl, _⟩ := inI64 a6
      obtain ⟨ops, e⟩ := ih h2
      exact ⟨⟨x1, x2, x3, x4, x6⟩ :: ops, by rw [e]; rfl⟩
theorem arg_case10 {h : Heap} {v : Value} (x : TyArg Try.prog h 66 v) : ∃ (V S T : Int) (dv ov : Value) (D : List Int) (ops : List OpT), v = (Value.agg #[(Value.int .i64 V), (Value.int .i64 S), (Value.int .i64 T), dv, ov]) ∧ Sl h 1 eU dv D ∧ Wd D ∧ Sl h 5 encT ov ops := by
  obtain ⟨acs, e, b⟩ := argN (P := Try.prog) (l := [.i .i64, .i .i64, .i .i64, .sl [.i .u64], .sl [.i .i64, .i .i64, .i .i64, .i .i64, .i .i64]]) (by kernel_rfl) (by kernel_rfl) x
  obtain ⟨v1, r, rfl, a1, b⟩ := l_cons b
  obtain ⟨v2, r, rfl, a2, b⟩ := l_cons b
  obtain ⟨v3, r, rfl, a3, b⟩ := l_cons b
  obtain ⟨v4, r, rfl, a4, b⟩ := l_cons b
  obtain ⟨v5, r, rfl, a5, b⟩ := l_cons b
  obtain rfl := l_nil b
  obtain ⟨V, rfl, _⟩ := inI64 a1
  obtain ⟨S, rfl, _⟩ := inI64 a2
  obtain ⟨T, rfl, _⟩ := inI64 a3
  have hD : ∃ D, Sl h 1 eU v4 D ∧ Wd D := by
    rcases inSl a4 with e | ⟨b, ess, e, hb', hl, he⟩
    · rw [e]; exact ⟨[], Sl.nil _ eU_len, fun _ h => by simp at h⟩
    · obtain ⟨vs, rfl, e2, hv⟩ := elems1 he
      have : ∃ ws : List Int, vs = ws.map (.int .u64) ∧ Wd ws := by
        clear e hb' hl he e2
        induction vs with
        | nil => exact ⟨[], rfl, fun _ h => by simp at h⟩
        | cons v vs ih =>
          obtain ⟨ws, e, w⟩ := ih fun u hu => hv u (List.mem_cons_of_mem _ hu)
          obtain ⟨n, rfl, n0, n1⟩ := inU64 (hv v List.mem_cons_self)
          refine ⟨n :: ws, by rw [e]; rfl, fun m hm => ?_⟩
          rcases List.mem_cons.1 hm with rfl | hm
          · exact ⟨n0, n1⟩
          · exact w m hm
      obtain ⟨ws, rfl, w⟩ := this
      refine ⟨ws, ?_, w⟩
      rw [e]
      refine Sl.whole eU_len hb' ?_ (by simp)
      show List.flatten _ = _
      rw [e2]
      clear hb' hl he e2 e hv w
      induction ws with
      | nil => rfl
      | cons x ws ih => rw [flat_cons, ← ih]; rfl
  obtain ⟨D, SD, wD⟩ := hD
  have hO : ∃ ops, Sl h 5 encT v5 ops := by
    rcases inSl a5 with e | ⟨b, ess, e, hb, _, he⟩
    · rw [e]; exact ⟨[], Sl.nil _ encT_len⟩
    · obtain ⟨ops, rfl⟩ := ops10_of he
      rw [e]
      exact ⟨ops, Sl.whole encT_len hb rfl (by simp)⟩
  obtain ⟨ops, SO⟩ := hO
  exact ⟨V, S, T, v4, v5, D, ops, e, SD, wD, SO⟩
theorem refright10 (md : Md) (h : Heap) (V S T : Int) : C md 50 [(Value.agg #[(Value.int .i64 V), (Value.int .i64 S), (Value.int .i64 T)])] h = some ((Value.bool (decide (Rt V S T))), h) := by
  rw [C, call_eq, F50_eq]
  unfold F50 Rt
  by_cases h1 : 1 ≤ V <;> (try by_cases h2 : V ≤ 16) <;> (try by_cases h3 : 0 ≤ S) <;> (try by_cases h4 : S ≤ 48) <;> (try by_cases h5 : 1 ≤ T) <;> (try by_cases h6 : T ≤ 8) <;>
    simp only [go_sem, Nat.reduceAdd, Nat.reduceLeDiff, Nat.reduceMul, Int.reduceBEq, Int.reduceBNe, Int.reduceLT, Int.reduceLE, Int.reduceGT, ge_iff_le, *, aBin_leq, aBin_geq, false_and, and_false, true_and, and_self]
theorem right10 (hro : md.ro ≤ h.length) (hlim : md.lim ≤ h.length) (SD : Sl h 1 eU dv D) (SO : Sl h 5 encT ov ops) :
    C md 31 [(Value.agg #[(Value.int .i64 V), (Value.int .i64 S), (Value.int .i64 T), dv, ov])] h = some ((Value.bool (decide (Rt V S T ∧ V ≤ 8 ∧ S ≤ 8 ∧ (D.length : Int) ≤ 60 ∧ (ops.length : Int) ≤ 60))), h) := by
  have ld := fun {α : Type} (k : Value → Option α) => SD.len k
  have lo := fun {α : Type} (k : Value → Option α) => SO.len k
  have h1 : md.ro ≤ h.length + 1 := by omega
  have h2 : md.lim ≤ h.length + 1 := by omega
  rw [C, call_eq, F31_eq]
  unfold F31
  by_cases c1 : Rt V S T
  · by_cases c2 : V ≤ 8
    · by_cases c3 : S ≤ 8
      · by_cases c4 : (D.length : Int) ≤ 60
        · by_cases c5 : (ops.length : Int) ≤ 60
          · have : decide (Rt V S T ∧ V ≤ 8 ∧ S ≤ 8 ∧ (D.length : Int) ≤ 60 ∧ (ops.length : Int) ≤ 60) = true := decide_eq_true ⟨c1, c2, c3, c4, c5⟩
            rw [this]
            simp only [go_sem, Nat.reduceAdd, Nat.reduceLeDiff, Nat.reduceMul, Int.reduceBEq, Int.reduceBNe, Int.reduceLT, Int.reduceLE, Int.reduceGT, refright10, c1, aBin_leq, c2, c3, ld, c4, lo, c5, h1, h2]
          · have : decide (Rt V S T ∧ V ≤ 8 ∧ S ≤ 8 ∧ (D.length : Int) ≤ 60 ∧ (ops.length : Int) ≤ 60) = false := decide_eq_false fun z => c5 z.2.2.2.2
            rw [this]
            simp only [go_sem, Nat.reduceAdd, Nat.reduceLeDiff, Nat.reduceMul, Int.reduceBEq, Int.reduceBNe, Int.reduceLT, Int.reduceLE, Int.reduceGT, refright10, c1, aBin_leq, c2, c3, ld, c4, lo, c5, h1, h2]
        · have : decide (Rt V S T ∧ V ≤ 8 ∧ S ≤ 8 ∧ (D.length : Int) ≤ 60 ∧ (ops.length : Int) ≤ 60) = false := decide_eq_false fun z => c4 z.2.2.2.1
          rw [this]
          simp only [go_sem, Nat.reduceAdd, Nat.reduceLeDiff, Nat.reduceMul, Int.reduceBEq, Int.reduceBNe, Int.reduceLT, Int.reduceLE, Int.reduceGT, refright10, c1, aBin_leq, c2, c3, ld, c4, h1, h2]
      · have : decide (Rt V S T ∧ V ≤ 8 ∧ S ≤ 8 ∧ (D.length : Int) ≤ 60 ∧ (ops.length : Int) ≤ 60) = false := decide_eq_false fun z => c3 z.2.2.1
        rw [this]
        simp only [go_sem, Nat.reduceAdd, Nat.reduceLeDiff, Nat.reduceMul, Int.reduceBEq, Int.reduceBNe, Int.reduceLT, Int.reduceLE, Int.reduceGT, refright10, c1, aBin_leq, c2, c3, h1, h2]
    · have : decide (Rt V S T ∧ V ≤ 8 ∧ S ≤ 8 ∧ (D.length : Int) ≤ 60 ∧ (ops.length : Int) ≤ 60) = false := decide_eq_false fun z => c2 z.2.1
      rw [this]
      simp only [go_sem, Nat.reduceAdd, Nat.reduceLeDiff, Nat.reduceMul, Int.reduceBEq, Int.reduceBNe, Int.reduceLT, Int.reduceLE, Int.reduceGT, refright10, c1, aBin_leq, c2, h1, h2]
  · have : decide (Rt V S T ∧ V ≤ 8 ∧ S ≤ 8 ∧ (D.length : Int) ≤ 60 ∧ (ops.length : Int) ≤ 60) = false := decide_eq_false fun z => c1 z.1
    rw [this]
    simp only [go_sem, Nat.reduceAdd, Nat.reduceLeDiff, Nat.reduceMul, Int.reduceBEq, Int.reduceBNe, Int.reduceLT, Int.reduceLE, Int.reduceGT, refright10, c1, h1, h2]
end Go.Det.E
/- The laws of 10: is the machine awake. -/
namespace Go.Det.E
open Go.Proofs Go.Det Go.Det.U
attribute [local congr] bind_c cond_c
theorem take_same10 {h k : Heap} (hl : h.length ≤ k.length) (o : ∀ y, y < h.length → k[y]? = h[y]?) : k.take h.length = h := by
  refine List.ext_getElem? fun y => ?_
  by_cases hy : y < h.length
  · rw [List.getElem?_take_of_lt hy, o y hy]
  · rw [List.getElem?_eq_none (by rw [List.length_take]; omega), List.getElem?_eq_none (by omega)]
set_option maxHeartbeats 4000000 in
set_option maxRecDepth 100000 in
theorem awake10 (n : Nat) (h : Heap) (hp : 0 < h.length) : C ⟨0, n⟩ 32 [] h = some ((Value.bool true), h) := by
  have hR : Rt 2 1 1 := by unfold Rt; omega
  obtain ⟨k1, q, a, b, l0, s1, RW, LK, lvs, lks, rvss, e1, H1, W, l1, o1⟩ := begun10 (V := 2) (S := 1) (T := 1) (n := h.length) (dv := .slice none 0 0) (ov := .slice none 0 0) (D := []) hR hp (Nat.le_refl _) (Sl.nil h eU_len) (fun _ h => by simp at h)
  have lo := H1.lo
  have hrs : (rss0 2)[0]? = some [[1], [2]] := by decide
  have hps : (pss0 2 1)[0]? = some [(-1, -1)] := by decide
  have nl : ∀ e, ¬ Lk [((-1 : Int), (-1 : Int))] 0 e := fun e h => by
    have := h.1
    simp at this
    have h2 := h.2
    rw [← this] at h2
    exact absurd h2 (by decide)
  have r1 : HR 2 (prO 2 1 1 l0) s1 [1] := W.hr 0 _ hrs [1] (by simp)
  have r2 : HR 2 (prO 2 1 1 l0) s1 [2] := W.hr 0 _ hrs [2] (by simp)
  have a50 : Ax 2 1 0 0 0 = 5 := by decide
  have a60 : Ax 2 1 0 0 1 = 6 := by decide
  have r5 : HR 2 (prO 2 1 1 l0) s1 [Ax 2 1 0 0 0] := W.al 0 _ hps 0 (by decide) nl 0 (.inl rfl)
  have r6 : HR 2 (prO 2 1 1 l0) s1 [Ax 2 1 0 0 1] := W.al 0 _ hps 0 (by decide) nl 1 (.inr rfl)
  have nx : ∀ y ∈ [(1 : Int), 5, 2, 6], Nix 2 1 y := by decide
  have nd : [(1 : Int), 5, 2, 6].Nodup := by decide
  have T1 := p6 H1.hq
  obtain ⟨s2, k2, f2, A2, o2, I2, so2⟩ := rLink (n := h.length) (lv := 0) (sl := 0) (u := 0) (w := 1) (A := [1]) (B := [2]) (i := 0) (j := 0) hR H1.th r1 r2 r5 r6 (by decide) (by decide) (by decide) (by decide)
  have er : linkR [1] [2] 0 0 (Ax 2 1 0 0 0) (Ax 2 1 0 0 1) = [1, 5, 2, 6] := by decide
  rw [er] at f2 I2
  have H2 := H1.only A2 fun y _ h1 h2 => o2.oth y h1 h2
  have T2 := p6 H2.hq
  obtain ⟨v, k3, f3, S3, A3, l3, o3⟩ := rList (n := h.length) hR A2 I2 nd nx
  have H3 := H2.only A3 o3
  have T3 := p6 H3.hq
  have i1 : Vx 2 0 0 ∈ [(1 : Int), 5, 2, 6] := by decide
  have i2 : Vx 2 0 1 ∈ [(1 : Int), 5, 2, 6] := by decide
  have i5 : Ax 2 1 0 0 0 ∈ [(1 : Int), 5, 2, 6] := by decide
  have i6 : Ax 2 1 0 0 1 ∈ [(1 : Int), 5, 2, 6] := by decide
  obtain ⟨k4, f4, A4, o4⟩ := rSame (n := h.length) (lv := 0) (u := 0) (w := 1) hR A3 I2 I2 nx nx i1 i2
  rw [beq_self_eq_true] at f4
  have H4 := H3.only A4 fun y _ h1 h2 => o4.oth y h1 h2
  have T4 := p6 H4.hq
  obtain ⟨k5, f5, A5, o5⟩ := rCount (n := h.length) (lv := 0) (u := 1) hR A4 I2 nd nx i2
  have c2 : (([(1 : Int), 5, 2, 6].filter (vxB 2)).length : Int) = 2 := by decide
  rw [c2] at f5
  have H5 := H4.only A5 fun y _ h1 h2 => o5.oth y h1 h2
  have T5 := p6 H5.hq
  obtain ⟨k6, f6, A6, o6⟩ := rLinked (n := h.length) (lv := 0) (sl := 0) hR A5 I2 I2 nx nx i5 i6
  rw [beq_self_eq_true] at f6
  have H6 := H5.only A6 fun y _ h1 h2 => o6.oth y h1 h2
  have T6 := p6 H6.hq
  obtain ⟨s7, k7, f7, A7, o7, I7, I7', I50, I60, so7⟩ := rCut (n := h.length) (lv := 0) (sl := 0) (P := [1]) (I := [2]) (Q := []) (c := 5) (d := 6) (r := [1, 5, 2, 6]) hR A6 (.inl ⟨a50.symm, a60.symm⟩) rfl I2 nd nx
  have H7 := H6.only A7 fun y _ h1 h2 => o7.oth y h1 h2
  have T7 := p6 H7.hq
  have nx1 : ∀ y ∈ [(1 : Int)], Nix 2 1 y := by decide
  have nx2 : ∀ y ∈ [(2 : Int)], Nix 2 1 y := by decide
  have e1q : ([1] : List Int) ++ [] = [1] := rfl
  rw [e1q] at f7 I7'
  obtain ⟨k8, f8, A8, o8⟩ := rSame (n := h.length) (lv := 0) (u := 0) (w := 1) (r1 := [1]) (r2 := [2]) hR A7 I7' I7 nx1 nx2 (by decide) (by decide)
  have b12 : ((1 : Int) == 2) = false := rfl
  rw [RT_one, RT_one, b12] at f8
  have H8 := H7.only A8 fun y _ h1 h2 => o8.oth y h1 h2
  have T8 := p6 H8.hq
  have nx5 : ∀ y ∈ [Ax 2 1 0 0 0], Nix 2 1 y := by decide
  have nx6 : ∀ y ∈ [Ax 2 1 0 0 1], Nix 2 1 y := by decide
  obtain ⟨k9, f9, A9, o9⟩ := rLinked (n := h.length) (lv := 0) (sl := 0) hR A8 I50 I60 nx5 nx6 (by simp) (by simp)
  have b56 : (Ax 2 1 0 0 0 == Ax 2 1 0 0 1) = false := by decide
  rw [RT_one, RT_one, b56] at f9
  have H9 := H8.only A9 fun y _ h1 h2 => o9.oth y h1 h2
  have T9 := p6 H9.hq
  obtain ⟨kA, fA, AA, oA⟩ := rCount (n := h.length) (lv := 0) (u := 0) (r := [1]) hR A9 I7' (by decide) nx1 (by decide)
  have c1 : (([(1 : Int)].filter (vxB 2)).length : Int) = 1 := by decide
  rw [c1] at fA
  have uP : Try.prog.underlying 68 = some (.pointer 78) := by kernel_rfl
  have len := fun {α : Type} (kk : Value → Option α) => S3.sl.len kk
  have ln4 : (([(1 : Int), 5, 2, 6].length : Nat) : Int) = 4 := rfl
  rw [ln4] at len
  have la := H2.th.la
  have bv : k2.length ≤ slB v ∧ slB v < k3.length := by
    rcases S3.own with e | ⟨q1, cs, q2⟩
    · subst e
      have := S3.nil_of
      simp at this
    · exact ⟨q1, lt_of q2⟩
  have X7 : Sl k7 1 eZ v [1, 5, 2, 6] := S3.sl.heap fun _ => by
    rw [o7.oth _ (by omega) (by omega), o6.oth _ (by omega) (by omega), o5.oth _ (by omega) (by omega), o4.oth _ (by omega) (by omega)]
  obtain ⟨ix0, rx0⟩ := Sl.getI X7 (k := 0) (x := 1) rfl
  obtain ⟨ix2, rx2⟩ := Sl.getI X7 (k := 2) (x := 2) rfl
  have z0 : (((0 : Nat) : Int)) = 0 := rfl
  have z2 : (((2 : Nat) : Int)) = 2 := rfl
  rw [z0] at ix0
  rw [z2] at ix2
  simp only [Nat.add_zero] at ix0 rx0
  have l2 := o2.len
  have l4 := o4.len
  have l5 := o5.len
  have l6 := o6.len
  have l7 := o7.len
  have l8 := o8.len
  have l9 := o9.len
  have lA := oA.len
  have tk : kA.take h.length = h := take_same10 (by omega) fun y hy => by
    rw [oA.oth _ (by omega) (by omega), o9.oth _ (by omega) (by omega), o8.oth _ (by omega) (by omega), o7.oth _ (by omega) (by omega), o6.oth _ (by omega) (by omega), o5.oth _ (by omega) (by omega), o4.oth _ (by omega) (by omega), o3 _ (by omega) (by omega) (by omega), o2.oth _ (by omega) (by omega), o1 y hy]
  rw [C, call_eq, F32_eq]
  unfold F32
  simp only [go_sem, Nat.reduceAdd, Nat.reduceLeDiff, Nat.reduceMul, Int.reduceBEq, Int.reduceBNe, Int.reduceLT, Int.reduceLE, Int.reduceGT, e1, aBin_eqlP uP, okNil, okP_p, T1, f2, T2, f3, T3, cLE_t, f4, T4, f5, T5, f6, T6, f7, len, aBin_eql, ix0, rx0, ix2, rx2, T7, f8, T8, f9, T9, fA, tk, aUn_not]
end Go.Det.E

/- TourPlays: at the end all rows are told, all links. -/
namespace Go.Det.E
open Go.Proofs Go.Det Go.Det.U
attribute [local congr] bind_c cond_c
variable {h hh k h' : Heap} {a b q n n0 n1 c cb lb tb : Nat} {V S T x y p f u w sl K LV SL U W : Int} {D l : List Int} {l0 : Int → Int} {pr : Int → Int} {s s' : NS} {r A B xs : List Int} {dv ov rv av bv RW LK lv lvv lk X : Value} {i j m sn N ir : Nat} {rs rs' : List (List Int)} {ps ps' : List (Int × Int)} {rss rss' : List (List (List Int))} {pss pss' : List (List (Int × Int))} {rvs lvs lks : List Value} {rvss : List (List Value)} {cs : List Value} {e : Int × Int}
theorem plays_x {s2 s6 s38 s39 s40 s45 s46 : Value} (hR : Rt V S T) (W : PW V S (prO V S T l0) c s rss pss) (hi : (i : Int) < Lv V) (hlv : lvs[i]? = some lvv) (hrv : rvss[i]? = some rvs) (hrs : rss[i]? = some rs) (hir : rvs[ir]? = some rv) (hr : rs[ir]? = some r) : ∀ (m j : Nat) (g : Heap), j + m = r.length → H10 V S T l0 a b q n0 RW LK lvs lks rvss s rss pss g →
    ∃ g', J8_2b0b0 C ⟨0, n⟩ s2 ((Value.pointer (some ⟨q, 0, none⟩))) s6 rv s38 s39 s40 s45 s46 ((Value.int .i64 p)) rv ((Value.int .i64 ((r.length : Int)))) ((Value.int .i64 ((j : Int)))) g = (aBin Try.prog .add 3 ((Value.int .i64 p)) ((Value.int .i64 1)) fun v1 => some (.inl ((s2, (Value.pointer (some ⟨q, 0, none⟩)), s6, s38, s39, s40, s45, s46, v1), g'))) ∧ H10 V S T l0 a b q n0 RW LK lvs lks rvss s rss pss g' := by
  obtain ⟨rs', ps, e1, hps, w⟩ := W.lev hi
  rw [hrs] at e1
  obtain rfl := Option.some.inj e1
  have hrm := List.mem_of_getElem? hr
  have sm := WF.small hR hi w hrm
  have nd := w.nod r hrm
  have nx : ∀ y ∈ r, Nix V S y := fun y hy => NL_nix hR hi (w.nl hrm hy)
  have hR' := W.hr i rs hrs r hrm
  intro m
  induction m with
  | zero =>
    intro j g hj H
    obtain rfl : j = r.length := by omega
    refine ⟨g, ?_, H⟩
    rw [J8_2b0b0_step]
    unfold Jr8_2b0b0
    simp only [go_sem, Nat.reduceAdd, Nat.reduceLeDiff, Nat.reduceMul, Int.reduceBEq, Int.reduceBNe, Int.reduceLT, Int.reduceLE, Int.reduceGT, aBin_lss, Int.lt_irrefl, Jk8_2b0b0]
  | succ m ih =>
    intro j g hj H
    have hlt : (j : Int) < (r.length : Int) := by omega
    have w1 : IntKind.wrap .i64 ((j : Int) + 1) = ((j + 1 : Nat) : Int) := by rw [wi (by omega) (by omega)]; rfl
    have X : Sl g 1 eZ rv r := (H.lr i lvv rvs rs hlv hrv hrs).f2.get ir rv r hir hr
    have hy : r[j]? = some (r[j]'(by omega)) := List.getElem?_eq_getElem (by omega)
    generalize r[j]'(by omega) = y at hy
    obtain ⟨ix, rx⟩ := Sl.getI X hy
    have r6 := p6 H.hq
    obtain ⟨g1, f1, A1, o1⟩ := rRoot (n := n) hR H.th hR' nx (List.mem_of_getElem? hy)
    have H1 := H.only A1 fun y _ h1 h2 => o1.oth y h1 h2
    have r61 := p6 H1.hq
    obtain ⟨v2, g2, f2, S2, A2, l2, o2⟩ := rList (n := n) hR A1 hR' nd nx
    have H2 := H1.only A2 o2
    have sm2 := same_t (n := n) S2.sl ((H2.lr i lvv rvs rs hlv hrv hrs).f2.get ir rv r hir hr) sm
    obtain ⟨g', e', H'⟩ := ih (j + 1) g2 (by omega) H2
    refine ⟨g', ?_, H'⟩
    rw [J8_2b0b0_step]
    unfold Jr8_2b0b0
    simp only [go_sem, Nat.reduceAdd, Nat.reduceLeDiff, Nat.reduceMul, Int.reduceBEq, Int.reduceBNe, Int.reduceLT, Int.reduceLE, Int.reduceGT, aBin_lss, hlt, ixSV_p, ix, rx, okNil, okP_p, r6, f1, r61, f2, sm2, aBin_add, w1]
    exact e'
theorem plays_r {s2 s6 s38 s39 s40 : Value} (hR : Rt V S T) (W : PW V S (prO V S T l0) c s rss pss) (hc : c < 20000) (hi : (i : Int) < Lv V) (hlv : lvs[i]? = some lvv) (hrv : rvss[i]? = some rvs) (hrs : rss[i]? = some rs) : ∀ (m j : Nat) (g : Heap), j + m = rvs.length → H10 V S T l0 a b q n0 RW LK lvs lks rvss s rss pss g →
    ∃ g', J8_2b0 C ⟨0, n⟩ s2 ((Value.pointer (some ⟨q, 0, none⟩))) s6 s38 s39 s40 lvv ((Value.int .i64 ((rvs.length : Int)))) ((Value.int .i64 ((j : Int)))) g = J8_2b1 C ⟨0, n⟩ s2 ((Value.pointer (some ⟨q, 0, none⟩))) s6 s38 s39 s40 g' ∧ H10 V S T l0 a b q n0 RW LK lvs lks rvss s rss pss g' := by
  intro m
  induction m with
  | zero =>
    intro j g hj H
    obtain rfl : j = rvs.length := by omega
    refine ⟨g, ?_, H⟩
    rw [J8_2b0_step]
    unfold Jr8_2b0
    simp only [go_sem, Nat.reduceAdd, Nat.reduceLeDiff, Nat.reduceMul, Int.reduceBEq, Int.reduceBNe, Int.reduceLT, Int.reduceLE, Int.reduceGT, aBin_lss, Int.lt_irrefl, Jk8_2b0]
  | succ m ih =>
    intro j g hj H
    have Y := H.lr i lvv rvs rs hlv hrv hrs
    have hl := Y.len
    have hcn := W.cnt i rs hrs
    have hlt : (j : Int) < (rvs.length : Int) := by omega
    have w1 : IntKind.wrap .i64 ((j : Int) + 1) = ((j + 1 : Nat) : Int) := by rw [wi (by omega) (by omega)]; rfl
    obtain ⟨rv, hv⟩ : ∃ rv, rvs[j]? = some rv := ⟨rvs[j]'(by omega), List.getElem?_eq_getElem (by omega)⟩
    obtain ⟨r, hr⟩ : ∃ r, rs[j]? = some r := ⟨rs[j]'(by omega), List.getElem?_eq_getElem (by omega)⟩
    obtain ⟨ix, rx⟩ := Sl.getV Y.sl hv
    have X := Y.f2.get j rv r hv hr
    have len := fun {α : Type} (kk : Value → Option α) => X.len kk
    obtain ⟨g1, e1, H1⟩ := plays_x (n := n) (s2 := s2) (s6 := s6) (s38 := s38) (s39 := s39) (s40 := s40) (s45 := lvv) (s46 := (Value.int .i64 ((rvs.length : Int)))) (p := (j : Int)) hR W hi hlv hrv hrs hv hr r.length 0 g (by omega) H
    obtain ⟨g', e', H'⟩ := ih (j + 1) g1 (by omega) H1
    refine ⟨g', ?_, H'⟩
    have z0 : (((0 : Nat) : Int)) = 0 := rfl
    rw [z0] at e1
    rw [J8_2b0_step]
    unfold Jr8_2b0
    simp only [go_sem, Nat.reduceAdd, Nat.reduceLeDiff, Nat.reduceMul, Int.reduceBEq, Int.reduceBNe, Int.reduceLT, Int.reduceLE, Int.reduceGT, aBin_lss, hlt, ixSV_p, ix, rx, len, e1, aBin_add, w1]
    exact e'
theorem plays_l {s2 s38 s39 : Value} (hR : Rt V S T) (W : PW V S (prO V S T l0) c s rss pss) (hi : (i : Int) < Lv V) (hn : n ≤ n0) (hlk : lks[i]? = some lk) (hps : pss[i]? = some ps) : ∀ (m j : Nat) (g : Heap), j + m = ps.length → H10 V S T l0 a b q n0 RW LK lvs lks rvss s rss pss g →
    ∃ g', J8_2b2 C ⟨0, n⟩ s2 ((Value.pointer (some ⟨q, 0, none⟩))) ((Value.int .i64 ((i : Int)))) s38 s39 ((Value.int .i64 ((i : Int)))) lk ((Value.int .i64 ((ps.length : Int)))) ((Value.int .i64 ((j : Int)))) g = (aBin Try.prog .add 3 ((Value.int .i64 ((i : Int)))) ((Value.int .i64 1)) fun v1 => some (.inl ((s2, (Value.pointer (some ⟨q, 0, none⟩)), s38, s39, v1), g'))) ∧ H10 V S T l0 a b q n0 RW LK lvs lks rvss s rss pss g' := by
  have rV := hR
  unfold Rt at rV
  obtain ⟨rs, ps', hrs, e1, w⟩ := W.lev hi
  rw [hps] at e1
  obtain rfl := Option.some.inj e1
  have pl := w.len
  intro m
  induction m with
  | zero =>
    intro j g hj H
    obtain rfl : j = ps.length := by omega
    refine ⟨g, ?_, H⟩
    rw [J8_2b2_step]
    unfold Jr8_2b2
    simp only [go_sem, Nat.reduceAdd, Nat.reduceLeDiff, Nat.reduceMul, Int.reduceBEq, Int.reduceBNe, Int.reduceLT, Int.reduceLE, Int.reduceGT, aBin_lss, Int.lt_irrefl, Jk8_2b2]
  | succ m ih =>
    intro j g hj H
    have hlt : (j : Int) < (ps.length : Int) := by omega
    have hs : (j : Int) < S := by omega
    have w1 : IntKind.wrap .i64 ((j : Int) + 1) = ((j + 1 : Nat) : Int) := by rw [wi (by omega) (by omega)]; rfl
    have X := H.lp i lk ps hlk hps
    obtain ⟨e, he⟩ : ∃ e, ps[j]? = some e := ⟨ps[j]'(by omega), List.getElem?_eq_getElem (by omega)⟩
    have ix := fun {α : Type} (kk : Value → Option α) => X.ix (i := (j : Int)) (by omega) hlt kk
    have el := X.elem he
    simp only [Int.toNat_natCast] at ix
    have lq := lt_of H.hq
    have lo := H.lo
    have st2 := fun (hq : Heap) (kk : Heap → Option (((Value × Value × Value × Value × Value × Value × Value × Value × Value) × Heap) ⊕ (Exit × (Value × Value × Value × Value × Value × Value × Value × Value × Value) × Heap))) => st_N ⟨0, n⟩ 2 g.length 0 [(Value.int .i64 e.1), (Value.int .i64 e.2)] hq kk rfl rfl
    have w2 : wrN ⟨0, n⟩ (g ++ [Blk.own [(Value.int .i64 0), (Value.int .i64 0)]]) g.length 0 [(Value.int .i64 e.1), (Value.int .i64 e.2)] = some (g ++ [Blk.own [(Value.int .i64 e.1), (Value.int .i64 e.2)]]) := wrN_new0 (md := ⟨0, n⟩) (h := g) (bs := []) (i := 0) (cs := [(Value.int .i64 0), (Value.int .i64 0)]) (vs := [(Value.int .i64 e.1), (Value.int .i64 e.2)]) (Nat.zero_le _) (by show n ≤ _; omega) (by simp)
    have bn : (g ++ [Blk.own [(Value.int .i64 e.1), (Value.int .i64 e.2)]])[g.length]? = some (Blk.own [(Value.int .i64 e.1), (Value.int .i64 e.2)]) := List.getElem?_concat_length ..
    have H1 := H.old (h' := g ++ [Blk.own [(Value.int .i64 e.1), (Value.int .i64 e.2)]]) fun y hy => List.getElem?_append_left hy
    have r6 := p6 H1.hq
    generalize hg1 : g ++ [Blk.own [(Value.int .i64 e.1), (Value.int .i64 e.2)]] = g1 at *
    obtain ⟨la, lb⟩ := H.th.la
    have rb : rd g1 g.length 0 = some ((Value.int .i64 e.1)) := by rw [rd_at bn]; rfl
    have ia0 := fun {α : Type} (kk : Value → Option α) => ixA_p 1 g.length 0 2 0 kk (by omega)
    simp only [show (0 : Int).toNat = 0 from rfl, Nat.zero_mul, Nat.add_zero] at ia0
    have uB : Try.prog.underlying 4 = some .bool := by kernel_rfl
    obtain ⟨g2, f2, A2, o2⟩ : ∃ g2, C ⟨0, n⟩ 36 [(Value.agg #[(Value.int .i64 V), (Value.int .i64 S), (Value.int .i64 T), ifA a, (Value.int .i64 1), (Value.int .i64 0)]), (Value.int .i64 ((i : Int))), (Value.int .i64 ((j : Int)))] g1 = some ((Value.bool (decide (e.1 ≥ 0))), g2) ∧ TH V S T l0 a b s g2 ∧ Only a b g1 g2 := by
      rcases w.val j e he with rfl | ⟨q1, _⟩
      · have nl : ∀ e, ¬ Lk ps j e := fun e h => by
          have := h.1
          rw [he] at this
          obtain rfl := Option.some.inj this
          exact absurd h.2 (by decide)
        have k0 := W.al i ps hps j hs nl 0 (.inl rfl)
        have k1 := W.al i ps hps j hs nl 1 (.inr rfl)
        have n0' : ∀ d, (d = 0 ∨ d = 1) → ∀ y ∈ [Ax V S j i d], Nix V S y := fun d hd y hy => by
          simp only [List.mem_singleton] at hy; subst hy
          exact NL_nix hR hi (.inr ⟨j, d, hs, hd, rfl⟩)
        have := rLinked (n := n) (lv := (i : Int)) (sl := (j : Int)) hR H1.th k0 k1 (n0' 0 (.inl rfl)) (n0' 1 (.inr rfl)) (by simp) (by simp)
        have ne : (Ax V S (j : Int) (i : Int) 0 == Ax V S (j : Int) (i : Int) 1) = false := by
          rw [beq_eq_false_iff_ne]
          exact fun h => by have := (A_pos hR hi hi hs hs (.inl rfl) (.inr rfl) h).2.2; omega
        rw [RT_one, RT_one, ne] at this
        exact this
      · obtain ⟨r, hr, f0⟩ := w.lin j e ⟨he, q1.1⟩
        have nx : ∀ y ∈ r, Nix V S y := fun y hy => NL_nix hR hi (w.nl hr hy)
        have := rLinked (n := n) (lv := (i : Int)) (sl := (j : Int)) hR H1.th (W.hr i rs hrs r hr) (W.hr i rs hrs r hr) nx nx f0.1 f0.2.1
        rw [beq_self_eq_true] at this
        have d1 : decide (e.1 ≥ 0) = true := decide_eq_true q1.1
        rw [d1]
        exact this
    have H2 := H1.only A2 fun y _ h1 h2 => o2.oth y h1 h2
    have rb2 : rd g2 g.length 0 = some ((Value.int .i64 e.1)) := by rw [rd_at ((o2.oth _ (by omega) (by omega)).trans bn)]; rfl
    obtain ⟨g', e', H'⟩ := ih (j + 1) g2 (by omega) H2
    refine ⟨g', ?_, H'⟩
    rw [J8_2b2_step]
    unfold Jr8_2b2
    simp only [go_sem, Nat.reduceAdd, Nat.reduceLeDiff, Nat.reduceMul, Int.reduceBEq, Int.reduceBNe, Int.reduceLT, Int.reduceLE, Int.reduceGT, aBin_lss, hlt, ixSV_p, ix, el, st2, w2, hg1, okNil, okP_p, r6, f2, ia0, rb, rb2, cLE_t, aBin_neqB uB, aBin_add, w1]
    exact e'
theorem plays_lv {s2 : Value} (hR : Rt V S T) (W : PW V S (prO V S T l0) c s rss pss) (hc : c < 20000) (hn : n ≤ n0) (haw : ∀ (m : Nat) (h : Heap), 0 < h.length → C ⟨0, m⟩ 32 [] h = some ((Value.bool true), h)) {h0 : Heap} : ∀ (m i : Nat) (g : Heap), i + m = lvs.length → H10 V S T l0 a b q n0 RW LK lvs lks rvss s rss pss g →
    ∃ g', J8_2 C ⟨0, n⟩ h0 s2 ((Value.pointer (some ⟨q, 0, none⟩))) RW ((Value.int .i64 ((lvs.length : Int)))) ((Value.int .i64 ((i : Int)))) g = some ((Value.bool true), g') := by
  have rL := Lv_le hR
  intro m
  induction m with
  | zero =>
    intro i g hi H
    obtain rfl : i = lvs.length := by omega
    refine ⟨g.take h0.length, ?_⟩
    have aw := fun (m : Nat) => haw m g (by have := lt_of H.hq; omega)
    rw [J8_2_step]
    unfold Jr8_2
    simp only [go_sem, Nat.reduceAdd, Nat.reduceLeDiff, Nat.reduceMul, Int.reduceBEq, Int.reduceBNe, Int.reduceLT, Int.reduceLE, Int.reduceGT, aBin_lss, Int.lt_irrefl, Jk8_2, aw]
  | succ m ih =>
    intro i g hi H
    obtain ⟨ll1, ll2, ll3⟩ := H.ll
    have l1 := W.l1
    have l2 := W.l2
    have hlt : (i : Int) < (lvs.length : Int) := by omega
    have hil : (i : Int) < Lv V := by omega
    have w1 : IntKind.wrap .i64 ((i : Int) + 1) = ((i + 1 : Nat) : Int) := by rw [wi (by omega) (by omega)]; rfl
    obtain ⟨rs, ps, hrs, hps, w⟩ := W.lev hil
    obtain ⟨lvv, hlv⟩ : ∃ z, lvs[i]? = some z := ⟨lvs[i]'(by omega), List.getElem?_eq_getElem (by omega)⟩
    obtain ⟨rvs, hrv⟩ : ∃ z, rvss[i]? = some z := ⟨rvss[i]'(by omega), List.getElem?_eq_getElem (by omega)⟩
    obtain ⟨lk, hlk⟩ : ∃ z, lks[i]? = some z := ⟨lks[i]'(by omega), List.getElem?_eq_getElem (by omega)⟩
    obtain ⟨ix, rx⟩ := Sl.getV H.rw hlv
    have Y := H.lr i lvv rvs rs hlv hrv hrs
    have len := fun {α : Type} (kk : Value → Option α) => Y.sl.len kk
    obtain ⟨g1, e1, H1⟩ := plays_r (n := n) (s2 := s2) (s6 := (Value.int .i64 ((i : Int)))) (s38 := RW) (s39 := (Value.int .i64 ((lvs.length : Int)))) (s40 := (Value.int .i64 ((i : Int)))) hR W hc hil hlv hrv hrs rvs.length 0 g (by omega) H
    have rK := pLK H1.hq
    obtain ⟨ixk, rxk⟩ := Sl.getV H1.lk hlk
    have X := H1.lp i lk ps hlk hps
    have lenk := fun {α : Type} (kk : Value → Option α) => X.len kk
    obtain ⟨g2, e2, H2⟩ := plays_l (n := n) (s2 := s2) (s38 := RW) (s39 := (Value.int .i64 ((lvs.length : Int)))) hR W hil hn hlk hps ps.length 0 g1 (by omega) H1
    obtain ⟨g', e'⟩ := ih (i + 1) g2 (by omega) H2
    refine ⟨g', ?_⟩
    have z0 : (((0 : Nat) : Int)) = 0 := rfl
    rw [z0] at e1 e2
    rw [J8_2_step]
    unfold Jr8_2
    simp only [go_sem, Nat.reduceAdd, Nat.reduceLeDiff, Nat.reduceMul, Int.reduceBEq, Int.reduceBNe, Int.reduceLT, Int.reduceLE, Int.reduceGT, aBin_lss, hlt, ixSV_p, ix, rx, len]
    rw [e1]
    unfold J8_2b1
    simp only [go_sem, Nat.reduceAdd, Nat.reduceLeDiff, Nat.reduceMul, Int.reduceBEq, Int.reduceBNe, Int.reduceLT, Int.reduceLE, Int.reduceGT, okNil, okP_p, rK, ixSV_p, ixk, rxk, lenk, e2, aBin_add, w1]
    exact e'
end Go.Det.E

/- TourPlays. -/
namespace Go.Det.E
open Go.Proofs Go.Det Go.Det.U
attribute [local congr] bind_c cond_c
variable {h hh hb k h' : Heap} {a b q n n0 n1 c cb lb tb : Nat} {V S T x y p f u w sl K LV SL U W : Int} {D l : List Int} {l0 : Int → Int} {pr : Int → Int} {s s' : NS} {r A B xs : List Int} {dv ov rv av bv RW LK lv lvv lk X : Value} {i j m sn N ir : Nat} {rs rs' : List (List Int)} {ps ps' : List (Int × Int)} {rss rss' : List (List (List Int))} {pss pss' : List (List (Int × Int))} {rvs lvs lks : List Value} {rvss : List (List Value)} {cs : List Value} {e : Int × Int} {ops : List OpT}
theorem plays10_loop (hR : Rt V S T) (lhb : hb.length = h.length + 1) (SO : Sl hb 5 encT ov ops) (hl : ops.length ≤ 60) : ∀ (m i : Nat) (k : Heap) (c : Nat) (s : NS) (lvs : List Value) (rvss : List (List Value)) (rss : List (List (List Int))) (pss : List (List (Int × Int))), i + m = ops.length → c + 2 * m ≤ 1000 → H10 V S T l0 a b q hb.length RW LK lvs lks rvss s rss pss k → PW V S (prO V S T l0) c s rss pss → hb.length ≤ k.length → (∀ y, y < hb.length → k[y]? = hb[y]?) →
    ∃ c' s' lvs' rvss' rss' pss' k', J8_0 C ⟨0, h.length⟩ h ((Value.bool false)) ((Value.pointer (some ⟨q, 0, none⟩))) ov ((Value.int .i64 ((ops.length : Int)))) ((Value.int .i64 ((i : Int)))) k = J8_1 C ⟨0, h.length⟩ h ((Value.bool false)) ((Value.pointer (some ⟨q, 0, none⟩))) k' ∧ c' ≤ 1000 ∧ H10 V S T l0 a b q hb.length RW LK lvs' lks rvss' s' rss' pss' k' ∧ PW V S (prO V S T l0) c' s' rss' pss' ∧ hb.length ≤ k'.length ∧ ∀ y, y < hb.length → k'[y]? = hb[y]? := by
  intro m
  induction m with
  | zero =>
    intro i k c s lvs rvss rss pss hi hc H W hlk ok
    obtain rfl : i = ops.length := by omega
    refine ⟨c, s, lvs, rvss, rss, pss, k, ?_, by omega, H, W, hlk, ok⟩
    rw [J8_0_step]
    unfold Jr8_0
    simp only [go_sem, Nat.reduceAdd, Nat.reduceLeDiff, Nat.reduceMul, Int.reduceBEq, Int.reduceBNe, Int.reduceLT, Int.reduceLE, Int.reduceGT, aBin_lss, Int.lt_irrefl, Jk8_0]
  | succ m ih =>
    intro i k c s lvs rvss rss pss hi hc H W hlk ok
    have hlt : (i : Int) < (ops.length : Int) := by omega
    have w : IntKind.wrap .i64 ((i : Int) + 1) = ((i + 1 : Nat) : Int) := by rw [wi (by omega) (by omega)]; rfl
    obtain ⟨o, ho⟩ : ∃ o, ops[i]? = some o := ⟨ops[i]'(by omega), List.getElem?_eq_getElem (by omega)⟩
    have S1 : Sl k 5 encT ov ops := SO.heap fun hl => ok _ hl
    have ix := fun {α : Type} (kk : Value → Option α) => S1.ix (i := (i : Int)) (by omega) hlt kk
    have el := S1.elem ho
    simp only [Int.toNat_natCast] at ix
    have st5 := fun (kk : Heap → Option (((Value × Value × Value × Value × Value) × Heap) ⊕ (Exit × (Value × Value × Value × Value × Value) × Heap))) => st_N ⟨0, h.length⟩ 5 k.length 0 (encT o) (k ++ [Blk.own [(Value.int .i64 0), (Value.int .i64 0), (Value.int .i64 0), (Value.int .i64 0), (Value.int .i64 0)]]) kk rfl rfl
    have w5 : wrN ⟨0, h.length⟩ (k ++ [Blk.own [(Value.int .i64 0), (Value.int .i64 0), (Value.int .i64 0), (Value.int .i64 0), (Value.int .i64 0)]]) k.length 0 (encT o) = some (k ++ [Blk.own (encT o)]) := wrN_new0 (bs := []) (Nat.zero_le _) (by show h.length ≤ _; omega) (by simp)
    have r5 : rdN (k ++ [Blk.own (encT o)]) k.length 0 5 = some (encT o) := by rw [rdN_new0]; rfl
    have H1 := H.old (h' := k ++ [Blk.own (encT o)]) fun y hy => List.getElem?_append_left hy
    have l1 : (k ++ [Blk.own (encT o)]).length = k.length + 1 := by simp
    have o1 : ∀ y, y < k.length → (k ++ [Blk.own (encT o)])[y]? = k[y]? := fun y hy => List.getElem?_append_left hy
    obtain ⟨lvs2, rvss2, s2, rss2, pss2, k2, e2, H2, W2, l2, o2⟩ := step10 (n := h.length) hR H1 W (by omega) (by omega) o.k o.lv o.sl o.u o.w
    obtain ⟨c3, s3, lvs3, rvss3, rss3, pss3, k3, eg, z⟩ := ih (i + 1) k2 (c + 2) s2 lvs2 rvss2 rss2 pss2 (by omega) (by omega) H2 W2 (by omega) (fun y hy => by rw [o2 y hy, o1 y (by omega), ok y hy])
    refine ⟨c3, s3, lvs3, rvss3, rss3, pss3, k3, ?_, z⟩
    rw [J8_0_step]
    unfold Jr8_0
    simp only [go_sem, Nat.reduceAdd, Nat.reduceLeDiff, Nat.reduceMul, Int.reduceBEq, Int.reduceBNe, Int.reduceLT, Int.reduceLE, Int.reduceGT, aBin_lss, hlt, ixSV_p, ix, el, st5, w5, r5, e2, aBin_add, w]
    exact eg
theorem plays10_law : Law Try.prog cfg 8 [66] := by
  intro h avs ha
  obtain ⟨x, r, rfl, a0, ha⟩ := args_cons ha
  obtain rfl := args_nil ha
  obtain ⟨V, S, T, dv, ov, D, ops, rfl, SD, wD, SO⟩ := arg_case10 a0
  have rt := right10 (md := ⟨0, h.length⟩) (h := h ++ [Blk.own [(Value.int .i64 V), (Value.int .i64 S), (Value.int .i64 T), dv, ov]]) (V := V) (S := S) (T := T) (Nat.zero_le _) (by show h.length ≤ _; simp) SD.app SO.app
  rw [call_eq, F8_eq]
  unfold F8
  have aw := fun (m : Nat) => awake10 m (h ++ [Blk.own [(Value.int .i64 V), (Value.int .i64 S), (Value.int .i64 T), dv, ov]]) (by simp)
  by_cases hq : Rt V S T ∧ V ≤ 8 ∧ S ≤ 8 ∧ (D.length : Int) ≤ 60 ∧ (ops.length : Int) ≤ 60
  · rw [decide_eq_true hq] at rt
    obtain ⟨hR, h4, h3, hD, hO⟩ := hq
    have SD1 : Sl (h ++ [Blk.own [(Value.int .i64 V), (Value.int .i64 S), (Value.int .i64 T), dv, ov]]) 1 eU dv D := SD.app
    have lhb : (h ++ [Blk.own [(Value.int .i64 V), (Value.int .i64 S), (Value.int .i64 T), dv, ov]]).length = h.length + 1 := by simp
    obtain ⟨h1, q, a, b, l0, s, RW, LK, lvs, lks, rvss, e1, H1, W1, l1, o1⟩ := begun10 (n := h.length) (h := h ++ [Blk.own [(Value.int .i64 V), (Value.int .i64 S), (Value.int .i64 T), dv, ov]]) (ov := ov) hR (by omega) (by omega) SD1 wD
    have c1 : h1[h.length]? = some (Blk.own [(Value.int .i64 V), (Value.int .i64 S), (Value.int .i64 T), dv, ov]) := by rw [o1 _ (by omega)]; exact List.getElem?_concat_length ..
    have rO : rd h1 h.length 4 = some ov := by rw [rd_at c1]; rfl
    have len := fun {α : Type} (k : Value → Option α) => SO.len k
    obtain ⟨c2, s2, lvs2, rvss2, rss2, pss2, k2, eg, hc2, H2, W2, hl2, ok2⟩ := plays10_loop (h := h) hR lhb SO.app (by omega) ops.length 0 h1 16 s lvs rvss _ _ (by omega) (by omega) H1 W1 l1 o1
    have rR := pRW H2.hq
    have lenR := fun {α : Type} (kk : Value → Option α) => H2.rw.len kk
    obtain ⟨g, ef⟩ := plays_lv (n := h.length) (s2 := (Value.bool false)) (h0 := h) hR W2 (by omega) (by omega) (fun m h hp => awake10 m h hp) lvs2.length 0 k2 (by omega) H2
    have eJ : J8_1 C ⟨0, h.length⟩ h ((Value.bool false)) ((Value.pointer (some ⟨q, 0, none⟩))) k2 = some ((Value.bool true), g) := by
      unfold J8_1
      simp only [go_sem, Nat.reduceAdd, Nat.reduceLeDiff, Nat.reduceMul, Int.reduceBEq, Int.reduceBNe, Int.reduceLT, Int.reduceLE, Int.reduceGT, okNil, okP_p, rR, lenR]
      exact ef
    have uP : Try.prog.underlying 68 = some (.pointer 78) := by kernel_rfl
    refine ⟨g, ?_⟩
    simp only [go_sem, Nat.reduceAdd, Nat.reduceLeDiff, Nat.reduceMul, Int.reduceBEq, Int.reduceBNe, Int.reduceLT, Int.reduceLE, Int.reduceGT, rt, e1, aBin_eqlP uP, rO, len]
    exact eg.trans eJ
  · rw [decide_eq_false hq] at rt
    exact ⟨_, by simp only [go_sem, Nat.reduceAdd, Nat.reduceLeDiff, Nat.reduceMul, Int.reduceBEq, Int.reduceBNe, Int.reduceLT, Int.reduceLE, Int.reduceGT, rt, aw]; rfl⟩
end Go.Det.E
