/- What the functions of the lists do. -/
import Derived.Test.YtibaodefgncbmaaQ3
import Derived.Test.YtibaodefgncbmaaE7
import Derived.Test.YtibaodefgncbmaaN1
import Derived.Test.YtibaodefgncbmaaQ0
set_option autoImplicit false
set_option linter.unusedVariables false
set_option linter.unusedSimpArgs false
namespace Go.Det.E
open Go.Proofs Go.Det Go.Det.U
attribute [local congr] bind_c cond_c
variable {md : Md} {h hh k h' : Heap} {a b : Nat} {V S T x y z u v w i lv sl : Int} {f f' : Int → Int} {s s' : NS} {l c A0 B0 : List Int} {mk : Int → Nat} {L : Int → Int → List Int} {E : EM}
theorem u4'' : Try.prog.underlying 4 = some .bool := by kernel_rfl
abbrev A10 (V S T : Int) (a : Nat) : Value := (Value.agg #[(Value.int .i64 V), (Value.int .i64 S), (Value.int .i64 T), ifA a, (Value.int .i64 1), (Value.int .i64 0), (Value.int .i64 V), (Value.int .i64 S), (Value.int .i64 T), ifA a])
abbrev B10 (V S T : Int) (a : Nat) : List Value := [(Value.int .i64 V), (Value.int .i64 S), (Value.int .i64 T), ifA a, (Value.int .i64 1), (Value.int .i64 0), (Value.int .i64 V), (Value.int .i64 S), (Value.int .i64 T), ifA a]
theorem ab_at {bs : List Blk} (la : a < h.length) (lb : b < h.length) (o : Only a b (h ++ Blk.own (B10 V S T a) :: bs) k) : k[h.length]? = some (.own (B10 V S T a)) := by
  have := o.new la lb 0
  rw [Nat.add_zero] at this
  rw [this]; rfl
theorem ab_L (e : k[h.length]? = some (.own (B10 V S T a))) : rdN k h.length 6 3 = some [(Value.int .i64 V), (Value.int .i64 S), (Value.int .i64 T)] := by rw [rdN_own e (by simp)]; rfl
theorem ab_E (e : k[h.length]? = some (.own (B10 V S T a))) : rdN k h.length 6 4 = some [(Value.int .i64 V), (Value.int .i64 S), (Value.int .i64 T), ifA a] := by rw [rdN_own e (by simp)]; rfl
theorem ab_T (e : k[h.length]? = some (.own (B10 V S T a))) : rdN k h.length 0 6 = some [(Value.int .i64 V), (Value.int .i64 S), (Value.int .i64 T), ifA a, (Value.int .i64 1), (Value.int .i64 0)] := by rw [rdN_own e (by simp)]; rfl
theorem ab_A (e : k[h.length]? = some (.own (B10 V S T a))) : rdN k h.length 0 10 = some (B10 V S T a) := by rw [rdN_own e (by simp)]; rfl
theorem adget (hR : Rt V S T) (A : TH V S T f a b s h) (hro : md.ro ≤ a) (hx : x < Nd V S T) (hv : f x < 100000) :
    ∃ h', C md 39 [A10 V S T a, (Value.int .i64 x)] h = some ((Value.int .i64 (f x)), h') ∧ TH V S T f a b s h' ∧ Only a b h h' := by
  obtain ⟨la, lb⟩ := A.la
  have wd := A.wdF hx
  obtain ⟨h1, e1, A1, o1⟩ := tload (md := ⟨md.ro, h.length⟩) (A.app [Blk.own (B10 V S T a)]) hro hx
  have w : IntKind.wrap .i64 (f x) = f x := wi (by omega) (by omega)
  refine ⟨h1.take h.length, ?_, A1.take la lb, o1.take⟩
  rw [C, call_eq, F39_eq]
  unfold F39
  simp only [go_sem, Nat.reduceAdd, Nat.reduceLeDiff, Nat.reduceMul, Int.reduceBEq, Int.reduceBNe, Int.reduceLT, Int.reduceLE, Int.reduceGT, okN_i, clI_load, e1, w]
theorem adput (hR : Rt V S T) (A : TH V S T f a b s h) (hro : md.ro ≤ a) (hrb : md.ro ≤ b) (hx : FrC V S T x) (hv : 0 ≤ y ∧ y < 100000) :
    ∃ h', C md 62 [A10 V S T a, (Value.int .i64 x), (Value.int .i64 y)] h = some ((Value.tuple #[]), h') ∧ TH V S T (upI f x y) a b s h' ∧ Only a b h h' := by
  obtain ⟨la, lb⟩ := A.la
  obtain ⟨h1, e1, A1, o1⟩ := tstore (md := ⟨md.ro, h.length⟩) hR (A.app [Blk.own (B10 V S T a)]) hro hrb hx (y := y) (by omega)
  have w : IntKind.wrap .u64 y = y := wu (by omega) (by omega)
  refine ⟨h1.take h.length, ?_, A1.take la lb, o1.take⟩
  rw [C, call_eq, F62_eq]
  unfold F62
  simp only [go_sem, Nat.reduceAdd, Nat.reduceLeDiff, Nat.reduceMul, Int.reduceBEq, Int.reduceBNe, Int.reduceLT, Int.reduceLE, Int.reduceGT, okN_i, clI_store, w, e1]
theorem side_s (md : Md) (h : Heap) (h0 : 0 ≤ sl ∧ sl < 1000) (h1 : 0 ≤ z ∧ z < 2) : C md 47 [(Value.int .i64 sl), (Value.int .i64 z)] h = some ((Value.int .i64 (2 * sl + z + 1)), h) := by
  have w1 : IntKind.wrap .i64 (2 * sl) = 2 * sl := wi (by omega) (by omega)
  have w2 : IntKind.wrap .i64 (2 * sl + z) = 2 * sl + z := wi (by omega) (by omega)
  have w3 : IntKind.wrap .i64 (2 * sl + z + 1) = 2 * sl + z + 1 := wi (by omega) (by omega)
  rw [C, call_eq, F47_eq]
  unfold F47
  simp only [go_sem, Nat.reduceAdd, Nat.reduceLeDiff, Nat.reduceMul, Int.reduceBEq, Int.reduceBNe, Int.reduceLT, Int.reduceLE, Int.reduceGT, w1, w2, w3]
theorem adnext (hR : Rt V S T) (md : Md) (h : Heap) (hx : Sd S x) : C md 40 [A10 V S T a, (Value.int .i64 x)] h = some ((Value.int .i64 (nxC S T x)), h) := by
  have rs := hR
  unfold Rt at rs
  have w1 : IntKind.wrap .i64 (x - 1) = x - 1 := wi (by omega) (by omega)
  have q1 : (x - 1).tdiv 2 = (x - 1) / 2 := Int.tdiv_eq_ediv_of_nonneg (by omega)
  have q2 : (x - 1).tmod 2 = (x - 1) % 2 := Int.tmod_eq_emod_of_nonneg (by omega)
  have w2 : IntKind.wrap .i64 ((x - 1) / 2) = (x - 1) / 2 := wi (by omega) (by omega)
  rw [C, call_eq, F40_eq]
  unfold F40
  simp only [go_sem, Nat.reduceAdd, Nat.reduceLeDiff, Nat.reduceMul, Int.reduceBEq, Int.reduceBNe, Int.reduceLT, Int.reduceLE, Int.reduceGT, w1, q1, q2, w2, next_s _ _ hR, nxC]
theorem adprev (hR : Rt V S T) (md : Md) (h : Heap) (hx : Sd S x) : C md 63 [A10 V S T a, (Value.int .i64 x)] h = some ((Value.int .i64 (pvC S T x)), h) := by
  have rs := hR
  unfold Rt at rs
  have w1 : IntKind.wrap .i64 (x - 1) = x - 1 := wi (by omega) (by omega)
  have q1 : (x - 1).tdiv 2 = (x - 1) / 2 := Int.tdiv_eq_ediv_of_nonneg (by omega)
  have q2 : (x - 1).tmod 2 = (x - 1) % 2 := Int.tmod_eq_emod_of_nonneg (by omega)
  have w2 : IntKind.wrap .i64 ((x - 1) / 2) = (x - 1) / 2 := wi (by omega) (by omega)
  rw [C, call_eq, F63_eq]
  unfold F63
  simp only [go_sem, Nat.reduceAdd, Nat.reduceLeDiff, Nat.reduceMul, Int.reduceBEq, Int.reduceBNe, Int.reduceLT, Int.reduceLE, Int.reduceGT, w1, q1, q2, w2, prev_s _ _ hR, pvC]
/-- A vertex's node. -/
theorem vx_at (h : In V v i) : Vx V i v = 1 + i * V + v := by
  unfold Vx; rw [Bl_t.2 h.1, Bl_t.2 h.2]; rfl
theorem vx_nix (hR : Rt V S T) (h : In V v i) : Nix V S (Vx V i v) := by
  rw [vx_at h]
  have o := order hR
  have rs := hR
  unfold Rt at rs
  have h1 : 0 ≤ i * V := Int.mul_nonneg h.2.1 (by omega)
  have h2 : (i + 1) * V ≤ Lv V * V := Int.mul_le_mul_of_nonneg_right (by omega) (by omega)
  rw [Int.add_mul] at h2
  have h3 : 0 ≤ S * (2 * Lv V) := Int.mul_nonneg (by omega) (by omega)
  unfold Nix Nn
  omega
theorem vx_inj' (h : In V v i) (h' : In V w z) (e : Vx V i v = Vx V z w) : v = w ∧ i = z := by
  rw [vx_at h, vx_at h'] at e
  have a1 := h.1
  have a2 := h'.1
  have q : i = z := by
    rcases Int.lt_trichotomy i z with q | q | q
    · have : (i + 1) * V ≤ z * V := Int.mul_le_mul_of_nonneg_right (by omega) (by omega)
      rw [Int.add_mul] at this; omega
    · exact q
    · have : (z + 1) * V ≤ i * V := Int.mul_le_mul_of_nonneg_right (by omega) (by omega)
      rw [Int.add_mul] at this; omega
  subst q
  exact ⟨by omega, rfl⟩
theorem markS_bit {o : Nat} (h : o < 4) (on : Bool) : bitB (markS o 0 on) 0 = on := by
  obtain rfl | rfl | rfl | rfl : o = 0 ∨ o = 1 ∨ o = 2 ∨ o = 3 := by omega
  all_goals cases on <;> decide
abbrev one0 (x : Int) : Tr := .nd .nil x .nil
theorem LM.change (M : LM V S s mk L) (hi : In V v i) {l' : List Int} (I : IsT (mkU mk (Vx V i v) 0 (decide (l' ≠ []))) (vxB V) s' (one0 (Vx V i v)) 0) (so : SameOut [Vx V i v] s s') : LM V S s' (mkU mk (Vx V i v) 0 (decide (l' ≠ []))) (upL L v i l') := by
  refine ⟨mkU_lt M.m4 (by omega) _, fun w j h => ?_, fun w j h => ?_⟩
  · by_cases e : w = v ∧ j = i
    · rw [e.1, e.2]; exact I
    · have ne : Vx V j w ≠ Vx V i v := fun q => e (vx_inj' h hi q)
      refine IsT.congr (so.on fun y hy => ?_) ((M.tr w j h).marks fun y hy => ?_)
      · simp [Tr.row] at hy ⊢; rw [hy]; exact ne
      · simp [Tr.row] at hy; rw [hy]; exact if_neg ne
  · by_cases e : w = v ∧ j = i
    · rw [e.1, e.2, upL_same]
      show bitB (if _ then _ else _) 0 = _
      rw [if_pos rfl]; exact markS_bit (M.m4 _) _
    · have ne : Vx V j w ≠ Vx V i v := fun q => e (vx_inj' h hi q)
      rw [upL_else e]
      show bitB (if _ then _ else _) 0 = _
      rw [if_neg ne]; exact M.mb w j h
theorem LM.same (M : LM V S s mk L) (hi : In V v i) {l' : List Int} (e : decide (l' ≠ []) = decide (L v i ≠ [])) : LM V S s mk (upL L v i l') := by
  refine ⟨M.m4, M.tr, fun w j h => ?_⟩
  by_cases q : w = v ∧ j = i
  · rw [q.1, q.2, upL_same, e]; exact M.mb v i hi
  · rw [upL_else q]; exact M.mb w j h
theorem marked_e (hR : Rt V S T) (A : TH V S T f a b s h) (M : LM V S s mk L) (hro : md.ro ≤ a) (hi : In V v i) :
    ∃ h', C md 21 [(Value.agg #[(Value.int .i64 V), (Value.int .i64 S), (Value.int .i64 T), ifA a, (Value.int .i64 1), (Value.int .i64 0)]), (Value.int .i64 (Vx V i v)), (Value.int .i64 0)] h = some ((Value.bool (decide (L v i ≠ []))), h') ∧ TH V S T f a b s h' ∧ Only a b h h' := by
  have nx := vx_nix hR hi
  obtain ⟨sz, nv, all, ok, es⟩ := own_of M.m4 (M.tr v i hi) (x := Vx V i v) (by simp [Tr.row]) (by simp [Tr.sz]) (fun y hy => by simp [Tr.row] at hy; rw [hy]; exact nx.1)
  obtain ⟨h', e, A', o⟩ := tMarked hR A hro (.inr nx) ok es (m := 0) (by omega)
  rw [M.mb v i hi] at e
  exact ⟨h', e, A', o⟩
theorem admark {l' : List Int} (hR : Rt V S T) (A : TH V S T f a b s h) (M : LM V S s mk L) (hro : md.ro ≤ a) (hrb : md.ro ≤ b) (hr : md.ro ≤ h.length) (hi : In V v i) (hl : f (Hx V S T v i) = hdL l') (hp : ∀ y ∈ l', Sd S y) :
    ∃ s' mk' h', C md 64 [A10 V S T a, (Value.int .i64 v), (Value.int .i64 i)] h = some ((Value.tuple #[]), h') ∧ TH V S T f a b s' h' ∧ LM V S s' mk' (upL L v i l') ∧ Only a b h h' := by
  obtain ⟨la, lb⟩ := A.la
  have o := order hR
  have rs := hR
  unfold Rt at rs
  have nx := vx_nix hR hi
  have hb := hx_bd (S := S) (T := T) hR hi
  have hsm : f (Hx V S T v i) < 100000 := by
    rw [hl]
    cases l' with
    | nil => simp [hdL]
    | cons y r => have := hp y (by simp); simp only [hdL]; omega
  obtain ⟨h1, e1, A1, o1⟩ := adget (md := ⟨md.ro, h.length⟩) hR (A.app [Blk.own (B10 V S T a)]) hro (x := Hx V S T v i) (by omega) hsm
  obtain ⟨h2, e2, A2, o2⟩ := marked_e (md := ⟨md.ro, h.length⟩) hR A1 M hro hi
  have b0 := ab_at la lb (V := V) (S := S) (T := T) (bs := []) (Only.refl (a := a) (b := b))
  have b1 := ab_at la lb (V := V) (S := S) (T := T) (bs := []) o1
  have b2 := ab_at la lb (V := V) (S := S) (T := T) (bs := []) (o1.trans o2)
  have hd : (f (Hx V S T v i) != 0) = decide (l' ≠ []) := by
    rw [hl]
    have := hdL_0 (l := l') fun y hy => (hp y hy).1
    by_cases q : l' = []
    · rw [q]; rfl
    · rw [decide_eq_true q, bne_iff_ne]; exact fun e => q (this.1 e)
  have hv := vertex_s
  by_cases q : decide (l' ≠ []) = decide (L v i ≠ [])
  · refine ⟨s, mk, h2.take h.length, ?_, A2.take la lb, M.same hi q, (o1.trans o2).take⟩
    have qq : (decide (l' ≠ []) != decide (L v i ≠ [])) = false := by rw [q]; simp
    rw [C, call_eq, F64_eq]
    unfold F64
    simp only [go_sem, Nat.reduceAdd, Nat.reduceLeDiff, Nat.reduceMul, Int.reduceBEq, Int.reduceBNe, Int.reduceLT, Int.reduceLE, Int.reduceGT, vertex_s _ _ hR, head_s _ _ hR, e1, hd, aBin_neq, aBin_neqB u4'', ab_T b1, e2, qq]
  · have qq : (decide (l' ≠ []) != decide (L v i ≠ [])) = true := by rw [bne_iff_ne]; exact q
    have l2 : md.ro ≤ h2.length := by rw [(o1.trans o2).len]; simp; omega
    obtain ⟨s', h3, e3, A3, o3, I3, so3⟩ := tMark (md := ⟨md.ro, h.length⟩) hR M.m4 A2 hro hrb l2 (M.tr v i hi) (by simp [Tr.row]) (fun y hy => by simp [Tr.row] at hy; rw [hy]; exact nx) (by simp [Tr.sz]) (x := Vx V i v) (by simp [Tr.row]) (m := 0) (by omega) (decide (l' ≠ []))
    rw [show ((0 : Nat) : Int) = 0 from rfl] at e3
    refine ⟨s', _, h3.take h.length, ?_, A3.take la lb, M.change hi I3 (by simpa [Tr.row] using so3), ((o1.trans o2).trans o3).take⟩
    rw [C, call_eq, F64_eq]
    unfold F64
    simp only [go_sem, Nat.reduceAdd, Nat.reduceLeDiff, Nat.reduceMul, Int.reduceBEq, Int.reduceBNe, Int.reduceLT, Int.reduceLE, Int.reduceGT, vertex_s _ _ hR, head_s _ _ hR, e1, hd, aBin_neq, aBin_neqB u4'', ab_T b1, e2, qq, ab_T b2, e3]
end Go.Det.E
/- Pushing and pulling: a side comes first in a list, or leaves it. -/
namespace Go.Det.E
open Go.Proofs Go.Det Go.Det.U
attribute [local congr] bind_c cond_c
variable {md : Md} {h hh k h' : Heap} {a b : Nat} {V S T x y z u v w i lv sl : Int} {f f' : Int → Int} {s s' : NS} {l c A0 B0 : List Int} {mk : Int → Nat} {L : Int → Int → List Int} {E : EM}
theorem hd_case (Q : LS V S T f L) (v i : Int) : hdL (L v i) = 0 ∨ Sd S (hdL (L v i)) := by
  rcases hdL_mem (l := L v i) with q | q
  · left; rw [q]; rfl
  · exact .inr (Q.rg v i _ q).1
theorem adpush (hR : Rt V S T) (A : TH V S T f a b s h) (Q : LS V S T f L) (M : LM V S s mk L) (hro : md.ro ≤ a) (hrb : md.ro ≤ b) (hr : md.ro ≤ h.length) (hx : Sd S x) (hi : In V v i) (nw : ∀ w j, x ∉ L w j) :
    ∃ s' mk' h', C md 46 [A10 V S T a, (Value.int .i64 x), (Value.int .i64 v), (Value.int .i64 i)] h = some ((Value.tuple #[]), h') ∧ TH V S T (pushF V S T f x v i (hdL (L v i))) a b s' h' ∧ LS V S T (pushF V S T f x v i (hdL (L v i))) (upL L v i (x :: L v i)) ∧ LM V S s' mk' (upL L v i (x :: L v i)) ∧ Only a b h h' := by
  obtain ⟨la, lb⟩ := A.la
  have o := order hR
  have rs := hR
  unfold Rt at rs
  have hz := hd_case Q v i
  have Q' := Q.push hR hx hi nw
  have hb := hx_bd (S := S) (T := T) hR hi
  have nb := nx_bd hR hx
  have pb := pv_bd hR hx
  have hh' := Q.hd v i hi
  have hl' : pushF V S T f x v i (hdL (L v i)) (Hx V S T v i) = hdL (x :: L v i) := by have := Q'.hd v i hi; rw [upL_same] at this; exact this
  have hp' : ∀ y ∈ x :: L v i, Sd S y := fun y hy => by
    rcases List.mem_cons.1 hy with rfl | hy
    · exact hx
    · exact (Q.rg v i y hy).1
  have nx := adnext (a := a) hR (x := x)
  have pv := adprev (a := a) hR (x := x)
  obtain ⟨h1, e1, A1, o1⟩ := adget (md := ⟨md.ro, h.length⟩) hR (A.app [Blk.own (B10 V S T a)]) hro (x := Hx V S T v i) (by omega) (by omega)
  rw [hh'] at e1
  obtain ⟨h2, e2, A2, o2⟩ := adput (md := ⟨md.ro, h.length⟩) hR A1 hro hrb (x := nxC S T x) ⟨by omega, by omega⟩ (y := hdL (L v i)) (by omega)
  obtain ⟨h3, e3, A3, o3⟩ := adput (md := ⟨md.ro, h.length⟩) hR A2 hro hrb (x := pvC S T x) ⟨by omega, by omega⟩ (y := 0) (by omega)
  have b0 := ab_at la lb (V := V) (S := S) (T := T) (bs := []) (Only.refl (a := a) (b := b))
  have b1 := ab_at la lb (V := V) (S := S) (T := T) (bs := []) o1
  have b2 := ab_at la lb (V := V) (S := S) (T := T) (bs := []) (o1.trans o2)
  have o13 := (o1.trans o2).trans o3
  have b3 := ab_at la lb (V := V) (S := S) (T := T) (bs := []) o13
  by_cases hz0 : hdL (L v i) = 0
  · obtain ⟨h5, e5, A5, o5⟩ := adput (md := ⟨md.ro, h.length⟩) hR A3 hro hrb (x := Hx V S T v i) ⟨by omega, by omega⟩ (y := x) (by omega)
    have ef : upI (upI (upI f (nxC S T x) (hdL (L v i))) (pvC S T x) 0) (Hx V S T v i) x = pushF V S T f x v i (hdL (L v i)) := by unfold pushF; rw [if_pos hz0]
    rw [ef] at A5
    have o15 := o13.trans o5
    have b5 := ab_at la lb (V := V) (S := S) (T := T) (bs := []) o15
    obtain ⟨s', mk', h6, e6, A6, M6, o6⟩ := admark (md := ⟨md.ro, h.length⟩) hR A5 M hro hrb (by rw [o15.len]; simp; omega) hi hl' hp'
    refine ⟨s', mk', h6.take h.length, ?_, A6.take la lb, Q', M6, (o15.trans o6).take⟩
    have zz : (hdL (L v i) != 0) = false := by rw [hz0]; rfl
    rw [C, call_eq, F46_eq]
    unfold F46
    simp only [go_sem, Nat.reduceAdd, Nat.reduceLeDiff, Nat.reduceMul, Int.reduceBEq, Int.reduceBNe, Int.reduceLT, Int.reduceLE, Int.reduceGT, J46_0, head_s _ _ hR, e1, nx _ _ hx, ab_A b1, e2, pv _ _ hx, ab_A b2, e3, aBin_neq, zz, ab_A b3, e5, ab_A b5, e6]
  · have hzs := hz.resolve_left hz0
    have pz := pv_bd hR hzs
    have pvz := adprev (a := a) hR (x := hdL (L v i))
    obtain ⟨h4, e4, A4, o4⟩ := adput (md := ⟨md.ro, h.length⟩) hR A3 hro hrb (x := pvC S T (hdL (L v i))) ⟨by omega, by omega⟩ (y := x) (by omega)
    obtain ⟨h5, e5, A5, o5⟩ := adput (md := ⟨md.ro, h.length⟩) hR A4 hro hrb (x := Hx V S T v i) ⟨by omega, by omega⟩ (y := x) (by omega)
    have ef : upI (upI (upI (upI f (nxC S T x) (hdL (L v i))) (pvC S T x) 0) (pvC S T (hdL (L v i))) x) (Hx V S T v i) x = pushF V S T f x v i (hdL (L v i)) := by unfold pushF; rw [if_neg hz0]
    rw [ef] at A5
    have o14 := o13.trans o4
    have b4 := ab_at la lb (V := V) (S := S) (T := T) (bs := []) o14
    have o15 := o14.trans o5
    have b5 := ab_at la lb (V := V) (S := S) (T := T) (bs := []) o15
    obtain ⟨s', mk', h6, e6, A6, M6, o6⟩ := admark (md := ⟨md.ro, h.length⟩) hR A5 M hro hrb (by rw [o15.len]; simp; omega) hi hl' hp'
    refine ⟨s', mk', h6.take h.length, ?_, A6.take la lb, Q', M6, (o15.trans o6).take⟩
    have zz : (hdL (L v i) != 0) = true := by rw [bne_iff_ne]; exact hz0
    rw [C, call_eq, F46_eq]
    unfold F46
    simp only [go_sem, Nat.reduceAdd, Nat.reduceLeDiff, Nat.reduceMul, Int.reduceBEq, Int.reduceBNe, Int.reduceLT, Int.reduceLE, Int.reduceGT, J46_0, head_s _ _ hR, e1, nx _ _ hx, ab_A b1, e2, pv _ _ hx, ab_A b2, e3, aBin_neq, zz, ab_A b3, pvz _ _ hzs, e4, ab_A b4, e5, ab_A b5, e6]
theorem adpull (hR : Rt V S T) (A : TH V S T f a b s h) (Q : LS V S T f L) (M : LM V S s mk L) (hro : md.ro ≤ a) (hrb : md.ro ≤ b) (hr : md.ro ≤ h.length) (hi : In V v i) (hl : L v i = A0 ++ x :: B0) :
    ∃ s' mk' h', C md 49 [A10 V S T a, (Value.int .i64 x), (Value.int .i64 v), (Value.int .i64 i)] h = some ((Value.tuple #[]), h') ∧ TH V S T (pullF V S T f v i (laL 0 A0) (hdL B0)) a b s' h' ∧ LS V S T (pullF V S T f v i (laL 0 A0) (hdL B0)) (upL L v i (A0 ++ B0)) ∧ LM V S s' mk' (upL L v i (A0 ++ B0)) ∧ Only a b h h' := by
  obtain ⟨la, lb⟩ := A.la
  have o := order hR
  have rs := hR
  unfold Rt at rs
  have Q' := Q.pull hR hi hl
  have hxm : x ∈ L v i := by rw [hl]; simp
  have hx := (Q.rg v i x hxm).1
  have hb := hx_bd (S := S) (T := T) hR hi
  have nb := nx_bd hR hx
  have pb := pv_bd hR hx
  have d := Q.dl v i
  rw [hl] at d
  obtain ⟨d1, d2, _⟩ := DL.at A0 0 B0 d
  have sub : ∀ y, y ∈ A0 ++ B0 → Sd S y := fun y hy => (Q.rg v i y (by
    rw [hl]
    rcases List.mem_append.1 hy with h | h
    · exact List.mem_append.2 (.inl h)
    · exact List.mem_append.2 (.inr (List.mem_cons.2 (.inr h))))).1
  have hp : laL 0 A0 = 0 ∨ Sd S (laL 0 A0) := by
    rcases laL_mem A0 0 with q | q
    · exact .inl q.1
    · exact .inr (sub _ (List.mem_append.2 (.inl q)))
  have hz : hdL B0 = 0 ∨ Sd S (hdL B0) := by
    rcases hdL_mem (l := B0) with q | q
    · left; rw [q]; rfl
    · exact .inr (sub _ (List.mem_append.2 (.inr q)))
  have hl' : pullF V S T f v i (laL 0 A0) (hdL B0) (Hx V S T v i) = hdL (A0 ++ B0) := by have := Q'.hd v i hi; rw [upL_same] at this; exact this
  have nx := adnext (a := a) hR (x := x)
  have pv := adprev (a := a) hR (x := x)
  obtain ⟨h1, e1, A1, o1⟩ := adget (md := ⟨md.ro, h.length⟩) hR (A.app [Blk.own (B10 V S T a)]) hro (x := pvC S T x) (by omega) (by omega)
  rw [d1] at e1
  obtain ⟨h2, e2, A2, o2⟩ := adget (md := ⟨md.ro, h.length⟩) hR A1 hro (x := nxC S T x) (by omega) (by omega)
  rw [d2] at e2
  have b0 := ab_at la lb (V := V) (S := S) (T := T) (bs := []) (Only.refl (a := a) (b := b))
  have b1 := ab_at la lb (V := V) (S := S) (T := T) (bs := []) o1
  have o12 := o1.trans o2
  have b2 := ab_at la lb (V := V) (S := S) (T := T) (bs := []) o12
  -- the first store, wherever it goes
  have fin : ∀ (c : Int), c = (if laL 0 A0 = 0 then Hx V S T v i else nxC S T (laL 0 A0)) → ∃ h3, C ⟨md.ro, h.length⟩ 62 [A10 V S T a, (Value.int .i64 c), (Value.int .i64 (hdL B0))] h2 = some ((Value.tuple #[]), h3) ∧ TH V S T (upI f c (hdL B0)) a b s h3 ∧ Only a b h2 h3 := fun c e => by
    refine adput (md := ⟨md.ro, h.length⟩) hR A2 hro hrb ?_ (by omega)
    rw [e]
    split
    · exact ⟨by omega, by omega⟩
    · rename_i q
      have := nx_bd hR (hp.resolve_left q)
      exact ⟨by omega, by omega⟩
  obtain ⟨h3, e3, A3, o3⟩ := fin _ rfl
  have o13 := o12.trans o3
  have b3 := ab_at la lb (V := V) (S := S) (T := T) (bs := []) o13
  by_cases hz0 : hdL B0 = 0
  · have zz : (hdL B0 != 0) = false := by rw [hz0]; rfl
    have ef : upI f (if laL 0 A0 = 0 then Hx V S T v i else nxC S T (laL 0 A0)) (hdL B0) = pullF V S T f v i (laL 0 A0) (hdL B0) := by unfold pullF; rw [if_pos hz0]
    rw [ef] at A3
    obtain ⟨s', mk', h6, e6, A6, M6, o6⟩ := admark (md := ⟨md.ro, h.length⟩) hR A3 M hro hrb (by rw [o13.len]; simp; omega) hi hl' sub
    refine ⟨s', mk', h6.take h.length, ?_, A6.take la lb, Q', M6, (o13.trans o6).take⟩
    by_cases hp0 : laL 0 A0 = 0
    · have pz : (laL 0 A0 == 0) = true := by rw [hp0]; rfl
      rw [if_pos hp0] at e3
      rw [C, call_eq, F49_eq]
      unfold F49
      simp only [go_sem, Nat.reduceAdd, Nat.reduceLeDiff, Nat.reduceMul, Int.reduceBEq, Int.reduceBNe, Int.reduceLT, Int.reduceLE, Int.reduceGT, J49_0, J49_1, pv _ _ hx, e1, ab_A b1, nx _ _ hx, e2, aBin_eql, pz, ab_L b2, ab_A b2, head_s _ _ hR, e3, aBin_neq, zz, ab_A b3, e6]
    · have pz : (laL 0 A0 == 0) = false := by rw [beq_eq_false_iff_ne]; exact hp0
      have nxp := adnext (a := a) hR (x := laL 0 A0)
      rw [if_neg hp0] at e3
      rw [C, call_eq, F49_eq]
      unfold F49
      simp only [go_sem, Nat.reduceAdd, Nat.reduceLeDiff, Nat.reduceMul, Int.reduceBEq, Int.reduceBNe, Int.reduceLT, Int.reduceLE, Int.reduceGT, J49_0, J49_1, pv _ _ hx, e1, ab_A b1, nx _ _ hx, e2, aBin_eql, pz, ab_L b2, ab_A b2, nxp _ _ (hp.resolve_left hp0), e3, aBin_neq, zz, ab_A b3, e6]
  · have zz : (hdL B0 != 0) = true := by rw [bne_iff_ne]; exact hz0
    have hzs := hz.resolve_left hz0
    have pz' := pv_bd hR hzs
    have pvz := adprev (a := a) hR (x := hdL B0)
    obtain ⟨h4, e4, A4, o4⟩ := adput (md := ⟨md.ro, h.length⟩) hR A3 hro hrb (x := pvC S T (hdL B0)) ⟨by omega, by omega⟩ (y := laL 0 A0) (by omega)
    have ef : upI (upI f (if laL 0 A0 = 0 then Hx V S T v i else nxC S T (laL 0 A0)) (hdL B0)) (pvC S T (hdL B0)) (laL 0 A0) = pullF V S T f v i (laL 0 A0) (hdL B0) := by unfold pullF; rw [if_neg hz0]
    rw [ef] at A4
    have o14 := o13.trans o4
    have b4 := ab_at la lb (V := V) (S := S) (T := T) (bs := []) o14
    obtain ⟨s', mk', h6, e6, A6, M6, o6⟩ := admark (md := ⟨md.ro, h.length⟩) hR A4 M hro hrb (by rw [o14.len]; simp; omega) hi hl' sub
    refine ⟨s', mk', h6.take h.length, ?_, A6.take la lb, Q', M6, (o14.trans o6).take⟩
    by_cases hp0 : laL 0 A0 = 0
    · have pz : (laL 0 A0 == 0) = true := by rw [hp0]; rfl
      rw [if_pos hp0] at e3
      rw [C, call_eq, F49_eq]
      unfold F49
      simp only [go_sem, Nat.reduceAdd, Nat.reduceLeDiff, Nat.reduceMul, Int.reduceBEq, Int.reduceBNe, Int.reduceLT, Int.reduceLE, Int.reduceGT, J49_0, J49_1, pv _ _ hx, e1, ab_A b1, nx _ _ hx, e2, aBin_eql, pz, ab_L b2, ab_A b2, head_s _ _ hR, e3, aBin_neq, zz, ab_A b3, pvz _ _ hzs, e4, ab_A b4, e6]
    · have pz : (laL 0 A0 == 0) = false := by rw [beq_eq_false_iff_ne]; exact hp0
      have nxp := adnext (a := a) hR (x := laL 0 A0)
      rw [if_neg hp0] at e3
      rw [C, call_eq, F49_eq]
      unfold F49
      simp only [go_sem, Nat.reduceAdd, Nat.reduceLeDiff, Nat.reduceMul, Int.reduceBEq, Int.reduceBNe, Int.reduceLT, Int.reduceLE, Int.reduceGT, J49_0, J49_1, pv _ _ hx, e1, ab_A b1, nx _ _ hx, e2, aBin_eql, pz, ab_L b2, ab_A b2, nxp _ _ (hp.resolve_left hp0), e3, aBin_neq, zz, ab_A b3, pvz _ _ hzs, e4, ab_A b4, e6]
end Go.Det.E

/- Slices of whole numbers and of pairs: what is read of them. -/
namespace Go.Det
abbrev eZ (x : Int) : List Value := [(Value.int .i64 x)]
theorem eZ_len (x : Int) : (eZ x).length = 1 := rfl
variable {h : Heap} {v : Value}
theorem Sl.getI {xs : List Int} (S : Sl h 1 eZ v xs) {k : Nat} {x : Int} (hx : xs[k]? = some x) :
    (∀ {α : Type} (kk : Value → Option α), ixS 1 v (k : Int) kk = kk ((Value.pointer (some ⟨slB v, slO v + k, none⟩)))) ∧ rd h (slB v) (slO v + k) = some ((Value.int .i64 x)) := by
  have h1 : k < xs.length := (List.getElem?_eq_some_iff.1 hx).1
  refine ⟨fun kk => ?_, ?_⟩
  · rw [S.ix (by omega) (by omega) kk, Nat.mul_one, Int.toNat_natCast]
  · have := S.cell hx (j := 0) (by decide)
    rw [Nat.mul_one, Nat.add_zero] at this
    exact this
end Go.Det

/- Lists of sides: an edge comes to lie in both of its lists, or leaves them; the first one, all. -/
namespace Go.Det.E
open Go.Proofs Go.Det Go.Det.U
attribute [local congr] bind_c cond_c
variable {md : Md} {h hh k h' : Heap} {a b n0 : Nat} {V S T x y z u v w i lv sl : Int} {f f' : Int → Int} {s s' : NS} {l c A0 B0 : List Int} {mk : Int → Nat} {L : Int → Int → List Int} {E : EM}
/-- A list without one. -/
def rmL (x : Int) (l : List Int) : List Int := l.filter fun y => decide (y ≠ x)
theorem rm_split : ∀ {l : List Int}, l.Nodup → x ∈ l → ∃ A B, l = A ++ x :: B ∧ rmL x l = A ++ B
  | y :: r, nd, h => by
    rw [List.nodup_cons] at nd
    by_cases e : y = x
    · subst e
      refine ⟨[], r, rfl, ?_⟩
      show List.filter _ (y :: r) = r
      rw [List.filter_cons_of_neg (by simp), List.filter_eq_self]
      intro z hz
      exact decide_eq_true fun q => nd.1 (q ▸ hz)
    · obtain ⟨A, B, e1, e2⟩ := rm_split nd.2 ((List.mem_cons.1 h).resolve_left fun q => e q.symm)
      refine ⟨y :: A, B, by rw [e1]; rfl, ?_⟩
      show List.filter _ (y :: r) = y :: (A ++ B)
      rw [List.filter_cons_of_pos (by simpa using e)]
      exact congrArg (y :: ·) e2
theorem rm_mem : y ∈ rmL x l ↔ y ∈ l ∧ y ≠ x := by unfold rmL; simp [List.mem_filter]
def addL (L : Int → Int → List Int) (sl u v lv : Int) : Int → Int → List Int := upL (upL L u lv ((2 * sl + 0 + 1) :: L u lv)) v lv ((2 * sl + 1 + 1) :: L v lv)
def remL (L : Int → Int → List Int) (sl u v lv : Int) : Int → Int → List Int := upL (upL L u lv (rmL (2 * sl + 0 + 1) (L u lv))) v lv (rmL (2 * sl + 1 + 1) (L v lv))
theorem EE.push (Q : EE V S T f E) (hR : Rt V S T) (hx : Sd S x) (hi : In V v i) (hz : z = 0 ∨ Sd S z) : EE V S T (pushF V S T f x v i z) E := by
  have o := order hR
  have nb := fun y (hy : Sd S y) => nx_at (T := T) hy
  have pb := fun y (hy : Sd S y) => pv_at (T := T) hy
  have hb := hx_bd (S := S) (T := T) hR hi
  refine Q.congr hR (fun s h0 h1 => ?_) fun c h0 h1 => ?_
  · have k1 := ox_at' hR ⟨h0, h1⟩ (i := 1) (by omega)
    have k2 := ox_at' hR ⟨h0, h1⟩ (i := 2) (by omega)
    exact ⟨pushF_out hz (by have := nb x hx; omega) (by have := pb x hx; omega) (fun y hy => by have := pb y hy; omega) (by omega), pushF_out hz (by have := nb x hx; omega) (by have := pb x hx; omega) (fun y hy => by have := pb y hy; omega) (by omega)⟩
  · exact pushF_out hz (by have := nx_bd (T := T) hR hx; omega) (by have := pv_bd (T := T) hR hx; omega) (fun y hy => by have := pv_bd (T := T) hR hy; omega) (by omega)
theorem EE.pull {p : Int} (Q : EE V S T f E) (hR : Rt V S T) (hi : In V v i) (hp : p = 0 ∨ Sd S p) (hz : z = 0 ∨ Sd S z) : EE V S T (pullF V S T f v i p z) E := by
  have o := order hR
  have nb := fun y (hy : Sd S y) => nx_at (T := T) hy
  have pb := fun y (hy : Sd S y) => pv_at (T := T) hy
  have hb := hx_bd (S := S) (T := T) hR hi
  refine Q.congr hR (fun s h0 h1 => ?_) fun c h0 h1 => ?_
  · have k1 := ox_at' hR ⟨h0, h1⟩ (i := 1) (by omega)
    have k2 := ox_at' hR ⟨h0, h1⟩ (i := 2) (by omega)
    exact ⟨pullF_out hz hp (fun y hy => by have := nb y hy; omega) (fun y hy => by have := pb y hy; omega) (by omega), pullF_out hz hp (fun y hy => by have := nb y hy; omega) (fun y hy => by have := pb y hy; omega) (by omega)⟩
  · exact pullF_out hz hp (fun y hy => by have := nx_bd (T := T) hR hy; omega) (fun y hy => by have := pv_bd (T := T) hR hy; omega) (by omega)
theorem adAdd (hR : Rt V S T) (A : TH V S T f a b s h) (Q : EE V S T f E) (P : LS V S T f L) (M : LM V S s mk L) (hro : md.ro ≤ a) (hrb : md.ro ≤ b) (hr : md.ro ≤ h.length) (hs : E sl = some (u, v, lv)) (nw : ∀ w j, 2 * sl + 0 + 1 ∉ L w j ∧ 2 * sl + 1 + 1 ∉ L w j) :
    ∃ f' s' mk' h', C md 20 [A10 V S T a, (Value.int .i64 sl)] h = some ((Value.tuple #[]), h') ∧ TH V S T f' a b s' h' ∧ EE V S T f' E ∧ LS V S T f' (addL L sl u v lv) ∧ LM V S s' mk' (addL L sl u v lv) ∧ Only a b h h' := by
  obtain ⟨la, lb⟩ := A.la
  have o := order hR
  have rs := hR
  unfold Rt at rs
  obtain ⟨g1, g2, g3, g4, g5, g6⟩ := Q.ed sl u v lv hs
  obtain ⟨h1, e1, A1, o1⟩ := aGet (md := ⟨md.ro, h.length⟩) hR (A.app [Blk.own (B10 V S T a)]) Q hro hs
  have b1 := ab_at la lb (V := V) (S := S) (T := T) (bs := []) o1
  have b0 := ab_at la lb (V := V) (S := S) (T := T) (bs := []) (Only.refl (a := a) (b := b))
  have l1 : h1.length = h.length + 1 := by rw [o1.len]; simp
  have wN : wrN ⟨md.ro, h.length⟩ (h1 ++ [Blk.own [(Value.int .i64 0), (Value.int .i64 0), (Value.int .i64 0), (Value.bool false)]]) h1.length 0 [(Value.int .i64 u), (Value.int .i64 v), (Value.int .i64 lv), (Value.bool false)] = some (h1 ++ [Blk.own [(Value.int .i64 u), (Value.int .i64 v), (Value.int .i64 lv), (Value.bool false)]]) := wrN_new0 (bs := []) (by show md.ro ≤ _; omega) (by show h.length ≤ _; omega) (by simp)
  have stN := fun {α : Type} (kk : Heap → Option α) => st_N ⟨md.ro, h.length⟩ 4 h1.length 0 [(Value.int .i64 u), (Value.int .i64 v), (Value.int .i64 lv), (Value.bool false)] (h1 ++ [Blk.own [(Value.int .i64 0), (Value.int .i64 0), (Value.int .i64 0), (Value.bool false)]]) kk rfl rfl
  generalize hk : h1 ++ [Blk.own [(Value.int .i64 u), (Value.int .i64 v), (Value.int .i64 lv), (Value.bool false)]] = h2 at wN
  have l2 : h2.length = h.length + 2 := by rw [← hk]; simp [l1]
  have c1 : h2[h.length]? = some (.own (B10 V S T a)) := by rw [← hk, List.getElem?_append_left (by omega)]; exact b1
  have c2 : h2[h1.length]? = some (.own [(Value.int .i64 u), (Value.int .i64 v), (Value.int .i64 lv), (Value.bool false)]) := by rw [← hk]; exact List.getElem?_concat_length ..
  have A2 : TH V S T f a b s h2 := by rw [← hk]; exact A1.app _
  have sn0 : (0 : Int) ≤ 0 ∧ (0 : Int) < 2 := by omega
  have sn1 : (0 : Int) ≤ 1 ∧ (1 : Int) < 2 := by omega
  have sd := fun (z : Int) (hz : 0 ≤ z ∧ z < 2) (h : Heap) => side_s (sl := sl) (z := z) ⟨md.ro, h.length⟩ h (by omega) hz
  have sds := fun (z : Int) (hz : 0 ≤ z ∧ z < 2) (m : Md) (h : Heap) => side_s (sl := sl) (z := z) m h (by omega) hz
  obtain ⟨s3, mk3, h3, e3, A3, P3, M3, o3⟩ := adpush (md := ⟨md.ro, h.length⟩) hR A2 P M hro hrb (by show md.ro ≤ _; omega) (x := 2 * sl + 0 + 1) (v := u) (i := lv) ⟨by omega, by omega⟩ ⟨⟨by omega, by omega⟩, g3⟩ (fun w j => (nw w j).1)
  have Q3 := Q.push hR (x := 2 * sl + 0 + 1) (v := u) (i := lv) ⟨by omega, by omega⟩ ⟨⟨by omega, by omega⟩, g3⟩ (hd_case P u lv)
  have d1 : h3[h.length]? = some (.own (B10 V S T a)) := (o3.oth _ (by omega) (by omega)).trans c1
  have d2 : h3[h1.length]? = some (.own [(Value.int .i64 u), (Value.int .i64 v), (Value.int .i64 lv), (Value.bool false)]) := (o3.oth _ (by omega) (by omega)).trans c2
  have nu : ∀ w j, 2 * sl + 1 + 1 ∉ upL L u lv ((2 * sl + 0 + 1) :: L u lv) w j := fun w j => by
    unfold upL
    split
    · intro q
      rcases List.mem_cons.1 q with q | q
      · omega
      · exact (nw _ _).2 q
    · exact (nw w j).2
  obtain ⟨s4, mk4, h4, e4, A4, P4, M4, o4⟩ := adpush (md := ⟨md.ro, h.length⟩) hR A3 P3 M3 hro hrb (by show md.ro ≤ _; rw [o3.len]; omega) (x := 2 * sl + 1 + 1) (v := v) (i := lv) ⟨by omega, by omega⟩ ⟨⟨by omega, by omega⟩, g3⟩ nu
  have Q4 := Q3.push hR (x := 2 * sl + 1 + 1) (v := v) (i := lv) ⟨by omega, by omega⟩ ⟨⟨by omega, by omega⟩, g3⟩ (hd_case P3 v lv)
  have eL : upL L u lv ((2 * sl + 0 + 1) :: L u lv) v lv = L v lv := upL_else fun q => by omega
  rw [eL] at P4 M4 A4 Q4
  refine ⟨_, s4, mk4, h4.take h.length, ?_, A4.take la lb, Q4, P4, M4, ?_⟩
  · rw [C, call_eq, F20_eq]
    unfold F20
    have r1 : rdN h2 h.length 0 10 = some (B10 V S T a) := by rw [rdN_at c1 (by simp [Blk.cells])]; rfl
    have r2 : rdN h3 h.length 0 10 = some (B10 V S T a) := by rw [rdN_at d1 (by simp [Blk.cells])]; rfl
    have q0 : rd h2 h1.length 0 = some ((Value.int .i64 u)) := by rw [rd_at c2]; rfl
    have q2 : rd h2 h1.length 2 = some ((Value.int .i64 lv)) := by rw [rd_at c2]; rfl
    have q1 : rd h3 h1.length 1 = some ((Value.int .i64 v)) := by rw [rd_at d2]; rfl
    have q3 : rd h3 h1.length 2 = some ((Value.int .i64 lv)) := by rw [rd_at d2]; rfl
    simp only [go_sem, Nat.reduceAdd, Nat.reduceLeDiff, Nat.reduceMul, Int.reduceBEq, Int.reduceBNe, Int.reduceLT, Int.reduceLE, Int.reduceGT, ab_E b0, e1, stN, wN, r1, sds 0 sn0, q0, q2, e3, r2, sds 1 sn1, q1, q3, e4]
  · have o14 : Only a b h2 h4 := o3.trans o4
    have oo : Only a b (h ++ [Blk.own (B10 V S T a)]) (h4.take (h.length + 1)) := by
      refine ⟨by rw [List.length_take, o14.len]; simp; omega, fun y hy1 hy2 => ?_⟩
      by_cases hy : y < h.length + 1
      · rw [List.getElem?_take_of_lt hy, o14.oth y hy1 hy2, ← hk, List.getElem?_append_left (by omega)]
        exact o1.oth y hy1 hy2
      · rw [List.getElem?_eq_none (by rw [List.length_take]; omega), List.getElem?_eq_none (by simp; omega)]
    have := oo.take
    rw [List.take_take, Nat.min_eq_left (by omega)] at this
    exact this
theorem adRem (hR : Rt V S T) (A : TH V S T f a b s h) (Q : EE V S T f E) (P : LS V S T f L) (M : LM V S s mk L) (hro : md.ro ≤ a) (hrb : md.ro ≤ b) (hr : md.ro ≤ h.length) (hs : E sl = some (u, v, lv)) (i1 : 2 * sl + 0 + 1 ∈ L u lv) (i2 : 2 * sl + 1 + 1 ∈ L v lv) :
    ∃ f' s' mk' h', C md 23 [A10 V S T a, (Value.int .i64 sl)] h = some ((Value.tuple #[]), h') ∧ TH V S T f' a b s' h' ∧ EE V S T f' E ∧ LS V S T f' (remL L sl u v lv) ∧ LM V S s' mk' (remL L sl u v lv) ∧ Only a b h h' := by
  obtain ⟨la, lb⟩ := A.la
  have o := order hR
  have rs := hR
  unfold Rt at rs
  obtain ⟨g1, g2, g3, g4, g5, g6⟩ := Q.ed sl u v lv hs
  obtain ⟨h1, e1, A1, o1⟩ := aGet (md := ⟨md.ro, h.length⟩) hR (A.app [Blk.own (B10 V S T a)]) Q hro hs
  have b1 := ab_at la lb (V := V) (S := S) (T := T) (bs := []) o1
  have b0 := ab_at la lb (V := V) (S := S) (T := T) (bs := []) (Only.refl (a := a) (b := b))
  have l1 : h1.length = h.length + 1 := by rw [o1.len]; simp
  have wN : wrN ⟨md.ro, h.length⟩ (h1 ++ [Blk.own [(Value.int .i64 0), (Value.int .i64 0), (Value.int .i64 0), (Value.bool false)]]) h1.length 0 [(Value.int .i64 u), (Value.int .i64 v), (Value.int .i64 lv), (Value.bool false)] = some (h1 ++ [Blk.own [(Value.int .i64 u), (Value.int .i64 v), (Value.int .i64 lv), (Value.bool false)]]) := wrN_new0 (bs := []) (by show md.ro ≤ _; omega) (by show h.length ≤ _; omega) (by simp)
  have stN := fun {α : Type} (kk : Heap → Option α) => st_N ⟨md.ro, h.length⟩ 4 h1.length 0 [(Value.int .i64 u), (Value.int .i64 v), (Value.int .i64 lv), (Value.bool false)] (h1 ++ [Blk.own [(Value.int .i64 0), (Value.int .i64 0), (Value.int .i64 0), (Value.bool false)]]) kk rfl rfl
  generalize hk : h1 ++ [Blk.own [(Value.int .i64 u), (Value.int .i64 v), (Value.int .i64 lv), (Value.bool false)]] = h2 at wN
  have l2 : h2.length = h.length + 2 := by rw [← hk]; simp [l1]
  have c1 : h2[h.length]? = some (.own (B10 V S T a)) := by rw [← hk, List.getElem?_append_left (by omega)]; exact b1
  have c2 : h2[h1.length]? = some (.own [(Value.int .i64 u), (Value.int .i64 v), (Value.int .i64 lv), (Value.bool false)]) := by rw [← hk]; exact List.getElem?_concat_length ..
  have A2 : TH V S T f a b s h2 := by rw [← hk]; exact A1.app _
  have sn0 : (0 : Int) ≤ 0 ∧ (0 : Int) < 2 := by omega
  have sn1 : (0 : Int) ≤ 1 ∧ (1 : Int) < 2 := by omega
  have sds := fun (z : Int) (hz : 0 ≤ z ∧ z < 2) (m : Md) (h : Heap) => side_s (sl := sl) (z := z) m h (by omega) hz
  obtain ⟨X, Y, x1, x2⟩ := rm_split (P.nd u lv) i1
  obtain ⟨X', Y', y1, y2⟩ := rm_split (P.nd v lv) i2
  have cs : ∀ {w : Int} {X Y : List Int} {x : Int}, L w lv = X ++ x :: Y → (laL 0 X = 0 ∨ Sd S (laL 0 X)) ∧ (hdL Y = 0 ∨ Sd S (hdL Y)) := fun {w X Y x} e => by
    have sub : ∀ y, y ∈ X ∨ y ∈ Y → Sd S y := fun y hy => (P.rg w lv y (by
      rw [e]
      rcases hy with q | q
      · exact List.mem_append.2 (.inl q)
      · exact List.mem_append.2 (.inr (List.mem_cons.2 (.inr q))))).1
    refine ⟨?_, ?_⟩
    · rcases laL_mem X 0 with q | q
      · exact .inl q.1
      · exact .inr (sub _ (.inl q))
    · rcases hdL_mem (l := Y) with q | q
      · left; rw [q]; rfl
      · exact .inr (sub _ (.inr q))
  obtain ⟨s3, mk3, h3, e3, A3, P3, M3, o3⟩ := adpull (md := ⟨md.ro, h.length⟩) hR A2 P M hro hrb (by show md.ro ≤ _; omega) (v := u) (i := lv) ⟨⟨by omega, by omega⟩, g3⟩ x1
  have Q3 := Q.pull hR (v := u) (i := lv) ⟨⟨by omega, by omega⟩, g3⟩ (cs x1).1 (cs x1).2
  have d1 : h3[h.length]? = some (.own (B10 V S T a)) := (o3.oth _ (by omega) (by omega)).trans c1
  have d2 : h3[h1.length]? = some (.own [(Value.int .i64 u), (Value.int .i64 v), (Value.int .i64 lv), (Value.bool false)]) := (o3.oth _ (by omega) (by omega)).trans c2
  have eL : upL L u lv (X ++ Y) v lv = L v lv := upL_else fun q => by omega
  obtain ⟨s4, mk4, h4, e4, A4, P4, M4, o4⟩ := adpull (md := ⟨md.ro, h.length⟩) hR A3 P3 M3 hro hrb (by show md.ro ≤ _; rw [o3.len]; omega) (v := v) (i := lv) ⟨⟨by omega, by omega⟩, g3⟩ (eL.trans y1)
  have Q4 := Q3.pull hR (v := v) (i := lv) ⟨⟨by omega, by omega⟩, g3⟩ (cs y1).1 (cs y1).2
  rw [← x2, ← y2] at P4 M4
  refine ⟨_, s4, mk4, h4.take h.length, ?_, A4.take la lb, Q4, P4, M4, ?_⟩
  · rw [C, call_eq, F23_eq]
    unfold F23
    have r1 : rdN h2 h.length 0 10 = some (B10 V S T a) := by rw [rdN_at c1 (by simp [Blk.cells])]; rfl
    have r2 : rdN h3 h.length 0 10 = some (B10 V S T a) := by rw [rdN_at d1 (by simp [Blk.cells])]; rfl
    have q0 : rd h2 h1.length 0 = some ((Value.int .i64 u)) := by rw [rd_at c2]; rfl
    have q2 : rd h2 h1.length 2 = some ((Value.int .i64 lv)) := by rw [rd_at c2]; rfl
    have q1 : rd h3 h1.length 1 = some ((Value.int .i64 v)) := by rw [rd_at d2]; rfl
    have q3 : rd h3 h1.length 2 = some ((Value.int .i64 lv)) := by rw [rd_at d2]; rfl
    simp only [go_sem, Nat.reduceAdd, Nat.reduceLeDiff, Nat.reduceMul, Int.reduceBEq, Int.reduceBNe, Int.reduceLT, Int.reduceLE, Int.reduceGT, ab_E b0, e1, stN, wN, r1, sds 0 sn0, q0, q2, e3, r2, sds 1 sn1, q1, q3, e4]
  · have o14 : Only a b h2 h4 := o3.trans o4
    have oo : Only a b (h ++ [Blk.own (B10 V S T a)]) (h4.take (h.length + 1)) := by
      refine ⟨by rw [List.length_take, o14.len]; simp; omega, fun y hy1 hy2 => ?_⟩
      by_cases hy : y < h.length + 1
      · rw [List.getElem?_take_of_lt hy, o14.oth y hy1 hy2, ← hk, List.getElem?_append_left (by omega)]
        exact o1.oth y hy1 hy2
      · rw [List.getElem?_eq_none (by rw [List.length_take]; omega), List.getElem?_eq_none (by simp; omega)]
    have := oo.take
    rw [List.take_take, Nat.min_eq_left (by omega)] at this
    exact this
/-- A side's slot. -/
def slt (x : Int) : Int := (x - 1) / 2
theorem hdv (Q : LS V S T f L) (hR : Rt V S T) (hi : In V v i) : f (Hx V S T v i) = hdL (L v i) ∧ (hdL (L v i) = 0 ∨ Sd S (hdL (L v i))) := ⟨Q.hd v i hi, hd_case Q v i⟩
theorem adFirst (hR : Rt V S T) (A : TH V S T f a b s h) (P : LS V S T f L) (hro : md.ro ≤ a) (hi : In V v i) :
    ∃ h', C md 16 [A10 V S T a, (Value.int .i64 v), (Value.int .i64 i)] h = some ((Value.tuple #[(Value.int .i64 (if L v i = [] then 0 else slt (hdL (L v i)))), (Value.bool (decide (L v i ≠ [])))]), h') ∧ TH V S T f a b s h' ∧ Only a b h h' := by
  obtain ⟨la, lb⟩ := A.la
  have rs := hR
  unfold Rt at rs
  have o := order hR
  obtain ⟨q1, q2⟩ := hdv P hR hi
  have hb := hx_bd (S := S) (T := T) hR hi
  obtain ⟨h1, e1, A1, o1⟩ := adget (md := ⟨md.ro, h.length⟩) hR (A.app [Blk.own (B10 V S T a)]) hro (x := Hx V S T v i) (by omega) (by omega)
  rw [q1] at e1
  have b0 := ab_at la lb (V := V) (S := S) (T := T) (bs := []) (Only.refl (a := a) (b := b))
  have p0 := hdL_0 (l := L v i) fun y hy => (P.rg v i y hy).1.1
  refine ⟨h1.take h.length, ?_, A1.take la lb, o1.take⟩
  rw [C, call_eq, F16_eq]
  unfold F16
  by_cases q : L v i = []
  · have z : (hdL (L v i) == 0) = true := by rw [p0.2 q]; rfl
    rw [if_pos q, decide_eq_false (fun k => k q)]
    simp only [go_sem, Nat.reduceAdd, Nat.reduceLeDiff, Nat.reduceMul, Int.reduceBEq, Int.reduceBNe, Int.reduceLT, Int.reduceLE, Int.reduceGT, ab_A b0, ab_L b0, head_s _ _ hR, e1, z]
  · have nz : hdL (L v i) ≠ 0 := fun k => q (p0.1 k)
    have sd := q2.resolve_left nz
    have z : (hdL (L v i) == 0) = false := by rw [beq_eq_false_iff_ne]; exact nz
    have w1 : IntKind.wrap .i64 (hdL (L v i) - 1) = hdL (L v i) - 1 := wi (by omega) (by omega)
    have t1 : (hdL (L v i) - 1).tdiv 2 = (hdL (L v i) - 1) / 2 := Int.tdiv_eq_ediv_of_nonneg (by omega)
    have w2 : IntKind.wrap .i64 ((hdL (L v i) - 1) / 2) = (hdL (L v i) - 1) / 2 := wi (by omega) (by omega)
    rw [if_neg q, decide_eq_true q]
    unfold slt
    simp only [go_sem, Nat.reduceAdd, Nat.reduceLeDiff, Nat.reduceMul, Int.reduceBEq, Int.reduceBNe, Int.reduceLT, Int.reduceLE, Int.reduceGT, ab_A b0, ab_L b0, head_s _ _ hR, e1, z, w1, t1, w2]
end Go.Det.E

/- A list's slots, gone through; a list without a slot; equal lists. -/
namespace Go.Det.E
open Go.Proofs Go.Det Go.Det.U
attribute [local congr] bind_c cond_c
variable {md : Md} {h hh k h' : Heap} {a b n n0 p : Nat} {V S T x y z u v w i lv sl : Int} {f f' : Int → Int} {s s' : NS} {l c r A0 B0 : List Int} {mk : Int → Nat} {L : Int → Int → List Int} {E : EM} {av bv : Value}
theorem pig12 : ∀ (N : Nat) (l : List Nat), l.Nodup → (∀ n ∈ l, 1 ≤ n ∧ n ≤ N) → l.length ≤ N := by
  intro N
  induction N with
  | zero =>
    intro l hn h
    cases l with
    | nil => simp
    | cons x l => have := h x (by simp); omega
  | succ N ih =>
    intro l hn h
    by_cases hm : N + 1 ∈ l
    · have e := ih (l.erase (N + 1)) (hn.erase _) fun n hn2 => by
        have := h n (List.mem_of_mem_erase hn2)
        have := (hn.mem_erase_iff.1 hn2).1
        omega
      rw [List.length_erase_of_mem hm] at e
      omega
    · have := ih l hn fun n hn2 => by
        have := h n hn2
        have : n ≠ N + 1 := fun e => hm (e ▸ hn2)
        omega
      omega
theorem LS.len (Q : LS V S T f L) (hR : Rt V S T) (v i : Int) : ((L v i).length : Int) ≤ 2 * S := by
  have rs := hR
  unfold Rt at rs
  have h1 : ((L v i).map Int.toNat).Nodup := by
    rw [List.Nodup, List.pairwise_map]
    refine List.Pairwise.imp_of_mem ?_ (Q.nd v i)
    intro x y hx hy hne e
    have := (Q.rg v i x hx).1
    have := (Q.rg v i y hy).1
    exact hne (by omega)
  have := pig12 (2 * S).toNat _ h1 fun n hn => by
    obtain ⟨y, hy, rfl⟩ := List.mem_map.1 hn
    have := (Q.rg v i y hy).1
    omega
  rw [List.length_map] at this
  omega
/-- What a walk leaves. -/
structure Wk (n0 a b : Nat) (h h' : Heap) : Prop where
  len : h.length ≤ h'.length
  old : ∀ y, y < n0 → y ≠ a → y ≠ b → h'[y]? = h[y]?
theorem Wk.trans {h'' : Heap} (x : Wk n0 a b h h') (y : Wk n0 a b h' h'') : Wk n0 a b h h'' := ⟨Nat.le_trans x.len y.len, fun z h1 h2 h3 => (y.old z h1 h2 h3).trans (x.old z h1 h2 h3)⟩
theorem two0 : (2 : Int) ≠ 0 := by decide
theorem list_lp (hR : Rt V S T) (hro : md.ro ≤ a) (hrn : md.ro ≤ n0) (hp : a < p ∧ b < p ∧ p < n0) {h0 : Heap} {s6 : Value} : ∀ (rest : List Int) (pr : Int) (done : List Int) (acc : Value) (k : Heap), DL S T f pr rest → (∀ y ∈ rest, Sd S y) → TH V S T f a b s k → k[p]? = some (.own (B10 V S T a)) → n0 ≤ k.length → SlO k n0 1 eZ acc (done.map slt) → done.length + rest.length < 1000 →
    ∃ v' k', J17_0 C md h0 ((Value.pointer (some ⟨p, 0, none⟩))) s6 acc ((Value.int .i64 (hdL rest))) k = some (v', k') ∧ TH V S T f a b s k' ∧ SlO k' n0 1 eZ v' ((done ++ rest).map slt) ∧ Wk n0 a b k k' := by
  have rs := hR
  unfold Rt at rs
  have o := order hR
  intro rest
  induction rest with
  | nil =>
    intro pr done acc k d hs A hk hn SO hl
    refine ⟨acc, k, ?_, A, by rw [List.append_nil]; exact SO, ⟨Nat.le_refl _, fun _ _ _ _ => rfl⟩⟩
    have z : ((0 : Int) != 0) = false := rfl
    show J17_0 C md h0 ((Value.pointer (some ⟨p, 0, none⟩))) s6 acc ((Value.int .i64 0)) k = _
    rw [J17_0_step]
    unfold Jr17_0
    simp only [go_sem, Nat.reduceAdd, Nat.reduceLeDiff, Nat.reduceMul, Int.reduceBEq, Int.reduceBNe, Int.reduceLT, Int.reduceLE, Int.reduceGT, aBin_neq, z, Jk17_0]
  | cons x rest ih =>
    intro pr done acc k d hs A hk hn SO hl
    have hx := hs x (by simp)
    have hz : (x != 0) = true := by rw [bne_iff_ne]; omega
    have w1 : IntKind.wrap .i64 (x - 1) = x - 1 := wi (by omega) (by omega)
    have t1 : (x - 1).tdiv 2 = (x - 1) / 2 := Int.tdiv_eq_ediv_of_nonneg (by omega)
    have w2 : IntKind.wrap .i64 ((x - 1) / 2) = (x - 1) / 2 := wi (by omega) (by omega)
    simp only [List.length_cons] at hl
    obtain ⟨v1, k1, ea, S1, O1⟩ := append_own (md := md) (ys := [slt x]) tInts SO hrn hn (cs := [(Value.int .i64 (slt x))]) (by simp [flat]) (by simp) rfl (by simp only [List.length_map, List.length_cons, List.length_nil]; omega)
    simp only [List.length_cons, List.length_nil, Nat.zero_add] at ea
    have la := A.la
    have A1 : TH V S T f a b s k1 := A.old (O1.old _ (by omega)) (O1.old _ (by omega))
    have hk1 : k1[p]? = some (.own (B10 V S T a)) := (O1.old _ (by omega)).trans hk
    have r1 : rdN k1 p 0 10 = some (B10 V S T a) := by rw [rdN_at hk1 (by simp [Blk.cells])]; rfl
    have nb := nx_bd (T := T) hR hx
    have hnr : f (nxC S T x) = hdL rest := d.2.1
    have hr0 : hdL rest = 0 ∨ Sd S (hdL rest) := by
      rcases hdL_mem (l := rest) with q | q
      · left; rw [q]; rfl
      · exact .inr (hs _ (by simp [q]))
    obtain ⟨k2, e2, A2, o2⟩ := adget (md := md) hR A1 hro (x := nxC S T x) (by omega) (by omega)
    rw [hnr] at e2
    have O2 : Wk n0 a b k k2 := ⟨by rw [o2.len]; exact O1.len, fun y h1 h2 h3 => (o2.oth y h2 h3).trans (O1.old y h1)⟩
    have S2 : SlO k2 n0 1 eZ v1 ((done ++ [x]).map slt) := by
      rw [List.map_append]
      exact S1.at fun y h1 h2 => o2.oth y (by omega) (by omega)
    obtain ⟨v', k', e3, A3, S3, W3⟩ := ih x (done ++ [x]) v1 k2 d.2.2 (fun y hy => hs y (by simp [hy])) A2 ((o2.oth _ (by omega) (by omega)).trans hk1) (by rw [o2.len]; exact Nat.le_trans hn O1.len) S2 (by simp only [List.length_append, List.length_cons, List.length_nil]; omega)
    rw [List.append_assoc] at S3
    refine ⟨v', k', ?_, A3, S3, O2.trans W3⟩
    show J17_0 C md h0 ((Value.pointer (some ⟨p, 0, none⟩))) s6 acc ((Value.int .i64 x)) k = _
    have nx := adnext (a := a) (V := V) hR md k1 hx
    unfold slt at ea
    rw [J17_0_step]
    unfold Jr17_0
    simp only [go_sem, Nat.reduceAdd, Nat.reduceLeDiff, Nat.reduceMul, Int.reduceBEq, Int.reduceBNe, Int.reduceLT, Int.reduceLE, Int.reduceGT, aBin_neq, hz, aBin_sub, w1, aBin_quo two0, t1, w2, bInts1, ea, r1, nx, e2]
    exact e3
theorem adList (hR : Rt V S T) (A : TH V S T f a b s h) (P : LS V S T f L) (hro : md.ro ≤ a) (hr : md.ro ≤ h.length + 1) (hi : In V v i) :
    ∃ v' h', C md 17 [A10 V S T a, (Value.int .i64 v), (Value.int .i64 i)] h = some (v', h') ∧ TH V S T f a b s h' ∧ SlO h' (h.length + 1) 1 eZ v' ((L v i).map slt) ∧ Wk h.length a b h h' := by
  obtain ⟨la, lb⟩ := A.la
  have rs := hR
  unfold Rt at rs
  have o := order hR
  obtain ⟨q1, q2⟩ := hdv P hR hi
  have hb := hx_bd (S := S) (T := T) hR hi
  have hl := P.len hR v i
  obtain ⟨h1, e1, A1, o1⟩ := adget (md := md) hR (A.app [Blk.own (B10 V S T a)]) hro (x := Hx V S T v i) (by omega) (by omega)
  rw [q1] at e1
  have b0 := ab_at la lb (V := V) (S := S) (T := T) (bs := []) (Only.refl (a := a) (b := b))
  have b1 := ab_at la lb (V := V) (S := S) (T := T) (bs := []) o1
  have l1 : h1.length = h.length + 1 := by rw [o1.len]; simp
  obtain ⟨v', k', e2, A2, S2, W2⟩ := list_lp (md := md) (h0 := h) (s6 := .slice none 0 0) (n0 := h.length + 1) (p := h.length) hR hro hr ⟨la, lb, by omega⟩ (L v i) 0 [] (.slice none 0 0) h1 (P.dl v i) (fun y hy => (P.rg v i y hy).1) A1 b1 (by omega) (SlO.nil _ _ eZ_len) (by simp only [List.length_nil]; omega)
  refine ⟨v', k', ?_, A2, S2, ⟨by have := W2.len; omega, fun y h1' h2 h3 => ?_⟩⟩
  · rw [C, call_eq, F17_eq]
    unfold F17
    simp only [go_sem, Nat.reduceAdd, Nat.reduceLeDiff, Nat.reduceMul, Int.reduceBEq, Int.reduceBNe, Int.reduceLT, Int.reduceLE, Int.reduceGT, ab_A b0, ab_L b0, head_s _ _ hR, e1]
    exact e2
  · rw [W2.old y (by omega) h2 h3, o1.oth y h2 h3, List.getElem?_append_left h1']
/-- A list without a slot. -/
theorem out_lp {h0 : Heap} {s4 : Value} {vals : List Int} (hrn : md.ro ≤ n0) (X : Sl hh 1 eZ av vals) (hav : slB av < n0) (hl : vals.length < 1000) (x : Int) : ∀ (m j : Nat) (acc : Value) (k : Heap), j + m = vals.length → n0 ≤ k.length → (∀ y, y < n0 → k[y]? = hh[y]?) → SlO k n0 1 eZ acc (rmL x (vals.take j)) →
    ∃ v' k', J56_0 C md h0 ((Value.int .i64 x)) s4 acc av ((Value.int .i64 ((vals.length : Int)))) ((Value.int .i64 ((j : Int)))) k = some (v', k') ∧ SlO k' n0 1 eZ v' (rmL x vals) ∧ k.length ≤ k'.length ∧ ∀ y, y < n0 → k'[y]? = k[y]? := by
  intro m
  induction m with
  | zero =>
    intro j acc k hj hn ok SO
    obtain rfl : j = vals.length := by omega
    rw [List.take_length] at SO
    refine ⟨acc, k, ?_, SO, Nat.le_refl _, fun _ _ => rfl⟩
    rw [J56_0_step]
    unfold Jr56_0
    simp only [go_sem, Nat.reduceAdd, Nat.reduceLeDiff, Nat.reduceMul, Int.reduceBEq, Int.reduceBNe, Int.reduceLT, Int.reduceLE, Int.reduceGT, aBin_lss, Int.lt_irrefl, Jk56_0]
  | succ m ih =>
    intro j acc k hj hn ok SO
    have hlt : (j : Int) < (vals.length : Int) := by omega
    have w : IntKind.wrap .i64 ((j : Int) + 1) = ((j + 1 : Nat) : Int) := by rw [wi (by omega) (by omega)]; rfl
    have hy : vals[j]? = some (vals[j]'(by omega)) := List.getElem?_eq_getElem (by omega)
    have tk : vals.take (j + 1) = vals.take j ++ [vals[j]'(by omega)] := by rw [List.take_add_one, hy]; rfl
    generalize vals[j]'(by omega) = y at hy tk
    have X' : Sl k 1 eZ av vals := X.heap fun _ => ok _ hav
    obtain ⟨ix, rx⟩ := Sl.getI X' hy
    by_cases q : y = x
    · have z : (y != x) = false := by rw [q]; simp
      have rm : rmL x (vals.take (j + 1)) = rmL x (vals.take j) := by rw [tk]; unfold rmL; rw [List.filter_append]; simp [q]
      obtain ⟨v', k', e, S', l', o'⟩ := ih (j + 1) acc k (by omega) hn ok (by rw [rm]; exact SO)
      refine ⟨v', k', ?_, S', l', o'⟩
      rw [J56_0_step]
      unfold Jr56_0
      simp only [go_sem, Nat.reduceAdd, Nat.reduceLeDiff, Nat.reduceMul, Int.reduceBEq, Int.reduceBNe, Int.reduceLT, Int.reduceLE, Int.reduceGT, aBin_lss, hlt, ixSV_p, ix, rx, aBin_neq, z, aBin_add, w]
      exact e
    · have z : (y != x) = true := by rw [bne_iff_ne]; exact q
      have rm : rmL x (vals.take (j + 1)) = rmL x (vals.take j) ++ [y] := by rw [tk]; unfold rmL; rw [List.filter_append]; simp [q]
      have lrm : (rmL x (vals.take j)).length ≤ vals.length := by
        have h1 : (rmL x (vals.take j)).length ≤ (vals.take j).length := List.length_filter_le _ _
        rw [List.length_take] at h1; omega
      obtain ⟨v1, k1, ea, S1, O1⟩ := append_own (md := md) (ys := [y]) tInts SO hrn hn (cs := [(Value.int .i64 y)]) (by simp [flat]) (by simp) rfl (by simp only [List.length_cons, List.length_nil]; omega)
      simp only [List.length_cons, List.length_nil, Nat.zero_add] at ea
      obtain ⟨v', k', e, S', l', o'⟩ := ih (j + 1) v1 k1 (by omega) (Nat.le_trans hn O1.len) (fun y hy => (O1.old y hy).trans (ok y hy)) (by rw [rm]; exact S1)
      refine ⟨v', k', ?_, S', Nat.le_trans O1.len l', fun y hy => (o' y hy).trans (O1.old y hy)⟩
      rw [J56_0_step]
      unfold Jr56_0
      simp only [go_sem, Nat.reduceAdd, Nat.reduceLeDiff, Nat.reduceMul, Int.reduceBEq, Int.reduceBNe, Int.reduceLT, Int.reduceLE, Int.reduceGT, aBin_lss, hlt, ixSV_p, ix, rx, aBin_neq, z, ea, aBin_add, w]
      exact e
theorem out_s {vals : List Int} (hrn : md.ro ≤ h.length) (X : Sl h 1 eZ av vals) (hp : 0 < h.length) (hl : vals.length < 1000) (x : Int) :
    ∃ v' k', C md 56 [av, (Value.int .i64 x)] h = some (v', k') ∧ SlO k' h.length 1 eZ v' (rmL x vals) ∧ Old h.length h k' := by
  have hb : slB av < h.length := by
    rcases X.is with ⟨rfl, rfl⟩ | ⟨bb, oo, kk, rfl, hb, hc, hl⟩
    · exact hp
    · exact lt_of hb
  have len := fun {α : Type} (kk : Value → Option α) => X.len kk
  obtain ⟨v', k', e, S', l', o'⟩ := out_lp (md := md) (h0 := h) (s4 := .slice none 0 0) hrn X hb hl x vals.length 0 (.slice none 0 0) h (by omega) (Nat.le_refl _) (fun _ _ => rfl) (SlO.nil _ _ eZ_len)
  refine ⟨v', k', ?_, S', ⟨l', o'⟩⟩
  rw [C, call_eq, F56_eq]
  unfold F56
  simp only [go_sem, Nat.reduceAdd, Nat.reduceLeDiff, Nat.reduceMul, Int.reduceBEq, Int.reduceBNe, Int.reduceLT, Int.reduceLE, Int.reduceGT, len]
  exact e
end Go.Det.E
