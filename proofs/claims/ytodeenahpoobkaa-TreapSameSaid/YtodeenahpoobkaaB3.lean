/- Memory as it is at first. -/
import Derived.Test.YtodeenahpoobkaaB2
set_option autoImplicit false
set_option linter.unusedVariables false
set_option linter.unusedSimpArgs false
namespace Go.Det.E
open Go.Proofs Go.Det
attribute [local congr] bind_c cond_c
variable {md : Md} {h hh g : Heap} {a b n : Nat} {l c D : List Int} {V S T x : Int}
abbrev encU (x : Int) : List Value := [(Value.int .u64 x)]
theorem encU_len (x : Int) : (encU x).length = 1 := rfl
theorem chL_wd (w : Wd l) (x o n t g : Int) : Wd (chL l x o n t g) := by
  unfold chL
  cases hc : (W.rightB (getI l x) && W.rightW o n t g)
  · exact w
  · simp only [Bool.and_eq_true] at hc
    have := W.bits_of hc.2
    exact w.put _ ⟨this.1, this.2.1⟩
theorem hgL_wd (w : Wd l) (q : Int) (sh : Bool) : Wd (hgL l q sh) := by
  unfold hgL
  cases sh
  · exact w.put _ (by omega)
  · exact chL_wd w _ _ _ _ _
def aloneL (l : List Int) (q lone : Int) (sh : Bool) : List Int := putI (hgL (putI (putI l (q + 3) 0) (q + 4) 0) (q + 2) sh) (q + 6) lone
theorem aloneL_wd (w : Wd l) (q : Int) {lone : Int} (hl : 0 ≤ lone ∧ lone < 18446744073709551616) (sh : Bool) : Wd (aloneL l q lone sh) := by
  unfold aloneL
  exact (hgL_wd ((w.put _ (by omega)).put _ (by omega)) _ _).put _ hl
theorem loneV_in (V x : Int) : 0 ≤ loneV V x ∧ loneV V x < 18446744073709551616 := by unfold loneV; split <;> omega
theorem alone_e (hR : Rt V S T) (A : Ar h a b l c) (w : Wd l) (hro : md.ro ≤ a) (hrb : md.ro ≤ b) (hr : md.ro ≤ h.length) (hx : Bl (x - 1) (Nn V S) = true) :
    ∃ h' c', C md 56 [(Value.agg #[(Value.int .i64 V), (Value.int .i64 S), (Value.int .i64 T), ifA a, (Value.int .i64 1), (Value.int .i64 0)]), (Value.int .i64 x)] h = some ((Value.tuple #[]), h') ∧ Ar h' a b (aloneL l (Nd V S T + (x - 1) * 7) (loneV V x) (lvlB V x == 0)) c' ∧ Only a b h h' := by
  have la := lt_of A.ha
  have lb := lt_of A.hb
  have h1 := Bl_t.1 hx
  have h2 := Cn_le hR
  have fx : ∀ f : Int, 0 ≤ f ∧ f < 7 → Fx V S T x f = Nd V S T + (x - 1) * 7 + f := fun f hf => ((fx_in (b := f) hR).1 (by rw [hx, Bl_t.2 hf]; rfl)).1
  have w0 : IntKind.wrap .u64 0 = 0 := by decide
  have lh : md.ro ≤ (h ++ [Blk.own [(Value.int .i64 V), (Value.int .i64 S), (Value.int .i64 T), ifA a, (Value.int .i64 1), (Value.int .i64 0)]]).length := by simp; omega
  obtain ⟨k1, c1, e1, A1, o1⟩ := tput_e (md := ⟨md.ro, h.length⟩) hR (A.app [Blk.own [(Value.int .i64 V), (Value.int .i64 S), (Value.int .i64 T), ifA a, (Value.int .i64 1), (Value.int .i64 0)]]) hro hrb lh hx 1 0 3 0
  rw [fx 3 (by omega), w0] at A1
  have l1 := o1.len
  simp only [List.length_append, List.length_cons, List.length_nil] at l1
  obtain ⟨k2, c2, e2, A2, o2⟩ := tput_e (md := ⟨md.ro, h.length⟩) hR A1 hro hrb (by show md.ro ≤ k1.length; omega) hx 1 0 4 0
  rw [fx 4 (by omega), w0] at A2
  have l2 := o2.len
  have wA2 : ∀ {l : List Int}, Wd l → Wd (putI (putI l (Nd V S T + (x - 1) * 7 + 3) 0) (Nd V S T + (x - 1) * 7 + 4) 0) := fun w => (w.put _ (by omega)).put _ (by omega)
  obtain ⟨k3, c3, e3, A3, o3⟩ := hang_e (md := ⟨md.ro, h.length⟩) hR A2 (wA2 w) hro hrb (by show md.ro ≤ k2.length; omega) hx
  rw [fx 2 (by omega)] at A3
  have l3 := o3.len
  have fs := fun (m : Md) (h : Heap) => field_s m h (b := 6) hR (a := x) ⟨by omega, by omega⟩
  rw [fx 6 (by omega)] at fs
  have q3 : ∀ {k : Heap}, Only a b (h ++ [Blk.own [(Value.int .i64 V), (Value.int .i64 S), (Value.int .i64 T), ifA a, (Value.int .i64 1), (Value.int .i64 0)]]) k → k[h.length]? = some (.own [(Value.int .i64 V), (Value.int .i64 S), (Value.int .i64 T), ifA a, (Value.int .i64 1), (Value.int .i64 0)]) := fun o => by
    have := o.new la lb 0
    rw [Nat.add_zero] at this
    rw [this]; rfl
  have b1 := q3 o1
  have b2 := q3 (o1.trans o2)
  have b3 := q3 ((o1.trans o2).trans o3)
  have r1 : rdN k1 h.length 0 6 = some [(Value.int .i64 V), (Value.int .i64 S), (Value.int .i64 T), ifA a, (Value.int .i64 1), (Value.int .i64 0)] := by rw [rdN_own b1 (by simp)]; rfl
  have r2 : rdN k2 h.length 0 6 = some [(Value.int .i64 V), (Value.int .i64 S), (Value.int .i64 T), ifA a, (Value.int .i64 1), (Value.int .i64 0)] := by rw [rdN_own b2 (by simp)]; rfl
  have r3 : rdN k3 h.length 0 6 = some [(Value.int .i64 V), (Value.int .i64 S), (Value.int .i64 T), ifA a, (Value.int .i64 1), (Value.int .i64 0)] := by rw [rdN_own b3 (by simp)]; rfl
  have r4 : rd k3 h.length 3 = some (ifA a) := by rw [rd_own b3]; rfl
  have r5 : rdN k3 h.length 0 3 = some [(Value.int .i64 V), (Value.int .i64 S), (Value.int .i64 T)] := by rw [rdN_own b3 (by simp)]; rfl
  have lo := lone_e (md := ⟨md.ro, h.length⟩) (h := k3) hR hx (ifA a) 1 0 (by show md.ro ≤ k3.length; omega)
  obtain ⟨k4, e4, A4, o4⟩ := ps_x (md := ⟨md.ro, h.length⟩) A3 hro hrb (Nd V S T + (x - 1) * 7 + 6) (loneV V x)
  have oall := ((o1.trans o2).trans o3).trans o4
  refine ⟨k4.take h.length, _, ?_, A4.take la lb, oall.take⟩
  rw [C, call_eq, F56_eq]
  unfold F56
  simp only [go_sem, Nat.reduceAdd, Nat.reduceLeDiff, Nat.reduceMul, Int.reduceBEq, Int.reduceBNe, Int.reduceLT, Int.reduceLE, Int.reduceGT, e1, r1, e2, r2, e3, r3, r4, r5, fs, lo, okN_i, clI_store, e4]
end Go.Det.E
