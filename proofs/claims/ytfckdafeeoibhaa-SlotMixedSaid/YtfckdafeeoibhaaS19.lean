/- Workers: nobody has a slot that another one has; and each of them can be ended. -/
import Derived.Test.YtfckdafeeoibhaaS15
set_option autoImplicit false
set_option linter.unusedVariables false
set_option linter.unusedSimpArgs false
namespace Go.Det.E
open Go.Proofs Go.Det
attribute [local congr] bind_c cond_c
variable {md : Md} {h hh h' : Heap} {a b p n : Nat} {l c picks free : List Int} {B : Int} {av v : Value} {ws : List Wk} {W : Nat}
theorem refright_7 (md : Md) (h : Heap) (V S T : Int) : C md 26 [(Value.agg #[(Value.int .i64 V), (Value.int .i64 S), (Value.int .i64 T)])] h = some ((Value.bool (decide (Rt V S T))), h) := by
  rw [C, call_eq, F26_eq]
  unfold F26 Rt
  by_cases h1 : 1 ≤ V <;> (try by_cases h2 : V ≤ 16) <;> (try by_cases h3 : 0 ≤ S) <;> (try by_cases h4 : S ≤ 48) <;> (try by_cases h5 : 1 ≤ T) <;> (try by_cases h6 : T ≤ 8) <;>
    simp only [go_sem, Nat.reduceAdd, Nat.reduceLeDiff, Nat.reduceMul, Int.reduceBEq, Int.reduceBNe, Int.reduceLT, Int.reduceLE, Int.reduceGT, ge_iff_le, *, aBin_leq, aBin_geq, false_and, and_false, true_and, and_self]
/-- What a worker has, one by one. -/
theorem apart_has {W1 K : Nat} {hv : Value} {has : List Int} (hp : hh[p]? = some (.own (plC n a av))) (S : Sl hh 1 encI hv has) (hro : md.ro ≤ hh.length) (hin : ∀ x ∈ has, 0 ≤ x ∧ x < (n : Int)) (hlen : has.length < 1000) (hK : K < 1000) (s2 s12 : Value) : ∀ (rest pre0 pre : List Int) (es : List (Int × Value)),
    pre ++ rest = has → (∀ y : Int, (pre0 ++ has).count y ≤ 1) → Sn es (pre0 ++ pre) →
    ∃ es', J28_0b0 C md ((Value.pointer (some ⟨p, 0, none⟩))) s2 (.map (some hh.length)) s12 ((Value.int .i64 ((W1 : Int)))) ((Value.int .i64 ((K : Int)))) hv ((Value.int .i64 ((has.length : Int)))) ((Value.int .i64 ((pre.length : Int)))) (hh ++ [.mp .i64 es]) =
      some (.inl (((Value.pointer (some ⟨p, 0, none⟩)), s2, .map (some hh.length), s12, (Value.int .i64 ((W1 : Int))), (Value.int .i64 (((K + 1 : Nat) : Int)))), hh ++ [.mp .i64 es'])) ∧ Sn es' (pre0 ++ has) := by
  have wK : IntKind.wrap .i64 ((K : Int) + 1) = ((K + 1 : Nat) : Int) := by rw [wi (by omega) (by omega)]; rfl
  intro rest
  induction rest with
  | nil =>
    intro pre0 pre es e hc Q
    rw [List.append_nil] at e
    subst e
    refine ⟨es, ?_, Q⟩
    rw [J28_0b0_step]
    unfold Jr28_0b0
    simp only [go_sem, Nat.reduceAdd, Nat.reduceLeDiff, Nat.reduceMul, Int.reduceBEq, Int.reduceBNe, Int.reduceLT, Int.reduceLE, Int.reduceGT, aBin_lss, Int.lt_irrefl, Jk28_0b0, aBin_add, wK]
  | cons x rest ih =>
    intro pre0 pre es e hc Q
    have hx : has[pre.length]? = some x := by rw [← e]; simp
    have hlt : (pre.length : Int) < (has.length : Int) := by have := (List.getElem?_eq_some_iff.1 hx).1; omega
    obtain ⟨ix, el⟩ := Sl.readn (S.app (bs := [.mp .i64 es])) hx
    obtain ⟨x0, x1⟩ := hin x (by rw [← e]; simp)
    have nx : x ∉ pre0 ++ pre := by
      intro q
      have h1 := hc x
      have h2 := List.count_pos_iff.2 q
      rw [← e, ← List.append_assoc, List.count_append, List.count_cons_self] at h1
      omega
    have w : IntKind.wrap .i64 ((pre.length : Int) + 1) = ((pre.length + 1 : Nat) : Int) := by rw [wi (by omega) (by omega)]; rfl
    have hb : (hh ++ [Blk.mp .i64 es])[hh.length]? = some (.mp .i64 es) := by simp
    have g := fun {α : Type} (kk : Value → Option α) => Q.get hb x kk
    have s := fun {α : Type} (kk : Heap → Option α) => Sn.set (md := md) hb hro x kk
    have hs : (hh ++ [Blk.mp .i64 es]).set hh.length (.mp .i64 (mPut es x ((Value.bool true)))) = hh ++ [.mp .i64 (mPut es x ((Value.bool true)))] := by simp
    rw [hs] at s
    have rp1 : rd (hh ++ [Blk.mp .i64 es]) p 1 = some ((Value.int .i64 ((n : Int)))) := by rw [rd_old (lt_of hp), rd_own hp]; rfl
    obtain ⟨es', e', q1⟩ := ih pre0 (pre ++ [x]) _ (by rw [← e]; simp) hc (by rw [← List.append_assoc]; exact Q.put x)
    refine ⟨es', ?_, q1⟩
    rw [J28_0b0_step]
    unfold Jr28_0b0
    have c1 : ¬ x < 0 := by omega
    have c2 : ¬ (n : Int) ≤ x := by omega
    simp only [go_sem, Nat.reduceAdd, Nat.reduceLeDiff, Nat.reduceMul, Int.reduceBEq, Int.reduceBNe, Int.reduceLT, Int.reduceLE, Int.reduceGT, aBin_lss, hlt, ix, el, c1, aBin_geq, rp1, c2, g, nx, s, aBin_add, w]
    simpa using e'
theorem apart_all (P : Pg h hh a b p n av ws l c B) (I : SI n B l ws free) (hn : n ≤ 48) (hW : ws.length ≤ 8) (hro : md.ro ≤ hh.length) (s2 : Value) : ∀ (rest pre : List Wk) (es : List (Int × Value)), pre ++ rest = ws → Sn es (pre.flatMap (·.has)) →
    ∃ g, J28_0 C md hh ((Value.pointer (some ⟨p, 0, none⟩))) s2 (.map (some hh.length)) av ((Value.int .i64 ((ws.length : Int)))) ((Value.int .i64 ((pre.length : Int)))) (hh ++ [.mp .i64 es]) = some ((Value.bool true), g) ∧ g = hh := by
  intro rest
  induction rest with
  | nil =>
    intro pre es e Q
    rw [List.append_nil] at e
    subst e
    refine ⟨hh, ?_, rfl⟩
    rw [J28_0_step]
    unfold Jr28_0
    simp only [go_sem, Nat.reduceAdd, Nat.reduceLeDiff, Nat.reduceMul, Int.reduceBEq, Int.reduceBNe, Int.reduceLT, Int.reduceLE, Int.reduceGT, aBin_lss, Int.lt_irrefl, Jk28_0]
  | cons w rest ih =>
    intro pre es e Q
    have hw : ws[pre.length]? = some w := by rw [← e]; simp
    have hlt : (pre.length : Int) < (ws.length : Int) := by have := (List.getElem?_eq_some_iff.1 hw).1; omega
    obtain ⟨ip, rp⟩ := Sl.pread (P.AL.sl.app (bs := [.mp .i64 es])) (i := (pre.length : Int)) (x := w.wb) (by omega) (by rw [Int.toNat_natCast, List.getElem?_map, hw]; rfl)
    rw [Int.toNat_natCast] at rp
    simp only [Int.toNat_natCast] at ip
    have Pw := P.oks pre.length w hw
    have rh : rd (hh ++ [Blk.mp .i64 es]) w.wb 2 = some w.hv := by rw [rd_old (lt_of Pw.W)]; exact wk_has Pw
    have len := fun {α : Type} (kk : Value → Option α) => (Pw.H.sl.app (bs := [.mp .i64 es])).len kk
    have cnt : ∀ y : Int, (pre.flatMap (·.has) ++ w.has).count y ≤ 1 := by
      intro y
      have h1 := I.one y
      rw [← e, cnt_split] at h1
      have h2 : ∀ ws : List Wk, (ws.flatMap (·.has)).count y ≤ (ws.flatMap own).count y := by
        intro ws
        induction ws with
        | nil => simp
        | cons u us ih => simp only [List.flatMap_cons, List.count_append, own]; omega
      have h3 := h2 pre
      rw [List.count_append]
      omega
    obtain ⟨es', e2, Q2⟩ := apart_has (md := md) (W1 := ws.length) (K := pre.length) P.hp Pw.H.sl hro (fun x hx => Pw.R x hx) (by have := has_len I hw; omega) (by omega) s2 av w.has (pre.flatMap (·.has)) [] es rfl cnt (by simpa using Q)
    obtain ⟨g, eg, hg⟩ := ih (pre ++ [w]) es' (by rw [← e]; simp) (by simpa using Q2)
    refine ⟨g, ?_, hg⟩
    rw [J28_0_step]
    unfold Jr28_0
    simp only [List.length_nil, Int.natCast_zero] at e2
    simp only [go_sem, Nat.reduceAdd, Nat.reduceLeDiff, Nat.reduceMul, Int.reduceBEq, Int.reduceBNe, Int.reduceLT, Int.reduceLE, Int.reduceGT, aBin_lss, hlt, ip, rp, rh, len]
    rw [e2]
    simpa using eg
/-- No slot has two holders. -/
theorem apart_e7 (P : Pg h hh a b p n av ws l c B) (I : SI n B l ws free) (hn : n ≤ 48) (hW : ws.length ≤ 8) (hro : md.ro ≤ hh.length) :
    C md 28 [(Value.pointer (some ⟨p, 0, none⟩))] hh = some ((Value.bool true), hh) := by
  obtain ⟨g, eg, hg⟩ := apart_all (md := ⟨md.ro, hh.length⟩) P I hn hW hro ((Value.bool false)) ws [] [] rfl (by simpa using Sn.nil)
  subst hg
  have eM := fun {α : Type} (kk : Value → Heap → Option α) => (aMakeMap_p (h := g) (k := kk) tMap)
  have r4 : rd (g ++ [Blk.mp .i64 []]) p 4 = some av := by rw [rd_old (lt_of P.hp), rd_own P.hp]; rfl
  have len := fun {α : Type} (kk : Value → Option α) => (P.AL.sl.app (bs := [.mp .i64 []])).len kk
  simp only [List.length_map] at len
  rw [C, call_eq, F28_eq]
  unfold F28
  simp only [go_sem, Nat.reduceAdd, Nat.reduceLeDiff, Nat.reduceMul, Int.reduceBEq, Int.reduceBNe, Int.reduceLT, Int.reduceLE, Int.reduceGT, eM, r4, len]
  simpa using eg
/-- A worker is led to its end. -/
theorem end_one (s0 s6 s7 s110 : Value) {W1 K : Nat} (hK : K < 1000) (hro : md.ro ≤ h.length) (hlim : md.lim ≤ h.length) (hn : n ≤ 48) : ∀ (m r : Nat) (hh : Heap) (ws : List Wk) (l c free : List Int) (B : Int) (w : Wk), ws[K]? = some w → alone5 l w.st ≤ m → m + r ≤ 5 →
    Pg h hh a b p n av ws l c B → SI n B l ws free → 0 ≤ B → B + m < 50000 →
    ∃ hh' ws' l' c' free' w', J4_4b0 C md s0 s6 s7 ((Value.pointer (some ⟨p, 0, none⟩))) ((Value.pointer (some ⟨w.wb, 0, none⟩))) ((Value.int .i64 ((r : Int)))) s110 ((Value.int .i64 ((W1 : Int)))) ((Value.int .i64 ((K : Int)))) hh = some (.inl ((s0, s6, s7, (Value.pointer (some ⟨p, 0, none⟩)), s110, (Value.int .i64 ((W1 : Int))), (Value.int .i64 (((K + 1 : Nat) : Int)))), hh')) ∧
      Pg h hh' a b p n av ws' l' c' (B + m) ∧ SI n (B + m) l' ws' free' ∧ ws'.length = ws.length ∧ ws'[K]? = some w' ∧ w'.st = .idle ∧ ∀ j, j ≠ K → ws'[j]? = ws[j]? := by
  have wK : IntKind.wrap .i64 ((K : Int) + 1) = ((K + 1 : Nat) : Int) := by rw [wi (by omega) (by omega)]; rfl
  have stop : ∀ (m r : Nat) (hh : Heap) (ws : List Wk) (l c free : List Int) (B : Int) (w : Wk), ws[K]? = some w → w.st = .idle → Pg h hh a b p n av ws l c B → SI n B l ws free →
      ∃ hh' ws' l' c' free' w', J4_4b0 C md s0 s6 s7 ((Value.pointer (some ⟨p, 0, none⟩))) ((Value.pointer (some ⟨w.wb, 0, none⟩))) ((Value.int .i64 ((r : Int)))) s110 ((Value.int .i64 ((W1 : Int)))) ((Value.int .i64 ((K : Int)))) hh = some (.inl ((s0, s6, s7, (Value.pointer (some ⟨p, 0, none⟩)), s110, (Value.int .i64 ((W1 : Int))), (Value.int .i64 (((K + 1 : Nat) : Int)))), hh')) ∧
        Pg h hh' a b p n av ws' l' c' (B + m) ∧ SI n (B + m) l' ws' free' ∧ ws'.length = ws.length ∧ ws'[K]? = some w' ∧ w'.st = .idle ∧ ∀ j, j ≠ K → ws'[j]? = ws[j]? := by
    intro m r hh ws l c free B w hw hst P I
    have Pw := (P.oks K w hw).W
    unfold wkC at Pw
    rw [hst] at Pw
    have r0 : rd hh w.wb 0 = some (.pointer none) := by rw [rd_own Pw]; rfl
    have r1 : rd hh w.wb 1 = some (.pointer none) := by rw [rd_own Pw]; rfl
    refine ⟨hh, ws, l, c, free, w, ?_, P.og P.A (c5_mono P.C (by omega)) (by omega) OG.refl, I.mono (by omega), rfl, hw, hst, fun _ _ => rfl⟩
    rw [J4_4b0_step]
    unfold Jr4_4b0
    simp only [go_sem, Nat.reduceAdd, Nat.reduceLeDiff, Nat.reduceMul, Int.reduceBEq, Int.reduceBNe, Int.reduceLT, Int.reduceLE, Int.reduceGT, r0, aBin_neqN uTk, r1, aBin_neqN uGv, Jk4_4b0, aBin_add, wK]
  intro m
  induction m with
  | zero =>
    intro r hh ws l c free B w hw ha hr P I hB0 hB
    have hst : w.st = .idle := by
      have := alone5_idle (l := l) (st := w.st) (by omega)
      cases h : w.st with
      | idle => rfl
      | tk x y z => rw [h] at this; exact absurd trivial this
      | gv x y z => rw [h] at this; exact absurd trivial this
    exact stop 0 r hh ws l c free B w hw hst P I
  | succ m ih =>
    intro r hh ws l c free B w hw ha hr P I hB0 hB
    by_cases hb : w.st.busy
    · have beg : w.st.beg false w.has = (w.st, w.has) := by
        cases h : w.st with
        | idle => rw [h] at hb; exact hb.elim
        | tk x y z => rfl
        | gv x y z => rfl
      obtain ⟨h', w', e', q1, q2, P', V'⟩ := pg_step (md := md) hro hlim P hn (by omega) hw (by have := has_len I hw; omega) false
      obtain ⟨free', I'⟩ := si_step (c := c) I P.M hn ⟨hB0, by omega⟩ hw false V' q1.1 q1.2
      rw [beg] at q1 P' I' V'
      simp only at q1 P' I' V'
      have al := alone5_act (c := c) (has := w.has) V' P.M hb
      rw [← q1.1] at al
      have hKl : K < ws.length := (List.getElem?_eq_some_iff.1 hw).1
      have hw' : (ws.set K w')[K]? = some w' := by rw [List.getElem?_set_self hKl]
      have e3 : B + ((m + 1 : Nat) : Int) = B + 1 + (m : Int) := by omega
      obtain ⟨hh2, ws2, l2, c2, free2, w2, e2, P2, I2, q3, q4, q5, q6⟩ := ih (r + 1) h' (ws.set K w') _ _ free' (B + 1) w' hw' (by omega) (by omega) P' I' (by omega) (by omega)
      refine ⟨hh2, ws2, l2, c2, free2, w2, ?_, by rw [e3]; exact P2, by rw [e3]; exact I2, by rw [q3]; simp, q4, q5, fun j hj => by rw [q6 j hj, List.getElem?_set_ne (Ne.symm hj)]⟩
      have Pw := (P.oks K w hw).W
      unfold wkC at Pw
      have wr : IntKind.wrap .i64 ((r : Int) + 1) = ((r + 1 : Nat) : Int) := by rw [wi (by omega) (by omega)]; rfl
      have n6 : ¬ (6 : Int) < (r : Int) := by omega
      rw [q2] at e2
      rw [J4_4b0_step]
      unfold Jr4_4b0
      cases hst : w.st with
      | idle => rw [hst] at hb; exact hb.elim
      | tk x y z =>
        rw [hst] at Pw
        have r0 : rd hh w.wb 0 = some ((Value.pointer (some ⟨w.kb, 0, none⟩))) := by rw [rd_own Pw]; rfl
        simp only [go_sem, Nat.reduceAdd, Nat.reduceLeDiff, Nat.reduceMul, Int.reduceBEq, Int.reduceBNe, Int.reduceLT, Int.reduceLE, Int.reduceGT, r0, aBin_neqP uTk, aBin_gtr, n6, e', aBin_add, wr]
        exact e2
      | gv x y z =>
        rw [hst] at Pw
        have r0 : rd hh w.wb 0 = some (.pointer none) := by rw [rd_own Pw]; rfl
        have r1 : rd hh w.wb 1 = some ((Value.pointer (some ⟨w.kb, 0, none⟩))) := by rw [rd_own Pw]; rfl
        simp only [go_sem, Nat.reduceAdd, Nat.reduceLeDiff, Nat.reduceMul, Int.reduceBEq, Int.reduceBNe, Int.reduceLT, Int.reduceLE, Int.reduceGT, r0, aBin_neqN uTk, r1, aBin_neqP uGv, aBin_gtr, n6, e', aBin_add, wr]
        exact e2
    · have hst : w.st = .idle := by
        cases h : w.st with
        | idle => rfl
        | tk x y z => rw [h] at hb; exact absurd trivial hb
        | gv x y z => rw [h] at hb; exact absurd trivial hb
      exact stop (m + 1) r hh ws l c free B w hw hst P I
theorem end_all (s0 s6 s7 : Value) (h0 : Heap) (hro : md.ro ≤ h.length) (hlim : md.lim ≤ h.length) (hn : n ≤ 48) {W1 : Nat} (hW : W1 ≤ 8) : ∀ (m K : Nat) (hh : Heap) (ws : List Wk) (l c free : List Int) (B : Int), K + m = W1 → ws.length = W1 → (∀ j w, j < K → ws[j]? = some w → w.st = .idle) →
    Pg h hh a b p n av ws l c B → SI n B l ws free → 0 ≤ B → B + m * 5 < 40000 →
    ∃ hh' ws' l' c' free', J4_4 C md h0 s0 s6 s7 ((Value.pointer (some ⟨p, 0, none⟩))) av ((Value.int .i64 ((W1 : Int)))) ((Value.int .i64 ((K : Int)))) hh = J4_5 C md h0 s0 s6 s7 ((Value.pointer (some ⟨p, 0, none⟩))) hh' ∧
      Pg h hh' a b p n av ws' l' c' (B + m * 5) ∧ SI n (B + m * 5) l' ws' free' ∧ ws'.length = W1 ∧ ∀ w ∈ ws', w.st = .idle := by
  intro m
  induction m with
  | zero =>
    intro K hh ws l c free B hk hl hi P I hB0 hB
    obtain rfl : K = W1 := by omega
    refine ⟨hh, ws, l, c, free, ?_, by simpa using P, by simpa using I, hl, fun w hw => ?_⟩
    · rw [J4_4_step]
      unfold Jr4_4
      simp only [go_sem, Nat.reduceAdd, Nat.reduceLeDiff, Nat.reduceMul, Int.reduceBEq, Int.reduceBNe, Int.reduceLT, Int.reduceLE, Int.reduceGT, aBin_lss, Int.lt_irrefl, Jk4_4]
    · obtain ⟨j, hj⟩ := List.mem_iff_getElem?.1 hw
      exact hi j w (by have := (List.getElem?_eq_some_iff.1 hj).1; omega) hj
  | succ m ih =>
    intro K hh ws l c free B hk hl hi P I hB0 hB
    have hlt : (K : Int) < (W1 : Int) := by omega
    obtain ⟨w, hw⟩ : ∃ w, ws[K]? = some w := ⟨ws[K]'(by omega), List.getElem?_eq_getElem (by omega)⟩
    obtain ⟨ip, rp⟩ := Sl.pread P.AL.sl (i := (K : Int)) (x := w.wb) (by omega) (by rw [Int.toNat_natCast, List.getElem?_map, hw]; rfl)
    rw [Int.toNat_natCast] at rp
    simp only [Int.toNat_natCast] at ip
    obtain ⟨hh2, ws2, l2, c2, free2, w2, e2, P2, I2, q3, q4, q5, q6⟩ := end_one (md := md) s0 s6 s7 av (W1 := W1) (K := K) (by omega) hro hlim hn 5 0 hh ws l c free B w hw (alone5_le _ _) (by omega) P I hB0 (by omega)
    obtain ⟨hh3, ws3, l3, c3, free3, e3, P3, I3, q7, q8⟩ := ih (K + 1) hh2 ws2 l2 c2 free2 (B + 5) (by omega) (by rw [q3]; exact hl) (fun j u hj hu => by
      by_cases e : j = K
      · subst e
        rw [q4] at hu
        rw [← Option.some.inj hu]; exact q5
      · rw [q6 j e] at hu
        exact hi j u (by omega) hu) P2 I2 (by omega) (by omega)
    have eB : B + ((m + 1 : Nat) : Int) * 5 = B + 5 + (m : Int) * 5 := by omega
    refine ⟨hh3, ws3, l3, c3, free3, ?_, by rw [eB]; exact P3, by rw [eB]; exact I3, q7, q8⟩
    rw [J4_4_step]
    unfold Jr4_4
    simp only [go_sem, Nat.reduceAdd, Nat.reduceLeDiff, Nat.reduceMul, Int.reduceBEq, Int.reduceBNe, Int.reduceLT, Int.reduceLE, Int.reduceGT, aBin_lss, hlt, ip, rp]
    simp only [Int.natCast_zero] at e2
    rw [e2]
    exact e3
end Go.Det.E
/- Of any number of workers that take and give: no slot is taken twice at one time; behind all that goes on, free slots and taken ones are all, each once. -/
namespace Go.Det.E
open Go.Proofs Go.Det
attribute [local congr] bind_c cond_c
variable {md : Md} {h hh h' : Heap} {a b p n : Nat} {l c picks free : List Int} {B : Int} {av v : Value} {ws : List Wk} {W : Nat}
/-- How often each number is in a list. -/
def Ct (n : Nat) (zs pre : List Int) : Prop := zs.length = n ∧ ∀ i : Nat, i < n → zs[i]? = some ((pre.count (i : Int) : Nat) : Int)
theorem ct_write {sv : Value} {n0 : Nat} {zs pre : List Int} {x : Int} (S : SlO hh n0 1 encI sv zs) (Q : Ct n zs pre) (hro : md.ro ≤ n0) (hx : 0 ≤ x ∧ x < (n : Int)) :
    ∃ h' zs', (∀ {α : Type} (kk : Value → Option α), ixS 1 sv x kk = kk ((Value.pointer (some ⟨slB sv, slO sv + x.toNat, none⟩)))) ∧ rd hh (slB sv) (slO sv + x.toNat) = some ((Value.int .i64 (((pre.count x : Nat) : Int)))) ∧
      wrN md hh (slB sv) (slO sv + x.toNat) [(Value.int .i64 (((pre.count x : Nat) : Int) + 1))] = some h' ∧ SlO h' n0 1 encI sv zs' ∧ Ct n zs' (pre ++ [x]) ∧ (∀ y, y ≠ slB sv → h'[y]? = hh[y]?) ∧ h'.length = hh.length ∧ n0 ≤ slB sv := by
  obtain ⟨q1, q2⟩ := Q
  have ex : ((x.toNat : Nat) : Int) = x := by omega
  have hz : zs[x.toNat]? = some (((pre.count x : Nat) : Int)) := by rw [q2 x.toNat (by omega), ex]
  obtain ⟨ix, el⟩ := Sl.read S.sl (i := x) hx.1 hz
  obtain ⟨h', w', S', f', l', g'⟩ := S.write (md := md) hro hz (j := 0) (x' := ((pre.count x : Nat) : Int) + 1) (w := (Value.int .i64 (((pre.count x : Nat) : Int) + 1))) (by decide) rfl rfl
  rw [Nat.mul_one, Nat.add_zero] at w'
  refine ⟨h', _, ix, el, w', S', ⟨by simp [q1], fun i hi => ?_⟩, f', l', g'⟩
  by_cases e : x.toNat = i
  · subst e
    rw [List.getElem?_set_self (by omega), ex, List.count_append]
    simp
  · rw [List.getElem?_set_ne e, q2 i hi, List.count_append]
    have : ¬ x = (i : Int) := by omega
    simp [this]
theorem ct_free {fv sv s6 s8 : Value} {n0 n1 : Nat} (hro : md.ro ≤ n0) (hin : ∀ x ∈ free, 0 ≤ x ∧ x < (n : Int)) (hlen : free.length < 1000) (hne : fv = .slice none 0 0 ∨ slB fv ≠ slB sv) (h0 : Heap) : ∀ (rest pre : List Int) (hh : Heap) (zs : List Int), pre ++ rest = free → SlO hh n1 1 encI fv free → SlO hh n0 1 encI sv zs → Ct n zs pre →
    ∃ h' zs', J4_6 C md h0 s6 s8 sv fv ((Value.int .i64 ((free.length : Int)))) ((Value.int .i64 ((pre.length : Int)))) hh = J4_7 C md h0 s6 s8 sv h' ∧ SlO h' n0 1 encI sv zs' ∧ Ct n zs' free ∧ (∀ y, y ≠ slB sv → h'[y]? = hh[y]?) ∧ h'.length = hh.length := by
  intro rest
  induction rest with
  | nil =>
    intro pre hh zs e F S Q
    rw [List.append_nil] at e
    subst e
    refine ⟨hh, zs, ?_, S, Q, fun _ _ => rfl, rfl⟩
    rw [J4_6_step]
    unfold Jr4_6
    simp only [go_sem, Nat.reduceAdd, Nat.reduceLeDiff, Nat.reduceMul, Int.reduceBEq, Int.reduceBNe, Int.reduceLT, Int.reduceLE, Int.reduceGT, aBin_lss, Int.lt_irrefl, Jk4_6]
  | cons x rest ih =>
    intro pre hh zs e F S Q
    have hx : free[pre.length]? = some x := by rw [← e]; simp
    have hlt : (pre.length : Int) < (free.length : Int) := by have := (List.getElem?_eq_some_iff.1 hx).1; omega
    have hpl : pre.count x ≤ pre.length := List.count_le_length
    obtain ⟨ix, el⟩ := Sl.readn F.sl hx
    obtain ⟨h2, z2, i2, r2, s2, S2, Q2, f2, l2, g2⟩ := ct_write (md := md) S Q hro (hin x (by rw [← e]; simp))
    have w : IntKind.wrap .i64 ((pre.length : Int) + 1) = ((pre.length + 1 : Nat) : Int) := by rw [wi (by omega) (by omega)]; rfl
    have w2 : IntKind.wrap .i64 (((pre.count x : Nat) : Int) + 1) = ((pre.count x : Nat) : Int) + 1 := wi (by omega) (by omega)
    obtain ⟨h', z', e', S', Q', f', l'⟩ := ih (pre ++ [x]) h2 z2 (by rw [← e]; simp) (F.keep (hne.imp id fun q => f2 _ q)) S2 Q2
    refine ⟨h', z', ?_, S', Q', fun y hy => (f' y hy).trans (f2 y hy), l'.trans l2⟩
    rw [J4_6_step]
    unfold Jr4_6
    simp only [go_sem, Nat.reduceAdd, Nat.reduceLeDiff, Nat.reduceMul, Int.reduceBEq, Int.reduceBNe, Int.reduceLT, Int.reduceLE, Int.reduceGT, aBin_lss, hlt, ix, el, i2, r2, w2, s2, aBin_add, w]
    simpa using e'
theorem ct_has {hv sv s6 s164 : Value} {n0 n1 W1 K : Nat} {has pre0 : List Int} (hro : md.ro ≤ n0) (hin : ∀ x ∈ has, 0 ≤ x ∧ x < (n : Int)) (hlen : has.length < 1000) (hl0 : pre0.length < 1000) (hK : K < 1000) (hne : hv = .slice none 0 0 ∨ slB hv ≠ slB sv) : ∀ (rest pre : List Int) (hh : Heap) (zs : List Int), pre ++ rest = has → SlO hh n1 1 encI hv has → SlO hh n0 1 encI sv zs → Ct n zs (pre0 ++ pre) →
    ∃ h' zs', J4_8b0 C md s6 sv s164 ((Value.int .i64 ((W1 : Int)))) ((Value.int .i64 ((K : Int)))) hv ((Value.int .i64 ((has.length : Int)))) ((Value.int .i64 ((pre.length : Int)))) hh = some (.inl ((s6, sv, s164, (Value.int .i64 ((W1 : Int))), (Value.int .i64 (((K + 1 : Nat) : Int)))), h')) ∧ SlO h' n0 1 encI sv zs' ∧ Ct n zs' (pre0 ++ has) ∧ (∀ y, y ≠ slB sv → h'[y]? = hh[y]?) ∧ h'.length = hh.length := by
  have wK : IntKind.wrap .i64 ((K : Int) + 1) = ((K + 1 : Nat) : Int) := by rw [wi (by omega) (by omega)]; rfl
  intro rest
  induction rest with
  | nil =>
    intro pre hh zs e F S Q
    rw [List.append_nil] at e
    subst e
    refine ⟨hh, zs, ?_, S, Q, fun _ _ => rfl, rfl⟩
    rw [J4_8b0_step]
    unfold Jr4_8b0
    simp only [go_sem, Nat.reduceAdd, Nat.reduceLeDiff, Nat.reduceMul, Int.reduceBEq, Int.reduceBNe, Int.reduceLT, Int.reduceLE, Int.reduceGT, aBin_lss, Int.lt_irrefl, Jk4_8b0, aBin_add, wK]
  | cons x rest ih =>
    intro pre hh zs e F S Q
    have hx : has[pre.length]? = some x := by rw [← e]; simp
    have hlt : (pre.length : Int) < (has.length : Int) := by have := (List.getElem?_eq_some_iff.1 hx).1; omega
    have hpl : (pre0 ++ pre).count x ≤ (pre0 ++ pre).length := List.count_le_length
    rw [List.length_append] at hpl
    obtain ⟨ix, el⟩ := Sl.readn F.sl hx
    obtain ⟨h2, z2, i2, r2, s2, S2, Q2, f2, l2, g2⟩ := ct_write (md := md) S Q hro (hin x (by rw [← e]; simp))
    have w : IntKind.wrap .i64 ((pre.length : Int) + 1) = ((pre.length + 1 : Nat) : Int) := by rw [wi (by omega) (by omega)]; rfl
    have w2 : IntKind.wrap .i64 ((((pre0 ++ pre).count x : Nat) : Int) + 1) = (((pre0 ++ pre).count x : Nat) : Int) + 1 := wi (by omega) (by omega)
    obtain ⟨h', z', e', S', Q', f', l'⟩ := ih (pre ++ [x]) h2 z2 (by rw [← e]; simp) (F.keep (hne.imp id fun q => f2 _ q)) S2 (by rw [← List.append_assoc]; exact Q2)
    refine ⟨h', z', ?_, S', Q', fun y hy => (f' y hy).trans (f2 y hy), l'.trans l2⟩
    rw [J4_8b0_step]
    unfold Jr4_8b0
    simp only [go_sem, Nat.reduceAdd, Nat.reduceLeDiff, Nat.reduceMul, Int.reduceBEq, Int.reduceBNe, Int.reduceLT, Int.reduceLE, Int.reduceGT, aBin_lss, hlt, ix, el, i2, r2, w2, s2, aBin_add, w]
    simpa using e'
theorem ct_all {sv s6 : Value} {n0 : Nat} {g0 : Heap} (P : Pg h g0 a b p n av ws l c B) (hn : n ≤ 48) (I : SI n B l ws free) (hW : ws.length ≤ 8) (hro : md.ro ≤ n0) (hg : g0.length ≤ slB sv) (h0 : Heap) : ∀ (rest pre : List Wk) (hh : Heap) (zs : List Int), pre ++ rest = ws → OG a b g0 hh → Ar hh a b l c → SlO hh n0 1 encI sv zs → Ct n zs (free ++ pre.flatMap (·.has)) →
    ∃ h' zs', J4_8 C md h0 s6 sv av ((Value.int .i64 ((ws.length : Int)))) ((Value.int .i64 ((pre.length : Int)))) hh = J4_9 C md h0 s6 sv h' ∧ SlO h' n0 1 encI sv zs' ∧ Ct n zs' (free ++ ws.flatMap (·.has)) := by
  intro rest
  induction rest with
  | nil =>
    intro pre hh zs e O A S Q
    rw [List.append_nil] at e
    subst e
    refine ⟨hh, zs, ?_, S, Q⟩
    rw [J4_8_step]
    unfold Jr4_8
    simp only [go_sem, Nat.reduceAdd, Nat.reduceLeDiff, Nat.reduceMul, Int.reduceBEq, Int.reduceBNe, Int.reduceLT, Int.reduceLE, Int.reduceGT, aBin_lss, Int.lt_irrefl, Jk4_8]
  | cons w rest ih =>
    intro pre hh zs e O A S Q
    have P' := P.og A P.C (Int.le_refl _) O
    have hw : ws[pre.length]? = some w := by rw [← e]; simp
    have hlt : (pre.length : Int) < (ws.length : Int) := by have := (List.getElem?_eq_some_iff.1 hw).1; omega
    obtain ⟨ip, rp⟩ := Sl.pread P'.AL.sl (i := (pre.length : Int)) (x := w.wb) (by omega) (by rw [Int.toNat_natCast, List.getElem?_map, hw]; rfl)
    rw [Int.toNat_natCast] at rp
    simp only [Int.toNat_natCast] at ip
    have Pw := P'.oks pre.length w hw
    have rh := wk_has Pw
    have len := fun {α : Type} (kk : Value → Option α) => Pw.H.sl.len kk
    have hall : (free ++ pre.flatMap (·.has)).length < 1000 := by
      have h1 := I.perm.length_eq
      rw [← e] at h1
      simp only [List.flatMap_append, List.length_append, List.length_map, List.length_range] at h1
      have h2 : ∀ ws : List Wk, (ws.flatMap (·.has)).length ≤ (ws.flatMap own).length := by
        intro ws
        induction ws with
        | nil => simp
        | cons u us ih => simp only [List.flatMap_cons, List.length_append, own]; omega
      have := h2 pre
      rw [List.length_append]
      omega
    have hvlo := (P.oks pre.length w hw).H.lo
    obtain ⟨h2, z2, e2, S2, Q2, f2, l2⟩ := ct_has (md := md) (n := n) (s6 := s6) (s164 := av) (W1 := ws.length) (K := pre.length) hro (fun x hx => Pw.R x hx) (by have := has_len I hw; omega) hall (by omega) (hvlo.imp id fun q => by omega) w.has [] hh zs rfl Pw.H S (by simpa using Q)
    have ol := O.len
    have lta := lt_of P.A.ha
    have ltb := lt_of P.A.hb
    have O2 : OG a b g0 h2 := ⟨by omega, fun y h1 h2 h3 => by rw [f2 y (by omega)]; exact O.oth y h1 h2 h3⟩
    obtain ⟨h3, z3, e3, S3, Q3⟩ := ih (pre ++ [w]) h2 z2 (by rw [← e]; simp) O2 (A.same (f2 a (by omega)) (f2 b (by omega))) S2 (by simpa using Q2)
    refine ⟨h3, z3, ?_, S3, Q3⟩
    rw [J4_8_step]
    unfold Jr4_8
    simp only [List.length_nil, Int.natCast_zero] at e2
    simp only [go_sem, Nat.reduceAdd, Nat.reduceLeDiff, Nat.reduceMul, Int.reduceBEq, Int.reduceBNe, Int.reduceLT, Int.reduceLE, Int.reduceGT, aBin_lss, hlt, ip, rp, rh, len]
    rw [e2]
    simpa using e3
theorem ct_ok {sv s6 : Value} {n0 : Nat} {zs : List Int} (S : SlO hh n0 1 encI sv zs) (hz : ∀ x ∈ zs, x = 1) (hlen : zs.length < 1000) : ∀ (m k : Nat), k + m = zs.length →
    ∃ g, J4_10 C md h s6 sv ((Value.int .i64 ((zs.length : Int)))) ((Value.int .i64 ((k : Int)))) hh = some ((Value.bool true), g) := by
  intro m
  induction m with
  | zero =>
    intro k hk
    obtain rfl : k = zs.length := by omega
    refine ⟨hh.take h.length, ?_⟩
    rw [J4_10_step]
    unfold Jr4_10
    simp only [go_sem, Nat.reduceAdd, Nat.reduceLeDiff, Nat.reduceMul, Int.reduceBEq, Int.reduceBNe, Int.reduceLT, Int.reduceLE, Int.reduceGT, aBin_lss, Int.lt_irrefl, Jk4_10, awake07]
  | succ m ih =>
    intro k hk
    obtain ⟨x, hx⟩ : ∃ x, zs[k]? = some x := ⟨zs[k]'(by omega), List.getElem?_eq_getElem (by omega)⟩
    have hlt : (k : Int) < (zs.length : Int) := by omega
    obtain ⟨ix, el⟩ := Sl.readn S.sl hx
    have w : IntKind.wrap .i64 ((k : Int) + 1) = ((k + 1 : Nat) : Int) := by rw [wi (by omega) (by omega)]; rfl
    have x1 := hz x (List.mem_of_getElem? hx)
    obtain ⟨g, eg⟩ := ih (k + 1) (by omega)
    refine ⟨g, ?_⟩
    rw [J4_10_step]
    unfold Jr4_10
    simp only [go_sem, Nat.reduceAdd, Nat.reduceLeDiff, Nat.reduceMul, Int.reduceBEq, Int.reduceBNe, Int.reduceLT, Int.reduceLE, Int.reduceGT, aBin_lss, hlt, ix, el, x1, aBin_add, w]
    simpa using eg
end Go.Det.E

/- Of any number of workers that take and give, in any order of steps: the law. -/
namespace Go.Det.E
open Go.Proofs Go.Det
attribute [local congr] bind_c cond_c
variable {md : Md} {h hh h' : Heap} {a b p n : Nat} {l c picks free : List Int} {B : Int} {av v : Value} {ws : List Wk} {W : Nat}
theorem repL_i64 (n : Nat) : repL n [(Value.int .i64 0)] = (List.replicate n (0 : Int)).map (.int .i64) := by
  induction n with
  | zero => rfl
  | succ n ih => simp only [repL, ih, List.replicate_succ, List.map_cons]; rfl
theorem mixed_fill (s0 s6 s7 : Value) (hB : 0 ≤ B) (hW : W ≤ 8) : ∀ (m k : Nat) (hh : Heap) (av : Value) (ws : List Wk), k + m = W → Pg (h ++ [ly n]) hh a b p n av ws l c B → ws.length = k → (∀ w ∈ ws, w.st = .idle ∧ w.has = []) →
    ∃ av' hf wsf, J4_0 C ⟨0, h.length⟩ h s0 ((Value.int .i64 ((W : Int)))) v s6 s7 ((Value.pointer (some ⟨p, 0, none⟩))) ((Value.int .i64 ((W : Int)))) ((Value.int .i64 ((k : Int)))) hh = J4_1 C ⟨0, h.length⟩ h s0 ((Value.int .i64 ((W : Int)))) v s6 s7 ((Value.pointer (some ⟨p, 0, none⟩))) hf ∧ Pg (h ++ [ly n]) hf a b p n av' wsf l c B ∧ wsf.length = W ∧ (∀ w ∈ wsf, w.st = .idle ∧ w.has = []) := by
  intro m
  induction m with
  | zero =>
    intro k hh av ws hk P hl hi
    obtain rfl : k = W := by omega
    refine ⟨av, hh, ws, ?_, P, hl, hi⟩
    rw [J4_0_step]
    unfold Jr4_0
    simp only [go_sem, Nat.reduceAdd, Nat.reduceLeDiff, Nat.reduceMul, Int.reduceBEq, Int.reduceBNe, Int.reduceLT, Int.reduceLE, Int.reduceGT, aBin_lss, Int.lt_irrefl, Jk4_0]
  | succ m ih =>
    intro k hh av ws hk P hl hi
    have hlt : (k : Int) < (W : Int) := by omega
    have w : IntKind.wrap .i64 ((k : Int) + 1) = ((k + 1 : Nat) : Int) := by rw [wi (by omega) (by omega)]; rfl
    have r4 : rd hh p 4 = some av := by rw [rd_own P.hp]; rfl
    obtain ⟨v2, h2, h3, ea, es, P3, _⟩ := pg_add (md := ⟨0, h.length⟩) (Nat.zero_le _) (by simp) P hB (by omega)
    obtain ⟨av', hf, wsf, e', P', hl', hi'⟩ := ih (k + 1) h3 v2 _ (by omega) P3 (by simp; omega) (by
      intro u hu
      rcases List.mem_append.1 hu with h | h
      · exact hi u h
      · simp only [List.mem_singleton] at h; subst h; exact ⟨rfl, rfl⟩)
    refine ⟨av', hf, wsf, ?_, P', hl', hi'⟩
    rw [J4_0_step]
    unfold Jr4_0
    simp only [go_sem, Nat.reduceAdd, Nat.reduceLeDiff, Nat.reduceMul, Int.reduceBEq, Int.reduceBNe, Int.reduceLT, Int.reduceLE, Int.reduceGT, aBin_lss, hlt, r4, ea, es, aBin_add, w]
    exact e'
theorem mixed_loop (SV : Sl h 1 encI v picks) (hlen : picks.length ≤ 200) (hn : n ≤ 48) (s6 : Value) (hW : 1 ≤ W ∧ W ≤ 8) : ∀ (m k : Nat) (hh : Heap) (ws : List Wk) (l c free : List Int) (B : Int), k + m = picks.length → Pg (h ++ [ly n]) hh a b p n av ws l c B → ws.length = W → SI n B l ws free → 0 ≤ B → B + m ≤ 20000 →
    ∃ hf wsf lf cf ff, J4_2 C ⟨0, h.length⟩ h ((Value.int .i64 ((n : Int)))) ((Value.int .i64 ((W : Int)))) s6 ((Value.pointer (some ⟨h.length, 0, none⟩))) ((Value.pointer (some ⟨p, 0, none⟩))) v ((Value.int .i64 ((picks.length : Int)))) ((Value.int .i64 ((k : Int)))) hh = J4_3 C ⟨0, h.length⟩ h ((Value.int .i64 ((n : Int)))) s6 ((Value.pointer (some ⟨h.length, 0, none⟩))) ((Value.pointer (some ⟨p, 0, none⟩))) hf ∧
      Pg (h ++ [ly n]) hf a b p n av wsf lf cf (B + m) ∧ wsf.length = W ∧ SI n (B + m) lf wsf ff := by
  intro m
  induction m with
  | zero =>
    intro k hh ws l c free B hk P hl I hB0 hB
    obtain rfl : k = picks.length := by omega
    refine ⟨hh, ws, l, c, free, ?_, by simpa using P, hl, by simpa using I⟩
    rw [J4_2_step]
    unfold Jr4_2
    simp only [go_sem, Nat.reduceAdd, Nat.reduceLeDiff, Nat.reduceMul, Int.reduceBEq, Int.reduceBNe, Int.reduceLT, Int.reduceLE, Int.reduceGT, aBin_lss, Int.lt_irrefl, Jk4_2]
  | succ m ih =>
    intro k hh ws l c free B hk P hl I hB0 hB
    have eB : B + ((m + 1 : Nat) : Int) = B + 1 + (m : Int) := by omega
    have hlt : (k : Int) < (picks.length : Int) := by omega
    obtain ⟨x, hx⟩ : ∃ x, picks[k]? = some x := ⟨picks[k]'(by omega), List.getElem?_eq_getElem (by omega)⟩
    have S0 : Sl hh 1 encI v picks := SV.heap fun hl => (P.O.old _ (by simp; omega)).trans (List.getElem?_append_left hl)
    obtain ⟨ix, el⟩ := Sl.readn S0 hx
    have w : IntKind.wrap .i64 ((k : Int) + 1) = ((k + 1 : Nat) : Int) := by rw [wi (by omega) (by omega)]; rfl
    by_cases hneg : x < 0
    · obtain ⟨hf, wsf, lf, cf, ff, eg, Pf, lwf, If⟩ := ih (k + 1) hh ws l c free (B + 1) (by omega) (P.og P.A (c5_mono P.C (by omega)) (by omega) OG.refl) hl (I.mono (by omega)) (by omega) (by omega)
      refine ⟨hf, wsf, lf, cf, ff, ?_, by rw [eB]; exact Pf, lwf, by rw [eB]; exact If⟩
      rw [J4_2_step]
      unfold Jr4_2
      simp only [go_sem, Nat.reduceAdd, Nat.reduceLeDiff, Nat.reduceMul, Int.reduceBEq, Int.reduceBNe, Int.reduceLT, Int.reduceLE, Int.reduceGT, aBin_lss, hlt, ix, el, hneg, aBin_add, w]
      exact eg
    · have hW0 : (W : Int) ≠ 0 := by omega
      have tm : Int.tmod x W = x % W := Int.tmod_eq_emod_of_nonneg (by omega)
      have m0 : 0 ≤ x % (W : Int) := Int.emod_nonneg _ hW0
      have m1 : x % (W : Int) < W := Int.emod_lt_of_pos _ (by omega)
      obtain ⟨wk, hwk⟩ : ∃ wk, ws[(x % (W : Int)).toNat]? = some wk := ⟨ws[(x % (W : Int)).toNat]'(by omega), List.getElem?_eq_getElem (by omega)⟩
      have rav : rd hh p 4 = some av := by rw [rd_own P.hp]; rfl
      obtain ⟨ip, rp⟩ := Sl.pread P.AL.sl (i := x % (W : Int)) (x := wk.wb) m0 (by rw [List.getElem?_map, hwk]; rfl)
      obtain ⟨h', w', e', q1, q2, P', V'⟩ := pg_step (md := ⟨0, h.length⟩) (Nat.zero_le _) (by simp) P hn (by omega) hwk (by have := has_len I hwk; omega) (Int.tmod (IntKind.wrap .i64 (Int.tdiv x W)) 2 == 1)
      obtain ⟨free', I'⟩ := si_step (c := c) I P.M hn ⟨hB0, by omega⟩ hwk (Int.tmod (IntKind.wrap .i64 (Int.tdiv x W)) 2 == 1) V' q1.1 q1.2
      have hsl : (ws.set (x % (W : Int)).toNat w').length = W := by simpa using hl
      have two : (2 : Int) ≠ 0 := by decide
      have ea := apart_e7 (md := ⟨0, h.length⟩) P' I' hn (by omega) (Nat.zero_le _)
      obtain ⟨hf, wsf, lf, cf, ff, eg, Pf, lwf, If⟩ := ih (k + 1) _ _ _ _ free' (B + 1) (by omega) P' hsl I' (by omega) (by omega)
      refine ⟨hf, wsf, lf, cf, ff, ?_, by rw [eB]; exact Pf, lwf, by rw [eB]; exact If⟩
      rw [J4_2_step]
      unfold Jr4_2
      simp only [go_sem, Nat.reduceAdd, Nat.reduceLeDiff, Nat.reduceMul, Int.reduceBEq, Int.reduceBNe, Int.reduceLT, Int.reduceLE, Int.reduceGT, aBin_lss, hlt, ix, el, hneg, rav, aBin_rem hW0, tm, ip, rp, aBin_quo hW0, aBin_rem two, aBin_eql, e', ea, aUn_not, aBin_add, w]
      exact eg
/-- The end: all that is free, and all that is taken, each once. -/
theorem mixed_end (P : Pg (h ++ [ly n]) hh a b p n av ws l c B) (I : SI n B l ws free) (hn : n ≤ 48) (hW : ws.length ≤ 8) (hid : ∀ w ∈ ws, w.st = .idle) (hB : 0 ≤ B ∧ B < 50000) (s6 : Value) :
    ∃ g, J4_5 C ⟨0, h.length⟩ h ((Value.int .i64 ((n : Int)))) s6 ((Value.pointer (some ⟨h.length, 0, none⟩))) ((Value.pointer (some ⟨p, 0, none⟩))) hh = some ((Value.bool true), g) := by
  have lo := P.O.len
  simp only [List.length_append, List.length_cons, List.length_nil] at lo
  have lta := lt_of P.A.ha
  have ltb := lt_of P.A.hb
  have ltp := lt_of P.hp
  have hm := fun (k : Value → Heap → Option (Value × Heap)) => make_p tInts (n := (n : Int)) (by omega) (Int.le_refl _) (by omega) (by omega) hh k
  simp only [repL_i64, Int.toNat_natCast] at hm
  obtain ⟨h1, e1⟩ : ∃ h1, h1 = hh ++ [Blk.own ((List.replicate n (0 : Int)).map (.int .i64))] := ⟨_, rfl⟩
  have o1 : OG a b hh h1 := by rw [e1]; exact OG.refl.app _
  have A1 : Ar h1 a b l c := by rw [e1]; exact P.A.app _
  have l1 : h1.length = hh.length + 1 := by rw [e1]; simp
  have sb1 : h1[hh.length]? = some (.own ((List.replicate n (0 : Int)).map (.int .i64))) := by rw [e1]; simp
  have r3 : rd h1 p 3 = some ((Value.pointer (some ⟨a, 0, none⟩))) := by rw [rd_own ((o1.oth p ltp P.pab.1 P.pab.2).trans P.hp)]; rfl
  have mo := fun (m : Md) => memof_s m h1 (lt_of A1.ha)
  have rq : rdN h1 h.length 0 3 = some [(Value.int .i64 1), (Value.int .i64 ((n : Int))), (Value.int .i64 1)] := by
    have gge := P.ge
    simp only [List.length_append, List.length_cons, List.length_nil] at gge
    have hq : h1[h.length]? = some (ly n) := by
      rw [o1.oth h.length (by omega) (by omega) (by omega), P.O.old h.length (by simp)]
      simp
    rw [rdN_own hq (by simp)]; rfl
  obtain ⟨fv, h2, c2, e2, S2, A2, o2, C2⟩ := list_c (md := ⟨0, h.length⟩) (rt1 hn) A1 P.M.w (Nat.zero_le _) (Nat.zero_le _) (by show h.length ≤ h1.length; omega) I.F I.len
  have hC2 := C2 B P.C (by have := I.len; omega)
  have l2 := o2.len
  have fvlo := S2.lo
  have lenF := fun {α : Type} (kk : Value → Option α) => S2.sl.len kk
  have sb2 := (o2.oth hh.length (by omega) (by omega) (by omega)).trans sb1
  have fl : flat encI (List.replicate n (0 : Int)) = (List.replicate n (0 : Int)).map (.int .i64) := by
    generalize List.replicate n (0 : Int) = zs
    induction zs with
    | nil => rfl
    | cons z zs ih => rw [flat_cons, ih]; rfl
  have SZ : SlO h2 hh.length 1 encI ((Value.slice (some ⟨hh.length, 0, none⟩) n 1)) (List.replicate n (0 : Int)) := by
    refine ⟨⟨encI_len, .inr ⟨hh.length, 0, _, by simp, sb2, ?_, by simp [Blk.cells]⟩⟩, .inr ⟨by simp [slB], _, sb2⟩⟩
    simp [Blk.cells, fl]
  have Q0 : Ct n (List.replicate n (0 : Int)) [] := ⟨by simp, fun i hi => by simp [hi]⟩
  obtain ⟨h3, z3, e3, S3, Q3, f3, l3⟩ := ct_free (md := ⟨0, h.length⟩) (n := n) (fv := fv) (s6 := s6) (s8 := (Value.pointer (some ⟨p, 0, none⟩))) (Nat.zero_le _) (fun y hy => I.in (List.mem_append.2 (.inl hy))) (by have := I.len; omega) (fvlo.imp id fun q => by show slB fv ≠ hh.length; omega) h free [] h2 _ rfl S2 SZ Q0
  have o3 : OG a b hh h3 := ⟨by omega, fun y h1 h2 h3' => by rw [f3 y (by show y ≠ hh.length; omega), o2.oth y (by omega) h2 h3', o1.oth y h1 h2 h3']⟩
  have A3 : Ar h3 a b l c2 := A2.same (f3 a (by show a ≠ hh.length; omega)) (f3 b (by show b ≠ hh.length; omega))
  have P0 := P.og (B' := B + 60) A3 (c5_mono hC2 (by have := I.len; omega)) (by omega) o3
  have r4 : rd h3 p 4 = some av := by rw [rd_own P0.hp]; rfl
  have lenA := fun {α : Type} (kk : Value → Option α) => P0.AL.sl.len kk
  simp only [List.length_map] at lenA
  -- all that workers have
  have P9 : Pg (h ++ [ly n]) (h3.take hh.length) a b p n av ws l c2 (B + 60) := by
    have e : ∀ y, y < hh.length → (h3.take hh.length)[y]? = h3[y]? := fun y hy => List.getElem?_take_of_lt hy
    exact P.og (A3.take lta ltb) (c5_mono hC2 (by have := I.len; omega)) (by omega) ⟨by simp; omega, fun y h1 h2 h3' => (e y h1).trans (o3.oth y h1 h2 h3')⟩
  obtain ⟨h4, z4, e4, S4, Q4⟩ := ct_all (md := ⟨0, h.length⟩) (sv := (Value.slice (some ⟨hh.length, 0, none⟩) n 1)) (s6 := s6) P9 hn (I.mono (B' := B + 60) (by omega)) hW (Nat.zero_le _) (by show (h3.take hh.length).length ≤ hh.length; simp; omega) h ws [] h3 z3 rfl
    ⟨by rw [List.length_take]; exact Nat.min_le_right _ _, fun y h1 h2 h3' => by rw [List.getElem?_take_of_lt (by simp at h1; omega)]⟩ A3 S3 (by simpa using Q3)
  have one : ∀ x ∈ z4, x = 1 := by
    intro x hx
    obtain ⟨i, hi⟩ := List.mem_iff_getElem?.1 hx
    have hil : i < n := by rw [← Q4.1]; exact (List.getElem?_eq_some_iff.1 hi).1
    rw [Q4.2 i hil] at hi
    have h1 := I.cnt (i : Int)
    have h2 : ws.flatMap own = ws.flatMap (·.has) := by
      have : ∀ us : List Wk, (∀ w ∈ us, w.st = .idle) → us.flatMap own = us.flatMap (·.has) := by
        intro us
        induction us with
        | nil => intro _; rfl
        | cons u us ih =>
          intro hu
          simp only [List.flatMap_cons, own, hu u (by simp), gof, List.append_nil]
          rw [ih fun w hw => hu w (by simp [hw])]
      exact this ws hid
    rw [h2, if_pos ⟨by omega, by omega⟩] at h1
    rw [List.count_append] at hi
    have := Option.some.inj hi
    omega
  obtain ⟨g, e5⟩ := ct_ok (md := ⟨0, h.length⟩) (h := h) (s6 := s6) S4 one (by rw [Q4.1]; omega) z4.length 0 (by omega)
  refine ⟨g, ?_⟩
  unfold J4_5
  simp only [hm, ← e1, go_sem, Nat.reduceAdd, Nat.reduceLeDiff, Nat.reduceMul, Int.reduceBEq, Int.reduceBNe, Int.reduceLT, Int.reduceLE, Int.reduceGT, r3, mo, rq, e2, lenF]
  simp only [List.length_nil, Int.natCast_zero] at e3 e4 e5
  rw [e3]
  unfold J4_7
  simp only [go_sem, Nat.reduceAdd, Nat.reduceLeDiff, Nat.reduceMul, Int.reduceBEq, Int.reduceBNe, Int.reduceLT, Int.reduceLE, Int.reduceGT, r4, lenA]
  rw [e4]
  unfold J4_9
  rw [Q4.1] at e5
  simp only [go_sem, Nat.reduceAdd, Nat.reduceLeDiff, Nat.reduceMul, Int.reduceBEq, Int.reduceBNe, Int.reduceLT, Int.reduceLE, Int.reduceGT]
  exact e5
theorem mixed_law7 : Law Try.prog cfg 4 [3, 3, 22] := by
  intro h avs ha
  obtain ⟨x, r, rfl, a0, ha⟩ := args_cons ha
  obtain ⟨y, r, rfl, a1, ha⟩ := args_cons ha
  obtain ⟨v, r, rfl, a2, ha⟩ := args_cons ha
  obtain rfl := args_nil ha
  obtain ⟨z, rfl, z0, z1⟩ := inI64 (arg1 (P := Try.prog) (by kernel_rfl) (by kernel_rfl) a0)
  obtain ⟨q, rfl, q0, q1⟩ := inI64 (arg1 (P := Try.prog) (by kernel_rfl) (by kernel_rfl) a1)
  obtain ⟨picks, SV, hm⟩ := arg_ints a2
  have len := fun {α : Type} (k : Value → Option α) => SV.len k
  rw [call_eq, F4_eq]
  unfold F4
  have st3 := fun (h' : Heap) (kk : Heap → Option (Value × Heap)) => st_N ⟨0, h.length⟩ 3 h.length 0 [(Value.int .i64 1), (Value.int .i64 z), (Value.int .i64 1)] h' kk rfl rfl
  by_cases hz : z < 0
  · exact ⟨(h ++ [Blk.own [(Value.int .i64 1), (Value.int .i64 z), (Value.int .i64 1)]]).take h.length, by simp only [go_sem, Nat.reduceAdd, Nat.reduceLeDiff, Nat.reduceMul, Int.reduceBEq, Int.reduceBNe, Int.reduceLT, Int.reduceLE, Int.reduceGT, hz, awake07]⟩
  by_cases hz2 : 48 < z
  · exact ⟨(h ++ [Blk.own [(Value.int .i64 1), (Value.int .i64 z), (Value.int .i64 1)]]).take h.length, by simp only [go_sem, Nat.reduceAdd, Nat.reduceLeDiff, Nat.reduceMul, Int.reduceBEq, Int.reduceBNe, Int.reduceLT, Int.reduceLE, Int.reduceGT, hz, aBin_gtr, hz2, awake07]⟩
  by_cases hq : q < 1
  · exact ⟨(h ++ [Blk.own [(Value.int .i64 1), (Value.int .i64 z), (Value.int .i64 1)]]).take h.length, by simp only [go_sem, Nat.reduceAdd, Nat.reduceLeDiff, Nat.reduceMul, Int.reduceBEq, Int.reduceBNe, Int.reduceLT, Int.reduceLE, Int.reduceGT, hz, aBin_gtr, hz2, aBin_lss, hq, awake07]⟩
  by_cases hq2 : 8 < q
  · exact ⟨(h ++ [Blk.own [(Value.int .i64 1), (Value.int .i64 z), (Value.int .i64 1)]]).take h.length, by simp only [go_sem, Nat.reduceAdd, Nat.reduceLeDiff, Nat.reduceMul, Int.reduceBEq, Int.reduceBNe, Int.reduceLT, Int.reduceLE, Int.reduceGT, hz, aBin_gtr, hz2, aBin_lss, hq, hq2, awake07]⟩
  by_cases h200 : (200 : Int) < picks.length
  · exact ⟨(h ++ [Blk.own [(Value.int .i64 1), (Value.int .i64 z), (Value.int .i64 1)]]).take h.length, by simp only [go_sem, Nat.reduceAdd, Nat.reduceLeDiff, Nat.reduceMul, Int.reduceBEq, Int.reduceBNe, Int.reduceLT, Int.reduceLE, Int.reduceGT, hz, aBin_gtr, hz2, aBin_lss, hq, hq2, len, h200, awake07]⟩
  obtain ⟨n, rfl⟩ : ∃ n : Nat, z = n := ⟨z.toNat, by omega⟩
  obtain ⟨W, rfl⟩ : ∃ W : Nat, q = W := ⟨q.toNat, by omega⟩
  have hn : n ≤ 48 := by omega
  obtain ⟨h1, a, b, l, e1, A1, O1, la, lb, w1, hl1, F1, T1⟩ := begun07t (n := n) ⟨0, h.length⟩ (h ++ [Blk.own [(Value.int .i64 1), (Value.int .i64 ((n : Int))), (Value.int .i64 1)]]) hn (Nat.zero_le _) (by simp)
  simp only [List.length_append, List.length_cons, List.length_nil] at la lb O1
  have l1 := O1.len
  simp only [List.length_append, List.length_cons, List.length_nil] at l1
  have lta := lt_of A1.ha
  have ltb := lt_of A1.hb
  have q1' : h1[h.length]? = some (.own [(Value.int .i64 1), (Value.int .i64 ((n : Int))), (Value.int .i64 1)]) := (O1.old _ (by omega)).trans (by simp)
  have rL1 : rdN h1 h.length 0 3 = some [(Value.int .i64 1), (Value.int .i64 ((n : Int))), (Value.int .i64 1)] := by rw [rdN_own q1' (by simp)]; rfl
  have bP : ∀ {α : Type} (k : Value → Option α), aBuild Try.prog 47 [(0, (Value.agg #[(Value.int .i64 1), (Value.int .i64 ((n : Int))), (Value.int .i64 1)])), (1, (Value.pointer (some ⟨a, 0, none⟩)))] k = k ((Value.agg (List.toArray (plC n a (.slice none 0 0))))) := fun k => by kernel_rfl
  have fr : ∀ (xs : List Int) (nx : Int), Fr n 1 l nx xs → (∀ s ∈ xs, getI l (Ox n 1 s 0) ≤ n) ∧ nx ≤ n := by
    intro xs
    induction xs with
    | nil => intro nx hF; exact ⟨fun s hs => by simp at hs, by have : nx = 0 := hF; omega⟩
    | cons s xs ih =>
      intro nx hF
      obtain ⟨f1, f2, f3, f4⟩ := hF
      obtain ⟨g1, g2⟩ := ih _ f4
      refine ⟨fun t ht => ?_, by omega⟩
      rcases List.mem_cons.1 ht with rfl | ht
      · exact g2
      · exact g1 t ht
  obtain ⟨fr1, fr2⟩ := fr _ _ F1
  have M : Mem n l := ⟨w1, hl1, fr2, fun s h0 h1 => fr1 s (by
    rw [List.mem_map]
    exact ⟨s.toNat, List.mem_range.2 (by omega), by omega⟩)⟩
  have P : Pg (h ++ [ly n]) (h1 ++ [Blk.own (plC n a (.slice none 0 0))]) a b h1.length n (.slice none 0 0) [] l [0, if n = 0 then 1 else n + 2, 0, 0, 0] 60 := by
    refine ⟨A1.app _, M, ⟨_, _, _, _, _, rfl, by omega, by split <;> omega, by omega, by omega, rfl⟩, by simp, SlO.nil _ _ encP_len, fun i w h => by simp at h, fun i j w v _ h => by simp at h, fun i w h => by simp at h, .inl rfl, ⟨by omega, by omega⟩, ⟨by simp; omega, by simp; omega, by simp; omega⟩,
      ⟨by simp; omega, fun y hy => by
        have hy' : y < h.length + 1 := by simpa using hy
        rw [List.getElem?_append_left (by omega), O1.old y (by omega)]⟩, fun i w h => by simp at h⟩
  obtain ⟨av, h2, ws, e2, P2, hl2, hi2⟩ := mixed_fill (v := v) ((Value.int .i64 ((n : Int)))) ((Value.bool false)) ((Value.pointer (some ⟨h.length, 0, none⟩))) (by omega) (by omega : W ≤ 8) W 0 _ _ [] (by omega) P rfl (by simp)
  have I2 : SI n 60 l ws _ := SI.start F1 (by omega) hi2
  obtain ⟨h3, ws3, l3, c3, f3, eg, P3, hl3, I3⟩ := mixed_loop SV (by omega) hn ((Value.bool false)) ⟨by omega, by omega⟩ picks.length 0 h2 ws l _ _ 60 (by omega) P2 hl2 I2 (by omega) (by omega)
  have r4 : rd h3 h1.length 4 = some av := by rw [rd_own P3.hp]; rfl
  have rp3 : rd (h1 ++ [Blk.own (plC n a (.slice none 0 0))]) h1.length 3 = some ((Value.pointer (some ⟨a, 0, none⟩))) := by rw [rd_own P.hp]; rfl
  have lenA := fun {α : Type} (kk : Value → Option α) => P3.AL.sl.len kk
  simp only [List.length_map, hl3] at lenA
  obtain ⟨h4, ws4, l4, c4, f4, e4, P4, I4, hl4, hid⟩ := end_all (md := ⟨0, h.length⟩) ((Value.int .i64 ((n : Int)))) ((Value.bool false)) ((Value.pointer (some ⟨h.length, 0, none⟩))) h (Nat.zero_le _) (by simp) hn (W1 := W) (by omega) W 0 h3 ws3 l3 c3 f3 _ (by omega) hl3 (fun j w hj => by omega) P3 I3 (by omega) (by omega)
  obtain ⟨g, e5⟩ := mixed_end P4 I4 hn (by omega) hid ⟨by omega, by omega⟩ ((Value.bool false))
  have rr := fun (m : Md) (h : Heap) => refright_7 m h 1 (n : Int) 1
  have rt : Rt 1 (n : Int) 1 := rt1 hn
  have bL : ∀ {α : Type} (k : Value → Option α), aBuild Try.prog 43 [(0, (Value.int .i64 1)), (1, (Value.int .i64 ((n : Int)))), (2, (Value.int .i64 1))] k = k ((Value.agg #[(Value.int .i64 1), (Value.int .i64 ((n : Int))), (Value.int .i64 1)])) := fun k => by kernel_rfl
  refine ⟨g, ?_⟩
  simp only [go_sem, Nat.reduceAdd, Nat.reduceLeDiff, Nat.reduceMul, Int.reduceBEq, Int.reduceBNe, Int.reduceLT, Int.reduceLE, Int.reduceGT, hz, aBin_gtr, hz2, aBin_lss, hq, hq2, len, h200, bL, rr, rt, aUn_not, e1, rL1, cLE_t, bP, cells_agg, rp3, aBin_eqlP uPa]
  refine Eq.trans e2 ?_
  unfold J4_1
  simp only [go_sem, Nat.reduceAdd, Nat.reduceLeDiff, Nat.reduceMul, Int.reduceBEq, Int.reduceBNe, Int.reduceLT, Int.reduceLE, Int.reduceGT, len]
  refine Eq.trans eg ?_
  unfold J4_3
  simp only [go_sem, Nat.reduceAdd, Nat.reduceLeDiff, Nat.reduceMul, Int.reduceBEq, Int.reduceBNe, Int.reduceLT, Int.reduceLE, Int.reduceGT, r4, lenA]
  refine Eq.trans e4 ?_
  exact e5
end Go.Det.E
