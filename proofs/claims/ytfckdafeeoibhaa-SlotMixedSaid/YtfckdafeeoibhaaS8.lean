/- Workers that take and give: what one step of a program in progress leaves. -/
import Derived.Test.YtfckdafeeoibhaaS7
set_option autoImplicit false
set_option linter.unusedVariables false
set_option linter.unusedSimpArgs false
namespace Go.Det.E
open Go.Proofs Go.Det
attribute [local congr] bind_c cond_c
/-- What a step makes of cells, counts, the worker's state, what it has. -/
def Ws.act (n : Nat) (l c : List Int) (st : Ws) (has : List Int) : List Int × List Int × Ws × List Int :=
  match st with
  | .idle => (l, c, .idle, has)
  | .tk a hd nx =>
    if a = 0 then (l, up c 0, if getI l 1 % 65536 = 0 then .idle else .tk 1 (getI l 1) nx, has)
    else if a = 1 then (l, up c 0, .tk 2 hd (getI l (Ox n 1 (hd % 65536 - 1) 0)), has)
    else if getI l 1 = hd then (putI l 1 (withW hd nx), up c 2, .idle, has ++ [hd % 65536 - 1]) else (l, up c 3, .tk 0 hd nx, has)
  | .gv s a hd =>
    if a = 0 then (l, up c 0, .gv s 1 (getI l 1), has)
    else if a = 1 then (putI l (Ox n 1 s 0) (hd % 65536), up c 1, .gv s 2 hd, has)
    else if getI l 1 = hd then (putI l 1 (withW hd (s + 1)), up c 2, .idle, has) else (l, up c 3, .gv s 0 hd, has)
variable {md : Md} {h hh h' g : Heap} {a b k p n n0 : Nat} {l c : List Int} {B : Int} {w : Wk} {av : Value}
theorem WkOk.lt (P : WkOk hh n0 n a b p w) : ∀ y, wf w y → y < hh.length := by
  intro y hy
  rcases hy with rfl | ⟨hb, rfl⟩ | ⟨hn, rfl⟩
  · exact lt_of P.W
  · have := P.K
    unfold Wk.prog at this
    cases hs : w.st with
    | idle => rw [hs] at hb; exact hb.elim
    | tk x y z => rw [hs] at this; exact lt_of this
    | gv x y z => rw [hs] at this; exact lt_of this
  · exact (P.H.lo.resolve_left hn).2
theorem WkOk.ge (P : WkOk hh n0 n a b p w) : ∀ y, wf w y → n0 ≤ y := by
  intro y hy
  rcases hy with rfl | ⟨hb, rfl⟩ | ⟨hn, rfl⟩
  · exact P.gw
  · exact P.gk hb
  · exact (P.H.lo.resolve_left hn).1
theorem WkOk.keep (P : WkOk hh n0 n a b p w) (f : ∀ y, wf w y → h'[y]? = hh[y]?) : WkOk h' n0 n a b p w := by
  refine ⟨(f _ (.inl rfl)).trans P.W, ?_, P.H.keep ?_, P.gw, P.gk, P.dw, P.dk, P.dh, P.V, P.R, P.sz⟩
  · have := P.K
    unfold Wk.prog at this ⊢
    cases hs : w.st with
    | idle => trivial
    | tk x y z => rw [hs] at this; exact (f _ (.inr (.inl ⟨by rw [hs]; trivial, rfl⟩))).trans this
    | gv x y z => rw [hs] at this; exact (f _ (.inr (.inl ⟨by rw [hs]; trivial, rfl⟩))).trans this
  · by_cases hn : w.hv = .slice none 0 0
    · exact .inl hn
    · exact .inr (f _ (.inr (.inr ⟨hn, rfl⟩)))
/-- The same program goes on. -/
theorem WkOk.on (P : WkOk hh n0 n a b p w) {st' : Ws} (hb : w.st.busy) (hC : wkC { w with st := st' } = wkC w) (hb' : st'.busy) (hV : st'.ok n) (K : ({ w with st := st' } : Wk).prog h' n) (hw : h'[w.wb]? = hh[w.wb]?) (hh' : w.hv = .slice none 0 0 ∨ h'[slB w.hv]? = hh[slB w.hv]?) :
    WkOk h' n0 n a b p { w with st := st' } :=
  ⟨by rw [hC]; exact hw.trans P.W, K, P.H.keep hh', P.gw, fun _ => P.gk hb, P.dw, fun _ => P.dk hb, P.dh.imp id fun q => ⟨q.1, q.2.1, q.2.2.1, q.2.2.2.1, fun _ => q.2.2.2.2 hb⟩, hV, P.R, P.sz⟩
/-- Its program is over. -/
theorem WkOk.over (P : WkOk hh n0 n a b p w) {hv' : Value} {has' : List Int} (hw : h'[w.wb]? = some (.own [.pointer none, .pointer none, hv'])) (H : SlO h' n0 1 encI hv' has') (dh : hv' = .slice none 0 0 ∨ (slB hv' ≠ a ∧ slB hv' ≠ b ∧ slB hv' ≠ p ∧ slB hv' ≠ w.wb)) (R : ∀ x ∈ has', 0 ≤ x ∧ x < n) (sz : has'.length ≤ 1000) :
    WkOk h' n0 n a b p { w with st := .idle, hv := hv', has := has' } :=
  ⟨hw, trivial, H, P.gw, fun h => h.elim, P.dw, fun h => h.elim, dh.imp id fun q => ⟨q.1, q.2.1, q.2.2.1, q.2.2.2, fun h => h.elim⟩, trivial, R, sz⟩
theorem uTk : Try.prog.underlying 37 = some (.pointer 131) := by kernel_rfl
theorem uGv : Try.prog.underlying 33 = some (.pointer 126) := by kernel_rfl
/-- What a step of a program leaves, in all. -/
def Done (md : Md) (h hh : Heap) (a b p n n0 : Nat) (l c : List Int) (w : Wk) : Prop :=
  ∃ h' w', J27_0 C md h ((Value.pointer (some ⟨p, 0, none⟩))) ((Value.pointer (some ⟨w.wb, 0, none⟩))) hh = some ((Value.bool true), h') ∧ w'.st = (Ws.act n l c w.st w.has).2.2.1 ∧ w'.has = (Ws.act n l c w.st w.has).2.2.2 ∧ w'.wb = w.wb ∧ Ar h' a b (Ws.act n l c w.st w.has).1 (Ws.act n l c w.st w.has).2.1 ∧
    WkOk h' n0 n a b p w' ∧ hh.length ≤ h'.length ∧ (∀ y, y < hh.length → y ≠ a → y ≠ b → ¬ wf w y → h'[y]? = hh[y]?) ∧ (∀ y, wf w' y → wf w y ∨ hh.length ≤ y)
theorem act_tk {x hd nx : Int} (P : WkOk hh n0 n a b p w) (hst : w.st = .tk x hd nx) (M : Mem n l) (hn : n ≤ 48) (A : Ar hh a b l c) (hc : C5 B c) (hB : B < 100000) (hp : hh[p]? = some (.own (plC n a av))) (pa : p ≠ a) (pb : p ≠ b) (ga : n0 ≤ a) (gb : n0 ≤ b)
    (hro : md.ro ≤ n0) (hlim : md.lim ≤ n0) (hn0 : n0 ≤ hh.length) (hsz : w.has.length < 1000) : Done md h hh a b p n n0 l c w := by
  obtain ⟨c0, c1, c2, c3, c4, hcc⟩ : ∃ c0 c1 c2 c3 c4, c = [c0, c1, c2, c3, c4] := by obtain ⟨c0, c1, c2, c3, c4, e, _⟩ := hc; exact ⟨_, _, _, _, _, e⟩
  have hK := P.K
  have hW := P.W
  have hV := P.V
  have hbusy : w.st.busy := by rw [hst]; trivial
  obtain ⟨ka, kb', kp, kw⟩ := P.dk hbusy
  obtain ⟨wa, wb', wp⟩ := P.dw
  have gk := P.gk hbusy
  have gw := P.gw
  unfold Wk.prog at hK
  unfold wkC at hW
  rw [hst] at hK hW hV
  simp only at hK hW
  obtain ⟨⟨hd0, hd1⟩, ⟨nx0, nx1⟩, hx⟩ := hV
  have lta := lt_of A.ha
  have ltb := lt_of A.hb
  have ltp := lt_of hp
  have ltw := lt_of hW
  have ltk := lt_of hK
  have lth := P.H.lo
  have hcm : c.map (.int .i64) = [(Value.int .i64 c0), (Value.int .i64 c1), (Value.int .i64 c2), (Value.int .i64 c3), (Value.int .i64 c4)] := by rw [hcc]; rfl
  have ce := fun (m : Md) => counts_x (md := m) (hcc ▸ A)
  -- the counts' own block
  obtain ⟨g, eg⟩ : ∃ g, g = hh ++ [Blk.own (c.map (.int .i64))] := ⟨_, rfl⟩
  have lg : g.length = hh.length + 1 := by rw [eg]; simp
  have og : ∀ y, y < hh.length → g[y]? = hh[y]? := fun y hy => by rw [eg, List.getElem?_append_left hy]
  have gnb : g[hh.length]? = some (.own (c.map (.int .i64))) := by rw [eg]; simp
  have Ag := A.same (og a lta) (og b ltb)
  have kg := (og _ ltk).trans hK
  have wg := (og _ ltw).trans hW
  have pg := (og _ ltp).trans hp
  have wcb : wrN md (hh ++ [Blk.own [(Value.int .i64 0), (Value.int .i64 0), (Value.int .i64 0), (Value.int .i64 0), (Value.int .i64 0)]]) hh.length 0 [(Value.int .i64 c0), (Value.int .i64 c1), (Value.int .i64 c2), (Value.int .i64 c3), (Value.int .i64 c4)] = some g := by
    have h1 : md.ro ≤ hh.length := by omega
    have h2 : md.lim ≤ hh.length := by omega
    rw [eg, hcm]; simp only [go_sem, Nat.reduceAdd, Nat.reduceLeDiff, Nat.reduceMul, Int.reduceBEq, Int.reduceBNe, Int.reduceLT, Int.reduceLE, Int.reduceGT, h1, h2]
  have r3 : rd hh p 3 = some ((Value.pointer (some ⟨a, 0, none⟩))) := by rw [rd_own hp]; rfl
  have r3g : rd g p 3 = some ((Value.pointer (some ⟨a, 0, none⟩))) := by rw [rd_own pg]; rfl
  have r0g : rd g w.wb 0 = some ((Value.pointer (some ⟨w.kb, 0, none⟩))) := by rw [rd_own wg]; rfl
  have fin : ∀ (h5 : Heap) (d : List Int) (l5 : List Int), Ar h5 a b l5 d → C5 (B + 1) d → sm d = sm c + 1 → h5[p]? = some (.own (plC n a av)) → h5[hh.length]? = some (.own (c.map (.int .i64))) → n0 ≤ h5.length →
      J27_2 C md h ((Value.pointer (some ⟨p, 0, none⟩))) ((Value.pointer (some ⟨hh.length, 0, none⟩))) h5 = some ((Value.bool true), h5 ++ [Blk.own (d.map (.int .i64))]) := by
    intro h5 d l5 A5 hd5 hs hp5 hnb5 hl5
    have hcB : C5 (B + 1) c := by
      obtain ⟨c0, c1, c2, c3, c4, e, q0, q1, q2, q3, q4⟩ := hc
      exact ⟨c0, c1, c2, c3, c4, e, by omega, by omega, by omega, by omega, q4⟩
    exact count_s hp5 A5 hcB hd5 (by omega) hs hnb5 (by omega) (by omega)
  have i1 := M.i1
  by_cases hx0 : x = 0
  · subst hx0
    obtain ⟨h6, e6, A6, k6, l6, f6⟩ := tstep0 (md := md) Ag M.w (by omega) (by omega) ka kb' kg
    rw [cL_in i1] at A6
    obtain ⟨u1, u2, _⟩ := c5_up hc (by omega) (j := 0) (by omega)
    have p6 : h6[p]? = some (.own (plC n a av)) := (f6 p pa pb (fun e => kp e.symm)).trans pg
    have nb6 : h6[hh.length]? = some (.own (c.map (.int .i64))) := (f6 _ (by omega) (by omega) (by omega)).trans gnb
    have w6 : h6[w.wb]? = g[w.wb]? := f6 _ wa wb' (fun e => kw e.symm)
    have hv6 : w.hv = .slice none 0 0 ∨ h6[slB w.hv]? = hh[slB w.hv]? := by
      rcases lth with e | q
      · exact .inl e
      · rcases P.dh with e | d
        · exact .inl e
        · exact .inr ((f6 _ d.1 d.2.1 (d.2.2.2.2 hbusy)).trans (og _ q.2))
    have gw1 := M.w.get 1
    have act : Ws.act n l c w.st w.has = (l, up c 0, if getI l 1 % 65536 = 0 then Ws.idle else .tk 1 (getI l 1) nx, w.has) := by rw [hst]; simp [Ws.act]
    unfold Done
    rw [act]
    by_cases hz : getI l 1 % 65536 = 0
    · have hzb : (getI l 1 % 65536 == 0) = true := by simp [hz]
      rw [hzb] at e6 k6
      have so := slot_of md gw1.1 gw1.2 k6
      have z2 : (getI l 1 % 65536 != 0) = false := by simp [hz]
      simp only [cond_true, z2, Bool.and_false, cond_false] at so
      have r0 : rd h6 w.wb 0 = some ((Value.pointer (some ⟨w.kb, 0, none⟩))) := by rw [rd_own (w6.trans wg)]; rfl
      obtain ⟨h7, w7, k7, l7, f7⟩ := put_l' (md := md) (w6.trans wg) (by omega) (by omega) 0 [.pointer none] [.pointer none, .pointer none, w.hv] (by simp) rfl
      have A7 := A6.same (f7 a wa.symm) (f7 b wb'.symm)
      have e8 := fin h7 _ _ A7 u1 u2 ((f7 p (Ne.symm wp)).trans p6) ((f7 _ (by omega)).trans nb6) (by omega)
      refine ⟨h7 ++ [Blk.own ((up c 0).map (.int .i64))], { w with st := .idle, hv := w.hv, has := w.has }, ?_, by rw [if_pos hz], rfl, rfl, A7.app _, ?_, by simp; omega, fun y hy ya yb yf => ?_, fun y hy => ?_⟩
      · unfold J27_0
        simp only [go_sem, Nat.reduceAdd, Nat.reduceLeDiff, Nat.reduceMul, Int.reduceBEq, Int.reduceBNe, Int.reduceLT, Int.reduceLE, Int.reduceGT, r3, ce, wcb, r0g, aBin_neqP uTk, r3g, e6, r0, so]
        unfold J27_1
        simp only [go_sem, Nat.reduceAdd, Nat.reduceLeDiff, Nat.reduceMul, Int.reduceBEq, Int.reduceBNe, Int.reduceLT, Int.reduceLE, Int.reduceGT, w7]
        exact e8
      · refine (P.over (h' := h7) (hv' := w.hv) (has' := w.has) k7 ?_ ?_ P.R P.sz).keep fun y hy => ?_
        · refine P.H.keep ?_
          rcases hv6 with e | q
          · exact .inl e
          · rcases P.dh with e | d
            · exact .inl e
            · exact .inr ((f7 _ d.2.2.2.1).trans q)
        · exact P.dh.imp id fun d => ⟨d.1, d.2.1, d.2.2.1, d.2.2.2.1⟩
        · rcases hy with rfl | ⟨q, _⟩ | ⟨q1, rfl⟩
          · exact List.getElem?_append_left (by show w.wb < h7.length; omega)
          · exact q.elim
          · exact List.getElem?_append_left (by have := (lth.resolve_left q1).2; show slB w.hv < h7.length; omega)
      · rw [List.getElem?_append_left (by omega), f7 y (fun e => yf (.inl e)), f6 y ya yb (fun e => yf (.inr (.inl ⟨hbusy, e⟩))), og y hy]
      · rcases hy with e | ⟨q, _⟩ | q
        · exact .inl (.inl e)
        · exact q.elim
        · exact .inl (.inr (.inr q))
    · have hzb : (getI l 1 % 65536 == 0) = false := by simp [hz]
      rw [hzb] at e6 k6
      have e8 := fin h6 _ _ A6 u1 u2 p6 nb6 (by omega)
      refine ⟨h6 ++ [Blk.own ((up c 0).map (.int .i64))], { w with st := .tk 1 (getI l 1) nx }, ?_, by rw [if_neg hz], rfl, rfl, A6.app _, ?_, by simp; omega, fun y hy ya yb yf => ?_, fun y hy => ?_⟩
      · unfold J27_0
        simp only [go_sem, Nat.reduceAdd, Nat.reduceLeDiff, Nat.reduceMul, Int.reduceBEq, Int.reduceBNe, Int.reduceLT, Int.reduceLE, Int.reduceGT, r3, ce, wcb, r0g, aBin_neqP uTk, r3g, e6]
        exact e8
      · refine (P.on (h' := h6) (st' := .tk 1 (getI l 1) nx) hbusy (by unfold wkC; rw [hst]) trivial ⟨gw1, ⟨nx0, nx1⟩, .inr ⟨.inl rfl, by omega, M.hd⟩⟩ k6 (w6.trans (og _ ltw)) hv6).keep fun y hy => ?_
        rcases hy with rfl | ⟨_, rfl⟩ | ⟨q1, rfl⟩
        · exact List.getElem?_append_left (by show w.wb < h6.length; omega)
        · exact List.getElem?_append_left (by show w.kb < h6.length; omega)
        · exact List.getElem?_append_left (by have := (lth.resolve_left q1).2; show slB w.hv < h6.length; omega)
      · rw [List.getElem?_append_left (by omega), f6 y ya yb (fun e => yf (.inr (.inl ⟨hbusy, e⟩))), og y hy]
      · rcases hy with e | ⟨_, e⟩ | q
        · exact .inl (.inl e)
        · exact .inl (.inr (.inl ⟨hbusy, e⟩))
        · exact .inl (.inr (.inr q))
  · obtain ⟨hx12, hf1, hf2⟩ := hx.resolve_left hx0
    by_cases hx1 : x = 1
    · subst hx1
      obtain ⟨h6, e6, A6, k6, l6, f6⟩ := tstep1 (md := md) (rt1 hn) Ag M.w (by omega) (by omega) ka kb' hd0 hd1 kg
      obtain ⟨ox, io⟩ := M.is (s := hd % 65536 - 1) (by omega) (by omega)
      rw [cL_in io] at A6
      obtain ⟨u1, u2, _⟩ := c5_up hc (by omega) (j := 0) (by omega)
      have p6 : h6[p]? = some (.own (plC n a av)) := (f6 p pa pb (fun e => kp e.symm)).trans pg
      have nb6 : h6[hh.length]? = some (.own (c.map (.int .i64))) := (f6 _ (by omega) (by omega) (by omega)).trans gnb
      have w6 : h6[w.wb]? = g[w.wb]? := f6 _ wa wb' (fun e => kw e.symm)
      have hv6 : w.hv = .slice none 0 0 ∨ h6[slB w.hv]? = hh[slB w.hv]? := by
        rcases lth with e | q
        · exact .inl e
        · rcases P.dh with e | d
          · exact .inl e
          · exact .inr ((f6 _ d.1 d.2.1 (d.2.2.2.2 hbusy)).trans (og _ q.2))
      have e8 := fin h6 _ _ A6 u1 u2 p6 nb6 (by omega)
      have act : Ws.act n l c w.st w.has = (l, up c 0, .tk 2 hd (getI l (Ox n 1 (hd % 65536 - 1) 0)), w.has) := by rw [hst]; simp [Ws.act]
      unfold Done
      rw [act]
      refine ⟨h6 ++ [Blk.own ((up c 0).map (.int .i64))], { w with st := .tk 2 hd (getI l (Ox n 1 (hd % 65536 - 1) 0)) }, ?_, rfl, rfl, rfl, A6.app _, ?_, by simp; omega, fun y hy ya yb yf => ?_, fun y hy => ?_⟩
      · unfold J27_0
        simp only [go_sem, Nat.reduceAdd, Nat.reduceLeDiff, Nat.reduceMul, Int.reduceBEq, Int.reduceBNe, Int.reduceLT, Int.reduceLE, Int.reduceGT, r3, ce, wcb, r0g, aBin_neqP uTk, r3g, e6]
        exact e8
      · refine (P.on (h' := h6) (st' := .tk 2 hd (getI l (Ox n 1 (hd % 65536 - 1) 0))) hbusy (by unfold wkC; rw [hst]) trivial ⟨⟨hd0, hd1⟩, M.w.get _, .inr ⟨.inr ⟨rfl, M.nx _ (by omega) (by omega)⟩, hf1, hf2⟩⟩ k6 (w6.trans (og _ ltw)) hv6).keep fun y hy => ?_
        rcases hy with rfl | ⟨_, rfl⟩ | ⟨q1, rfl⟩
        · exact List.getElem?_append_left (by show w.wb < h6.length; omega)
        · exact List.getElem?_append_left (by show w.kb < h6.length; omega)
        · exact List.getElem?_append_left (by have := (lth.resolve_left q1).2; show slB w.hv < h6.length; omega)
      · rw [List.getElem?_append_left (by omega), f6 y ya yb (fun e => yf (.inr (.inl ⟨hbusy, e⟩))), og y hy]
      · rcases hy with e | ⟨_, e⟩ | q
        · exact .inl (.inl e)
        · exact .inl (.inr (.inl ⟨hbusy, e⟩))
        · exact .inl (.inr (.inr q))
    · obtain ⟨rfl, hnx⟩ := hx12.resolve_left hx1
      obtain ⟨h6, e6, A6, k6, l6, f6⟩ := tstep2 (md := md) Ag (by omega) (by omega) (by omega) ka kb' hd0 hd1 nx0 nx1 kg
      have cw : cW l c 1 hd = bif getI l 1 == hd then up c 2 else up c 3 := if_pos i1
      rw [cw] at A6
      have iw : isW l 1 hd = (getI l 1 == hd) := by simp [isW, i1]
      rw [iw] at e6 A6 k6
      have p6 : h6[p]? = some (.own (plC n a av)) := (f6 p pa pb (fun e => kp e.symm)).trans pg
      have nb6 : h6[hh.length]? = some (.own (c.map (.int .i64))) := (f6 _ (by omega) (by omega) (by omega)).trans gnb
      have w6 : h6[w.wb]? = g[w.wb]? := f6 _ wa wb' (fun e => kw e.symm)
      have hv6 : w.hv = .slice none 0 0 ∨ h6[slB w.hv]? = hh[slB w.hv]? := by
        rcases lth with e | q
        · exact .inl e
        · rcases P.dh with e | d
          · exact .inl e
          · exact .inr ((f6 _ d.1 d.2.1 (d.2.2.2.2 hbusy)).trans (og _ q.2))
      by_cases hq : getI l 1 = hd
      · have hqb : (getI l 1 == hd) = true := by simp [hq]
        rw [hqb] at e6 A6 k6
        simp only [cond_true] at A6 k6
        obtain ⟨u1, u2, _⟩ := c5_up hc (by omega) (j := 2) (by omega)
        have act : Ws.act n l c w.st w.has = (putI l 1 (withW hd nx), up c 2, .idle, w.has ++ [hd % 65536 - 1]) := by rw [hst]; simp [Ws.act, hq]
        unfold Done
        rw [act]
        have so := slot_of md hd0 hd1 k6
        have z2 : (hd % 65536 != 0) = true := by simp; omega
        have t3 : ((3 : Int) == 3) = true := rfl
        simp only [t3, z2, Bool.and_true, cond_true] at so
        have r0 : rd h6 w.wb 0 = some ((Value.pointer (some ⟨w.kb, 0, none⟩))) := by rw [rd_own (w6.trans wg)]; rfl
        have r2 : rd h6 w.wb 2 = some w.hv := by rw [rd_own (w6.trans wg)]; rfl
        have H6 := P.H.keep hv6
        obtain ⟨v7, h7, ea, S7, l7, f7⟩ := append_own2 (md := md) (ys := [hd % 65536 - 1]) tInts H6 hro (by omega) (cs := [(Value.int .i64 (hd % 65536 - 1))]) (by simp [flat]) (by simp) rfl (by simp; omega)
        have h6b := H6.lo
        have kp7 : ∀ y, y < h6.length → (w.hv = .slice none 0 0 ∨ y ≠ slB w.hv) → h7[y]? = h6[y]? := f7
        have dh := P.dh
        have w7 : h7[w.wb]? = some (.own [(Value.pointer (some ⟨w.kb, 0, none⟩)), .pointer none, w.hv]) := (kp7 _ (by omega) (dh.imp id fun d => Ne.symm d.2.2.2.1)).trans (w6.trans wg)
        obtain ⟨h8, w8, k8, l8, f8⟩ := put_l' (md := md) w7 (by omega) (by omega) 2 [v7] [(Value.pointer (some ⟨w.kb, 0, none⟩)), .pointer none, v7] (by simp) rfl
        obtain ⟨h9, w9, k9, l9, f9⟩ := put_l' (md := md) k8 (by omega) (by omega) 0 [.pointer none] [.pointer none, .pointer none, v7] (by simp) rfl
        have hst8 : ∀ {α : Type} (kk : Heap → Option α), st md 1 ((Value.pointer (some ⟨w.wb, 2, none⟩))) v7 h7 kk = kk h8 := by
          intro α kk
          rcases S7.sl.is with ⟨e, _⟩ | ⟨b', o', kb, e, _⟩ <;> subst e <;> simp only [go_sem, Nat.reduceAdd, Nat.reduceLeDiff, Nat.reduceMul, Int.reduceBEq, Int.reduceBNe, Int.reduceLT, Int.reduceLE, Int.reduceGT, w8]
        have A9 : Ar h9 a b (putI l 1 (withW hd nx)) (up c 2) := A6.same (by rw [f9 a wa.symm, f8 a wa.symm, kp7 a (by omega) (dh.imp id fun d => Ne.symm d.1)]) (by rw [f9 b wb'.symm, f8 b wb'.symm, kp7 b (by omega) (dh.imp id fun d => Ne.symm d.2.1)])
        have p9 : h9[p]? = some (.own (plC n a av)) := by rw [f9 p (Ne.symm wp), f8 p (Ne.symm wp), kp7 p (by omega) (dh.imp id fun d => Ne.symm d.2.2.1)]; exact p6
        have nb9 : h9[hh.length]? = some (.own (c.map (.int .i64))) := by
          rw [f9 _ (by omega), f8 _ (by omega), kp7 _ (by omega) (lth.imp id fun q => by omega)]; exact nb6
        have e10 := fin h9 _ _ A9 u1 u2 p9 nb9 (by omega)
        have s7b := S7.lo
        refine ⟨h9 ++ [Blk.own ((up c 2).map (.int .i64))], { w with st := .idle, hv := v7, has := w.has ++ [hd % 65536 - 1] }, ?_, rfl, rfl, rfl, A9.app _, ?_, by simp; omega, fun y hy ya yb yf => ?_, fun y hy => ?_⟩
        · simp only [List.length_cons, List.length_nil, Nat.zero_add] at ea
          unfold J27_0
          simp only [go_sem, Nat.reduceAdd, Nat.reduceLeDiff, Nat.reduceMul, Int.reduceBEq, Int.reduceBNe, Int.reduceLT, Int.reduceLE, Int.reduceGT, r3, ce, wcb, r0g, aBin_neqP uTk, r3g, e6, r0, so, r2, ea, hst8]
          unfold J27_1
          simp only [go_sem, Nat.reduceAdd, Nat.reduceLeDiff, Nat.reduceMul, Int.reduceBEq, Int.reduceBNe, Int.reduceLT, Int.reduceLE, Int.reduceGT, w9]
          exact e10
        · refine (P.over (h' := h9) (hv' := v7) (has' := w.has ++ [hd % 65536 - 1]) k9 ?_ ?_ ?_ ?_).keep fun y hy => ?_
          · exact ((S7.mono (by omega)).keep (s7b.imp id fun q => by rw [f9 _ (by omega), f8 _ (by omega)]))
          · exact s7b.imp id fun q => by omega
          · intro y hy
            rcases List.mem_append.1 hy with h | h
            · exact P.R y h
            · simp only [List.mem_singleton] at h; omega
          · simp only [List.length_append, List.length_cons, List.length_nil]; omega
          · rcases hy with rfl | ⟨q, _⟩ | ⟨q1, rfl⟩
            · exact List.getElem?_append_left (by show w.wb < h9.length; omega)
            · exact q.elim
            · exact List.getElem?_append_left (by have := (s7b.resolve_left q1).2; show slB v7 < h9.length; omega)
        · have hyw : y ≠ w.wb := fun e => yf (.inl e)
          rw [List.getElem?_append_left (by omega), f9 y hyw, f8 y hyw, kp7 y (by omega) ?_, f6 y ya yb (fun e => yf (.inr (.inl ⟨hbusy, e⟩))), og y hy]
          by_cases hnil : w.hv = .slice none 0 0
          · exact .inl hnil
          · exact .inr fun e => yf (.inr (.inr ⟨hnil, e⟩))
        · rcases hy with e | ⟨q, _⟩ | ⟨q1, e⟩
          · exact .inl (.inl e)
          · exact q.elim
          · right
            have := (s7b.resolve_left q1).1
            have e' : y = slB v7 := e
            omega
      · have hqb : (getI l 1 == hd) = false := by simp [hq]
        rw [hqb] at e6 A6 k6
        simp only [cond_false] at A6 k6
        obtain ⟨u1, u2, _⟩ := c5_up hc (by omega) (j := 3) (by omega)
        have e8 := fin h6 _ _ A6 u1 u2 p6 nb6 (by omega)
        have act : Ws.act n l c w.st w.has = (l, up c 3, .tk 0 hd nx, w.has) := by rw [hst]; simp [Ws.act, hq]
        unfold Done
        rw [act]
        refine ⟨h6 ++ [Blk.own ((up c 3).map (.int .i64))], { w with st := .tk 0 hd nx }, ?_, rfl, rfl, rfl, A6.app _, ?_, by simp; omega, fun y hy ya yb yf => ?_, fun y hy => ?_⟩
        · unfold J27_0
          simp only [go_sem, Nat.reduceAdd, Nat.reduceLeDiff, Nat.reduceMul, Int.reduceBEq, Int.reduceBNe, Int.reduceLT, Int.reduceLE, Int.reduceGT, r3, ce, wcb, r0g, aBin_neqP uTk, r3g, e6]
          exact e8
        · refine (P.on (h' := h6) (st' := .tk 0 hd nx) hbusy (by unfold wkC; rw [hst]) trivial ⟨⟨hd0, hd1⟩, ⟨nx0, nx1⟩, .inl rfl⟩ k6 (w6.trans (og _ ltw)) hv6).keep fun y hy => ?_
          rcases hy with rfl | ⟨_, rfl⟩ | ⟨q1, rfl⟩
          · exact List.getElem?_append_left (by show w.wb < h6.length; omega)
          · exact List.getElem?_append_left (by show w.kb < h6.length; omega)
          · exact List.getElem?_append_left (by have := (lth.resolve_left q1).2; show slB w.hv < h6.length; omega)
        · rw [List.getElem?_append_left (by omega), f6 y ya yb (fun e => yf (.inr (.inl ⟨hbusy, e⟩))), og y hy]
        · rcases hy with e | ⟨_, e⟩ | q
          · exact .inl (.inl e)
          · exact .inl (.inr (.inl ⟨hbusy, e⟩))
          · exact .inl (.inr (.inr q))
end Go.Det.E
