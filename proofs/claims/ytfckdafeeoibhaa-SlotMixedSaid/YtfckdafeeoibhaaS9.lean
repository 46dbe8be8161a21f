/- Workers that give: what one step leaves. -/
import Derived.Test.YtfckdafeeoibhaaS8
set_option autoImplicit false
set_option linter.unusedVariables false
set_option linter.unusedSimpArgs false
namespace Go.Det.E
open Go.Proofs Go.Det
attribute [local congr] bind_c cond_c
variable {md : Md} {h hh h' g : Heap} {a b k p n n0 : Nat} {l c : List Int} {B : Int} {w : Wk} {av : Value}
theorem act_gv {s x hd : Int} (P : WkOk hh n0 n a b p w) (hst : w.st = .gv s x hd) (M : Mem n l) (hn : n ≤ 48) (A : Ar hh a b l c) (hc : C5 B c) (hB : B < 100000) (hp : hh[p]? = some (.own (plC n a av))) (pa : p ≠ a) (pb : p ≠ b) (ga : n0 ≤ a) (gb : n0 ≤ b)
    (hro : md.ro ≤ n0) (hlim : md.lim ≤ n0) (hn0 : n0 ≤ hh.length) (hsz : w.has.length < 1000) : Done md h hh a b p n n0 l c w := by
  obtain ⟨c0, c1, c2, c3, c4, hcc⟩ : ∃ c0 c1 c2 c3 c4, c = [c0, c1, c2, c3, c4] := by obtain ⟨c0, c1, c2, c3, c4, e, _⟩ := hc; exact ⟨_, _, _, _, _, e⟩
  have hK := P.K
  have hW := P.W
  have hV := P.V
  have hbusy : w.st.busy := by rw [hst]; trivial
  obtain ⟨ka, kb', kp, kw⟩ := P.dk hbusy
  obtain ⟨wa, wb', wp⟩ := P.dw
  have gk := P.gk hbusy
  have gw := P.gw
  unfold Wk.prog at hK
  unfold wkC at hW
  rw [hst] at hK hW hV
  simp only at hK hW
  obtain ⟨⟨hd0, hd1⟩, ⟨s0, s1⟩, hx⟩ := hV
  have lta := lt_of A.ha
  have ltb := lt_of A.hb
  have ltp := lt_of hp
  have ltw := lt_of hW
  have ltk := lt_of hK
  have lth := P.H.lo
  have hcm : c.map (.int .i64) = [(Value.int .i64 c0), (Value.int .i64 c1), (Value.int .i64 c2), (Value.int .i64 c3), (Value.int .i64 c4)] := by rw [hcc]; rfl
  have ce := fun (m : Md) => counts_x (md := m) (hcc ▸ A)
  -- the counts' own block
  obtain ⟨g, eg⟩ : ∃ g, g = hh ++ [Blk.own (c.map (.int .i64))] := ⟨_, rfl⟩
  have lg : g.length = hh.length + 1 := by rw [eg]; simp
  have og : ∀ y, y < hh.length → g[y]? = hh[y]? := fun y hy => by rw [eg, List.getElem?_append_left hy]
  have gnb : g[hh.length]? = some (.own (c.map (.int .i64))) := by rw [eg]; simp
  have Ag := A.same (og a lta) (og b ltb)
  have kg := (og _ ltk).trans hK
  have wg := (og _ ltw).trans hW
  have pg := (og _ ltp).trans hp
  have wcb : wrN md (hh ++ [Blk.own [(Value.int .i64 0), (Value.int .i64 0), (Value.int .i64 0), (Value.int .i64 0), (Value.int .i64 0)]]) hh.length 0 [(Value.int .i64 c0), (Value.int .i64 c1), (Value.int .i64 c2), (Value.int .i64 c3), (Value.int .i64 c4)] = some g := by
    have h1 : md.ro ≤ hh.length := by omega
    have h2 : md.lim ≤ hh.length := by omega
    rw [eg, hcm]; simp only [go_sem, Nat.reduceAdd, Nat.reduceLeDiff, Nat.reduceMul, Int.reduceBEq, Int.reduceBNe, Int.reduceLT, Int.reduceLE, Int.reduceGT, h1, h2]
  have r3 : rd hh p 3 = some ((Value.pointer (some ⟨a, 0, none⟩))) := by rw [rd_own hp]; rfl
  have r3g : rd g p 3 = some ((Value.pointer (some ⟨a, 0, none⟩))) := by rw [rd_own pg]; rfl
  have r0g : rd g w.wb 0 = some (.pointer none) := by rw [rd_own wg]; rfl
  have r1g : rd g w.wb 1 = some ((Value.pointer (some ⟨w.kb, 0, none⟩))) := by rw [rd_own wg]; rfl
  have fin : ∀ (h5 : Heap) (d : List Int) (l5 : List Int), Ar h5 a b l5 d → C5 (B + 1) d → sm d = sm c + 1 → h5[p]? = some (.own (plC n a av)) → h5[hh.length]? = some (.own (c.map (.int .i64))) → n0 ≤ h5.length →
      J27_2 C md h ((Value.pointer (some ⟨p, 0, none⟩))) ((Value.pointer (some ⟨hh.length, 0, none⟩))) h5 = some ((Value.bool true), h5 ++ [Blk.own (d.map (.int .i64))]) := by
    intro h5 d l5 A5 hd5 hs hp5 hnb5 hl5
    have hcB : C5 (B + 1) c := by
      obtain ⟨c0, c1, c2, c3, c4, e, q0, q1, q2, q3, q4⟩ := hc
      exact ⟨c0, c1, c2, c3, c4, e, by omega, by omega, by omega, by omega, q4⟩
    exact count_s hp5 A5 hcB hd5 (by omega) hs hnb5 (by omega) (by omega)
  have i1 := M.i1
  have gw1 := M.w.get 1
  obtain ⟨oxs, ios⟩ := M.is s0 s1
  by_cases hx0 : x = 0
  · subst hx0
    obtain ⟨h6, e6, A6, k6, l6, f6⟩ := gstep0 (md := md) Ag (by omega) (by omega) ka kb' kg
    rw [cL_in i1] at A6
    obtain ⟨u1, u2, _⟩ := c5_up hc (by omega) (j := 0) (by omega)
    have p6 : h6[p]? = some (.own (plC n a av)) := (f6 p pa pb (fun e => kp e.symm)).trans pg
    have nb6 : h6[hh.length]? = some (.own (c.map (.int .i64))) := (f6 _ (by omega) (by omega) (by omega)).trans gnb
    have w6 : h6[w.wb]? = g[w.wb]? := f6 _ wa wb' (fun e => kw e.symm)
    have hv6 : w.hv = .slice none 0 0 ∨ h6[slB w.hv]? = hh[slB w.hv]? := by
      rcases lth with e | q
      · exact .inl e
      · rcases P.dh with e | d
        · exact .inl e
        · exact .inr ((f6 _ d.1 d.2.1 (d.2.2.2.2 hbusy)).trans (og _ q.2))
    have act : Ws.act n l c w.st w.has = (l, up c 0, .gv s 1 (getI l 1), w.has) := by rw [hst]; simp [Ws.act]
    have e8 := fin h6 _ _ A6 u1 u2 p6 nb6 (by omega)
    unfold Done
    rw [act]
    refine ⟨h6 ++ [Blk.own ((up c 0).map (.int .i64))], { w with st := .gv s 1 (getI l 1) }, ?_, rfl, rfl, rfl, A6.app _, ?_, by simp; omega, fun y hy ya yb yf => ?_, fun y hy => ?_⟩
    · unfold J27_0
      simp only [go_sem, Nat.reduceAdd, Nat.reduceLeDiff, Nat.reduceMul, Int.reduceBEq, Int.reduceBNe, Int.reduceLT, Int.reduceLE, Int.reduceGT, r3, ce, wcb, r0g, aBin_neqN uTk, r1g, aBin_neqP uGv, r3g, e6]
      exact e8
    · refine (P.on (h' := h6) (st' := .gv s 1 (getI l 1)) hbusy (by unfold wkC; rw [hst]) trivial ⟨gw1, ⟨s0, s1⟩, .inr ⟨.inl rfl, M.hd⟩⟩ k6 (w6.trans (og _ ltw)) hv6).keep fun y hy => ?_
      rcases hy with rfl | ⟨_, rfl⟩ | ⟨q1, rfl⟩
      · exact List.getElem?_append_left (by show w.wb < h6.length; omega)
      · exact List.getElem?_append_left (by show w.kb < h6.length; omega)
      · exact List.getElem?_append_left (by have := (lth.resolve_left q1).2; show slB w.hv < h6.length; omega)
    · rw [List.getElem?_append_left (by omega), f6 y ya yb (fun e => yf (.inr (.inl ⟨hbusy, e⟩))), og y hy]
    · rcases hy with e | ⟨_, e⟩ | q
      · exact .inl (.inl e)
      · exact .inl (.inr (.inl ⟨hbusy, e⟩))
      · exact .inl (.inr (.inr q))
  · obtain ⟨hx12, hf2⟩ := hx.resolve_left hx0
    by_cases hx1 : x = 1
    · subst hx1
      obtain ⟨h6, e6, A6, k6, l6, f6⟩ := gstep1 (md := md) (rt1 hn) Ag (by omega) (by omega) (by omega) ka kb' hd0 hd1 kg
      rw [cS_in ios] at A6
      obtain ⟨u1, u2, _⟩ := c5_up hc (by omega) (j := 1) (by omega)
      have p6 : h6[p]? = some (.own (plC n a av)) := (f6 p pa pb (fun e => kp e.symm)).trans pg
      have nb6 : h6[hh.length]? = some (.own (c.map (.int .i64))) := (f6 _ (by omega) (by omega) (by omega)).trans gnb
      have w6 : h6[w.wb]? = g[w.wb]? := f6 _ wa wb' (fun e => kw e.symm)
      have hv6 : w.hv = .slice none 0 0 ∨ h6[slB w.hv]? = hh[slB w.hv]? := by
        rcases lth with e | q
        · exact .inl e
        · rcases P.dh with e | d
          · exact .inl e
          · exact .inr ((f6 _ d.1 d.2.1 (d.2.2.2.2 hbusy)).trans (og _ q.2))
      have act : Ws.act n l c w.st w.has = (putI l (Ox n 1 s 0) (hd % 65536), up c 1, .gv s 2 hd, w.has) := by rw [hst]; simp [Ws.act]
      have e8 := fin h6 _ _ A6 u1 u2 p6 nb6 (by omega)
      unfold Done
      rw [act]
      refine ⟨h6 ++ [Blk.own ((up c 1).map (.int .i64))], { w with st := .gv s 2 hd }, ?_, rfl, rfl, rfl, A6.app _, ?_, by simp; omega, fun y hy ya yb yf => ?_, fun y hy => ?_⟩
      · unfold J27_0
        simp only [go_sem, Nat.reduceAdd, Nat.reduceLeDiff, Nat.reduceMul, Int.reduceBEq, Int.reduceBNe, Int.reduceLT, Int.reduceLE, Int.reduceGT, r3, ce, wcb, r0g, aBin_neqN uTk, r1g, aBin_neqP uGv, r3g, e6]
        exact e8
      · refine (P.on (h' := h6) (st' := .gv s 2 hd) hbusy (by unfold wkC; rw [hst]) trivial ⟨⟨hd0, hd1⟩, ⟨s0, s1⟩, .inr ⟨.inr rfl, hf2⟩⟩ k6 (w6.trans (og _ ltw)) hv6).keep fun y hy => ?_
        rcases hy with rfl | ⟨_, rfl⟩ | ⟨q1, rfl⟩
        · exact List.getElem?_append_left (by show w.wb < h6.length; omega)
        · exact List.getElem?_append_left (by show w.kb < h6.length; omega)
        · exact List.getElem?_append_left (by have := (lth.resolve_left q1).2; show slB w.hv < h6.length; omega)
      · rw [List.getElem?_append_left (by omega), f6 y ya yb (fun e => yf (.inr (.inl ⟨hbusy, e⟩))), og y hy]
      · rcases hy with e | ⟨_, e⟩ | q
        · exact .inl (.inl e)
        · exact .inl (.inr (.inl ⟨hbusy, e⟩))
        · exact .inl (.inr (.inr q))
    · obtain rfl := hx12.resolve_left hx1
      obtain ⟨h6, e6, A6, k6, l6, f6⟩ := gstep2 (md := md) Ag (by omega) (by omega) (by omega) ka kb' hd0 hd1 s0 (by omega) kg
      have cw : cW l c 1 hd = bif getI l 1 == hd then up c 2 else up c 3 := if_pos i1
      rw [cw] at A6
      have iw : isW l 1 hd = (getI l 1 == hd) := by simp [isW, i1]
      rw [iw] at e6 A6 k6
      have p6 : h6[p]? = some (.own (plC n a av)) := (f6 p pa pb (fun e => kp e.symm)).trans pg
      have nb6 : h6[hh.length]? = some (.own (c.map (.int .i64))) := (f6 _ (by omega) (by omega) (by omega)).trans gnb
      have w6 : h6[w.wb]? = g[w.wb]? := f6 _ wa wb' (fun e => kw e.symm)
      have hv6 : w.hv = .slice none 0 0 ∨ h6[slB w.hv]? = hh[slB w.hv]? := by
        rcases lth with e | q
        · exact .inl e
        · rcases P.dh with e | d
          · exact .inl e
          · exact .inr ((f6 _ d.1 d.2.1 (d.2.2.2.2 hbusy)).trans (og _ q.2))
      by_cases hq : getI l 1 = hd
      · have hqb : (getI l 1 == hd) = true := by simp [hq]
        rw [hqb] at e6 A6 k6
        simp only [cond_true] at A6 k6
        obtain ⟨u1, u2, _⟩ := c5_up hc (by omega) (j := 2) (by omega)
        have act : Ws.act n l c w.st w.has = (putI l 1 (withW hd (s + 1)), up c 2, .idle, w.has) := by rw [hst]; simp [Ws.act, hq]
        unfold Done
        rw [act]
        obtain ⟨h7, w7, k7, l7, f7⟩ := put_l' (md := md) (w6.trans wg) (by omega) (by omega) 1 [.pointer none] [.pointer none, .pointer none, w.hv] (by simp) rfl
        have A7 := A6.same (f7 a wa.symm) (f7 b wb'.symm)
        have e8 := fin h7 _ _ A7 u1 u2 ((f7 p (Ne.symm wp)).trans p6) ((f7 _ (by omega)).trans nb6) (by omega)
        refine ⟨h7 ++ [Blk.own ((up c 2).map (.int .i64))], { w with st := .idle, hv := w.hv, has := w.has }, ?_, rfl, rfl, rfl, A7.app _, ?_, by simp; omega, fun y hy ya yb yf => ?_, fun y hy => ?_⟩
        · unfold J27_0
          simp only [go_sem, Nat.reduceAdd, Nat.reduceLeDiff, Nat.reduceMul, Int.reduceBEq, Int.reduceBNe, Int.reduceLT, Int.reduceLE, Int.reduceGT, r3, ce, wcb, r0g, aBin_neqN uTk, r1g, aBin_neqP uGv, r3g, e6, w7]
          exact e8
        · refine (P.over (h' := h7) (hv' := w.hv) (has' := w.has) k7 ?_ ?_ P.R P.sz).keep fun y hy => ?_
          · refine P.H.keep ?_
            rcases hv6 with e | q
            · exact .inl e
            · rcases P.dh with e | d
              · exact .inl e
              · exact .inr ((f7 _ d.2.2.2.1).trans q)
          · exact P.dh.imp id fun d => ⟨d.1, d.2.1, d.2.2.1, d.2.2.2.1⟩
          · rcases hy with rfl | ⟨q, _⟩ | ⟨q1, rfl⟩
            · exact List.getElem?_append_left (by show w.wb < h7.length; omega)
            · exact q.elim
            · exact List.getElem?_append_left (by have := (lth.resolve_left q1).2; show slB w.hv < h7.length; omega)
        · rw [List.getElem?_append_left (by omega), f7 y (fun e => yf (.inl e)), f6 y ya yb (fun e => yf (.inr (.inl ⟨hbusy, e⟩))), og y hy]
        · rcases hy with e | ⟨q, _⟩ | q
          · exact .inl (.inl e)
          · exact q.elim
          · exact .inl (.inr (.inr q))
      · have hqb : (getI l 1 == hd) = false := by simp [hq]
        rw [hqb] at e6 A6 k6
        simp only [cond_false] at A6 k6
        obtain ⟨u1, u2, _⟩ := c5_up hc (by omega) (j := 3) (by omega)
        have act : Ws.act n l c w.st w.has = (l, up c 3, .gv s 0 hd, w.has) := by rw [hst]; simp [Ws.act, hq]
        have e8 := fin h6 _ _ A6 u1 u2 p6 nb6 (by omega)
        unfold Done
        rw [act]
        refine ⟨h6 ++ [Blk.own ((up c 3).map (.int .i64))], { w with st := .gv s 0 hd }, ?_, rfl, rfl, rfl, A6.app _, ?_, by simp; omega, fun y hy ya yb yf => ?_, fun y hy => ?_⟩
        · unfold J27_0
          simp only [go_sem, Nat.reduceAdd, Nat.reduceLeDiff, Nat.reduceMul, Int.reduceBEq, Int.reduceBNe, Int.reduceLT, Int.reduceLE, Int.reduceGT, r3, ce, wcb, r0g, aBin_neqN uTk, r1g, aBin_neqP uGv, r3g, e6]
          exact e8
        · refine (P.on (h' := h6) (st' := .gv s 0 hd) hbusy (by unfold wkC; rw [hst]) trivial ⟨⟨hd0, hd1⟩, ⟨s0, s1⟩, .inl rfl⟩ k6 (w6.trans (og _ ltw)) hv6).keep fun y hy => ?_
          rcases hy with rfl | ⟨_, rfl⟩ | ⟨q1, rfl⟩
          · exact List.getElem?_append_left (by show w.wb < h6.length; omega)
          · exact List.getElem?_append_left (by show w.kb < h6.length; omega)
          · exact List.getElem?_append_left (by have := (lth.resolve_left q1).2; show slB w.hv < h6.length; omega)
        · rw [List.getElem?_append_left (by omega), f6 y ya yb (fun e => yf (.inr (.inl ⟨hbusy, e⟩))), og y hy]
        · rcases hy with e | ⟨_, e⟩ | q
          · exact .inl (.inl e)
          · exact .inl (.inr (.inl ⟨hbusy, e⟩))
          · exact .inl (.inr (.inr q))
end Go.Det.E
