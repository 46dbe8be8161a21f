/- Workers that take and give: one step of a worker, from its beginning. -/
import Derived.Test.YtfckdafeeoibhaaS9
set_option autoImplicit false
set_option linter.unusedVariables false
set_option linter.unusedSimpArgs false
namespace Go.Det.E
open Go.Proofs Go.Det
attribute [local congr] bind_c cond_c
/-- What a worker begins. -/
def Ws.beg (gives : Bool) (st : Ws) (has : List Int) : Ws × List Int :=
  match st with
  | .idle => match gives, has with
    | true, s :: rest => (.gv s 0 0, rest)
    | _, _ => (.tk 0 0 0, has)
  | st => (st, has)
variable {md : Md} {h hh h' g : Heap} {a b k p n n0 : Nat} {l c : List Int} {B : Int} {w : Wk} {av : Value} {st : Ws} {has : List Int}
theorem act_mem (V : st.ok n) (M : Mem n l) (hn : n ≤ 48) (hc : C5 B c) (hB : B < 100000) : Mem n (Ws.act n l c st has).1 ∧ C5 (B + 1) (Ws.act n l c st has).2.1 := by
  have cB : C5 (B + 1) c := by
    obtain ⟨c0, c1, c2, c3, c4, e, q0, q1, q2, q3, q4⟩ := hc
    exact ⟨c0, c1, c2, c3, c4, e, by omega, by omega, by omega, by omega, q4⟩
  have u : ∀ {j : Nat}, j < 4 → C5 (B + 1) (up c j) := fun hj => (c5_up hc (by omega) hj).1
  cases st with
  | idle => exact ⟨M, cB⟩
  | tk x hd nx =>
    obtain ⟨q1, q2, q3⟩ := V
    unfold Ws.act
    simp only
    split
    · exact ⟨M, u (by omega)⟩
    · rename_i h0
      obtain ⟨q4, q5, q6⟩ := q3.resolve_left h0
      split
      · exact ⟨M, u (by omega)⟩
      · rename_i h1
        have q7 := q4.resolve_left h1
        split
        · refine ⟨M.head hn (withW_in _ _) ?_, u (by omega)⟩
          rw [withW_first]
          have := q7.2; have := q2.1
          omega
        · exact ⟨M, u (by omega)⟩
  | gv s x hd =>
    obtain ⟨q1, q2, q3⟩ := V
    unfold Ws.act
    simp only
    split
    · exact ⟨M, u (by omega)⟩
    · rename_i h0
      obtain ⟨q4, q5⟩ := q3.resolve_left h0
      split
      · exact ⟨M.next hn q2.1 q2.2 ⟨by omega, q5⟩, u (by omega)⟩
      · split
        · refine ⟨M.head hn (withW_in _ _) ?_, u (by omega)⟩
          rw [withW_first]; omega
        · exact ⟨M, u (by omega)⟩
/-- Does it know a head that is another one now? -/
def stale (l : List Int) : Ws → Int
  | .idle => 0
  | .tk x hd _ => if x ≠ 0 ∧ hd ≠ getI l 1 then 1 else 0
  | .gv _ x hd => if x ≠ 0 ∧ hd ≠ getI l 1 then 1 else 0
theorem stale_01 (l : List Int) (st : Ws) : 0 ≤ stale l st ∧ stale l st ≤ 1 := by
  cases st <;> simp only [stale] <;> (try split) <;> omega
theorem stale_head {l l' : List Int} (e : getI l' 1 = getI l 1) (st : Ws) : stale l' st = stale l st := by
  cases st <;> simp only [stale, e]
theorem stale_beg (gives : Bool) : stale l (st.beg gives has).1 = stale l st := by
  cases st with
  | idle => cases gives <;> cases has <;> rfl
  | tk x y z => rfl
  | gv x y z => rfl
/-- What a step does to the numbers of swaps that were done, and that were not. -/
theorem act_miss (V : st.ok n) (M : Mem n l) (hc : C5 B c) (hB : B < 100000) :
    ((Ws.act n l c st has).2.1.getD 2 0 = c.getD 2 0 ∧ getI (Ws.act n l c st has).1 1 = getI l 1 ∧ (Ws.act n l c st has).2.1.getD 3 0 + stale l (Ws.act n l c st has).2.2.1 ≤ c.getD 3 0 + stale l st) ∨
    ((Ws.act n l c st has).2.1.getD 2 0 = c.getD 2 0 + 1 ∧ (Ws.act n l c st has).2.1.getD 3 0 = c.getD 3 0 ∧ (Ws.act n l c st has).2.2.1 = .idle) := by
  have u := fun {j : Nat} (hj : j < 4) => c5_up hc (by omega) hj
  have s0 := (stale_01 l st).1
  cases st with
  | idle => left; exact ⟨rfl, rfl, Int.le_refl _⟩
  | tk x hd nx =>
    obtain ⟨q1, q2, q3⟩ := V
    unfold Ws.act
    simp only
    split
    · left
      refine ⟨(u (j := 0) (by omega)).2.2.1 2 (by omega), rfl, ?_⟩
      rw [(u (j := 0) (by omega)).2.2.1 3 (by omega)]
      have : stale l (if getI l 1 % 65536 = 0 then Ws.idle else .tk 1 (getI l 1) nx) = 0 := by
        split
        · rfl
        · simp [stale]
      dsimp only
      omega
    · rename_i h0
      split
      · left
        rename_i h1
        refine ⟨(u (j := 0) (by omega)).2.2.1 2 (by omega), rfl, ?_⟩
        rw [(u (j := 0) (by omega)).2.2.1 3 (by omega)]
        have : stale l (.tk 2 hd (getI l (Ox n 1 (hd % 65536 - 1) 0))) = stale l (.tk x hd nx) := by simp [stale, h0]
        dsimp only
        omega
      · split
        · right
          exact ⟨(u (j := 2) (by omega)).2.2.2, (u (j := 2) (by omega)).2.2.1 3 (by omega), rfl⟩
        · left
          rename_i h1 h2
          refine ⟨(u (j := 3) (by omega)).2.2.1 2 (by omega), rfl, ?_⟩
          have e1 := (u (j := 3) (by omega)).2.2.2
          have : stale l (.tk x hd nx) = 1 := by
            simp only [stale]; rw [if_pos ⟨h0, fun e => h2 e.symm⟩]
          have e2 : stale l (.tk 0 hd nx) = 0 := by simp [stale]
          simp only [e2]
          omega
  | gv s x hd =>
    obtain ⟨q1, q2, q3⟩ := V
    obtain ⟨oxs, ios⟩ := M.is q2.1 q2.2
    unfold Ws.act
    simp only
    split
    · left
      refine ⟨(u (j := 0) (by omega)).2.2.1 2 (by omega), rfl, ?_⟩
      rw [(u (j := 0) (by omega)).2.2.1 3 (by omega)]
      have : stale l (.gv s 1 (getI l 1)) = 0 := by simp [stale]
      dsimp only
      omega
    · rename_i h0
      split
      · left
        refine ⟨(u (j := 1) (by omega)).2.2.1 2 (by omega), getI_else (by rw [oxs]; have := q2.1; omega), ?_⟩
        rw [(u (j := 1) (by omega)).2.2.1 3 (by omega)]
        have : stale l (.gv s 2 hd) = stale l (.gv s x hd) := by simp [stale, h0]
        dsimp only
        omega
      · split
        · right
          exact ⟨(u (j := 2) (by omega)).2.2.2, (u (j := 2) (by omega)).2.2.1 3 (by omega), rfl⟩
        · left
          rename_i h1 h2
          refine ⟨(u (j := 3) (by omega)).2.2.1 2 (by omega), rfl, ?_⟩
          have e1 := (u (j := 3) (by omega)).2.2.2
          have : stale l (.gv s x hd) = 1 := by
            simp only [stale]; rw [if_pos ⟨h0, fun e => h2 e.symm⟩]
          have e2 : stale l (.gv s 0 hd) = 0 := by simp [stale]
          simp only [e2]
          omega
/-- A worker's step. -/
theorem step_e7 (gives : Bool) (P : WkOk hh n0 n a b p w) (M : Mem n l) (hn : n ≤ 48) (A : Ar hh a b l c) (hc : C5 B c) (hB : B < 100000) (hp : hh[p]? = some (.own (plC n a av))) (pa : p ≠ a) (pb : p ≠ b) (ga : n0 ≤ a) (gb : n0 ≤ b)
    (hro : md.ro ≤ n0) (hlim : md.lim ≤ n0) (hn0 : n0 ≤ hh.length) (hsz : w.has.length < 1000) :
    ∃ h' w', C md 27 [(Value.pointer (some ⟨p, 0, none⟩)), (Value.pointer (some ⟨w.wb, 0, none⟩)), (Value.bool gives)] hh = some ((Value.bool true), h') ∧
      (w'.st = (Ws.act n l c (w.st.beg gives w.has).1 (w.st.beg gives w.has).2).2.2.1 ∧ w'.has = (Ws.act n l c (w.st.beg gives w.has).1 (w.st.beg gives w.has).2).2.2.2) ∧ w'.wb = w.wb ∧
      Ar h' a b (Ws.act n l c (w.st.beg gives w.has).1 (w.st.beg gives w.has).2).1 (Ws.act n l c (w.st.beg gives w.has).1 (w.st.beg gives w.has).2).2.1 ∧
      WkOk h' n0 n a b p w' ∧ hh.length ≤ h'.length ∧ (∀ y, y < hh.length → y ≠ a → y ≠ b → ¬ wf w y → h'[y]? = hh[y]?) ∧ (∀ y, wf w' y → wf w y ∨ hh.length ≤ y) ∧ (w.st.beg gives w.has).1.ok n := by
  have hW := P.W
  have lta := lt_of A.ha
  have ltb := lt_of A.hb
  have ltp := lt_of hp
  have ltw := lt_of hW
  obtain ⟨wa, wb', wp⟩ := P.dw
  have gw := P.gw
  have lth := P.H.lo
  cases hst : w.st with
  | tk x hd nx =>
    obtain ⟨h', w', e', r1, r2, r3, A', P', l', f', g'⟩ := act_tk (md := md) (h := hh) P hst M hn A hc hB hp pa pb ga gb hro hlim hn0 hsz
    have hb : (Ws.tk x hd nx).beg gives w.has = (.tk x hd nx, w.has) := rfl
    rw [hb]
    rw [hst] at r1 r2 A'
    have r0 : rd hh w.wb 0 = some ((Value.pointer (some ⟨w.kb, 0, none⟩))) := by rw [rd_own hW]; unfold wkC; rw [hst]; rfl
    refine ⟨h', w', ?_, ⟨r1, r2⟩, r3, A', P', l', f', g', by rw [← hst]; exact P.V⟩
    rw [C, call_eq, F27_eq]
    unfold F27
    simp only [go_sem, Nat.reduceAdd, Nat.reduceLeDiff, Nat.reduceMul, Int.reduceBEq, Int.reduceBNe, Int.reduceLT, Int.reduceLE, Int.reduceGT, r0, aBin_eqlP uTk]
    exact e'
  | gv s x hd =>
    obtain ⟨h', w', e', r1, r2, r3, A', P', l', f', g'⟩ := act_gv (md := md) (h := hh) P hst M hn A hc hB hp pa pb ga gb hro hlim hn0 hsz
    have hb : (Ws.gv s x hd).beg gives w.has = (.gv s x hd, w.has) := rfl
    rw [hb]
    rw [hst] at r1 r2 A'
    have r0 : rd hh w.wb 0 = some (.pointer none) := by rw [rd_own hW]; unfold wkC; rw [hst]; rfl
    have r1' : rd hh w.wb 1 = some ((Value.pointer (some ⟨w.kb, 0, none⟩))) := by rw [rd_own hW]; unfold wkC; rw [hst]; rfl
    refine ⟨h', w', ?_, ⟨r1, r2⟩, r3, A', P', l', f', g', by rw [← hst]; exact P.V⟩
    rw [C, call_eq, F27_eq]
    unfold F27
    simp only [go_sem, Nat.reduceAdd, Nat.reduceLeDiff, Nat.reduceMul, Int.reduceBEq, Int.reduceBNe, Int.reduceLT, Int.reduceLE, Int.reduceGT, r0, aBin_eqlN uTk, r1', aBin_eqlP uGv]
    exact e'
  | idle =>
    unfold wkC at hW
    rw [hst] at hW
    simp only at hW
    have r0 : rd hh w.wb 0 = some (.pointer none) := by rw [rd_own hW]; rfl
    have r1 : rd hh w.wb 1 = some (.pointer none) := by rw [rd_own hW]; rfl
    have r2 : rd hh w.wb 2 = some w.hv := by rw [rd_own hW]; rfl
    have rL : rdN hh p 0 3 = some [(Value.int .i64 1), (Value.int .i64 ((n : Int))), (Value.int .i64 1)] := by rw [rdN_own hp (by simp)]; rfl
    have len := fun {α : Type} (kk : Value → Option α) => P.H.sl.len kk
    have hh1 : md.ro ≤ hh.length := by omega
    have hh2 : md.lim ≤ hh.length := by omega
    -- a take
    have take : ((Ws.idle).beg gives w.has = (.tk 0 0 0, w.has)) → (gives = false ∨ w.has = []) →
        ∃ h' w', C md 27 [(Value.pointer (some ⟨p, 0, none⟩)), (Value.pointer (some ⟨w.wb, 0, none⟩)), (Value.bool gives)] hh = some ((Value.bool true), h') ∧
          (w'.st = (Ws.act n l c (.tk 0 0 0) w.has).2.2.1 ∧ w'.has = (Ws.act n l c (.tk 0 0 0) w.has).2.2.2) ∧ w'.wb = w.wb ∧ Ar h' a b (Ws.act n l c (.tk 0 0 0) w.has).1 (Ws.act n l c (.tk 0 0 0) w.has).2.1 ∧
          WkOk h' n0 n a b p w' ∧ hh.length ≤ h'.length ∧ (∀ y, y < hh.length → y ≠ a → y ≠ b → ¬ wf w y → h'[y]? = hh[y]?) ∧ (∀ y, wf w' y → wf w y ∨ hh.length ≤ y) ∧ (Ws.tk 0 0 0).ok n := by
      intro _ hcase
      have nt := newtake_s (V := 1) (S := (n : Int)) (T := 1) md hh hh1 hh2
      obtain ⟨g1, eg1⟩ : ∃ g1, g1 = hh ++ [Blk.own [(Value.int .i64 1), (Value.int .i64 ((n : Int))), (Value.int .i64 1)], Blk.own (tkC 1 n 1 0 0 0)] := ⟨_, rfl⟩
      rw [← eg1] at nt
      have og1 : ∀ y, y < hh.length → g1[y]? = hh[y]? := fun y hy => by rw [eg1, List.getElem?_append_left hy]
      have lg1 : g1.length = hh.length + 2 := by rw [eg1]; simp
      have kg1 : g1[hh.length + 1]? = some (.own (tkC 1 n 1 0 0 0)) := by rw [eg1, List.getElem?_append_right (by omega), Nat.add_sub_cancel_left]; rfl
      obtain ⟨h2, w2, k2, l2, f2⟩ := put_l' (md := md) ((og1 _ ltw).trans hW) (by omega) (by omega) 0 [(Value.pointer (some ⟨hh.length + 1, 0, none⟩))] [(Value.pointer (some ⟨hh.length + 1, 0, none⟩)), .pointer none, w.hv] (by simp) rfl
      have V0 : (Ws.tk 0 0 0).ok n := ⟨by omega, by omega, .inl rfl⟩
      have P2 : WkOk h2 n0 n a b p { w with st := .tk 0 0 0, kb := hh.length + 1 } := by
        refine ⟨k2, (f2 (hh.length + 1) (by omega)).trans kg1, P.H.keep ?_, gw, fun _ => by show n0 ≤ hh.length + 1; omega, P.dw, fun _ => ⟨by show hh.length + 1 ≠ a; omega, by show hh.length + 1 ≠ b; omega, by show hh.length + 1 ≠ p; omega, by show hh.length + 1 ≠ w.wb; omega⟩, ?_, V0, P.R, P.sz⟩
        · rcases lth with e | q
          · exact .inl e
          · rcases P.dh with e | d
            · exact .inl e
            · exact .inr ((f2 _ d.2.2.2.1).trans (og1 _ q.2))
        · rcases lth with e | q
          · exact .inl e
          · exact P.dh.imp id fun d => ⟨d.1, d.2.1, d.2.2.1, d.2.2.2.1, fun _ => by show slB w.hv ≠ hh.length + 1; omega⟩
      have A2 := A.same ((f2 a wa.symm).trans (og1 a lta)) ((f2 b wb'.symm).trans (og1 b ltb))
      obtain ⟨h', w', e', q1, q2, q3, A', P', l', f', g'⟩ := act_tk (md := md) (h := hh) P2 rfl M hn A2 hc hB ((f2 p (Ne.symm wp)).trans ((og1 p ltp).trans hp)) pa pb ga gb hro hlim (by omega) hsz
      refine ⟨h', w', ?_, ⟨q1, q2⟩, q3, A', P', by omega, fun y hy ya yb yf => ?_, fun y hy => ?_, V0⟩
      · rw [C, call_eq, F27_eq]
        unfold F27
        rcases hcase with e | e
        · subst e
          simp only [go_sem, Nat.reduceAdd, Nat.reduceLeDiff, Nat.reduceMul, Int.reduceBEq, Int.reduceBNe, Int.reduceLT, Int.reduceLE, Int.reduceGT, r0, aBin_eqlN uTk, r1, aBin_eqlN uGv, rL, nt, w2]
          exact e'
        · have len0 : ∀ {α : Type} (kk : Value → Option α), lenS w.hv kk = kk ((Value.int .i64 0)) := fun kk => by rw [P.H.sl.len kk, e]; rfl
          cases gives
          · simp only [go_sem, Nat.reduceAdd, Nat.reduceLeDiff, Nat.reduceMul, Int.reduceBEq, Int.reduceBNe, Int.reduceLT, Int.reduceLE, Int.reduceGT, r0, aBin_eqlN uTk, r1, aBin_eqlN uGv, rL, nt, w2]
            exact e'
          · simp only [go_sem, Nat.reduceAdd, Nat.reduceLeDiff, Nat.reduceMul, Int.reduceBEq, Int.reduceBNe, Int.reduceLT, Int.reduceLE, Int.reduceGT, r0, aBin_eqlN uTk, r1, aBin_eqlN uGv, r2, len0, aBin_gtr, Int.lt_irrefl, rL, nt, w2]
            exact e'
      · have hyw : y ≠ w.wb := fun e => yf (.inl e)
        rw [f' y (by omega) ya yb ?_, f2 y hyw, og1 y hy]
        intro q
        rcases q with q | ⟨_, q⟩ | q
        · exact hyw q
        · have q' : y = hh.length + 1 := q
          omega
        · exact yf (.inr (.inr q))
      · rcases g' y hy with q | q
        · rcases q with q | ⟨_, q⟩ | q
          · exact .inl (.inl q)
          · have q' : y = hh.length + 1 := q
            exact .inr (by omega)
          · exact .inl (.inr (.inr q))
        · exact .inr (by omega)
    cases hg : gives with
    | false =>
      rw [hg] at take
      exact take (by cases w.has <;> rfl) (.inl rfl)
    | true =>
      rw [hg] at take
      cases hhas : w.has with
      | nil =>
        rw [hhas] at take
        exact take rfl (.inr rfl)
      | cons s rest =>
        have hb : (Ws.idle).beg true (s :: rest) = (.gv s 0 0, rest) := rfl
        rw [hb]
        have H0 := P.H
        rw [hhas] at H0
        have hvne : w.hv ≠ .slice none 0 0 := fun e => by rw [e] at H0; have := H0.nil_of; cases this
        have dh := P.dh.resolve_left hvne
        have hlo := lth.resolve_left hvne
        obtain ⟨s0, s1⟩ := P.R s (by rw [hhas]; simp)
        have pos : (0 : Int) < ((rest.length + 1 : Nat) : Int) := by omega
        have lenc : ∀ {α : Type} (kk : Value → Option α), lenS w.hv kk = kk ((Value.int .i64 (((rest.length + 1 : Nat) : Int)))) := fun kk => H0.sl.len kk
        obtain ⟨i0, rr0⟩ := Sl.read H0.sl (i := 0) (x := s) (by omega) rfl
        have i0' : ∀ {α : Type} (kk : Value → Option α), ixS 1 w.hv 0 kk = kk ((Value.pointer (some ⟨slB w.hv, slO w.hv, none⟩))) := fun kk => i0 kk
        have rr0' : rd hh (slB w.hv) (slO w.hv) = some ((Value.int .i64 s)) := rr0
        have ng := newgive_s (V := 1) (S := (n : Int)) (T := 1) md hh hh1 hh2 s
        obtain ⟨g1, eg1⟩ : ∃ g1, g1 = hh ++ [Blk.own [(Value.int .i64 1), (Value.int .i64 ((n : Int))), (Value.int .i64 1)], Blk.own (gvC 1 n 1 s 0 0)] := ⟨_, rfl⟩
        rw [← eg1] at ng
        have og1 : ∀ y, y < hh.length → g1[y]? = hh[y]? := fun y hy => by rw [eg1, List.getElem?_append_left hy]
        have lg1 : g1.length = hh.length + 2 := by rw [eg1]; simp
        have kg1 : g1[hh.length + 1]? = some (.own (gvC 1 n 1 s 0 0)) := by rw [eg1, List.getElem?_append_right (by omega), Nat.add_sub_cancel_left]; rfl
        obtain ⟨h2, w2, k2, l2, f2⟩ := put_l' (md := md) ((og1 _ ltw).trans hW) (by omega) (by omega) 1 [(Value.pointer (some ⟨hh.length + 1, 0, none⟩))] [.pointer none, (Value.pointer (some ⟨hh.length + 1, 0, none⟩)), w.hv] (by simp) rfl
        have r22 : rd h2 w.wb 2 = some w.hv := by rw [rd_own k2]; rfl
        obtain ⟨hv', ef, Ht, hhv⟩ := H0.tail tInts
        obtain ⟨h3, w3, k3, l3, f3⟩ := put_l' (md := md) k2 (by omega) (by omega) 2 [hv'] [.pointer none, (Value.pointer (some ⟨hh.length + 1, 0, none⟩)), hv'] (by simp) rfl
        have hst3 : ∀ {α : Type} (kk : Heap → Option α), st md 1 ((Value.pointer (some ⟨w.wb, 2, none⟩))) hv' h2 kk = kk h3 := by
          intro α kk
          rcases Ht.sl.is with ⟨e, _⟩ | ⟨b', o', kb, e, _⟩ <;> subst e <;> simp only [go_sem, Nat.reduceAdd, Nat.reduceLeDiff, Nat.reduceMul, Int.reduceBEq, Int.reduceBNe, Int.reduceLT, Int.reduceLE, Int.reduceGT, w3]
        have V0 : (Ws.gv s 0 0).ok n := ⟨by omega, ⟨s0, s1⟩, .inl rfl⟩
        have hk3 : hv' = .slice none 0 0 ∨ h3[slB hv']? = hh[slB hv']? := by
          rcases hhv with e | e
          · exact .inl e
          · right; rw [e, f3 _ dh.2.2.2.1, f2 _ dh.2.2.2.1, og1 _ hlo.2]
        have P3 : WkOk h3 n0 n a b p { w with st := .gv s 0 0, kb := hh.length + 1, hv := hv', has := rest } := by
          refine ⟨k3, ?_, Ht.keep hk3, gw, fun _ => by show n0 ≤ hh.length + 1; omega, P.dw, fun _ => ⟨by show hh.length + 1 ≠ a; omega, by show hh.length + 1 ≠ b; omega, by show hh.length + 1 ≠ p; omega, by show hh.length + 1 ≠ w.wb; omega⟩, ?_, V0, fun y hy => P.R y (by rw [hhas]; exact List.mem_cons_of_mem _ hy), ?_⟩
          · show h3[hh.length + 1]? = _
            rw [f3 _ (by omega), f2 _ (by omega)]; exact kg1
          · rcases hhv with e | e
            · exact .inl e
            · right
              show slB hv' ≠ a ∧ slB hv' ≠ b ∧ slB hv' ≠ p ∧ slB hv' ≠ w.wb ∧ (_ → slB hv' ≠ hh.length + 1)
              rw [e]
              exact ⟨dh.1, dh.2.1, dh.2.2.1, dh.2.2.2.1, fun _ => by omega⟩
          · have := P.sz
            rw [hhas] at this
            simp only [List.length_cons] at this
            show rest.length ≤ 1000
            omega
        have A3 := A.same ((f3 a wa.symm).trans ((f2 a wa.symm).trans (og1 a lta))) ((f3 b wb'.symm).trans ((f2 b wb'.symm).trans (og1 b ltb)))
        have p3 : h3[p]? = some (.own (plC n a av)) := by rw [f3 p (Ne.symm wp), f2 p (Ne.symm wp), og1 p ltp]; exact hp
        have hsz3 : rest.length < 1000 := by
          rw [hhas] at hsz
          simp only [List.length_cons] at hsz
          omega
        obtain ⟨h', w', e', q1, q2, q3, A', P', l', f', g'⟩ := act_gv (md := md) (h := hh) P3 rfl M hn A3 hc hB p3 pa pb ga gb hro hlim (by omega) hsz3
        refine ⟨h', w', ?_, ⟨q1, q2⟩, q3, A', P', by omega, fun y hy ya yb yf => ?_, fun y hy => ?_, V0⟩
        · rw [C, call_eq, F27_eq]
          unfold F27
          simp only [go_sem, Nat.reduceAdd, Nat.reduceLeDiff, Nat.reduceMul, Int.reduceBEq, Int.reduceBNe, Int.reduceLT, Int.reduceLE, Int.reduceGT, r0, aBin_eqlN uTk, r1, aBin_eqlN uGv, r2, lenc, aBin_gtr, pos, rL, i0', rr0', ng, w2, r22, ef, hst3]
          exact e'
        · have hyw : y ≠ w.wb := fun e => yf (.inl e)
          rw [f' y (by omega) ya yb ?_, f3 y hyw, f2 y hyw, og1 y hy]
          intro q
          rcases q with q | ⟨_, q⟩ | ⟨q1, q⟩
          · exact hyw q
          · have q' : y = hh.length + 1 := q
            omega
          · have q' : y = slB hv' := q
            rcases hhv with e | e
            · exact q1 e
            · exact yf (.inr (.inr ⟨hvne, by rw [q', e]⟩))
        · rcases g' y hy with q | q
          · rcases q with q | ⟨_, q⟩ | ⟨q1, q⟩
            · exact .inl (.inl q)
            · have q' : y = hh.length + 1 := q
              exact .inr (by omega)
            · have q' : y = slB hv' := q
              rcases hhv with e | e
              · exact absurd e q1
              · exact .inl (.inr (.inr ⟨hvne, by rw [q', e]⟩))
          · exact .inr (by omega)
end Go.Det.E
