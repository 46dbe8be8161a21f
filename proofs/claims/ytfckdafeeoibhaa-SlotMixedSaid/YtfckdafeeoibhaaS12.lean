/- There are no more swaps that told false than others told true, times the other workers. -/
import Derived.Test.YtfckdafeeoibhaaS11
import Derived.Test.YtfckdafeeoibhaaS6
set_option autoImplicit false
set_option linter.unusedVariables false
set_option linter.unusedSimpArgs false
namespace Go.Det.E
open Go.Proofs Go.Det
attribute [local congr] bind_c cond_c
variable {md : Md} {h hh h' : Heap} {a b p n : Nat} {l c picks : List Int} {B : Int} {av v : Value} {ws : List Wk} {W : Nat}
theorem Sl.pread {hh : Heap} {v : Value} {xs : List Nat} (S : Sl hh 1 encP v xs) {i : Int} {x : Nat} (h0 : 0 ≤ i) (hx : xs[i.toNat]? = some x) :
    (∀ {α : Type} (kk : Value → Option α), ixS 1 v i kk = kk ((Value.pointer (some ⟨slB v, slO v + i.toNat, none⟩)))) ∧ rd hh (slB v) (slO v + i.toNat) = some ((Value.pointer (some ⟨x, 0, none⟩))) := by
  have h1 : i < xs.length := by have := (List.getElem?_eq_some_iff.1 hx).1; omega
  refine ⟨fun kk => ?_, ?_⟩
  · rw [S.ix h0 h1 kk, Nat.mul_one]
  · have := S.cell hx (j := 0) (by decide)
    rw [Nat.mul_one, Nat.add_zero] at this
    exact this
/-- One more worker. -/
theorem pg_add (hro : md.ro ≤ h.length) (hlim : md.lim ≤ h.length) (P : Pg h hh a b p n av ws l c B) (hB : 0 ≤ B) (hw : ws.length ≤ 100) :
    ∃ v2 h2 h3, (∀ {α : Type} (k : Value → Heap → Option α), aBuiltin Try.prog md .append #[45, 45] [av, (Value.slice (some ⟨hh.length + 1, 0, none⟩) 1 1)] (hh ++ [Blk.own [.pointer none, .pointer none, .slice none 0 0], Blk.own [(Value.pointer (some ⟨hh.length, 0, none⟩))]]) k = k v2 h2) ∧
      (∀ {α : Type} (kk : Heap → Option α), st md 1 ((Value.pointer (some ⟨p, 4, none⟩))) v2 h2 kk = kk h3) ∧ Pg h h3 a b p n v2 (ws ++ [⟨hh.length, 0, .slice none 0 0, .idle, []⟩]) l c B ∧ h2[p]? = some (.own (plC n a av)) := by
  have P1 := P.app [Blk.own [.pointer none, .pointer none, .slice none 0 0]]
  have ol := P.O.len
  obtain ⟨g, eg⟩ : ∃ g, g = hh ++ [Blk.own [.pointer none, .pointer none, .slice none 0 0]] := ⟨_, rfl⟩
  rw [← eg] at P1
  have lg : g.length = hh.length + 1 := by rw [eg]; simp
  have wg : g[hh.length]? = some (.own [.pointer none, .pointer none, .slice none 0 0]) := by rw [eg]; simp
  obtain ⟨v2, h2, ea, S2, l2, f2⟩ := append_own2 (md := md) (ys := [hh.length]) tP P1.AL (by omega) (by omega) (cs := [(Value.pointer (some ⟨hh.length, 0, none⟩))]) (by simp [flat]) (by simp) rfl (by simp; omega)
  have alo := P.AL.lo
  have ltp := lt_of P1.hp
  have p2 : h2[p]? = some (.own (plC n a av)) := by rw [f2 p ltp (P.dap.imp id fun d => Ne.symm d.2.2)]; exact P1.hp
  obtain ⟨h3, w3, k3, l3, f3⟩ := put_l' (md := md) p2 (by have := P.ge; omega) (by have := P.ge; omega) 4 [v2] (plC n a v2) (by simp) rfl
  have hst : ∀ {α : Type} (kk : Heap → Option α), st md 1 ((Value.pointer (some ⟨p, 4, none⟩))) v2 h2 kk = kk h3 := by
    intro α kk
    rcases S2.sl.is with ⟨e, _⟩ | ⟨b', o', kb, e, _⟩ <;> subst e <;> simp only [go_sem, Nat.reduceAdd, Nat.reduceLeDiff, Nat.reduceMul, Int.reduceBEq, Int.reduceBNe, Int.reduceLT, Int.reduceLE, Int.reduceGT, w3]
  have s2b := S2.lo
  have lta := lt_of P1.A.ha
  have ltb := lt_of P1.A.hb
  have keep : ∀ y, y < g.length → y ≠ p → (av = .slice none 0 0 ∨ y ≠ slB av) → h3[y]? = g[y]? := fun y hy hp ha => by rw [f3 y hp, f2 y hy ha]
  have pnf : ∀ (i : Nat) (w : Wk), ws[i]? = some w → ¬ wf w p := by
    intro i w hw hy
    have wi' := P.oks i w hw
    rcases hy with e | ⟨hb, e⟩ | ⟨hnil, e⟩
    · exact wi'.dw.2.2 e.symm
    · exact (wi'.dk hb).2.2.1 e.symm
    · exact (wi'.dh.resolve_left hnil).2.2.1 e.symm
  have wnew : h3[hh.length]? = some (.own [.pointer none, .pointer none, .slice none 0 0]) := by
    rw [keep hh.length (by omega) (by have := lt_of P.hp; omega) (alo.imp id fun q => by omega)]; exact wg
  have get : ∀ (i : Nat) (u : Wk), (ws ++ [⟨hh.length, 0, .slice none 0 0, .idle, []⟩])[i]? = some u → ws[i]? = some u ∨ (i = ws.length ∧ u = ⟨hh.length, 0, .slice none 0 0, .idle, []⟩) := by
    intro i u hu
    by_cases hi : i < ws.length
    · rw [List.getElem?_append_left hi] at hu; exact .inl hu
    · rw [List.getElem?_append_right (by omega)] at hu
      by_cases e : i = ws.length
      · subst e; simp at hu; exact .inr ⟨rfl, hu.symm⟩
      · have : (([⟨hh.length, 0, .slice none 0 0, .idle, []⟩] : List Wk))[i - ws.length]? = none := List.getElem?_eq_none (by simp; omega)
        rw [this] at hu; cases hu
  have newf : ∀ y, wf ⟨hh.length, 0, .slice none 0 0, .idle, []⟩ y → y = hh.length := by
    intro y hy
    rcases hy with e | ⟨hb, _⟩ | ⟨hn, _⟩
    · exact e
    · exact hb.elim
    · exact absurd rfl hn
  refine ⟨v2, h2, h3, ?_, hst, ⟨P1.A.same (keep a lta (Ne.symm P.pab.1) (P.dap.imp id fun d => Ne.symm d.1)) (keep b ltb (Ne.symm P.pab.2) (P.dap.imp id fun d => Ne.symm d.2.1)), P.M, P.C, k3, ?_, fun i u hu => ?_, fun i j u v' hij hu hv y hy => ?_, fun i u hu y hy => ?_, s2b.imp id fun q => by omega, P.pab, P.ge, ⟨by omega, fun y hy => ?_⟩, fun i u hu => ?_⟩, p2⟩
  · intro α k
    have := ea k
    rw [eg] at this
    simpa using this
  · rw [List.map_append]
    exact ((S2.mono (by omega)).keep (s2b.imp id fun q => f3 _ (by omega)))
  · rcases get i u hu with hu' | ⟨_, rfl⟩
    · refine (P1.oks i u hu').keep fun y hy => keep y ((P1.oks i u hu').lt y hy) (fun e => pnf i u hu' (e ▸ hy)) ?_
      exact P.dav i u hu' y hy
    · have := lt_of P.A.ha
      have := lt_of P.A.hb
      have := lt_of P.hp
      exact ⟨wnew, trivial, SlO.nil _ _ encI_len, ol, fun h => h.elim, ⟨by show hh.length ≠ a; omega, by show hh.length ≠ b; omega, by show hh.length ≠ p; omega⟩, fun h => h.elim, .inl rfl, trivial, fun x hx => by simp at hx, by simp⟩
  · rcases get i u hu with hu' | ⟨hi, rfl⟩
    · rcases get j v' hv with hv' | ⟨hj, rfl⟩
      · exact P.dis i j u v' hij hu' hv' y hy
      · intro q
        have := newf y q
        have := (P.oks i u hu').lt y hy
        omega
    · rcases get j v' hv with hv' | ⟨hj, rfl⟩
      · intro q
        have := newf y hy
        have := (P.oks j v' hv').lt y q
        omega
      · exact absurd (hi.trans hj.symm) hij
  · rcases get i u hu with hu' | ⟨_, rfl⟩
    · have := (P1.oks i u hu').lt y hy
      exact s2b.imp id fun q => by omega
    · have := newf y hy
      exact s2b.imp id fun q => by omega
  · rw [keep y (by omega) (by have := P.ge; omega) (alo.imp id fun q => by omega)]
    exact P1.O.old y hy
  · rcases get i u hu with hu' | ⟨_, rfl⟩
    · exact P.hs i u hu'
    · simpa using hB
theorem misses_fill (s6 : Value) (hB : 0 ≤ B) (hW : W ≤ 8) : ∀ (m k : Nat) (hh : Heap) (av : Value) (ws : List Wk), k + m = W → Pg h hh a b p n av ws l c B → ws.length = k → (∀ w ∈ ws, w.st = .idle) →
    ∃ av' hf wsf, J5_0 C ⟨0, h.length⟩ h ((Value.int .i64 ((W : Int)))) v s6 ((Value.pointer (some ⟨p, 0, none⟩))) ((Value.int .i64 ((W : Int)))) ((Value.int .i64 ((k : Int)))) hh = J5_1 C ⟨0, h.length⟩ h ((Value.int .i64 ((W : Int)))) v s6 ((Value.pointer (some ⟨p, 0, none⟩))) hf ∧ Pg h hf a b p n av' wsf l c B ∧ wsf.length = W ∧ (∀ w ∈ wsf, w.st = .idle) := by
  intro m
  induction m with
  | zero =>
    intro k hh av ws hk P hl hi
    obtain rfl : k = W := by omega
    refine ⟨av, hh, ws, ?_, P, hl, hi⟩
    rw [J5_0_step]
    unfold Jr5_0
    simp only [go_sem, Nat.reduceAdd, Nat.reduceLeDiff, Nat.reduceMul, Int.reduceBEq, Int.reduceBNe, Int.reduceLT, Int.reduceLE, Int.reduceGT, aBin_lss, Int.lt_irrefl, Jk5_0]
  | succ m ih =>
    intro k hh av ws hk P hl hi
    have hlt : (k : Int) < (W : Int) := by omega
    have w : IntKind.wrap .i64 ((k : Int) + 1) = ((k + 1 : Nat) : Int) := by rw [wi (by omega) (by omega)]; rfl
    have r4 : rd hh p 4 = some av := by rw [rd_own P.hp]; rfl
    obtain ⟨v2, h2, h3, ea, es, P3, _⟩ := pg_add (md := ⟨0, h.length⟩) (Nat.zero_le _) (Nat.le_refl _) P hB (by omega)
    obtain ⟨av', hf, wsf, e', P', hl', hi'⟩ := ih (k + 1) h3 v2 _ (by omega) P3 (by simp; omega) (by
      intro u hu
      rcases List.mem_append.1 hu with h | h
      · exact hi u h
      · simp only [List.mem_singleton] at h; subst h; rfl)
    refine ⟨av', hf, wsf, ?_, P', hl', hi'⟩
    rw [J5_0_step]
    unfold Jr5_0
    simp only [go_sem, Nat.reduceAdd, Nat.reduceLeDiff, Nat.reduceMul, Int.reduceBEq, Int.reduceBNe, Int.reduceLT, Int.reduceLE, Int.reduceGT, aBin_lss, hlt, r4, ea, es, aBin_add, w]
    exact e'
theorem misses_loop (SV : Sl h 1 encI v picks) (hlen : picks.length ≤ 200) (hn : n ≤ 48) (s6 : Value) (hW : 1 ≤ W ∧ W ≤ 8) : ∀ (m k : Nat) (hh : Heap) (ws : List Wk) (l c : List Int) (B : Int), k + m = picks.length → Pg h hh a b p n av ws l c B → ws.length = W → Pot ws l c → 0 ≤ B → B + m ≤ 300 →
    ∃ g, J5_2 C ⟨0, h.length⟩ h ((Value.int .i64 ((W : Int)))) s6 ((Value.pointer (some ⟨p, 0, none⟩))) v ((Value.int .i64 ((picks.length : Int)))) ((Value.int .i64 ((k : Int)))) hh = some ((Value.bool true), g) := by
  intro m
  induction m with
  | zero =>
    intro k hh ws l c B hk P hl hp hB0 hB
    obtain rfl : k = picks.length := by omega
    refine ⟨hh.take h.length, ?_⟩
    rw [J5_2_step]
    unfold Jr5_2
    simp only [go_sem, Nat.reduceAdd, Nat.reduceLeDiff, Nat.reduceMul, Int.reduceBEq, Int.reduceBNe, Int.reduceLT, Int.reduceLE, Int.reduceGT, aBin_lss, Int.lt_irrefl, Jk5_2, awake07]
  | succ m ih =>
    intro k hh ws l c B hk P hl hp hB0 hB
    have hlt : (k : Int) < (picks.length : Int) := by omega
    obtain ⟨x, hx⟩ : ∃ x, picks[k]? = some x := ⟨picks[k]'(by omega), List.getElem?_eq_getElem (by omega)⟩
    have S0 : Sl hh 1 encI v picks := SV.heap fun hl => P.O.old _ hl
    obtain ⟨ix, el⟩ := Sl.readn S0 hx
    have w : IntKind.wrap .i64 ((k : Int) + 1) = ((k + 1 : Nat) : Int) := by rw [wi (by omega) (by omega)]; rfl
    by_cases hneg : x < 0
    · obtain ⟨g, eg⟩ := ih (k + 1) hh ws l c B (by omega) P hl hp hB0 (by omega)
      refine ⟨g, ?_⟩
      rw [J5_2_step]
      unfold Jr5_2
      simp only [go_sem, Nat.reduceAdd, Nat.reduceLeDiff, Nat.reduceMul, Int.reduceBEq, Int.reduceBNe, Int.reduceLT, Int.reduceLE, Int.reduceGT, aBin_lss, hlt, ix, el, hneg, aBin_add, w]
      exact eg
    · have hW0 : (W : Int) ≠ 0 := by omega
      have tm : Int.tmod x W = x % W := Int.tmod_eq_emod_of_nonneg (by omega)
      have m0 : 0 ≤ x % (W : Int) := Int.emod_nonneg _ hW0
      have m1 : x % (W : Int) < W := Int.emod_lt_of_pos _ (by omega)
      obtain ⟨wk, hwk⟩ : ∃ wk, ws[(x % (W : Int)).toNat]? = some wk := ⟨ws[(x % (W : Int)).toNat]'(by omega), List.getElem?_eq_getElem (by omega)⟩
      have rav : rd hh p 4 = some av := by rw [rd_own P.hp]; rfl
      obtain ⟨ip, rp⟩ := Sl.pread P.AL.sl (i := x % (W : Int)) (x := wk.wb) m0 (by rw [List.getElem?_map, hwk]; rfl)
      obtain ⟨h', w', e', q1, q2, P', V'⟩ := pg_step (md := ⟨0, h.length⟩) (Nat.zero_le _) (Nat.le_refl _) P hn (by omega) hwk (by have := P.hs _ _ hwk; omega) (Int.tmod (IntKind.wrap .i64 (Int.tdiv x W)) 2 == 1)
      have pot' := pot_step (has := (wk.st.beg (Int.tmod (IntKind.wrap .i64 (Int.tdiv x W)) 2 == 1) wk.has).2) hwk V' P.M P.C (by omega) (stale_beg _) q1.1 hp
      obtain ⟨l', hl'⟩ : ∃ l', l' = (Ws.act n l c (wk.st.beg (Int.tmod (IntKind.wrap .i64 (Int.tdiv x W)) 2 == 1) wk.has).1 (wk.st.beg (Int.tmod (IntKind.wrap .i64 (Int.tdiv x W)) 2 == 1) wk.has).2).1 := ⟨_, rfl⟩
      obtain ⟨c', hc'⟩ : ∃ c', c' = (Ws.act n l c (wk.st.beg (Int.tmod (IntKind.wrap .i64 (Int.tdiv x W)) 2 == 1) wk.has).1 (wk.st.beg (Int.tmod (IntKind.wrap .i64 (Int.tdiv x W)) 2 == 1) wk.has).2).2.1 := ⟨_, rfl⟩
      rw [← hl', ← hc'] at P' pot'
      have hc5 := P'.C
      obtain ⟨c0, c1, c2, c3, c4, hce, b0, b1, b2, b3, b4⟩ := hc5
      have hsl : (ws.set (x % (W : Int)).toNat w').length = W := by simpa using hl
      have hpot := pot'
      unfold Pot at hpot
      have hst0 : 0 ≤ stales l' (ws.set (x % (W : Int)).toNat w') := (sum_le _ (by
        intro y hy
        obtain ⟨u, _, rfl⟩ := List.mem_map.1 hy
        exact stale_01 l' u.st)).1
      rw [hce, hsl] at hpot
      simp only [List.getD_cons_zero, List.getD_cons_succ] at hpot
      have hle : c3 ≤ c2 * ((W : Int) - 1) := by omega
      have e3 := fun (m : Md) => counts_x (md := m) (hce ▸ P'.A)
      have r3' : rd h' p 3 = some ((Value.pointer (some ⟨a, 0, none⟩))) := by rw [rd_own P'.hp]; rfl
      have lh' := P'.O.len
      have P9 := P'.app [Blk.own [(Value.int .i64 c0), (Value.int .i64 c1), (Value.int .i64 c2), (Value.int .i64 c3), (Value.int .i64 c4)]]
      have hm0 : 0 ≤ c2 * ((W : Int) - 1) := Int.mul_nonneg b2.1 (by omega)
      have hm1 : c2 * ((W : Int) - 1) ≤ 1000 * 8 := Int.mul_le_mul (by omega) (by omega) (by omega) (by omega)
      have ws1 : IntKind.wrap .i64 ((W : Int) - 1) = (W : Int) - 1 := wi (by omega) (by omega)
      have ws2 : IntKind.wrap .i64 (c2 * ((W : Int) - 1)) = c2 * ((W : Int) - 1) := wi (by omega) (by omega)
      have ng : ¬ c2 * ((W : Int) - 1) < c3 := by omega
      have two : (2 : Int) ≠ 0 := by decide
      obtain ⟨g, eg⟩ := ih (k + 1) _ _ l' c' (B + 1) (by omega) P9 hsl pot' (by omega) (by omega)
      refine ⟨g, ?_⟩
      rw [J5_2_step]
      unfold Jr5_2
      simp only [go_sem, Nat.reduceAdd, Nat.reduceLeDiff, Nat.reduceMul, Int.reduceBEq, Int.reduceBNe, Int.reduceLT, Int.reduceLE, Int.reduceGT, aBin_lss, hlt, ix, el, hneg, rav, aBin_rem hW0, tm, ip, rp, aBin_quo hW0, aBin_rem two, aBin_eql, e', r3', e3, lh', aBin_sub, ws1, aBin_mul, ws2, aBin_gtr, ng, aBin_add, w]
      exact eg
theorem misses_law : Law Try.prog cfg 5 [3, 3, 22] := by
  intro h avs ha
  obtain ⟨x, r, rfl, a0, ha⟩ := args_cons ha
  obtain ⟨y, r, rfl, a1, ha⟩ := args_cons ha
  obtain ⟨v, r, rfl, a2, ha⟩ := args_cons ha
  obtain rfl := args_nil ha
  obtain ⟨z, rfl, z0, z1⟩ := inI64 (arg1 (P := Try.prog) (by kernel_rfl) (by kernel_rfl) a0)
  obtain ⟨q, rfl, q0, q1⟩ := inI64 (arg1 (P := Try.prog) (by kernel_rfl) (by kernel_rfl) a1)
  obtain ⟨picks, SV, hm⟩ := arg_ints a2
  have len := fun {α : Type} (k : Value → Option α) => SV.len k
  rw [call_eq, F5_eq]
  unfold F5
  have st3 := fun (h' : Heap) (kk : Heap → Option (Value × Heap)) => st_N ⟨0, h.length⟩ 3 h.length 0 [(Value.int .i64 1), (Value.int .i64 z), (Value.int .i64 1)] h' kk rfl rfl
  by_cases hz : z < 0
  · exact ⟨(h ++ [Blk.own [(Value.int .i64 1), (Value.int .i64 z), (Value.int .i64 1)]]).take h.length, by simp only [go_sem, Nat.reduceAdd, Nat.reduceLeDiff, Nat.reduceMul, Int.reduceBEq, Int.reduceBNe, Int.reduceLT, Int.reduceLE, Int.reduceGT, hz, awake07]⟩
  by_cases hz2 : 48 < z
  · exact ⟨(h ++ [Blk.own [(Value.int .i64 1), (Value.int .i64 z), (Value.int .i64 1)]]).take h.length, by simp only [go_sem, Nat.reduceAdd, Nat.reduceLeDiff, Nat.reduceMul, Int.reduceBEq, Int.reduceBNe, Int.reduceLT, Int.reduceLE, Int.reduceGT, hz, aBin_gtr, hz2, awake07]⟩
  by_cases hq : q < 1
  · exact ⟨(h ++ [Blk.own [(Value.int .i64 1), (Value.int .i64 z), (Value.int .i64 1)]]).take h.length, by simp only [go_sem, Nat.reduceAdd, Nat.reduceLeDiff, Nat.reduceMul, Int.reduceBEq, Int.reduceBNe, Int.reduceLT, Int.reduceLE, Int.reduceGT, hz, aBin_gtr, hz2, aBin_lss, hq, awake07]⟩
  by_cases hq2 : 8 < q
  · exact ⟨(h ++ [Blk.own [(Value.int .i64 1), (Value.int .i64 z), (Value.int .i64 1)]]).take h.length, by simp only [go_sem, Nat.reduceAdd, Nat.reduceLeDiff, Nat.reduceMul, Int.reduceBEq, Int.reduceBNe, Int.reduceLT, Int.reduceLE, Int.reduceGT, hz, aBin_gtr, hz2, aBin_lss, hq, hq2, awake07]⟩
  by_cases h200 : (200 : Int) < picks.length
  · exact ⟨(h ++ [Blk.own [(Value.int .i64 1), (Value.int .i64 z), (Value.int .i64 1)]]).take h.length, by simp only [go_sem, Nat.reduceAdd, Nat.reduceLeDiff, Nat.reduceMul, Int.reduceBEq, Int.reduceBNe, Int.reduceLT, Int.reduceLE, Int.reduceGT, hz, aBin_gtr, hz2, aBin_lss, hq, hq2, len, h200, awake07]⟩
  obtain ⟨n, rfl⟩ : ∃ n : Nat, z = n := ⟨z.toNat, by omega⟩
  obtain ⟨W, rfl⟩ : ∃ W : Nat, q = W := ⟨q.toNat, by omega⟩
  have hn : n ≤ 48 := by omega
  obtain ⟨h1, a, b, l, e1, A1, O1, la, lb, w1, hl1, F1⟩ := begun07 (n := n) ⟨0, h.length⟩ (h ++ [Blk.own [(Value.int .i64 1), (Value.int .i64 ((n : Int))), (Value.int .i64 1)]]) hn (Nat.zero_le _) (by simp)
  simp only [List.length_append, List.length_cons, List.length_nil] at la lb O1
  have l1 := O1.len
  simp only [List.length_append, List.length_cons, List.length_nil] at l1
  have lta := lt_of A1.ha
  have ltb := lt_of A1.hb
  have q1' : h1[h.length]? = some (.own [(Value.int .i64 1), (Value.int .i64 ((n : Int))), (Value.int .i64 1)]) := (O1.old _ (by omega)).trans (by simp)
  have rL1 : rdN h1 h.length 0 3 = some [(Value.int .i64 1), (Value.int .i64 ((n : Int))), (Value.int .i64 1)] := by rw [rdN_own q1' (by simp)]; rfl
  have bP : ∀ {α : Type} (k : Value → Option α), aBuild Try.prog 47 [(0, (Value.agg #[(Value.int .i64 1), (Value.int .i64 ((n : Int))), (Value.int .i64 1)])), (1, (Value.pointer (some ⟨a, 0, none⟩)))] k = k ((Value.agg (List.toArray (plC n a (.slice none 0 0))))) := fun k => by kernel_rfl
  have fr : ∀ (xs : List Int) (nx : Int), Fr n 1 l nx xs → (∀ s ∈ xs, getI l (Ox n 1 s 0) ≤ n) ∧ nx ≤ n := by
    intro xs
    induction xs with
    | nil => intro nx hF; exact ⟨fun s hs => by simp at hs, by have : nx = 0 := hF; omega⟩
    | cons s xs ih =>
      intro nx hF
      obtain ⟨f1, f2, f3, f4⟩ := hF
      obtain ⟨g1, g2⟩ := ih _ f4
      refine ⟨fun t ht => ?_, by omega⟩
      rcases List.mem_cons.1 ht with rfl | ht
      · exact g2
      · exact g1 t ht
  obtain ⟨fr1, fr2⟩ := fr _ _ F1
  have M : Mem n l := ⟨w1, hl1, fr2, fun s h0 h1 => fr1 s (by
    rw [List.mem_map]
    exact ⟨s.toNat, List.mem_range.2 (by omega), by omega⟩)⟩
  have P : Pg h (h1 ++ [Blk.own (plC n a (.slice none 0 0))]) a b h1.length n (.slice none 0 0) [] l [0, if n = 0 then 1 else n + 2, 0, 0, 0] 60 := by
    refine ⟨A1.app _, M, ⟨_, _, _, _, _, rfl, by omega, by split <;> omega, by omega, by omega, rfl⟩, by simp, SlO.nil _ _ encP_len, fun i w h => by simp at h, fun i j w v _ h => by simp at h, fun i w h => by simp at h, .inl rfl, ⟨by omega, by omega⟩, ⟨by omega, by omega, by omega⟩,
      ⟨by simp; omega, fun y hy => by rw [List.getElem?_append_left (by omega), O1.old y (by omega), List.getElem?_append_left hy]⟩, fun i w h => by simp at h⟩
  obtain ⟨av, h2, ws, e2, P2, hl2, hi2⟩ := misses_fill (v := v) ((Value.bool false)) (by omega) (by omega : W ≤ 8) W 0 _ _ [] (by omega) P rfl (by simp)
  have pot : Pot ws l [0, if n = 0 then 1 else n + 2, 0, 0, 0] := by
    unfold Pot stales
    have : ws.map (fun w => stale l w.st) = ws.map (fun _ => 0) := by
      apply List.map_congr_left
      intro u hu
      rw [hi2 u hu]; rfl
    rw [this]
    have hz : ∀ xs : List Wk, (xs.map fun _ => (0 : Int)).sum = 0 := by
      intro xs
      induction xs with
      | nil => rfl
      | cons u xs ih => simp only [List.map_cons, List.sum_cons, ih]; rfl
    rw [hz]
    simp
  obtain ⟨g, eg⟩ := misses_loop SV (by omega) hn ((Value.bool false)) ⟨by omega, by omega⟩ picks.length 0 h2 ws l _ 60 (by omega) P2 hl2 pot (by omega) (by omega)
  have rp3 : rd (h1 ++ [Blk.own (plC n a (.slice none 0 0))]) h1.length 3 = some ((Value.pointer (some ⟨a, 0, none⟩))) := by rw [rd_own P.hp]; rfl
  refine ⟨g, ?_⟩
  simp only [go_sem, Nat.reduceAdd, Nat.reduceLeDiff, Nat.reduceMul, Int.reduceBEq, Int.reduceBNe, Int.reduceLT, Int.reduceLE, Int.reduceGT, hz, aBin_gtr, hz2, aBin_lss, hq, hq2, len, h200, e1, rL1, cLE_t, bP, cells_agg, rp3, aBin_eqlP uPa]
  refine Eq.trans e2 ?_
  unfold J5_1
  simp only [go_sem, Nat.reduceAdd, Nat.reduceLeDiff, Nat.reduceMul, Int.reduceBEq, Int.reduceBNe, Int.reduceLT, Int.reduceLE, Int.reduceGT, len]
  exact eg
end Go.Det.E
