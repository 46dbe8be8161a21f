/- At every moment, whatever goes on, the free slots are a row of slots that are there, each once, none of which anybody has. -/
import Derived.Test.YtfckdafeeoibhaaS14
set_option autoImplicit false
set_option linter.unusedVariables false
set_option linter.unusedSimpArgs false
namespace Go.Det.E
open Go.Proofs Go.Det
attribute [local congr] bind_c cond_c
variable {md : Md} {h hh h' : Heap} {a b p n : Nat} {l c picks free : List Int} {B : Int} {av v : Value} {ws : List Wk} {W : Nat}
abbrev ly (n : Nat) : Blk := Blk.own [(Value.int .i64 1), (Value.int .i64 ((n : Int))), (Value.int .i64 1)]
theorem rows_fill (s0 s6 s7 : Value) (hB : 0 ≤ B) (hW : W ≤ 8) : ∀ (m k : Nat) (hh : Heap) (av : Value) (ws : List Wk), k + m = W → Pg (h ++ [ly n]) hh a b p n av ws l c B → ws.length = k → (∀ w ∈ ws, w.st = .idle ∧ w.has = []) →
    ∃ av' hf wsf, J6_0 C ⟨0, h.length⟩ h s0 ((Value.int .i64 ((W : Int)))) v s6 s7 ((Value.pointer (some ⟨p, 0, none⟩))) ((Value.int .i64 ((W : Int)))) ((Value.int .i64 ((k : Int)))) hh = J6_1 C ⟨0, h.length⟩ h s0 ((Value.int .i64 ((W : Int)))) v s6 s7 ((Value.pointer (some ⟨p, 0, none⟩))) hf ∧ Pg (h ++ [ly n]) hf a b p n av' wsf l c B ∧ wsf.length = W ∧ (∀ w ∈ wsf, w.st = .idle ∧ w.has = []) := by
  intro m
  induction m with
  | zero =>
    intro k hh av ws hk P hl hi
    obtain rfl : k = W := by omega
    refine ⟨av, hh, ws, ?_, P, hl, hi⟩
    rw [J6_0_step]
    unfold Jr6_0
    simp only [go_sem, Nat.reduceAdd, Nat.reduceLeDiff, Nat.reduceMul, Int.reduceBEq, Int.reduceBNe, Int.reduceLT, Int.reduceLE, Int.reduceGT, aBin_lss, Int.lt_irrefl, Jk6_0]
  | succ m ih =>
    intro k hh av ws hk P hl hi
    have hlt : (k : Int) < (W : Int) := by omega
    have w : IntKind.wrap .i64 ((k : Int) + 1) = ((k + 1 : Nat) : Int) := by rw [wi (by omega) (by omega)]; rfl
    have r4 : rd hh p 4 = some av := by rw [rd_own P.hp]; rfl
    obtain ⟨v2, h2, h3, ea, es, P3, _⟩ := pg_add (md := ⟨0, h.length⟩) (Nat.zero_le _) (by simp) P hB (by omega)
    obtain ⟨av', hf, wsf, e', P', hl', hi'⟩ := ih (k + 1) h3 v2 _ (by omega) P3 (by simp; omega) (by
      intro u hu
      rcases List.mem_append.1 hu with h | h
      · exact hi u h
      · simp only [List.mem_singleton] at h; subst h; exact ⟨rfl, rfl⟩)
    refine ⟨av', hf, wsf, ?_, P', hl', hi'⟩
    rw [J6_0_step]
    unfold Jr6_0
    simp only [go_sem, Nat.reduceAdd, Nat.reduceLeDiff, Nat.reduceMul, Int.reduceBEq, Int.reduceBNe, Int.reduceLT, Int.reduceLE, Int.reduceGT, aBin_lss, hlt, r4, ea, es, aBin_add, w]
    exact e'
theorem rows_loop (SV : Sl h 1 encI v picks) (hlen : picks.length ≤ 200) (hn : n ≤ 48) (s6 : Value) (hW : 1 ≤ W ∧ W ≤ 8) : ∀ (m k : Nat) (hh : Heap) (ws : List Wk) (l c free : List Int) (B : Int), k + m = picks.length → Pg (h ++ [ly n]) hh a b p n av ws l c B → ws.length = W → SI n B l ws free → 0 ≤ B → B + m * 50 ≤ 20000 →
    ∃ g, J6_2 C ⟨0, h.length⟩ h ((Value.int .i64 ((n : Int)))) ((Value.int .i64 ((W : Int)))) s6 ((Value.pointer (some ⟨h.length, 0, none⟩))) ((Value.pointer (some ⟨p, 0, none⟩))) v ((Value.int .i64 ((picks.length : Int)))) ((Value.int .i64 ((k : Int)))) hh = some ((Value.bool true), g) := by
  intro m
  induction m with
  | zero =>
    intro k hh ws l c free B hk P hl I hB0 hB
    obtain rfl : k = picks.length := by omega
    refine ⟨hh.take h.length, ?_⟩
    rw [J6_2_step]
    unfold Jr6_2
    simp only [go_sem, Nat.reduceAdd, Nat.reduceLeDiff, Nat.reduceMul, Int.reduceBEq, Int.reduceBNe, Int.reduceLT, Int.reduceLE, Int.reduceGT, aBin_lss, Int.lt_irrefl, Jk6_2, awake07]
  | succ m ih =>
    intro k hh ws l c free B hk P hl I hB0 hB
    have hlt : (k : Int) < (picks.length : Int) := by omega
    obtain ⟨x, hx⟩ : ∃ x, picks[k]? = some x := ⟨picks[k]'(by omega), List.getElem?_eq_getElem (by omega)⟩
    have S0 : Sl hh 1 encI v picks := SV.heap fun hl => (P.O.old _ (by simp; omega)).trans (List.getElem?_append_left hl)
    obtain ⟨ix, el⟩ := Sl.readn S0 hx
    have w : IntKind.wrap .i64 ((k : Int) + 1) = ((k + 1 : Nat) : Int) := by rw [wi (by omega) (by omega)]; rfl
    by_cases hneg : x < 0
    · obtain ⟨g, eg⟩ := ih (k + 1) hh ws l c free B (by omega) P hl I hB0 (by omega)
      refine ⟨g, ?_⟩
      rw [J6_2_step]
      unfold Jr6_2
      simp only [go_sem, Nat.reduceAdd, Nat.reduceLeDiff, Nat.reduceMul, Int.reduceBEq, Int.reduceBNe, Int.reduceLT, Int.reduceLE, Int.reduceGT, aBin_lss, hlt, ix, el, hneg, aBin_add, w]
      exact eg
    · have hW0 : (W : Int) ≠ 0 := by omega
      have tm : Int.tmod x W = x % W := Int.tmod_eq_emod_of_nonneg (by omega)
      have m0 : 0 ≤ x % (W : Int) := Int.emod_nonneg _ hW0
      have m1 : x % (W : Int) < W := Int.emod_lt_of_pos _ (by omega)
      obtain ⟨wk, hwk⟩ : ∃ wk, ws[(x % (W : Int)).toNat]? = some wk := ⟨ws[(x % (W : Int)).toNat]'(by omega), List.getElem?_eq_getElem (by omega)⟩
      have rav : rd hh p 4 = some av := by rw [rd_own P.hp]; rfl
      obtain ⟨ip, rp⟩ := Sl.pread P.AL.sl (i := x % (W : Int)) (x := wk.wb) m0 (by rw [List.getElem?_map, hwk]; rfl)
      obtain ⟨h', w', e', q1, q2, P', V'⟩ := pg_step (md := ⟨0, h.length⟩) (Nat.zero_le _) (by simp) P hn (by omega) hwk (by have := has_len I hwk; omega) (Int.tmod (IntKind.wrap .i64 (Int.tdiv x W)) 2 == 1)
      obtain ⟨free', I'⟩ := si_step (c := c) I P.M hn ⟨hB0, by omega⟩ hwk (Int.tmod (IntKind.wrap .i64 (Int.tdiv x W)) 2 == 1) V' q1.1 q1.2
      obtain ⟨l', hl'⟩ : ∃ l', l' = (Ws.act n l c (wk.st.beg (Int.tmod (IntKind.wrap .i64 (Int.tdiv x W)) 2 == 1) wk.has).1 (wk.st.beg (Int.tmod (IntKind.wrap .i64 (Int.tdiv x W)) 2 == 1) wk.has).2).1 := ⟨_, rfl⟩
      obtain ⟨c', hc'⟩ : ∃ c', c' = (Ws.act n l c (wk.st.beg (Int.tmod (IntKind.wrap .i64 (Int.tdiv x W)) 2 == 1) wk.has).1 (wk.st.beg (Int.tmod (IntKind.wrap .i64 (Int.tdiv x W)) 2 == 1) wk.has).2).2.1 := ⟨_, rfl⟩
      rw [← hl', ← hc'] at P'
      rw [← hl'] at I'
      have hsl : (ws.set (x % (W : Int)).toNat w').length = W := by simpa using hl
      have two : (2 : Int) ≠ 0 := by decide
      -- a new map, the free slots
      have lo := P'.O.len
      simp only [List.length_append, List.length_cons, List.length_nil] at lo
      have lta := lt_of P'.A.ha
      have ltb := lt_of P'.A.hb
      have ltp := lt_of P'.hp
      obtain ⟨h1, e1⟩ : ∃ h1, h1 = h' ++ [Blk.mp .i64 []] := ⟨_, rfl⟩
      have l1 : h1.length = h'.length + 1 := by rw [e1]; simp
      have o1 : OG a b h' h1 := by rw [e1]; exact OG.refl.app _
      have A1 : Ar h1 a b l' c' := by rw [e1]; exact P'.A.app _
      have mb1 : h1[h'.length]? = some (.mp .i64 []) := by rw [e1]; simp
      have r3 : rd h1 p 3 = some ((Value.pointer (some ⟨a, 0, none⟩))) := by rw [rd_own ((o1.oth p ltp P'.pab.1 P'.pab.2).trans P'.hp)]; rfl
      have mo := fun (m : Md) => memof_s m h1 (lt_of A1.ha)
      have lq : ∀ {g : Heap}, OG a b h' g → rdN g h.length 0 3 = some [(Value.int .i64 1), (Value.int .i64 ((n : Int))), (Value.int .i64 1)] := by
        intro g og
        have hq : g[h.length]? = some (ly n) := by
          have gge := P'.ge
          simp only [List.length_append, List.length_cons, List.length_nil] at gge
          rw [og.oth h.length (by omega) (by omega) (by omega), P'.O.old h.length (by simp)]
          simp
        rw [rdN_own hq (by simp)]; rfl
      have rq := lq o1
      obtain ⟨fv, h2, c2, e2, S2, A2, o2, C2⟩ := list_c (md := ⟨0, h.length⟩) (rt1 hn) A1 P'.M.w (Nat.zero_le _) (Nat.zero_le _) (by show h.length ≤ h1.length; omega) I'.F I'.len
      have hC2 := C2 (B + 1) P'.C (by have := I'.len; omega)
      have mb2 : h2[h'.length]? = some (.mp .i64 []) := (o2.oth _ (by omega) (by omega) (by omega)).trans mb1
      have fvlo := S2.lo
      have lenF := fun {α : Type} (kk : Value → Option α) => S2.sl.len kk
      obtain ⟨h3, es, e3, mb3, Q3, l3, f3⟩ := rows_put (md := ⟨0, h.length⟩) (n := n) (fv := fv) (s1 := (Value.int .i64 ((W : Int)))) (s6 := s6) (s7 := (Value.pointer (some ⟨h.length, 0, none⟩))) (s8 := (Value.pointer (some ⟨p, 0, none⟩))) (s65 := v) (s66 := (Value.int .i64 ((picks.length : Int)))) (s67 := (Value.int .i64 ((k : Int)))) (mb := h'.length)
        (fun y => by have := I'.one y; omega) (fun y hy => I'.in (List.mem_append.2 (.inl hy))) (by have := I'.len; omega) (fvlo.imp id fun q => by omega) (Nat.zero_le _) free' [] h2 [] rfl S2 mb2 Sn.nil
      have l2 := o2.len
      have o3 : OG a b h' h3 := ⟨by omega, fun y h1 h2 h3' => by rw [f3 y (by omega), o2.oth y (by omega) h2 h3', o1.oth y h1 h2 h3']⟩
      have A3 : Ar h3 a b l' c2 := A2.same (f3 a (by omega)) (f3 b (by omega))
      have P3 := P'.og (B' := B + 50) A3 (c5_mono hC2 (by have := I'.len; omega)) (by omega) o3
      have I3 := I'.mono (B' := B + 50) (by omega)
      have r4 : rd h3 p 4 = some av := by rw [rd_own P3.hp]; rfl
      have lenA := fun {α : Type} (kk : Value → Option α) => P3.AL.sl.len kk
      have e4 := rows_all (md := ⟨0, h.length⟩) (s0 := (Value.int .i64 ((n : Int)))) (s1 := (Value.int .i64 ((W : Int)))) (s6 := s6) (s7 := (Value.pointer (some ⟨h.length, 0, none⟩))) (s8 := (Value.pointer (some ⟨p, 0, none⟩))) (s65 := v) (s66 := (Value.int .i64 ((picks.length : Int)))) (K := k) P3 I3 hn (by omega) (by omega) mb3 Q3 (ws.set (x % (W : Int)).toNat w').length 0 (by omega)
      obtain ⟨g, eg⟩ := ih (k + 1) _ _ l' c2 free' (B + 50) (by omega) P3 hsl I3 (by omega) (by omega)
      refine ⟨g, ?_⟩
      rw [J6_2_step]
      unfold Jr6_2
      have eM := fun {α : Type} (kk : Value → Heap → Option α) => (aMakeMap_p (h := h') (k := kk) tMap)
      simp only [← e1] at eM
      simp only [List.length_map] at lenA
      simp only [go_sem, Nat.reduceAdd, Nat.reduceLeDiff, Nat.reduceMul, Int.reduceBEq, Int.reduceBNe, Int.reduceLT, Int.reduceLE, Int.reduceGT, aBin_lss, hlt, ix, el, hneg, rav, aBin_rem hW0, tm, ip, rp, aBin_quo hW0, aBin_rem two, aBin_eql, e', eM, r3, mo, rq, e2, lenF]
      simp only [List.length_nil, Int.natCast_zero] at e3 e4
      rw [e3]
      unfold J6_2b1
      simp only [go_sem, Nat.reduceAdd, Nat.reduceLeDiff, Nat.reduceMul, Int.reduceBEq, Int.reduceBNe, Int.reduceLT, Int.reduceLE, Int.reduceGT, r4, lenA]
      rw [e4]
      exact eg
theorem rows_law7 : Law Try.prog cfg 6 [3, 3, 22] := by
  intro h avs ha
  obtain ⟨x, r, rfl, a0, ha⟩ := args_cons ha
  obtain ⟨y, r, rfl, a1, ha⟩ := args_cons ha
  obtain ⟨v, r, rfl, a2, ha⟩ := args_cons ha
  obtain rfl := args_nil ha
  obtain ⟨z, rfl, z0, z1⟩ := inI64 (arg1 (P := Try.prog) (by kernel_rfl) (by kernel_rfl) a0)
  obtain ⟨q, rfl, q0, q1⟩ := inI64 (arg1 (P := Try.prog) (by kernel_rfl) (by kernel_rfl) a1)
  obtain ⟨picks, SV, hm⟩ := arg_ints a2
  have len := fun {α : Type} (k : Value → Option α) => SV.len k
  rw [call_eq, F6_eq]
  unfold F6
  have st3 := fun (h' : Heap) (kk : Heap → Option (Value × Heap)) => st_N ⟨0, h.length⟩ 3 h.length 0 [(Value.int .i64 1), (Value.int .i64 z), (Value.int .i64 1)] h' kk rfl rfl
  by_cases hz : z < 0
  · exact ⟨(h ++ [Blk.own [(Value.int .i64 1), (Value.int .i64 z), (Value.int .i64 1)]]).take h.length, by simp only [go_sem, Nat.reduceAdd, Nat.reduceLeDiff, Nat.reduceMul, Int.reduceBEq, Int.reduceBNe, Int.reduceLT, Int.reduceLE, Int.reduceGT, hz, awake07]⟩
  by_cases hz2 : 48 < z
  · exact ⟨(h ++ [Blk.own [(Value.int .i64 1), (Value.int .i64 z), (Value.int .i64 1)]]).take h.length, by simp only [go_sem, Nat.reduceAdd, Nat.reduceLeDiff, Nat.reduceMul, Int.reduceBEq, Int.reduceBNe, Int.reduceLT, Int.reduceLE, Int.reduceGT, hz, aBin_gtr, hz2, awake07]⟩
  by_cases hq : q < 1
  · exact ⟨(h ++ [Blk.own [(Value.int .i64 1), (Value.int .i64 z), (Value.int .i64 1)]]).take h.length, by simp only [go_sem, Nat.reduceAdd, Nat.reduceLeDiff, Nat.reduceMul, Int.reduceBEq, Int.reduceBNe, Int.reduceLT, Int.reduceLE, Int.reduceGT, hz, aBin_gtr, hz2, aBin_lss, hq, awake07]⟩
  by_cases hq2 : 8 < q
  · exact ⟨(h ++ [Blk.own [(Value.int .i64 1), (Value.int .i64 z), (Value.int .i64 1)]]).take h.length, by simp only [go_sem, Nat.reduceAdd, Nat.reduceLeDiff, Nat.reduceMul, Int.reduceBEq, Int.reduceBNe, Int.reduceLT, Int.reduceLE, Int.reduceGT, hz, aBin_gtr, hz2, aBin_lss, hq, hq2, awake07]⟩
  by_cases h200 : (200 : Int) < picks.length
  · exact ⟨(h ++ [Blk.own [(Value.int .i64 1), (Value.int .i64 z), (Value.int .i64 1)]]).take h.length, by simp only [go_sem, Nat.reduceAdd, Nat.reduceLeDiff, Nat.reduceMul, Int.reduceBEq, Int.reduceBNe, Int.reduceLT, Int.reduceLE, Int.reduceGT, hz, aBin_gtr, hz2, aBin_lss, hq, hq2, len, h200, awake07]⟩
  obtain ⟨n, rfl⟩ : ∃ n : Nat, z = n := ⟨z.toNat, by omega⟩
  obtain ⟨W, rfl⟩ : ∃ W : Nat, q = W := ⟨q.toNat, by omega⟩
  have hn : n ≤ 48 := by omega
  obtain ⟨h1, a, b, l, e1, A1, O1, la, lb, w1, hl1, F1, T1⟩ := begun07t (n := n) ⟨0, h.length⟩ (h ++ [Blk.own [(Value.int .i64 1), (Value.int .i64 ((n : Int))), (Value.int .i64 1)]]) hn (Nat.zero_le _) (by simp)
  simp only [List.length_append, List.length_cons, List.length_nil] at la lb O1
  have l1 := O1.len
  simp only [List.length_append, List.length_cons, List.length_nil] at l1
  have lta := lt_of A1.ha
  have ltb := lt_of A1.hb
  have q1' : h1[h.length]? = some (.own [(Value.int .i64 1), (Value.int .i64 ((n : Int))), (Value.int .i64 1)]) := (O1.old _ (by omega)).trans (by simp)
  have rL1 : rdN h1 h.length 0 3 = some [(Value.int .i64 1), (Value.int .i64 ((n : Int))), (Value.int .i64 1)] := by rw [rdN_own q1' (by simp)]; rfl
  have bP : ∀ {α : Type} (k : Value → Option α), aBuild Try.prog 47 [(0, (Value.agg #[(Value.int .i64 1), (Value.int .i64 ((n : Int))), (Value.int .i64 1)])), (1, (Value.pointer (some ⟨a, 0, none⟩)))] k = k ((Value.agg (List.toArray (plC n a (.slice none 0 0))))) := fun k => by kernel_rfl
  have fr : ∀ (xs : List Int) (nx : Int), Fr n 1 l nx xs → (∀ s ∈ xs, getI l (Ox n 1 s 0) ≤ n) ∧ nx ≤ n := by
    intro xs
    induction xs with
    | nil => intro nx hF; exact ⟨fun s hs => by simp at hs, by have : nx = 0 := hF; omega⟩
    | cons s xs ih =>
      intro nx hF
      obtain ⟨f1, f2, f3, f4⟩ := hF
      obtain ⟨g1, g2⟩ := ih _ f4
      refine ⟨fun t ht => ?_, by omega⟩
      rcases List.mem_cons.1 ht with rfl | ht
      · exact g2
      · exact g1 t ht
  obtain ⟨fr1, fr2⟩ := fr _ _ F1
  have M : Mem n l := ⟨w1, hl1, fr2, fun s h0 h1 => fr1 s (by
    rw [List.mem_map]
    exact ⟨s.toNat, List.mem_range.2 (by omega), by omega⟩)⟩
  have P : Pg (h ++ [ly n]) (h1 ++ [Blk.own (plC n a (.slice none 0 0))]) a b h1.length n (.slice none 0 0) [] l [0, if n = 0 then 1 else n + 2, 0, 0, 0] 60 := by
    refine ⟨A1.app _, M, ⟨_, _, _, _, _, rfl, by omega, by split <;> omega, by omega, by omega, rfl⟩, by simp, SlO.nil _ _ encP_len, fun i w h => by simp at h, fun i j w v _ h => by simp at h, fun i w h => by simp at h, .inl rfl, ⟨by omega, by omega⟩, ⟨by simp; omega, by simp; omega, by simp; omega⟩,
      ⟨by simp; omega, fun y hy => by
        have hy' : y < h.length + 1 := by simpa using hy
        rw [List.getElem?_append_left (by omega), O1.old y (by omega)]⟩, fun i w h => by simp at h⟩
  obtain ⟨av, h2, ws, e2, P2, hl2, hi2⟩ := rows_fill (v := v) ((Value.int .i64 ((n : Int)))) ((Value.bool false)) ((Value.pointer (some ⟨h.length, 0, none⟩))) (by omega) (by omega : W ≤ 8) W 0 _ _ [] (by omega) P rfl (by simp)
  have I2 : SI n 60 l ws _ := SI.start F1 (by omega) hi2
  obtain ⟨g, eg⟩ := rows_loop SV (by omega) hn ((Value.bool false)) ⟨by omega, by omega⟩ picks.length 0 h2 ws l _ _ 60 (by omega) P2 hl2 I2 (by omega) (by omega)
  have rp3 : rd (h1 ++ [Blk.own (plC n a (.slice none 0 0))]) h1.length 3 = some ((Value.pointer (some ⟨a, 0, none⟩))) := by rw [rd_own P.hp]; rfl
  refine ⟨g, ?_⟩
  simp only [go_sem, Nat.reduceAdd, Nat.reduceLeDiff, Nat.reduceMul, Int.reduceBEq, Int.reduceBNe, Int.reduceLT, Int.reduceLE, Int.reduceGT, hz, aBin_gtr, hz2, aBin_lss, hq, hq2, len, h200, e1, rL1, cLE_t, bP, cells_agg, rp3, aBin_eqlP uPa]
  refine Eq.trans e2 ?_
  unfold J6_1
  simp only [go_sem, Nat.reduceAdd, Nat.reduceLeDiff, Nat.reduceMul, Int.reduceBEq, Int.reduceBNe, Int.reduceLT, Int.reduceLE, Int.reduceGT, len]
  exact eg
end Go.Det.E
