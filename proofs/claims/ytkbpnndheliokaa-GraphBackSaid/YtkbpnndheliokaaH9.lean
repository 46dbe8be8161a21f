/- All edges and all parts are told in order, and are right. -/
import Derived.Test.YtkbpnndheliokaaH8
set_option autoImplicit false
set_option linter.unusedVariables false
set_option linter.unusedSimpArgs false
namespace Go.Det.E
open Go.Proofs Go.Det
attribute [local congr] bind_c cond_c
variable {md : Md} {h hh : Heap} {q n mb sb : Nat} {nb : List Nat} {es : List (MK × Value)} {u v : Int}
theorem gcalls {cv s4 : Value} {cs : List (Int × Int × Int)} (SC : Sl h 3 eC cv cs) (hl : cs.length ≤ 60) (hq : h.length ≤ q) (hm : h.length ≤ mb) : ∀ (m k : Nat) (hh : Heap) (nb : List Nat) (es : List (MK × Value)), k + m = cs.length → Gr hh q n nb → SM n nb es → Sy nb → hh[mb]? = some (.mp (.two .i64) es) → Old h.length h hh →
    ∃ hf nbf esf, J4_0 C ⟨0, h.length⟩ h ((Value.int .i64 ((n : Int)))) s4 ((Value.pointer (some ⟨q, 0, none⟩))) (.map (some mb)) cv ((Value.int .i64 ((cs.length : Int)))) ((Value.int .i64 ((k : Int)))) hh = J4_1 C ⟨0, h.length⟩ h ((Value.int .i64 ((n : Int)))) s4 ((Value.pointer (some ⟨q, 0, none⟩))) (.map (some mb)) hf ∧ Gr hf q n nbf ∧ SM n nbf esf ∧ Sy nbf ∧ hf[mb]? = some (.mp (.two .i64) esf) ∧ Old h.length h hf := by
  intro m
  induction m with
  | zero =>
    intro k hh nb es hk G S Y hb O
    obtain rfl : k = cs.length := by omega
    refine ⟨hh, nb, es, ?_, G, S, Y, hb, O⟩
    rw [J4_0_step]
    unfold Jr4_0
    simp only [go_sem, Nat.reduceAdd, Nat.reduceLeDiff, Nat.reduceMul, Int.reduceBEq, Int.reduceBNe, Int.reduceLT, Int.reduceLE, Int.reduceGT, aBin_lss, Int.lt_irrefl, Jk4_0]
  | succ m ih =>
    intro k hh nb es hk G S Y hb O
    obtain ⟨x, hx⟩ : ∃ x, cs[k]? = some x := ⟨cs[k]'(by omega), List.getElem?_eq_getElem (by omega)⟩
    have hlt : (k : Int) < (cs.length : Int) := by omega
    have lo := O.len
    have SH : Sl hh 3 eC cv cs := SC.heap fun hl => O.old _ hl
    obtain ⟨ix, rx⟩ := Sl.getC SH hx
    have w : IntKind.wrap .i64 ((k : Int) + 1) = ((k + 1 : Nat) : Int) := by rw [wi (by omega) (by omega)]; rfl
    have hb1 : (hh ++ [Blk.own (eC x)])[mb]? = some (.mp (.two .i64) es) := by rw [List.getElem?_append_left (lt_of hb)]; exact hb
    obtain ⟨h', es', e, G', Y', hb', S', O'⟩ := step_s (md := ⟨0, h.length⟩) (G.app [Blk.own (eC x)]) Y S hb1 (Nat.zero_le _) (Nat.zero_le _) (Nat.zero_le _) (by simp; omega) x.1 x.2.1 x.2.2
    have st3 := fun (k' : Heap → Option (((Value × Value × Value × Value × Value × Value × Value) × Heap) ⊕ (Exit × (Value × Value × Value × Value × Value × Value × Value) × Heap))) => st_N ⟨0, h.length⟩ 3 hh.length 0 (eC x) (hh ++ [Blk.own [(Value.int .i64 0), (Value.int .i64 0), (Value.int .i64 0)]]) k' rfl rfl
    have w3 : wrN ⟨0, h.length⟩ (hh ++ [Blk.own [(Value.int .i64 0), (Value.int .i64 0), (Value.int .i64 0)]]) hh.length 0 (eC x) = some (hh ++ [Blk.own (eC x)]) := wrN_new0 (bs := []) (Nat.zero_le _) lo (by simp)
    have r3 : rdN (hh ++ [Blk.own (eC x)]) hh.length 0 3 = some (eC x) := by rw [rdN_new0]; rfl
    obtain ⟨hf, nbf, esf, eg, r⟩ := ih (k + 1) h' _ es' (by omega) G' S' Y' hb' ⟨by have := O'.len; simp at this; omega, fun y hy => by
      rw [O'.oth y (by simp; omega) (by omega) (by omega), List.getElem?_append_left (by omega)]; exact O.old y hy⟩
    refine ⟨hf, nbf, esf, ?_, r⟩
    rw [J4_0_step]
    unfold Jr4_0
    simp only [go_sem, Nat.reduceAdd, Nat.reduceLeDiff, Nat.reduceMul, Int.reduceBEq, Int.reduceBNe, Int.reduceLT, Int.reduceLE, Int.reduceGT, aBin_lss, hlt, ixSV_p, ix, rx, st3, w3, r3, e, aBin_add, w]
    exact eg
theorem prow2 {n0 x : Nat} {s4 s5 s64 s65 : Value} (S : SM n nb es) (hro : md.ro ≤ n0) (h16 : n ≤ 16) : ∀ (m k : Nat) (lv : Value) (hh : Heap) (xs : List (Int × Int)), k + m = n → x < k → xs.length + m < 1000 → hh[mb]? = some (.mp (.two .i64) es) → mb < n0 → n0 ≤ hh.length → SlO hh n0 2 eZ2 lv xs →
    ∃ lv' h', J4_2b0 C md ((Value.int .i64 ((n : Int)))) s4 s5 (.map (some mb)) lv ((Value.int .i64 ((x : Int)))) ((Value.int .i64 ((k : Int)))) s64 s65 hh = Jk4_2b0 C md .normal ((Value.int .i64 ((n : Int)))) s4 s5 (.map (some mb)) lv' ((Value.int .i64 ((x : Int)))) ((Value.int .i64 ((n : Int)))) s64 s65 h' ∧ SlO h' n0 2 eZ2 lv' (xs ++ rowF nb x k m) ∧ Old n0 hh h' := by
  intro m
  induction m with
  | zero =>
    intro k lv hh xs hk hx hl hb hmb hn0 SL
    obtain rfl : k = n := by omega
    refine ⟨lv, hh, ?_, by simpa [rowF] using SL, Old.refl _ _⟩
    rw [J4_2b0_step]
    unfold Jr4_2b0
    simp only [go_sem, Nat.reduceAdd, Nat.reduceLeDiff, Nat.reduceMul, Int.reduceBEq, Int.reduceBNe, Int.reduceLT, Int.reduceLE, Int.reduceGT, aBin_lss, Int.lt_irrefl, Jk4_2b0]
  | succ m ih =>
    intro k lv hh xs hk hx hl hb hmb hn0 SL
    have hlt : (k : Int) < (n : Int) := by omega
    have w : IntKind.wrap .i64 ((k : Int) + 1) = ((k + 1 : Nat) : Int) := by rw [wi (by omega) (by omega)]; rfl
    have g := fun {α : Type} (kk : Value → Option α) => S.get hb (x : Int) (k : Int) kk
    have dt : decide (0 ≤ (x : Int) ∧ (x : Int) < (k : Int) ∧ (k : Int) < (n : Int)) = true := decide_eq_true ⟨by omega, by omega, by omega⟩
    simp only [dt, Bool.true_and] at g
    cases hbt : bt nb (x : Int) (k : Int)
    · obtain ⟨lv', h', e, S', O'⟩ := ih (k + 1) lv hh xs (by omega) (by omega) (by omega) hb hmb hn0 SL
      refine ⟨lv', h', ?_, by rw [rowF, hbt]; simpa using S', O'⟩
      rw [J4_2b0_step]
      unfold Jr4_2b0
      simp only [go_sem, Nat.reduceAdd, Nat.reduceLeDiff, Nat.reduceMul, Int.reduceBEq, Int.reduceBNe, Int.reduceLT, Int.reduceLE, Int.reduceGT, aBin_lss, hlt, bPair, g, hbt, aBin_add, w]
      exact e
    · obtain ⟨v1, h1, ea, S1, O1⟩ := append_own (md := md) (ys := [((x : Int), (k : Int))]) tPairs2 SL hro hn0 (cs := [(Value.int .i64 ((x : Int))), (Value.int .i64 ((k : Int)))]) (by simp [flat, eZ2]) (by simp) rfl (by simp; omega)
      simp only [List.length_cons, List.length_nil] at ea
      obtain ⟨lv', h', e, S', O'⟩ := ih (k + 1) v1 h1 _ (by omega) (by omega) (by simp; omega) ((O1.old _ hmb).trans hb) hmb (Nat.le_trans hn0 O1.len) S1
      refine ⟨lv', h', ?_, by rw [rowF, hbt]; simpa using S', O1.trans O'⟩
      rw [J4_2b0_step]
      unfold Jr4_2b0
      simp only [go_sem, Nat.reduceAdd, Nat.reduceLeDiff, Nat.reduceMul, Int.reduceBEq, Int.reduceBNe, Int.reduceLT, Int.reduceLE, Int.reduceGT, aBin_lss, hlt, bPair, g, hbt, bPairs2, ea, aBin_add, w]
      exact e
theorem pall2 {n0 : Nat} {s4 s5 : Value} (hh0 : Heap) (S : SM n nb es) (hro : md.ro ≤ n0) (h16 : n ≤ 16) : ∀ (m k : Nat) (lv : Value) (hh : Heap) (xs : List (Int × Int)), k + m = n → xs ++ allF n nb k m = allF n nb 0 n → hh[mb]? = some (.mp (.two .i64) es) → mb < n0 → n0 ≤ hh.length → SlO hh n0 2 eZ2 lv xs →
    ∃ lv' h', J4_2 C md hh0 ((Value.int .i64 ((n : Int)))) s4 s5 (.map (some mb)) lv ((Value.int .i64 ((n : Int)))) ((Value.int .i64 ((k : Int)))) hh = J4_3 C md hh0 ((Value.int .i64 ((n : Int)))) s4 s5 (.map (some mb)) lv' h' ∧ SlO h' n0 2 eZ2 lv' (allF n nb 0 n) ∧ Old n0 hh h' := by
  intro m
  induction m with
  | zero =>
    intro k lv hh xs hk he hb hmb hn0 SL
    obtain rfl : k = n := by omega
    simp only [allF, List.append_nil] at he
    subst he
    refine ⟨lv, hh, ?_, SL, Old.refl _ _⟩
    rw [J4_2_step]
    unfold Jr4_2
    simp only [go_sem, Nat.reduceAdd, Nat.reduceLeDiff, Nat.reduceMul, Int.reduceBEq, Int.reduceBNe, Int.reduceLT, Int.reduceLE, Int.reduceGT, aBin_lss, Int.lt_irrefl, Jk4_2]
  | succ m ih =>
    intro k lv hh xs hk he hb hmb hn0 SL
    have hlt : (k : Int) < (n : Int) := by omega
    have w : IntKind.wrap .i64 ((k : Int) + 1) = ((k + 1 : Nat) : Int) := by rw [wi (by omega) (by omega)]; rfl
    rw [allF] at he
    have hl : xs.length ≤ 256 := by
      have := congrArg List.length he
      rw [List.length_append] at this
      have := allF_len (n := n) (nb := nb) n 0
      have : n * n ≤ 16 * 16 := Nat.mul_le_mul h16 h16
      omega
    obtain ⟨lv1, h1, e, S1, O1⟩ := prow2 (md := md) (x := k) (s4 := s4) (s5 := s5) (s64 := (Value.int .i64 ((n : Int)))) (s65 := (Value.int .i64 ((k : Int)))) S hro h16 (n - (k + 1)) (k + 1) lv hh xs (by omega) (by omega) (by omega) hb hmb hn0 SL
    obtain ⟨lv', h', e2, S', O'⟩ := ih (k + 1) lv1 h1 _ (by omega) (by rw [← he, List.append_assoc]) ((O1.old _ hmb).trans hb) hmb (Nat.le_trans hn0 O1.len) S1
    refine ⟨lv', h', ?_, S', O1.trans O'⟩
    rw [J4_2_step]
    unfold Jr4_2
    simp only [go_sem, Nat.reduceAdd, Nat.reduceLeDiff, Nat.reduceMul, Int.reduceBEq, Int.reduceBNe, Int.reduceLT, Int.reduceLE, Int.reduceGT, aBin_lss, hlt, aBin_add, w]
    rw [e]
    simp only [go_sem, Nat.reduceAdd, Nat.reduceLeDiff, Nat.reduceMul, Int.reduceBEq, Int.reduceBNe, Int.reduceLT, Int.reduceLE, Int.reduceGT, Jk4_2b0, aBin_add, w]
    exact e2
theorem neq2 {α : Type} {a b c d : Int} (k : Value → Option α) : aBin Try.prog .neq 34 ((Value.agg #[(Value.int .i64 a), (Value.int .i64 b)])) ((Value.agg #[(Value.int .i64 c), (Value.int .i64 d)])) k = k ((Value.bool (!(a == c && (b == d && true))))) :=
  aBin_neqA (xs := [_, _]) (ys := [_, _]) (ks := [.i, .i]) (by kernel_rfl) (by kernel_rfl) (by kernel_rfl) rfl rfl (cellsEq_i (cellsEq_i cellsEq_n))
theorem Sl.getE2 {h : Heap} {v : Value} {xs : List (Int × Int)} (S : Sl h 2 eZ2 v xs) {k : Nat} {x : Int × Int} (hx : xs[k]? = some x) :
    (∀ {α : Type} (kk : Value → Option α), ixS 2 v (k : Int) kk = kk ((Value.pointer (some ⟨slB v, slO v + k * 2, none⟩)))) ∧ rdN h (slB v) (slO v + k * 2) 2 = some (eZ2 x) :=
  ⟨(Sl.getE S hx).1, S.elem hx⟩
theorem pcmp {s4 s5 s7 lv gv : Value} {xs : List (Int × Int)} (h0 : Heap) (hl : xs.length < 1000) (S1 : Sl hh 2 eZ2 lv xs) (S2 : Sl hh 2 eZ2 gv xs) : ∀ (m k : Nat), k + m = xs.length →
    J4_4 C md h0 ((Value.int .i64 ((n : Int)))) s4 s5 s7 lv gv ((Value.int .i64 ((xs.length : Int)))) ((Value.int .i64 ((k : Int)))) hh = J4_5 C md h0 ((Value.int .i64 ((n : Int)))) s4 s5 s7 hh := by
  intro m
  induction m with
  | zero =>
    intro k hk
    obtain rfl : k = xs.length := by omega
    rw [J4_4_step]
    unfold Jr4_4
    simp only [go_sem, Nat.reduceAdd, Nat.reduceLeDiff, Nat.reduceMul, Int.reduceBEq, Int.reduceBNe, Int.reduceLT, Int.reduceLE, Int.reduceGT, aBin_lss, Int.lt_irrefl, Jk4_4]
  | succ m ih =>
    intro k hk
    have hlt : (k : Int) < (xs.length : Int) := by omega
    have w : IntKind.wrap .i64 ((k : Int) + 1) = ((k + 1 : Nat) : Int) := by rw [wi (by omega) (by omega)]; rfl
    obtain ⟨x, hx⟩ : ∃ x, xs[k]? = some x := ⟨xs[k]'(by omega), List.getElem?_eq_getElem (by omega)⟩
    obtain ⟨i1, r1⟩ := Sl.getE2 S1 hx
    obtain ⟨i2, r2⟩ := Sl.getE2 S2 hx
    rw [J4_4_step]
    unfold Jr4_4
    simp only [go_sem, Nat.reduceAdd, Nat.reduceLeDiff, Nat.reduceMul, Int.reduceBEq, Int.reduceBNe, Int.reduceLT, Int.reduceLE, Int.reduceGT, aBin_lss, hlt, ixSV_p, i1, i2, r1, r2, neq2, aBin_add, w]
    exact ih (k + 1) (by omega)
theorem repL_zero (n : Nat) : repL n [(Value.int .i64 0)] = cntL n [] := by
  induction n with
  | zero => rfl
  | succ n ih =>
    have e : cntL (n + 1) [] = cntL n [] ++ [(Value.int .i64 0)] := by
      unfold cntL
      rw [List.range_succ, List.map_append]; rfl
    have c : ∀ m, repL m [(Value.int .i64 0)] ++ [(Value.int .i64 0)] = [(Value.int .i64 0)] ++ repL m [(Value.int .i64 0)] := by
      intro m
      induction m with
      | zero => rfl
      | succ m ihm => simp only [repL]; rw [List.append_assoc, ihm]
    rw [e, ← ih, c]; rfl
theorem gparts_end (G : Gr hh q n nb) (S : SM n nb es) (Y : Sy nb) (hm : hh[mb]? = some (.mp (.two .i64) es)) (s4 : Value) (h : Heap) :
    ∃ g, J4_5 C ⟨0, h.length⟩ h ((Value.int .i64 ((n : Int)))) s4 ((Value.pointer (some ⟨q, 0, none⟩))) (.map (some mb)) hh = some ((Value.bool true), g) := by
  have n16 := G.n16
  have em := fun (k : Value → Heap → Option (Value × Heap)) => make_p tInt (n := (n : Int)) (c := (n : Int)) (by omega) (by omega) (by omega) (by omega) hh k
  simp only [Int.toNat_natCast, repL_zero] at em
  obtain ⟨h1, e1⟩ : ∃ h1, h1 = hh ++ [Blk.own (cntL n [])] := ⟨_, rfl⟩
  simp only [← e1] at em
  have G1 : Gr h1 q n nb := by rw [e1]; exact G.app _
  have hb1 : h1[hh.length]? = some (.own (cntL n [])) := by rw [e1]; simp
  have hm1 : h1[mb]? = some (.mp (.two .i64) es) := by rw [e1, List.getElem?_append_left (lt_of hm)]; exact hm
  have l1 : h1.length = hh.length + 1 := by rw [e1]; simp
  obtain ⟨lv, h2, e2, R2, O2⟩ := parts_s (md := ⟨0, h.length⟩) G1 (Nat.zero_le _)
  obtain ⟨vs, SV, hvl, hi⟩ := R2.ex
  rw [List.length_map] at hvl
  have hb2 := (O2.old hh.length (by omega)).trans hb1
  have hm2 := (O2.old mb (lt_of hm1)).trans hm1
  have len := fun {α : Type} (kk : Value → Option α) => SV.sl.len kk
  obtain ⟨h3, e3, b3⟩ := ploop (md := ⟨0, h.length⟩) (s4 := s4) (v := lv) (vs := vs) S G.N Y n16 (n0 := h1.length) (sb := hh.length) (by omega) (by have := lt_of hm; omega) (Nat.zero_le _) hvl rfl h (reps (eB n nb) n) [] h2 [] (-1) rfl (by simp) (fun r _ => by omega) hm2 SV
    (fun i x r a b => (hi i x _ a (by rw [List.getElem?_map, b]; rfl)).1) hb2
  have e4 := pone_loop (md := ⟨0, h.length⟩) (s4 := s4) h b3 (fun w hw => by rw [List.nil_append]; exact reps_one (fun v w => eB_sym G.N Y v w) hw) n16 n 0 (by omega)
  refine ⟨h3.take h.length, ?_⟩
  unfold J4_5
  simp only [go_sem, Nat.reduceAdd, Nat.reduceLeDiff, Nat.reduceMul, Int.reduceBEq, Int.reduceBNe, Int.reduceLT, Int.reduceLE, Int.reduceGT, em, e2, len, hvl]
  simp only [List.length_nil, Int.natCast_zero] at e3 e4
  rw [e3]
  unfold J4_7
  simp only [go_sem, Nat.reduceAdd, Nat.reduceLeDiff, Nat.reduceMul, Int.reduceBEq, Int.reduceBNe, Int.reduceLT, Int.reduceLE, Int.reduceGT]
  exact e4
theorem gparts_law : Law Try.prog cfg 4 [3, 22] := by
  intro h avs ha
  obtain ⟨x, r, rfl, a0, ha⟩ := args_cons ha
  obtain ⟨cv, r, rfl, a1, ha⟩ := args_cons ha
  obtain rfl := args_nil ha
  obtain ⟨z, rfl, z0, z1⟩ := inI64 (arg1 (P := Try.prog) (by kernel_rfl) (by kernel_rfl) a0)
  obtain ⟨cs, SC⟩ := arg_calls a1
  have len := fun {α : Type} (k : Value → Option α) => SC.len k
  have uP : Try.prog.underlying 24 = some (.pointer 82) := by kernel_rfl
  rw [call_eq, F4_eq]
  unfold F4
  by_cases h60 : (cs.length : Int) > 60
  · exact ⟨h.take h.length, by simp only [go_sem, Nat.reduceAdd, Nat.reduceLeDiff, Nat.reduceMul, Int.reduceBEq, Int.reduceBNe, Int.reduceLT, Int.reduceLE, Int.reduceGT, len, h60, awake24]⟩
  by_cases z1' : z < 1
  · exact ⟨h.take h.length, by simp only [go_sem, Nat.reduceAdd, Nat.reduceLeDiff, Nat.reduceMul, Int.reduceBEq, Int.reduceBNe, Int.reduceLT, Int.reduceLE, Int.reduceGT, len, h60, aBin_lss, z1', awake24]⟩
  by_cases z16 : z > 16
  · exact ⟨h.take h.length, by simp only [go_sem, Nat.reduceAdd, Nat.reduceLeDiff, Nat.reduceMul, Int.reduceBEq, Int.reduceBNe, Int.reduceLT, Int.reduceLE, Int.reduceGT, len, h60, aBin_lss, z1', z16, aBin_gtr, awake24]⟩
  obtain ⟨n, rfl⟩ : ∃ n : Nat, z = n := ⟨z.toNat, by omega⟩
  have e := fun (m : Md) => gnew_s (md := m) h (n := n) (by omega) (by omega)
  have G := gnew_g h (n := n) (by omega) (by omega)
  obtain ⟨h1, e1⟩ : ∃ h1, h1 = h ++ [Blk.own (grC n (List.replicate 16 0))] := ⟨_, rfl⟩
  rw [← e1] at G
  simp only [← e1] at e
  have l1 : h1.length = h.length + 1 := by rw [e1]; simp
  have eM := fun {α : Type} (kk : Value → Heap → Option α) => aMakeMap_p (h := h1) (k := kk) tSet
  obtain ⟨hf, nbf, esf, eg, Gf, Sf, Yf, hbf, Of⟩ := gcalls (q := h.length) (mb := h1.length) (n := n) (s4 := (Value.bool false)) SC (by omega) (Nat.le_refl _) (by omega) cs.length 0 (h1 ++ [Blk.mp (.two .i64) []]) _ [] (by omega) (G.app _) SM.nil sy0 (by simp) ⟨by simp; omega, fun y hy => by
    rw [List.getElem?_append_left (by omega), e1, List.getElem?_append_left hy]⟩
  obtain ⟨lv, h2, e2, S2, O2⟩ := pall2 (md := ⟨0, h.length⟩) (s4 := (Value.bool false)) (s5 := (Value.pointer (some ⟨h.length, 0, none⟩))) h Sf (Nat.zero_le _) (by omega) n 0 (.slice none 0 0) hf [] (by omega) rfl hbf (lt_of hbf) (Nat.le_refl _) (SlO.nil _ _ eZ2_len)
  have G2 := Gf.same (O2.old _ (lt_of Gf.hq))
  have hb2 := (O2.old _ (lt_of hbf)).trans hbf
  obtain ⟨gv, h3, e3, S3, O3⟩ := gedges_s (md := ⟨0, h.length⟩) G2 (Nat.zero_le _)
  have len2 := fun {α : Type} (k : Value → Option α) => S2.sl.len k
  have len3 := fun {α : Type} (k : Value → Option α) => S3.sl.len k
  have al := allF_len (n := n) (nb := nbf) n 0
  have al2 : n * n ≤ 16 * 16 := Nat.mul_le_mul (by omega) (by omega)
  have e4 := pcmp (md := ⟨0, h.length⟩) (n := n) (s4 := (Value.bool false)) (s5 := (Value.pointer (some ⟨h.length, 0, none⟩))) (s7 := .map (some h1.length)) h (by omega) (Sl.heap' S2.sl (S2.lo.imp id fun z => z.2) O3) S3.sl (allF n nbf 0 n).length 0 (by omega)
  obtain ⟨g, e5⟩ := gparts_end (G2.same (O3.old _ (lt_of G2.hq))) Sf Yf ((O3.old _ (lt_of hb2)).trans hb2) ((Value.bool false)) h
  refine ⟨g, ?_⟩
  simp only [go_sem, Nat.reduceAdd, Nat.reduceLeDiff, Nat.reduceMul, Int.reduceBEq, Int.reduceBNe, Int.reduceLT, Int.reduceLE, Int.reduceGT, len, h60, e, aBin_lss, z1', z16, aBin_gtr, aBin_eqlP uP, eM]
  refine Eq.trans eg ?_
  unfold J4_1
  simp only [Int.natCast_zero] at e2 e4
  refine Eq.trans e2 ?_
  unfold J4_3
  simp only [go_sem, Nat.reduceAdd, Nat.reduceLeDiff, Nat.reduceMul, Int.reduceBEq, Int.reduceBNe, Int.reduceLT, Int.reduceLE, Int.reduceGT, e3, len2, len3]
  rw [e4]
  exact e5
end Go.Det.E
