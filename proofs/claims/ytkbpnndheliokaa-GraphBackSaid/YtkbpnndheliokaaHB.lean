/- What comes and goes again leaves the graph as it was. -/
import Derived.Test.YtkbpnndheliokaaHA
set_option autoImplicit false
set_option linter.unusedVariables false
set_option linter.unusedSimpArgs false
namespace Go.Det.E
open Go.Proofs Go.Det
attribute [local congr] bind_c cond_c
variable {md : Md} {h hh : Heap} {q p n m : Nat} {nb nb' : List Nat} {u v : Int}
theorem arg_call {h : Heap} {v : Value} (x : TyArg Try.prog h 31 v) : ∃ k u w : Int, v = (Value.agg #[(Value.int .i64 k), (Value.int .i64 u), (Value.int .i64 w)]) ∧ I64 k ∧ I64 u ∧ I64 w := by
  obtain ⟨acs, rfl, b⟩ := argN (l := [.i .i64, .i .i64, .i .i64]) (by kernel_rfl) (by kernel_rfl) x
  obtain ⟨v1, r, rfl, a1, b⟩ := l_cons b
  obtain ⟨v2, r, rfl, a2, b⟩ := l_cons b
  obtain ⟨v3, r, rfl, a3, b⟩ := l_cons b
  obtain rfl := l_nil b
  obtain ⟨x1, rfl, c1⟩ := inI64 a1
  obtain ⟨x2, rfl, c2⟩ := inI64 a2
  obtain ⟨x3, rfl, c3⟩ := inI64 a3
  exact ⟨x1, x2, x3, rfl, c1, c2, c3⟩
theorem parts_len (G : Gr h q n nb) (hro : md.ro ≤ h.length) : ∃ lv h', C md 17 [(Value.pointer (some ⟨q, 0, none⟩))] h = some (lv, h') ∧ (∀ {α : Type} (kk : Value → Option α), lenS lv kk = kk ((Value.int .i64 ((((reps (eB n nb) n).length : Nat) : Int))))) ∧ Old h.length h h' := by
  obtain ⟨lv, h', e, R, O⟩ := parts_s (md := md) G hro
  obtain ⟨vs, SV, hvl, _⟩ := R.ex
  refine ⟨lv, h', e, fun kk => ?_, O⟩
  rw [SV.sl.len kk, hvl, List.length_map]
theorem back_calls {cv s6 : Value} {cs : List (Int × Int × Int)} {cb : Nat} (SC : Sl h 3 eC cv cs) (hl : cs.length ≤ 60) (hq : h.length < q) : ∀ (m k : Nat) (hh : Heap) (nb : List Nat), k + m = cs.length → Gr hh q n nb → Sy nb → Old h.length h hh →
    ∃ hf nbf, J6_0 C ⟨0, h.length⟩ h ((Value.pointer (some ⟨cb, 0, none⟩))) s6 ((Value.pointer (some ⟨q, 0, none⟩))) cv ((Value.int .i64 ((cs.length : Int)))) ((Value.int .i64 ((k : Int)))) hh = J6_1 C ⟨0, h.length⟩ h ((Value.pointer (some ⟨cb, 0, none⟩))) ((Value.pointer (some ⟨q, 0, none⟩))) hf ∧ Gr hf q n nbf ∧ Sy nbf ∧ Old q hh hf := by
  intro m
  induction m with
  | zero =>
    intro k hh nb hk G Y O
    obtain rfl : k = cs.length := by omega
    refine ⟨hh, nb, ?_, G, Y, Old.refl _ _⟩
    rw [J6_0_step]
    unfold Jr6_0
    simp only [go_sem, Nat.reduceAdd, Nat.reduceLeDiff, Nat.reduceMul, Int.reduceBEq, Int.reduceBNe, Int.reduceLT, Int.reduceLE, Int.reduceGT, aBin_lss, Int.lt_irrefl, Jk6_0]
  | succ m ih =>
    intro k hh nb hk G Y O
    obtain ⟨x, hx⟩ : ∃ x, cs[k]? = some x := ⟨cs[k]'(by omega), List.getElem?_eq_getElem (by omega)⟩
    have hlt : (k : Int) < (cs.length : Int) := by omega
    have lo := O.len
    have SH : Sl hh 3 eC cv cs := SC.heap fun hl => O.old _ hl
    obtain ⟨ix, rx⟩ := Sl.getC SH hx
    have w : IntKind.wrap .i64 ((k : Int) + 1) = ((k + 1 : Nat) : Int) := by rw [wi (by omega) (by omega)]; rfl
    have G1 := G.app [Blk.own (eC x)]
    have ed := do_s (md := ⟨0, h.length⟩) G1 (Nat.zero_le _) x.1 x.2.1 x.2.2
    obtain ⟨N', Y'⟩ := gDo_sy G.N G.n16 Y x.1 x.2.1 x.2.2
    have st3 := fun (k' : Heap → Option (((Value × Value × Value × Value × Value × Value) × Heap) ⊕ (Exit × (Value × Value × Value × Value × Value × Value) × Heap))) => st_N ⟨0, h.length⟩ 3 hh.length 0 (eC x) (hh ++ [Blk.own [(Value.int .i64 0), (Value.int .i64 0), (Value.int .i64 0)]]) k' rfl rfl
    have w3 : wrN ⟨0, h.length⟩ (hh ++ [Blk.own [(Value.int .i64 0), (Value.int .i64 0), (Value.int .i64 0)]]) hh.length 0 (eC x) = some (hh ++ [Blk.own (eC x)]) := wrN_new0 (bs := []) (Nat.zero_le _) lo (by simp)
    have r3 : rdN (hh ++ [Blk.own (eC x)]) hh.length 0 3 = some (eC x) := by rw [rdN_new0]; rfl
    have O1 : Old q hh ((hh ++ [Blk.own (eC x)]).set q (.own (grC n (gDo n nb x.1 x.2.1 x.2.2).2.2))) := ⟨by simp, fun y hy => by rw [set_else (by omega), List.getElem?_append_left (by have := lt_of G.hq; omega)]⟩
    obtain ⟨hf, nbf, eg, Gf, Yf, Of⟩ := ih (k + 1) _ _ (by omega) (⟨set_here G1.hq, G.n1, G.n16, N'⟩ : Gr _ q n _) Y' (O.trans (O1.mono (by omega)))
    refine ⟨hf, nbf, ?_, Gf, Yf, O1.trans Of⟩
    rw [J6_0_step]
    unfold Jr6_0
    simp only [go_sem, Nat.reduceAdd, Nat.reduceLeDiff, Nat.reduceMul, Int.reduceBEq, Int.reduceBNe, Int.reduceLT, Int.reduceLE, Int.reduceGT, aBin_lss, hlt, ixSV_p, ix, rx, st3, w3, r3, ed, aBin_add, w]
    exact eg
theorem back_end (G : Gr hh q n nb) (Y : Sy nb) {cb : Nat} {k : Int} (hc : hh[cb]? = some (.own [(Value.int .i64 k), (Value.int .i64 u), (Value.int .i64 v)])) (hcq : cb ≠ q) (hlo : h.length ≤ hh.length) :
    ∃ g, J6_1 C ⟨0, h.length⟩ h ((Value.pointer (some ⟨cb, 0, none⟩))) ((Value.pointer (some ⟨q, 0, none⟩))) hh = some ((Value.bool true), g) := by
  have n16 := G.n16
  have ltq := lt_of G.hq
  have ltc := lt_of hc
  have uP : Try.prog.underlying 24 = some (.pointer 82) := by kernel_rfl
  have ec := copy_g (md := ⟨0, h.length⟩) G (Nat.zero_le _) hlo
  obtain ⟨h2, e2⟩ : ∃ h2, h2 = hh ++ [Blk.own (grC n nb)] := ⟨_, rfl⟩
  rw [← e2] at ec
  have hc2 : h2[cb]? = some (.own [(Value.int .i64 k), (Value.int .i64 u), (Value.int .i64 v)]) := by rw [e2, List.getElem?_append_left ltc]; exact hc
  have w1 : wrN ⟨0, h.length⟩ h2 cb 0 [(Value.int .i64 1)] = some (h2.set cb (.own [(Value.int .i64 1), (Value.int .i64 u), (Value.int .i64 v)])) := by
    rw [wr_own hc2 (Nat.zero_le _) rfl (by simp)]; rfl
  obtain ⟨h4, e4⟩ : ∃ h4, h4 = h2.set cb (.own [(Value.int .i64 1), (Value.int .i64 u), (Value.int .i64 v)]) := ⟨_, rfl⟩
  rw [← e4] at w1
  have l4 : h4.length = hh.length + 1 := by rw [e4, e2]; simp
  have c4 : h4[cb]? = some (.own [(Value.int .i64 1), (Value.int .i64 u), (Value.int .i64 v)]) := by rw [e4]; exact set_here hc2
  have o4 : ∀ y, y ≠ cb → h4[y]? = h2[y]? := fun y hy => by rw [e4, set_else (Ne.symm hy)]
  have G4 : Gr h4 q n nb := G.same (by rw [o4 q (Ne.symm hcq), e2, List.getElem?_append_left ltq])
  have P4 : Gr h4 hh.length n nb := ⟨by rw [o4 _ (by omega), e2]; simp, G.n1, G.n16, G.N⟩
  have r4 : rdN h4 cb 0 3 = some [(Value.int .i64 1), (Value.int .i64 u), (Value.int .i64 v)] := by rw [rdN_own c4 (by simp)]; rfl
  have ed := do_s (md := ⟨0, h.length⟩) G4 (Nat.zero_le _) 1 u v
  obtain ⟨N', Y'⟩ := gDo_sy G.N n16 Y 1 u v
  cases hy : (gDo n nb 1 u v).1
  · -- no
    have hn : (gDo n nb 1 u v).2.2 = nb ∧ ((gDo n nb 1 u v).2.1 ≠ 0 ∨ ((gDo n nb 1 u v).2.1 = 0 ∧ (inB n u && inB n v && bt nb u v) = true)) := by
      unfold gDo at hy ⊢
      split
      · rename_i h0; exact ⟨rfl, .inl h0⟩
      · rename_i h0
        rw [if_neg h0] at hy
        have h0' : wr n 1 u v = 0 := Classical.byContradiction h0
        obtain ⟨_, _, hu, hv, _⟩ := wr_0 h0'
        rw [if_neg (by decide)] at hy ⊢
        split
        · rename_i hb
          exact ⟨rfl, .inr ⟨rfl, by rw [hu, hv, hb]; rfl⟩⟩
        · rename_i hb; rw [if_neg hb] at hy; cases hy
    rw [hy, hn.1, set_self G4.hq] at ed
    have ee := fun (m : Md) => gequal_s (md := m) G4 P4
    have dd : (decide (n = n) && decide (nb = nb)) = true := by simp
    simp only [dd] at ee
    refine ⟨h4.take h.length, ?_⟩
    unfold J6_1
    rcases hn.2 with hf | ⟨hf, hb⟩
    · have bf : ((gDo n nb 1 u v).2.1 != 0) = true := by simpa using hf
      simp only [go_sem, Nat.reduceAdd, Nat.reduceLeDiff, Nat.reduceMul, Int.reduceBEq, Int.reduceBNe, Int.reduceLT, Int.reduceLE, Int.reduceGT, ec, w1, r4, ed, aBin_eqlP uP, aBin_neqP uP, aUn_not, ee, aBin_neq, bf, awake24]
    · have bf : ((gDo n nb 1 u v).2.1 != 0) = false := by simp [hf]
      have r41 : rd h4 cb 1 = some ((Value.int .i64 u)) := by rw [rd_own c4]; rfl
      have r42 : rd h4 cb 2 = some ((Value.int .i64 v)) := by rw [rd_own c4]; rfl
      have eh := fun (m : Md) => has_g (md := m) G4 u v
      simp only [hb] at eh
      simp only [go_sem, Nat.reduceAdd, Nat.reduceLeDiff, Nat.reduceMul, Int.reduceBEq, Int.reduceBNe, Int.reduceLT, Int.reduceLE, Int.reduceGT, ec, w1, r4, ed, aBin_eqlP uP, aBin_neqP uP, aUn_not, ee, aBin_neq, bf, r41, r42, eh, awake24]
  · -- yes
    have hn : wr n 1 u v = 0 ∧ bt nb u v = false ∧ gDo n nb 1 u v = (true, 0, tn nb u.toNat v.toNat) := by
      unfold gDo at hy ⊢
      split
      · rename_i h0; rw [if_pos h0] at hy; cases hy
      · rename_i h0
        rw [if_neg h0] at hy
        have h0' : wr n 1 u v = 0 := Classical.byContradiction h0
        rw [if_neg (by decide)] at hy ⊢
        split
        · rename_i hb; rw [if_pos hb] at hy; cases hy
        · rename_i hb
          refine ⟨h0', ?_, rfl⟩
          revert hb; cases bt nb u v <;> simp
    obtain ⟨hw, hb, eg⟩ := hn
    obtain ⟨_, _, hu, hv, huv⟩ := wr_0 hw
    have huv := huv (by decide)
    have hu' := inB_t.1 hu
    have hv' := inB_t.1 hv
    rw [eg] at ed N' Y'
    simp only at ed N' Y'
    obtain ⟨nb', enb⟩ : ∃ nb', nb' = tn nb u.toNat v.toNat := ⟨_, rfl⟩
    rw [← enb] at ed N' Y'
    obtain ⟨h7, e7⟩ : ∃ h7, h7 = h4.set q (.own (grC n nb')) := ⟨_, rfl⟩
    rw [← e7] at ed
    have o7 : ∀ y, y ≠ q → h7[y]? = h4[y]? := fun y hy => by rw [e7, set_else (Ne.symm hy)]
    have l7 : h7.length = hh.length + 1 := by rw [e7]; simp [l4]
    have G7 : Gr h7 q n nb' := ⟨by rw [e7]; exact set_here G4.hq, G.n1, n16, N'⟩
    have P7 : Gr h7 hh.length n nb := P4.same (o7 _ (by omega))
    have c7 := (o7 cb hcq).trans c4
    have r71 : rd h7 cb 1 = some ((Value.int .i64 u)) := by rw [rd_own c7]; rfl
    have r72 : rd h7 cb 2 = some ((Value.int .i64 v)) := by rw [rd_own c7]; rfl
    have ej := fun (m : Md) => joined_g (md := m) G7 u v
    have bit := fun x y => tn_bit G.N (u := u.toNat) (v := v.toNat) (by omega) (by omega) (by omega) x y
    have buv : bt nb' u v = true := by
      unfold bt; rw [enb, bit]
      have : (nb.getD u.toNat 0).testBit v.toNat = false := hb
      rw [this]; simp
    have ew : wy n nb' u v = true := by
      unfold wy; rw [hu, hv]
      refine wayB_t.2 (.step .here ?_)
      unfold eB
      rw [show (nb'.getD u.toNat 0).testBit v.toNat = true from buv]
      simp; omega
    simp only [ew] at ej
    obtain ⟨w1', ha, ea, la, Oa⟩ := parts_len (md := ⟨0, h.length⟩) G7 (Nat.zero_le _)
    have Pa := P7.same (Oa.old _ (lt_of P7.hq))
    obtain ⟨w2', hb2, eb2, lb, Ob⟩ := parts_len (md := ⟨0, h.length⟩) Pa (Nat.zero_le _)
    have Oab := Oa.trans (Ob.mono Oa.len)
    have Gb := G7.same (Oab.old _ (lt_of G7.hq))
    obtain ⟨w3', hc3, ec3, lc, Oc⟩ := parts_len (md := ⟨0, h.length⟩) Gb (Nat.zero_le _)
    have Oac := Oab.trans (Oc.mono Oab.len)
    have Pc := P7.same (Oac.old _ (lt_of P7.hq))
    obtain ⟨w4', hd, ed4, ld, Od⟩ := parts_len (md := ⟨0, h.length⟩) Pc (Nat.zero_le _)
    have Oad := Oac.trans (Od.mono Oac.len)
    have cd := (Oad.old _ (lt_of c7)).trans c7
    have Gd := G7.same (Oad.old _ (lt_of G7.hq))
    have Pd := P7.same (Oad.old _ (lt_of P7.hq))
    have rm := reps_more (E := eB n nb) (E' := eB n nb') (u := u.toNat) (v := v.toNat) (n := n) (fun a b => eB_sym G.N Y a b) (fun a b hab => by
      unfold eB at hab ⊢
      simp only [Bool.and_eq_true, decide_eq_true_eq] at hab ⊢
      refine ⟨hab.1, ?_⟩
      rw [enb, bit, hab.2]
      have n1 : ¬ (a = u.toNat ∧ b = v.toNat) := fun q => by
        have : (nb.getD u.toNat 0).testBit v.toNat = false := hb
        rw [← q.1, ← q.2, hab.2] at this; cases this
      have n2 : ¬ (a = v.toNat ∧ b = u.toNat) := fun q => by
        have : (nb.getD u.toNat 0).testBit v.toNat = false := hb
        rw [(Y _ _).1, ← q.1, ← q.2, hab.2] at this; cases this
      simp [n1, n2]) (fun a b hab => by
      unfold eB at hab ⊢
      simp only [Bool.and_eq_true, decide_eq_true_eq] at hab ⊢
      by_cases q1 : a = u.toNat ∧ b = v.toNat
      · exact .inr (.inl q1)
      · by_cases q2 : a = v.toNat ∧ b = u.toNat
        · exact .inr (.inr q2)
        · left
          refine ⟨hab.1, ?_⟩
          have := hab.2
          rw [enb, bit] at this
          simpa [q1, q2] using this)
    have rl1 := reps_len (E := eB n nb) n
    have g1 : ¬ ((((reps (eB n nb') n).length : Nat) : Int) > (((reps (eB n nb) n).length : Nat) : Int)) := by omega
    have ws : IntKind.wrap .i64 ((((reps (eB n nb) n).length : Nat) : Int) - 1) = (((reps (eB n nb) n).length : Nat) : Int) - 1 := wi (by omega) (by omega)
    have g2 : ¬ ((((reps (eB n nb') n).length : Nat) : Int) < (((reps (eB n nb) n).length : Nat) : Int) - 1) := by omega
    have wd : wrN ⟨0, h.length⟩ hd cb 0 [(Value.int .i64 2)] = some (hd.set cb (.own [(Value.int .i64 2), (Value.int .i64 u), (Value.int .i64 v)])) := by
      rw [wr_own cd (Nat.zero_le _) rfl (by simp)]; rfl
    obtain ⟨h9, e9⟩ : ∃ h9, h9 = hd.set cb (.own [(Value.int .i64 2), (Value.int .i64 u), (Value.int .i64 v)]) := ⟨_, rfl⟩
    rw [← e9] at wd
    have o9 : ∀ y, y ≠ cb → h9[y]? = hd[y]? := fun y hy => by rw [e9, set_else (Ne.symm hy)]
    have c9 : h9[cb]? = some (.own [(Value.int .i64 2), (Value.int .i64 u), (Value.int .i64 v)]) := by rw [e9]; exact set_here cd
    have r9 : rdN h9 cb 0 3 = some [(Value.int .i64 2), (Value.int .i64 u), (Value.int .i64 v)] := by rw [rdN_own c9 (by simp)]; rfl
    have G9 := Gd.same (o9 q (Ne.symm hcq))
    have P9 := Pd.same (o9 hh.length (by omega))
    have ed9 := do_s (md := ⟨0, h.length⟩) G9 (Nat.zero_le _) 2 u v
    have hw2 : wr n 2 u v = 0 := by
      unfold wr; rw [if_neg (by omega), hu, hv]
      simp only [Bool.and_self, Bool.not_true, cond_false]
      rw [if_neg (fun q => huv q.1)]
    have eg2 : gDo n nb' 2 u v = (true, 0, nb) := by
      unfold gDo
      rw [if_neg (fun q => q hw2), if_neg (by decide), if_neg (by rw [buv]; decide), enb, tn_tn G.N n16 (by omega) (by omega) (by omega)]
    rw [eg2] at ed9
    simp only at ed9
    obtain ⟨hz, ez⟩ : ∃ hz, hz = h9.set q (.own (grC n nb)) := ⟨_, rfl⟩
    rw [← ez] at ed9
    have Gz : Gr hz q n nb := ⟨by rw [ez]; exact set_here G9.hq, G.n1, n16, G.N⟩
    have Pz : Gr hz hh.length n nb := P9.same (by rw [ez, set_else (by omega)])
    have ee := fun (m : Md) => gequal_s (md := m) Gz Pz
    have dd : (decide (n = n) && decide (nb = nb)) = true := by simp
    simp only [dd] at ee
    refine ⟨hz.take h.length, ?_⟩
    unfold J6_1
    simp only [go_sem, Nat.reduceAdd, Nat.reduceLeDiff, Nat.reduceMul, Int.reduceBEq, Int.reduceBNe, Int.reduceLT, Int.reduceLE, Int.reduceGT, ec, w1, r4, ed, aBin_eqlP uP, aUn_not, r71, r72, ej, ea, la, eb2, lb, aBin_gtr, g1, ec3, lc, ed4, ld, aBin_sub, ws, aBin_lss, g2, wd, r9, ed9, aBin_eql, ee, awake24]
theorem back_law : Law Try.prog cfg 6 [3, 22, 31] := by
  intro h avs ha
  obtain ⟨x, r, rfl, a0, ha⟩ := args_cons ha
  obtain ⟨cv, r, rfl, a1, ha⟩ := args_cons ha
  obtain ⟨c, r, rfl, a2, ha⟩ := args_cons ha
  obtain rfl := args_nil ha
  obtain ⟨z, rfl, z0, z1⟩ := inI64 (arg1 (P := Try.prog) (by kernel_rfl) (by kernel_rfl) a0)
  obtain ⟨cs, SC⟩ := arg_calls a1
  obtain ⟨k, u, v, rfl, _, _, _⟩ := arg_call a2
  have len := fun {α : Type} (k : Value → Option α) => SC.len k
  have uP : Try.prog.underlying 24 = some (.pointer 82) := by kernel_rfl
  rw [call_eq, F6_eq]
  unfold F6
  by_cases z1' : z < 1
  · exact ⟨(h ++ [Blk.own [(Value.int .i64 k), (Value.int .i64 u), (Value.int .i64 v)]]).take h.length, by simp only [go_sem, Nat.reduceAdd, Nat.reduceLeDiff, Nat.reduceMul, Int.reduceBEq, Int.reduceBNe, Int.reduceLT, Int.reduceLE, Int.reduceGT, z1', awake24]⟩
  by_cases z16 : z > 16
  · exact ⟨(h ++ [Blk.own [(Value.int .i64 k), (Value.int .i64 u), (Value.int .i64 v)]]).take h.length, by simp only [go_sem, Nat.reduceAdd, Nat.reduceLeDiff, Nat.reduceMul, Int.reduceBEq, Int.reduceBNe, Int.reduceLT, Int.reduceLE, Int.reduceGT, z1', z16, aBin_gtr, awake24]⟩
  by_cases h40 : (cs.length : Int) > 40
  · exact ⟨(h ++ [Blk.own [(Value.int .i64 k), (Value.int .i64 u), (Value.int .i64 v)]]).take h.length, by simp only [go_sem, Nat.reduceAdd, Nat.reduceLeDiff, Nat.reduceMul, Int.reduceBEq, Int.reduceBNe, Int.reduceLT, Int.reduceLE, Int.reduceGT, z1', z16, aBin_gtr, len, h40, awake24]⟩
  obtain ⟨n, rfl⟩ : ∃ n : Nat, z = n := ⟨z.toNat, by omega⟩
  obtain ⟨h0, e0⟩ : ∃ h0, h0 = h ++ [Blk.own [(Value.int .i64 k), (Value.int .i64 u), (Value.int .i64 v)]] := ⟨_, rfl⟩
  have l0 : h0.length = h.length + 1 := by rw [e0]; simp
  have e := fun (m : Md) => gnew_s (md := m) h0 (n := n) (by omega) (by omega)
  have G := gnew_g h0 (n := n) (by omega) (by omega)
  have hc : (h0 ++ [Blk.own (grC n (List.replicate 16 0))])[h.length]? = some (.own [(Value.int .i64 k), (Value.int .i64 u), (Value.int .i64 v)]) := by rw [List.getElem?_append_left (by omega), e0]; simp
  have O0 : Old h.length h (h0 ++ [Blk.own (grC n (List.replicate 16 0))]) := ⟨by simp; omega, fun y hy => by rw [List.getElem?_append_left (by omega), e0, List.getElem?_append_left hy]⟩
  obtain ⟨hf, nbf, eg, Gf, Yf, Of⟩ := back_calls (h := h) (cb := h.length) (q := h0.length) (n := n) (s6 := (Value.bool false)) SC (by omega) (by omega) cs.length 0 (h0 ++ [Blk.own (grC n (List.replicate 16 0))]) _ (by omega) G sy0 O0
  obtain ⟨g, e2⟩ := back_end (h := h) (u := u) (v := v) (k := k) Gf Yf ((Of.old _ (by omega)).trans hc) (by omega) (by have := Of.len; have := O0.len; omega)
  refine ⟨g, ?_⟩
  simp only [← e0] at *
  simp only [go_sem, Nat.reduceAdd, Nat.reduceLeDiff, Nat.reduceMul, Int.reduceBEq, Int.reduceBNe, Int.reduceLT, Int.reduceLE, Int.reduceGT, z1', z16, aBin_gtr, len, h40, e, aBin_eqlP uP]
  refine Eq.trans eg ?_
  exact e2
end Go.Det.E
