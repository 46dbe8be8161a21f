/- Takes and gives, each to its end: a take, and the whole law. -/
import Derived.Test.YtfckdafeeoibhaaS5
set_option autoImplicit false
set_option linter.unusedVariables false
set_option linter.unusedSimpArgs false
namespace Go.Det.E
open Go.Proofs Go.Det
attribute [local congr] bind_c cond_c
variable {h hh h' : Heap} {a b n : Nat} {fv tv v : Value} {l c free taken ops : List Int}
/-- One round: a slot is taken, if there is one. -/
theorem take_round {k : Nat} {hn : n ≤ 48} {s4 : Value} (P : Se h hh a b n fv tv l c free taken) (SV : Sl h 1 encI v ops) (hlen : ops.length ≤ 60) {o : Int} (hx : ops[k]? = some o) (hno : ¬ (0 ≤ o ∧ taken ≠ [])) :
    ∃ fv' tv' h' l' c' free' taken', Jr3_2 C ⟨0, h.length⟩ s4 ((Value.pointer (some ⟨h.length, 0, none⟩))) ((Value.pointer (some ⟨a, 0, none⟩))) fv tv v ((Value.int .i64 ((ops.length : Int)))) ((Value.int .i64 ((k : Int)))) hh =
      some (.inl ((s4, (Value.pointer (some ⟨h.length, 0, none⟩)), (Value.pointer (some ⟨a, 0, none⟩)), fv', tv', v, (Value.int .i64 ((ops.length : Int))), (Value.int .i64 (((k + 1 : Nat) : Int)))), h')) ∧ Se h h' a b n fv' tv' l' c' free' taken' := by
  have hkl : k < ops.length := (List.getElem?_eq_some_iff.1 hx).1
  have hlt : (k : Int) < (ops.length : Int) := by omega
  have S0 : Sl hh 1 encI v ops := SV.heap fun hl => P.G.old _ hl
  obtain ⟨ix, el⟩ := Sl.readn S0 hx
  have w : IntKind.wrap .i64 ((k : Int) + 1) = ((k + 1 : Nat) : Int) := by rw [wi (by omega) (by omega)]; rfl
  have mo := fun (m : Md) => memof_s m hh (lt_of P.A.ha)
  have gl := P.G.len
  have lq := lt_of P.q
  have la := P.la
  have lb := P.lb
  have uT : Try.prog.underlying 37 = some (.pointer 131) := by kernel_rfl
  have uB : Try.prog.underlying 4 = some .bool := by kernel_rfl
  have rL : ∀ hx : Heap, hx[h.length]? = some (.own [(Value.int .i64 1), (Value.int .i64 ((n : Int))), (Value.int .i64 1)]) → rdN hx h.length 0 3 = some [(Value.int .i64 1), (Value.int .i64 ((n : Int))), (Value.int .i64 1)] := fun hx e => by rw [rdN_own e (by simp)]; rfl
  have rL0 := rL hh P.q
  obtain ⟨lv, h1, c1, e1, S1, A1, O1⟩ := list_e (md := ⟨0, h.length⟩) (rt1 hn) P.A P.w (Nat.zero_le _) (Nat.zero_le _) (by show h.length ≤ hh.length; omega) P.F (by have := P.sz; omega)
  have P1 := P.og A1 O1
  have fl : free.length < 1000000 := by have := P.sz; omega
  have sm := same_s S1.sl P1.SF.sl fl ⟨0, h.length⟩
  have l1 := O1.len
  have rL1 := rL h1 P1.q
  have nt := newtake_s (V := 1) (S := (n : Int)) (T := 1) ⟨0, h.length⟩ h1 (Nat.zero_le _) (by show h.length ≤ h1.length; omega)
  have A2 := A1.app [Blk.own [(Value.int .i64 1), (Value.int .i64 ((n : Int))), (Value.int .i64 1)], Blk.own (tkC 1 n 1 0 0 0)]
  have k2 : (h1 ++ [Blk.own [(Value.int .i64 1), (Value.int .i64 ((n : Int))), (Value.int .i64 1)], Blk.own (tkC 1 n 1 0 0 0)])[h1.length + 1]? = some (.own (tkC 1 n 1 0 0 0)) := by rw [List.getElem?_append_right (by omega), Nat.add_sub_cancel_left]; rfl
  have lta := lt_of A1.ha
  have ltb := lt_of A1.hb
  have i1 : inR l 1 := ⟨by omega, by have := P.hl; omega⟩
  have gw := P.w.get 1
  obtain ⟨h3, e3, A3, k3, l3, f3⟩ := tstep0 (md := ⟨0, h.length⟩) A2 P.w (Nat.zero_le _) (Nat.zero_le _) (by omega) (by omega) k2
  simp only [List.length_append, List.length_cons, List.length_nil] at l3
  have O3 : OG a b h1 h3 := ⟨by omega, fun y hy ha hb => by rw [f3 y ha hb (by omega), List.getElem?_append_left hy]⟩
  -- to the loop of the take
  have go : Jr3_2 C ⟨0, h.length⟩ s4 ((Value.pointer (some ⟨h.length, 0, none⟩))) ((Value.pointer (some ⟨a, 0, none⟩))) fv tv v ((Value.int .i64 ((ops.length : Int)))) ((Value.int .i64 ((k : Int)))) hh =
      J3_2b0 C ⟨0, h.length⟩ s4 ((Value.pointer (some ⟨h.length, 0, none⟩))) ((Value.pointer (some ⟨a, 0, none⟩))) fv tv ((Value.pointer (some ⟨h1.length + 1, 0, none⟩))) ((Value.int .i64 0)) v ((Value.int .i64 ((ops.length : Int)))) ((Value.int .i64 ((k : Int)))) (h1 ++ [Blk.own [(Value.int .i64 1), (Value.int .i64 ((n : Int))), (Value.int .i64 1)], Blk.own (tkC 1 n 1 0 0 0)]) := by
    by_cases h0 : 0 ≤ o
    · have ht : taken = [] := Classical.byContradiction fun q => hno ⟨h0, q⟩
      have len : ∀ {α : Type} (k : Value → Option α), lenS tv k = k ((Value.int .i64 0)) := fun k => by rw [P1.ST.sl.len k, ht]; rfl
      unfold Jr3_2
      simp only [go_sem, Nat.reduceAdd, Nat.reduceLeDiff, Nat.reduceMul, Int.reduceBEq, Int.reduceBNe, Int.reduceLT, Int.reduceLE, Int.reduceGT, aBin_lss, hlt, ix, el, mo, rL0, e1, sm, ge_iff_le, h0, len, aBin_gtr, Int.lt_irrefl, rL1, nt, aBin_eqlP uT]
    · unfold Jr3_2
      simp only [go_sem, Nat.reduceAdd, Nat.reduceLeDiff, Nat.reduceMul, Int.reduceBEq, Int.reduceBNe, Int.reduceLT, Int.reduceLE, Int.reduceGT, aBin_lss, hlt, ix, el, mo, rL0, e1, sm, ge_iff_le, h0, rL1, nt, aBin_eqlP uT]
  rw [go]
  cases free with
  | nil =>
    have hz : getI l 1 % 65536 = 0 := P.F
    have z : (getI l 1 % 65536 == 0) = true := by simp [hz]
    rw [z] at e3 k3
    have P3 := P1.og A3 O3
    have so := slot_of ⟨0, h.length⟩ gw.1 gw.2 k3
    have z2 : (getI l 1 % 65536 != 0) = false := by simp [hz]
    simp only [cond_true, z2, Bool.and_false, cond_false] at so
    have len0 : ∀ {α : Type} (k : Value → Option α), lenS fv k = k ((Value.int .i64 0)) := fun k => by rw [P3.SF.sl.len k]; rfl
    refine ⟨fv, tv, h3, l, _, [], taken, ?_, P3⟩
    rw [J3_2b0_step]
    unfold Jr3_2b0
    simp only [go_sem, Nat.reduceAdd, Nat.reduceLeDiff, Nat.reduceMul, Int.reduceBEq, Int.reduceBNe, Int.reduceLT, Int.reduceLE, Int.reduceGT, e3, Jk3_2b0]
    unfold J3_2b1
    simp only [go_sem, Nat.reduceAdd, Nat.reduceLeDiff, Nat.reduceMul, Int.reduceBEq, Int.reduceBNe, Int.reduceLT, Int.reduceLE, Int.reduceGT, so, len0, gt_iff_lt, Int.lt_irrefl, aBin_neqB uB, bne_self_eq_false, aUn_not, aBin_neq, aBin_add, w]
  | cons x xs =>
    obtain ⟨hx1, x0, x1, Fx⟩ := P.F
    have z : (getI l 1 % 65536 == 0) = false := by rw [hx1]; simp; omega
    rw [z] at e3 k3
    simp only [cond_false] at k3
    have ox : ∀ x : Int, 0 ≤ x → x < n → Ox n 1 x 0 = 1 + 1 + x * 7 := fun x h0 h1 => Ox_in h0 h1
    have hsub : getI l 1 % 65536 - 1 = x := by omega
    obtain ⟨h4, e4, A4, k4, l4, f4⟩ := tstep1 (md := ⟨0, h.length⟩) (rt1 hn) A3 P.w (Nat.zero_le _) (Nat.zero_le _) (by omega) (by omega) gw.1 gw.2 k3
    rw [hsub] at k4 A4
    have nw := P.w.get (Ox n 1 x 0)
    obtain ⟨h5, e5, A5, k5, l5, f5⟩ := tstep2 (md := ⟨0, h.length⟩) A4 (Nat.zero_le _) (Nat.zero_le _) (Nat.zero_le _) (by omega) (by omega) gw.1 gw.2 nw.1 nw.2 k4
    rw [isW_now i1] at e5 A5 k5
    simp only [cond_true] at A5 k5
    have so := slot_of ⟨0, h.length⟩ gw.1 gw.2 k5
    have z2 : (getI l 1 % 65536 != 0) = true := by simp only [bne, z]; rfl
    have t3 : ((3 : Int) == 3) = true := rfl
    simp only [t3, z2, Bool.and_true, cond_true, hsub] at so
    have O5 : OG a b h1 h5 := ⟨by omega, fun y hy ha hb => by rw [f5 y ha hb (by omega), f4 y ha hb (by omega), O3.oth y hy ha hb]⟩
    have SF5 : SlO h5 (h.length + 1) 1 encI fv (x :: xs) := P1.SF.keep (P1.SF.lo.elim .inl fun q => P1.dF.imp id fun d => O5.oth _ q.2 d.1 d.2)
    have ST5 : SlO h5 (h.length + 1) 1 encI tv taken := P1.ST.keep (P1.ST.lo.elim .inl fun q => P1.dT.imp id fun d => O5.oth _ q.2 d.1 d.2)
    have lenF : ∀ {α : Type} (k : Value → Option α), lenS fv k = k ((Value.int .i64 (((xs.length + 1 : Nat) : Int)))) := fun k => SF5.sl.len k
    have pos : (0 : Int) < ((xs.length + 1 : Nat) : Int) := by omega
    obtain ⟨i0, r0⟩ := Sl.read SF5.sl (i := 0) (x := x) (by omega) rfl
    obtain ⟨fv', ef, SF', hfv⟩ := SF5.tail tInts
    obtain ⟨tv', h6, ea, S6, l6, f6⟩ := append_own2 (md := ⟨0, h.length⟩) (ys := [x]) tInts ST5 (Nat.zero_le _) (by omega) (cs := [(Value.int .i64 x)]) (by simp [flat]) (by simp) rfl (by have := P.sz; simp; omega)
    have s5b := ST5.lo
    have tvb : ∀ y, (y = a ∨ y = b ∨ y ≤ h.length) → y < h5.length → h6[y]? = h5[y]? := fun y hy hl => f6 y hl (s5b.elim .inl fun q => (P1.dT).imp id fun d => by omega)
    have A6 := A5.same (tvb a (.inl rfl) (lt_of A5.ha)) (tvb b (.inr (.inl rfl)) (lt_of A5.hb))
    have i1' : inR (putI l 1 (withW (getI l 1) (getI l (Ox n 1 x 0)))) 1 := inR_put i1
    have fvne : fv ≠ .slice none 0 0 := fun e => by
      have := SF5; rw [e] at this; have := this.nil_of; cases this
    have dF := P1.dF.resolve_left fvne
    have hnx : getI l (Ox n 1 x 0) % 65536 = getI l (Ox n 1 x 0) := by
      rcases Fx.pos with q | ⟨_, q⟩ <;> omega
    have ndp : (x :: xs ++ taken).Nodup := P.nd
    have w6 := P.w.put 1 (withW_in (getI l 1) (getI l (Ox n 1 x 0)))
    have fvl := (SF5.lo.resolve_left fvne)
    refine ⟨fv', tv', h6, _, _, xs, taken ++ [x], ?_, ⟨A6, w6, by rw [putI_len]; exact P.hl, ?_, ?_, la, lb, ?_, S6.mono (by omega), ?_, ?_, ?_, ?_, ?_, ?_, ?_⟩⟩
    · have w1 : IntKind.wrap .i64 (0 + 1) = 1 := by decide
      have w2 : IntKind.wrap .i64 (1 + 1) = 2 := by decide
      have c1 : ¬ (2 : Int) < 1 := by omega
      have c2 : ¬ (2 : Int) < 2 := by omega
      simp only [List.length_cons, List.length_nil, Nat.zero_add] at ea
      have i0' : ∀ {α : Type} (kk : Value → Option α), ixS 1 fv 0 kk = kk ((Value.pointer (some ⟨slB fv, slO fv, none⟩))) := fun kk => i0 kk
      have r0' : rd h5 (slB fv) (slO fv) = some ((Value.int .i64 x)) := r0
      have st1 : Jr3_2b0 C ⟨0, h.length⟩ s4 ((Value.pointer (some ⟨h.length, 0, none⟩))) ((Value.pointer (some ⟨a, 0, none⟩))) fv tv ((Value.pointer (some ⟨h1.length + 1, 0, none⟩))) ((Value.int .i64 0)) v ((Value.int .i64 ((ops.length : Int)))) ((Value.int .i64 ((k : Int)))) (h1 ++ [Blk.own [(Value.int .i64 1), (Value.int .i64 ((n : Int))), (Value.int .i64 1)], Blk.own (tkC 1 n 1 0 0 0)]) =
          some (.inl ((s4, (Value.pointer (some ⟨h.length, 0, none⟩)), (Value.pointer (some ⟨a, 0, none⟩)), fv, tv, (Value.pointer (some ⟨h1.length + 1, 0, none⟩)), (Value.int .i64 1), v, (Value.int .i64 ((ops.length : Int))), (Value.int .i64 ((k : Int)))), h3)) := by
        unfold Jr3_2b0
        simp only [go_sem, Nat.reduceAdd, Nat.reduceLeDiff, Nat.reduceMul, Int.reduceBEq, Int.reduceBNe, Int.reduceLT, Int.reduceLE, Int.reduceGT, e3, aBin_add, w1, aBin_gtr, c1]
      have st2 : Jr3_2b0 C ⟨0, h.length⟩ s4 ((Value.pointer (some ⟨h.length, 0, none⟩))) ((Value.pointer (some ⟨a, 0, none⟩))) fv tv ((Value.pointer (some ⟨h1.length + 1, 0, none⟩))) ((Value.int .i64 1)) v ((Value.int .i64 ((ops.length : Int)))) ((Value.int .i64 ((k : Int)))) h3 =
          some (.inl ((s4, (Value.pointer (some ⟨h.length, 0, none⟩)), (Value.pointer (some ⟨a, 0, none⟩)), fv, tv, (Value.pointer (some ⟨h1.length + 1, 0, none⟩)), (Value.int .i64 2), v, (Value.int .i64 ((ops.length : Int))), (Value.int .i64 ((k : Int)))), h4)) := by
        unfold Jr3_2b0
        simp only [go_sem, Nat.reduceAdd, Nat.reduceLeDiff, Nat.reduceMul, Int.reduceBEq, Int.reduceBNe, Int.reduceLT, Int.reduceLE, Int.reduceGT, e4, aBin_add, w2, aBin_gtr, c2]
      rw [J3_2b0_step, st1]
      simp only [Option.bind_some]
      rw [J3_2b0_step, st2]
      simp only [Option.bind_some]
      rw [J3_2b0_step]
      unfold Jr3_2b0
      simp only [go_sem, Nat.reduceAdd, Nat.reduceLeDiff, Nat.reduceMul, Int.reduceBEq, Int.reduceBNe, Int.reduceLT, Int.reduceLE, Int.reduceGT, e5, Jk3_2b0]
      unfold J3_2b1
      simp only [go_sem, Nat.reduceAdd, Nat.reduceLeDiff, Nat.reduceMul, Int.reduceBEq, Int.reduceBNe, Int.reduceLT, Int.reduceLE, Int.reduceGT, so, lenF, gt_iff_lt, pos, aBin_neqB uB, bne_self_eq_false, i0', r0', aBin_neq, aUn_not, ef, ea, aBin_add, w]
    · rw [getI_same i1, withW_first, hnx]
      refine Fx.other fun y hy => ?_
      obtain ⟨y0, y1⟩ := P.rg y (by simp [hy])
      rw [getI_else (by rw [ox y y0 y1]; omega)]
    · rw [tvb _ (.inr (.inr (Nat.le_refl _))) (by omega), O5.oth _ (by omega) (by omega) (by omega)]; exact P1.q
    · refine SF'.keep ?_
      rcases hfv with e | e
      · exact .inl e
      · right
        rw [e]
        refine f6 _ fvl.2 ?_
        rcases P1.dFT with q | q | q
        · exact absurd q fvne
        · exact .inl q
        · exact .inr q
    · rcases hfv with e | e
      · exact .inl e
      · right; rw [e]; exact dF
    · have := S6.lo
      have := lt_of A5.ha
      have := lt_of A5.hb
      exact S6.lo.imp id fun q => by omega
    · rcases hfv with e | e
      · exact .inl e
      · have := fvl.2
        rcases S6.lo with q | q
        · exact .inr (.inl q)
        · exact .inr (.inr (by rw [e]; omega))
    · have q : (x :: xs ++ taken).Perm (xs ++ (taken ++ [x])) := by
        rw [← List.append_assoc, List.cons_append]
        exact (List.perm_append_comm (l₁ := [x]) (l₂ := xs ++ taken))
      exact q.nodup_iff.1 ndp
    · intro y hy
      refine P.rg y ?_
      simp only [List.mem_append, List.mem_cons, List.not_mem_nil, or_false] at hy ⊢
      rcases hy with h | h | h
      · exact .inl (.inr h)
      · exact .inr h
      · exact .inl (.inl h)
    · have := P.sz
      simp only [List.length_cons, List.length_append, List.length_nil] at this ⊢
      omega
    · exact ⟨by omega, fun y hy => by rw [tvb y (.inr (.inr (by omega))) (by omega), O5.oth y (by omega) (by omega) (by omega)]; exact P1.G.old y hy⟩
theorem series_loop {hn : n ≤ 48} {s4 : Value} (SV : Sl h 1 encI v ops) (hlen : ops.length ≤ 60) : ∀ (m k : Nat) (hh : Heap) (fv tv : Value) (l c free taken : List Int), k + m = ops.length → Se h hh a b n fv tv l c free taken →
    ∃ g, J3_2 C ⟨0, h.length⟩ h s4 ((Value.pointer (some ⟨h.length, 0, none⟩))) ((Value.pointer (some ⟨a, 0, none⟩))) fv tv v ((Value.int .i64 ((ops.length : Int)))) ((Value.int .i64 ((k : Int)))) hh = some ((Value.bool true), g) := by
  intro m
  induction m with
  | zero =>
    intro k hh fv tv l c free taken hk P
    obtain rfl : k = ops.length := by omega
    refine ⟨hh.take h.length, ?_⟩
    rw [J3_2_step]
    unfold Jr3_2
    simp only [go_sem, Nat.reduceAdd, Nat.reduceLeDiff, Nat.reduceMul, Int.reduceBEq, Int.reduceBNe, Int.reduceLT, Int.reduceLE, Int.reduceGT, aBin_lss, Int.lt_irrefl, Jk3_2, awake07]
  | succ m ih =>
    intro k hh fv tv l c free taken hk P
    obtain ⟨o, hx⟩ : ∃ o, ops[k]? = some o := ⟨ops[k]'(by omega), List.getElem?_eq_getElem (by omega)⟩
    have key : ∃ fv' tv' h' l' c' free' taken', Jr3_2 C ⟨0, h.length⟩ s4 ((Value.pointer (some ⟨h.length, 0, none⟩))) ((Value.pointer (some ⟨a, 0, none⟩))) fv tv v ((Value.int .i64 ((ops.length : Int)))) ((Value.int .i64 ((k : Int)))) hh =
      some (.inl ((s4, (Value.pointer (some ⟨h.length, 0, none⟩)), (Value.pointer (some ⟨a, 0, none⟩)), fv', tv', v, (Value.int .i64 ((ops.length : Int))), (Value.int .i64 (((k + 1 : Nat) : Int)))), h')) ∧ Se h h' a b n fv' tv' l' c' free' taken' := by
      by_cases hq : 0 ≤ o ∧ taken ≠ []
      · exact give_round (m := 0) (hn := hn) (s1 := s4) P SV hlen hx hq.1 hq.2
      · exact take_round (hn := hn) P SV hlen hx hq
    obtain ⟨fv', tv', h', l', c', free', taken', e, P'⟩ := key
    obtain ⟨g, eg⟩ := ih (k + 1) h' fv' tv' l' c' free' taken' (by omega) P'
    refine ⟨g, ?_⟩
    rw [J3_2_step, e]
    exact eg
theorem fill_loop {hn : n ≤ 48} {s1 s4 s8 : Value} : ∀ (m k : Nat) (hh : Heap) (fv : Value), k + m = n → Ar hh a b l c → hh[h.length]? = some (.own [(Value.int .i64 1), (Value.int .i64 ((n : Int))), (Value.int .i64 1)]) → h.length < a → h.length < b → Old h.length h hh →
    SlO hh (h.length + 1) 1 encI fv ((List.range k).map fun (i : Nat) => (i : Int)) → (fv = .slice none 0 0 ∨ (slB fv ≠ a ∧ slB fv ≠ b)) →
    ∃ fv' h', J3_0 C ⟨0, h.length⟩ h s1 s4 ((Value.pointer (some ⟨h.length, 0, none⟩))) ((Value.pointer (some ⟨a, 0, none⟩))) fv s8 ((Value.int .i64 ((n : Int)))) ((Value.int .i64 ((k : Int)))) hh = J3_1 C ⟨0, h.length⟩ h s1 s4 ((Value.pointer (some ⟨h.length, 0, none⟩))) ((Value.pointer (some ⟨a, 0, none⟩))) fv' s8 h' ∧
      Ar h' a b l c ∧ h'[h.length]? = some (.own [(Value.int .i64 1), (Value.int .i64 ((n : Int))), (Value.int .i64 1)]) ∧ Old h.length h h' ∧ SlO h' (h.length + 1) 1 encI fv' ((List.range n).map fun (i : Nat) => (i : Int)) ∧ (fv' = .slice none 0 0 ∨ (slB fv' ≠ a ∧ slB fv' ≠ b)) := by
  intro m
  induction m with
  | zero =>
    intro k hh fv hk A hq la lb G SF dF
    obtain rfl : k = n := by omega
    refine ⟨fv, hh, ?_, A, hq, G, SF, dF⟩
    rw [J3_0_step]
    unfold Jr3_0
    simp only [go_sem, Nat.reduceAdd, Nat.reduceLeDiff, Nat.reduceMul, Int.reduceBEq, Int.reduceBNe, Int.reduceLT, Int.reduceLE, Int.reduceGT, aBin_lss, Int.lt_irrefl, Jk3_0]
  | succ m ih =>
    intro k hh fv hk A hq la lb G SF dF
    have hlt : (k : Int) < (n : Int) := by omega
    have w : IntKind.wrap .i64 ((k : Int) + 1) = ((k + 1 : Nat) : Int) := by rw [wi (by omega) (by omega)]; rfl
    have gl := G.len
    have lq := lt_of hq
    obtain ⟨fv', h6, ea, S6, l6, f6⟩ := append_own2 (md := ⟨0, h.length⟩) (ys := [(k : Int)]) tInts SF (Nat.zero_le _) (by omega) (cs := [(Value.int .i64 ((k : Int)))]) (by simp [flat]) (by simp) rfl (by simp; omega)
    have sb := SF.lo
    have lta := lt_of A.ha
    have ltb := lt_of A.hb
    have keep : ∀ y, (y = a ∨ y = b ∨ y ≤ h.length) → y < hh.length → h6[y]? = hh[y]? := fun y hy hl => f6 y hl (sb.elim .inl fun q => dF.imp id fun d => by omega)
    obtain ⟨fv2, h2, e2, r⟩ := ih (k + 1) h6 fv' (by omega) (A.same (keep a (.inl rfl) lta) (keep b (.inr (.inl rfl)) ltb)) ((keep _ (.inr (.inr (Nat.le_refl _))) lq).trans hq) la lb
      ⟨by omega, fun y hy => (keep y (.inr (.inr (by omega))) (by omega)).trans (G.old y hy)⟩ (by rw [List.range_succ, List.map_append]; exact S6.mono (by omega)) (S6.lo.imp id fun q => by omega)
    refine ⟨fv2, h2, ?_, r⟩
    rw [J3_0_step]
    unfold Jr3_0
    simp only [List.length_cons, List.length_nil, Nat.zero_add] at ea
    simp only [go_sem, Nat.reduceAdd, Nat.reduceLeDiff, Nat.reduceMul, Int.reduceBEq, Int.reduceBNe, Int.reduceLT, Int.reduceLE, Int.reduceGT, aBin_lss, hlt, bInts1, ea, aBin_add, w]
    exact e2
theorem flatI (ys : List Int) : flat encI ys = ys.map (.int .i64) := by
  induction ys with
  | nil => rfl
  | cons y ys ih => rw [flat_cons, ih]; rfl
theorem arg_ints {h : Heap} {v : Value} (x : TyArg Try.prog h 22 v) : ∃ ops : List Int, Sl h 1 encI v ops ∧ ops.length ≤ maxLen := by
  obtain ⟨base, ns, cp, rfl, hn, _, hb⟩ := slI (arg1 (c := .sl [.i .i64]) (by kernel_rfl) (by kernel_rfl) x)
  rcases inSl (arg1 (c := .sl [.i .i64]) (by kernel_rfl) (by kernel_rfl) x : TyS h (.sl [.i .i64]) _) with e | ⟨b, ess, e, hb', hl, he⟩
  · rw [e]; exact ⟨[], Sl.nil _ encI_len, Nat.zero_le _⟩
  · obtain ⟨vs, rfl, e2, hv⟩ := elems1 he
    have : ∃ ops : List Int, vs = ops.map (.int .i64) := by
      clear e hb' hl e2 he
      induction vs with
      | nil => exact ⟨[], rfl⟩
      | cons y ys ih =>
        obtain ⟨n, rfl, _⟩ := inI64 (hv y (by simp))
        obtain ⟨ops, rfl⟩ := ih (fun z hz => hv z (by simp [hz]))
        exact ⟨n :: ops, rfl⟩
    obtain ⟨ops, rfl⟩ := this
    rw [e]
    refine ⟨ops, Sl.whole encI_len hb' ?_ (by simp), by simpa using hl⟩
    simp only [Blk.cells, e2]
    exact (flatI ops).symm
theorem series_law : Law Try.prog cfg 3 [3, 22] := by
  intro h avs ha
  obtain ⟨x, r, rfl, a0, ha⟩ := args_cons ha
  obtain ⟨v, r, rfl, a1, ha⟩ := args_cons ha
  obtain rfl := args_nil ha
  obtain ⟨z, rfl, z0, z1⟩ := inI64 (arg1 (P := Try.prog) (by kernel_rfl) (by kernel_rfl) a0)
  obtain ⟨ops, SV, hm⟩ := arg_ints a1
  have len := fun {α : Type} (k : Value → Option α) => SV.len k
  rw [call_eq, F3_eq]
  unfold F3
  have st3 := fun (h' : Heap) (kk : Heap → Option (Value × Heap)) => st_N ⟨0, h.length⟩ 3 h.length 0 [(Value.int .i64 1), (Value.int .i64 z), (Value.int .i64 1)] h' kk rfl rfl
  by_cases hz : z < 0
  · exact ⟨(h ++ [Blk.own [(Value.int .i64 1), (Value.int .i64 z), (Value.int .i64 1)]]).take h.length, by simp only [go_sem, Nat.reduceAdd, Nat.reduceLeDiff, Nat.reduceMul, Int.reduceBEq, Int.reduceBNe, Int.reduceLT, Int.reduceLE, Int.reduceGT, hz, awake07]⟩
  by_cases hz2 : 48 < z
  · exact ⟨(h ++ [Blk.own [(Value.int .i64 1), (Value.int .i64 z), (Value.int .i64 1)]]).take h.length, by simp only [go_sem, Nat.reduceAdd, Nat.reduceLeDiff, Nat.reduceMul, Int.reduceBEq, Int.reduceBNe, Int.reduceLT, Int.reduceLE, Int.reduceGT, hz, aBin_gtr, hz2, awake07]⟩
  by_cases h60 : (60 : Int) < ops.length
  · exact ⟨(h ++ [Blk.own [(Value.int .i64 1), (Value.int .i64 z), (Value.int .i64 1)]]).take h.length, by simp only [go_sem, Nat.reduceAdd, Nat.reduceLeDiff, Nat.reduceMul, Int.reduceBEq, Int.reduceBNe, Int.reduceLT, Int.reduceLE, Int.reduceGT, hz, aBin_gtr, hz2, len, h60, awake07]⟩
  obtain ⟨n, rfl⟩ : ∃ n : Nat, z = n := ⟨z.toNat, by omega⟩
  have hn : n ≤ 48 := by omega
  obtain ⟨h1, a, b, l, e1, A1, O1, la, lb, w1, hl1, F1⟩ := begun07 (n := n) ⟨0, h.length⟩ (h ++ [Blk.own [(Value.int .i64 1), (Value.int .i64 ((n : Int))), (Value.int .i64 1)]]) hn (Nat.zero_le _) (by simp)
  simp only [List.length_append, List.length_cons, List.length_nil] at la lb O1
  have l1 := O1.len
  simp only [List.length_append, List.length_cons, List.length_nil] at l1
  have q1 : h1[h.length]? = some (.own [(Value.int .i64 1), (Value.int .i64 ((n : Int))), (Value.int .i64 1)]) := (O1.old _ (by omega)).trans (by simp)
  obtain ⟨fv, h2, e2, A2, q2, G2, SF2, dF2⟩ := fill_loop (h := h) (hn := hn) (s1 := v) (s4 := (Value.bool false)) (s8 := .slice none 0 0) n 0 h1 (.slice none 0 0) (by omega) A1 q1 (by omega) (by omega)
    ⟨by omega, fun y hy => by rw [O1.old y (by omega), List.getElem?_append_left hy]⟩ (SlO.nil _ _ encI_len) (.inl rfl)
  obtain ⟨g, eg⟩ := series_loop (hn := hn) (s4 := (Value.bool false)) SV (by omega) ops.length 0 h2 fv (.slice none 0 0) l _ _ [] (by omega)
    ⟨A2, w1, hl1, F1, q2, by omega, by omega, SF2, SlO.nil _ _ encI_len, dF2, .inl rfl, .inr (.inl rfl), by
      rw [List.append_nil]
      exact List.Pairwise.map (fun (i : Nat) => (i : Int)) (fun i j hij e => hij (Int.ofNat.inj e)) List.nodup_range, fun x hx => by
      simp only [List.append_nil, List.mem_map, List.mem_range] at hx
      obtain ⟨i, hi, rfl⟩ := hx
      omega, by simp, G2⟩
  refine ⟨g, ?_⟩
  simp only [go_sem, Nat.reduceAdd, Nat.reduceLeDiff, Nat.reduceMul, Int.reduceBEq, Int.reduceBNe, Int.reduceLT, Int.reduceLE, Int.reduceGT, hz, aBin_gtr, hz2, len, h60, e1, aBin_eqlP uPa]
  refine Eq.trans e2 ?_
  unfold J3_1
  simp only [go_sem, Nat.reduceAdd, Nat.reduceLeDiff, Nat.reduceMul, Int.reduceBEq, Int.reduceBNe, Int.reduceLT, Int.reduceLE, Int.reduceGT, len]
  exact eg
end Go.Det.E
