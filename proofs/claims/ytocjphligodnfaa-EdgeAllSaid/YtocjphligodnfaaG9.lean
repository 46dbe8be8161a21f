/- The edges turned and lifted, and back. -/
import Derived.Test.YtocjphligodnfaaG8
set_option autoImplicit false
set_option linter.unusedVariables false
set_option linter.unusedSimpArgs false
namespace Go.Det.E
open Go.Proofs Go.Det
attribute [local congr] bind_c cond_c
variable {md : Md} {h : Heap} {p a b q : Nat} {S T lev : Int} {v vv : Value} {ops : List Opn} {n : Nat} {all : List One}
theorem turns_ops (hR : Rt n S T) (SV : Sl h 6 encP v ops) (hlen : ops.length ≤ 60) (hab : h.length ≤ a ∧ h.length ≤ b ∧ h.length ≤ p) (s2 s6 s7 : Value) : ∀ (m k : Nat) (hh : Heap) (l c : List Int) (vv : Value) (all : List One), k + m = ops.length → Pl hh p a b n S T l c vv all → EI n S T l all → all.length ≤ k → Old h.length h hh →
    ∃ g l' c' v' all', J11_0 C ⟨0, h.length⟩ h s2 s6 s7 ((Value.pointer (some ⟨p, 0, none⟩))) v ((Value.int .i64 ((ops.length : Int)))) ((Value.int .i64 ((k : Int)))) hh = J11_1 C ⟨0, h.length⟩ h s2 s6 s7 ((Value.pointer (some ⟨p, 0, none⟩))) g ∧ Pl g p a b n S T l' c' v' all' ∧ EI n S T l' all' ∧ all'.length ≤ 60 ∧ Keep p a b hh g := by
  intro m
  induction m with
  | zero =>
    intro k hh l c vv all hk P I ha O
    obtain rfl : k = ops.length := by omega
    refine ⟨hh, l, c, vv, all, ?_, P, I, by omega, Keep.refl⟩
    rw [J11_0_step]
    unfold Jr11_0
    simp only [go_sem, Nat.reduceAdd, Nat.reduceLeDiff, Nat.reduceMul, Int.reduceBEq, Int.reduceBNe, Int.reduceLT, Int.reduceLE, Int.reduceGT, aBin_lss, Int.lt_irrefl, Jk11_0]
  | succ m ih =>
    intro k hh l c vv all hk P I ha O
    have hlt : (k : Int) < (ops.length : Int) := by omega
    obtain ⟨x, hx⟩ : ∃ x, ops[k]? = some x := ⟨ops[k]'(by omega), List.getElem?_eq_getElem (by omega)⟩
    have S0 : Sl hh 6 encP v ops := SV.heap fun hl => O.old _ hl
    have ix := fun {α : Type} (kk : Value → Option α) => S0.ix (i := (k : Int)) (by omega) hlt kk
    have el := S0.elem hx
    have hl := O.len
    have P6 := P.app [.own (encP x)]
    obtain ⟨h9, l9, c9, v9, all9, e9, P9, I9, a9, O9⟩ := step_k (md := ⟨0, h.length⟩) (n0 := h.length) hR P6 I (by omega) hab (Nat.zero_le _) hab.2.2 x.k x.s x.u x.v x.lv x.t
    have K9 := (Keep.app (p := p) (a := a) (b := b) [Blk.own (encP x)] (by have := lt_of P.hp; omega)).trans O9
    obtain ⟨g, l', c', v', all', eg, r⟩ := ih (k + 1) h9 l9 c9 v9 all9 (by omega) P9 I9 (by omega) (O.trans (K9.old hab.1 hab.2.1 hab.2.2))
    refine ⟨g, l', c', v', all', ?_, r.1, r.2.1, r.2.2.1, K9.trans r.2.2.2⟩
    have w : IntKind.wrap .i64 ((k : Int) + 1) = ((k + 1 : Nat) : Int) := by rw [wi (by omega) (by omega)]; rfl
    have st6 := fun (h' : Heap) (kk : Heap → Option (((Value × Value × Value × Value × Value × Value × Value) × Heap) ⊕ (Exit × (Value × Value × Value × Value × Value × Value × Value) × Heap))) => st_N ⟨0, h.length⟩ 6 hh.length 0 (encP x) h' kk rfl rfl
    rw [J11_0_step]
    unfold Jr11_0
    simp only [go_sem, Nat.reduceAdd, Nat.reduceLeDiff, Nat.reduceMul, Int.reduceBEq, Int.reduceBNe, Int.reduceLT, Int.reduceLE, Int.reduceGT, aBin_lss, hlt, ix, el, st6, hl, e9, aBin_add, w]
    exact eg
theorem rdx {H : Heap} {i : Nat} {x : One} (hb : H[i]? = some (.own (encE x))) : rd H i 0 = some ((Value.int .i64 x.s)) ∧ rd H i 1 = some ((Value.int .i64 x.u)) ∧ rd H i 2 = some ((Value.int .i64 x.v)) ∧ rd H i 3 = some ((Value.int .i64 x.lv)) ∧ rd H i 4 = some ((Value.bool x.t)) := by
  refine ⟨?_, ?_, ?_, ?_, ?_⟩ <;> rw [rd_own hb] <;> rfl
theorem rdq {H : Heap} (hb : H[q]? = some (.own [(Value.int .i64 ((n : Int))), (Value.int .i64 S), (Value.int .i64 T), ifA a])) : rdN H q 0 4 = some [(Value.int .i64 ((n : Int))), (Value.int .i64 S), (Value.int .i64 T), ifA a] := by rw [rdN_own hb (by simp)]; rfl
set_option maxHeartbeats 4000000 in
theorem turns_all (hR : Rt n S T) (hm : all.length ≤ 60) (hlev : 0 ≤ lev ∧ lev < Lv n) (hq : q < p ∧ q ≠ a ∧ q ≠ b) (s6 : Value) : ∀ (m k : Nat) (hh : Heap) (l c : List Int), k + m = all.length → Pl hh p a b n S T l c vv all → EI n S T l all → hh[q]? = some (.own [(Value.int .i64 ((n : Int))), (Value.int .i64 S), (Value.int .i64 T), ifA a]) → h.length ≤ hh.length →
    ∃ g l' c', J11_2 C ⟨0, h.length⟩ h ((Value.int .i64 lev)) s6 ((Value.pointer (some ⟨q, 0, none⟩))) ((Value.pointer (some ⟨p, 0, none⟩))) vv ((Value.int .i64 ((all.length : Int)))) ((Value.int .i64 ((k : Int)))) hh = J11_3 C ⟨0, h.length⟩ h ((Value.pointer (some ⟨p, 0, none⟩))) g ∧ Pl g p a b n S T l' c' vv all ∧ EI n S T l' all := by
  intro m
  induction m with
  | zero =>
    intro k hh l c hk P I hb hl
    obtain rfl : k = all.length := by omega
    refine ⟨hh, l, c, ?_, P, I⟩
    rw [J11_2_step]
    unfold Jr11_2
    simp only [go_sem, Nat.reduceAdd, Nat.reduceLeDiff, Nat.reduceMul, Int.reduceBEq, Int.reduceBNe, Int.reduceLT, Int.reduceLE, Int.reduceGT, aBin_lss, Int.lt_irrefl, Jk11_2]
  | succ m ih =>
    intro k hh l c hk P I hb hl
    have hlt : (k : Int) < (all.length : Int) := by omega
    have hha := P.ha
    have hhb := P.hb
    have hpl := lt_of P.hp
    have lvl := Lv_le hR
    have r := hR
    unfold Rt at r
    obtain ⟨x, hx⟩ : ∃ x, all[k]? = some x := ⟨all[k]'(by omega), List.getElem?_eq_getElem (by omega)⟩
    have sp := (split_at hx).1
    generalize all.take k = us at sp
    generalize all.drop (k + 1) = bs at sp
    obtain ⟨q1, q2, q3, q4, q5, q6⟩ := I.each x (List.mem_of_getElem? hx)
    obtain ⟨xs, hxs⟩ : ∃ i : Nat, x.s = i := ⟨x.s.toNat, by omega⟩
    obtain ⟨xu, hxu⟩ : ∃ i : Nat, x.u = i := ⟨x.u.toNat, by omega⟩
    obtain ⟨xv, hxv⟩ : ∃ i : Nat, x.v = i := ⟨x.v.toNat, by omega⟩
    have ix := fun {α : Type} (kk : Value → Option α) => P.sl.sl.ix (i := (k : Int)) (by omega) hlt kk
    have el := P.sl.sl.elem hx
    have P6 := P.app [.own (encE x)]
    have hend : ∀ {l' : List Int} {y : One} {zs : List One}, EI n S T l' zs → y ∈ zs → y.s = x.s → y.u = x.u → y.v = x.v → getI l' (Ox S T (xs : Int) 1) = ((256 * xu + xv : Nat) : Int) := by
      intro l' y zs E hy e1 e2 e3
      have := (E.each y hy).2.2.2.1
      rw [e1, e2, e3, hxs, hxu, hxv] at this
      rw [this]; omega
    obtain ⟨h7, c7, e7, A7, o7⟩ := turn_e (md := ⟨0, h.length⟩) hR P6.ar (Nat.zero_le _) (Nat.zero_le _) (s := xs) (by omega) (u := xu) (v := xv) (by omega) (by omega) (hend I (List.mem_of_getElem? hx) rfl rfl rfl) (!x.t)
    have P7 := P6.only A7 o7
    have I7 := (EI.change hR (sp ▸ I) (lv := 0) (!x.t) (by omega)).1
    rw [hxu, hxv, hxs] at I7
    obtain ⟨h8, c8, e8, A8, o8⟩ := lift_e (md := ⟨0, h.length⟩) hR P7.ar (Nat.zero_le _) (Nat.zero_le _) (xs : Int) (lv := lev) (by omega) (by omega)
    have P8 := P7.only A8 o8
    have I8 := (EI.change hR I7 (lv := lev) true hlev).2
    obtain ⟨g1, g2, g3, g4, g5, g6⟩ := I8.each _ (List.mem_append_right _ List.mem_cons_self)
    obtain ⟨h9, c9, e9, A9, o9⟩ := get_e (md := ⟨0, h.length⟩) hR P8.ar (Nat.zero_le _) (xs : Int) (u := xu) (v := xv) (by omega) (by omega) (hend I8 (List.mem_append_right _ List.mem_cons_self) hxs.symm hxu.symm hxv.symm) hlev.1 (by omega) g5 (o := some ((xs : Int), !x.t)) (by simp only [okO]; omega) g6
    have P9 := P8.only A9 o9
    simp only [treeO] at e9
    have P10 := P9.app [.own [(Value.int .i64 ((xu : Int))), (Value.int .i64 ((xv : Int))), (Value.int .i64 lev), (Value.bool (!x.t))]]
    obtain ⟨h11, c11, e11, A11, o11⟩ := lift_e (md := ⟨0, h.length⟩) hR P10.ar (Nat.zero_le _) (Nat.zero_le _) (xs : Int) (lv := x.lv) (by omega) (by omega)
    have P11 := P10.only A11 o11
    have I11 := (EI.change hR I8 (lv := x.lv) true q3).2
    obtain ⟨i1, i2, i3, i4, i5, i6⟩ := I11.each _ (List.mem_append_right _ List.mem_cons_self)
    obtain ⟨h12, c12, e12, A12, o12⟩ := turn_e (md := ⟨0, h.length⟩) hR P11.ar (Nat.zero_le _) (Nat.zero_le _) (s := xs) (by omega) (u := xu) (v := xv) (by omega) (by omega) (hend I11 (List.mem_append_right _ List.mem_cons_self) hxs.symm hxu.symm hxv.symm) x.t
    have P12 := P11.only A12 o12
    have I12 := (EI.change hR I11 (lv := 0) x.t (by omega)).1
    have ex : ({ s := (xs : Int), u := (xu : Int), v := (xv : Int), lv := x.lv, t := x.t } : One) = x := by
      rw [← hxs, ← hxu, ← hxv]
    have hlen7 := o7.len
    have hlen8 := o8.len
    have hlen9 := o9.len
    have hlen11 := o11.len
    have hlen12 := o12.len
    simp only [List.length_append, List.length_cons, List.length_nil] at hlen7 hlen8 hlen9 hlen11 hlen12
    have hna : hh.length ≠ a := by omega
    have hnb : hh.length ≠ b := by omega
    have x6 : (hh ++ [Blk.own (encE x)])[hh.length]? = some (.own (encE x)) := by simp
    have x7 := (o7.oth _ hna hnb).trans x6
    have x8 := (o8.oth _ hna hnb).trans x7
    have x9 := (o9.oth _ hna hnb).trans x8
    have x10 : (h9 ++ [Blk.own [(Value.int .i64 ((xu : Int))), (Value.int .i64 ((xv : Int))), (Value.int .i64 lev), (Value.bool (!x.t))]])[hh.length]? = some (.own (encE x)) := (List.getElem?_append_left (by omega)).trans x9
    have x11 := (o11.oth _ hna hnb).trans x10
    have y6 : (hh ++ [Blk.own (encE x)])[q]? = some (.own [(Value.int .i64 ((n : Int))), (Value.int .i64 S), (Value.int .i64 T), ifA a]) := (List.getElem?_append_left (by omega)).trans hb
    have y7 := (o7.oth _ hq.2.1 hq.2.2).trans y6
    have y8 := (o8.oth _ hq.2.1 hq.2.2).trans y7
    have y9 := (o9.oth _ hq.2.1 hq.2.2).trans y8
    have y10 : (h9 ++ [Blk.own [(Value.int .i64 ((xu : Int))), (Value.int .i64 ((xv : Int))), (Value.int .i64 lev), (Value.bool (!x.t))]])[q]? = some (.own [(Value.int .i64 ((n : Int))), (Value.int .i64 S), (Value.int .i64 T), ifA a]) := (List.getElem?_append_left (by omega)).trans y9
    have y11 := (o11.oth _ hq.2.1 hq.2.2).trans y10
    have y12 := (o12.oth _ hq.2.1 hq.2.2).trans y11
    have ez : us ++ ({ s := (xs : Int), u := (xu : Int), v := (xv : Int), lv := x.lv, t := x.t } : One) :: bs = all := by rw [ex]; exact sp.symm
    obtain ⟨g, l', c', eg, r'⟩ := ih (k + 1) h12 _ c12 (by omega) P12 (by rw [← ez]; exact I12) y12 (by omega)
    refine ⟨g, l', c', ?_, r'⟩
    obtain ⟨r70, r71, r72, r73, r74⟩ := rdx x7
    obtain ⟨r80, r81, r82, r83, r84⟩ := rdx x8
    obtain ⟨ra0, ra1, ra2, ra3, ra4⟩ := rdx x10
    obtain ⟨rb0, rb1, rb2, rb3, rb4⟩ := rdx x11
    have w : IntKind.wrap .i64 ((k : Int) + 1) = ((k + 1 : Nat) : Int) := by rw [wi (by omega) (by omega)]; rfl
    have st5 := fun (h' : Heap) (kk : Heap → Option (((Value × Value × Value × Value × Value × Value × Value) × Heap) ⊕ (Exit × (Value × Value × Value × Value × Value × Value × Value) × Heap))) => st_N ⟨0, h.length⟩ 5 hh.length 0 (encE x) h' kk rfl rfl
    have st4 := fun (h' : Heap) (kk : Heap → Option (((Value × Value × Value × Value × Value × Value × Value) × Heap) ⊕ (Exit × (Value × Value × Value × Value × Value × Value × Value) × Heap))) => st_N ⟨0, h.length⟩ 4 h9.length 0 [(Value.int .i64 ((xu : Int))), (Value.int .i64 ((xv : Int))), (Value.int .i64 lev), (Value.bool (!x.t))] h' kk rfl rfl
    have hl9 : h.length ≤ h9.length := by omega
    have q0 : ∀ z : Int, (z != z) = false := fun z => by simp
    have q00 : ((!x.t) == x.t) = false := by cases x.t <;> rfl
    rw [J11_2_step]
    unfold Jr11_2
    rw [hxs] at r70 r80 ra0 rb0
    rw [hxu] at ra1
    rw [hxv] at ra2
    simp only [encE, hxs, hxu, hxv] at el st5 e7 e8 e9 y6 y7 y8 y10 y11 eg
    simp only [go_sem, Nat.reduceAdd, Nat.reduceLeDiff, Nat.reduceMul, Int.reduceBEq, Int.reduceBNe, Int.reduceLT, Int.reduceLE, Int.reduceGT, aBin_lss, hlt, ix, el, st5, hl, rdq y6, e7, rdq y7, r70, e8, rdq y8, r80, e9, st4, hl9, ra4, aBin_eqlB u4g, q00, aBin_neq, q0, ra1, ra2, ra0, ra3, rdq y10, e11, rdq y11, rb0, rb4, e12, aBin_add, w]
    exact eg
end Go.Det.E
