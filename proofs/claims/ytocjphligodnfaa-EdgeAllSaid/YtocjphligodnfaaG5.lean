/- The play of the edges: a step. -/
import Derived.Test.YtocjphligodnfaaG4
set_option autoImplicit false
set_option linter.unusedVariables false
set_option linter.unusedSimpArgs false
namespace Go.Det.E
open Go.Proofs Go.Det
attribute [local congr] bind_c cond_c
variable {md : Md} {h : Heap} {p a b : Nat} {S T : Int} {l c : List Int} {v : Value} {all : List One} {n : Nat}
theorem wr_any {md : Md} {h : Heap} {b i : Nat} {cs : List Value} {v : Value} (hb : h[b]? = some (.own cs)) (hro : md.ro ≤ b) (hlim : md.lim ≤ b) (hi : i < cs.length) : wrN md h b i [v] = some (h.set b (.own (cs.set i v))) := by
  unfold wrN
  rw [hb]
  simp only []
  rw [if_pos (by simp only [List.length_cons, List.length_nil]; omega), if_pos ⟨hro, .inl hlim⟩]
  rfl
theorem tOne : SlT Try.prog 57 68 5 40 [(Value.int .i64 0), (Value.int .i64 0), (Value.int .i64 0), (Value.int .i64 0), (Value.bool false)] := ⟨by kernel_rfl, by kernel_rfl, by kernel_rfl, rfl, by decide, by decide, rfl⟩
theorem encE_cell (x : One) : (encE x).all isCell = true := rfl
theorem split_at {all : List One} {k : Nat} {y : One} (h : all[k]? = some y) : all = all.take k ++ y :: all.drop (k + 1) ∧ ∀ z, all.set k z = all.take k ++ z :: all.drop (k + 1) := by
  obtain ⟨hk, rfl⟩ := List.getElem?_eq_some_iff.1 h
  refine ⟨?_, fun z => List.set_eq_take_append_cons_drop.trans (if_pos hk)⟩
  rw [← List.drop_eq_getElem_cons hk, List.take_append_drop]
theorem _root_.Go.Det.SlO.at {h' : Heap} {n0 sz : Nat} {ε : Type} {enc : ε → List Value} {v : Value} {xs : List ε} (S : SlO h n0 sz enc v xs) (hh : ∀ x, n0 ≤ x → x < h.length → h'[x]? = h[x]?) : SlO h' n0 sz enc v xs := by
  rcases S.own with e | ⟨e1, cs, e2⟩
  · refine ⟨?_, .inl e⟩
    rcases S.sl.is with ⟨_, e'⟩ | ⟨b, o, k, e', _⟩
    · subst e'; rw [e]; exact Sl.nil _ S.sl.he
    · rw [e] at e'; cases e'
  · exact ⟨S.sl.heap fun hl => hh _ e1 hl, .inr ⟨e1, cs, (hh _ e1 (lt_of e2)).trans e2⟩⟩
theorem _root_.Go.Det.SlO.cellv {n0 sz : Nat} {ε : Type} {enc : ε → List Value} {v : Value} {xs : List ε} (S : SlO h n0 sz enc v xs) : isCell v = true := by
  rcases S.sl.is with ⟨e, _⟩ | ⟨b, o, k, e, _⟩ <;> rw [e] <;> rfl
theorem Pl.app (P : Pl h p a b n S T l c v all) (bs : List Blk) : Pl (h ++ bs) p a b n S T l c v all :=
  ⟨by rw [List.getElem?_append_left (lt_of P.hp)]; exact P.hp, P.ar.app bs, P.sl.at fun x _ hx => List.getElem?_append_left hx, P.ha, P.hb⟩
theorem Pl.only {h' : Heap} {l' c' : List Int} (P : Pl h p a b n S T l c v all) (A : Ar h' a b l' c') (o : Only a b h h') : Pl h' p a b n S T l' c' v all := by
  have ha := P.ha
  have hb := P.hb
  exact ⟨by rw [o.oth p (by omega) (by omega)]; exact P.hp, A, P.sl.at fun x hx _ => o.oth x (by omega) (by omega), P.ha, P.hb⟩
/-- A new list is written down. -/
theorem Pl.put {h' : Heap} {v' : Value} {all' : List One} (P : Pl h p a b n S T l c v all) (Q : SlO h' (p + 1) 5 encE v' all') (o : Old (p + 1) h h') (hro : md.ro ≤ p) (hlim : md.lim ≤ p) :
    ∃ h2, wrN md h' p 7 [v'] = some h2 ∧ Pl h2 p a b n S T l c v' all' ∧ Old p h h2 := by
  have ha := P.ha
  have hb := P.hb
  have hp' : h'[p]? = some (.own [(Value.int .i64 ((n : Int))), (Value.int .i64 S), (Value.int .i64 T), (Value.int .i64 ((n : Int))), (Value.int .i64 S), (Value.int .i64 T), ifA a, v]) := by rw [o.old p (by omega)]; exact P.hp
  refine ⟨_, wr_any hp' hro hlim (by simp), ⟨set_here hp', ?_, Q.at fun x hx _ => set_else (by omega), P.ha, P.hb⟩, ?_⟩
  · exact ⟨by rw [set_else (by omega), o.old a (by omega)]; exact P.ar.ha, by rw [set_else (by omega), o.old b (by omega)]; exact P.ar.hb, P.ar.hc, P.ar.ne⟩
  · refine ⟨by simp; exact o.len, fun x hx => ?_⟩
    rw [set_else (by omega), o.old x (by omega)]
set_option maxHeartbeats 4000000 in
theorem step_e {n0 : Nat} (hR : Rt n S T) (P : Pl h p a b n S T l c v all) (I : EI n S T l all) (hm : all.length + 1 < 100000) (hn : n0 ≤ a ∧ n0 ≤ b ∧ n0 ≤ p) (hro : md.ro ≤ n0) (hlim : md.lim ≤ p) (k s u w lv : Int) (t : Bool) :
    ∃ h' l' c' v' all', C md 43 [(Value.pointer (some ⟨p, 0, none⟩)), (Value.agg #[(Value.int .i64 k), (Value.int .i64 s), (Value.int .i64 u), (Value.int .i64 w), (Value.int .i64 lv), (Value.bool t)])] h = some ((Value.tuple #[]), h') ∧ Pl h' p a b n S T l' c' v' all' ∧ EI n S T l' all' ∧ all'.length ≤ all.length + 1 ∧ Old n0 h h' := by
  have hpl := lt_of P.hp
  have hro1 : md.ro ≤ h.length := by omega
  have hro2 : md.ro ≤ h.length + 1 := by omega
  have r3 : rdN (h ++ [Blk.own [(Value.int .i64 k), (Value.int .i64 s), (Value.int .i64 u), (Value.int .i64 w), (Value.int .i64 lv), (Value.bool t)]]) p 0 3 = some [(Value.int .i64 ((n : Int))), (Value.int .i64 S), (Value.int .i64 T)] := by
    rw [rdN_at (by rw [List.getElem?_append_left hpl]; exact P.hp) (by simp [Blk.cells])]; rfl
  have st3 := fun (b : Nat) (h' : Heap) (kk : Heap → Option (Value × Heap)) => st_N md 3 b 0 [(Value.int .i64 ((n : Int))), (Value.int .i64 S), (Value.int .i64 T)] h' kk rfl rfl
  have hlim2 : md.lim ≤ h.length + 1 := by omega
  have hlim1 : md.lim ≤ h.length := by omega
  have r := hR
  unfold Rt at r
  have lvs := levels_s md (h ++ [Blk.own [(Value.int .i64 k), (Value.int .i64 s), (Value.int .i64 u), (Value.int .i64 w), (Value.int .i64 lv), (Value.bool t)], Blk.own [(Value.int .i64 ((n : Int))), (Value.int .i64 S), (Value.int .i64 T)]]) hR
  rw [C, call_eq, F43_eq]
  unfold F43
  have bad : ∀ h5, Pl h5 p a b n S T l c v all ∧ Old n0 h h5 → ∃ h' l' c' v' all', some ((Value.tuple #[]), h5) = some ((Value.tuple #[]), h') ∧ Pl h' p a b n S T l' c' v' all' ∧ EI n S T l' all' ∧ all'.length ≤ all.length + 1 ∧ Old n0 h h' := fun h5 hh => ⟨h5, l, c, v, all, rfl, hh.1, I, by omega, hh.2⟩
  have P5 := P.app [Blk.own [(Value.int .i64 k), (Value.int .i64 s), (Value.int .i64 u), (Value.int .i64 w), (Value.int .i64 lv), (Value.bool t)], Blk.own [(Value.int .i64 ((n : Int))), (Value.int .i64 S), (Value.int .i64 T)]]
  have O5 : Old n0 h (h ++ [Blk.own [(Value.int .i64 k), (Value.int .i64 s), (Value.int .i64 u), (Value.int .i64 w), (Value.int .i64 lv), (Value.bool t)], Blk.own [(Value.int .i64 ((n : Int))), (Value.int .i64 S), (Value.int .i64 T)]]) := Old.app _ (by omega)
  have bads := bad _ ⟨P5, O5⟩
  by_cases e1 : u = w
  · have t1 : (u == w) = true := by simp [e1]
    simp only [go_sem, Nat.reduceAdd, Nat.reduceLeDiff, Nat.reduceMul, Int.reduceBEq, Int.reduceBNe, Int.reduceLT, Int.reduceLE, Int.reduceGT, r3, st3, hro1, hro2, hlim1, hlim2, t1, aBin_lss, aBin_geq, ge_iff_le, lvs]
    exact bads
  have t1 : (u == w) = false := by simp [e1]
  by_cases e2 : u < 0
  · simp only [go_sem, Nat.reduceAdd, Nat.reduceLeDiff, Nat.reduceMul, Int.reduceBEq, Int.reduceBNe, Int.reduceLT, Int.reduceLE, Int.reduceGT, r3, st3, hro1, hro2, hlim1, hlim2, t1, aBin_lss, aBin_geq, ge_iff_le, lvs, e2]
    exact bads
  by_cases e3 : (n : Int) ≤ u
  · simp only [go_sem, Nat.reduceAdd, Nat.reduceLeDiff, Nat.reduceMul, Int.reduceBEq, Int.reduceBNe, Int.reduceLT, Int.reduceLE, Int.reduceGT, r3, st3, hro1, hro2, hlim1, hlim2, t1, aBin_lss, aBin_geq, ge_iff_le, lvs, e2, e3]
    exact bads
  by_cases e4 : w < 0
  · simp only [go_sem, Nat.reduceAdd, Nat.reduceLeDiff, Nat.reduceMul, Int.reduceBEq, Int.reduceBNe, Int.reduceLT, Int.reduceLE, Int.reduceGT, r3, st3, hro1, hro2, hlim1, hlim2, t1, aBin_lss, aBin_geq, ge_iff_le, lvs, e2, e3, e4]
    exact bads
  by_cases e5 : (n : Int) ≤ w
  · simp only [go_sem, Nat.reduceAdd, Nat.reduceLeDiff, Nat.reduceMul, Int.reduceBEq, Int.reduceBNe, Int.reduceLT, Int.reduceLE, Int.reduceGT, r3, st3, hro1, hro2, hlim1, hlim2, t1, aBin_lss, aBin_geq, ge_iff_le, lvs, e2, e3, e4, e5]
    exact bads
  by_cases e6 : s < 0
  · simp only [go_sem, Nat.reduceAdd, Nat.reduceLeDiff, Nat.reduceMul, Int.reduceBEq, Int.reduceBNe, Int.reduceLT, Int.reduceLE, Int.reduceGT, r3, st3, hro1, hro2, hlim1, hlim2, t1, aBin_lss, aBin_geq, ge_iff_le, lvs, e2, e3, e4, e5, e6]
    exact bads
  by_cases e7 : S ≤ s
  · simp only [go_sem, Nat.reduceAdd, Nat.reduceLeDiff, Nat.reduceMul, Int.reduceBEq, Int.reduceBNe, Int.reduceLT, Int.reduceLE, Int.reduceGT, r3, st3, hro1, hro2, hlim1, hlim2, t1, aBin_lss, aBin_geq, ge_iff_le, lvs, e2, e3, e4, e5, e6, e7]
    exact bads
  by_cases e8 : lv < 0
  · simp only [go_sem, Nat.reduceAdd, Nat.reduceLeDiff, Nat.reduceMul, Int.reduceBEq, Int.reduceBNe, Int.reduceLT, Int.reduceLE, Int.reduceGT, r3, st3, hro1, hro2, hlim1, hlim2, t1, aBin_lss, aBin_geq, ge_iff_le, lvs, e2, e3, e4, e5, e6, e7, e8]
    exact bads
  by_cases e9 : Lv n ≤ lv
  · simp only [go_sem, Nat.reduceAdd, Nat.reduceLeDiff, Nat.reduceMul, Int.reduceBEq, Int.reduceBNe, Int.reduceLT, Int.reduceLE, Int.reduceGT, r3, st3, hro1, hro2, hlim1, hlim2, t1, aBin_lss, aBin_geq, ge_iff_le, lvs, e2, e3, e4, e5, e6, e7, e8, e9]
    exact bads
  have m := mm_le e1
  have mc := mm_cases u w
  have sE := slot_s (md := md) P5.hp P5.sl.sl (by omega) s
  have bE := between_s (md := md) P5.hp P5.sl.sl (by omega) u w
  by_cases k1 : k = 1
  · have kk1 : (k == 1) = true := by simp [k1]
    by_cases x1 : 0 ≤ ixF (pS s) all 0
    · simp only [go_sem, Nat.reduceAdd, Nat.reduceLeDiff, Nat.reduceMul, Int.reduceBEq, Int.reduceBNe, Int.reduceLT, Int.reduceLE, Int.reduceGT, r3, st3, hro1, hro2, hlim1, hlim2, t1, aBin_lss, aBin_geq, ge_iff_le, lvs, e2, e3, e4, e5, e6, e7, e8, e9, sE, bE, kk1, x1]
      exact bads
    by_cases x2 : 0 ≤ ixF (pP (mn u w) (mx u w)) all 0
    · simp only [go_sem, Nat.reduceAdd, Nat.reduceLeDiff, Nat.reduceMul, Int.reduceBEq, Int.reduceBNe, Int.reduceLT, Int.reduceLE, Int.reduceGT, r3, st3, hro1, hro2, hlim1, hlim2, t1, aBin_lss, aBin_geq, ge_iff_le, lvs, e2, e3, e4, e5, e6, e7, e8, e9, sE, bE, kk1, x1, x2]
      exact bads
    obtain ⟨sn, rfl⟩ : ∃ i : Nat, s = i := ⟨s.toNat, by omega⟩
    have lvl := Lv_le hR
    obtain ⟨h6, c6, e6', A6, o6⟩ := put_e (md := md) hR P5.ar (by omega) (by omega) (s := sn) (by omega) (u := u) (v := w) (by omega) (by omega) (lv := lv) (by omega) (by omega) t
    have P6 := P5.only A6 o6
    have b6 : h6[h.length]? = some (.own [(Value.int .i64 k), (Value.int .i64 ((sn : Int))), (Value.int .i64 u), (Value.int .i64 w), (Value.int .i64 lv), (Value.bool t)]) := by
      have := o6.new (by have := P.ha; omega) (by have := P.hb; omega) 0
      exact this
    have q1 : rd h6 h.length 1 = some ((Value.int .i64 ((sn : Int)))) := by rw [rd_at b6]; rfl
    have q2 : rd h6 h.length 2 = some ((Value.int .i64 u)) := by rw [rd_at b6]; rfl
    have q3 : rd h6 h.length 3 = some ((Value.int .i64 w)) := by rw [rd_at b6]; rfl
    have q4 : rd h6 h.length 4 = some ((Value.int .i64 lv)) := by rw [rd_at b6]; rfl
    have q5 : rd h6 h.length 5 = some ((Value.bool t)) := by rw [rd_at b6]; rfl
    have q7 : rd h6 p 7 = some v := by rw [rd_at P6.hp]; rfl
    have r4 : rdN (h ++ [Blk.own [(Value.int .i64 k), (Value.int .i64 ((sn : Int))), (Value.int .i64 u), (Value.int .i64 w), (Value.int .i64 lv), (Value.bool t)], Blk.own [(Value.int .i64 ((n : Int))), (Value.int .i64 S), (Value.int .i64 T)]]) p 3 4 = some [(Value.int .i64 ((n : Int))), (Value.int .i64 S), (Value.int .i64 T), ifA a] := by rw [rdN_at P5.hp (by simp [Blk.cells])]; rfl
    have q7' : rd (h6 ++ [Blk.own [(Value.int .i64 ((sn : Int))), (Value.int .i64 (mn u w)), (Value.int .i64 (mx u w)), (Value.int .i64 lv), (Value.bool t)]]) p 7 = some v := by rw [rd_at (P6.app _).hp]; rfl
    have hmn : (if w < u then w else u) = mn u w := rfl
    have hmx : (if w > u then w else u) = mx u w := rfl
    simp only [go_sem, Nat.reduceAdd, Nat.reduceLeDiff, Nat.reduceMul, Int.reduceBEq, Int.reduceBNe, Int.reduceLT, Int.reduceLE, Int.reduceGT, r3, st3, hro1, hro2, hlim1, hlim2, t1, aBin_lss, aBin_geq, ge_iff_le, lvs, e2, e3, e4, e5, e6, e7, e8, e9, sE, bE, kk1, x1, x2, r4, e6', q1, q2, q3, q4, q5, q7, q7', hmn, hmx]
    have hl6 := o6.len
    obtain ⟨v7, h7, a7, Q7, o7⟩ := append_own (md := md) tOne P6.sl (by omega) (by have := lt_of P6.hp; omega) (cs := [(Value.int .i64 ((sn : Int))), (Value.int .i64 (mn u w)), (Value.int .i64 (mx u w)), (Value.int .i64 lv), (Value.bool t)]) (ys := [⟨sn, mn u w, mx u w, lv, t⟩]) rfl (by simp) rfl (by simp; omega)
    obtain ⟨h8, w8, P8, O8⟩ := P6.put Q7 o7 (by omega) hlim
    have st8 := fun (kk : Heap → Option (Value × Heap)) => st_1 md p 7 v7 h7 kk Q7.cellv
    have a7' : ∀ (kk : Value → Heap → Option (Value × Heap)), aBuiltin Try.prog md .append #[57, 57] [v, (Value.slice (some ⟨h6.length, 0, none⟩) 1 5)] (h6 ++ [Blk.own [(Value.int .i64 ((sn : Int))), (Value.int .i64 (mn u w)), (Value.int .i64 (mx u w)), (Value.int .i64 lv), (Value.bool t)]]) kk = kk v7 h7 := fun kk => a7 kk
    rw [a7', st8, w8]
    refine ⟨h8, _, c6, v7, _, rfl, P8, ?_, by simp, (O5.trans (o6.old (by omega) (by omega))).trans (O8.mono (by omega))⟩
    have E := EI.put hR I (y := ⟨sn, mn u w, mx u w, lv, t⟩) ⟨by show (0 : Int) ≤ (sn : Int); omega, by show (sn : Int) < S; omega⟩ (by show 0 ≤ mn u w ∧ mn u w < mx u w ∧ mx u w < n; omega) (by show 0 ≤ lv ∧ lv < Lv n; omega)
      (fun x hx h => by have := ixF_none (by omega : ixF (pS sn) all 0 < 0) x hx; rw [pS_t.2 h] at this; cases this)
      (fun x hx h => by have := ixF_none (by omega : ixF (pP (mn u w) (mx u w)) all 0 < 0) x hx; rw [pP_t.2 h] at this; cases this)
    rw [ex_mm e1]
    exact E
  have kk1 : (k == 1) = false := by simp [k1]
  have r4 : rdN (h ++ [Blk.own [(Value.int .i64 k), (Value.int .i64 s), (Value.int .i64 u), (Value.int .i64 w), (Value.int .i64 lv), (Value.bool t)], Blk.own [(Value.int .i64 ((n : Int))), (Value.int .i64 S), (Value.int .i64 T)]]) p 3 4 = some [(Value.int .i64 ((n : Int))), (Value.int .i64 S), (Value.int .i64 T), ifA a] := by rw [rdN_at P5.hp (by simp [Blk.cells])]; rfl
  by_cases k2 : k = 2
  · have kk2 : (k == 2) = true := by simp [k2]
    obtain ⟨h6, c6, e6', A6, o6⟩ := remove_e (md := md) hR P5.ar (by omega) (by omega) u w
    have hl6' : h6.length = h.length + 2 := by rw [o6.len]; simp
    have P6 := P5.only A6 o6
    have hl6 := o6.len
    by_cases x2 : 0 ≤ ixF (pP (mn u w) (mx u w)) all 0
    · obtain ⟨j, y, x3, x4, x5⟩ := ixF_some x2
      rw [Nat.zero_add] at x3
      have hj := (List.getElem?_eq_some_iff.1 x4).1
      have hy := pP_t.1 x5
      have q7 : rd (h6 ++ [Blk.own []]) p 7 = some v := by rw [rd_at (P6.app _).hp]; rfl
      have q7a : rd h6 p 7 = some v := by rw [rd_at P6.hp]; rfl
      have P7 := P6.app [Blk.own []]
      obtain ⟨v1, s1, S1⟩ := P7.sl.sl.pre tOne (k := (j : Int)) (by omega) (by omega)
      have S0 : SlO (h6 ++ [Blk.own []]) h6.length 5 encE ((Value.slice (some ⟨h6.length, 0, none⟩) 0 5)) [] := ⟨Sl.whole encE_len (k := .own []) (by simp) rfl rfl, .inr ⟨Nat.le_refl _, [], by simp [slB]⟩⟩
      have hp6 := lt_of P6.hp
      obtain ⟨v2, h8, a8, Q8, o8⟩ := append_sl (md := md) tOne S0 S1 (by omega) (by simp) encE_cell (by simp; omega)
      have hp8 : h8[p]? = some (.own [(Value.int .i64 ((n : Int))), (Value.int .i64 S), (Value.int .i64 T), (Value.int .i64 ((n : Int))), (Value.int .i64 S), (Value.int .i64 T), ifA a, v]) := by rw [o8.old p hp6]; exact P7.hp
      have q8 : rd h8 p 7 = some v := by rw [rd_at hp8]; rfl
      have S8 : Sl h8 5 encE v all := P6.sl.sl.heap fun hl => (o8.old _ hl).trans (List.getElem?_append_left hl)
      obtain ⟨v3, s3, S3⟩ := S8.suf tOne (k := (j : Int) + 1) (by omega) (by omega)
      have w1 : IntKind.wrap .i64 ((j : Int) + 1) = (j : Int) + 1 := wi (by omega) (by omega)
      obtain ⟨v4, h9, a9, Q9, o9⟩ := append_sl (md := md) tOne Q8 S3 (by omega) (by have := o8.len; simp at this; omega) encE_cell (by simp; omega)
      have O9 : Old h6.length h6 h9 := ((Old.app _ (Nat.le_refl _)).trans o8).trans o9
      obtain ⟨h10, w10, P10, O10⟩ := P6.put (Q9.mono (by omega)) (O9.mono (by omega)) (by omega) hlim
      have st10 := fun (kk : Heap → Option (Value × Heap)) => st_1 md p 7 v4 h9 kk Q9.cellv
      rw [x3] at bE
      have hj0 : (0 : Int) ≤ (j : Int) := by omega
      simp only [go_sem, Nat.reduceAdd, Nat.reduceLeDiff, Nat.reduceMul, Int.reduceBEq, Int.reduceBNe, Int.reduceLT, Int.reduceLE, Int.reduceGT, r3, st3, hro1, hro2, hlim1, hlim2, t1, aBin_lss, aBin_geq, ge_iff_le, lvs, e2, e3, e4, e5, e6, e7, e8, e9, sE, bE, kk1, kk2, r4, e6', hj0, q7, q7a, s1]
      rw [a8]
      simp only [go_sem, Nat.reduceAdd, Nat.reduceLeDiff, Nat.reduceMul, Int.reduceBEq, Int.reduceBNe, Int.reduceLT, Int.reduceLE, Int.reduceGT, q8, q7, q7a, w1, s3]
      rw [a9, st10, w10]
      refine ⟨h10, _, c6, v4, _, rfl, P10, ?_, by simp; omega, (O5.trans (o6.old (by omega) (by omega))).trans (O10.mono (by omega))⟩
      have I' := I
      rw [(split_at x4).1] at I'
      have E := EI.without hR I'
      rw [hy.1, hy.2, ← ex_mm e1] at E
      have ej : ((j : Int) + 1).toNat = j + 1 := by omega
      rw [ej]
      exact E
    · simp only [go_sem, Nat.reduceAdd, Nat.reduceLeDiff, Nat.reduceMul, Int.reduceBEq, Int.reduceBNe, Int.reduceLT, Int.reduceLE, Int.reduceGT, r3, st3, hro1, hro2, hlim1, hlim2, t1, aBin_lss, aBin_geq, ge_iff_le, lvs, e2, e3, e4, e5, e6, e7, e8, e9, sE, bE, kk1, kk2, r4, e6', x2]
      refine ⟨h6, _, c6, v, all, rfl, P6, ?_, by omega, O5.trans (o6.old (by omega) (by omega))⟩
      rw [ex_mm e1]
      exact EI.gone hR I (by omega) m (by omega) fun x hx h => by
        have := ixF_none (by omega : ixF (pP (mn u w) (mx u w)) all 0 < 0) x hx
        rw [pP_t.2 h] at this; cases this
  have kk2 : (k == 2) = false := by simp [k2]
  by_cases k3 : k = 3
  · have kk3 : (k == 3) = true := by simp [k3]
    by_cases x1 : 0 ≤ ixF (pS s) all 0
    · obtain ⟨j, y, x3, x4, x5⟩ := ixF_some x1
      rw [Nat.zero_add] at x3
      have hj := (List.getElem?_eq_some_iff.1 x4).1
      have hys := pS_t.1 x5
      obtain ⟨g1, g2, g3, g4, g5, g6⟩ := I.each y (List.mem_of_getElem? x4)
      obtain ⟨sn, rfl⟩ : ∃ i : Nat, s = i := ⟨s.toNat, by omega⟩
      obtain ⟨yu, hyu⟩ : ∃ i : Nat, y.u = i := ⟨y.u.toNat, by omega⟩
      obtain ⟨yv, hyv⟩ : ∃ i : Nat, y.v = i := ⟨y.v.toNat, by omega⟩
      have lvl := Lv_le hR
      obtain ⟨h6, c6, e6', A6, o6⟩ := turn_e (md := md) hR P5.ar (by omega) (by omega) (s := sn) (by omega) (u := yu) (v := yv) (by omega) (by omega) (by rw [← hys, g4, hyu, hyv]; omega) t
      have P6 := P5.only A6 o6
      have hl6' : h6.length = h.length + 2 := by rw [o6.len]; simp
      have b6 : h6[h.length]? = some (.own [(Value.int .i64 k), (Value.int .i64 ((sn : Int))), (Value.int .i64 u), (Value.int .i64 w), (Value.int .i64 lv), (Value.bool t)]) := by
        have := o6.new (by have := P.ha; omega) (by have := P.hb; omega) 0
        exact this
      have q5 : rd h6 h.length 5 = some ((Value.bool t)) := by rw [rd_at b6]; rfl
      have q7 : rd h6 p 7 = some v := by rw [rd_at P6.hp]; rfl
      have ix := fun (kk : Value → Option (Value × Heap)) => P6.sl.sl.ix (i := (j : Int)) (by omega) (by omega) kk
      obtain ⟨h7, w7, Q7, o7, l7, n7⟩ := P6.sl.write (md := md) (by omega) x4 (j := 4) (by omega) (x' := { y with t := t }) (w := (Value.bool t)) rfl rfl
      have P7 : Pl h7 p a b n S T _ c6 v (all.set j { y with t := t }) := ⟨by rw [o7 p (by omega)]; exact P6.hp, ⟨by rw [o7 a (by have := P.ha; omega)]; exact P6.ar.ha, by rw [o7 b (by have := P.hb; omega)]; exact P6.ar.hb, P6.ar.hc, P6.ar.ne⟩, Q7, P.ha, P.hb⟩
      rw [x3] at sE
      have hj0 : (0 : Int) ≤ (j : Int) := by omega
      simp only [go_sem, Nat.reduceAdd, Nat.reduceLeDiff, Nat.reduceMul, Int.reduceBEq, Int.reduceBNe, Int.reduceLT, Int.reduceLE, Int.reduceGT, r3, st3, hro1, hro2, hlim1, hlim2, t1, aBin_lss, aBin_geq, ge_iff_le, lvs, e2, e3, e4, e5, e6, e7, e8, e9, sE, bE, kk1, kk2, kk3, hj0, r4, e6', q5, q7, ix, w7]
      refine ⟨h7, _, c6, v, _, rfl, P7, ?_, by simp, (O5.trans (o6.old (by omega) (by omega))).trans ⟨by omega, fun x hx => o7 x (by omega)⟩⟩
      have I' := I
      rw [(split_at x4).1] at I'
      have E := (EI.change hR I' (lv := 0) t (by have := g3; omega)).1
      rw [(split_at x4).2]
      rw [hyu, hyv, hys] at E; rw [hyu, hyv, hys]
      exact E
    · simp only [go_sem, Nat.reduceAdd, Nat.reduceLeDiff, Nat.reduceMul, Int.reduceBEq, Int.reduceBNe, Int.reduceLT, Int.reduceLE, Int.reduceGT, r3, st3, hro1, hro2, hlim1, hlim2, t1, aBin_lss, aBin_geq, ge_iff_le, lvs, e2, e3, e4, e5, e6, e7, e8, e9, sE, bE, kk1, kk2, kk3, x1]
      exact bads
  have kk3 : (k == 3) = false := by simp [k3]
  by_cases k4 : k = 4
  · have kk4 : (k == 4) = true := by simp [k4]
    by_cases x1 : 0 ≤ ixF (pS s) all 0
    · obtain ⟨j, y, x3, x4, x5⟩ := ixF_some x1
      rw [Nat.zero_add] at x3
      have hj := (List.getElem?_eq_some_iff.1 x4).1
      have hys := pS_t.1 x5
      obtain ⟨g1, g2, g3, g4, g5, g6⟩ := I.each y (List.mem_of_getElem? x4)
      obtain ⟨sn, rfl⟩ : ∃ i : Nat, s = i := ⟨s.toNat, by omega⟩
      obtain ⟨yu, hyu⟩ : ∃ i : Nat, y.u = i := ⟨y.u.toNat, by omega⟩
      obtain ⟨yv, hyv⟩ : ∃ i : Nat, y.v = i := ⟨y.v.toNat, by omega⟩
      have lvl := Lv_le hR
      obtain ⟨h6, c6, e6', A6, o6⟩ := lift_e (md := md) hR P5.ar (by omega) (by omega) (sn : Int) (lv := lv) (by omega) (by omega)
      have P6 := P5.only A6 o6
      have hl6' : h6.length = h.length + 2 := by rw [o6.len]; simp
      have b6 : h6[h.length]? = some (.own [(Value.int .i64 k), (Value.int .i64 ((sn : Int))), (Value.int .i64 u), (Value.int .i64 w), (Value.int .i64 lv), (Value.bool t)]) := by
        have := o6.new (by have := P.ha; omega) (by have := P.hb; omega) 0
        exact this
      have q5 : rd h6 h.length 4 = some ((Value.int .i64 lv)) := by rw [rd_at b6]; rfl
      have q7 : rd h6 p 7 = some v := by rw [rd_at P6.hp]; rfl
      have ix := fun (kk : Value → Option (Value × Heap)) => P6.sl.sl.ix (i := (j : Int)) (by omega) (by omega) kk
      obtain ⟨h7, w7, Q7, o7, l7, n7⟩ := P6.sl.write (md := md) (by omega) x4 (j := 3) (by omega) (x' := { y with lv := lv }) (w := (Value.int .i64 lv)) rfl rfl
      have P7 : Pl h7 p a b n S T _ c6 v (all.set j { y with lv := lv }) := ⟨by rw [o7 p (by omega)]; exact P6.hp, ⟨by rw [o7 a (by have := P.ha; omega)]; exact P6.ar.ha, by rw [o7 b (by have := P.hb; omega)]; exact P6.ar.hb, P6.ar.hc, P6.ar.ne⟩, Q7, P.ha, P.hb⟩
      rw [x3] at sE
      have hj0 : (0 : Int) ≤ (j : Int) := by omega
      simp only [go_sem, Nat.reduceAdd, Nat.reduceLeDiff, Nat.reduceMul, Int.reduceBEq, Int.reduceBNe, Int.reduceLT, Int.reduceLE, Int.reduceGT, r3, st3, hro1, hro2, hlim1, hlim2, t1, aBin_lss, aBin_geq, ge_iff_le, lvs, e2, e3, e4, e5, e6, e7, e8, e9, sE, bE, kk1, kk2, kk3, kk4, hj0, r4, e6', q5, q7, ix, w7]
      refine ⟨h7, _, c6, v, _, rfl, P7, ?_, by simp, (O5.trans (o6.old (by omega) (by omega))).trans ⟨by omega, fun x hx => o7 x (by omega)⟩⟩
      have I' := I
      rw [(split_at x4).1] at I'
      have E := (EI.change hR I' (lv := lv) t (by omega)).2
      rw [(split_at x4).2]
      rw [hys] at E; rw [hys]
      exact E
    · simp only [go_sem, Nat.reduceAdd, Nat.reduceLeDiff, Nat.reduceMul, Int.reduceBEq, Int.reduceBNe, Int.reduceLT, Int.reduceLE, Int.reduceGT, r3, st3, hro1, hro2, hlim1, hlim2, t1, aBin_lss, aBin_geq, ge_iff_le, lvs, e2, e3, e4, e5, e6, e7, e8, e9, sE, bE, kk1, kk2, kk3, kk4, x1]
      exact bads
  have kk4 : (k == 4) = false := by simp [k4]
  simp only [go_sem, Nat.reduceAdd, Nat.reduceLeDiff, Nat.reduceMul, Int.reduceBEq, Int.reduceBNe, Int.reduceLT, Int.reduceLE, Int.reduceGT, r3, st3, hro1, hro2, hlim1, hlim2, t1, aBin_lss, aBin_geq, ge_iff_le, lvs, e2, e3, e4, e5, e6, e7, e8, e9, sE, bE, kk1, kk2, kk3, kk4]
  exact bads
end Go.Det.E
