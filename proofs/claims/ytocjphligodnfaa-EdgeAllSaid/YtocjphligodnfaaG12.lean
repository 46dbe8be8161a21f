/- An act on one edge leaves every other one. -/
import Derived.Test.YtocjphligodnfaaG11
set_option autoImplicit false
set_option linter.unusedVariables false
set_option linter.unusedSimpArgs false
namespace Go.Det.E
open Go.Proofs Go.Det
attribute [local congr] bind_c cond_c
variable {md : Md} {h : Heap} {p a b q : Nat} {S T : Int} {v vv : Value} {ops : List Opn} {n : Nat} {all : List One}
theorem apart_ops (hR : Rt n S T) (SV : Sl h 6 encP v ops) (hlen : ops.length ≤ 60) (hab : h.length ≤ a ∧ h.length ≤ b ∧ h.length ≤ p) (s2 s6 s7 : Value) : ∀ (m k : Nat) (hh : Heap) (l c : List Int) (vv : Value) (all : List One), k + m = ops.length → Pl hh p a b n S T l c vv all → EI n S T l all → all.length ≤ k → Old h.length h hh →
    ∃ g l' c' v' all', J10_0 C ⟨0, h.length⟩ h s2 s6 s7 ((Value.pointer (some ⟨p, 0, none⟩))) v ((Value.int .i64 ((ops.length : Int)))) ((Value.int .i64 ((k : Int)))) hh = J10_1 C ⟨0, h.length⟩ h s2 s6 s7 ((Value.pointer (some ⟨p, 0, none⟩))) g ∧ Pl g p a b n S T l' c' v' all' ∧ EI n S T l' all' ∧ all'.length ≤ 60 ∧ Keep p a b hh g := by
  intro m
  induction m with
  | zero =>
    intro k hh l c vv all hk P I ha O
    obtain rfl : k = ops.length := by omega
    refine ⟨hh, l, c, vv, all, ?_, P, I, by omega, Keep.refl⟩
    rw [J10_0_step]
    unfold Jr10_0
    simp only [go_sem, Nat.reduceAdd, Nat.reduceLeDiff, Nat.reduceMul, Int.reduceBEq, Int.reduceBNe, Int.reduceLT, Int.reduceLE, Int.reduceGT, aBin_lss, Int.lt_irrefl, Jk10_0]
  | succ m ih =>
    intro k hh l c vv all hk P I ha O
    have hlt : (k : Int) < (ops.length : Int) := by omega
    obtain ⟨x, hx⟩ : ∃ x, ops[k]? = some x := ⟨ops[k]'(by omega), List.getElem?_eq_getElem (by omega)⟩
    have S0 : Sl hh 6 encP v ops := SV.heap fun hl => O.old _ hl
    have ix := fun {α : Type} (kk : Value → Option α) => S0.ix (i := (k : Int)) (by omega) hlt kk
    have el := S0.elem hx
    have hl := O.len
    have P6 := P.app [.own (encP x)]
    obtain ⟨h9, l9, c9, v9, all9, e9, P9, I9, a9, O9⟩ := step_k (md := ⟨0, h.length⟩) (n0 := h.length) hR P6 I (by omega) hab (Nat.zero_le _) hab.2.2 x.k x.s x.u x.v x.lv x.t
    have K9 := (Keep.app (p := p) (a := a) (b := b) [Blk.own (encP x)] (by have := lt_of P.hp; omega)).trans O9
    obtain ⟨g, l', c', v', all', eg, r⟩ := ih (k + 1) h9 l9 c9 v9 all9 (by omega) P9 I9 (by omega) (O.trans (K9.old hab.1 hab.2.1 hab.2.2))
    refine ⟨g, l', c', v', all', ?_, r.1, r.2.1, r.2.2.1, K9.trans r.2.2.2⟩
    have w : IntKind.wrap .i64 ((k : Int) + 1) = ((k + 1 : Nat) : Int) := by rw [wi (by omega) (by omega)]; rfl
    have st6 := fun (h' : Heap) (kk : Heap → Option (((Value × Value × Value × Value × Value × Value × Value) × Heap) ⊕ (Exit × (Value × Value × Value × Value × Value × Value × Value) × Heap))) => st_N ⟨0, h.length⟩ 6 hh.length 0 (encP x) h' kk rfl rfl
    rw [J10_0_step]
    unfold Jr10_0
    simp only [go_sem, Nat.reduceAdd, Nat.reduceLeDiff, Nat.reduceMul, Int.reduceBEq, Int.reduceBNe, Int.reduceLT, Int.reduceLE, Int.reduceGT, aBin_lss, hlt, ix, el, st6, hl, e9, aBin_add, w]
    exact eg
theorem Pl.ext {h h' : Heap} {l c : List Int} (P : Pl h p a b n S T l c vv all) (o : ∀ x, x < h.length → h'[x]? = h[x]?) : Pl h' p a b n S T l c vv all :=
  ⟨(o _ (lt_of P.hp)).trans P.hp, ⟨(o _ (lt_of P.ar.ha)).trans P.ar.ha, (o _ (lt_of P.ar.hb)).trans P.ar.hb, P.ar.hc, P.ar.ne⟩, P.sl.at fun x _ hx => o x hx, P.ha, P.hb⟩
theorem slB_lt {h : Heap} (X : Sl h 5 encE vv all) (hh : 0 < h.length) : slB vv < h.length := by
  rcases X.is with ⟨e, _⟩ | ⟨b, o, k, e, hb, _⟩
  · rw [e]; exact hh
  · rw [e]; exact lt_of hb
theorem min_m {α : Type} {md : Md} {a b : Int} {h : Heap} (k : Value → Heap → Option α) : aBuiltin Try.prog md .min #[3, 3] [(Value.int .i64 a), (Value.int .i64 b)] h k = k ((Value.int .i64 (mn a b))) h := min_q k
theorem rdo {H : Heap} {i : Nat} {x : Opn} (hb : H[i]? = some (.own (encP x))) : rd H i 1 = some ((Value.int .i64 x.s)) ∧ rd H i 2 = some ((Value.int .i64 x.u)) ∧ rd H i 3 = some ((Value.int .i64 x.v)) := by
  refine ⟨?_, ?_, ?_⟩ <;> rw [rd_own hb] <;> rfl
set_option maxHeartbeats 4000000 in
theorem apart_all {ob g0 : Nat} {o : Opn} {h8 : Heap} {l : List Int} {all8 : List One} (hR : Rt n S T) (hm : all.length ≤ 100) (hB : SlO h8 g0 5 encE vv all) (hg : a < g0 ∧ b < g0) (bo : h8[ob]? = some (.own (encP o))) (bq : h8[q]? = some (.own [(Value.int .i64 ((n : Int))), (Value.int .i64 S), (Value.int .i64 T), ifA a])) (no : ob ≠ a ∧ ob ≠ b ∧ q ≠ a ∧ q ≠ b)
    (I8 : EI n S T l all8) (mem : ∀ x ∈ all, x.s ≠ o.s → ¬ (x.u = mn o.u o.v ∧ x.v = mx o.u o.v) → x ∈ all8) (hl8 : h.length ≤ h8.length) (s6 : Value) : ∀ (m k : Nat) (hh : Heap) (c : List Int), k + m = all.length → Near a b h8 hh → Ar hh a b l c →
    ∃ g, J10_2 C ⟨0, h.length⟩ h ((Value.pointer (some ⟨ob, 0, none⟩))) s6 ((Value.pointer (some ⟨q, 0, none⟩))) vv ((Value.int .i64 ((all.length : Int)))) ((Value.int .i64 ((k : Int)))) hh = some ((Value.bool true), g) := by
  intro m
  induction m with
  | zero =>
    intro k hh c hk N A
    obtain rfl : k = all.length := by omega
    refine ⟨hh.take h.length, ?_⟩
    rw [J10_2_step]
    unfold Jr10_2
    simp only [go_sem, Nat.reduceAdd, Nat.reduceLeDiff, Nat.reduceMul, Int.reduceBEq, Int.reduceBNe, Int.reduceLT, Int.reduceLE, Int.reduceGT, aBin_lss, Int.lt_irrefl, Jk10_2, awake11]
  | succ m ih =>
    intro k hh c hk N A
    have hlt : (k : Int) < (all.length : Int) := by omega
    have r := hR
    unfold Rt at r
    have lvl := Lv_le hR
    have hN := N.len
    have hl : h.length ≤ hh.length := by omega
    obtain ⟨x, hx⟩ : ∃ x, all[k]? = some x := ⟨all[k]'(by omega), List.getElem?_eq_getElem (by omega)⟩
    have SB : SlO hh g0 5 encE vv all := hB.at fun x h1 h2 => N.oth x h2 (by omega) (by omega)
    have ix := fun {α : Type} (kk : Value → Option α) => SB.sl.ix (i := (k : Int)) (by omega) hlt kk
    have el := SB.sl.elem hx
    have w : IntKind.wrap .i64 ((k : Int) + 1) = ((k + 1 : Nat) : Int) := by rw [wi (by omega) (by omega)]; rfl
    have st5 := fun (h' : Heap) (kk : Heap → Option (((Value × Value × Value × Value × Value × Value) × Heap) ⊕ (Exit × (Value × Value × Value × Value × Value × Value) × Heap))) => st_N ⟨0, h.length⟩ 5 hh.length 0 (encE x) h' kk rfl rfl
    have N6 := N.app [.own (encE x)]
    have A6 := A.app [.own (encE x)]
    have o6 : (hh ++ [Blk.own (encE x)])[ob]? = some (.own (encP o)) := (N6.oth _ (lt_of bo) no.1 no.2.1).trans bo
    have y6 : (hh ++ [Blk.own (encE x)])[q]? = some (.own [(Value.int .i64 ((n : Int))), (Value.int .i64 S), (Value.int .i64 T), ifA a]) := (N6.oth _ (lt_of bq) no.2.2.1 no.2.2.2).trans bq
    obtain ⟨p1, p2, p3⟩ := rdo o6
    by_cases t1 : x.s = o.s
    · have t1' : (x.s == o.s) = true := by simp [t1]
      obtain ⟨g, eg⟩ := ih (k + 1) _ c (by omega) N6 A6
      refine ⟨g, ?_⟩
      have key : Jr10_2 C ⟨0, h.length⟩ ((Value.pointer (some ⟨ob, 0, none⟩))) s6 ((Value.pointer (some ⟨q, 0, none⟩))) vv ((Value.int .i64 ((all.length : Int)))) ((Value.int .i64 ((k : Int)))) hh = some (.inl (((Value.pointer (some ⟨ob, 0, none⟩)), s6, (Value.pointer (some ⟨q, 0, none⟩)), vv, (Value.int .i64 ((all.length : Int))), (Value.int .i64 (((k + 1 : Nat) : Int)))), hh ++ [Blk.own (encE x)])) := by
        unfold Jr10_2
        simp only [go_sem, Nat.reduceAdd, Nat.reduceLeDiff, Nat.reduceMul, Int.reduceBEq, Int.reduceBNe, Int.reduceLT, Int.reduceLE, Int.reduceGT, aBin_lss, hlt, ix, el, st5, hl, p1]
        iterate 20 (refine bindS (by (try simp only [go_sem, Nat.reduceAdd, Nat.reduceLeDiff, Nat.reduceMul, Int.reduceBEq, Int.reduceBNe, Int.reduceLT, Int.reduceLE, Int.reduceGT, t1']); exact rfl) ?_)
        refine cBnS (by (try simp only [go_sem, Nat.reduceAdd, Nat.reduceLeDiff, Nat.reduceMul, Int.reduceBEq, Int.reduceBNe, Int.reduceLT, Int.reduceLE, Int.reduceGT, t1']); exact rfl) ?_
        simp only [go_sem, Nat.reduceAdd, Nat.reduceLeDiff, Nat.reduceMul, Int.reduceBEq, Int.reduceBNe, Int.reduceLT, Int.reduceLE, Int.reduceGT, aBin_add, w]
      rw [J10_2_step, key]
      exact eg
    have t1' : (x.s == o.s) = false := by simp [t1]
    by_cases t2 : x.u = mn o.u o.v ∧ x.v = mx o.u o.v
    · have t2' : (x.u == mn o.u o.v) = true := by simp [t2.1]
      have t3' : (x.v == mx o.u o.v) = true := by simp [t2.2]
      obtain ⟨g, eg⟩ := ih (k + 1) _ c (by omega) N6 A6
      refine ⟨g, ?_⟩
      have key : Jr10_2 C ⟨0, h.length⟩ ((Value.pointer (some ⟨ob, 0, none⟩))) s6 ((Value.pointer (some ⟨q, 0, none⟩))) vv ((Value.int .i64 ((all.length : Int)))) ((Value.int .i64 ((k : Int)))) hh = some (.inl (((Value.pointer (some ⟨ob, 0, none⟩)), s6, (Value.pointer (some ⟨q, 0, none⟩)), vv, (Value.int .i64 ((all.length : Int))), (Value.int .i64 (((k + 1 : Nat) : Int)))), hh ++ [Blk.own (encE x)])) := by
        unfold Jr10_2
        simp only [go_sem, Nat.reduceAdd, Nat.reduceLeDiff, Nat.reduceMul, Int.reduceBEq, Int.reduceBNe, Int.reduceLT, Int.reduceLE, Int.reduceGT, aBin_lss, hlt, ix, el, st5, hl, p1]
        iterate 20 (refine bindS (by (try simp only [go_sem, Nat.reduceAdd, Nat.reduceLeDiff, Nat.reduceMul, Int.reduceBEq, Int.reduceBNe, Int.reduceLT, Int.reduceLE, Int.reduceGT, t1', p2, p3, min_q, max_q, aBin_eql, t2', t3']); exact rfl) ?_)
        refine cBnS (by (try simp only [go_sem, Nat.reduceAdd, Nat.reduceLeDiff, Nat.reduceMul, Int.reduceBEq, Int.reduceBNe, Int.reduceLT, Int.reduceLE, Int.reduceGT, t1', p2, p3, min_q, max_q, aBin_eql, t2', t3']); exact rfl) ?_
        simp only [go_sem, Nat.reduceAdd, Nat.reduceLeDiff, Nat.reduceMul, Int.reduceBEq, Int.reduceBNe, Int.reduceLT, Int.reduceLE, Int.reduceGT, aBin_add, w]
      rw [J10_2_step, key]
      exact eg
    have hx8 := mem x (List.mem_of_getElem? hx) t1 t2
    obtain ⟨q1, q2, q3, q4, q5, q6⟩ := I8.each x hx8
    obtain ⟨xu, hxu⟩ : ∃ i : Nat, x.u = i := ⟨x.u.toNat, by omega⟩
    obtain ⟨xv, hxv⟩ : ∃ i : Nat, x.v = i := ⟨x.v.toNat, by omega⟩
    obtain ⟨h7, c7, e7, A7, o7⟩ := find_e (md := ⟨0, h.length⟩) hR A6 (Nat.zero_le _) x.u x.v (o := some (x.s, x.t)) (ok_of hR I8 hx8) q6
    have hf : getI l (Ex n S T xu xv) = encO (some (x.s, x.t)) := by rw [← hxu, ← hxv]; exact q6
    have he : getI l (Ox S T x.s 1) = ((256 * xu + xv : Nat) : Int) := by rw [q4, hxu, hxv]; omega
    obtain ⟨h9, c9, e9, A9, o9⟩ := get_e (md := ⟨0, h.length⟩) hR A7 (Nat.zero_le _) x.s (u := xu) (v := xv) (by omega) (by omega) he q3.1 (by omega) q5 (ok_of hR I8 hx8) hf
    simp only [treeO] at e9
    rw [← hxu, ← hxv] at e9
    simp only [resO] at e7
    have N7 := N6.only o7
    have N9 := N7.only o9
    obtain ⟨g, eg⟩ := ih (k + 1) _ c9 (by omega) N9 A9
    have hna : hh.length ≠ a := by have := lt_of A.ha; omega
    have hnb : hh.length ≠ b := by have := lt_of A.hb; omega
    have x6 : (hh ++ [Blk.own (encE x)])[hh.length]? = some (.own (encE x)) := by simp
    have x7 := (o7.oth _ hna hnb).trans x6
    have x9 := (o9.oth _ hna hnb).trans x7
    have y7 := (o7.oth _ no.2.2.1 no.2.2.2).trans y6
    obtain ⟨r70, r71, r72, r73, r74⟩ := rdx x7
    have f7 : rdN h7 hh.length 1 4 = some [(Value.int .i64 x.u), (Value.int .i64 x.v), (Value.int .i64 x.lv), (Value.bool x.t)] := by rw [rdN_own x7 (by simp)]; rfl
    have f9 : rdN h9 hh.length 1 4 = some [(Value.int .i64 x.u), (Value.int .i64 x.v), (Value.int .i64 x.lv), (Value.bool x.t)] := by rw [rdN_own x9 (by simp)]; rfl
    have z : ∀ z : Int, (z != z) = false := fun z => by simp
    have zb : ∀ z : Bool, (z != z) = false := fun z => by cases z <;> rfl
    refine ⟨g, ?_⟩
    by_cases t3 : x.u = mn o.u o.v
    · have t2' : (x.u == mn o.u o.v) = true := by simp [t3]
      have t3' : (x.v == mx o.u o.v) = false := by simp; exact fun h => t2 ⟨t3, h⟩
      have key : Jr10_2 C ⟨0, h.length⟩ ((Value.pointer (some ⟨ob, 0, none⟩))) s6 ((Value.pointer (some ⟨q, 0, none⟩))) vv ((Value.int .i64 ((all.length : Int)))) ((Value.int .i64 ((k : Int)))) hh = some (.inl (((Value.pointer (some ⟨ob, 0, none⟩)), s6, (Value.pointer (some ⟨q, 0, none⟩)), vv, (Value.int .i64 ((all.length : Int))), (Value.int .i64 (((k + 1 : Nat) : Int)))), h9)) := by
        unfold Jr10_2
        simp only [go_sem, Nat.reduceAdd, Nat.reduceLeDiff, Nat.reduceMul, Int.reduceBEq, Int.reduceBNe, Int.reduceLT, Int.reduceLE, Int.reduceGT, aBin_lss, hlt, ix, el, st5, hl, p1]
        iterate 20 (refine bindS (by (try simp only [go_sem, Nat.reduceAdd, Nat.reduceLeDiff, Nat.reduceMul, Int.reduceBEq, Int.reduceBNe, Int.reduceLT, Int.reduceLE, Int.reduceGT, t1', p2, p3, min_q, max_q, aBin_eql, t2', t3']); exact rfl) ?_)
        refine cBnS (by (try simp only [go_sem, Nat.reduceAdd, Nat.reduceLeDiff, Nat.reduceMul, Int.reduceBEq, Int.reduceBNe, Int.reduceLT, Int.reduceLE, Int.reduceGT, t1', p2, p3, min_q, max_q, aBin_eql, t2', t3']); exact rfl) ?_
        simp only [go_sem, Nat.reduceAdd, Nat.reduceLeDiff, Nat.reduceMul, Int.reduceBEq, Int.reduceBNe, Int.reduceLT, Int.reduceLE, Int.reduceGT, rdq y6, e7]
        iterate 2 (refine bindS (by (try simp only [go_sem, Nat.reduceAdd, Nat.reduceLeDiff, Nat.reduceMul, Int.reduceBEq, Int.reduceBNe, Int.reduceLT, Int.reduceLE, Int.reduceGT, z, zb, r70, r74, aBin_neq, aBin_neqB u4g, rdq y7, e9, f7, f9, edge_neq]); exact rfl) ?_)
        refine cBnS (by (try simp only [go_sem, Nat.reduceAdd, Nat.reduceLeDiff, Nat.reduceMul, Int.reduceBEq, Int.reduceBNe, Int.reduceLT, Int.reduceLE, Int.reduceGT, z, zb, r70, r74, aBin_neq, aBin_neqB u4g, rdq y7, e9, f7, f9, edge_neq]); exact rfl) ?_
        iterate 5 (refine bindS (by (try simp only [go_sem, Nat.reduceAdd, Nat.reduceLeDiff, Nat.reduceMul, Int.reduceBEq, Int.reduceBNe, Int.reduceLT, Int.reduceLE, Int.reduceGT, z, zb, r70, r74, aBin_neq, aBin_neqB u4g, rdq y7, e9, f7, f9, edge_neq]); exact rfl) ?_)
        refine cBnS (by (try simp only [go_sem, Nat.reduceAdd, Nat.reduceLeDiff, Nat.reduceMul, Int.reduceBEq, Int.reduceBNe, Int.reduceLT, Int.reduceLE, Int.reduceGT, z, zb, r70, r74, aBin_neq, aBin_neqB u4g, rdq y7, e9, f7, f9, edge_neq]); exact rfl) ?_
        iterate 6 (refine bindS (by (try simp only [go_sem, Nat.reduceAdd, Nat.reduceLeDiff, Nat.reduceMul, Int.reduceBEq, Int.reduceBNe, Int.reduceLT, Int.reduceLE, Int.reduceGT, z, zb, r70, r74, aBin_neq, aBin_neqB u4g, rdq y7, e9, f7, f9, edge_neq]); exact rfl) ?_)
        refine Eq.trans (cLE_t (by simp only [go_sem, Nat.reduceAdd, Nat.reduceLeDiff, Nat.reduceMul, Int.reduceBEq, Int.reduceBNe, Int.reduceLT, Int.reduceLE, Int.reduceGT, f7]) (by simp only [go_sem, Nat.reduceAdd, Nat.reduceLeDiff, Nat.reduceMul, Int.reduceBEq, Int.reduceBNe, Int.reduceLT, Int.reduceLE, Int.reduceGT, f9])) ?_
        refine bindS (by (try simp only [go_sem, Nat.reduceAdd, Nat.reduceLeDiff, Nat.reduceMul, Int.reduceBEq, Int.reduceBNe, Int.reduceLT, Int.reduceLE, Int.reduceGT, z, zb, r70, r74, aBin_neq, aBin_neqB u4g, rdq y7, e9, f7, f9, edge_neq]); exact rfl) ?_
        refine cBnS (by (try simp only [go_sem, Nat.reduceAdd, Nat.reduceLeDiff, Nat.reduceMul, Int.reduceBEq, Int.reduceBNe, Int.reduceLT, Int.reduceLE, Int.reduceGT, z, zb, r70, r74, aBin_neq, aBin_neqB u4g, rdq y7, e9, f7, f9, edge_neq]); exact rfl) ?_
        simp only [go_sem, Nat.reduceAdd, Nat.reduceLeDiff, Nat.reduceMul, Int.reduceBEq, Int.reduceBNe, Int.reduceLT, Int.reduceLE, Int.reduceGT, aBin_add, w]
      rw [J10_2_step, key]
      exact eg
    · have t2' : (x.u == mn o.u o.v) = false := by simp [t3]
      have key : Jr10_2 C ⟨0, h.length⟩ ((Value.pointer (some ⟨ob, 0, none⟩))) s6 ((Value.pointer (some ⟨q, 0, none⟩))) vv ((Value.int .i64 ((all.length : Int)))) ((Value.int .i64 ((k : Int)))) hh = some (.inl (((Value.pointer (some ⟨ob, 0, none⟩)), s6, (Value.pointer (some ⟨q, 0, none⟩)), vv, (Value.int .i64 ((all.length : Int))), (Value.int .i64 (((k + 1 : Nat) : Int)))), h9)) := by
        unfold Jr10_2
        simp only [go_sem, Nat.reduceAdd, Nat.reduceLeDiff, Nat.reduceMul, Int.reduceBEq, Int.reduceBNe, Int.reduceLT, Int.reduceLE, Int.reduceGT, aBin_lss, hlt, ix, el, st5, hl, p1]
        iterate 20 (refine bindS (by (try simp only [go_sem, Nat.reduceAdd, Nat.reduceLeDiff, Nat.reduceMul, Int.reduceBEq, Int.reduceBNe, Int.reduceLT, Int.reduceLE, Int.reduceGT, t1', p2, p3, min_q, max_q, aBin_eql, t2']); exact rfl) ?_)
        refine cBnS (by (try simp only [go_sem, Nat.reduceAdd, Nat.reduceLeDiff, Nat.reduceMul, Int.reduceBEq, Int.reduceBNe, Int.reduceLT, Int.reduceLE, Int.reduceGT, t1', p2, p3, min_q, max_q, aBin_eql, t2']); exact rfl) ?_
        simp only [go_sem, Nat.reduceAdd, Nat.reduceLeDiff, Nat.reduceMul, Int.reduceBEq, Int.reduceBNe, Int.reduceLT, Int.reduceLE, Int.reduceGT, rdq y6, e7]
        iterate 2 (refine bindS (by (try simp only [go_sem, Nat.reduceAdd, Nat.reduceLeDiff, Nat.reduceMul, Int.reduceBEq, Int.reduceBNe, Int.reduceLT, Int.reduceLE, Int.reduceGT, z, zb, r70, r74, aBin_neq, aBin_neqB u4g, rdq y7, e9, f7, f9, edge_neq]); exact rfl) ?_)
        refine cBnS (by (try simp only [go_sem, Nat.reduceAdd, Nat.reduceLeDiff, Nat.reduceMul, Int.reduceBEq, Int.reduceBNe, Int.reduceLT, Int.reduceLE, Int.reduceGT, z, zb, r70, r74, aBin_neq, aBin_neqB u4g, rdq y7, e9, f7, f9, edge_neq]); exact rfl) ?_
        iterate 5 (refine bindS (by (try simp only [go_sem, Nat.reduceAdd, Nat.reduceLeDiff, Nat.reduceMul, Int.reduceBEq, Int.reduceBNe, Int.reduceLT, Int.reduceLE, Int.reduceGT, z, zb, r70, r74, aBin_neq, aBin_neqB u4g, rdq y7, e9, f7, f9, edge_neq]); exact rfl) ?_)
        refine cBnS (by (try simp only [go_sem, Nat.reduceAdd, Nat.reduceLeDiff, Nat.reduceMul, Int.reduceBEq, Int.reduceBNe, Int.reduceLT, Int.reduceLE, Int.reduceGT, z, zb, r70, r74, aBin_neq, aBin_neqB u4g, rdq y7, e9, f7, f9, edge_neq]); exact rfl) ?_
        iterate 6 (refine bindS (by (try simp only [go_sem, Nat.reduceAdd, Nat.reduceLeDiff, Nat.reduceMul, Int.reduceBEq, Int.reduceBNe, Int.reduceLT, Int.reduceLE, Int.reduceGT, z, zb, r70, r74, aBin_neq, aBin_neqB u4g, rdq y7, e9, f7, f9, edge_neq]); exact rfl) ?_)
        refine Eq.trans (cLE_t (by simp only [go_sem, Nat.reduceAdd, Nat.reduceLeDiff, Nat.reduceMul, Int.reduceBEq, Int.reduceBNe, Int.reduceLT, Int.reduceLE, Int.reduceGT, f7]) (by simp only [go_sem, Nat.reduceAdd, Nat.reduceLeDiff, Nat.reduceMul, Int.reduceBEq, Int.reduceBNe, Int.reduceLT, Int.reduceLE, Int.reduceGT, f9])) ?_
        refine bindS (by (try simp only [go_sem, Nat.reduceAdd, Nat.reduceLeDiff, Nat.reduceMul, Int.reduceBEq, Int.reduceBNe, Int.reduceLT, Int.reduceLE, Int.reduceGT, z, zb, r70, r74, aBin_neq, aBin_neqB u4g, rdq y7, e9, f7, f9, edge_neq]); exact rfl) ?_
        refine cBnS (by (try simp only [go_sem, Nat.reduceAdd, Nat.reduceLeDiff, Nat.reduceMul, Int.reduceBEq, Int.reduceBNe, Int.reduceLT, Int.reduceLE, Int.reduceGT, z, zb, r70, r74, aBin_neq, aBin_neqB u4g, rdq y7, e9, f7, f9, edge_neq]); exact rfl) ?_
        simp only [go_sem, Nat.reduceAdd, Nat.reduceLeDiff, Nat.reduceMul, Int.reduceBEq, Int.reduceBNe, Int.reduceLT, Int.reduceLE, Int.reduceGT, aBin_add, w]
      rw [J10_2_step, key]
      exact eg
end Go.Det.E
