/- The play of 12 in memory: its lists and edges are maps; an edge comes to both, or leaves both. -/
import Derived.Test.YtibaodefgncbmaaQ4
set_option autoImplicit false
set_option linter.unusedVariables false
set_option linter.unusedSimpArgs false
namespace Go.Det.E
open Go.Proofs Go.Det Go.Det.U
attribute [local congr] bind_c cond_c
variable {md : Md} {h hh k h' : Heap} {a b n n0 p q eb lb p1 p2 : Nat} {V S T x y z u v w i lv sl : Int} {f f' : Int → Int} {s s' : NS} {l c r A0 B0 : List Int} {mk : Int → Nat} {L L' : Int → Int → List Int} {E Em : EM} {av bv : Value} {ees les : List (MK × Value)}
abbrev nil12 : Value := .slice none 0 0
abbrev qC (V S T : Int) (a eb lb : Nat) : List Value := [(Value.int .i64 V), (Value.int .i64 S), (Value.int .i64 T), (Value.int .i64 V), (Value.int .i64 S), (Value.int .i64 T), ifA a, (Value.int .i64 1), (Value.int .i64 0), (Value.int .i64 V), (Value.int .i64 S), (Value.int .i64 T), ifA a, .map (some eb), .map (some lb)]
theorem q3 (hq : h[q]? = some (.own (qC V S T a eb lb))) : rdN h q 0 3 = some [(Value.int .i64 V), (Value.int .i64 S), (Value.int .i64 T)] := by rw [rdN_at hq (by simp [Blk.cells])]; rfl
theorem q10 (hq : h[q]? = some (.own (qC V S T a eb lb))) : rdN h q 3 10 = some (B10 V S T a) := by rw [rdN_at hq (by simp [Blk.cells])]; rfl
theorem q4 (hq : h[q]? = some (.own (qC V S T a eb lb))) : rdN h q 9 4 = some [(Value.int .i64 V), (Value.int .i64 S), (Value.int .i64 T), ifA a] := by rw [rdN_at hq (by simp [Blk.cells])]; rfl
theorem qEB (hq : h[q]? = some (.own (qC V S T a eb lb))) : rd h q 13 = some (.map (some eb)) := by rw [rd_at hq]; rfl
theorem qLB (hq : h[q]? = some (.own (qC V S T a eb lb))) : rd h q 14 = some (.map (some lb)) := by rw [rd_at hq]; rfl
/-- The edges' map, the lists' map. -/
abbrev encE (e : Int × Int × Int) : Value := (Value.agg #[(Value.int .i64 e.1), (Value.int .i64 e.2.1), (Value.int .i64 e.2.2), (Value.bool false)])
structure ME (h : Heap) (eb : Nat) (ees : List (MK × Value)) (E : EM) : Prop where
  at_ : h[eb]? = some (.mp (.one .i64) ees)
  ok : mOk ees
  get : ∀ s, mGet ees [s] = (E s).map encE
structure ML (h : Heap) (q lb : Nat) (les : List (MK × Value)) (L : Int → Int → List Int) : Prop where
  at_ : h[lb]? = some (.mp (.two .i64) les)
  get : ∀ v i, SlO h (q + 1) 1 eZ ((mGet les [v, i]).getD nil12) ((L v i).map slt)
theorem tyE : mapTy Try.prog 42 = some (.one .i64, 55) := by kernel_rfl
theorem tyL : mapTy Try.prog 43 = some (.two .i64, 60) := by kernel_rfl
theorem zvE : zeroV Try.prog 55 = some ((Value.agg #[(Value.int .i64 0), (Value.int .i64 0), (Value.int .i64 0), (Value.bool false)])) := by kernel_rfl
theorem zvL : zeroV Try.prog 60 = some nil12 := by kernel_rfl
theorem key1 : keyOf (.one .i64) ((Value.int .i64 x)) = some [x] := rfl
theorem key2 : keyOf (.two .i64) (.agg (List.toArray [(Value.int .i64 x), (Value.int .i64 y)])) = some [x, y] := rfl
/-- What may not change. -/
structure Fm (a b eb lb : Nat) (h h' : Heap) : Prop where
  len : h.length ≤ h'.length
  old : ∀ y, y < h.length → y ≠ a → y ≠ b → y ≠ eb → y ≠ lb → h'[y]? = h[y]?
theorem Fm.refl : Fm a b eb lb h h := ⟨Nat.le_refl _, fun _ _ _ _ _ _ => rfl⟩
theorem Fm.trans {h'' : Heap} (x : Fm a b eb lb h h') (y : Fm a b eb lb h' h'') : Fm a b eb lb h h'' :=
  ⟨Nat.le_trans x.len y.len, fun z h1 h2 h3 h4 h5 => (y.old z (Nat.lt_of_lt_of_le h1 x.len) h2 h3 h4 h5).trans (x.old z h1 h2 h3 h4 h5)⟩
theorem Fm.app (bs : Heap) : Fm a b eb lb h (h ++ bs) := ⟨by simp, fun y hy _ _ _ _ => List.getElem?_append_left hy⟩
theorem Fm.only (o : Only a b h h') : Fm a b eb lb h h' := ⟨by rw [o.len]; exact Nat.le_refl _, fun y _ h1 h2 _ _ => o.oth y h1 h2⟩
theorem ML.keep (Q : ML h q lb les L) (hl : lb < h.length) (h1 : h'[lb]? = h[lb]?) (h2 : ∀ y, q + 1 ≤ y → y < h.length → h'[y]? = h[y]?) : ML h' q lb les L := ⟨h1.trans Q.at_, fun v i => (Q.get v i).at h2⟩
theorem ML.put (Q : ML h q lb les L) (hlb : lb < q + 1) (hq : q < h.length) {v' : Value} {l' : List Int} (o : ∀ y, q + 1 ≤ y → y < h.length → k[y]? = h[y]?) (hl : lb < k.length) (S' : SlO k (q + 1) 1 eZ v' (l'.map slt)) : ML (k.set lb (.mp (.two .i64) (mPut les [v, i] v'))) q lb (mPut les [v, i] v') (upL L v i l') := by
  refine ⟨by rw [List.getElem?_set_self hl], fun w j => ?_⟩
  rw [mGet_put]
  by_cases e : w = v ∧ j = i
  · rw [e.1, e.2, upL_same, if_pos rfl]
    exact S'.at fun y h1 h2 => List.getElem?_set_ne (by omega)
  · rw [upL_else e, if_neg (by intro q; injection q with q1 q2; injection q2 with q2 _; exact e ⟨q1, q2⟩)]
    exact (Q.get w j).at fun y h1 h2 => (List.getElem?_set_ne (by omega)).trans (o y h1 h2)
/-- One of an edge's two ends gets the slot. -/
theorem add_rd {h0 : Heap} {m : Nat} (hn : n ≤ lb) (hlb : lb < q) (hqp : q < p1 ∧ p1 < p2 ∧ p2 < k.length) (hq : k[q]? = some (.own (qC V S T a eb lb))) (hp1 : k[p1]? = some (.own [(Value.int .i64 u), (Value.int .i64 v), (Value.int .i64 lv), (Value.bool false)])) (hp2 : k[p2]? = some (.own [(Value.int .i64 u), (Value.int .i64 v)])) (M : ML k q lb les L) (hm : m < 2) (hw : [u, v][m]? = some w) (hx : slt x = sl) (hl : (L w lv).length < 1000) :
    ∃ v' k', J30_0 C ⟨0, n⟩ h0 ((Value.pointer (some ⟨q, 0, none⟩))) ((Value.int .i64 sl)) ((Value.pointer (some ⟨p1, 0, none⟩))) ((Value.slice (some ⟨p2, 0, none⟩) 2 1)) ((Value.int .i64 2)) ((Value.int .i64 ((m : Int)))) k = J30_0 C ⟨0, n⟩ h0 ((Value.pointer (some ⟨q, 0, none⟩))) ((Value.int .i64 sl)) ((Value.pointer (some ⟨p1, 0, none⟩))) ((Value.slice (some ⟨p2, 0, none⟩) 2 1)) ((Value.int .i64 2)) ((Value.int .i64 (((m + 1 : Nat) : Int)))) k' ∧ ML k' q lb (mPut les [w, lv] v') (upL L w lv (x :: L w lv)) ∧ k.length ≤ k'.length ∧ ∀ y, y < k.length → y ≠ lb → k'[y]? = k[y]? := by
  have Y : Sl k 1 eZ ((Value.slice (some ⟨p2, 0, none⟩) 2 1)) [u, v] := Sl.whole eZ_len hp2 (by simp [Blk.cells, flat]) rfl
  obtain ⟨ix, rx⟩ := Sl.getI Y hw
  have r2 : rd k p1 2 = some ((Value.int .i64 lv)) := by rw [rd_at hp1]; rfl
  have lk := lt_of M.at_
  have hlt : (m : Int) < 2 := by omega
  have wm : IntKind.wrap .i64 ((m : Int) + 1) = ((m + 1 : Nat) : Int) := by rw [wi (by omega) (by omega)]; rfl
  have w2 : wrN ⟨0, n⟩ (k ++ [Blk.own [(Value.int .i64 0), (Value.int .i64 0)]]) k.length 0 [(Value.int .i64 w), (Value.int .i64 lv)] = some (k ++ [Blk.own [(Value.int .i64 w), (Value.int .i64 lv)]]) := wrN_new0 (bs := []) (Nat.zero_le _) (by show n ≤ _; omega) (by simp)
  have st2 := fun {α : Type} (kk : Heap → Option α) => st_N ⟨0, n⟩ 2 k.length 0 [(Value.int .i64 w), (Value.int .i64 lv)] (k ++ [Blk.own [(Value.int .i64 0), (Value.int .i64 0)]]) kk rfl rfl
  have X := (M.get w lv).sl.app (bs := [Blk.own [(Value.int .i64 w), (Value.int .i64 lv)]])
  generalize hk1 : k ++ [Blk.own [(Value.int .i64 w), (Value.int .i64 lv)]] = k1 at w2 X
  have l1 : k1.length = k.length + 1 := by rw [← hk1]; simp
  have o1 : ∀ y, y < k.length → k1[y]? = k[y]? := fun y hy => by rw [← hk1, List.getElem?_append_left hy]
  have kk1 : k1[k.length]? = some (.own [(Value.int .i64 w), (Value.int .i64 lv)]) := by rw [← hk1]; exact List.getElem?_concat_length ..
  obtain ⟨v', k2, ea, S2, l2, o2⟩ := append_sl2 (md := ⟨0, n⟩) (y := sl) tInts X eZ_len (Nat.zero_le _) (fun _ => rfl) (by simp; omega)
  have hk2 : ∀ y, y < k1.length → (k1 ++ [Blk.own [(Value.int .i64 sl)]])[y]? = k1[y]? := fun y hy => List.getElem?_append_left hy
  have S2' : SlO k2 (q + 1) 1 eZ v' ((x :: L w lv).map slt) := by
    rw [List.map_cons, hx]
    exact ⟨S2.sl, S2.own.imp id fun z => ⟨by omega, z.2⟩⟩
  refine ⟨v', _, ?_, M.put (v := w) (i := lv) (by omega) (by omega) (fun y h1 h2 => (o2 y (by omega)).trans (o1 y h2)) (by omega) S2', by simp; omega, fun y hy hne => ?_⟩
  · have qL1 := qLB ((o1 q (by omega)).trans hq)
    have qL2 := qLB (((hk2 q (by omega)).trans (o1 q (by omega))).trans hq)
    have qL3 := qLB (((o2 q (by omega)).trans (o1 q (by omega))).trans hq)
    have kr1 : rdN k1 k.length 0 2 = some [(Value.int .i64 w), (Value.int .i64 lv)] := by rw [rdN_at kk1 (by simp [Blk.cells])]; rfl
    have kr2 : rdN (k1 ++ [Blk.own [(Value.int .i64 sl)]]) k.length 0 2 = some [(Value.int .i64 w), (Value.int .i64 lv)] := by rw [rdN_at ((hk2 _ (by omega)).trans kk1) (by simp [Blk.cells])]; rfl
    have kr3 : rdN k2 k.length 0 2 = some [(Value.int .i64 w), (Value.int .i64 lv)] := by rw [rdN_at ((o2 _ (by omega)).trans kk1) (by simp [Blk.cells])]; rfl
    have m1 : k1[lb]? = some (.mp (.two .i64) les) := (o1 _ lk).trans M.at_
    have m2 : (k1 ++ [Blk.own [(Value.int .i64 sl)]])[lb]? = some (.mp (.two .i64) les) := (hk2 _ (by omega)).trans m1
    have m3 : k2[lb]? = some (.mp (.two .i64) les) := (o2 _ (by omega)).trans m1
    have lk1 := fun {α : Type} (kk : Value → Option α) => aLookup_p (k := kk) tyL zvL (key2 (x := w) (y := lv)) m1
    have lk2 := fun {α : Type} (kk : Value → Option α) => aLookup_p (k := kk) tyL zvL (key2 (x := w) (y := lv)) m2
    have mp := fun {α : Type} (kk : Heap → Option α) => aMapPut_q (md := ⟨0, n⟩) (v := v') (k := kk) tyL (key2 (x := w) (y := lv)) m3 (show n ≤ lb from hn) (Nat.zero_le _)
    rw [J30_0_step]
    unfold Jr30_0
    simp only [go_sem, Nat.reduceAdd, Nat.reduceLeDiff, Nat.reduceMul, Int.reduceBEq, Int.reduceBNe, Int.reduceLT, Int.reduceLE, Int.reduceGT, aBin_lss, hlt, ixSV_p, ix, rx, r2, st2, w2, okNil, okP_p, qL1, kr1, bInts1, kr2, qL2, lk1, lk2, ea, kr3, qL3, mp, aBin_add, wm]
  · rw [List.getElem?_set_ne (Ne.symm hne), o2 y (by omega), o1 y hy]
end Go.Det.E
/- The play of 12: add, remove. -/
namespace Go.Det.E
open Go.Proofs Go.Det Go.Det.U
attribute [local congr] bind_c cond_c
variable {md : Md} {h hh k h' : Heap} {a b n n0 p q eb lb p1 p2 : Nat} {V S T x y z u v w i lv sl : Int} {f f' : Int → Int} {s s' : NS} {l c r A0 B0 : List Int} {mk : Int → Nat} {L L' : Int → Int → List Int} {E Em : EM} {av bv : Value} {ees les : List (MK × Value)}
theorem ME.put (Q : ME h eb ees Em) (hl : eb < k.length) (e : Int × Int × Int) : ME (k.set eb (.mp (.one .i64) (mPut ees [sl] (encE e)))) eb (mPut ees [sl] (encE e)) (upE Em sl (some e)) := by
  refine ⟨by rw [List.getElem?_set_self hl], mOk_put Q.ok, fun t => ?_⟩
  rw [mGet_put]
  by_cases q : t = sl
  · rw [q, upE_same, if_pos rfl]; rfl
  · rw [upE_else q, if_neg (by intro z; injection z with z _; exact q z)]; exact Q.get t
theorem ME.del (Q : ME h eb ees Em) (hl : eb < k.length) : ME (k.set eb (.mp (.one .i64) (mDel ees [sl]))) eb (mDel ees [sl]) (upE Em sl none) := by
  refine ⟨by rw [List.getElem?_set_self hl], mOk_del Q.ok, fun t => ?_⟩
  rw [mGet_del _ _ _ Q.ok]
  by_cases q : t = sl
  · rw [q, upE_same, if_pos rfl]; rfl
  · rw [upE_else q, if_neg (by intro z; injection z with z _; exact q z)]; exact Q.get t
theorem ME.keep (Q : ME h eb ees Em) (e : h'[eb]? = h[eb]?) : ME h' eb ees Em := ⟨e.trans Q.at_, Q.ok, Q.get⟩
structure HB (V S T : Int) (f : Int → Int) (a b q eb lb : Nat) (s : NS) (mk : Int → Nat) (E Em : EM) (L : Int → Int → List Int) (ees les : List (MK × Value)) (h : Heap) : Prop where
  th : TH V S T f a b s h
  ee : EE V S T f E
  ls : LS V S T f L
  lm : LM V S s mk L
  hq : h[q]? = some (.own (qC V S T a eb lb))
  me : ME h eb ees Em
  ml : ML h q lb les L
  sp : (a < eb ∧ b < eb) ∧ eb < lb ∧ lb < q
theorem HB.fm (H : HB V S T f a b q eb lb s mk E Em L ees les h) (o : ∀ y, y < h.length → h'[y]? = h[y]?) : HB V S T f a b q eb lb s mk E Em L ees les h' := by
  obtain ⟨la, lb'⟩ := H.th.la
  have lq := lt_of H.hq
  have sp := H.sp
  exact ⟨H.th.old (o a la) (o b lb'), H.ee, H.ls, H.lm, (o q lq).trans H.hq, H.me.keep (o _ (by omega)), H.ml.keep (by omega) (o _ (by omega)) (fun y _ hy => o y hy), H.sp⟩
/-- Another memory, by one call. -/
theorem HB.mem (H : HB V S T f a b q eb lb s mk E Em L ees les h) {E' : EM} (A : TH V S T f' a b s h') (Q : EE V S T f' E') (P : LS V S T f' L) (o : Only a b h h') : HB V S T f' a b q eb lb s mk E' Em L ees les h' := by
  have sp := H.sp
  exact ⟨A, Q, P, H.lm, (o.oth _ (by omega) (by omega)).trans H.hq, H.me.keep (o.oth _ (by omega) (by omega)), H.ml.keep (by have := lt_of H.hq; omega) (o.oth _ (by omega) (by omega)) (fun y hy _ => o.oth _ (by omega) (by omega)), H.sp⟩
theorem add_s (hR : Rt V S T) (H : HB V S T f a b q eb lb s mk E Em L ees les h) (hn : n ≤ a ∧ n ≤ eb) (hs : E sl = some (u, v, lv)) (nw : ∀ w j, 2 * sl + 0 + 1 ∉ L w j ∧ 2 * sl + 1 + 1 ∉ L w j) :
    ∃ f' s' mk' ees' les' h', C ⟨0, n⟩ 30 [(Value.pointer (some ⟨q, 0, none⟩)), (Value.int .i64 sl), (Value.agg #[(Value.int .i64 u), (Value.int .i64 v), (Value.int .i64 lv), (Value.bool false)])] h = some ((Value.tuple #[]), h') ∧ HB V S T f' a b q eb lb s' mk' E (upE Em sl (some (u, v, lv))) (addL L sl u v lv) ees' les' h' ∧ Fm a b eb lb h h' := by
  obtain ⟨la, lb'⟩ := H.th.la
  have lq := lt_of H.hq
  have sp := H.sp
  have rs := hR
  unfold Rt at rs
  obtain ⟨g1, g2, g3, g4, g5, g6⟩ := H.ee.ed sl u v lv hs
  have r0 : rd (h ++ [Blk.own [(Value.int .i64 u), (Value.int .i64 v), (Value.int .i64 lv), (Value.bool false)]]) h.length 0 = some ((Value.int .i64 u)) := by rw [rd_new0]; rfl
  have r1 : rd (h ++ [Blk.own [(Value.int .i64 u), (Value.int .i64 v), (Value.int .i64 lv), (Value.bool false)]]) h.length 1 = some ((Value.int .i64 v)) := by rw [rd_new0]; rfl
  have lh1 : (h ++ [Blk.own [(Value.int .i64 u), (Value.int .i64 v), (Value.int .i64 lv), (Value.bool false)]]).length = h.length + 1 := by simp
  generalize hk0 : h ++ [Blk.own [(Value.int .i64 u), (Value.int .i64 v), (Value.int .i64 lv), (Value.bool false)], Blk.own [(Value.int .i64 u), (Value.int .i64 v)]] = k0
  have l0 : k0.length = h.length + 2 := by rw [← hk0]; simp
  have o0 : ∀ y, y < h.length → k0[y]? = h[y]? := fun y hy => by rw [← hk0, List.getElem?_append_left hy]
  have c1 : k0[h.length]? = some (.own [(Value.int .i64 u), (Value.int .i64 v), (Value.int .i64 lv), (Value.bool false)]) := by rw [← hk0, List.getElem?_append_right (Nat.le_refl _)]; simp
  have c2 : k0[h.length + 1]? = some (.own [(Value.int .i64 u), (Value.int .i64 v)]) := by rw [← hk0, List.getElem?_append_right (by omega)]; simp
  have ll := fun w => H.ls.len hR w lv
  obtain ⟨w1, k1, e1, M1, l1, o1⟩ := add_rd (n := n) (h0 := h) (p1 := h.length) (p2 := h.length + 1) (k := k0) (sl := sl) (x := 2 * sl + 0 + 1) (w := u) (m := 0) (u := u) (v := v) (lv := lv) (T := T) (V := V) (S := S) (a := a) (eb := eb) (L := L) (by omega) sp.2.2 ⟨by omega, by omega, by omega⟩ ((o0 _ lq).trans H.hq) c1 c2 (H.ml.keep (by omega) (o0 _ (by omega)) (fun y _ hy => o0 y hy)) (by omega) rfl (by unfold slt; omega) (by have := ll u; omega)
  have eL : upL L u lv ((2 * sl + 0 + 1) :: L u lv) v lv = L v lv := upL_else fun q => by omega
  obtain ⟨w2, k2, e2, M2, l2, o2⟩ := add_rd (n := n) (h0 := h) (p1 := h.length) (p2 := h.length + 1) (k := k1) (sl := sl) (x := 2 * sl + 1 + 1) (w := v) (m := 1) (u := u) (v := v) (lv := lv) (T := T) (V := V) (S := S) (a := a) (eb := eb) (by omega) sp.2.2 ⟨by omega, by omega, by omega⟩ ((o1 _ (by omega) (by omega)).trans ((o0 _ lq).trans H.hq)) ((o1 _ (by omega) (by omega)).trans c1) ((o1 _ (by omega) (by omega)).trans c2) M1 (by omega) rfl (by unfold slt; omega) (by rw [eL]; have := ll v; omega)
  rw [eL] at M2
  have o02 : ∀ y, y < h.length → y ≠ lb → k2[y]? = h[y]? := fun y h1 h2 => (o2 y (by omega) h2).trans ((o1 y (by omega) h2).trans (o0 y h1))
  have d1 : k2[h.length]? = some (.own [(Value.int .i64 u), (Value.int .i64 v), (Value.int .i64 lv), (Value.bool false)]) := (o2 _ (by omega) (by omega)).trans ((o1 _ (by omega) (by omega)).trans c1)
  have hq2 : k2[q]? = some (.own (qC V S T a eb lb)) := (o02 q lq (by omega)).trans H.hq
  have he2 : k2[eb]? = some (.mp (.one .i64) ees) := (o02 eb (by omega) (by omega)).trans H.me.at_
  have r4 : rdN k2 h.length 0 4 = some [(Value.int .i64 u), (Value.int .i64 v), (Value.int .i64 lv), (Value.bool false)] := by rw [rdN_at d1 (by simp [Blk.cells])]; rfl
  have mp := fun {α : Type} (kk : Heap → Option α) => aMapPut_p (md := ⟨0, n⟩) (v := .agg (List.toArray [(Value.int .i64 u), (Value.int .i64 v), (Value.int .i64 lv), (Value.bool false)])) (k := kk) tyE (key1 (x := sl)) he2 rfl (Nat.zero_le _)
  have Q3 := H.me.put (k := k2) (sl := sl) (by omega) (u, v, lv)
  have ev : encE (u, v, lv) = .agg (List.toArray [(Value.int .i64 u), (Value.int .i64 v), (Value.int .i64 lv), (Value.bool false)]) := rfl
  rw [ev] at Q3
  generalize hk3 : k2.set eb (.mp (.one .i64) (mPut ees [sl] (.agg (List.toArray [(Value.int .i64 u), (Value.int .i64 v), (Value.int .i64 lv), (Value.bool false)])))) = k3 at mp Q3
  have l3 : k3.length = k2.length := by rw [← hk3]; simp
  have o3 : ∀ y, y ≠ eb → k3[y]? = k2[y]? := fun y hy => by rw [← hk3, List.getElem?_set_ne (Ne.symm hy)]
  have hq3 : k3[q]? = some (.own (qC V S T a eb lb)) := (o3 q (by omega)).trans hq2
  have A3 : TH V S T f a b s k3 := H.th.old ((o3 a (by omega)).trans (o02 a la (by omega))) ((o3 b (by omega)).trans (o02 b lb' (by omega)))
  obtain ⟨f', s', mk', h', e4, A4, Q4, P4, LM4, o4⟩ := adAdd (md := ⟨0, n⟩) hR A3 H.ee H.ls H.lm (Nat.zero_le _) (Nat.zero_le _) (Nat.zero_le _) hs nw
  have M3 : ML k3 q lb (mPut (mPut les [u, lv] w1) [v, lv] w2) (addL L sl u v lv) := M2.keep (by omega) (o3 lb (by omega)) (fun y hy _ => o3 y (by omega))
  refine ⟨f', s', mk', _, _, h', ?_, ⟨A4, Q4, P4, LM4, (o4.oth _ (by omega) (by omega)).trans hq3, Q3.keep (o4.oth _ (by omega) (by omega)), M3.keep (by omega) (o4.oth _ (by omega) (by omega)) (fun y hy _ => o4.oth _ (by omega) (by omega)), sp⟩, ⟨by rw [o4.len, l3]; omega, fun y h1 h2 h3 h4 h5 => ?_⟩⟩
  · have q10' := q10 hq3
    have qe := qEB hq2
    rw [C, call_eq, F30_eq]
    unfold F30
    rw [Int.natCast_one] at e2
    have z0 : ((0 : Nat) : Int) = 0 := rfl
    have z2 : ((0 + 1 : Nat) : Int) = 1 := rfl
    have z3 : ((1 + 1 : Nat) : Int) = 2 := rfl
    rw [z0, z2] at e1
    rw [z3] at e2
    have fin : J30_0 C ⟨0, n⟩ h ((Value.pointer (some ⟨q, 0, none⟩))) ((Value.int .i64 sl)) ((Value.pointer (some ⟨h.length, 0, none⟩))) ((Value.slice (some ⟨h.length + 1, 0, none⟩) 2 1)) ((Value.int .i64 2)) ((Value.int .i64 2)) k2 = some ((Value.tuple #[]), h') := by
      rw [J30_0_step]
      unfold Jr30_0
      simp only [go_sem, Nat.reduceAdd, Nat.reduceLeDiff, Nat.reduceMul, Int.reduceBEq, Int.reduceBNe, Int.reduceLT, Int.reduceLE, Int.reduceGT, aBin_lss, Int.lt_irrefl, Jk30_0]
      unfold J30_1
      simp only [go_sem, Nat.reduceAdd, Nat.reduceLeDiff, Nat.reduceMul, Int.reduceBEq, Int.reduceBNe, Int.reduceLT, Int.reduceLE, Int.reduceGT, okNil, okP_p, qe, r4, mp, q10', e4]
    simp only [go_sem, Nat.reduceAdd, Nat.reduceLeDiff, Nat.reduceMul, Int.reduceBEq, Int.reduceBNe, Int.reduceLT, Int.reduceLE, Int.reduceGT, r0, r1, lh1, hk0]
    exact e1.trans (e2.trans fin)
  · rw [o4.oth y h2 h3, o3 y h4, o02 y h1 h5]
/-- One of an edge's two ends loses the slot. -/
theorem rem_rd {h0 : Heap} {m : Nat} (hn : n ≤ lb) (hlb : lb < q) (hqp : q < p1 ∧ p1 < p2 ∧ p2 < k.length) (hq : k[q]? = some (.own (qC V S T a eb lb))) (hp1 : k[p1]? = some (.own [(Value.int .i64 u), (Value.int .i64 v), (Value.int .i64 lv), (Value.bool false)])) (hp2 : k[p2]? = some (.own [(Value.int .i64 u), (Value.int .i64 v)])) (M : ML k q lb les L) (hm : m < 2) (hw : [u, v][m]? = some w) (hx : ∀ y ∈ L w lv, slt y = sl ↔ y = x) (hl : (L w lv).length < 1000) :
    ∃ v' k', J31_0 C ⟨0, n⟩ h0 ((Value.pointer (some ⟨q, 0, none⟩))) ((Value.int .i64 sl)) ((Value.pointer (some ⟨p1, 0, none⟩))) ((Value.slice (some ⟨p2, 0, none⟩) 2 1)) ((Value.int .i64 2)) ((Value.int .i64 ((m : Int)))) k = J31_0 C ⟨0, n⟩ h0 ((Value.pointer (some ⟨q, 0, none⟩))) ((Value.int .i64 sl)) ((Value.pointer (some ⟨p1, 0, none⟩))) ((Value.slice (some ⟨p2, 0, none⟩) 2 1)) ((Value.int .i64 2)) ((Value.int .i64 (((m + 1 : Nat) : Int)))) k' ∧ ML k' q lb (mPut les [w, lv] v') (upL L w lv (rmL x (L w lv))) ∧ k.length ≤ k'.length ∧ (∀ y, y < k.length → y ≠ lb → k'[y]? = k[y]?) ∧ (v' = nil12 ∨ k.length ≤ slB v') := by
  have Y : Sl k 1 eZ ((Value.slice (some ⟨p2, 0, none⟩) 2 1)) [u, v] := Sl.whole eZ_len hp2 (by simp [Blk.cells, flat]) rfl
  obtain ⟨ix, rx⟩ := Sl.getI Y hw
  have r2 : rd k p1 2 = some ((Value.int .i64 lv)) := by rw [rd_at hp1]; rfl
  have lk := lt_of M.at_
  have hlt : (m : Int) < 2 := by omega
  have wm : IntKind.wrap .i64 ((m : Int) + 1) = ((m + 1 : Nat) : Int) := by rw [wi (by omega) (by omega)]; rfl
  have w2 : wrN ⟨0, n⟩ (k ++ [Blk.own [(Value.int .i64 0), (Value.int .i64 0)]]) k.length 0 [(Value.int .i64 w), (Value.int .i64 lv)] = some (k ++ [Blk.own [(Value.int .i64 w), (Value.int .i64 lv)]]) := wrN_new0 (bs := []) (Nat.zero_le _) (by show n ≤ _; omega) (by simp)
  have st2 := fun {α : Type} (kk : Heap → Option α) => st_N ⟨0, n⟩ 2 k.length 0 [(Value.int .i64 w), (Value.int .i64 lv)] (k ++ [Blk.own [(Value.int .i64 0), (Value.int .i64 0)]]) kk rfl rfl
  have X := (M.get w lv).sl.app (bs := [Blk.own [(Value.int .i64 w), (Value.int .i64 lv)]])
  generalize hk1 : k ++ [Blk.own [(Value.int .i64 w), (Value.int .i64 lv)]] = k1 at w2 X
  have l1 : k1.length = k.length + 1 := by rw [← hk1]; simp
  have o1 : ∀ y, y < k.length → k1[y]? = k[y]? := fun y hy => by rw [← hk1, List.getElem?_append_left hy]
  have kk1 : k1[k.length]? = some (.own [(Value.int .i64 w), (Value.int .i64 lv)]) := by rw [← hk1]; exact List.getElem?_concat_length ..
  obtain ⟨v', k2, ea, S2, O2⟩ := out_s (md := ⟨0, n⟩) (Nat.zero_le _) X (by omega) (by simp; omega) sl
  have em : rmL sl ((L w lv).map slt) = (rmL x (L w lv)).map slt := by
    unfold rmL
    rw [List.filter_map]
    congr 1
    apply List.filter_congr
    intro y hy
    show decide (slt y ≠ sl) = decide (y ≠ x)
    rw [decide_eq_decide]
    exact not_congr (hx y hy)
  rw [em] at S2
  have S2' : SlO k2 (q + 1) 1 eZ v' ((rmL x (L w lv)).map slt) := ⟨S2.sl, S2.own.imp id fun z => ⟨by omega, z.2⟩⟩
  have l2 := O2.len
  refine ⟨v', _, ?_, M.put (v := w) (i := lv) (by omega) (by omega) (fun y h1 h2 => (O2.old y (by omega)).trans (o1 y h2)) (by omega) S2', by simp; omega, fun y hy hne => ?_, S2.own.imp id fun z => by omega⟩
  · have qL1 := qLB ((o1 q (by omega)).trans hq)
    have qL3 := qLB (((O2.old q (by omega)).trans (o1 q (by omega))).trans hq)
    have kr1 : rdN k1 k.length 0 2 = some [(Value.int .i64 w), (Value.int .i64 lv)] := by rw [rdN_at kk1 (by simp [Blk.cells])]; rfl
    have kr3 : rdN k2 k.length 0 2 = some [(Value.int .i64 w), (Value.int .i64 lv)] := by rw [rdN_at ((O2.old _ (by omega)).trans kk1) (by simp [Blk.cells])]; rfl
    have m1 : k1[lb]? = some (.mp (.two .i64) les) := (o1 _ lk).trans M.at_
    have m3 : k2[lb]? = some (.mp (.two .i64) les) := (O2.old _ (by omega)).trans m1
    have lk1 := fun {α : Type} (kk : Value → Option α) => aLookup_p (k := kk) tyL zvL (key2 (x := w) (y := lv)) m1
    have mp := fun {α : Type} (kk : Heap → Option α) => aMapPut_q (md := ⟨0, n⟩) (v := v') (k := kk) tyL (key2 (x := w) (y := lv)) m3 (show n ≤ lb from hn) (Nat.zero_le _)
    rw [J31_0_step]
    unfold Jr31_0
    simp only [go_sem, Nat.reduceAdd, Nat.reduceLeDiff, Nat.reduceMul, Int.reduceBEq, Int.reduceBNe, Int.reduceLT, Int.reduceLE, Int.reduceGT, aBin_lss, hlt, ixSV_p, ix, rx, r2, st2, w2, okNil, okP_p, qL1, kr1, lk1, ea, kr3, qL3, mp, aBin_add, wm]
  · rw [List.getElem?_set_ne (Ne.symm hne), O2.old y (by omega), o1 y hy]
theorem remove_s (hR : Rt V S T) (H : HB V S T f a b q eb lb s mk E Em L ees les h) (hn : n ≤ a ∧ n ≤ eb) (hs : E sl = some (u, v, lv)) (hm : Em sl = some (u, v, lv)) (i1 : 2 * sl + 0 + 1 ∈ L u lv) (i2 : 2 * sl + 1 + 1 ∈ L v lv)
    (n1 : ∀ y ∈ L u lv, slt y = sl ↔ y = 2 * sl + 0 + 1) (n2 : ∀ y ∈ L v lv, slt y = sl ↔ y = 2 * sl + 1 + 1) :
    ∃ f' s' mk' ees' les' h', C ⟨0, n⟩ 31 [(Value.pointer (some ⟨q, 0, none⟩)), (Value.int .i64 sl)] h = some ((Value.tuple #[]), h') ∧ HB V S T f' a b q eb lb s' mk' E (upE Em sl none) (remL L sl u v lv) ees' les' h' ∧ Fm a b eb lb h h' ∧ ∀ w j, mGet les' [w, j] = mGet les [w, j] ∨ (mGet les' [w, j]).getD nil12 = nil12 ∨ h.length ≤ slB ((mGet les' [w, j]).getD nil12) := by
  obtain ⟨la, lb'⟩ := H.th.la
  have lq := lt_of H.hq
  have sp := H.sp
  have rs := hR
  unfold Rt at rs
  obtain ⟨g1, g2, g3, g4, g5, g6⟩ := H.ee.ed sl u v lv hs
  have gt : mGet ees [sl] = some (encE (u, v, lv)) := by rw [H.me.get, hm]; rfl
  have lkE := fun {α : Type} (kk : Value → Option α) => aLookup_p (k := kk) tyE zvE (key1 (x := sl)) H.me.at_
  rw [gt] at lkE
  have w4 : wrN ⟨0, n⟩ (h ++ [Blk.own [(Value.int .i64 0), (Value.int .i64 0), (Value.int .i64 0), (Value.bool false)]]) h.length 0 [(Value.int .i64 u), (Value.int .i64 v), (Value.int .i64 lv), (Value.bool false)] = some (h ++ [Blk.own [(Value.int .i64 u), (Value.int .i64 v), (Value.int .i64 lv), (Value.bool false)]]) := wrN_new0 (bs := []) (Nat.zero_le _) (by show n ≤ _; omega) (by simp)
  have st4 := fun {α : Type} (kk : Heap → Option α) => st_N ⟨0, n⟩ 4 h.length 0 [(Value.int .i64 u), (Value.int .i64 v), (Value.int .i64 lv), (Value.bool false)] (h ++ [Blk.own [(Value.int .i64 0), (Value.int .i64 0), (Value.int .i64 0), (Value.bool false)]]) kk rfl rfl
  have r0 : rd (h ++ [Blk.own [(Value.int .i64 u), (Value.int .i64 v), (Value.int .i64 lv), (Value.bool false)]]) h.length 0 = some ((Value.int .i64 u)) := by rw [rd_new0]; rfl
  have r1 : rd (h ++ [Blk.own [(Value.int .i64 u), (Value.int .i64 v), (Value.int .i64 lv), (Value.bool false)]]) h.length 1 = some ((Value.int .i64 v)) := by rw [rd_new0]; rfl
  have lh1 : (h ++ [Blk.own [(Value.int .i64 u), (Value.int .i64 v), (Value.int .i64 lv), (Value.bool false)]]).length = h.length + 1 := by simp
  generalize hk0 : h ++ [Blk.own [(Value.int .i64 u), (Value.int .i64 v), (Value.int .i64 lv), (Value.bool false)], Blk.own [(Value.int .i64 u), (Value.int .i64 v)]] = k0
  have l0 : k0.length = h.length + 2 := by rw [← hk0]; simp
  have o0 : ∀ y, y < h.length → k0[y]? = h[y]? := fun y hy => by rw [← hk0, List.getElem?_append_left hy]
  have c1 : k0[h.length]? = some (.own [(Value.int .i64 u), (Value.int .i64 v), (Value.int .i64 lv), (Value.bool false)]) := by rw [← hk0, List.getElem?_append_right (Nat.le_refl _)]; simp
  have c2 : k0[h.length + 1]? = some (.own [(Value.int .i64 u), (Value.int .i64 v)]) := by rw [← hk0, List.getElem?_append_right (by omega)]; simp
  have ll := fun w => H.ls.len hR w lv
  obtain ⟨w1, k1, e1, M1, l1, o1, z1⟩ := rem_rd (n := n) (h0 := h) (p1 := h.length) (p2 := h.length + 1) (k := k0) (sl := sl) (x := 2 * sl + 0 + 1) (w := u) (m := 0) (u := u) (v := v) (lv := lv) (T := T) (V := V) (S := S) (a := a) (eb := eb) (L := L) (by omega) sp.2.2 ⟨by omega, by omega, by omega⟩ ((o0 _ lq).trans H.hq) c1 c2 (H.ml.keep (by omega) (o0 _ (by omega)) (fun y _ hy => o0 y hy)) (by omega) rfl n1 (by have := ll u; omega)
  have eL : upL L u lv (rmL (2 * sl + 0 + 1) (L u lv)) v lv = L v lv := upL_else fun q => by omega
  obtain ⟨w2, k2, e2, M2, l2, o2, z2⟩ := rem_rd (n := n) (h0 := h) (p1 := h.length) (p2 := h.length + 1) (k := k1) (sl := sl) (x := 2 * sl + 1 + 1) (w := v) (m := 1) (u := u) (v := v) (lv := lv) (T := T) (V := V) (S := S) (a := a) (eb := eb) (by omega) sp.2.2 ⟨by omega, by omega, by omega⟩ ((o1 _ (by omega) (by omega)).trans ((o0 _ lq).trans H.hq)) ((o1 _ (by omega) (by omega)).trans c1) ((o1 _ (by omega) (by omega)).trans c2) M1 (by omega) rfl (by rw [eL]; exact n2) (by rw [eL]; have := ll v; omega)
  rw [eL] at M2
  have o02 : ∀ y, y < h.length → y ≠ lb → k2[y]? = h[y]? := fun y h1 h2 => (o2 y (by omega) h2).trans ((o1 y (by omega) h2).trans (o0 y h1))
  have hq2 : k2[q]? = some (.own (qC V S T a eb lb)) := (o02 q lq (by omega)).trans H.hq
  have he2 : k2[eb]? = some (.mp (.one .i64) ees) := (o02 eb (by omega) (by omega)).trans H.me.at_
  have md2 := fun {α : Type} (kk : Value → Heap → Option α) => aMapDel_p (md := ⟨0, n⟩) (k := kk) (tys := #[42, 3]) rfl tyE (key1 (x := sl)) he2 (Nat.zero_le _)
  have Q3 := H.me.del (k := k2) (sl := sl) (by omega)
  generalize hk3 : k2.set eb (.mp (.one .i64) (mDel ees [sl])) = k3 at md2 Q3
  have l3 : k3.length = k2.length := by rw [← hk3]; simp
  have o3 : ∀ y, y ≠ eb → k3[y]? = k2[y]? := fun y hy => by rw [← hk3, List.getElem?_set_ne (Ne.symm hy)]
  have hq3 : k3[q]? = some (.own (qC V S T a eb lb)) := (o3 q (by omega)).trans hq2
  have A3 : TH V S T f a b s k3 := H.th.old ((o3 a (by omega)).trans (o02 a la (by omega))) ((o3 b (by omega)).trans (o02 b lb' (by omega)))
  obtain ⟨f', s', mk', h', e4, A4, Q4, P4, LM4, o4⟩ := adRem (md := ⟨0, n⟩) hR A3 H.ee H.ls H.lm (Nat.zero_le _) (Nat.zero_le _) (Nat.zero_le _) hs i1 i2
  have M3 : ML k3 q lb (mPut (mPut les [u, lv] w1) [v, lv] w2) (remL L sl u v lv) := M2.keep (by omega) (o3 lb (by omega)) (fun y hy _ => o3 y (by omega))
  refine ⟨f', s', mk', _, _, h', ?_, ⟨A4, Q4, P4, LM4, (o4.oth _ (by omega) (by omega)).trans hq3, Q3.keep (o4.oth _ (by omega) (by omega)), M3.keep (by omega) (o4.oth _ (by omega) (by omega)) (fun y hy _ => o4.oth _ (by omega) (by omega)), sp⟩, ⟨by rw [o4.len, l3]; omega, fun y h1 h2 h3 h4 h5 => ?_⟩, fun w j => ?_⟩
  · have q10' := q10 hq3
    have qe := qEB hq2
    have qe0 := qEB H.hq
    rw [C, call_eq, F31_eq]
    unfold F31
    rw [Int.natCast_one] at e2
    have z0 : ((0 : Nat) : Int) = 0 := rfl
    have z2 : ((0 + 1 : Nat) : Int) = 1 := rfl
    have z3 : ((1 + 1 : Nat) : Int) = 2 := rfl
    rw [z0, z2] at e1
    rw [z3] at e2
    have fin : J31_0 C ⟨0, n⟩ h ((Value.pointer (some ⟨q, 0, none⟩))) ((Value.int .i64 sl)) ((Value.pointer (some ⟨h.length, 0, none⟩))) ((Value.slice (some ⟨h.length + 1, 0, none⟩) 2 1)) ((Value.int .i64 2)) ((Value.int .i64 2)) k2 = some ((Value.tuple #[]), h') := by
      rw [J31_0_step]
      unfold Jr31_0
      simp only [go_sem, Nat.reduceAdd, Nat.reduceLeDiff, Nat.reduceMul, Int.reduceBEq, Int.reduceBNe, Int.reduceLT, Int.reduceLE, Int.reduceGT, aBin_lss, Int.lt_irrefl, Jk31_0]
      unfold J31_1
      simp only [go_sem, Nat.reduceAdd, Nat.reduceLeDiff, Nat.reduceMul, Int.reduceBEq, Int.reduceBNe, Int.reduceLT, Int.reduceLE, Int.reduceGT, okNil, okP_p, qe, md2, q10', e4]
    simp only [go_sem, Nat.reduceAdd, Nat.reduceLeDiff, Nat.reduceMul, Int.reduceBEq, Int.reduceBNe, Int.reduceLT, Int.reduceLE, Int.reduceGT, okNil, okP_p, qe0, lkE, Option.getD_some, st4, w4, r0, r1, lh1, hk0]
    exact e1.trans (e2.trans fin)
  · rw [o4.oth y h2 h3, o3 y h4, o02 y h1 h5]
  · rw [mGet_put, mGet_put]
    split
    · exact .inr (z2.imp id fun z => by show h.length ≤ slB w2; omega)
    · split
      · exact .inr (z1.imp id fun z => by show h.length ≤ slB w1; omega)
      · exact .inl rfl
end Go.Det.E

/- The play of 12: the lists hold just the edges' sides. -/
namespace Go.Det.E
open Go.Proofs Go.Det Go.Det.U
attribute [local congr] bind_c cond_c
variable {md : Md} {h hh k h' : Heap} {a b n n0 p q eb lb p1 p2 : Nat} {V S T x y z u v w i lv sl : Int} {f f' : Int → Int} {s s' : NS} {l c r A0 B0 : List Int} {mk : Int → Nat} {L L' : Int → Int → List Int} {E Em : EM} {av bv : Value} {ees les : List (MK × Value)}
structure LK (E : EM) (L : Int → Int → List Int) : Prop where
  lk : ∀ v i x, x ∈ L v i → ∃ u w, E (slt x) = some (u, w, i) ∧ (x = 2 * slt x + 0 + 1 ∧ v = u ∨ x = 2 * slt x + 1 + 1 ∧ v = w)
  kl : ∀ sl u w i, E sl = some (u, w, i) → 2 * sl + 0 + 1 ∈ L u i ∧ 2 * sl + 1 + 1 ∈ L w i
theorem slt0 (sl : Int) : slt (2 * sl + 0 + 1) = sl := by unfold slt; omega
theorem slt1 (sl : Int) : slt (2 * sl + 1 + 1) = sl := by unfold slt; omega
theorem LK.free (K : LK E L) (hn : E sl = none) (w j : Int) : 2 * sl + 0 + 1 ∉ L w j ∧ 2 * sl + 1 + 1 ∉ L w j := by
  refine ⟨fun h => ?_, fun h => ?_⟩
  · obtain ⟨u, v, e, _⟩ := K.lk _ _ _ h
    rw [slt0, hn] at e; cases e
  · obtain ⟨u, v, e, _⟩ := K.lk _ _ _ h
    rw [slt1, hn] at e; cases e
theorem LK.one (K : LK E L) (hs : E sl = some (u, v, lv)) (hne : u ≠ v) : (∀ y ∈ L u lv, slt y = sl ↔ y = 2 * sl + 0 + 1) ∧ ∀ y ∈ L v lv, slt y = sl ↔ y = 2 * sl + 1 + 1 := by
  refine ⟨fun y hy => ⟨fun e => ?_, fun e => by rw [e]; exact slt0 _⟩, fun y hy => ⟨fun e => ?_, fun e => by rw [e]; exact slt1 _⟩⟩
  · obtain ⟨u', w', e1, e2⟩ := K.lk _ _ _ hy
    rw [e, hs] at e1
    cases e1
    rw [e] at e2
    rcases e2 with ⟨q, _⟩ | ⟨_, q⟩
    · exact q
    · exact absurd q hne
  · obtain ⟨u', w', e1, e2⟩ := K.lk _ _ _ hy
    rw [e, hs] at e1
    cases e1
    rw [e] at e2
    rcases e2 with ⟨_, q⟩ | ⟨q, _⟩
    · exact absurd q.symm hne
    · exact q
theorem add_u (hne : u ≠ v) : addL L sl u v lv u lv = (2 * sl + 0 + 1) :: L u lv := by
  unfold addL; rw [upL_else (fun q => hne q.1), upL_same]
theorem add_v : addL L sl u v lv v lv = (2 * sl + 1 + 1) :: L v lv := by unfold addL; rw [upL_same]
theorem add_else (h1 : ¬ (w = u ∧ i = lv)) (h2 : ¬ (w = v ∧ i = lv)) : addL L sl u v lv w i = L w i := by unfold addL; rw [upL_else h2, upL_else h1]
theorem rem_u (hne : u ≠ v) : remL L sl u v lv u lv = rmL (2 * sl + 0 + 1) (L u lv) := by
  unfold remL; rw [upL_else (fun q => hne q.1), upL_same]
theorem rem_v : remL L sl u v lv v lv = rmL (2 * sl + 1 + 1) (L v lv) := by unfold remL; rw [upL_same]
theorem rem_else (h1 : ¬ (w = u ∧ i = lv)) (h2 : ¬ (w = v ∧ i = lv)) : remL L sl u v lv w i = L w i := by unfold remL; rw [upL_else h2, upL_else h1]
theorem LK.add (K : LK E L) (hn : E sl = none) (hne : u ≠ v) : LK (upE E sl (some (u, v, lv))) (addL L sl u v lv) := by
  have old : ∀ w j x, x ∈ L w j → ∃ u' w', upE E sl (some (u, v, lv)) (slt x) = some (u', w', j) ∧ (x = 2 * slt x + 0 + 1 ∧ w = u' ∨ x = 2 * slt x + 1 + 1 ∧ w = w') := fun w j x hx => by
    obtain ⟨u', w', e1, e2⟩ := K.lk w j x hx
    exact ⟨u', w', by rw [upE_else (fun q => by rw [q, hn] at e1; cases e1)]; exact e1, e2⟩
  have mono : ∀ w j x, x ∈ L w j → x ∈ addL L sl u v lv w j := fun w j x hx => by
    by_cases h1 : w = u ∧ j = lv
    · rw [h1.1, h1.2, add_u hne, ← h1.1, ← h1.2]; exact List.mem_cons_of_mem _ hx
    · by_cases h2 : w = v ∧ j = lv
      · rw [h2.1, h2.2, add_v, ← h2.1, ← h2.2]; exact List.mem_cons_of_mem _ hx
      · rw [add_else h1 h2]; exact hx
  refine ⟨fun w j x hx => ?_, fun t u' w' j ht => ?_⟩
  · by_cases h1 : w = u ∧ j = lv
    · rw [h1.1, h1.2, add_u hne] at hx
      rcases List.mem_cons.1 hx with rfl | hx
      · rw [slt0]; exact ⟨u, v, by rw [upE_same, h1.2], .inl ⟨rfl, h1.1⟩⟩
      · rw [h1.1, h1.2]; exact old _ _ _ hx
    · by_cases h2 : w = v ∧ j = lv
      · rw [h2.1, h2.2, add_v] at hx
        rcases List.mem_cons.1 hx with rfl | hx
        · rw [slt1]; exact ⟨u, v, by rw [upE_same, h2.2], .inr ⟨rfl, h2.1⟩⟩
        · rw [h2.1, h2.2]; exact old _ _ _ hx
      · rw [add_else h1 h2] at hx; exact old _ _ _ hx
  · by_cases e : t = sl
    · subst e
      rw [upE_same] at ht
      cases ht
      exact ⟨by rw [add_u hne]; simp, by rw [add_v]; simp⟩
    · rw [upE_else e] at ht
      obtain ⟨q1, q2⟩ := K.kl _ _ _ _ ht
      exact ⟨mono _ _ _ q1, mono _ _ _ q2⟩
theorem LK.rem (K : LK E L) (hs : E sl = some (u, v, lv)) (hne : u ≠ v) : LK (upE E sl none) (remL L sl u v lv) := by
  have sub : ∀ w j x, x ∈ remL L sl u v lv w j → x ∈ L w j ∧ slt x ≠ sl := fun w j x hx => by
    by_cases h1 : w = u ∧ j = lv
    · rw [h1.1, h1.2, rem_u hne, rm_mem] at hx
      rw [h1.1, h1.2]
      exact ⟨hx.1, fun q => hx.2 (((K.one hs hne).1 x hx.1).1 q)⟩
    · by_cases h2 : w = v ∧ j = lv
      · rw [h2.1, h2.2, rem_v, rm_mem] at hx
        rw [h2.1, h2.2]
        exact ⟨hx.1, fun q => hx.2 (((K.one hs hne).2 x hx.1).1 q)⟩
      · rw [rem_else h1 h2] at hx
        refine ⟨hx, fun q => ?_⟩
        obtain ⟨u', w', e1, e2⟩ := K.lk _ _ _ hx
        rw [q, hs] at e1
        cases e1
        rcases e2 with ⟨_, q⟩ | ⟨_, q⟩
        · exact h1 ⟨q, rfl⟩
        · exact h2 ⟨q, rfl⟩
  have mono : ∀ w j x, x ∈ L w j → slt x ≠ sl → x ∈ remL L sl u v lv w j := fun w j x hx hn => by
    by_cases h1 : w = u ∧ j = lv
    · rw [h1.1, h1.2, rem_u hne, rm_mem, ← h1.1, ← h1.2]; exact ⟨hx, fun q => hn (by rw [q]; exact slt0 _)⟩
    · by_cases h2 : w = v ∧ j = lv
      · rw [h2.1, h2.2, rem_v, rm_mem, ← h2.1, ← h2.2]; exact ⟨hx, fun q => hn (by rw [q]; exact slt1 _)⟩
      · rw [rem_else h1 h2]; exact hx
  refine ⟨fun w j x hx => ?_, fun t u' w' j ht => ?_⟩
  · obtain ⟨h1, h2⟩ := sub w j x hx
    obtain ⟨u', w', e1, e2⟩ := K.lk w j x h1
    exact ⟨u', w', by rw [upE_else h2]; exact e1, e2⟩
  · by_cases e : t = sl
    · subst e; rw [upE_same] at ht; cases ht
    · rw [upE_else e] at ht
      obtain ⟨q1, q2⟩ := K.kl _ _ _ _ ht
      exact ⟨mono _ _ _ q1 (by rw [slt0]; exact e), mono _ _ _ q2 (by rw [slt1]; exact e)⟩
/-- The lists' cells are not the edges'. -/
theorem LS.putF (Q : LS V S T f L) (hR : Rt V S T) (hs : 0 ≤ sl ∧ sl < S) (huv : 0 ≤ u ∧ u < v ∧ v < V) : LS V S T (putF V S T f sl u v lv) L := by
  have o := order hR
  have k1 := ox_at' hR hs (i := 1) (by omega)
  have k2 := ox_at' hR hs (i := 2) (by omega)
  have k3 := ex_at' (S := S) (T := T) hR huv.1 huv.2.1 huv.2.2
  refine Q.congr hR (fun y hy => ?_) fun w j hi => ?_
  · have b1 := nx_at (T := T) hy
    have b2 := pv_at (T := T) hy
    have c1 := nx_bd hR hy
    have c2 := pv_bd hR hy
    unfold Go.Det.E.putF
    exact ⟨by rw [upI_else (by omega), upI_else (by omega), upI_else (by omega)], by rw [upI_else (by omega), upI_else (by omega), upI_else (by omega)]⟩
  · have b := hx_bd (S := S) (T := T) hR hi
    unfold Go.Det.E.putF
    rw [upI_else (by omega), upI_else (by omega), upI_else (by omega)]
theorem LS.remF (Q : LS V S T f L) (hR : Rt V S T) (huv : 0 ≤ u ∧ u < v ∧ v < V) : LS V S T (upI f (Ex V S T u v) x) L := by
  have o := order hR
  have k3 := ex_at' (S := S) (T := T) hR huv.1 huv.2.1 huv.2.2
  refine Q.congr hR (fun y hy => ?_) fun w j hi => ?_
  · have c1 := nx_bd hR hy
    have c2 := pv_bd hR hy
    exact ⟨upI_else (by omega), upI_else (by omega)⟩
  · have b := hx_bd (S := S) (T := T) hR hi
    exact upI_else (by omega)
theorem LS.liftF (Q : LS V S T f L) (hR : Rt V S T) (hs : 0 ≤ sl ∧ sl < S) : LS V S T (upI f (Ox S T sl 2) x) L := by
  have o := order hR
  have k2 := ox_at' hR hs (i := 2) (by omega)
  refine Q.congr hR (fun y hy => ?_) fun w j hi => ?_
  · have b1 := nx_at (T := T) hy
    have b2 := pv_at (T := T) hy
    exact ⟨upI_else (by omega), upI_else (by omega)⟩
  · have b := hx_bd (S := S) (T := T) hR hi
    exact upI_else (by omega)
structure HA (V S T : Int) (f : Int → Int) (a b q eb lb : Nat) (s : NS) (mk : Int → Nat) (E : EM) (L : Int → Int → List Int) (ees les : List (MK × Value)) (h : Heap) : Prop where
  hb : HB V S T f a b q eb lb s mk E E L ees les h
  lk : LK E L
/-- What a step leaves, told of edges and lists. -/
def SR (E E' : EM) (L' : Int → Int → List Int) (V K SL U W LV : Int) : Prop :=
  K = 1 → E SL = none → E' SL ≠ none → U ≠ W ∧ (0 ≤ U ∧ U < V) ∧ (0 ≤ W ∧ W < V) ∧ (0 ≤ LV ∧ LV < Lv V) ∧ ∃ r, L' (mn U W) LV = (2 * SL + 0 + 1) :: r
end Go.Det.E

/- The play of 12: a step. -/
namespace Go.Det.E
open Go.Proofs Go.Det Go.Det.U
attribute [local congr] bind_c cond_c
variable {h hh k h' : Heap} {a b n q eb lb : Nat} {V S T x y z u v w i lv sl K SL U W LV : Int} {f f' : Int → Int} {s s' : NS} {mk : Int → Nat} {L L' : Int → Int → List Int} {E Em : EM} {ees les : List (MK × Value)}
abbrev op12 (K SL U W LV : Int) : List Value := [(Value.int .i64 K), (Value.int .i64 SL), (Value.int .i64 U), (Value.int .i64 W), (Value.int .i64 LV)]
theorem o12_at {b : Nat} (hc : k[b]? = some (.own (op12 K SL U W LV))) : rd k b 0 = some ((Value.int .i64 K)) ∧ rd k b 1 = some ((Value.int .i64 SL)) ∧ rd k b 2 = some ((Value.int .i64 U)) ∧ rd k b 3 = some ((Value.int .i64 W)) ∧ rd k b 4 = some ((Value.int .i64 LV)) := by
  refine ⟨?_, ?_, ?_, ?_, ?_⟩ <;> (rw [rd_at hc]; rfl)
def Good12 (V S K SL U W LV : Int) : Prop := U ≠ W ∧ (0 ≤ U ∧ U < V) ∧ (0 ≤ W ∧ W < V) ∧ (0 ≤ SL ∧ SL < S) ∧ (0 ≤ LV ∧ LV < Lv V)
set_option maxHeartbeats 8000000 in
set_option maxRecDepth 100000 in
theorem step12_out (hR : Rt V S T) (H : HB V S T f a b q eb lb s mk E Em L ees les h) (hn : n ≤ eb) (hb : ¬ Good12 V S K SL U W LV) : ∃ g, C ⟨0, n⟩ 10 [(Value.pointer (some ⟨q, 0, none⟩)), (Value.agg #[(Value.int .i64 K), (Value.int .i64 SL), (Value.int .i64 U), (Value.int .i64 W), (Value.int .i64 LV)])] h = some ((Value.tuple #[]), g) ∧ h.length ≤ g.length ∧ ∀ y, y < h.length → g[y]? = h[y]? := by
  have lq := lt_of H.hq
  have sp := H.sp
  have q1 : (h ++ [Blk.own (op12 K SL U W LV)])[q]? = some (.own (qC V S T a eb lb)) := by rw [List.getElem?_append_left lq]; exact H.hq
  have p31 := q3 q1
  have w3 := wrN_new1 (md := ⟨0, n⟩) (h := h) (b0 := Blk.own (op12 K SL U W LV)) (bs := []) (i := 0) (cs := [(Value.int .i64 0), (Value.int .i64 0), (Value.int .i64 0)]) (vs := [(Value.int .i64 V), (Value.int .i64 S), (Value.int .i64 T)]) (Nat.zero_le _) (by show n ≤ _; omega) (Nat.le_refl 3)
  have eL : lay [(Value.int .i64 0), (Value.int .i64 0), (Value.int .i64 0)] 0 [(Value.int .i64 V), (Value.int .i64 S), (Value.int .i64 T)] = [(Value.int .i64 V), (Value.int .i64 S), (Value.int .i64 T)] := rfl
  rw [eL] at w3
  have st3 := fun (hq : Heap) (kk : Heap → Option (Value × Heap)) => st_N ⟨0, n⟩ 3 (h.length + 1) 0 [(Value.int .i64 V), (Value.int .i64 S), (Value.int .i64 T)] hq kk rfl rfl
  generalize hg : h ++ [Blk.own (op12 K SL U W LV), Blk.own [(Value.int .i64 V), (Value.int .i64 S), (Value.int .i64 T)]] = g at w3
  have lg : g.length = h.length + 2 := by rw [← hg]; simp
  have og : ∀ y, y < h.length → g[y]? = h[y]? := fun y hy => by rw [← hg, List.getElem?_append_left hy]
  have cg : g[h.length]? = some (Blk.own (op12 K SL U W LV)) := by rw [← hg, List.getElem?_append_right (Nat.le_refl _)]; simp
  have cl : g[h.length + 1]? = some (Blk.own [(Value.int .i64 V), (Value.int .i64 S), (Value.int .i64 T)]) := by rw [← hg, List.getElem?_append_right (by omega)]; simp
  obtain ⟨z0, z1, z2, z3, z4⟩ := o12_at cg
  have y3 : rdN g (h.length + 1) 0 3 = some [(Value.int .i64 V), (Value.int .i64 S), (Value.int .i64 T)] := by rw [rdN_at cl (Nat.le_refl 3)]; rfl
  have y0 : rd g (h.length + 1) 0 = some ((Value.int .i64 V)) := by rw [rd_at cl]; rfl
  have y1 : rd g (h.length + 1) 1 = some ((Value.int .i64 S)) := by rw [rd_at cl]; rfl
  have lvs' := fun (m : Md) (h : Heap) => levels_s m h hR
  refine ⟨g, ?_, by omega, og⟩
  rw [C, call_eq, F10_eq]
  unfold F10
  by_cases c0 : U = W
  · have e0 : (U == W) = true := by rw [c0]; simp
    simp only [go_sem, Nat.reduceAdd, Nat.reduceLeDiff, Nat.reduceMul, Int.reduceBEq, Int.reduceBNe, Int.reduceLT, Int.reduceLE, Int.reduceGT, okNil, okP_p, p31, st3, w3, z0, z1, z2, z3, z4, y3, y0, y1, lvs', aBin_lss, aBin_geq, e0]
  have e0 : (U == W) = false := by rw [beq_eq_false_iff_ne]; exact c0
  by_cases c1 : U < 0
  · simp only [go_sem, Nat.reduceAdd, Nat.reduceLeDiff, Nat.reduceMul, Int.reduceBEq, Int.reduceBNe, Int.reduceLT, Int.reduceLE, Int.reduceGT, okNil, okP_p, p31, st3, w3, z0, z1, z2, z3, z4, y3, y0, y1, lvs', aBin_lss, aBin_geq, e0, c1]
  by_cases c2 : U ≥ V
  · simp only [go_sem, Nat.reduceAdd, Nat.reduceLeDiff, Nat.reduceMul, Int.reduceBEq, Int.reduceBNe, Int.reduceLT, Int.reduceLE, Int.reduceGT, okNil, okP_p, p31, st3, w3, z0, z1, z2, z3, z4, y3, y0, y1, lvs', aBin_lss, aBin_geq, e0, c1, c2]
  by_cases c3 : W < 0
  · simp only [go_sem, Nat.reduceAdd, Nat.reduceLeDiff, Nat.reduceMul, Int.reduceBEq, Int.reduceBNe, Int.reduceLT, Int.reduceLE, Int.reduceGT, okNil, okP_p, p31, st3, w3, z0, z1, z2, z3, z4, y3, y0, y1, lvs', aBin_lss, aBin_geq, e0, c1, c2, c3]
  by_cases c4 : W ≥ V
  · simp only [go_sem, Nat.reduceAdd, Nat.reduceLeDiff, Nat.reduceMul, Int.reduceBEq, Int.reduceBNe, Int.reduceLT, Int.reduceLE, Int.reduceGT, okNil, okP_p, p31, st3, w3, z0, z1, z2, z3, z4, y3, y0, y1, lvs', aBin_lss, aBin_geq, e0, c1, c2, c3, c4]
  by_cases c5 : SL < 0
  · simp only [go_sem, Nat.reduceAdd, Nat.reduceLeDiff, Nat.reduceMul, Int.reduceBEq, Int.reduceBNe, Int.reduceLT, Int.reduceLE, Int.reduceGT, okNil, okP_p, p31, st3, w3, z0, z1, z2, z3, z4, y3, y0, y1, lvs', aBin_lss, aBin_geq, e0, c1, c2, c3, c4, c5]
  by_cases c6 : SL ≥ S
  · simp only [go_sem, Nat.reduceAdd, Nat.reduceLeDiff, Nat.reduceMul, Int.reduceBEq, Int.reduceBNe, Int.reduceLT, Int.reduceLE, Int.reduceGT, okNil, okP_p, p31, st3, w3, z0, z1, z2, z3, z4, y3, y0, y1, lvs', aBin_lss, aBin_geq, e0, c1, c2, c3, c4, c5, c6]
  by_cases c7 : LV < 0
  · simp only [go_sem, Nat.reduceAdd, Nat.reduceLeDiff, Nat.reduceMul, Int.reduceBEq, Int.reduceBNe, Int.reduceLT, Int.reduceLE, Int.reduceGT, okNil, okP_p, p31, st3, w3, z0, z1, z2, z3, z4, y3, y0, y1, lvs', aBin_lss, aBin_geq, e0, c1, c2, c3, c4, c5, c6, c7]
  by_cases c8 : LV ≥ Lv V
  · simp only [go_sem, Nat.reduceAdd, Nat.reduceLeDiff, Nat.reduceMul, Int.reduceBEq, Int.reduceBNe, Int.reduceLT, Int.reduceLE, Int.reduceGT, okNil, okP_p, p31, st3, w3, z0, z1, z2, z3, z4, y3, y0, y1, lvs', aBin_lss, aBin_geq, e0, c1, c2, c3, c4, c5, c6, c7, c8]
  · exact absurd ⟨c0, ⟨by omega, by omega⟩, ⟨by omega, by omega⟩, ⟨by omega, by omega⟩, ⟨by omega, by omega⟩⟩ hb
set_option maxHeartbeats 8000000 in
set_option maxRecDepth 100000 in
theorem step12_not (hR : Rt V S T) (HAA : HA V S T f a b q eb lb s mk E L ees les h) (hn : n ≤ a ∧ n ≤ eb) (hb : Good12 V S K SL U W LV) (hc : ((K == 1) = false ∨ (E SL).isSome = true) ∧ ((K == 2) = false ∨ (E SL).isSome = false) ∧ ((K == 3) = false ∨ (E SL).isSome = false)) : ∃ f' s' mk' E' L' ees' les' h', C ⟨0, n⟩ 10 [(Value.pointer (some ⟨q, 0, none⟩)), (Value.agg #[(Value.int .i64 K), (Value.int .i64 SL), (Value.int .i64 U), (Value.int .i64 W), (Value.int .i64 LV)])] h = some ((Value.tuple #[]), h') ∧ HA V S T f' a b q eb lb s' mk' E' L' ees' les' h' ∧ Fm a b eb lb h h' ∧ SR E E' L' V K SL U W LV := by
  have H := HAA.hb
  have lq := lt_of H.hq
  have sp := H.sp
  have q1 : (h ++ [Blk.own (op12 K SL U W LV)])[q]? = some (.own (qC V S T a eb lb)) := by rw [List.getElem?_append_left lq]; exact H.hq
  have p31 := q3 q1
  have w3 := wrN_new1 (md := ⟨0, n⟩) (h := h) (b0 := Blk.own (op12 K SL U W LV)) (bs := []) (i := 0) (cs := [(Value.int .i64 0), (Value.int .i64 0), (Value.int .i64 0)]) (vs := [(Value.int .i64 V), (Value.int .i64 S), (Value.int .i64 T)]) (Nat.zero_le _) (by show n ≤ _; omega) (Nat.le_refl 3)
  have eL : lay [(Value.int .i64 0), (Value.int .i64 0), (Value.int .i64 0)] 0 [(Value.int .i64 V), (Value.int .i64 S), (Value.int .i64 T)] = [(Value.int .i64 V), (Value.int .i64 S), (Value.int .i64 T)] := rfl
  rw [eL] at w3
  have st3 := fun (hq : Heap) (kk : Heap → Option (Value × Heap)) => st_N ⟨0, n⟩ 3 (h.length + 1) 0 [(Value.int .i64 V), (Value.int .i64 S), (Value.int .i64 T)] hq kk rfl rfl
  generalize hg : h ++ [Blk.own (op12 K SL U W LV), Blk.own [(Value.int .i64 V), (Value.int .i64 S), (Value.int .i64 T)]] = g at w3
  have lg : g.length = h.length + 2 := by rw [← hg]; simp
  have og : ∀ y, y < h.length → g[y]? = h[y]? := fun y hy => by rw [← hg, List.getElem?_append_left hy]
  have cg : g[h.length]? = some (Blk.own (op12 K SL U W LV)) := by rw [← hg, List.getElem?_append_right (Nat.le_refl _)]; simp
  have cl : g[h.length + 1]? = some (Blk.own [(Value.int .i64 V), (Value.int .i64 S), (Value.int .i64 T)]) := by rw [← hg, List.getElem?_append_right (by omega)]; simp
  obtain ⟨z0, z1, z2, z3, z4⟩ := o12_at cg
  have y3 : rdN g (h.length + 1) 0 3 = some [(Value.int .i64 V), (Value.int .i64 S), (Value.int .i64 T)] := by rw [rdN_at cl (Nat.le_refl 3)]; rfl
  have y0 : rd g (h.length + 1) 0 = some ((Value.int .i64 V)) := by rw [rd_at cl]; rfl
  have y1 : rd g (h.length + 1) 1 = some ((Value.int .i64 S)) := by rw [rd_at cl]; rfl
  have lvs' := fun (m : Md) (h : Heap) => levels_s m h hR
  obtain ⟨c0, ⟨b1, b2⟩, ⟨b3, b4⟩, ⟨b5, b6⟩, ⟨b7, b8⟩⟩ := hb
  have e0 : (U == W) = false := by rw [beq_eq_false_iff_ne]; exact c0
  have c1 : ¬ U < 0 := by omega
  have c2 : ¬ U ≥ V := by omega
  have c3 : ¬ W < 0 := by omega
  have c4 : ¬ W ≥ V := by omega
  have c5 : ¬ SL < 0 := by omega
  have c6 : ¬ SL ≥ S := by omega
  have c7 : ¬ LV < 0 := by omega
  have c8 : ¬ LV ≥ Lv V := by omega
  have he := (og eb (by omega)).trans H.me.at_
  have gt : (mGet ees [SL]).getD ((Value.agg #[(Value.int .i64 0), (Value.int .i64 0), (Value.int .i64 0), (Value.bool false)])) = .agg (List.toArray [(Value.int .i64 (((E SL).getD (0, 0, 0)).1)), (Value.int .i64 (((E SL).getD (0, 0, 0)).2.1)), (Value.int .i64 (((E SL).getD (0, 0, 0)).2.2)), (Value.bool false)]) ∧ (mGet ees [SL]).isSome = (E SL).isSome := by
    rw [H.me.get]
    cases E SL <;> exact ⟨rfl, rfl⟩
  have lkE := fun {α : Type} (kk : Value → Option α) => aLookup_ok (k := kk) tyE zvE (key1 (x := SL)) he
  have he2 : (g ++ [Blk.own [(Value.int .i64 0), (Value.int .i64 0), (Value.int .i64 0), (Value.bool false)]])[eb]? = some (.mp (.one .i64) ees) := by rw [List.getElem?_append_left (by omega)]; exact he
  have lkE2 := fun {α : Type} (kk : Value → Option α) => aLookup_ok (h := g ++ [Blk.own [(Value.int .i64 0), (Value.int .i64 0), (Value.int .i64 0), (Value.bool false)]]) (k := kk) tyE zvE (key1 (x := SL)) he2
  rw [gt.1, gt.2] at lkE lkE2
  have q1g := qEB ((og q lq).trans H.hq)
  have q1g2 : rd (g ++ [Blk.own [(Value.int .i64 0), (Value.int .i64 0), (Value.int .i64 0), (Value.bool false)]]) q 13 = some (.map (some eb)) := qEB (by rw [List.getElem?_append_left (by omega)]; exact (og q lq).trans H.hq)
  have z1' : rd (g ++ [Blk.own [(Value.int .i64 0), (Value.int .i64 0), (Value.int .i64 0), (Value.bool false)]]) h.length 1 = some ((Value.int .i64 SL)) := (o12_at (by rw [List.getElem?_append_left (by omega)]; exact cg)).2.1
  have w4 : wrN ⟨0, n⟩ (g ++ [Blk.own [(Value.int .i64 0), (Value.int .i64 0), (Value.int .i64 0), (Value.bool false)]]) g.length 0 [(Value.int .i64 (((E SL).getD (0, 0, 0)).1)), (Value.int .i64 (((E SL).getD (0, 0, 0)).2.1)), (Value.int .i64 (((E SL).getD (0, 0, 0)).2.2)), (Value.bool false)] = some (g ++ [Blk.own [(Value.int .i64 (((E SL).getD (0, 0, 0)).1)), (Value.int .i64 (((E SL).getD (0, 0, 0)).2.1)), (Value.int .i64 (((E SL).getD (0, 0, 0)).2.2)), (Value.bool false)]]) := wrN_new0 (bs := []) (Nat.zero_le _) (by show n ≤ _; omega) (by simp)
  have st4 := fun {α : Type} (hq : Heap) (kk : Heap → Option α) => st_N ⟨0, n⟩ 4 g.length 0 [(Value.int .i64 (((E SL).getD (0, 0, 0)).1)), (Value.int .i64 (((E SL).getD (0, 0, 0)).2.1)), (Value.int .i64 (((E SL).getD (0, 0, 0)).2.2)), (Value.bool false)] hq kk rfl rfl
  generalize hk : g ++ [Blk.own [(Value.int .i64 (((E SL).getD (0, 0, 0)).1)), (Value.int .i64 (((E SL).getD (0, 0, 0)).2.1)), (Value.int .i64 (((E SL).getD (0, 0, 0)).2.2)), (Value.bool false)]] = k at w4
  have lk : k.length = h.length + 3 := by rw [← hk]; simp; omega
  have okg : ∀ y, y < g.length → k[y]? = g[y]? := fun y hy => by rw [← hk, List.getElem?_append_left hy]
  have ok : ∀ y, y < h.length → k[y]? = h[y]? := fun y hy => (okg y (by omega)).trans (og y hy)
  have ck : k[g.length]? = some (Blk.own [(Value.int .i64 (((E SL).getD (0, 0, 0)).1)), (Value.int .i64 (((E SL).getD (0, 0, 0)).2.1)), (Value.int .i64 (((E SL).getD (0, 0, 0)).2.2)), (Value.bool false)]) := by rw [← hk]; exact List.getElem?_concat_length ..
  have cgk : k[h.length]? = some (Blk.own (op12 K SL U W LV)) := (okg _ (by omega)).trans cg
  obtain ⟨x0, x1, x2, x3, x4⟩ := o12_at cgk
  have Hk := H.fm ok
  have fmk : Fm a b eb lb h k := ⟨by omega, fun y hy _ _ _ _ => ok y hy⟩
  refine ⟨f, s, mk, E, L, ees, les, k, ?_, ⟨Hk, HAA.lk⟩, fmk, fun k1 hn hs => absurd hn hs⟩
  rw [C, call_eq, F10_eq]
  unfold F10
  obtain ⟨k1, k2, k3⟩ := hc
  have n1 : (!true) = false := rfl
  have n2 : (!false) = true := rfl
  cases hE : (E SL).isSome
  · rw [hE] at k1
    have k1' := k1.resolve_right (by decide)
    cases hk2 : K == 2 <;> cases hk3 : K == 3 <;> simp only [go_sem, Nat.reduceAdd, Nat.reduceLeDiff, Nat.reduceMul, Int.reduceBEq, Int.reduceBNe, Int.reduceLT, Int.reduceLE, Int.reduceGT, okNil, okP_p, p31, st3, w3, z0, z1, z2, z3, z4, y3, y0, y1, lvs', aBin_lss, aBin_geq, e0, c1, c2, c3, c4, c5, c6, c7, c8, q1g, lkE, q1g2, lkE2, z1', st4, w4, x0, hE, aUn_not, n1, n2, k1', hk2, hk3]
  · rw [hE] at k2 k3
    have k2' := k2.resolve_right (by decide)
    have k3' := k3.resolve_right (by decide)
    cases hk1 : K == 1 <;> simp only [go_sem, Nat.reduceAdd, Nat.reduceLeDiff, Nat.reduceMul, Int.reduceBEq, Int.reduceBNe, Int.reduceLT, Int.reduceLE, Int.reduceGT, okNil, okP_p, p31, st3, w3, z0, z1, z2, z3, z4, y3, y0, y1, lvs', aBin_lss, aBin_geq, e0, c1, c2, c3, c4, c5, c6, c7, c8, q1g, lkE, q1g2, lkE2, z1', st4, w4, x0, hE, aUn_not, n1, n2, hk1, k2', k3']
set_option maxHeartbeats 8000000 in
set_option maxRecDepth 100000 in
theorem step12_put (hR : Rt V S T) (HAA : HA V S T f a b q eb lb s mk E L ees les h) (hn : n ≤ a ∧ n ≤ eb) (hb : Good12 V S K SL U W LV) (hK : K = 1) (hE : E SL = none) : ∃ f' s' mk' E' L' ees' les' h', C ⟨0, n⟩ 10 [(Value.pointer (some ⟨q, 0, none⟩)), (Value.agg #[(Value.int .i64 K), (Value.int .i64 SL), (Value.int .i64 U), (Value.int .i64 W), (Value.int .i64 LV)])] h = some ((Value.tuple #[]), h') ∧ HA V S T f' a b q eb lb s' mk' E' L' ees' les' h' ∧ Fm a b eb lb h h' ∧ SR E E' L' V K SL U W LV := by
  have H := HAA.hb
  have lq := lt_of H.hq
  have sp := H.sp
  have q1 : (h ++ [Blk.own (op12 K SL U W LV)])[q]? = some (.own (qC V S T a eb lb)) := by rw [List.getElem?_append_left lq]; exact H.hq
  have p31 := q3 q1
  have w3 := wrN_new1 (md := ⟨0, n⟩) (h := h) (b0 := Blk.own (op12 K SL U W LV)) (bs := []) (i := 0) (cs := [(Value.int .i64 0), (Value.int .i64 0), (Value.int .i64 0)]) (vs := [(Value.int .i64 V), (Value.int .i64 S), (Value.int .i64 T)]) (Nat.zero_le _) (by show n ≤ _; omega) (Nat.le_refl 3)
  have eL : lay [(Value.int .i64 0), (Value.int .i64 0), (Value.int .i64 0)] 0 [(Value.int .i64 V), (Value.int .i64 S), (Value.int .i64 T)] = [(Value.int .i64 V), (Value.int .i64 S), (Value.int .i64 T)] := rfl
  rw [eL] at w3
  have st3 := fun (hq : Heap) (kk : Heap → Option (Value × Heap)) => st_N ⟨0, n⟩ 3 (h.length + 1) 0 [(Value.int .i64 V), (Value.int .i64 S), (Value.int .i64 T)] hq kk rfl rfl
  generalize hg : h ++ [Blk.own (op12 K SL U W LV), Blk.own [(Value.int .i64 V), (Value.int .i64 S), (Value.int .i64 T)]] = g at w3
  have lg : g.length = h.length + 2 := by rw [← hg]; simp
  have og : ∀ y, y < h.length → g[y]? = h[y]? := fun y hy => by rw [← hg, List.getElem?_append_left hy]
  have cg : g[h.length]? = some (Blk.own (op12 K SL U W LV)) := by rw [← hg, List.getElem?_append_right (Nat.le_refl _)]; simp
  have cl : g[h.length + 1]? = some (Blk.own [(Value.int .i64 V), (Value.int .i64 S), (Value.int .i64 T)]) := by rw [← hg, List.getElem?_append_right (by omega)]; simp
  obtain ⟨z0, z1, z2, z3, z4⟩ := o12_at cg
  have y3 : rdN g (h.length + 1) 0 3 = some [(Value.int .i64 V), (Value.int .i64 S), (Value.int .i64 T)] := by rw [rdN_at cl (Nat.le_refl 3)]; rfl
  have y0 : rd g (h.length + 1) 0 = some ((Value.int .i64 V)) := by rw [rd_at cl]; rfl
  have y1 : rd g (h.length + 1) 1 = some ((Value.int .i64 S)) := by rw [rd_at cl]; rfl
  have lvs' := fun (m : Md) (h : Heap) => levels_s m h hR
  obtain ⟨c0, ⟨b1, b2⟩, ⟨b3, b4⟩, ⟨b5, b6⟩, ⟨b7, b8⟩⟩ := hb
  have e0 : (U == W) = false := by rw [beq_eq_false_iff_ne]; exact c0
  have c1 : ¬ U < 0 := by omega
  have c2 : ¬ U ≥ V := by omega
  have c3 : ¬ W < 0 := by omega
  have c4 : ¬ W ≥ V := by omega
  have c5 : ¬ SL < 0 := by omega
  have c6 : ¬ SL ≥ S := by omega
  have c7 : ¬ LV < 0 := by omega
  have c8 : ¬ LV ≥ Lv V := by omega
  have he := (og eb (by omega)).trans H.me.at_
  have gt : (mGet ees [SL]).getD ((Value.agg #[(Value.int .i64 0), (Value.int .i64 0), (Value.int .i64 0), (Value.bool false)])) = .agg (List.toArray [(Value.int .i64 (((E SL).getD (0, 0, 0)).1)), (Value.int .i64 (((E SL).getD (0, 0, 0)).2.1)), (Value.int .i64 (((E SL).getD (0, 0, 0)).2.2)), (Value.bool false)]) ∧ (mGet ees [SL]).isSome = (E SL).isSome := by
    rw [H.me.get]
    cases E SL <;> exact ⟨rfl, rfl⟩
  have lkE := fun {α : Type} (kk : Value → Option α) => aLookup_ok (k := kk) tyE zvE (key1 (x := SL)) he
  have he2 : (g ++ [Blk.own [(Value.int .i64 0), (Value.int .i64 0), (Value.int .i64 0), (Value.bool false)]])[eb]? = some (.mp (.one .i64) ees) := by rw [List.getElem?_append_left (by omega)]; exact he
  have lkE2 := fun {α : Type} (kk : Value → Option α) => aLookup_ok (h := g ++ [Blk.own [(Value.int .i64 0), (Value.int .i64 0), (Value.int .i64 0), (Value.bool false)]]) (k := kk) tyE zvE (key1 (x := SL)) he2
  rw [gt.1, gt.2] at lkE lkE2
  have q1g := qEB ((og q lq).trans H.hq)
  have q1g2 : rd (g ++ [Blk.own [(Value.int .i64 0), (Value.int .i64 0), (Value.int .i64 0), (Value.bool false)]]) q 13 = some (.map (some eb)) := qEB (by rw [List.getElem?_append_left (by omega)]; exact (og q lq).trans H.hq)
  have z1' : rd (g ++ [Blk.own [(Value.int .i64 0), (Value.int .i64 0), (Value.int .i64 0), (Value.bool false)]]) h.length 1 = some ((Value.int .i64 SL)) := (o12_at (by rw [List.getElem?_append_left (by omega)]; exact cg)).2.1
  have w4 : wrN ⟨0, n⟩ (g ++ [Blk.own [(Value.int .i64 0), (Value.int .i64 0), (Value.int .i64 0), (Value.bool false)]]) g.length 0 [(Value.int .i64 (((E SL).getD (0, 0, 0)).1)), (Value.int .i64 (((E SL).getD (0, 0, 0)).2.1)), (Value.int .i64 (((E SL).getD (0, 0, 0)).2.2)), (Value.bool false)] = some (g ++ [Blk.own [(Value.int .i64 (((E SL).getD (0, 0, 0)).1)), (Value.int .i64 (((E SL).getD (0, 0, 0)).2.1)), (Value.int .i64 (((E SL).getD (0, 0, 0)).2.2)), (Value.bool false)]]) := wrN_new0 (bs := []) (Nat.zero_le _) (by show n ≤ _; omega) (by simp)
  have st4 := fun {α : Type} (hq : Heap) (kk : Heap → Option α) => st_N ⟨0, n⟩ 4 g.length 0 [(Value.int .i64 (((E SL).getD (0, 0, 0)).1)), (Value.int .i64 (((E SL).getD (0, 0, 0)).2.1)), (Value.int .i64 (((E SL).getD (0, 0, 0)).2.2)), (Value.bool false)] hq kk rfl rfl
  generalize hk : g ++ [Blk.own [(Value.int .i64 (((E SL).getD (0, 0, 0)).1)), (Value.int .i64 (((E SL).getD (0, 0, 0)).2.1)), (Value.int .i64 (((E SL).getD (0, 0, 0)).2.2)), (Value.bool false)]] = k at w4
  have lk : k.length = h.length + 3 := by rw [← hk]; simp; omega
  have okg : ∀ y, y < g.length → k[y]? = g[y]? := fun y hy => by rw [← hk, List.getElem?_append_left hy]
  have ok : ∀ y, y < h.length → k[y]? = h[y]? := fun y hy => (okg y (by omega)).trans (og y hy)
  have ck : k[g.length]? = some (Blk.own [(Value.int .i64 (((E SL).getD (0, 0, 0)).1)), (Value.int .i64 (((E SL).getD (0, 0, 0)).2.1)), (Value.int .i64 (((E SL).getD (0, 0, 0)).2.2)), (Value.bool false)]) := by rw [← hk]; exact List.getElem?_concat_length ..
  have cgk : k[h.length]? = some (Blk.own (op12 K SL U W LV)) := (okg _ (by omega)).trans cg
  obtain ⟨x0, x1, x2, x3, x4⟩ := o12_at cgk
  have Hk := H.fm ok
  have fmk : Fm a b eb lb h k := ⟨by omega, fun y hy _ _ _ _ => ok y hy⟩
  have k1 : (K == 1) = true := by rw [hK]; rfl
  have hE' : (E SL).isSome = false := by rw [hE]; rfl
  have n2 : (!false) = true := rfl
  have qk := q4 Hk.hq
  obtain ⟨k1h, qf, okf, e1, hokf, A1, o1⟩ := aFind (md := ⟨0, n⟩) hR Hk.th Hk.ee (Nat.zero_le _) (u := U) (v := W) ⟨b1, b2⟩ ⟨b3, b4⟩ c0
  have H1 := Hk.mem A1 Hk.ee Hk.ls o1
  cases okf with
  | true =>
    refine ⟨f, s, mk, E, L, ees, les, k1h, ?_, ⟨H1, HAA.lk⟩, fmk.trans (.only o1), fun k1 hn hs => absurd hn hs⟩
    rw [C, call_eq, F10_eq]
    unfold F10
    simp only [go_sem, Nat.reduceAdd, Nat.reduceLeDiff, Nat.reduceMul, Int.reduceBEq, Int.reduceBNe, Int.reduceLT, Int.reduceLE, Int.reduceGT, okNil, okP_p, p31, st3, w3, z0, z1, z2, z3, z4, y3, y0, y1, lvs', aBin_lss, aBin_geq, e0, c1, c2, c3, c4, c5, c6, c7, c8, q1g, lkE, q1g2, lkE2, z1', st4, w4, x0, hE', aUn_not, n2, k1, qk, x2, x3, e1]
  | false =>
    have nop : ∀ s lv, E s ≠ some (mn U W, mx U W, lv) := fun s lv e => absurd (hokf.2 ⟨s, lv, e⟩) (by decide)
    have ml := mm_le' c0
    have mc := mm_cases' U W
    have qk1 := q4 H1.hq
    have cg1 : k1h[h.length]? = some (Blk.own (op12 K SL U W LV)) := (o1.oth _ (by omega) (by omega)).trans cgk
    obtain ⟨t0, t1, t2, t3, t4⟩ := o12_at cg1
    obtain ⟨k2h, e2, A2, o2⟩ := aPut (md := ⟨0, n⟩) hR H1.th (Nat.zero_le _) (Nat.zero_le _) (sl := SL) ⟨b5, b6⟩ (u := U) (v := W) ⟨b1, b2⟩ ⟨b3, b4⟩ c0 (lv := LV) ⟨b7, b8⟩
    have huv : 0 ≤ mn U W ∧ mn U W < mx U W ∧ mx U W < V := by omega
    have Q2 := H1.ee.put hR (sl := SL) ⟨b5, b6⟩ huv (lv := LV) ⟨b7, b8⟩ hE nop
    have H2 := H1.mem A2 Q2 (H1.ls.putF hR ⟨b5, b6⟩ huv) o2
    have cg2 : k2h[h.length]? = some (Blk.own (op12 K SL U W LV)) := (o2.oth _ (by omega) (by omega)).trans cg1
    obtain ⟨r0, r1, r2, r3, r4⟩ := o12_at cg2
    obtain ⟨f', s', mk', ees', les', h', e3, H3, fm3⟩ := add_s (n := n) hR H2 hn (upE_same _ _ _) (HAA.lk.free hE)
    refine ⟨f', s', mk', _, _, ees', les', h', ?_, ⟨H3, HAA.lk.add hE (by omega)⟩, ((fmk.trans (.only o1)).trans (.only o2)).trans fm3, fun _ _ _ => ⟨c0, ⟨b1, b2⟩, ⟨b3, b4⟩, ⟨b7, b8⟩, _, add_u (by omega)⟩⟩
    have em : (if W < U then W else U) = mn U W := rfl
    have ex : (if W > U then W else U) = mx U W := rfl
    rw [C, call_eq, F10_eq]
    unfold F10
    simp only [go_sem, Nat.reduceAdd, Nat.reduceLeDiff, Nat.reduceMul, Int.reduceBEq, Int.reduceBNe, Int.reduceLT, Int.reduceLE, Int.reduceGT, okNil, okP_p, p31, st3, w3, z0, z1, z2, z3, z4, y3, y0, y1, lvs', aBin_lss, aBin_geq, e0, c1, c2, c3, c4, c5, c6, c7, c8, q1g, lkE, q1g2, lkE2, z1', st4, w4, x0, hE', aUn_not, n2, k1, qk, x2, x3, e1, qk1, t1, t2, t3, t4, e2, r1, r2, r3, r4, em, ex, e3]
set_option maxHeartbeats 8000000 in
set_option maxRecDepth 100000 in
theorem step12_rem (hR : Rt V S T) (HAA : HA V S T f a b q eb lb s mk E L ees les h) (hn : n ≤ a ∧ n ≤ eb) (hb : Good12 V S K SL U W LV) (hK : K = 2) (hE : E SL = some (u, v, lv)) : ∃ f' s' mk' E' L' ees' les' h', C ⟨0, n⟩ 10 [(Value.pointer (some ⟨q, 0, none⟩)), (Value.agg #[(Value.int .i64 K), (Value.int .i64 SL), (Value.int .i64 U), (Value.int .i64 W), (Value.int .i64 LV)])] h = some ((Value.tuple #[]), h') ∧ HA V S T f' a b q eb lb s' mk' E' L' ees' les' h' ∧ Fm a b eb lb h h' ∧ SR E E' L' V K SL U W LV := by
  have H := HAA.hb
  have lq := lt_of H.hq
  have sp := H.sp
  have q1 : (h ++ [Blk.own (op12 K SL U W LV)])[q]? = some (.own (qC V S T a eb lb)) := by rw [List.getElem?_append_left lq]; exact H.hq
  have p31 := q3 q1
  have w3 := wrN_new1 (md := ⟨0, n⟩) (h := h) (b0 := Blk.own (op12 K SL U W LV)) (bs := []) (i := 0) (cs := [(Value.int .i64 0), (Value.int .i64 0), (Value.int .i64 0)]) (vs := [(Value.int .i64 V), (Value.int .i64 S), (Value.int .i64 T)]) (Nat.zero_le _) (by show n ≤ _; omega) (Nat.le_refl 3)
  have eL : lay [(Value.int .i64 0), (Value.int .i64 0), (Value.int .i64 0)] 0 [(Value.int .i64 V), (Value.int .i64 S), (Value.int .i64 T)] = [(Value.int .i64 V), (Value.int .i64 S), (Value.int .i64 T)] := rfl
  rw [eL] at w3
  have st3 := fun (hq : Heap) (kk : Heap → Option (Value × Heap)) => st_N ⟨0, n⟩ 3 (h.length + 1) 0 [(Value.int .i64 V), (Value.int .i64 S), (Value.int .i64 T)] hq kk rfl rfl
  generalize hg : h ++ [Blk.own (op12 K SL U W LV), Blk.own [(Value.int .i64 V), (Value.int .i64 S), (Value.int .i64 T)]] = g at w3
  have lg : g.length = h.length + 2 := by rw [← hg]; simp
  have og : ∀ y, y < h.length → g[y]? = h[y]? := fun y hy => by rw [← hg, List.getElem?_append_left hy]
  have cg : g[h.length]? = some (Blk.own (op12 K SL U W LV)) := by rw [← hg, List.getElem?_append_right (Nat.le_refl _)]; simp
  have cl : g[h.length + 1]? = some (Blk.own [(Value.int .i64 V), (Value.int .i64 S), (Value.int .i64 T)]) := by rw [← hg, List.getElem?_append_right (by omega)]; simp
  obtain ⟨z0, z1, z2, z3, z4⟩ := o12_at cg
  have y3 : rdN g (h.length + 1) 0 3 = some [(Value.int .i64 V), (Value.int .i64 S), (Value.int .i64 T)] := by rw [rdN_at cl (Nat.le_refl 3)]; rfl
  have y0 : rd g (h.length + 1) 0 = some ((Value.int .i64 V)) := by rw [rd_at cl]; rfl
  have y1 : rd g (h.length + 1) 1 = some ((Value.int .i64 S)) := by rw [rd_at cl]; rfl
  have lvs' := fun (m : Md) (h : Heap) => levels_s m h hR
  obtain ⟨c0, ⟨b1, b2⟩, ⟨b3, b4⟩, ⟨b5, b6⟩, ⟨b7, b8⟩⟩ := hb
  have e0 : (U == W) = false := by rw [beq_eq_false_iff_ne]; exact c0
  have c1 : ¬ U < 0 := by omega
  have c2 : ¬ U ≥ V := by omega
  have c3 : ¬ W < 0 := by omega
  have c4 : ¬ W ≥ V := by omega
  have c5 : ¬ SL < 0 := by omega
  have c6 : ¬ SL ≥ S := by omega
  have c7 : ¬ LV < 0 := by omega
  have c8 : ¬ LV ≥ Lv V := by omega
  have he := (og eb (by omega)).trans H.me.at_
  have gt : (mGet ees [SL]).getD ((Value.agg #[(Value.int .i64 0), (Value.int .i64 0), (Value.int .i64 0), (Value.bool false)])) = .agg (List.toArray [(Value.int .i64 (((E SL).getD (0, 0, 0)).1)), (Value.int .i64 (((E SL).getD (0, 0, 0)).2.1)), (Value.int .i64 (((E SL).getD (0, 0, 0)).2.2)), (Value.bool false)]) ∧ (mGet ees [SL]).isSome = (E SL).isSome := by
    rw [H.me.get]
    cases E SL <;> exact ⟨rfl, rfl⟩
  have lkE := fun {α : Type} (kk : Value → Option α) => aLookup_ok (k := kk) tyE zvE (key1 (x := SL)) he
  have he2 : (g ++ [Blk.own [(Value.int .i64 0), (Value.int .i64 0), (Value.int .i64 0), (Value.bool false)]])[eb]? = some (.mp (.one .i64) ees) := by rw [List.getElem?_append_left (by omega)]; exact he
  have lkE2 := fun {α : Type} (kk : Value → Option α) => aLookup_ok (h := g ++ [Blk.own [(Value.int .i64 0), (Value.int .i64 0), (Value.int .i64 0), (Value.bool false)]]) (k := kk) tyE zvE (key1 (x := SL)) he2
  rw [gt.1, gt.2] at lkE lkE2
  have q1g := qEB ((og q lq).trans H.hq)
  have q1g2 : rd (g ++ [Blk.own [(Value.int .i64 0), (Value.int .i64 0), (Value.int .i64 0), (Value.bool false)]]) q 13 = some (.map (some eb)) := qEB (by rw [List.getElem?_append_left (by omega)]; exact (og q lq).trans H.hq)
  have z1' : rd (g ++ [Blk.own [(Value.int .i64 0), (Value.int .i64 0), (Value.int .i64 0), (Value.bool false)]]) h.length 1 = some ((Value.int .i64 SL)) := (o12_at (by rw [List.getElem?_append_left (by omega)]; exact cg)).2.1
  have w4 : wrN ⟨0, n⟩ (g ++ [Blk.own [(Value.int .i64 0), (Value.int .i64 0), (Value.int .i64 0), (Value.bool false)]]) g.length 0 [(Value.int .i64 (((E SL).getD (0, 0, 0)).1)), (Value.int .i64 (((E SL).getD (0, 0, 0)).2.1)), (Value.int .i64 (((E SL).getD (0, 0, 0)).2.2)), (Value.bool false)] = some (g ++ [Blk.own [(Value.int .i64 (((E SL).getD (0, 0, 0)).1)), (Value.int .i64 (((E SL).getD (0, 0, 0)).2.1)), (Value.int .i64 (((E SL).getD (0, 0, 0)).2.2)), (Value.bool false)]]) := wrN_new0 (bs := []) (Nat.zero_le _) (by show n ≤ _; omega) (by simp)
  have st4 := fun {α : Type} (hq : Heap) (kk : Heap → Option α) => st_N ⟨0, n⟩ 4 g.length 0 [(Value.int .i64 (((E SL).getD (0, 0, 0)).1)), (Value.int .i64 (((E SL).getD (0, 0, 0)).2.1)), (Value.int .i64 (((E SL).getD (0, 0, 0)).2.2)), (Value.bool false)] hq kk rfl rfl
  generalize hk : g ++ [Blk.own [(Value.int .i64 (((E SL).getD (0, 0, 0)).1)), (Value.int .i64 (((E SL).getD (0, 0, 0)).2.1)), (Value.int .i64 (((E SL).getD (0, 0, 0)).2.2)), (Value.bool false)]] = k at w4
  have lk : k.length = h.length + 3 := by rw [← hk]; simp; omega
  have okg : ∀ y, y < g.length → k[y]? = g[y]? := fun y hy => by rw [← hk, List.getElem?_append_left hy]
  have ok : ∀ y, y < h.length → k[y]? = h[y]? := fun y hy => (okg y (by omega)).trans (og y hy)
  have ck : k[g.length]? = some (Blk.own [(Value.int .i64 (((E SL).getD (0, 0, 0)).1)), (Value.int .i64 (((E SL).getD (0, 0, 0)).2.1)), (Value.int .i64 (((E SL).getD (0, 0, 0)).2.2)), (Value.bool false)]) := by rw [← hk]; exact List.getElem?_concat_length ..
  have cgk : k[h.length]? = some (Blk.own (op12 K SL U W LV)) := (okg _ (by omega)).trans cg
  obtain ⟨x0, x1, x2, x3, x4⟩ := o12_at cgk
  have Hk := H.fm ok
  have fmk : Fm a b eb lb h k := ⟨by omega, fun y hy _ _ _ _ => ok y hy⟩
  have xx : (E SL).getD (0, 0, 0) = (u, v, lv) := by rw [hE]; rfl
  rw [xx] at ck
  obtain ⟨g1, g2, g3, g4, g5, g6⟩ := H.ee.ed _ _ _ _ hE
  have i12 := HAA.lk.kl _ _ _ _ hE
  have on := HAA.lk.one hE (by omega)
  obtain ⟨f1, s1, mk1, ees1, les1, k1h, e1, H1, fm1, nw1⟩ := remove_s (n := n) hR Hk hn hE hE i12.1 i12.2 on.1 on.2
  have K1 := HAA.lk.rem hE (by omega)
  have qk1 := q4 H1.hq
  have cg1 : k1h[h.length]? = some (Blk.own (op12 K SL U W LV)) := (fm1.old _ (by omega) (by omega) (by omega) (by omega) (by omega)).trans cgk
  obtain ⟨t0, t1, t2, t3, t4⟩ := o12_at cg1
  have ck1 : k1h[g.length]? = some (Blk.own [(Value.int .i64 u), (Value.int .i64 v), (Value.int .i64 lv), (Value.bool false)]) := (fm1.old _ (by omega) (by omega) (by omega) (by omega) (by omega)).trans ck
  have hE' : (E SL).isSome = true := by rw [hE]; rfl
  have n1 : (!true) = false := rfl
  have k1 : (K == 1) = false := by rw [hK]; rfl
  have k2 : (K == 2) = true := by rw [hK]; rfl
  have p0 : rd k1h g.length 0 = some ((Value.int .i64 u)) := by rw [rd_at ck1]; rfl
  have p1 : rd k1h g.length 1 = some ((Value.int .i64 v)) := by rw [rd_at ck1]; rfl
  obtain ⟨k2h, e2, A2, o2⟩ := aRem (md := ⟨0, n⟩) hR H1.th (Nat.zero_le _) (Nat.zero_le _) g2
  have H2 := H1.mem A2 (H1.ee.rem hR hE) (H1.ls.remF hR g2) o2
  refine ⟨_, s1, mk1, _, _, ees1, les1, k2h, ?_, ⟨H2, K1⟩, (fmk.trans fm1).trans (.only o2), fun k1 => by omega⟩
  rw [C, call_eq, F10_eq]
  unfold F10
  simp only [go_sem, Nat.reduceAdd, Nat.reduceLeDiff, Nat.reduceMul, Int.reduceBEq, Int.reduceBNe, Int.reduceLT, Int.reduceLE, Int.reduceGT, okNil, okP_p, p31, st3, w3, z0, z1, z2, z3, z4, y3, y0, y1, lvs', aBin_lss, aBin_geq, e0, c1, c2, c3, c4, c5, c6, c7, c8, q1g, lkE, q1g2, lkE2, z1', st4, w4, x0, hE', aUn_not, n1, k1, k2, x1, e1, qk1, p0, p1, e2]
set_option maxHeartbeats 8000000 in
set_option maxRecDepth 100000 in
theorem step12_lift (hR : Rt V S T) (HAA : HA V S T f a b q eb lb s mk E L ees les h) (hn : n ≤ a ∧ n ≤ eb) (hb : Good12 V S K SL U W LV) (hK : K = 3) (hE : E SL = some (u, v, lv)) : ∃ f' s' mk' E' L' ees' les' h', C ⟨0, n⟩ 10 [(Value.pointer (some ⟨q, 0, none⟩)), (Value.agg #[(Value.int .i64 K), (Value.int .i64 SL), (Value.int .i64 U), (Value.int .i64 W), (Value.int .i64 LV)])] h = some ((Value.tuple #[]), h') ∧ HA V S T f' a b q eb lb s' mk' E' L' ees' les' h' ∧ Fm a b eb lb h h' ∧ SR E E' L' V K SL U W LV := by
  have H := HAA.hb
  have lq := lt_of H.hq
  have sp := H.sp
  have q1 : (h ++ [Blk.own (op12 K SL U W LV)])[q]? = some (.own (qC V S T a eb lb)) := by rw [List.getElem?_append_left lq]; exact H.hq
  have p31 := q3 q1
  have w3 := wrN_new1 (md := ⟨0, n⟩) (h := h) (b0 := Blk.own (op12 K SL U W LV)) (bs := []) (i := 0) (cs := [(Value.int .i64 0), (Value.int .i64 0), (Value.int .i64 0)]) (vs := [(Value.int .i64 V), (Value.int .i64 S), (Value.int .i64 T)]) (Nat.zero_le _) (by show n ≤ _; omega) (Nat.le_refl 3)
  have eL : lay [(Value.int .i64 0), (Value.int .i64 0), (Value.int .i64 0)] 0 [(Value.int .i64 V), (Value.int .i64 S), (Value.int .i64 T)] = [(Value.int .i64 V), (Value.int .i64 S), (Value.int .i64 T)] := rfl
  rw [eL] at w3
  have st3 := fun (hq : Heap) (kk : Heap → Option (Value × Heap)) => st_N ⟨0, n⟩ 3 (h.length + 1) 0 [(Value.int .i64 V), (Value.int .i64 S), (Value.int .i64 T)] hq kk rfl rfl
  generalize hg : h ++ [Blk.own (op12 K SL U W LV), Blk.own [(Value.int .i64 V), (Value.int .i64 S), (Value.int .i64 T)]] = g at w3
  have lg : g.length = h.length + 2 := by rw [← hg]; simp
  have og : ∀ y, y < h.length → g[y]? = h[y]? := fun y hy => by rw [← hg, List.getElem?_append_left hy]
  have cg : g[h.length]? = some (Blk.own (op12 K SL U W LV)) := by rw [← hg, List.getElem?_append_right (Nat.le_refl _)]; simp
  have cl : g[h.length + 1]? = some (Blk.own [(Value.int .i64 V), (Value.int .i64 S), (Value.int .i64 T)]) := by rw [← hg, List.getElem?_append_right (by omega)]; simp
  obtain ⟨z0, z1, z2, z3, z4⟩ := o12_at cg
  have y3 : rdN g (h.length + 1) 0 3 = some [(Value.int .i64 V), (Value.int .i64 S), (Value.int .i64 T)] := by rw [rdN_at cl (Nat.le_refl 3)]; rfl
  have y0 : rd g (h.length + 1) 0 = some ((Value.int .i64 V)) := by rw [rd_at cl]; rfl
  have y1 : rd g (h.length + 1) 1 = some ((Value.int .i64 S)) := by rw [rd_at cl]; rfl
  have lvs' := fun (m : Md) (h : Heap) => levels_s m h hR
  obtain ⟨c0, ⟨b1, b2⟩, ⟨b3, b4⟩, ⟨b5, b6⟩, ⟨b7, b8⟩⟩ := hb
  have e0 : (U == W) = false := by rw [beq_eq_false_iff_ne]; exact c0
  have c1 : ¬ U < 0 := by omega
  have c2 : ¬ U ≥ V := by omega
  have c3 : ¬ W < 0 := by omega
  have c4 : ¬ W ≥ V := by omega
  have c5 : ¬ SL < 0 := by omega
  have c6 : ¬ SL ≥ S := by omega
  have c7 : ¬ LV < 0 := by omega
  have c8 : ¬ LV ≥ Lv V := by omega
  have he := (og eb (by omega)).trans H.me.at_
  have gt : (mGet ees [SL]).getD ((Value.agg #[(Value.int .i64 0), (Value.int .i64 0), (Value.int .i64 0), (Value.bool false)])) = .agg (List.toArray [(Value.int .i64 (((E SL).getD (0, 0, 0)).1)), (Value.int .i64 (((E SL).getD (0, 0, 0)).2.1)), (Value.int .i64 (((E SL).getD (0, 0, 0)).2.2)), (Value.bool false)]) ∧ (mGet ees [SL]).isSome = (E SL).isSome := by
    rw [H.me.get]
    cases E SL <;> exact ⟨rfl, rfl⟩
  have lkE := fun {α : Type} (kk : Value → Option α) => aLookup_ok (k := kk) tyE zvE (key1 (x := SL)) he
  have he2 : (g ++ [Blk.own [(Value.int .i64 0), (Value.int .i64 0), (Value.int .i64 0), (Value.bool false)]])[eb]? = some (.mp (.one .i64) ees) := by rw [List.getElem?_append_left (by omega)]; exact he
  have lkE2 := fun {α : Type} (kk : Value → Option α) => aLookup_ok (h := g ++ [Blk.own [(Value.int .i64 0), (Value.int .i64 0), (Value.int .i64 0), (Value.bool false)]]) (k := kk) tyE zvE (key1 (x := SL)) he2
  rw [gt.1, gt.2] at lkE lkE2
  have q1g := qEB ((og q lq).trans H.hq)
  have q1g2 : rd (g ++ [Blk.own [(Value.int .i64 0), (Value.int .i64 0), (Value.int .i64 0), (Value.bool false)]]) q 13 = some (.map (some eb)) := qEB (by rw [List.getElem?_append_left (by omega)]; exact (og q lq).trans H.hq)
  have z1' : rd (g ++ [Blk.own [(Value.int .i64 0), (Value.int .i64 0), (Value.int .i64 0), (Value.bool false)]]) h.length 1 = some ((Value.int .i64 SL)) := (o12_at (by rw [List.getElem?_append_left (by omega)]; exact cg)).2.1
  have w4 : wrN ⟨0, n⟩ (g ++ [Blk.own [(Value.int .i64 0), (Value.int .i64 0), (Value.int .i64 0), (Value.bool false)]]) g.length 0 [(Value.int .i64 (((E SL).getD (0, 0, 0)).1)), (Value.int .i64 (((E SL).getD (0, 0, 0)).2.1)), (Value.int .i64 (((E SL).getD (0, 0, 0)).2.2)), (Value.bool false)] = some (g ++ [Blk.own [(Value.int .i64 (((E SL).getD (0, 0, 0)).1)), (Value.int .i64 (((E SL).getD (0, 0, 0)).2.1)), (Value.int .i64 (((E SL).getD (0, 0, 0)).2.2)), (Value.bool false)]]) := wrN_new0 (bs := []) (Nat.zero_le _) (by show n ≤ _; omega) (by simp)
  have st4 := fun {α : Type} (hq : Heap) (kk : Heap → Option α) => st_N ⟨0, n⟩ 4 g.length 0 [(Value.int .i64 (((E SL).getD (0, 0, 0)).1)), (Value.int .i64 (((E SL).getD (0, 0, 0)).2.1)), (Value.int .i64 (((E SL).getD (0, 0, 0)).2.2)), (Value.bool false)] hq kk rfl rfl
  generalize hk : g ++ [Blk.own [(Value.int .i64 (((E SL).getD (0, 0, 0)).1)), (Value.int .i64 (((E SL).getD (0, 0, 0)).2.1)), (Value.int .i64 (((E SL).getD (0, 0, 0)).2.2)), (Value.bool false)]] = k at w4
  have lk : k.length = h.length + 3 := by rw [← hk]; simp; omega
  have okg : ∀ y, y < g.length → k[y]? = g[y]? := fun y hy => by rw [← hk, List.getElem?_append_left hy]
  have ok : ∀ y, y < h.length → k[y]? = h[y]? := fun y hy => (okg y (by omega)).trans (og y hy)
  have ck : k[g.length]? = some (Blk.own [(Value.int .i64 (((E SL).getD (0, 0, 0)).1)), (Value.int .i64 (((E SL).getD (0, 0, 0)).2.1)), (Value.int .i64 (((E SL).getD (0, 0, 0)).2.2)), (Value.bool false)]) := by rw [← hk]; exact List.getElem?_concat_length ..
  have cgk : k[h.length]? = some (Blk.own (op12 K SL U W LV)) := (okg _ (by omega)).trans cg
  obtain ⟨x0, x1, x2, x3, x4⟩ := o12_at cgk
  have Hk := H.fm ok
  have fmk : Fm a b eb lb h k := ⟨by omega, fun y hy _ _ _ _ => ok y hy⟩
  have xx : (E SL).getD (0, 0, 0) = (u, v, lv) := by rw [hE]; rfl
  rw [xx] at ck
  obtain ⟨g1, g2, g3, g4, g5, g6⟩ := H.ee.ed _ _ _ _ hE
  have i12 := HAA.lk.kl _ _ _ _ hE
  have on := HAA.lk.one hE (by omega)
  obtain ⟨f1, s1, mk1, ees1, les1, k1h, e1, H1, fm1, nw1⟩ := remove_s (n := n) hR Hk hn hE hE i12.1 i12.2 on.1 on.2
  have K1 := HAA.lk.rem hE (by omega)
  have qk1 := q4 H1.hq
  have cg1 : k1h[h.length]? = some (Blk.own (op12 K SL U W LV)) := (fm1.old _ (by omega) (by omega) (by omega) (by omega) (by omega)).trans cgk
  obtain ⟨t0, t1, t2, t3, t4⟩ := o12_at cg1
  have ck1 : k1h[g.length]? = some (Blk.own [(Value.int .i64 u), (Value.int .i64 v), (Value.int .i64 lv), (Value.bool false)]) := (fm1.old _ (by omega) (by omega) (by omega) (by omega) (by omega)).trans ck
  have hE' : (E SL).isSome = true := by rw [hE]; rfl
  have n1 : (!true) = false := rfl
  have k1 : (K == 1) = false := by rw [hK]; rfl
  have k2 : (K == 2) = false := by rw [hK]; rfl
  have k3 : (K == 3) = true := by rw [hK]; rfl
  obtain ⟨k2h, e2, A2, o2⟩ := aLift (md := ⟨0, n⟩) hR H1.th (Nat.zero_le _) (Nat.zero_le _) (sl := SL) ⟨b5, b6⟩ (lv := LV) ⟨b7, b8⟩
  have H2 := H1.mem A2 (H1.ee.lift hR hE ⟨b7, b8⟩) (H1.ls.liftF hR ⟨b5, b6⟩) o2
  have la := H2.th.la
  have l1 := fm1.len
  have l2 := o2.len
  have cg2 : k2h[h.length]? = some (Blk.own (op12 K SL U W LV)) := (o2.oth _ (by omega) (by omega)).trans cg1
  obtain ⟨r0, r1, r2, r3, r4⟩ := o12_at cg2
  have ck2 : k2h[g.length]? = some (Blk.own [(Value.int .i64 u), (Value.int .i64 v), (Value.int .i64 lv), (Value.bool false)]) := (o2.oth _ (by omega) (by omega)).trans ck1
  have wl : wrN ⟨0, n⟩ k2h g.length 2 [(Value.int .i64 LV)] = some (k2h.set g.length (.own [(Value.int .i64 u), (Value.int .i64 v), (Value.int .i64 LV), (Value.bool false)])) := wr_own ck2 (Nat.zero_le _) rfl (by simp)
  generalize hk3 : k2h.set g.length (.own [(Value.int .i64 u), (Value.int .i64 v), (Value.int .i64 LV), (Value.bool false)]) = k3h at wl
  have o3 : ∀ y, y ≠ g.length → k3h[y]? = k2h[y]? := fun y hy => by rw [← hk3, List.getElem?_set_ne (Ne.symm hy)]
  have l3 : k3h.length = k2h.length := by rw [← hk3]; simp
  have ck3 : k3h[g.length]? = some (.own [(Value.int .i64 u), (Value.int .i64 v), (Value.int .i64 LV), (Value.bool false)]) := by rw [← hk3, List.getElem?_set_self (by omega)]
  obtain ⟨m0, m1, m2, m3, m4⟩ := o12_at ((o3 h.length (by omega)).trans cg2)
  have r4N : rdN k3h g.length 0 4 = some [(Value.int .i64 u), (Value.int .i64 v), (Value.int .i64 LV), (Value.bool false)] := by rw [rdN_at ck3 (by simp [Blk.cells])]; rfl
  have lq2 := lt_of H2.hq
  have far : ∀ w j, (mGet les1 [w, j]).getD nil12 = nil12 ∨ slB ((mGet les1 [w, j]).getD nil12) ≠ g.length := fun w j => by
    rcases nw1 w j with e | e | e
    · rw [e]
      exact (H.ml.get w j).lo.imp id fun z => by omega
    · exact .inl e
    · exact .inr (by omega)
  have H3 : HB V S T (upI f1 (Ox S T SL 2) LV) a b q eb lb s1 mk1 (upE E SL (some (u, v, LV))) (upE E SL none) (remL L SL u v lv) ees1 les1 k3h :=
    ⟨H2.th.old (o3 a (by omega)) (o3 b (by omega)), H2.ee, H2.ls, H2.lm, (o3 q (by omega)).trans H2.hq, H2.me.keep (o3 eb (by omega)),
      ⟨(o3 lb (by omega)).trans H2.ml.at_, fun w j => (H2.ml.get w j).keep ((far w j).imp id fun z => o3 _ z)⟩, sp⟩
  obtain ⟨f', s', mk', ees', les', h', e3, H4, fm3⟩ := add_s (n := n) hR H3 hn (upE_same _ _ _) (K1.free (upE_same _ _ _))
  have eu : upE (upE E SL none) SL (some (u, v, LV)) = upE E SL (some (u, v, LV)) := by
    funext t
    by_cases q : t = SL
    · rw [q, upE_same, upE_same]
    · rw [upE_else q, upE_else q, upE_else q]
  have K3 := K1.add (u := u) (v := v) (lv := LV) (upE_same _ _ _) (by omega)
  rw [eu] at H4 K3
  have fm03 : Fm a b eb lb h k3h := by
    have := (fmk.trans fm1).trans (.only o2)
    exact ⟨by have := this.len; omega, fun y h1 h2 h3 h4 h5 => (o3 y (by omega)).trans (this.old y h1 h2 h3 h4 h5)⟩
  refine ⟨f', s', mk', _, _, ees', les', h', ?_, ⟨H4, K3⟩, fm03.trans fm3, fun k1 => by omega⟩
  have e3' : C ⟨0, n⟩ 30 [(Value.pointer (some ⟨q, 0, none⟩)), (Value.int .i64 SL), .agg (List.toArray [(Value.int .i64 u), (Value.int .i64 v), (Value.int .i64 LV), (Value.bool false)])] k3h = some ((Value.tuple #[]), h') := e3
  rw [C, call_eq, F10_eq]
  unfold F10
  simp only [go_sem, Nat.reduceAdd, Nat.reduceLeDiff, Nat.reduceMul, Int.reduceBEq, Int.reduceBNe, Int.reduceLT, Int.reduceLE, Int.reduceGT, okNil, okP_p, p31, st3, w3, z0, z1, z2, z3, z4, y3, y0, y1, lvs', aBin_lss, aBin_geq, e0, c1, c2, c3, c4, c5, c6, c7, c8, q1g, lkE, q1g2, lkE2, z1', st4, w4, x0, hE', aUn_not, n1, k1, k2, k3, x1, e1, qk1, t1, t4, e2, r4, st_1i, wl, m1, r4N, e3']
theorem step12 (hR : Rt V S T) (HAA : HA V S T f a b q eb lb s mk E L ees les h) (hn : n ≤ a ∧ n ≤ eb) (K SL U W LV : Int) : ∃ f' s' mk' E' L' ees' les' h', C ⟨0, n⟩ 10 [(Value.pointer (some ⟨q, 0, none⟩)), (Value.agg #[(Value.int .i64 K), (Value.int .i64 SL), (Value.int .i64 U), (Value.int .i64 W), (Value.int .i64 LV)])] h = some ((Value.tuple #[]), h') ∧ HA V S T f' a b q eb lb s' mk' E' L' ees' les' h' ∧ Fm a b eb lb h h' ∧ SR E E' L' V K SL U W LV := by
  rcases Classical.em (Good12 V S K SL U W LV) with g | g
  · by_cases k1 : K = 1
    · cases hE : E SL with
      | none => exact step12_put hR HAA hn g k1 hE
      | some e => exact step12_not hR HAA hn g ⟨.inr (by rw [hE]; rfl), .inl (by rw [k1]; rfl), .inl (by rw [k1]; rfl)⟩
    · have n1 : (K == 1) = false := by rw [beq_eq_false_iff_ne]; exact k1
      cases hE : E SL with
      | none => exact step12_not hR HAA hn g ⟨.inl n1, .inr (by rw [hE]; rfl), .inr (by rw [hE]; rfl)⟩
      | some e =>
        obtain ⟨u, v, lv⟩ := e
        by_cases k2 : K = 2
        · exact step12_rem hR HAA hn g k2 hE
        · by_cases k3 : K = 3
          · exact step12_lift hR HAA hn g k3 hE
          · exact step12_not hR HAA hn g ⟨.inl n1, .inl (by rw [beq_eq_false_iff_ne]; exact k2), .inl (by rw [beq_eq_false_iff_ne]; exact k3)⟩
  · obtain ⟨g', e, l1, o⟩ := step12_out (n := n) (K := K) hR HAA.hb hn.2 g
    exact ⟨f, s, mk, E, L, ees, les, g', e, ⟨HAA.hb.fm o, HAA.lk⟩, ⟨l1, fun y hy _ _ _ _ => o y hy⟩, fun _ h1 h2 => absurd h1 h2⟩
end Go.Det.E
