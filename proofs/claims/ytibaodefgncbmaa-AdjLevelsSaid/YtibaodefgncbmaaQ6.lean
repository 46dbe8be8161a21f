/- The play of 12: all is as the document says; its beginning. -/
import Derived.Test.YtibaodefgncbmaaQ5
import Derived.Test.YtibaodefgncbmaaQ0
set_option autoImplicit false
set_option linter.unusedVariables false
set_option linter.unusedSimpArgs false
namespace Go.Det.E
open Go.Proofs Go.Det Go.Det.U
attribute [local congr] bind_c cond_c
variable {h hh k h' : Heap} {a b n q eb lb lbk tb N : Nat} {V S T x y z u v w i lv sl K SL U W LV : Int} {f f' : Int → Int} {s s' : NS} {mk : Int → Nat} {L L' : Int → Int → List Int} {E Em : EM} {ees les : List (MK × Value)}
/-- Blocks but the arena's are as they were. -/
theorem HB.wk (H : HB V S T f a b q eb lb s mk E Em L ees les h) (A : TH V S T f a b s h') (o : ∀ y, y < h.length → y ≠ a → y ≠ b → h'[y]? = h[y]?) : HB V S T f a b q eb lb s mk E Em L ees les h' := by
  have sp := H.sp
  have lq := lt_of H.hq
  exact ⟨A, H.ee, H.ls, H.lm, (o q lq (by omega) (by omega)).trans H.hq, H.me.keep (o _ (by omega) (by omega) (by omega)), H.ml.keep (by omega) (o _ (by omega) (by omega) (by omega)) (fun y hy hl => o _ hl (by omega) (by omega)), H.sp⟩
theorem HA.wk (H : HA V S T f a b q eb lb s mk E L ees les h) (A : TH V S T f a b s h') (o : ∀ y, y < h.length → y ≠ a → y ≠ b → h'[y]? = h[y]?) : HA V S T f a b q eb lb s mk E L ees les h' := ⟨H.hb.wk A o, H.lk⟩
end Go.Det.E
/- The play of 12: all lists are told; it begins. -/
namespace Go.Det.E
open Go.Proofs Go.Det Go.Det.U
attribute [local congr] bind_c cond_c
variable {h hh k h' : Heap} {a b n q eb lb lbk tb N : Nat} {V S T x y z u v w i lv sl K SL U W LV : Int} {f f' : Int → Int} {s s' : NS} {mk : Int → Nat} {L L' : Int → Int → List Int} {E Em : EM} {ees les : List (MK × Value)}
theorem alone_is (x : Int) : IsT (fun _ => 0) (vxB V) (aloneS V s x) (one0 x) 0 := by
  refine ⟨upI_same _ _ _, upI_same _ _ _, upI_same _ _ _, (upI_same _ _ _).trans ?_, trivial, trivial⟩
  show _ = SM (0 + 0 + 1) (0 + 0 + (bif vxB V x then 1 else 0)) 0 ((0 ||| 0) ||| 0)
  rw [Nat.zero_add, Nat.zero_add]
  rfl
theorem alone_so (x : Int) : SameOut [x] s (aloneS V s x) := fun y hy => by
  have h : y ≠ x := by simpa using hy
  exact ⟨upI_else h, upI_else h, upI_else h, upI_else h⟩
/-- All nodes are alone, one by one. -/
theorem begun_lp12 {h0 : Heap} {s2 s3 s4 : Value} (hR : Rt V S T) (hN : (N : Int) = Nn V S) (hlb : lbk ≠ a ∧ lbk ≠ b) (htb : tb ≠ a ∧ tb ≠ b) : ∀ (m x : Nat) (k : Heap) (s : NS), x + m = N + 1 → 1 ≤ x → TH V S T f a b s k → k[lbk]? = some (.own [(Value.int .i64 V), (Value.int .i64 S), (Value.int .i64 T)]) → k[tb]? = some (.own [(Value.int .i64 V), (Value.int .i64 S), (Value.int .i64 T), ifA a, (Value.int .i64 1), (Value.int .i64 0)]) → (∀ y : Nat, 1 ≤ y → y < x → IsT (fun _ => 0) (vxB V) s (one0 (y : Int)) 0) →
    ∃ s' k', J9_0 C ⟨0, n⟩ h0 ((Value.pointer (some ⟨lbk, 0, none⟩))) s2 s3 s4 ((Value.pointer (some ⟨tb, 0, none⟩))) ((Value.int .i64 ((x : Int)))) k = J9_1 C ⟨0, n⟩ h0 ((Value.pointer (some ⟨lbk, 0, none⟩))) s2 s4 ((Value.pointer (some ⟨tb, 0, none⟩))) k' ∧ TH V S T f a b s' k' ∧ Only a b k k' ∧ ∀ y : Nat, 1 ≤ y → y ≤ N → IsT (fun _ => 0) (vxB V) s' (one0 (y : Int)) 0 := by
  have cn := Cn_le hR
  have nd := fun (m : Md) (h : Heap) => nodes_s m h hR
  rw [← hN] at nd
  intro m
  induction m with
  | zero =>
    intro x k s hx h1 A hl ht Z
    obtain rfl : x = N + 1 := by omega
    have rl : rdN k lbk 0 3 = some [(Value.int .i64 V), (Value.int .i64 S), (Value.int .i64 T)] := by rw [rdN_at hl (Nat.le_refl 3)]; rfl
    have nle : ¬ (((N + 1 : Nat) : Int) ≤ (N : Int)) := by omega
    refine ⟨s, k, ?_, A, Only.refl, fun y h1 h2 => Z y h1 (by omega)⟩
    rw [J9_0_step]
    unfold Jr9_0
    simp only [go_sem, Nat.reduceAdd, Nat.reduceLeDiff, Nat.reduceMul, Int.reduceBEq, Int.reduceBNe, Int.reduceLT, Int.reduceLE, Int.reduceGT, rl, nd, aBin_leq, nle, Jk9_0]
  | succ m ih =>
    intro x k s hx h1 A hl ht Z
    have hnx : Nix V S (x : Int) := ⟨by omega, by omega⟩
    have hle : (x : Int) ≤ (N : Int) := by omega
    have w : IntKind.wrap .i64 ((x : Int) + 1) = ((x + 1 : Nat) : Int) := by rw [wi (by omega) (by omega)]; rfl
    have rl : rdN k lbk 0 3 = some [(Value.int .i64 V), (Value.int .i64 S), (Value.int .i64 T)] := by rw [rdN_at hl (Nat.le_refl 3)]; rfl
    have rt : rdN k tb 0 6 = some [(Value.int .i64 V), (Value.int .i64 S), (Value.int .i64 T), ifA a, (Value.int .i64 1), (Value.int .i64 0)] := by rw [rdN_at ht (Nat.le_refl 6)]; rfl
    obtain ⟨k2, e2, A2, o2⟩ := tAlone (md := ⟨0, n⟩) hR A (Nat.zero_le _) (Nat.zero_le _) (Nat.zero_le _) hnx
    obtain ⟨s', k', e3, A3, o3, Z3⟩ := ih (x + 1) k2 _ (by omega) (by omega) A2 ((o2.oth _ hlb.1 hlb.2).trans hl) ((o2.oth _ htb.1 htb.2).trans ht) (fun y q1 q2 => by
      by_cases e : y = x
      · subst e; exact alone_is _
      · exact IsT.congr ((alone_so (x : Int)).on fun z hz => by simp [Tr.row] at hz; subst hz; simp; omega) (Z y q1 (by omega)))
    refine ⟨s', k', ?_, A3, o2.trans o3, Z3⟩
    rw [J9_0_step]
    unfold Jr9_0
    simp only [go_sem, Nat.reduceAdd, Nat.reduceLeDiff, Nat.reduceMul, Int.reduceBEq, Int.reduceBNe, Int.reduceLT, Int.reduceLE, Int.reduceGT, rl, nd, aBin_leq, hle, rt, e2, aBin_add, w]
    exact e3
theorem rep0 (hR : Rt V S T) : Rep V S T (fun _ => 0) (List.replicate (Cn V S T).toNat 0) ⟨fun _ => 0, fun _ => 0, fun _ => 0, fun _ => 0⟩ := by
  have cn := Cn_le hR
  have g : ∀ i, getI (List.replicate (Cn V S T).toNat (0 : Int)) i = 0 := by
    intro i
    unfold getI
    split
    · rename_i h
      simp only [List.length_replicate] at h
      rw [List.getD, List.getElem?_replicate_of_lt (by omega)]; rfl
    · rfl
  refine ⟨by simp; omega, Wd.zero _, fun i _ => g i, fun y _ _ => g _, fun y _ _ => g _, fun y _ _ => g _, fun y _ _ _ => ?_, fun y _ _ _ => g _⟩
  rw [g]
  exact ⟨by decide, rfl⟩
theorem bTrees12 {α : Type} {V S T : Int} {a : Nat} (k : Value → Option α) : aBuild Try.prog 32 [(0, (Value.agg #[(Value.int .i64 V), (Value.int .i64 S), (Value.int .i64 T)])), (1, ifA a), (2, (Value.agg #[(Value.int .i64 1), (Value.int .i64 0)]))] k = k ((Value.agg #[(Value.int .i64 V), (Value.int .i64 S), (Value.int .i64 T), ifA a, (Value.int .i64 1), (Value.int .i64 0)])) := by kernel_rfl
theorem bTours12 {α : Type} {V S T : Int} {a : Nat} (k : Value → Option α) : aBuild Try.prog 34 [(0, (Value.agg #[(Value.int .i64 V), (Value.int .i64 S), (Value.int .i64 T), ifA a, (Value.int .i64 1), (Value.int .i64 0)]))] k = k ((Value.agg #[(Value.int .i64 V), (Value.int .i64 S), (Value.int .i64 T), ifA a, (Value.int .i64 1), (Value.int .i64 0)])) := by kernel_rfl
theorem bEdges12 {α : Type} {V S T : Int} {a : Nat} (k : Value → Option α) : aBuild Try.prog 36 [(0, (Value.agg #[(Value.int .i64 V), (Value.int .i64 S), (Value.int .i64 T)])), (1, ifA a)] k = k ((Value.agg #[(Value.int .i64 V), (Value.int .i64 S), (Value.int .i64 T), ifA a])) := by kernel_rfl
theorem bAdj12 {α : Type} {V S T : Int} {a : Nat} (k : Value → Option α) : aBuild Try.prog 38 [(0, (Value.agg #[(Value.int .i64 V), (Value.int .i64 S), (Value.int .i64 T), ifA a, (Value.int .i64 1), (Value.int .i64 0)])), (1, (Value.agg #[(Value.int .i64 V), (Value.int .i64 S), (Value.int .i64 T), ifA a]))] k = k (.agg (List.toArray (B10 V S T a))) := by kernel_rfl
theorem bPlay12 {α : Type} {V S T : Int} {a eb lb : Nat} (k : Value → Option α) : aBuild Try.prog 45 [(0, (Value.agg #[(Value.int .i64 V), (Value.int .i64 S), (Value.int .i64 T)])), (1, .agg (List.toArray (B10 V S T a))), (2, .map (some eb)), (3, .map (some lb))] k = k (.agg (List.toArray (qC V S T a eb lb))) := by kernel_rfl
theorem wr_at12 {md : Md} {h : Heap} {b i : Nat} {cs vs : List Value} (hb : h[b]? = some (.own cs)) (hi : i + vs.length ≤ cs.length) (hro : md.ro ≤ b) (hs : md.lim ≤ b ∨ vs.all scalar = true) : wrN md h b i vs = some (h.set b (.own (lay cs i vs))) := by
  unfold wrN
  rw [hb]
  simp only []
  rw [if_pos hi, if_pos ⟨hro, hs⟩]
abbrev L0 : Int → Int → List Int := fun _ _ => []
abbrev E0 : EM := fun _ => none
theorem EE.zero (hR : Rt V S T) : EE V S T (fun _ => 0) E0 := ⟨fun s u v lv h => (nomatch h), fun _ _ _ _ _ _ => rfl, fun s s' u v lv lv' h => (nomatch h)⟩
theorem LS.zero (hR : Rt V S T) : LS V S T (fun _ => 0) L0 := ⟨fun v i x h => (nomatch h), fun _ _ => List.nodup_nil, fun v i v' i' x h => (nomatch h), fun _ _ _ => rfl, fun _ _ => trivial⟩
set_option maxRecDepth 100000 in
theorem begun12 (hR : Rt V S T) (hn : n ≤ h.length) :
    ∃ h' a b s, C ⟨0, n⟩ 9 [(Value.agg #[(Value.int .i64 V), (Value.int .i64 S), (Value.int .i64 T)])] h = some ((Value.tuple #[.agg (List.toArray (B10 V S T a)), (Value.bool true)]), h') ∧ TH V S T (fun _ => 0) a b s h' ∧ LM V S s (fun _ => 0) L0 ∧ (h.length ≤ a ∧ h.length ≤ b) ∧ Old h.length h h' := by
  have cn := Cn_le hR
  have rL := Lv_le hR
  obtain ⟨N, hN⟩ : ∃ N : Nat, (N : Int) = Nn V S := ⟨(Nn V S).toNat, by omega⟩
  generalize hzz : [(Value.int .i64 0), (Value.int .i64 0), (Value.int .i64 0), Value.nilIface, (Value.int .i64 0), (Value.int .i64 0), (Value.int .i64 0), (Value.int .i64 0), (Value.int .i64 0), Value.nilIface] = zz
  have lzz : zz.length = 10 := by rw [← hzz]; rfl
  generalize hg1 : h ++ [Blk.own [(Value.int .i64 V), (Value.int .i64 S), (Value.int .i64 T)], Blk.own zz] = g1
  have lg1 : g1.length = h.length + 2 := by rw [← hg1]; simp
  have o1 : ∀ y, y < h.length → g1[y]? = h[y]? := fun y hy => by rw [← hg1, List.getElem?_append_left hy]
  have d1 : g1[h.length]? = some (Blk.own [(Value.int .i64 V), (Value.int .i64 S), (Value.int .i64 T)]) := by rw [← hg1, List.getElem?_append_right (Nat.le_refl _)]; simp
  have z1 : g1[h.length + 1]? = some (Blk.own zz) := by rw [← hg1, List.getElem?_append_right (by omega)]; simp
  have r1 : rdN g1 h.length 0 3 = some [(Value.int .i64 V), (Value.int .i64 S), (Value.int .i64 T)] := by rw [rdN_at d1 (Nat.le_refl 3)]; rfl
  have ce := fun (m : Md) (h : Heap) => cells_s m h hR
  obtain ⟨g2, a, b, e2, A2, O2, la, lb⟩ := new_e ⟨0, n⟩ g1 (n := Cn V S T) (by omega) (by omega)
  have lg2 := O2.len
  have lta := lt_of A2.ha
  have ltb := lt_of A2.hb
  have d2 : g2[h.length]? = some (Blk.own [(Value.int .i64 V), (Value.int .i64 S), (Value.int .i64 T)]) := (O2.old _ (by omega)).trans d1
  have z2 : g2[h.length + 1]? = some (Blk.own zz) := (O2.old _ (by omega)).trans z1
  have r2 : rdN g2 h.length 0 3 = some [(Value.int .i64 V), (Value.int .i64 S), (Value.int .i64 T)] := by rw [rdN_at d2 (Nat.le_refl 3)]; rfl
  have mo := fun (m : Md) => memof_s m g2 lta
  have mo3 := fun (m : Md) => memof_s m (g2 ++ [Blk.own [(Value.int .i64 0), (Value.int .i64 0), (Value.int .i64 0), .nilIface, (Value.int .i64 0), (Value.int .i64 0)]]) (a := a) (by simp; omega)
  have r23 : rdN (g2 ++ [Blk.own [(Value.int .i64 0), (Value.int .i64 0), (Value.int .i64 0), .nilIface, (Value.int .i64 0), (Value.int .i64 0)]]) h.length 0 3 = some [(Value.int .i64 V), (Value.int .i64 S), (Value.int .i64 T)] := by rw [rdN_at (by rw [List.getElem?_append_left (by omega)]; exact d2) (Nat.le_refl 3)]; rfl
  have st6 := fun (hq : Heap) (kk : Heap → Option (Value × Heap)) => st_N ⟨0, n⟩ 6 g2.length 0 [(Value.int .i64 V), (Value.int .i64 S), (Value.int .i64 T), ifA a, (Value.int .i64 1), (Value.int .i64 0)] hq kk rfl rfl
  have w6 := wrN_new0 (md := ⟨0, n⟩) (h := g2) (bs := []) (i := 0) (cs := [(Value.int .i64 0), (Value.int .i64 0), (Value.int .i64 0), .nilIface, (Value.int .i64 0), (Value.int .i64 0)]) (vs := [(Value.int .i64 V), (Value.int .i64 S), (Value.int .i64 T), ifA a, (Value.int .i64 1), (Value.int .i64 0)]) (Nat.zero_le _) (by show n ≤ _; omega) (Nat.le_refl 6)
  have eL6 : lay [(Value.int .i64 0), (Value.int .i64 0), (Value.int .i64 0), .nilIface, (Value.int .i64 0), (Value.int .i64 0)] 0 [(Value.int .i64 V), (Value.int .i64 S), (Value.int .i64 T), ifA a, (Value.int .i64 1), (Value.int .i64 0)] = [(Value.int .i64 V), (Value.int .i64 S), (Value.int .i64 T), ifA a, (Value.int .i64 1), (Value.int .i64 0)] := rfl
  rw [eL6] at w6
  generalize hg3 : g2 ++ [Blk.own [(Value.int .i64 V), (Value.int .i64 S), (Value.int .i64 T), ifA a, (Value.int .i64 1), (Value.int .i64 0)]] = g3 at w6
  have lg3 : g3.length = g2.length + 1 := by rw [← hg3]; simp
  have o3 : ∀ y, y < g2.length → g3[y]? = g2[y]? := fun y hy => by rw [← hg3, List.getElem?_append_left hy]
  have t3 : g3[g2.length]? = some (Blk.own [(Value.int .i64 V), (Value.int .i64 S), (Value.int .i64 T), ifA a, (Value.int .i64 1), (Value.int .i64 0)]) := by rw [← hg3]; exact List.getElem?_concat_length ..
  have o13 : ∀ y, y < g1.length → g3[y]? = g1[y]? := fun y hy => (o3 y (by omega)).trans (O2.old y hy)
  obtain ⟨s, kf, ef, Af, of, Z⟩ := begun_lp12 (n := n) (h0 := h) (lbk := h.length) (tb := g2.length) (s2 := (Value.pointer (some ⟨h.length + 1, 0, none⟩))) (s3 := (Value.bool false)) (s4 := (Value.pointer (some ⟨a, 0, none⟩))) (f := fun _ => 0) hR hN ⟨by omega, by omega⟩ ⟨by omega, by omega⟩ N 1 g3 _ (by omega) (Nat.le_refl 1) ⟨_, _, A2.same (o3 _ lta) (o3 _ ltb), rep0 hR⟩ ((o13 _ (by omega)).trans d1) t3 (fun y h1 h2 => by omega)
  have df : kf[h.length]? = some (Blk.own [(Value.int .i64 V), (Value.int .i64 S), (Value.int .i64 T)]) := (of.oth _ (by omega) (by omega)).trans ((o13 _ (by omega)).trans d1)
  have zf : kf[h.length + 1]? = some (Blk.own zz) := (of.oth _ (by omega) (by omega)).trans ((o13 _ (by omega)).trans z1)
  have tf : kf[g2.length]? = some (Blk.own [(Value.int .i64 V), (Value.int .i64 S), (Value.int .i64 T), ifA a, (Value.int .i64 1), (Value.int .i64 0)]) := (of.oth _ (by omega) (by omega)).trans t3
  have rf : rdN kf h.length 0 3 = some [(Value.int .i64 V), (Value.int .i64 S), (Value.int .i64 T)] := by rw [rdN_at df (Nat.le_refl 3)]; rfl
  have rt : rdN kf g2.length 0 6 = some [(Value.int .i64 V), (Value.int .i64 S), (Value.int .i64 T), ifA a, (Value.int .i64 1), (Value.int .i64 0)] := by rw [rdN_at tf (Nat.le_refl 6)]; rfl
  have lf := of.len
  have mof := fun (m : Md) => memof_s m kf (a := a) (by omega)
  have st10 := fun (hq : Heap) (kk : Heap → Option (Value × Heap)) => st_N ⟨0, n⟩ 10 (h.length + 1) 0 (B10 V S T a) hq kk rfl rfl
  have w10 : wrN ⟨0, n⟩ kf (h.length + 1) 0 (B10 V S T a) = some (kf.set (h.length + 1) (.own (lay zz 0 (B10 V S T a)))) := wr_at12 zf (by rw [lzz]; exact Nat.le_refl 10) (Nat.zero_le _) (.inl (by show n ≤ _; omega))
  have eL10 : lay zz 0 (B10 V S T a) = B10 V S T a := by rw [← hzz]; rfl
  rw [eL10] at w10
  generalize hk0 : kf.set (h.length + 1) (.own (B10 V S T a)) = k0 at w10
  have lk0 : k0.length = kf.length := by rw [← hk0]; simp
  have ok0 : ∀ y, y ≠ h.length + 1 → k0[y]? = kf[y]? := fun y hy => by rw [← hk0, List.getElem?_set_ne (Ne.symm hy)]
  have ck0 : k0[h.length + 1]? = some (.own (B10 V S T a)) := by rw [← hk0, List.getElem?_set_self (by omega)]
  have r10 : rdN k0 (h.length + 1) 0 10 = some (B10 V S T a) := by rw [rdN_at ck0 (by simp [Blk.cells])]; rfl
  refine ⟨k0, a, b, s, ?_, Af.old (ok0 a (by omega)) (ok0 b (by omega)), ⟨fun _ => by show 0 < 4; omega, fun v i hi => ?_, fun v i hi => rfl⟩, ⟨by omega, by omega⟩, ⟨by omega, fun y hy => ?_⟩⟩
  · rw [C, call_eq, F9_eq]
    unfold F9
    have uP : Try.prog.underlying 67 = some (.pointer 91) := by kernel_rfl
    have zz0 : ((0 : Int) != 0) = false := rfl
    rw [Int.natCast_one] at ef
    simp only [go_sem, Nat.reduceAdd, Nat.reduceLeDiff, Nat.reduceMul, Int.reduceBEq, Int.reduceBNe, Int.reduceLT, Int.reduceLE, Int.reduceGT, hzz, hg1, lg1, r1, ce, e2, zz0, aBin_eqlP uP, r2, mo, bTrees12, mo3, cLE_t, r23, st6, w6]
    rw [ef]
    unfold J9_1
    simp only [go_sem, Nat.reduceAdd, Nat.reduceLeDiff, Nat.reduceMul, Int.reduceBEq, Int.reduceBNe, Int.reduceLT, Int.reduceLE, Int.reduceGT, rf, rt, bTours12, mof, bEdges12, bAdj12, st10, w10, r10]
  · have nx := vx_nix hR hi
    have q1 := nx.1
    have q2 := nx.2
    have := Z (Vx V i v).toNat (by omega) (by omega)
    rw [show (((Vx V i v).toNat : Nat) : Int) = Vx V i v by omega] at this
    exact this
  · rw [ok0 y (by omega), of.oth y (by omega) (by omega), o13 y (by omega), o1 y hy]
end Go.Det.E

/- The laws of 12: what each begins with; is the machine awake. -/
namespace Go.Det.E
open Go.Proofs Go.Det Go.Det.U
attribute [local congr] bind_c cond_c
variable {md : Md} {h hh k h' : Heap} {a b n q eb lb : Nat} {V S T x y z u v w i lv sl K SL U W LV : Int} {f f' : Int → Int} {s s' : NS} {mk : Int → Nat} {L L' : Int → Int → List Int} {E Em : EM} {ees les : List (MK × Value)}
structure Op12 where
  k : Int
  sl : Int
  u : Int
  w : Int
  lv : Int
abbrev encO12 (o : Op12) : List Value := [(Value.int .i64 o.k), (Value.int .i64 o.sl), (Value.int .i64 o.u), (Value.int .i64 o.w), (Value.int .i64 o.lv)]
theorem encO12_len (o : Op12) : (encO12 o).length = 5 := rfl
theorem ops12_of {h : Heap} {ess : List (List Value)} (a : TyE h [.i .i64, .i .i64, .i .i64, .i .i64, .i .i64] ess) : ∃ ops : List Op12, ess = ops.map encO12 := by
  induction ess with
  | nil => exact ⟨[], rfl⟩
  | cons es ess ih =>
    cases a with
    | cons _ _ _ b h2 =>
      obtain ⟨v1, r, rfl, a1, b⟩ := l_cons b
      obtain ⟨v2, r, rfl, a2, b⟩ := l_cons b
      obtain ⟨v3, r, rfl, a3, b⟩ := l_cons b
      obtain ⟨v4, r, rfl, a4, b⟩ := l_cons b
      obtain ⟨v6, r, rfl, a6, b⟩ := l_cons b
      obtain rfl := l_nil b
      obtain ⟨x1, rfl, _⟩ := inI64 a1
      obtain ⟨x2, rfl, _⟩ := inI64 a2
      obtain ⟨x3, rfl, _⟩ := inI64 a3
      obtain ⟨x4, rfl, _⟩ := inI64 a4
      obtain ⟨x6, rfl, _⟩ := inI64 a6
      obtain ⟨ops, e⟩ := ih h2
      exact ⟨⟨x1, x2, x3, x4, x6⟩ :: ops, by rw [e]; rfl⟩
theorem arg_ops12 {h : Heap} {v : Value} (a : TyArg Try.prog h 24 v) : ∃ ops : List Op12, Sl h 5 encO12 v ops := by
  have a' : TyS h (.sl [.i .i64, .i .i64, .i .i64, .i .i64, .i .i64]) v := arg1 (by kernel_rfl) (by kernel_rfl) a
  rcases inSl a' with rfl | ⟨b, ess, rfl, hb, _, he⟩
  · exact ⟨[], Sl.nil _ encO12_len⟩
  · obtain ⟨ops, rfl⟩ := ops12_of he
    exact ⟨ops, Sl.whole encO12_len hb rfl (by simp)⟩
theorem arg_lay12 {h : Heap} {v : Value} (a : TyArg Try.prog h 23 v) : ∃ V S T : Int, v = (Value.agg #[(Value.int .i64 V), (Value.int .i64 S), (Value.int .i64 T)]) := by
  obtain ⟨acs, e, b⟩ := argN (P := Try.prog) (l := [.i .i64, .i .i64, .i .i64]) (by kernel_rfl) (by kernel_rfl) a
  obtain ⟨v1, r, rfl, a1, b⟩ := l_cons b
  obtain ⟨v2, r, rfl, a2, b⟩ := l_cons b
  obtain ⟨v3, r, rfl, a3, b⟩ := l_cons b
  obtain rfl := l_nil b
  obtain ⟨V, rfl, hV⟩ := inI64 a1
  obtain ⟨S, rfl, hS⟩ := inI64 a2
  obtain ⟨T, rfl, hT⟩ := inI64 a3
  exact ⟨V, S, T, e⟩
theorem right12 (md : Md) (h : Heap) (V S T : Int) : C md 7 [(Value.agg #[(Value.int .i64 V), (Value.int .i64 S), (Value.int .i64 T)])] h = some ((Value.bool (decide (Rt V S T ∧ V ≤ 8))), h) := by
  rw [C, call_eq, F7_eq]
  unfold F7
  by_cases hR : Rt V S T
  · by_cases h8 : V ≤ 8
    · have : decide (Rt V S T ∧ V ≤ 8) = true := by simp [hR, h8]
      rw [this]
      simp only [go_sem, Nat.reduceAdd, Nat.reduceLeDiff, Nat.reduceMul, Int.reduceBEq, Int.reduceBNe, Int.reduceLT, Int.reduceLE, Int.reduceGT, refright_s, hR, aBin_leq, h8]
    · have : decide (Rt V S T ∧ V ≤ 8) = false := by simp [hR, h8]
      rw [this]
      simp only [go_sem, Nat.reduceAdd, Nat.reduceLeDiff, Nat.reduceMul, Int.reduceBEq, Int.reduceBNe, Int.reduceLT, Int.reduceLE, Int.reduceGT, refright_s, hR, aBin_leq, h8]
  · have : decide (Rt V S T ∧ V ≤ 8) = false := by simp [hR]
    rw [this]
    simp only [go_sem, Nat.reduceAdd, Nat.reduceLeDiff, Nat.reduceMul, Int.reduceBEq, Int.reduceBNe, Int.reduceLT, Int.reduceLE, Int.reduceGT, refright_s, hR]
theorem take_same12 {h k : Heap} (hl : h.length ≤ k.length) (o : ∀ y, y < h.length → k[y]? = h[y]?) : k.take h.length = h := by
  refine List.ext_getElem? fun y => ?_
  by_cases hy : y < h.length
  · rw [List.getElem?_take_of_lt hy, o y hy]
  · rw [List.getElem?_eq_none (by rw [List.length_take]; omega), List.getElem?_eq_none (by omega)]
abbrev L1w : Int → Int → List Int := addL L0 0 1 2 0
abbrev L2w : Int → Int → List Int := addL L1w 1 2 3 0
abbrev L3w : Int → Int → List Int := remL L2w 0 1 2 0
theorem L2w_mem {w j : Int} {x : Int} (hx : x ∈ L1w w j) : x = 1 ∨ x = 2 := by
  by_cases h1 : w = 1 ∧ j = 0
  · rw [h1.1, h1.2] at hx
    have : L1w 1 0 = [1] := by decide
    rw [this] at hx; simp at hx; exact .inl hx
  · by_cases h2 : w = 2 ∧ j = 0
    · rw [h2.1, h2.2] at hx
      have : L1w 2 0 = [2] := by decide
      rw [this] at hx; simp at hx; exact .inr hx
    · change x ∈ addL L0 0 1 2 0 w j at hx
      rw [add_else h1 h2] at hx
      cases hx
set_option maxHeartbeats 4000000 in
set_option maxRecDepth 100000 in
theorem awake12 (m : Nat) (h : Heap) : C ⟨0, m⟩ 8 [] h = some ((Value.bool true), h) := by
  have hR : Rt 4 3 1 := by unfold Rt; omega
  have hlv : Lv 4 = 3 := by decide
  have w1 : wrN ⟨0, h.length⟩ (h ++ [Blk.own [(Value.int .i64 0), (Value.int .i64 0), (Value.int .i64 0)]]) h.length 0 [(Value.int .i64 4), (Value.int .i64 3), (Value.int .i64 1)] = some (h ++ [Blk.own [(Value.int .i64 4), (Value.int .i64 3), (Value.int .i64 1)]]) := wrN_new0 (bs := []) (Nat.zero_le _) (Nat.le_refl _) (by simp)
  have st3 := fun {α : Type} (kk : Heap → Option α) => st_N ⟨0, h.length⟩ 3 h.length 0 [(Value.int .i64 4), (Value.int .i64 3), (Value.int .i64 1)] (h ++ [Blk.own [(Value.int .i64 0), (Value.int .i64 0), (Value.int .i64 0)]]) kk rfl rfl
  have c0 : (h ++ [Blk.own [(Value.int .i64 4), (Value.int .i64 3), (Value.int .i64 1)]])[h.length]? = some (.own [(Value.int .i64 4), (Value.int .i64 3), (Value.int .i64 1)]) := List.getElem?_concat_length ..
  have r0 : rdN (h ++ [Blk.own [(Value.int .i64 4), (Value.int .i64 3), (Value.int .i64 1)]]) h.length 0 3 = some [(Value.int .i64 4), (Value.int .i64 3), (Value.int .i64 1)] := by rw [rdN_at c0 (Nat.le_refl 3)]; rfl
  have lg0 : (h ++ [Blk.own [(Value.int .i64 4), (Value.int .i64 3), (Value.int .i64 1)]]).length = h.length + 1 := by simp
  have og0 : ∀ y, y < h.length → (h ++ [Blk.own [(Value.int .i64 4), (Value.int .i64 3), (Value.int .i64 1)]])[y]? = h[y]? := fun y hy => List.getElem?_append_left hy
  generalize h ++ [Blk.own [(Value.int .i64 4), (Value.int .i64 3), (Value.int .i64 1)]] = g0 at w1 c0 r0 lg0 og0
  obtain ⟨g1, a, b, s, e1, A1, M1, ab, O1⟩ := begun12 (V := 4) (S := 3) (T := 1) (n := h.length) (h := g0) hR (by omega)
  have lg1 := O1.len
  have la1 := A1.la
  have st10 := fun {α : Type} (hq : Heap) (kk : Heap → Option α) => st_N ⟨0, h.length⟩ 10 g1.length 0 (B10 4 3 1 a) hq kk rfl rfl
  have w10 : wrN ⟨0, h.length⟩ (g1 ++ [Blk.own [(Value.int .i64 0), (Value.int .i64 0), (Value.int .i64 0), .nilIface, (Value.int .i64 0), (Value.int .i64 0), (Value.int .i64 0), (Value.int .i64 0), (Value.int .i64 0), .nilIface]]) g1.length 0 (B10 4 3 1 a) = some (g1 ++ [Blk.own (B10 4 3 1 a)]) := wrN_new0 (bs := []) (Nat.zero_le _) (by show h.length ≤ _; omega) (by simp)
  have c2 : (g1 ++ [Blk.own (B10 4 3 1 a)])[g1.length]? = some (.own (B10 4 3 1 a)) := List.getElem?_concat_length ..
  have lg2 : (g1 ++ [Blk.own (B10 4 3 1 a)]).length = g1.length + 1 := by simp
  have og2 : ∀ y, y < g1.length → (g1 ++ [Blk.own (B10 4 3 1 a)])[y]? = g1[y]? := fun y hy => List.getElem?_append_left hy
  have A2 : TH 4 3 1 (fun _ => 0) a b s (g1 ++ [Blk.own (B10 4 3 1 a)]) := A1.app _
  generalize g1 ++ [Blk.own (B10 4 3 1 a)] = g2 at w10 c2 lg2 og2 A2
  have rT : ∀ {g : Heap}, g[g1.length]? = some (.own (B10 4 3 1 a)) → rdN g g1.length 0 10 = some (B10 4 3 1 a) ∧ rdN g g1.length 6 4 = some [(Value.int .i64 4), (Value.int .i64 3), (Value.int .i64 1), ifA a] ∧ rdN g g1.length 0 6 = some [(Value.int .i64 4), (Value.int .i64 3), (Value.int .i64 1), ifA a, (Value.int .i64 1), (Value.int .i64 0)] := fun {g} e => by
    refine ⟨?_, ?_, ?_⟩ <;> (rw [rdN_at e (by simp [Blk.cells])]; rfl)
  have rL : ∀ {g : Heap}, g[h.length]? = g2[h.length]? → rdN g h.length 0 3 = some [(Value.int .i64 4), (Value.int .i64 3), (Value.int .i64 1)] := fun {g} e => by
    rw [rdN_at (e.trans ((og2 _ (by omega)).trans ((O1.old _ (by omega)).trans c0))) (Nat.le_refl 3)]; rfl
  -- two edges, both in memory, then in lists
  obtain ⟨g3, e3, A3, o3⟩ := aPut (md := ⟨0, h.length⟩) hR A2 (Nat.zero_le _) (Nat.zero_le _) (sl := 0) (u := 2) (v := 1) (lv := 0) (by omega) (by omega) (by omega) (by omega) (by omega)
  have mm1 : mn 2 1 = 1 ∧ mx 2 1 = 2 := by decide
  rw [mm1.1, mm1.2] at A3
  have Q3 := (EE.zero (V := 4) (S := 3) (T := 1) hR).put hR (sl := 0) (u := 1) (v := 2) (lv := 0) (by omega) (by omega) (by omega) rfl (fun s lv e => nomatch e)
  have P3 := (LS.zero (V := 4) (S := 3) (T := 1) hR).putF hR (sl := 0) (u := 1) (v := 2) (lv := 0) (by omega) (by omega)
  obtain ⟨g4, e4, A4, o4⟩ := aPut (md := ⟨0, h.length⟩) hR A3 (Nat.zero_le _) (Nat.zero_le _) (sl := 1) (u := 2) (v := 3) (lv := 0) (by omega) (by omega) (by omega) (by omega) (by omega)
  have mm2 : mn 2 3 = 2 ∧ mx 2 3 = 3 := by decide
  rw [mm2.1, mm2.2] at A4
  have Q4 := Q3.put hR (sl := 1) (u := 2) (v := 3) (lv := 0) (by omega) (by omega) (by omega) (by decide) (fun s lv e => by
    by_cases q : s = 0
    · rw [q, upE_same] at e; cases e
    · rw [upE_else q] at e; cases e)
  have P4 := P3.putF hR (sl := 1) (u := 2) (v := 3) (lv := 0) (by omega) (by omega)
  have o24 := o3.trans o4
  obtain ⟨f5, s5, mk5, g5, e5, A5, Q5, P5, M5, o5⟩ := adAdd (md := ⟨0, h.length⟩) (sl := 0) (u := 1) (v := 2) (lv := 0) hR A4 Q4 P4 M1 (Nat.zero_le _) (Nat.zero_le _) (Nat.zero_le _) (by decide) (fun w j => ⟨fun q => (nomatch q), fun q => (nomatch q)⟩)
  have o25 := o24.trans o5
  obtain ⟨f6, s6, mk6, g6, e6, A6, Q6, P6, M6, o6⟩ := adAdd (md := ⟨0, h.length⟩) (sl := 1) (u := 2) (v := 3) (lv := 0) hR A5 Q5 P5 M5 (Nat.zero_le _) (Nat.zero_le _) (Nat.zero_le _) (by decide) (fun w j => ⟨fun q => by have := L2w_mem q; omega, fun q => by have := L2w_mem q; omega⟩)
  have o26 := o25.trans o6
  have in20 : In 4 2 0 := ⟨by omega, by omega, by omega⟩
  have in10 : In 4 1 0 := ⟨by omega, by omega, by omega⟩
  have in30 : In 4 3 0 := ⟨by omega, by omega, by omega⟩
  have l20 : addL L1w 1 2 3 0 2 0 = [3, 2] := by decide
  have l10 : addL L1w 1 2 3 0 1 0 = [1] := by decide
  obtain ⟨v7, g7, e7, A7, S7, W7⟩ := adList (md := ⟨0, h.length⟩) hR A6 P6 (Nat.zero_le _) (Nat.zero_le _) in20
  have lg6 := o26.len
  have lg7 := W7.len
  rw [l20] at S7
  have S7' : SlO g7 (g6.length + 1) 1 eZ v7 [1, 0] := S7
  obtain ⟨g8, e8, A8, o8⟩ := marked_e (md := ⟨0, h.length⟩) hR A7 M6 (Nat.zero_le _) in10
  have d8 : decide (addL L1w 1 2 3 0 1 0 ≠ []) = true := by decide
  rw [d8] at e8
  obtain ⟨f9, s9, mk9, g9, e9, A9, Q9, P9, M9, o9⟩ := adRem (md := ⟨0, h.length⟩) (sl := 0) (u := 1) (v := 2) (lv := 0) hR A8 Q6 P6 M6 (Nat.zero_le _) (Nat.zero_le _) (Nat.zero_le _) (by decide) (by rw [l10]; simp) (by rw [l20]; simp)
  obtain ⟨gA, eA, AA, oA⟩ := adFirst (md := ⟨0, h.length⟩) hR A9 P9 (Nat.zero_le _) in20
  have k20 : remL L2w 0 1 2 0 2 0 = [3] := by decide
  have k10 : remL L2w 0 1 2 0 1 0 = [] := by decide
  have k30 : remL L2w 0 1 2 0 3 0 = [4] := by decide
  have fA1 : (if remL L2w 0 1 2 0 2 0 = [] then 0 else slt (hdL (remL L2w 0 1 2 0 2 0))) = 1 ∧ decide (remL L2w 0 1 2 0 2 0 ≠ []) = true := by rw [k20]; decide
  rw [fA1.1, fA1.2] at eA
  obtain ⟨gB, eB, AB, oB⟩ := adFirst (md := ⟨0, h.length⟩) hR AA P9 (Nat.zero_le _) in10
  have fB1 : (if remL L2w 0 1 2 0 1 0 = [] then 0 else slt (hdL (L3w 1 0))) = 0 ∧ decide (L3w 1 0 ≠ []) = false := by rw [k10]; decide
  rw [fB1.1, fB1.2] at eB
  obtain ⟨gC, eC, AC, oC⟩ := marked_e (md := ⟨0, h.length⟩) hR AB M9 (Nat.zero_le _) in10
  rw [fB1.2] at eC
  obtain ⟨gD, eD, AD, oD⟩ := marked_e (md := ⟨0, h.length⟩) hR AC M9 (Nat.zero_le _) in30
  have d30 : decide (remL L2w 0 1 2 0 3 0 ≠ []) = true := by rw [k30]; decide
  rw [d30] at eD
  -- what stays
  have keep : ∀ y, y < g2.length → y ≠ a → y ≠ b → g7[y]? = g2[y]? := fun y h1 h2 h3 => (W7.old y (by omega) h2 h3).trans (o26.oth y h2 h3)
  have o79 := o8.trans o9
  have o7A := o79.trans oA
  have o7B := o7A.trans oB
  have o7C := o7B.trans oC
  have o7D := o7C.trans oD
  have cT : ∀ {g : Heap}, Only a b g2 g → rdN g g1.length 0 10 = some (B10 4 3 1 a) ∧ rdN g g1.length 6 4 = some [(Value.int .i64 4), (Value.int .i64 3), (Value.int .i64 1), ifA a] ∧ rdN g g1.length 0 6 = some [(Value.int .i64 4), (Value.int .i64 3), (Value.int .i64 1), ifA a, (Value.int .i64 1), (Value.int .i64 0)] := fun {g} o => rT ((o.oth _ (by omega) (by omega)).trans c2)
  have k7 : g7[g1.length]? = some (.own (B10 4 3 1 a)) := (keep _ (by omega) (by omega) (by omega)).trans c2
  have cT7 : ∀ {g : Heap}, Only a b g7 g → rdN g g1.length 0 10 = some (B10 4 3 1 a) ∧ rdN g g1.length 6 4 = some [(Value.int .i64 4), (Value.int .i64 3), (Value.int .i64 1), ifA a] ∧ rdN g g1.length 0 6 = some [(Value.int .i64 4), (Value.int .i64 3), (Value.int .i64 1), ifA a, (Value.int .i64 1), (Value.int .i64 0)] := fun {g} o => rT ((o.oth _ (by omega) (by omega)).trans k7)
  have cL : ∀ {g : Heap}, Only a b g2 g → rdN g h.length 0 3 = some [(Value.int .i64 4), (Value.int .i64 3), (Value.int .i64 1)] := fun {g} o => rL (o.oth _ (by omega) (by omega))
  have cL7 : ∀ {g : Heap}, Only a b g7 g → rdN g h.length 0 3 = some [(Value.int .i64 4), (Value.int .i64 3), (Value.int .i64 1)] := fun {g} o => rL ((o.oth _ (by omega) (by omega)).trans (keep _ (by omega) (by omega) (by omega)))
  have t2 := cT (Only.refl)
  have t3 := cT o3
  have t4 := cT o24
  have t5 := cT o25
  have t6 := cT o26
  have y6 := cL o26
  have t7 := cT7 Only.refl
  have y7 := cL7 Only.refl
  have t8 := cT7 o8
  have t9 := cT7 o79
  have tA := cT7 o7A
  have tB := cT7 o7B
  have yB := cL7 o7B
  have tC := cT7 o7C
  have yC := cL7 o7C
  have XB : Sl gB 1 eZ v7 [1, 0] := S7'.sl.heap fun hl => by
    rcases S7'.lo with q | q
    · rw [q] at S7'
      exact absurd S7'.nil_of (by simp)
    · exact o7B.oth _ (by omega) (by omega)
  have len : ∀ {α : Type} (kk : Value → Option α), lenS v7 kk = kk ((Value.int .i64 2)) := fun kk => XB.len kk
  obtain ⟨i0, x0⟩ := Sl.getI XB (k := 0) rfl
  obtain ⟨i1, x1⟩ := Sl.getI XB (k := 1) rfl
  have z0 : ((0 : Nat) : Int) = 0 := rfl
  rw [z0] at i0
  rw [Int.natCast_one] at i1
  rw [Nat.add_zero] at x0
  have vx := fun (v : Int) (m : Md) (h : Heap) => vertex_s m h (V := 4) (S := 3) (T := 1) (a := 0) (b := v) hR
  have en : gD.take h.length = h := take_same12 (by rw [o7D.len]; omega) (fun y hy => by rw [o7D.oth y (by omega) (by omega), keep y (by omega) (by omega) (by omega), og2 y (by omega), O1.old y (by omega), og0 y hy])
  have bt : (true == true) = true := rfl
  have nt : (!true) = false := rfl
  have nf : (!false) = true := rfl
  rw [C, call_eq, F8_eq]
  unfold F8
  simp only [go_sem, Nat.reduceAdd, Nat.reduceLeDiff, Nat.reduceMul, Int.reduceBEq, Int.reduceBNe, Int.reduceLT, Int.reduceLE, Int.reduceGT, st3, w1, r0, e1, st10, w10, nt, t2.2.1, e3, t3.2.1, e4, t4.1, e5, t5.1, e6, t6.1, e7, t6.2.2, t7.2.2, y6, y7, vx, e8, t8.1, e9, t9.1, eA, tA.1, eB, len, i0, x0, aBin_eql, i1, x1, aUn_not, nf, tB.2.2, yB, eC, tC.2.2, yC, eD, en]
end Go.Det.E

/- AdjPlays. -/
namespace Go.Det.E
open Go.Proofs Go.Det Go.Det.U
attribute [local congr] bind_c cond_c
variable {md : Md} {h hb hh k h' : Heap} {a b n q eb lb : Nat} {V S T x y z u v w i lv sl K SL U W LV : Int} {f f' : Int → Int} {s s' : NS} {mk : Int → Nat} {L L' : Int → Int → List Int} {E Em : EM} {ees les : List (MK × Value)} {ops : List Op12} {ov : Value}
/-- The play, once its parts are laid. -/
theorem HA.start (hR : Rt V S T) (A : TH V S T (fun _ => 0) a b s h) (M : LM V S s (fun _ => 0) L0) : HA V S T (fun _ => 0) a b (h.length + 2) h.length (h.length + 1) s (fun _ => 0) E0 L0 [] [] (h ++ [Blk.mp (.one .i64) [], Blk.mp (.two .i64) [], Blk.own (qC V S T a h.length (h.length + 1))]) := by
  have la := A.la
  refine ⟨⟨A.app _, EE.zero hR, LS.zero hR, M, ?_, ⟨?_, trivial, fun _ => rfl⟩, ⟨?_, fun v i => SlO.nil _ _ eZ_len⟩, by omega⟩, ⟨fun v i x hx => (nomatch hx), fun sl u w i e => (nomatch e)⟩⟩
  · rw [List.getElem?_append_right (by omega)]; simp
  · rw [List.getElem?_append_right (by omega)]; simp
  · rw [List.getElem?_append_right (by omega)]; simp
theorem mkE12 {α : Type} (h : Heap) (kk : Value → Heap → Option α) : aMakeMap Try.prog 42 h kk = kk (.map (some h.length)) (h ++ [.mp (.one .i64) []]) := aMakeMap_p tyE
theorem mkL12 {α : Type} (h : Heap) (kk : Value → Heap → Option α) : aMakeMap Try.prog 43 h kk = kk (.map (some h.length)) (h ++ [.mp (.two .i64) []]) := aMakeMap_p tyL
end Go.Det.E
