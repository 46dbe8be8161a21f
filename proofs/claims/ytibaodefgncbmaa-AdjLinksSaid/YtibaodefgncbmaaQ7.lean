/- AdjBack: an edge that comes, and leaves. -/
import Derived.Test.YtibaodefgncbmaaQ6
import Derived.Test.YtibaodefgncbmaaEK
import Derived.Test.YtibaodefgncbmaaEL
set_option autoImplicit false
set_option linter.unusedVariables false
set_option linter.unusedSimpArgs false
namespace Go.Det.E
open Go.Proofs Go.Det Go.Det.U
attribute [local congr] bind_c cond_c
variable {md : Md} {h hb hh k h' : Heap} {a b n q eb lb c : Nat} {V S T x y z u v w i lv sl K SL U W LV : Int} {f f' : Int → Int} {s s' : NS} {mk : Int → Nat} {L L' : Int → Int → List Int} {E Em : EM} {ees les : List (MK × Value)} {ops : List Op12} {ov : Value}
/-- Low blocks do not matter. -/
theorem HB.hi (H : HB V S T f a b q eb lb s mk E Em L ees les h) (hc : c ≤ a ∧ c ≤ b) (o : ∀ y, c ≤ y → y < h.length → h'[y]? = h[y]?) : HB V S T f a b q eb lb s mk E Em L ees les h' := by
  obtain ⟨la, lb'⟩ := H.th.la
  have lq := lt_of H.hq
  have sp := H.sp
  exact ⟨H.th.old (o a (by omega) la) (o b (by omega) lb'), H.ee, H.ls, H.lm, (o q (by omega) lq).trans H.hq, H.me.keep (o _ (by omega) (by omega)), H.ml.keep (by omega) (o _ (by omega) (by omega)) (fun y hy hl => o y (by omega) hl), H.sp⟩
theorem HA.hi (H : HA V S T f a b q eb lb s mk E L ees les h) (hc : c ≤ a ∧ c ≤ b) (o : ∀ y, c ≤ y → y < h.length → h'[y]? = h[y]?) : HA V S T f a b q eb lb s mk E L ees les h' := ⟨H.hb.hi hc o, H.lk⟩
/-- An edge's four cells; none: zeros. -/
abbrev e4 (E : EM) (sl : Int) : List Value := [(Value.int .i64 (((E sl).getD (0, 0, 0)).1)), (Value.int .i64 (((E sl).getD (0, 0, 0)).2.1)), (Value.int .i64 (((E sl).getD (0, 0, 0)).2.2)), (Value.bool false)]
/-- What each law of 12 lays at first, behind any blocks. -/
theorem lay12g (hR : Rt V S T) (hb : Heap) (hn : n < hb.length) (c0 : hb[n]? = some (.own [(Value.int .i64 V), (Value.int .i64 S), (Value.int .i64 T)])) :
    ∃ g1 a b s, C ⟨0, n⟩ 9 [(Value.agg #[(Value.int .i64 V), (Value.int .i64 S), (Value.int .i64 T)])] hb = some ((Value.tuple #[.agg (List.toArray (B10 V S T a)), (Value.bool true)]), g1) ∧ (hb.length ≤ a ∧ hb.length ≤ b) ∧ Old hb.length hb g1 ∧
      (∀ {α : Type} (kk : Heap → Option α), st ⟨0, n⟩ 10 ((Value.pointer (some ⟨g1.length, 0, none⟩))) (.agg (List.toArray (B10 V S T a))) (g1 ++ [Blk.own [(Value.int .i64 0), (Value.int .i64 0), (Value.int .i64 0), .nilIface, (Value.int .i64 0), (Value.int .i64 0), (Value.int .i64 0), (Value.int .i64 0), (Value.int .i64 0), .nilIface]]) kk = kk (g1 ++ [Blk.own (B10 V S T a)])) ∧
      rdN (g1 ++ [Blk.own (B10 V S T a)]) n 0 3 = some [(Value.int .i64 V), (Value.int .i64 S), (Value.int .i64 T)] ∧ rdN (g1 ++ [Blk.own (B10 V S T a)]) g1.length 0 10 = some (B10 V S T a) ∧ HA V S T (fun _ => 0) a b (g1.length + 1 + 2) (g1.length + 1) (g1.length + 1 + 1) s (fun _ => 0) E0 L0 [] [] (g1 ++ [Blk.own (B10 V S T a), Blk.mp (.one .i64) [], Blk.mp (.two .i64) [], Blk.own (qC V S T a (g1.length + 1) (g1.length + 1 + 1))]) ∧ hb.length ≤ g1.length ∧ (a < g1.length ∧ b < g1.length) := by
  obtain ⟨g1, a, b, s, e1, A1, M1, ab, O1⟩ := begun12 (n := n) (h := hb) hR (by omega)
  have l1 := O1.len
  refine ⟨g1, a, b, s, e1, ab, O1, fun kk => ?_, ?_, ?_, ?_, l1, A1.la⟩
  · rw [st_N ⟨0, n⟩ 10 g1.length 0 (B10 V S T a) _ kk rfl rfl]
    have w10 : wrN ⟨0, n⟩ (g1 ++ [Blk.own [(Value.int .i64 0), (Value.int .i64 0), (Value.int .i64 0), .nilIface, (Value.int .i64 0), (Value.int .i64 0), (Value.int .i64 0), (Value.int .i64 0), (Value.int .i64 0), .nilIface]]) g1.length 0 (B10 V S T a) = some (g1 ++ [Blk.own (B10 V S T a)]) := wrN_new0 (bs := []) (Nat.zero_le _) (by show n ≤ _; omega) (by simp)
    rw [w10]; rfl
  · rw [rdN_at (by rw [List.getElem?_append_left (by omega), O1.old _ (by omega)]; exact c0) (Nat.le_refl 3)]; rfl
  · rw [rdN_at (List.getElem?_concat_length ..) (by simp [Blk.cells])]; rfl
  · have la := A1.la
    have := HA.start hR (A1.app [Blk.own (B10 V S T a)]) M1
    have lg2 : (g1 ++ [Blk.own (B10 V S T a)]).length = g1.length + 1 := by simp
    rw [lg2, List.append_assoc] at this
    exact this
end Go.Det.E
/- AdjLinks: each list can be gone back. -/
namespace Go.Det.E
open Go.Proofs Go.Det Go.Det.U
attribute [local congr] bind_c cond_c
variable {md : Md} {h hb hh k h' : Heap} {a b n q eb lb c p1 p2 : Nat} {V S T x y z u v w i lv sl K SL U W LV : Int} {f f' : Int → Int} {s s' : NS} {mk : Int → Nat} {L L' : Int → Int → List Int} {E Em : EM} {ees les : List (MK × Value)} {ops : List Op12} {ov : Value}
theorem links_loop {h0 : Heap} {s2 s4 s5 : Value} (hR : Rt V S T) (SO : Sl hb 5 encO12 ov ops) (hl : ops.length ≤ 60) (hn : n ≤ a ∧ n ≤ eb) (hba : hb.length ≤ a ∧ hb.length ≤ b ∧ hb.length ≤ eb ∧ hb.length ≤ lb) : ∀ (m i : Nat) (k : Heap) (f : Int → Int) (s : NS) (mk : Int → Nat) (E : EM) (L : Int → Int → List Int) (ees les : List (MK × Value)), i + m = ops.length → HA V S T f a b q eb lb s mk E L ees les k → hb.length ≤ k.length → (∀ y, y < hb.length → k[y]? = hb[y]?) →
    ∃ f' s' mk' E' L' ees' les' k', J4_0 C ⟨0, n⟩ h0 s2 s4 s5 ((Value.pointer (some ⟨q, 0, none⟩))) ov ((Value.int .i64 ((ops.length : Int)))) ((Value.int .i64 ((i : Int)))) k = J4_1 C ⟨0, n⟩ h0 s2 s4 s5 k' ∧ HA V S T f' a b q eb lb s' mk' E' L' ees' les' k' ∧ Fm a b eb lb k k' := by
  intro m
  induction m with
  | zero =>
    intro i k f s mk E L ees les hi H hlk ok
    obtain rfl : i = ops.length := by omega
    refine ⟨f, s, mk, E, L, ees, les, k, ?_, H, Fm.refl⟩
    rw [J4_0_step]
    unfold Jr4_0
    simp only [go_sem, Nat.reduceAdd, Nat.reduceLeDiff, Nat.reduceMul, Int.reduceBEq, Int.reduceBNe, Int.reduceLT, Int.reduceLE, Int.reduceGT, aBin_lss, Int.lt_irrefl, Jk4_0]
  | succ m ih =>
    intro i k f s mk E L ees les hi H hlk ok
    have hlt : (i : Int) < (ops.length : Int) := by omega
    have w : IntKind.wrap .i64 ((i : Int) + 1) = ((i + 1 : Nat) : Int) := by rw [wi (by omega) (by omega)]; rfl
    obtain ⟨o, ho⟩ : ∃ o, ops[i]? = some o := ⟨ops[i]'(by omega), List.getElem?_eq_getElem (by omega)⟩
    have S1 : Sl k 5 encO12 ov ops := SO.heap fun hl => ok _ hl
    have ix := fun {α : Type} (kk : Value → Option α) => S1.ix (i := (i : Int)) (by omega) hlt kk
    have el := S1.elem ho
    simp only [Int.toNat_natCast] at ix
    have la := H.hb.th.la
    have st5 := fun {α : Type} (kk : Heap → Option α) => st_N ⟨0, n⟩ 5 k.length 0 (encO12 o) (k ++ [Blk.own [(Value.int .i64 0), (Value.int .i64 0), (Value.int .i64 0), (Value.int .i64 0), (Value.int .i64 0)]]) kk rfl rfl
    have w5 : wrN ⟨0, n⟩ (k ++ [Blk.own [(Value.int .i64 0), (Value.int .i64 0), (Value.int .i64 0), (Value.int .i64 0), (Value.int .i64 0)]]) k.length 0 (encO12 o) = some (k ++ [Blk.own (encO12 o)]) := wrN_new0 (bs := []) (Nat.zero_le _) (by show n ≤ _; omega) (by simp)
    have r5 : rdN (k ++ [Blk.own (encO12 o)]) k.length 0 5 = some (encO12 o) := by rw [rdN_new0]; rfl
    have H1 : HA V S T f a b q eb lb s mk E L ees les (k ++ [Blk.own (encO12 o)]) := ⟨H.hb.fm fun y hy => List.getElem?_append_left hy, H.lk⟩
    have l1 : (k ++ [Blk.own (encO12 o)]).length = k.length + 1 := by simp
    have o1 : ∀ y, y < k.length → (k ++ [Blk.own (encO12 o)])[y]? = k[y]? := fun y hy => List.getElem?_append_left hy
    obtain ⟨f2, s2, mk2, E2, L2, ees2, les2, k2, e2, H2, fm2, _⟩ := step12 (n := n) hR H1 hn o.k o.sl o.u o.w o.lv
    have l2 := fm2.len
    obtain ⟨f3, s3, mk3, E3, L3, ees3, les3, k', e4, H3, fm3⟩ := ih (i + 1) k2 _ _ _ _ _ _ _ (by omega) H2 (by omega) (fun y hy => by rw [fm2.old y (by omega) (by omega) (by omega) (by omega) (by omega), o1 y (by omega), ok y hy])
    refine ⟨f3, s3, mk3, E3, L3, ees3, les3, k', ?_, H3, ((Fm.app _).trans fm2).trans fm3⟩
    rw [J4_0_step]
    unfold Jr4_0
    simp only [go_sem, Nat.reduceAdd, Nat.reduceLeDiff, Nat.reduceMul, Int.reduceBEq, Int.reduceBNe, Int.reduceLT, Int.reduceLE, Int.reduceGT, aBin_lss, hlt, ixSV_p, ix, el, st5, w5, r5, e2, aBin_add, w]
    exact e4
set_option maxHeartbeats 4000000 in
theorem links_w {s4 s10 s48 s49 s53 s54 : Value} (hR : Rt V S T) (hp : p1 ≠ a ∧ p1 ≠ b ∧ p2 ≠ a ∧ p2 ≠ b) : ∀ (rest : List Int) (ahead : Int) (cnt : Nat) (k : Heap), DL S T f ahead rest → (∀ y ∈ rest, Sd S y) → TH V S T f a b s k → k[p1]? = some (.own [(Value.int .i64 V), (Value.int .i64 S), (Value.int .i64 T)]) → k[p2]? = some (.own (B10 V S T a)) → (cnt : Int) + rest.length ≤ 2 * S → (0 ≤ ahead ∧ ahead ≤ 2 * S) →
    ∃ k', J4_2b0b0 C ⟨0, n⟩ ((Value.pointer (some ⟨p1, 0, none⟩))) s4 ((Value.pointer (some ⟨p2, 0, none⟩))) s10 ((Value.int .i64 ahead)) ((Value.int .i64 ((cnt : Int)))) ((Value.int .i64 (hdL rest))) s48 s49 s53 s54 k = (aBin Try.prog .add 3 s54 ((Value.int .i64 1)) fun v1 => some (.inl (((Value.pointer (some ⟨p1, 0, none⟩)), s4, (Value.pointer (some ⟨p2, 0, none⟩)), s10, s48, s49, s53, v1), k'))) ∧ TH V S T f a b s k' ∧ Only a b k k' := by
  have rs := hR
  unfold Rt at rs
  have o := order hR
  intro rest
  induction rest with
  | nil =>
    intro ahead cnt k d hs A h1 h2 hc ha
    refine ⟨k, ?_, A, Only.refl⟩
    have z : ((0 : Int) != 0) = false := rfl
    show J4_2b0b0 C ⟨0, n⟩ ((Value.pointer (some ⟨p1, 0, none⟩))) s4 ((Value.pointer (some ⟨p2, 0, none⟩))) s10 ((Value.int .i64 ahead)) ((Value.int .i64 ((cnt : Int)))) ((Value.int .i64 0)) s48 s49 s53 s54 k = _
    rw [J4_2b0b0_step]
    unfold Jr4_2b0b0
    simp only [go_sem, Nat.reduceAdd, Nat.reduceLeDiff, Nat.reduceMul, Int.reduceBEq, Int.reduceBNe, Int.reduceLT, Int.reduceLE, Int.reduceGT, aBin_neq, z, Jk4_2b0b0]
  | cons x rest ih =>
    intro ahead cnt k d hs A h1 h2 hc ha
    have hx := hs x (by simp)
    simp only [List.length_cons] at hc
    have hz : (x != 0) = true := by rw [bne_iff_ne]; omega
    have rS : rd k p1 1 = some ((Value.int .i64 S)) := by rw [rd_at h1]; rfl
    have rA : rd k p2 9 = some (ifA a) := by rw [rd_at h2]; rfl
    have r3 : rdN k p1 0 3 = some [(Value.int .i64 V), (Value.int .i64 S), (Value.int .i64 T)] := by rw [rdN_at h1 (Nat.le_refl 3)]; rfl
    have w2S : IntKind.wrap .i64 (2 * S) = 2 * S := wi (by omega) (by omega)
    have c1 : ¬ ((cnt : Int) > 2 * S) := by omega
    have c2 : ¬ (x < 0) := by omega
    have c3 : ¬ (x > 2 * S) := by omega
    have w1 : IntKind.wrap .i64 (x - 1) = x - 1 := wi (by omega) (by omega)
    have t1 : (x - 1).tdiv 2 = (x - 1) / 2 := Int.tdiv_eq_ediv_of_nonneg (by omega)
    have t2 : (x - 1).tmod 2 = (x - 1) % 2 := Int.tmod_eq_emod_of_nonneg (by omega)
    have w2 : IntKind.wrap .i64 ((x - 1) / 2) = (x - 1) / 2 := wi (by omega) (by omega)
    have nb := nx_bd (T := T) hR hx
    have pb := pv_bd (T := T) hR hx
    obtain ⟨k1, e1, A1, o1⟩ := tload (md := ⟨0, n⟩) A (Nat.zero_le _) (x := pvC S T x) (by omega)
    rw [d.1] at e1
    have wA : IntKind.wrap .i64 ahead = ahead := wi (by omega) (by omega)
    have zA : (ahead != ahead) = false := by simp
    have g1 : k1[p1]? = some (.own [(Value.int .i64 V), (Value.int .i64 S), (Value.int .i64 T)]) := (o1.oth _ hp.1 hp.2.1).trans h1
    have g2 : k1[p2]? = some (.own (B10 V S T a)) := (o1.oth _ hp.2.2.1 hp.2.2.2).trans h2
    have rA1 : rd k1 p2 9 = some (ifA a) := by rw [rd_at g2]; rfl
    have r31 : rdN k1 p1 0 3 = some [(Value.int .i64 V), (Value.int .i64 S), (Value.int .i64 T)] := by rw [rdN_at g1 (Nat.le_refl 3)]; rfl
    obtain ⟨k2, e2, A2, o2⟩ := tload (md := ⟨0, n⟩) A1 (Nat.zero_le _) (x := nxC S T x) (by omega)
    have hnr : f (nxC S T x) = hdL rest := d.2.1
    rw [hnr] at e2
    have hr0 : hdL rest = 0 ∨ Sd S (hdL rest) := by
      rcases hdL_mem (l := rest) with q | q
      · left; rw [q]; rfl
      · exact .inr (hs _ (by simp [q]))
    have wN : IntKind.wrap .i64 (hdL rest) = hdL rest := wi (by omega) (by omega)
    have wc : IntKind.wrap .i64 ((cnt : Int) + 1) = ((cnt + 1 : Nat) : Int) := by rw [wi (by omega) (by omega)]; rfl
    obtain ⟨k', e3, A3, o3⟩ := ih x (cnt + 1) k2 d.2.2 (fun y hy => hs y (by simp [hy])) A2 ((o2.oth _ hp.1 hp.2.1).trans g1) ((o2.oth _ hp.2.2.1 hp.2.2.2).trans g2) (by omega) (by omega)
    refine ⟨k', ?_, A3, (o1.trans o2).trans o3⟩
    have pv : ∀ m h, C m 14 [(Value.agg #[(Value.int .i64 V), (Value.int .i64 S), (Value.int .i64 T)]), (Value.int .i64 ((x - 1) / 2)), (Value.int .i64 ((x - 1) % 2))] h = some ((Value.int .i64 (pvC S T x)), h) := fun m h => prev_s m h hR
    have nx : ∀ m h, C m 15 [(Value.agg #[(Value.int .i64 V), (Value.int .i64 S), (Value.int .i64 T)]), (Value.int .i64 ((x - 1) / 2)), (Value.int .i64 ((x - 1) % 2))] h = some ((Value.int .i64 (nxC S T x)), h) := fun m h => next_s m h hR
    show J4_2b0b0 C ⟨0, n⟩ ((Value.pointer (some ⟨p1, 0, none⟩))) s4 ((Value.pointer (some ⟨p2, 0, none⟩))) s10 ((Value.int .i64 ahead)) ((Value.int .i64 ((cnt : Int)))) ((Value.int .i64 x)) s48 s49 s53 s54 k = _
    rw [J4_2b0b0_step]
    unfold Jr4_2b0b0
    simp only [go_sem, Nat.reduceAdd, Nat.reduceLeDiff, Nat.reduceMul, Int.reduceBEq, Int.reduceBNe, Int.reduceLT, Int.reduceLE, Int.reduceGT, aBin_neq, hz, rS, w2S, aBin_gtr, c1, aBin_lss, c2, aBin_mul, c3, rA, r3, aBin_sub, w1, aBin_quo two0, t1, w2, aBin_rem two0, t2, pv, okN_i, clI_load, e1, cUI, wA, zA, rA1, r31, nx, e2, wN, aBin_add, wc]
    exact e3
theorem links_i {s4 s48 s49 : Value} (hR : Rt V S T) (P : LS V S T f L) (hv : 0 ≤ v ∧ v < V) (hp : p1 ≠ a ∧ p1 ≠ b ∧ p2 ≠ a ∧ p2 ≠ b) {lN : Nat} (hl : (lN : Int) = Lv V) : ∀ (m j : Nat) (k : Heap), j + m = lN → TH V S T f a b s k → k[p1]? = some (.own [(Value.int .i64 V), (Value.int .i64 S), (Value.int .i64 T)]) → k[p2]? = some (.own (B10 V S T a)) →
    ∃ k', J4_2b0 C ⟨0, n⟩ ((Value.pointer (some ⟨p1, 0, none⟩))) s4 ((Value.pointer (some ⟨p2, 0, none⟩))) ((Value.int .i64 v)) s48 s49 ((Value.int .i64 ((lN : Int)))) ((Value.int .i64 ((j : Int)))) k = (aBin Try.prog .add 3 s49 ((Value.int .i64 1)) fun v1 => some (.inl (((Value.pointer (some ⟨p1, 0, none⟩)), s4, (Value.pointer (some ⟨p2, 0, none⟩)), s48, v1), k'))) ∧ TH V S T f a b s k' ∧ Only a b k k' := by
  have rs := hR
  unfold Rt at rs
  have o := order hR
  have rL := Lv_le hR
  intro m
  induction m with
  | zero =>
    intro j k hj A h1 h2
    obtain rfl : j = lN := by omega
    refine ⟨k, ?_, A, Only.refl⟩
    rw [J4_2b0_step]
    unfold Jr4_2b0
    simp only [go_sem, Nat.reduceAdd, Nat.reduceLeDiff, Nat.reduceMul, Int.reduceBEq, Int.reduceBNe, Int.reduceLT, Int.reduceLE, Int.reduceGT, aBin_lss, Int.lt_irrefl, Jk4_2b0]
  | succ m ih =>
    intro j k hj A h1 h2
    have hlt : (j : Int) < (lN : Int) := by omega
    have w1 : IntKind.wrap .i64 ((j : Int) + 1) = ((j + 1 : Nat) : Int) := by rw [wi (by omega) (by omega)]; rfl
    have hi : In V v (j : Int) := ⟨hv, by omega, by omega⟩
    have rA : rd k p2 9 = some (ifA a) := by rw [rd_at h2]; rfl
    have r3 : rdN k p1 0 3 = some [(Value.int .i64 V), (Value.int .i64 S), (Value.int .i64 T)] := by rw [rdN_at h1 (Nat.le_refl 3)]; rfl
    obtain ⟨q1, q2⟩ := hdv P hR hi
    have hb := hx_bd (S := S) (T := T) hR hi
    obtain ⟨k1, e1, A1, o1⟩ := tload (md := ⟨0, n⟩) A (Nat.zero_le _) (x := Hx V S T v j) (by omega)
    rw [q1] at e1
    have wN : IntKind.wrap .i64 (hdL (L v j)) = hdL (L v j) := wi (by omega) (by omega)
    have g1 : k1[p1]? = some (.own [(Value.int .i64 V), (Value.int .i64 S), (Value.int .i64 T)]) := (o1.oth _ hp.1 hp.2.1).trans h1
    have g2 : k1[p2]? = some (.own (B10 V S T a)) := (o1.oth _ hp.2.2.1 hp.2.2.2).trans h2
    have len := P.len hR v j
    obtain ⟨k2, e2, A2, o2⟩ := links_w (n := n) (s4 := s4) (s10 := (Value.int .i64 v)) (s48 := s48) (s49 := s49) (s53 := (Value.int .i64 ((lN : Int)))) (s54 := (Value.int .i64 ((j : Int)))) hR hp (L v j) 0 0 k1 (P.dl v j) (fun y hy => (P.rg v j y hy).1) A1 g1 g2 (by omega) (by omega)
    have z0 : ((0 : Nat) : Int) = 0 := rfl
    rw [z0] at e2
    obtain ⟨k', e3, A3, o3⟩ := ih (j + 1) k2 (by omega) A2 ((o2.oth _ hp.1 hp.2.1).trans g1) ((o2.oth _ hp.2.2.1 hp.2.2.2).trans g2)
    refine ⟨k', ?_, A3, (o1.trans o2).trans o3⟩
    have hd := fun (m : Md) (h : Heap) => head_s m h (a := v) (b := (j : Int)) hR
    rw [J4_2b0_step]
    unfold Jr4_2b0
    simp only [go_sem, Nat.reduceAdd, Nat.reduceLeDiff, Nat.reduceMul, Int.reduceBEq, Int.reduceBNe, Int.reduceLT, Int.reduceLE, Int.reduceGT, aBin_lss, hlt, rA, r3, hd, okN_i, clI_load, e1, wN, e2, aBin_add, w1]
    exact e3
theorem links_v {h0 : Heap} {s4 : Value} (hR : Rt V S T) (P : LS V S T f L) (hp : p1 ≠ a ∧ p1 ≠ b ∧ p2 ≠ a ∧ p2 ≠ b) {vN : Nat} (hV : (vN : Int) = V) : ∀ (m j : Nat) (k : Heap), j + m = vN → TH V S T f a b s k → k[p1]? = some (.own [(Value.int .i64 V), (Value.int .i64 S), (Value.int .i64 T)]) → k[p2]? = some (.own (B10 V S T a)) →
    ∃ k', J4_2 C ⟨0, n⟩ h0 ((Value.pointer (some ⟨p1, 0, none⟩))) s4 ((Value.pointer (some ⟨p2, 0, none⟩))) ((Value.int .i64 ((vN : Int)))) ((Value.int .i64 ((j : Int)))) k = some ((Value.bool true), k') := by
  have rs := hR
  unfold Rt at rs
  have rL := Lv_le hR
  obtain ⟨lN, hl⟩ : ∃ lN : Nat, (lN : Int) = Lv V := ⟨(Lv V).toNat, by omega⟩
  intro m
  induction m with
  | zero =>
    intro j k hj A h1 h2
    obtain rfl : j = vN := by omega
    have aw := fun (m : Nat) => awake12 m k
    refine ⟨k.take h0.length, ?_⟩
    rw [J4_2_step]
    unfold Jr4_2
    simp only [go_sem, Nat.reduceAdd, Nat.reduceLeDiff, Nat.reduceMul, Int.reduceBEq, Int.reduceBNe, Int.reduceLT, Int.reduceLE, Int.reduceGT, aBin_lss, Int.lt_irrefl, Jk4_2, aw]
  | succ m ih =>
    intro j k hj A h1 h2
    have hlt : (j : Int) < (vN : Int) := by omega
    have w1 : IntKind.wrap .i64 ((j : Int) + 1) = ((j + 1 : Nat) : Int) := by rw [wi (by omega) (by omega)]; rfl
    have r3 : rdN k p1 0 3 = some [(Value.int .i64 V), (Value.int .i64 S), (Value.int .i64 T)] := by rw [rdN_at h1 (Nat.le_refl 3)]; rfl
    have lvs' := fun (m : Md) (h : Heap) => levels_s m h hR
    rw [← hl] at lvs'
    obtain ⟨k1, e1, A1, o1⟩ := links_i (n := n) (s4 := s4) (s48 := (Value.int .i64 ((vN : Int)))) (s49 := (Value.int .i64 ((j : Int)))) (v := (j : Int)) hR P (by omega) hp hl lN 0 k (by omega) A h1 h2
    have z0 : ((0 : Nat) : Int) = 0 := rfl
    rw [z0] at e1
    obtain ⟨k', e2⟩ := ih (j + 1) k1 (by omega) A1 ((o1.oth _ hp.1 hp.2.1).trans h1) ((o1.oth _ hp.2.2.1 hp.2.2.2).trans h2)
    refine ⟨k', ?_⟩
    rw [J4_2_step]
    unfold Jr4_2
    simp only [go_sem, Nat.reduceAdd, Nat.reduceLeDiff, Nat.reduceMul, Int.reduceBEq, Int.reduceBNe, Int.reduceLT, Int.reduceLE, Int.reduceGT, aBin_lss, hlt, r3, lvs', e1, aBin_add, w1]
    exact e2
theorem links12_law : Law Try.prog cfg 4 [23, 24] := by
  intro h avs ha
  obtain ⟨x, r, rfl, a0, ha⟩ := args_cons ha
  obtain ⟨ov, r, rfl, a1, ha⟩ := args_cons ha
  obtain rfl := args_nil ha
  obtain ⟨V, S, T, rfl⟩ := arg_lay12 a0
  obtain ⟨ops, SO⟩ := arg_ops12 a1
  generalize hhb : h ++ [Blk.own [(Value.int .i64 V), (Value.int .i64 S), (Value.int .i64 T)]] = hb
  have lhb : hb.length = h.length + 1 := by rw [← hhb]; simp
  have ohb : ∀ y, y < h.length → hb[y]? = h[y]? := fun y hy => by rw [← hhb, List.getElem?_append_left hy]
  have c0 : hb[h.length]? = some (.own [(Value.int .i64 V), (Value.int .i64 S), (Value.int .i64 T)]) := by rw [← hhb]; exact List.getElem?_concat_length ..
  have rt := right12 ⟨0, h.length⟩ hb V S T
  have r0 : rdN hb h.length 0 3 = some [(Value.int .i64 V), (Value.int .i64 S), (Value.int .i64 T)] := by rw [rdN_at c0 (Nat.le_refl 3)]; rfl
  have len := fun {α : Type} (k : Value → Option α) => SO.len k
  have nt : (!true) = false := rfl
  have nf : (!false) = true := rfl
  rw [call_eq, F4_eq]
  unfold F4
  have aw := fun (m : Nat) => awake12 m hb
  by_cases hq : Rt V S T ∧ V ≤ 8
  · rw [decide_eq_true hq] at rt
    obtain ⟨hR, h8⟩ := hq
    have rs := hR
    unfold Rt at rs
    by_cases h60 : (ops.length : Int) > 60
    · exact ⟨_, by simp only [go_sem, Nat.reduceAdd, Nat.reduceLeDiff, Nat.reduceMul, Int.reduceBEq, Int.reduceBNe, Int.reduceLT, Int.reduceLE, Int.reduceGT, hhb, rt, r0, nt, len, aBin_gtr, h60, aw]; rfl⟩
    · obtain ⟨g1, a, b, s, e1, ab, O1, st10, r3, r10, H, l1, lab⟩ := lay12g (n := h.length) hR hb (by omega) c0
      have la := H.hb.th.la
      have sp := H.hb.sp
      have lq := lt_of H.hb.hq
      generalize hk0 : g1 ++ [Blk.own (B10 V S T a), Blk.mp (.one .i64) [], Blk.mp (.two .i64) [], Blk.own (qC V S T a (g1.length + 1) (g1.length + 1 + 1))] = k0 at H la lq
      have cA : k0[g1.length]? = some (.own (B10 V S T a)) := by rw [← hk0, List.getElem?_append_right (Nat.le_refl _)]; simp
      have ok0 : ∀ y, y < hb.length → k0[y]? = hb[y]? := fun y hy => by rw [← hk0, List.getElem?_append_left (by omega), O1.old y (by omega)]
      have lk0 : k0.length = g1.length + 4 := by rw [← hk0]; simp
      obtain ⟨f2, s2, mk2, E2, L2, ees2, les2, k2, e, H2, fm2⟩ := links_loop (n := h.length) (hb := hb) (h0 := h) (s2 := (Value.pointer (some ⟨h.length, 0, none⟩))) (s4 := (Value.bool false)) (s5 := (Value.pointer (some ⟨g1.length, 0, none⟩))) hR (SO.heap fun hl => ohb _ hl) (by omega) (by omega) (by omega) ops.length 0 k0 _ _ _ _ _ _ _ (by omega) H (by omega) ok0
      obtain ⟨vN, hV⟩ : ∃ vN : Nat, (vN : Int) = V := ⟨V.toNat, by omega⟩
      have d1 : k2[h.length]? = some (.own [(Value.int .i64 V), (Value.int .i64 S), (Value.int .i64 T)]) := (fm2.old _ (by omega) (by omega) (by omega) (by omega) (by omega)).trans ((ok0 _ (by omega)).trans c0)
      have d2 : k2[g1.length]? = some (.own (B10 V S T a)) := (fm2.old _ (by omega) (by omega) (by omega) (by omega) (by omega)).trans cA
      obtain ⟨k', e'⟩ := links_v (n := h.length) (h0 := h) (s4 := (Value.bool false)) (p1 := h.length) (p2 := g1.length) hR H2.hb.ls (by omega) hV vN 0 k2 (by omega) H2.hb.th d1 d2
      refine ⟨k', ?_⟩
      have z0 : ((0 : Nat) : Int) = 0 := rfl
      have rV : rd k2 h.length 0 = some ((Value.int .i64 V)) := by rw [rd_at d1]; rfl
      rw [z0] at e e'
      rw [hV] at e'
      have eJ : J4_1 C ⟨0, h.length⟩ h ((Value.pointer (some ⟨h.length, 0, none⟩))) ((Value.bool false)) ((Value.pointer (some ⟨g1.length, 0, none⟩))) k2 = some ((Value.bool true), k') := by
        unfold J4_1
        simp only [go_sem, Nat.reduceAdd, Nat.reduceLeDiff, Nat.reduceMul, Int.reduceBEq, Int.reduceBNe, Int.reduceLT, Int.reduceLE, Int.reduceGT, rV]
        exact e'
      simp only [go_sem, Nat.reduceAdd, Nat.reduceLeDiff, Nat.reduceMul, Int.reduceBEq, Int.reduceBNe, Int.reduceLT, Int.reduceLE, Int.reduceGT, hhb, rt, r0, nt, len, aBin_gtr, h60, e1, st10, r3, r10, mkE12, mkL12, bPlay12, hk0]
      exact e.trans eJ
  · rw [decide_eq_false hq] at rt
    exact ⟨_, by simp only [go_sem, Nat.reduceAdd, Nat.reduceLeDiff, Nat.reduceMul, Int.reduceBEq, Int.reduceBNe, Int.reduceLT, Int.reduceLE, Int.reduceGT, hhb, rt, r0, nf, aw]; rfl⟩
end Go.Det.E
