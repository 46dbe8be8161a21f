/- AdjBack: an edge that comes, and leaves. -/
import Derived.Test.YtibaodefgncbmaaQ6
import Derived.Test.YtibaodefgncbmaaEK
import Derived.Test.YtibaodefgncbmaaEV
set_option autoImplicit false
set_option linter.unusedVariables false
set_option linter.unusedSimpArgs false
namespace Go.Det.E
open Go.Proofs Go.Det Go.Det.U
attribute [local congr] bind_c cond_c
variable {md : Md} {h hb hh k h' : Heap} {a b n q eb lb c : Nat} {V S T x y z u v w i lv sl K SL U W LV : Int} {f f' : Int → Int} {s s' : NS} {mk : Int → Nat} {L L' : Int → Int → List Int} {E Em : EM} {ees les : List (MK × Value)} {ops : List Op12} {ov : Value}
/-- Low blocks do not matter. -/
theorem HB.hi (H : HB V S T f a b q eb lb s mk E Em L ees les h) (hc : c ≤ a ∧ c ≤ b) (o : ∀ y, c ≤ y → y < h.length → h'[y]? = h[y]?) : HB V S T f a b q eb lb s mk E Em L ees les h' := by
  obtain ⟨la, lb'⟩ := H.th.la
  have lq := lt_of H.hq
  have sp := H.sp
  exact ⟨H.th.old (o a (by omega) la) (o b (by omega) lb'), H.ee, H.ls, H.lm, (o q (by omega) lq).trans H.hq, H.me.keep (o _ (by omega) (by omega)), H.ml.keep (by omega) (o _ (by omega) (by omega)) (fun y hy hl => o y (by omega) hl), H.sp⟩
theorem HA.hi (H : HA V S T f a b q eb lb s mk E L ees les h) (hc : c ≤ a ∧ c ≤ b) (o : ∀ y, c ≤ y → y < h.length → h'[y]? = h[y]?) : HA V S T f a b q eb lb s mk E L ees les h' := ⟨H.hb.hi hc o, H.lk⟩
/-- An edge's four cells; none: zeros. -/
abbrev e4 (E : EM) (sl : Int) : List Value := [(Value.int .i64 (((E sl).getD (0, 0, 0)).1)), (Value.int .i64 (((E sl).getD (0, 0, 0)).2.1)), (Value.int .i64 (((E sl).getD (0, 0, 0)).2.2)), (Value.bool false)]
theorem look12 (Q : ME h eb ees E) (sl : Int) {α : Type} (kk : Value → Option α) : aLookup Try.prog 42 (.map (some eb)) ((Value.int .i64 sl)) true h kk = kk ((Value.tuple #[.agg (List.toArray (e4 E sl)), (Value.bool ((E sl).isSome))])) := by
  rw [aLookup_ok tyE zvE (key1 (x := sl)) Q.at_, Q.get]
  unfold e4
  cases E sl <;> rfl
/-- An edge's cells are laid. -/
theorem lay4 (hn : n ≤ h.length) (E : EM) (sl : Int) {α : Type} (kk : Heap → Option α) : st ⟨0, n⟩ 4 ((Value.pointer (some ⟨h.length, 0, none⟩))) (.agg (List.toArray (e4 E sl))) (h ++ [Blk.own [(Value.int .i64 0), (Value.int .i64 0), (Value.int .i64 0), (Value.bool false)]]) kk = kk (h ++ [Blk.own (e4 E sl)]) := by
  rw [st_N ⟨0, n⟩ 4 h.length 0 (e4 E sl) _ kk rfl rfl]
  have w : wrN ⟨0, n⟩ (h ++ [Blk.own [(Value.int .i64 0), (Value.int .i64 0), (Value.int .i64 0), (Value.bool false)]]) h.length 0 (e4 E sl) = some (h ++ [Blk.own (e4 E sl)]) := wrN_new0 (bs := []) (Nat.zero_le _) hn (by simp)
  rw [w]; rfl
/-- What each law of 12 lays at first, behind any blocks. -/
theorem lay12g (hR : Rt V S T) (hb : Heap) (hn : n < hb.length) (c0 : hb[n]? = some (.own [(Value.int .i64 V), (Value.int .i64 S), (Value.int .i64 T)])) :
    ∃ g1 a b s, C ⟨0, n⟩ 9 [(Value.agg #[(Value.int .i64 V), (Value.int .i64 S), (Value.int .i64 T)])] hb = some ((Value.tuple #[.agg (List.toArray (B10 V S T a)), (Value.bool true)]), g1) ∧ (hb.length ≤ a ∧ hb.length ≤ b) ∧ Old hb.length hb g1 ∧
      (∀ {α : Type} (kk : Heap → Option α), st ⟨0, n⟩ 10 ((Value.pointer (some ⟨g1.length, 0, none⟩))) (.agg (List.toArray (B10 V S T a))) (g1 ++ [Blk.own [(Value.int .i64 0), (Value.int .i64 0), (Value.int .i64 0), .nilIface, (Value.int .i64 0), (Value.int .i64 0), (Value.int .i64 0), (Value.int .i64 0), (Value.int .i64 0), .nilIface]]) kk = kk (g1 ++ [Blk.own (B10 V S T a)])) ∧
      rdN (g1 ++ [Blk.own (B10 V S T a)]) n 0 3 = some [(Value.int .i64 V), (Value.int .i64 S), (Value.int .i64 T)] ∧ rdN (g1 ++ [Blk.own (B10 V S T a)]) g1.length 0 10 = some (B10 V S T a) ∧ HA V S T (fun _ => 0) a b (g1.length + 1 + 2) (g1.length + 1) (g1.length + 1 + 1) s (fun _ => 0) E0 L0 [] [] (g1 ++ [Blk.own (B10 V S T a), Blk.mp (.one .i64) [], Blk.mp (.two .i64) [], Blk.own (qC V S T a (g1.length + 1) (g1.length + 1 + 1))]) ∧ hb.length ≤ g1.length ∧ (a < g1.length ∧ b < g1.length) := by
  obtain ⟨g1, a, b, s, e1, A1, M1, ab, O1⟩ := begun12 (n := n) (h := hb) hR (by omega)
  have l1 := O1.len
  refine ⟨g1, a, b, s, e1, ab, O1, fun kk => ?_, ?_, ?_, ?_, l1, A1.la⟩
  · rw [st_N ⟨0, n⟩ 10 g1.length 0 (B10 V S T a) _ kk rfl rfl]
    have w10 : wrN ⟨0, n⟩ (g1 ++ [Blk.own [(Value.int .i64 0), (Value.int .i64 0), (Value.int .i64 0), .nilIface, (Value.int .i64 0), (Value.int .i64 0), (Value.int .i64 0), (Value.int .i64 0), (Value.int .i64 0), .nilIface]]) g1.length 0 (B10 V S T a) = some (g1 ++ [Blk.own (B10 V S T a)]) := wrN_new0 (bs := []) (Nat.zero_le _) (by show n ≤ _; omega) (by simp)
    rw [w10]; rfl
  · rw [rdN_at (by rw [List.getElem?_append_left (by omega), O1.old _ (by omega)]; exact c0) (Nat.le_refl 3)]; rfl
  · rw [rdN_at (List.getElem?_concat_length ..) (by simp [Blk.cells])]; rfl
  · have la := A1.la
    have := HA.start hR (A1.app [Blk.own (B10 V S T a)]) M1
    have lg2 : (g1 ++ [Blk.own (B10 V S T a)]).length = g1.length + 1 := by simp
    rw [lg2, List.append_assoc] at this
    exact this
end Go.Det.E
/- How often slots are met in lists: plain. -/
namespace Go.Det.E
open Go.Proofs Go.Det Go.Det.U
variable {V S T x y z u v w i lv sl : Int} {f f' : Int → Int} {L L' : Int → Int → List Int} {E Em : EM} {D D' : List Int}
/-- How many sides of a slot are in a list. -/
def cnt (D : List Int) (s : Int) : Nat := D.count (2 * s + 0 + 1) + D.count (2 * s + 1 + 1)
theorem cnt_snoc (D : List Int) (x s : Int) : cnt (D ++ [x]) s = if slt x = s then cnt D s + 1 else cnt D s := by
  unfold cnt
  rw [List.count_append, List.count_append, List.count_singleton, List.count_singleton]
  by_cases h1 : x = 2 * s + 0 + 1
  · have h2 : ¬ (x = 2 * s + 1 + 1) := by omega
    rw [if_pos (show slt x = s by rw [h1]; exact slt0 s), h1]
    have e1 : (2 * s + 0 + 1 == 2 * s + 0 + 1) = true := by simp
    have e2 : (2 * s + 0 + 1 == 2 * s + 1 + 1) = false := by rw [beq_eq_false_iff_ne]; omega
    rw [e1, e2]
    simp; omega
  · by_cases h2 : x = 2 * s + 1 + 1
    · rw [if_pos (show slt x = s by rw [h2]; exact slt1 s), h2]
      have e1 : (2 * s + 1 + 1 == 2 * s + 0 + 1) = false := by rw [beq_eq_false_iff_ne]; omega
      have e2 : (2 * s + 1 + 1 == 2 * s + 1 + 1) = true := by simp
      rw [e1, e2]
      simp; omega
    · rw [if_neg (show ¬ slt x = s by unfold slt; omega)]
      have e1 : (x == 2 * s + 0 + 1) = false := by rw [beq_eq_false_iff_ne]; exact h1
      have e2 : (x == 2 * s + 1 + 1) = false := by rw [beq_eq_false_iff_ne]; exact h2
      rw [e1, e2]
      simp
theorem cnt_le (D : List Int) (s : Int) : cnt D s ≤ 2 * D.length := by
  unfold cnt
  have := List.count_le_length (a := 2 * s + 0 + 1) (l := D)
  have := List.count_le_length (a := 2 * s + 1 + 1) (l := D)
  omega
theorem count_one : ∀ {D : List Int}, D.Nodup → x ∈ D → D.count x = 1
  | y :: D, nd, h => by
    rw [List.nodup_cons] at nd
    by_cases e : y = x
    · subst e
      rw [List.count_cons_self, List.count_eq_zero.2 nd.1]
    · rw [List.count_cons_of_ne e]
      exact count_one nd.2 ((List.mem_cons.1 h).resolve_left fun q => e q.symm)
/-- All lists of a vertex below a level; of all vertices below one. -/
def DI (L : Int → Int → List Int) (v : Int) : Nat → List Int
  | 0 => []
  | j + 1 => DI L v j ++ L v j
def DV (L : Int → Int → List Int) (N : Nat) : Nat → List Int
  | 0 => []
  | w + 1 => DV L N w ++ DI L w N
theorem DI_mem : ∀ {j : Nat}, x ∈ DI L v j ↔ ∃ i : Nat, i < j ∧ x ∈ L v i
  | 0 => ⟨fun h => (nomatch h), fun ⟨i, h, _⟩ => absurd h (Nat.not_lt_zero i)⟩
  | j + 1 => by
    show x ∈ DI L v j ++ L v j ↔ _
    rw [List.mem_append, DI_mem]
    refine ⟨fun h => ?_, fun ⟨i, h1, h2⟩ => ?_⟩
    · rcases h with ⟨i, h1, h2⟩ | h
      · exact ⟨i, by omega, h2⟩
      · exact ⟨j, by omega, h⟩
    · by_cases e : i = j
      · subst e; exact .inr h2
      · exact .inl ⟨i, by omega, h2⟩
theorem DV_mem {N : Nat} : ∀ {w : Nat}, x ∈ DV L N w ↔ ∃ v i : Nat, v < w ∧ i < N ∧ x ∈ L v i
  | 0 => ⟨fun h => (nomatch h), fun ⟨v, i, h, _⟩ => absurd h (Nat.not_lt_zero v)⟩
  | w + 1 => by
    show x ∈ DV L N w ++ DI L w N ↔ _
    rw [List.mem_append, DV_mem, DI_mem]
    refine ⟨fun h => ?_, fun ⟨v, i, h1, h2, h3⟩ => ?_⟩
    · rcases h with ⟨v, i, h1, h2, h3⟩ | ⟨i, h1, h2⟩
      · exact ⟨v, i, by omega, h2, h3⟩
      · exact ⟨w, i, by omega, h1, h2⟩
    · by_cases e : v = w
      · subst e; exact .inr ⟨i, h2, h3⟩
      · exact .inl ⟨v, i, by omega, h2, h3⟩
theorem DI_nd (Q : LS V S T f L) : ∀ (j : Nat), (DI L v j).Nodup
  | 0 => List.nodup_nil
  | j + 1 => by
    show (DI L v j ++ L v j).Nodup
    rw [List.nodup_append]
    refine ⟨DI_nd Q j, Q.nd v j, fun a ha b hb e => ?_⟩
    subst e
    obtain ⟨i, h1, h2⟩ := DI_mem.1 ha
    have := (Q.ap _ _ _ _ _ h2 hb).2
    omega
theorem DV_nd (Q : LS V S T f L) {N : Nat} : ∀ (w : Nat), (DV L N w).Nodup
  | 0 => List.nodup_nil
  | w + 1 => by
    show (DV L N w ++ DI L w N).Nodup
    rw [List.nodup_append]
    refine ⟨DV_nd Q w, DI_nd Q N, fun a ha b hb e => ?_⟩
    subst e
    obtain ⟨v, i, h1, h2, h3⟩ := DV_mem.1 ha
    obtain ⟨j, h4, h5⟩ := DI_mem.1 hb
    have := (Q.ap _ _ _ _ _ h3 h5).1
    omega
theorem DI_len (Q : LS V S T f L) (hR : Rt V S T) : ∀ (j : Nat), (DI L v j).length ≤ j * 96
  | 0 => by show 0 ≤ _; omega
  | j + 1 => by
    show (DI L v j ++ L v j).length ≤ _
    have h1 := DI_len Q hR j
    have h2 := Q.len hR v j
    have rs := hR
    unfold Rt at rs
    rw [List.length_append]; omega
theorem DV_len (Q : LS V S T f L) (hR : Rt V S T) {N : Nat} (hN : N ≤ 5) : ∀ (w : Nat), (DV L N w).length ≤ w * 480
  | 0 => by show 0 ≤ _; omega
  | w + 1 => by
    show (DV L N w ++ DI L w N).length ≤ _
    have h1 := DV_len Q hR hN w
    have h2 := DI_len Q hR (v := (w : Int)) N
    rw [List.length_append]; omega
/-- All lists: each edge's sides are met, no other ones. -/
theorem cnt_all (Q : LS V S T f L) (K : LK E L) {N w : Nat} (hN : (N : Int) = Lv V) (hw : (w : Int) = V) (s : Int) : cnt (DV L N w) s = if (E s).isSome then 2 else 0 := by
  have all : ∀ v i x, x ∈ L v i → x ∈ DV L N w := fun v i x hx => by
    have := (Q.rg v i x hx).2
    have e1 : ((v.toNat : Nat) : Int) = v := by omega
    have e2 : ((i.toNat : Nat) : Int) = i := by omega
    exact DV_mem.2 ⟨v.toNat, i.toNat, by omega, by omega, by rw [e1, e2]; exact hx⟩
  cases hE : E s with
  | none =>
    have no : ∀ x, slt x = s → x ∉ DV L N w := fun x e h => by
      obtain ⟨v, i, _, _, h3⟩ := DV_mem.1 h
      obtain ⟨u, w', e', _⟩ := K.lk _ _ _ h3
      rw [e, hE] at e'; cases e'
    unfold cnt
    rw [List.count_eq_zero.2 (no _ (slt0 s)), List.count_eq_zero.2 (no _ (slt1 s))]; rfl
  | some e =>
    obtain ⟨u, v, lv⟩ := e
    obtain ⟨k1, k2⟩ := K.kl _ _ _ _ hE
    unfold cnt
    rw [count_one (DV_nd Q w) (all _ _ _ k1), count_one (DV_nd Q w) (all _ _ _ k2)]; rfl
/-- The counts of all slots. -/
def csI (D : List Int) (N : Nat) : List Int := (List.range N).map fun (t : Nat) => ((cnt D (t : Int) : Nat) : Int)
theorem csI_len (D : List Int) (N : Nat) : (csI D N).length = N := by unfold csI; simp
theorem csI_get (D : List Int) {N t : Nat} (h : t < N) : (csI D N)[t]? = some ((cnt D t : Nat) : Int) := by
  unfold csI; rw [List.getElem?_map, List.getElem?_range h]; rfl
theorem csI_set (D : List Int) {N t : Nat} (h : t < N) {x : Int} (hx : slt x = t) : (csI D N).set t ((cnt D t : Nat) + 1 : Int) = csI (D ++ [x]) N := by
  apply List.ext_getElem?
  intro j
  by_cases hj : j < N
  · rw [csI_get _ hj, cnt_snoc]
    by_cases e : t = j
    · subst e
      rw [List.getElem?_set_self (by rw [csI_len]; exact h), if_pos hx]; rfl
    · rw [List.getElem?_set_ne e, csI_get _ hj, if_neg (by omega)]
  · rw [List.getElem?_eq_none (by rw [List.length_set, csI_len]; omega), List.getElem?_eq_none (by rw [csI_len]; omega)]
theorem csI_nil : ∀ (N : Nat), csI [] N = List.replicate N 0 := fun N => by
  apply List.ext_getElem?
  intro j
  by_cases hj : j < N
  · rw [csI_get _ hj, List.getElem?_replicate_of_lt hj]; rfl
  · rw [List.getElem?_eq_none (by rw [csI_len]; omega), List.getElem?_eq_none (by simp; omega)]
end Go.Det.E

/- AdjLevels. -/
namespace Go.Det.E
open Go.Proofs Go.Det Go.Det.U
attribute [local congr] bind_c cond_c
variable {md : Md} {h hb hh k h' : Heap} {a b n q eb lb sb c p1 p2 SN : Nat} {V S T x y z u v w i lv sl K SL U W LV : Int} {f f' : Int → Int} {s s' : NS} {mk : Int → Nat} {L L' : Int → Int → List Int} {E Em : EM} {ees les : List (MK × Value)} {ops : List Op12} {ov : Value} {D : List Int}
theorem levels_loop {h0 : Heap} {s2 s4 : Value} (hR : Rt V S T) (SO : Sl hb 5 encO12 ov ops) (hl : ops.length ≤ 60) (hn : n ≤ a ∧ n ≤ eb) (hba : hb.length ≤ a ∧ hb.length ≤ b ∧ hb.length ≤ eb ∧ hb.length ≤ lb) : ∀ (m i : Nat) (k : Heap) (f : Int → Int) (s : NS) (mk : Int → Nat) (E : EM) (L : Int → Int → List Int) (ees les : List (MK × Value)), i + m = ops.length → HA V S T f a b q eb lb s mk E L ees les k → hb.length ≤ k.length → (∀ y, y < hb.length → k[y]? = hb[y]?) →
    ∃ f' s' mk' E' L' ees' les' k', J6_0 C ⟨0, n⟩ h0 s2 s4 ((Value.pointer (some ⟨q, 0, none⟩))) ov ((Value.int .i64 ((ops.length : Int)))) ((Value.int .i64 ((i : Int)))) k = J6_1 C ⟨0, n⟩ h0 s2 s4 ((Value.pointer (some ⟨q, 0, none⟩))) k' ∧ HA V S T f' a b q eb lb s' mk' E' L' ees' les' k' ∧ Fm a b eb lb k k' := by
  intro m
  induction m with
  | zero =>
    intro i k f s mk E L ees les hi H hlk ok
    obtain rfl : i = ops.length := by omega
    refine ⟨f, s, mk, E, L, ees, les, k, ?_, H, Fm.refl⟩
    rw [J6_0_step]
    unfold Jr6_0
    simp only [go_sem, Nat.reduceAdd, Nat.reduceLeDiff, Nat.reduceMul, Int.reduceBEq, Int.reduceBNe, Int.reduceLT, Int.reduceLE, Int.reduceGT, aBin_lss, Int.lt_irrefl, Jk6_0]
  | succ m ih =>
    intro i k f s mk E L ees les hi H hlk ok
    have hlt : (i : Int) < (ops.length : Int) := by omega
    have w : IntKind.wrap .i64 ((i : Int) + 1) = ((i + 1 : Nat) : Int) := by rw [wi (by omega) (by omega)]; rfl
    obtain ⟨o, ho⟩ : ∃ o, ops[i]? = some o := ⟨ops[i]'(by omega), List.getElem?_eq_getElem (by omega)⟩
    have S1 : Sl k 5 encO12 ov ops := SO.heap fun hl => ok _ hl
    have ix := fun {α : Type} (kk : Value → Option α) => S1.ix (i := (i : Int)) (by omega) hlt kk
    have el := S1.elem ho
    simp only [Int.toNat_natCast] at ix
    have la := H.hb.th.la
    have st5 := fun {α : Type} (kk : Heap → Option α) => st_N ⟨0, n⟩ 5 k.length 0 (encO12 o) (k ++ [Blk.own [(Value.int .i64 0), (Value.int .i64 0), (Value.int .i64 0), (Value.int .i64 0), (Value.int .i64 0)]]) kk rfl rfl
    have w5 : wrN ⟨0, n⟩ (k ++ [Blk.own [(Value.int .i64 0), (Value.int .i64 0), (Value.int .i64 0), (Value.int .i64 0), (Value.int .i64 0)]]) k.length 0 (encO12 o) = some (k ++ [Blk.own (encO12 o)]) := wrN_new0 (bs := []) (Nat.zero_le _) (by show n ≤ _; omega) (by simp)
    have r5 : rdN (k ++ [Blk.own (encO12 o)]) k.length 0 5 = some (encO12 o) := by rw [rdN_new0]; rfl
    have H1 : HA V S T f a b q eb lb s mk E L ees les (k ++ [Blk.own (encO12 o)]) := ⟨H.hb.fm fun y hy => List.getElem?_append_left hy, H.lk⟩
    have l1 : (k ++ [Blk.own (encO12 o)]).length = k.length + 1 := by simp
    have o1 : ∀ y, y < k.length → (k ++ [Blk.own (encO12 o)])[y]? = k[y]? := fun y hy => List.getElem?_append_left hy
    obtain ⟨f2, s2, mk2, E2, L2, ees2, les2, k2, e2, H2, fm2, _⟩ := step12 (n := n) hR H1 hn o.k o.sl o.u o.w o.lv
    have l2 := fm2.len
    obtain ⟨f3, s3, mk3, E3, L3, ees3, les3, k', e4, H3, fm3⟩ := ih (i + 1) k2 _ _ _ _ _ _ _ (by omega) H2 (by omega) (fun y hy => by rw [fm2.old y (by omega) (by omega) (by omega) (by omega) (by omega), o1 y (by omega), ok y hy])
    refine ⟨f3, s3, mk3, E3, L3, ees3, les3, k', ?_, H3, ((Fm.app _).trans fm2).trans fm3⟩
    rw [J6_0_step]
    unfold Jr6_0
    simp only [go_sem, Nat.reduceAdd, Nat.reduceLeDiff, Nat.reduceMul, Int.reduceBEq, Int.reduceBNe, Int.reduceLT, Int.reduceLE, Int.reduceGT, aBin_lss, hlt, ixSV_p, ix, el, st5, w5, r5, e2, aBin_add, w]
    exact e4
/-- The counts beside the play. -/
structure LH (V S T : Int) (f : Int → Int) (a b q eb lb sb SN : Nat) (s : NS) (mk : Int → Nat) (E : EM) (L : Int → Int → List Int) (ees les : List (MK × Value)) (D : List Int) (k : Heap) : Prop where
  ha : HA V S T f a b q eb lb s mk E L ees les k
  sn : k[sb]? = some (.own ((csI D SN).map (Value.int .i64)))
theorem LH.app (H : LH V S T f a b q eb lb sb SN s mk E L ees les D k) (bs : Heap) : LH V S T f a b q eb lb sb SN s mk E L ees les D (k ++ bs) :=
  ⟨⟨H.ha.hb.fm fun y hy => List.getElem?_append_left hy, H.ha.lk⟩, (List.getElem?_append_left (lt_of H.sn)).trans H.sn⟩
theorem LH.bump (H : LH V S T f a b q eb lb sb SN s mk E L ees les D k) (hs : q < sb) (far : ∀ w j, (mGet les [w, j]).getD nil12 = nil12 ∨ slB ((mGet les [w, j]).getD nil12) ≠ sb) (D' : List Int) : LH V S T f a b q eb lb sb SN s mk E L ees les D' (k.set sb (.own ((csI D' SN).map (Value.int .i64)))) := by
  have sp := H.ha.hb.sp
  have o : ∀ y, y ≠ sb → (k.set sb (.own ((csI D' SN).map (Value.int .i64))))[y]? = k[y]? := fun y hy => List.getElem?_set_ne (Ne.symm hy)
  exact ⟨⟨⟨H.ha.hb.th.old (o a (by omega)) (o b (by omega)), H.ha.hb.ee, H.ha.hb.ls, H.ha.hb.lm, (o q (by omega)).trans H.ha.hb.hq, H.ha.hb.me.keep (o eb (by omega)), ⟨(o lb (by omega)).trans H.ha.hb.ml.at_, fun w j => (H.ha.hb.ml.get w j).keep ((far w j).imp id fun z => o _ z)⟩, sp⟩, H.ha.lk⟩, List.getElem?_set_self (lt_of H.sn)⟩
theorem flatZ : ∀ (l : List Int), l.map (Value.int .i64) = flat eZ l
  | [] => rfl
  | x :: r => by
    show _ :: r.map (Value.int .i64) = _
    rw [flatZ r, flat_cons]; rfl
set_option maxHeartbeats 4000000 in
theorem lev_t {s2 s4 s57 s58 s62 s63 lv5 : Value} (hR : Rt V S T) (hn : n ≤ a ∧ n ≤ eb) (hs : q < sb) (hSN : (SN : Int) = S) (hi : In V v i) (far : ∀ w j, (mGet les [w, j]).getD nil12 = nil12 ∨ slB ((mGet les [w, j]).getD nil12) ≠ sb) (hl5 : slB lv5 ≠ sb) {l : List Int} (hl : l = L v i) (hD : (D ++ l).length ≤ 20000) : ∀ (m t : Nat) (k : Heap), t + m = l.length → LH V S T f a b q eb lb sb SN s mk E L ees les (D ++ l.take t) k → Sl k 1 eZ lv5 (l.map slt) →
    ∃ k', J6_2b0b0 C ⟨0, n⟩ s2 s4 ((Value.pointer (some ⟨q, 0, none⟩))) ((Value.slice (some ⟨sb, 0, none⟩) SN 1)) ((Value.int .i64 v)) ((Value.int .i64 i)) s57 s58 s62 s63 lv5 ((Value.int .i64 ((l.length : Int)))) ((Value.int .i64 ((t : Int)))) k = (aBin Try.prog .add 3 s63 ((Value.int .i64 1)) fun v1 => some (.inl ((s2, s4, (Value.pointer (some ⟨q, 0, none⟩)), (Value.slice (some ⟨sb, 0, none⟩) SN 1), (Value.int .i64 v), s57, s58, s62, v1), k'))) ∧ LH V S T f a b q eb lb sb SN s mk E L ees les (D ++ l) k' ∧ k.length ≤ k'.length ∧ ∀ y, y < k.length → y ≠ sb → k'[y]? = k[y]? := by
  have rs := hR
  unfold Rt at rs
  intro m
  induction m with
  | zero =>
    intro t k ht H X
    obtain rfl : t = l.length := by omega
    rw [List.take_length] at H
    refine ⟨k, ?_, H, Nat.le_refl _, fun _ _ _ => rfl⟩
    rw [J6_2b0b0_step]
    unfold Jr6_2b0b0
    simp only [go_sem, Nat.reduceAdd, Nat.reduceLeDiff, Nat.reduceMul, Int.reduceBEq, Int.reduceBNe, Int.reduceLT, Int.reduceLE, Int.reduceGT, aBin_lss, Int.lt_irrefl, Jk6_2b0b0]
  | succ m ih =>
    intro t k ht H X
    rw [List.length_append] at hD
    have hlt : (t : Int) < (l.length : Int) := by omega
    have w1 : IntKind.wrap .i64 ((t : Int) + 1) = ((t + 1 : Nat) : Int) := by rw [wi (by omega) (by omega)]; rfl
    have hy : l[t]? = some (l[t]'(by omega)) := List.getElem?_eq_getElem (by omega)
    have tk : l.take (t + 1) = l.take t ++ [l[t]'(by omega)] := by rw [List.take_add_one, hy]; rfl
    generalize l[t]'(by omega) = x at hy tk
    have hm : x ∈ L v i := by rw [← hl]; exact List.mem_of_getElem? hy
    have hx := (H.ha.hb.ls.rg v i x hm).1
    have hxs : 0 ≤ slt x ∧ slt x < S := by unfold slt; omega
    obtain ⟨sn, hsn⟩ : ∃ sn : Nat, slt x = sn := ⟨(slt x).toNat, by omega⟩
    obtain ⟨u, w, hE, hside⟩ := H.ha.lk.lk v i x hm
    obtain ⟨ix, rx⟩ := Sl.getI X (k := t) (x := slt x) (by rw [List.getElem?_map, hy]; rfl)
    rw [hsn] at rx hE
    have qE := qEB H.ha.hb.hq
    have lk1 := fun {α : Type} (kk : Value → Option α) => look12 H.ha.hb.me (sn : Int) kk
    have e4e : e4 E (sn : Int) = [(Value.int .i64 u), (Value.int .i64 w), (Value.int .i64 i), (Value.bool false)] := by unfold e4; rw [hE]; rfl
    have hs1 : (E (sn : Int)).isSome = true := by rw [hE]; rfl
    rw [e4e, hs1] at lk1
    have lq := lt_of H.ha.hb.hq
    have sp := H.ha.hb.sp
    have lsn := lt_of H.sn
    have ly := fun {α : Type} (kk : Heap → Option α) => lay4 (n := n) (h := k) (by omega) E (sn : Int) kk
    rw [e4e] at ly
    have H1 := H.app [Blk.own [(Value.int .i64 u), (Value.int .i64 w), (Value.int .i64 i), (Value.bool false)]]
    have ck1 : (k ++ [Blk.own [(Value.int .i64 u), (Value.int .i64 w), (Value.int .i64 i), (Value.bool false)]])[k.length]? = some (.own [(Value.int .i64 u), (Value.int .i64 w), (Value.int .i64 i), (Value.bool false)]) := List.getElem?_concat_length ..
    have l1 : (k ++ [Blk.own [(Value.int .i64 u), (Value.int .i64 w), (Value.int .i64 i), (Value.bool false)]]).length = k.length + 1 := by simp
    have o1 : ∀ y, y < k.length → (k ++ [Blk.own [(Value.int .i64 u), (Value.int .i64 w), (Value.int .i64 i), (Value.bool false)]])[y]? = k[y]? := fun y hy => List.getElem?_append_left hy
    generalize k ++ [Blk.own [(Value.int .i64 u), (Value.int .i64 w), (Value.int .i64 i), (Value.bool false)]] = k1 at ly H1 ck1 l1 o1
    have r0 : rd k1 k.length 0 = some ((Value.int .i64 u)) := by rw [rd_at ck1]; rfl
    have r1 : rd k1 k.length 1 = some ((Value.int .i64 w)) := by rw [rd_at ck1]; rfl
    have r2 : rd k1 k.length 2 = some ((Value.int .i64 i)) := by rw [rd_at ck1]; rfl
    have Z : Sl k1 1 eZ ((Value.slice (some ⟨sb, 0, none⟩) SN 1)) (csI (D ++ l.take t) SN) := Sl.whole eZ_len H1.sn (flatZ _) (csI_len _ _).symm
    have hsl : sn < SN := by omega
    obtain ⟨ixz, rz⟩ := Sl.getI Z (csI_get (D ++ l.take t) hsl)
    have ixz' : ∀ {α : Type} (kk : Value → Option α), ixS 1 ((Value.slice (some ⟨sb, 0, none⟩) SN 1)) (sn : Int) kk = kk ((Value.pointer (some ⟨sb, sn, none⟩))) := fun kk => by rw [ixz kk]; show kk ((Value.pointer (some ⟨sb, 0 + sn, none⟩))) = _; rw [Nat.zero_add]
    have rz' : rd k1 sb sn = some ((Value.int .i64 (((cnt (D ++ l.take t) sn : Nat) : Int)))) := by rw [← rz]; show _ = rd k1 sb (0 + sn); rw [Nat.zero_add]
    have cl := cnt_le (D ++ l.take t) sn
    rw [List.length_append, List.length_take] at cl
    have wc : IntKind.wrap .i64 (((cnt (D ++ l.take t) sn : Nat) : Int) + 1) = ((cnt (D ++ l.take t) sn : Nat) : Int) + 1 := wi (by omega) (by omega)
    have ww : wrN ⟨0, n⟩ k1 sb sn [(Value.int .i64 (((cnt (D ++ l.take t) sn : Nat) : Int) + 1))] = some (k1.set sb (.own ((csI (D ++ l.take (t + 1)) SN).map (Value.int .i64)))) := by
      rw [wr_own H1.sn (Nat.zero_le _) rfl (by rw [List.length_map, csI_len]; exact hsl), tk, ← List.append_assoc, ← csI_set _ hsl hsn, List.map_set]
    have H2 := H1.bump hs far (D ++ l.take (t + 1))
    have o2 : ∀ y, y ≠ sb → (k1.set sb (.own ((csI (D ++ l.take (t + 1)) SN).map (Value.int .i64))))[y]? = k1[y]? := fun y hy => List.getElem?_set_ne (Ne.symm hy)
    have l2 : (k1.set sb (.own ((csI (D ++ l.take (t + 1)) SN).map (Value.int .i64)))).length = k1.length := by simp
    generalize k1.set sb (.own ((csI (D ++ l.take (t + 1)) SN).map (Value.int .i64))) = k2 at ww H2 o2 l2
    obtain ⟨k', e3, H3, l3, o3⟩ := ih (t + 1) k2 (by omega) H2 (X.heap fun hl => (o2 _ hl5).trans (o1 _ hl))
    refine ⟨k', ?_, H3, by omega, fun y h1 h2 => by rw [o3 y (by omega) h2, o2 y h2, o1 y h1]⟩
    have nt : (!true) = false := rfl
    have zi : (i != i) = false := by simp
    have zv : (u != v && w != v) = false := by
      rcases hside with ⟨_, q⟩ | ⟨_, q⟩
      · rw [q]; simp
      · rw [q]; simp
    rw [J6_2b0b0_step]
    unfold Jr6_2b0b0
    by_cases hu : u = v
    · have zu : (u != v) = false := by rw [hu]; simp
      simp only [go_sem, Nat.reduceAdd, Nat.reduceLeDiff, Nat.reduceMul, Int.reduceBEq, Int.reduceBNe, Int.reduceLT, Int.reduceLE, Int.reduceGT, aBin_lss, hlt, ixSV_p, ix, rx, okNil, okP_p, qE, lk1, ly, nt, r2, aBin_neq, zi, r0, zu, ixz', rz', wc, st_1i, ww, aBin_add, w1]
      exact e3
    · have zu : (u != v) = true := by rw [bne_iff_ne]; exact hu
      have zw : (w != v) = false := by rw [zu] at zv; simpa using zv
      simp only [go_sem, Nat.reduceAdd, Nat.reduceLeDiff, Nat.reduceMul, Int.reduceBEq, Int.reduceBNe, Int.reduceLT, Int.reduceLE, Int.reduceGT, aBin_lss, hlt, ixSV_p, ix, rx, okNil, okP_p, qE, lk1, ly, nt, r2, aBin_neq, zi, r0, zu, r1, zw, ixz', rz', wc, st_1i, ww, aBin_add, w1]
      exact e3
end Go.Det.E

/- AdjLevels: its end. -/
namespace Go.Det.E
open Go.Proofs Go.Det Go.Det.U
attribute [local congr] bind_c cond_c
variable {md : Md} {h hb hh k h' : Heap} {a b n q eb lb sb c p1 p2 SN lN vN : Nat} {V S T x y z u v w i lv sl K SL U W LV : Int} {f f' : Int → Int} {s s' : NS} {mk : Int → Nat} {L L' : Int → Int → List Int} {E Em : EM} {ees les : List (MK × Value)} {ops : List Op12} {ov : Value} {D : List Int}
theorem lev_i {s2 s4 s57 s58 : Value} (hR : Rt V S T) (hn : n ≤ a ∧ n ≤ eb) (hs : q < sb) (hSN : (SN : Int) = S) (hv : 0 ≤ v ∧ v < V) (hl : (lN : Int) = Lv V) (far : ∀ w j, (mGet les [w, j]).getD nil12 = nil12 ∨ slB ((mGet les [w, j]).getD nil12) ≠ sb) (hD : D.length ≤ 10000) : ∀ (m j : Nat) (k : Heap), j + m = lN → LH V S T f a b q eb lb sb SN s mk E L ees les (D ++ DI L v j) k →
    ∃ k', J6_2b0 C ⟨0, n⟩ s2 s4 ((Value.pointer (some ⟨q, 0, none⟩))) ((Value.slice (some ⟨sb, 0, none⟩) SN 1)) ((Value.int .i64 v)) s57 s58 ((Value.int .i64 ((lN : Int)))) ((Value.int .i64 ((j : Int)))) k = (aBin Try.prog .add 3 s58 ((Value.int .i64 1)) fun v1 => some (.inl ((s2, s4, (Value.pointer (some ⟨q, 0, none⟩)), (Value.slice (some ⟨sb, 0, none⟩) SN 1), s57, v1), k'))) ∧ LH V S T f a b q eb lb sb SN s mk E L ees les (D ++ DI L v lN) k' ∧ k.length ≤ k'.length ∧ ∀ y, y < k.length → y ≠ a → y ≠ b → y ≠ sb → k'[y]? = k[y]? := by
  have rs := hR
  unfold Rt at rs
  have rL := Lv_le hR
  intro m
  induction m with
  | zero =>
    intro j k hj H
    obtain rfl : j = lN := by omega
    refine ⟨k, ?_, H, Nat.le_refl _, fun _ _ _ _ _ => rfl⟩
    rw [J6_2b0_step]
    unfold Jr6_2b0
    simp only [go_sem, Nat.reduceAdd, Nat.reduceLeDiff, Nat.reduceMul, Int.reduceBEq, Int.reduceBNe, Int.reduceLT, Int.reduceLE, Int.reduceGT, aBin_lss, Int.lt_irrefl, Jk6_2b0]
  | succ m ih =>
    intro j k hj H
    have hlt : (j : Int) < (lN : Int) := by omega
    have w1 : IntKind.wrap .i64 ((j : Int) + 1) = ((j + 1 : Nat) : Int) := by rw [wi (by omega) (by omega)]; rfl
    have hi : In V v (j : Int) := ⟨hv, by omega, by omega⟩
    have sp := H.ha.hb.sp
    have q0 := q10 H.ha.hb.hq
    have lsn := lt_of H.sn
    obtain ⟨v5, k1, e1, A1, S1, W1⟩ := adList (md := ⟨0, n⟩) hR H.ha.hb.th H.ha.hb.ls (Nat.zero_le _) (Nat.zero_le _) hi
    have H1 : LH V S T f a b q eb lb sb SN s mk E L ees les (D ++ DI L v j) k1 := ⟨H.ha.wk A1 W1.old, (W1.old sb lsn (by omega) (by omega)).trans H.sn⟩
    have X := S1.sl
    have lenX := fun {α : Type} (kk : Value → Option α) => X.len kk
    rw [List.length_map] at lenX
    have l1 := W1.len
    have l5 : slB v5 ≠ sb := by
      rcases S1.lo with q | q
      · rw [q]; show 0 ≠ sb; omega
      · omega
    have d1 := DI_len H.ha.hb.ls hR (v := v) j
    have d2 := H.ha.hb.ls.len hR v j
    obtain ⟨k2, e2, H2, l2, o2⟩ := lev_t (n := n) (s2 := s2) (s4 := s4) (s57 := s57) (s58 := s58) (s62 := (Value.int .i64 ((lN : Int)))) (s63 := (Value.int .i64 ((j : Int)))) (D := D ++ DI L v j) hR hn hs hSN hi far l5 rfl (by rw [List.length_append, List.length_append]; omega) (L v j).length 0 k1 (by omega) (by rw [List.take_zero, List.append_nil]; exact H1) X
    have z0 : ((0 : Nat) : Int) = 0 := rfl
    rw [z0] at e2
    rw [List.append_assoc] at H2
    obtain ⟨k', e3, H3, l3, o3⟩ := ih (j + 1) k2 (by omega) H2
    refine ⟨k', ?_, H3, by omega, fun y h1 h2 h3 h4 => by rw [o3 y (by omega) h2 h3 h4, o2 y (by omega) h4, W1.old y h1 h2 h3]⟩
    rw [J6_2b0_step]
    unfold Jr6_2b0
    simp only [go_sem, Nat.reduceAdd, Nat.reduceLeDiff, Nat.reduceMul, Int.reduceBEq, Int.reduceBNe, Int.reduceLT, Int.reduceLE, Int.reduceGT, aBin_lss, hlt, okNil, okP_p, q0, e1, lenX, e2, aBin_add, w1]
    exact e3
/-- The last round: each slot's count. -/
theorem lev_s {h0 : Heap} {s4 : Value} (hR : Rt V S T) (hn : n ≤ a ∧ n ≤ eb) (hs : q < sb) (hSN : (SN : Int) = S) (hall : ∀ s : Int, cnt D s = if (E s).isSome then 2 else 0) : ∀ (m t : Nat) (k : Heap), t + m = SN → LH V S T f a b q eb lb sb SN s mk E L ees les D k →
    ∃ k', J6_4 C ⟨0, n⟩ h0 s4 ((Value.pointer (some ⟨q, 0, none⟩))) ((Value.slice (some ⟨sb, 0, none⟩) SN 1)) ((Value.int .i64 ((SN : Int)))) ((Value.int .i64 ((t : Int)))) k = some ((Value.bool true), k') := by
  have rs := hR
  unfold Rt at rs
  intro m
  induction m with
  | zero =>
    intro t k ht H
    obtain rfl : t = SN := by omega
    have aw := fun (m : Nat) => awake12 m k
    refine ⟨k.take h0.length, ?_⟩
    rw [J6_4_step]
    unfold Jr6_4
    simp only [go_sem, Nat.reduceAdd, Nat.reduceLeDiff, Nat.reduceMul, Int.reduceBEq, Int.reduceBNe, Int.reduceLT, Int.reduceLE, Int.reduceGT, aBin_lss, Int.lt_irrefl, Jk6_4, aw]
  | succ m ih =>
    intro t k ht H
    have hlt : (t : Int) < (SN : Int) := by omega
    have w1 : IntKind.wrap .i64 ((t : Int) + 1) = ((t + 1 : Nat) : Int) := by rw [wi (by omega) (by omega)]; rfl
    have Z : Sl k 1 eZ ((Value.slice (some ⟨sb, 0, none⟩) SN 1)) (csI D SN) := Sl.whole eZ_len H.sn (flatZ _) (csI_len _ _).symm
    obtain ⟨ix, rx⟩ := Sl.getI Z (csI_get D (t := t) (by omega))
    have rx' : rd k sb t = some ((Value.int .i64 (((cnt D t : Nat) : Int)))) := by rw [← rx]; show _ = rd k sb (0 + t); rw [Nat.zero_add]
    have ix' : ∀ {α : Type} (kk : Value → Option α), ixS 1 ((Value.slice (some ⟨sb, 0, none⟩) SN 1)) (t : Int) kk = kk ((Value.pointer (some ⟨sb, t, none⟩))) := fun kk => by rw [ix kk]; show kk ((Value.pointer (some ⟨sb, 0 + t, none⟩))) = _; rw [Nat.zero_add]
    have qE := qEB H.ha.hb.hq
    have lk1 := fun {α : Type} (kk : Value → Option α) => look12 H.ha.hb.me (t : Int) kk
    have sp := H.ha.hb.sp
    have lq := lt_of H.ha.hb.hq
    have ly := fun {α : Type} (kk : Heap → Option α) => lay4 (n := n) (h := k) (by omega) E (t : Int) kk
    obtain ⟨k', e⟩ := ih (t + 1) _ (by omega) (H.app [Blk.own (e4 E (t : Int))])
    refine ⟨k', ?_⟩
    have hc := hall (t : Int)
    have nt : (!true) = false := rfl
    have nf : (!false) = true := rfl
    rw [J6_4_step]
    unfold Jr6_4
    cases hE : (E (t : Int)).isSome
    · rw [hE] at hc lk1
      have c0 : ((cnt D t : Nat) : Int) = 0 := by rw [hc]; rfl
      rw [c0] at rx'
      have z2 : ((0 : Int) == 2) = false := rfl
      have z0 : ((0 : Int) != 0) = false := rfl
      have bz : (false != false) = false := rfl
      simp only [go_sem, Nat.reduceAdd, Nat.reduceLeDiff, Nat.reduceMul, Int.reduceBEq, Int.reduceBNe, Int.reduceLT, Int.reduceLE, Int.reduceGT, aBin_lss, hlt, ixSV_p, ix', rx', okNil, okP_p, qE, lk1, ly, z2, aBin_neqB u4'', bz, aUn_not, nf, aBin_neq, z0, aBin_add, w1]
      exact e
    · rw [hE] at hc lk1
      have c0 : ((cnt D t : Nat) : Int) = 2 := by rw [hc]; rfl
      rw [c0] at rx'
      have z2 : ((2 : Int) == 2) = true := rfl
      have bz : (true != true) = false := rfl
      simp only [go_sem, Nat.reduceAdd, Nat.reduceLeDiff, Nat.reduceMul, Int.reduceBEq, Int.reduceBNe, Int.reduceLT, Int.reduceLE, Int.reduceGT, aBin_lss, hlt, ixSV_p, ix', rx', okNil, okP_p, qE, lk1, ly, z2, aBin_neqB u4'', bz, aUn_not, nt, aBin_add, w1]
      exact e
theorem lev_v {h0 : Heap} {s4 : Value} (hR : Rt V S T) (hn : n ≤ a ∧ n ≤ eb) (hs : q < sb) (hSN : (SN : Int) = S) (hV : (vN : Int) = V) (hl : (lN : Int) = Lv V) (hp : p1 ≠ a ∧ p1 ≠ b ∧ p1 ≠ sb) (far : ∀ w j, (mGet les [w, j]).getD nil12 = nil12 ∨ slB ((mGet les [w, j]).getD nil12) ≠ sb) : ∀ (m j : Nat) (k : Heap), j + m = vN → LH V S T f a b q eb lb sb SN s mk E L ees les (DV L lN j) k → k[p1]? = some (.own [(Value.int .i64 V), (Value.int .i64 S), (Value.int .i64 T)]) →
    ∃ k', J6_2 C ⟨0, n⟩ h0 ((Value.pointer (some ⟨p1, 0, none⟩))) s4 ((Value.pointer (some ⟨q, 0, none⟩))) ((Value.slice (some ⟨sb, 0, none⟩) SN 1)) ((Value.int .i64 ((vN : Int)))) ((Value.int .i64 ((j : Int)))) k = some ((Value.bool true), k') := by
  have rs := hR
  unfold Rt at rs
  have rL := Lv_le hR
  intro m
  induction m with
  | zero =>
    intro j k hj H h1
    obtain rfl : j = vN := by omega
    obtain ⟨k', e⟩ := lev_s (n := n) (h0 := h0) (s4 := s4) hR hn hs hSN (fun s => cnt_all H.ha.hb.ls H.ha.lk hl hV s) SN 0 k (by omega) H
    refine ⟨k', ?_⟩
    have Z : Sl k 1 eZ ((Value.slice (some ⟨sb, 0, none⟩) SN 1)) (csI (DV L lN j) SN) := Sl.whole eZ_len H.sn (flatZ _) (csI_len _ _).symm
    have len := fun {α : Type} (kk : Value → Option α) => Z.len kk
    rw [csI_len] at len
    have z0 : ((0 : Nat) : Int) = 0 := rfl
    rw [z0] at e
    rw [J6_2_step]
    unfold Jr6_2
    simp only [go_sem, Nat.reduceAdd, Nat.reduceLeDiff, Nat.reduceMul, Int.reduceBEq, Int.reduceBNe, Int.reduceLT, Int.reduceLE, Int.reduceGT, aBin_lss, Int.lt_irrefl, Jk6_2]
    unfold J6_3
    simp only [go_sem, Nat.reduceAdd, Nat.reduceLeDiff, Nat.reduceMul, Int.reduceBEq, Int.reduceBNe, Int.reduceLT, Int.reduceLE, Int.reduceGT, len]
    exact e
  | succ m ih =>
    intro j k hj H h1
    have hlt : (j : Int) < (vN : Int) := by omega
    have w1 : IntKind.wrap .i64 ((j : Int) + 1) = ((j + 1 : Nat) : Int) := by rw [wi (by omega) (by omega)]; rfl
    have r3 : rdN k p1 0 3 = some [(Value.int .i64 V), (Value.int .i64 S), (Value.int .i64 T)] := by rw [rdN_at h1 (Nat.le_refl 3)]; rfl
    have lvs' := fun (m : Md) (h : Heap) => levels_s m h hR
    rw [← hl] at lvs'
    have dl := DV_len H.ha.hb.ls hR (N := lN) (by omega) j
    have lp := lt_of h1
    obtain ⟨k1, e1, H1, l1, o1⟩ := lev_i (n := n) (s2 := (Value.pointer (some ⟨p1, 0, none⟩))) (s4 := s4) (s57 := (Value.int .i64 ((vN : Int)))) (s58 := (Value.int .i64 ((j : Int)))) (v := (j : Int)) (D := DV L lN j) hR hn hs hSN (by omega) hl far (by omega) lN 0 k (by omega) (by show LH V S T f a b q eb lb sb SN s mk E L ees les (DV L lN j ++ []) k; rw [List.append_nil]; exact H)
    have z0 : ((0 : Nat) : Int) = 0 := rfl
    rw [z0] at e1
    obtain ⟨k', e2⟩ := ih (j + 1) k1 (by omega) H1 ((o1 p1 lp hp.1 hp.2.1 hp.2.2).trans h1)
    refine ⟨k', ?_⟩
    rw [J6_2_step]
    unfold Jr6_2
    simp only [go_sem, Nat.reduceAdd, Nat.reduceLeDiff, Nat.reduceMul, Int.reduceBEq, Int.reduceBNe, Int.reduceLT, Int.reduceLE, Int.reduceGT, aBin_lss, hlt, r3, lvs', e1, aBin_add, w1]
    exact e2
theorem repL_one : ∀ (n : Nat), repL n [(Value.int .i64 0)] = (csI [] n).map (Value.int .i64) := fun n => by
  rw [csI_nil]
  induction n with
  | zero => rfl
  | succ n ih => show _ :: _ = _; rw [ih]; rfl
theorem mkS12 {α : Type} (h : Heap) (hS : (SN : Int) ≤ 100000) (kk : Value → Heap → Option α) : aMakeSlice Try.prog 60 ((Value.int .i64 ((SN : Int)))) ((Value.int .i64 ((SN : Int)))) h kk = kk ((Value.slice (some ⟨h.length, 0, none⟩) SN 1)) (h ++ [Blk.own ((csI [] SN).map (Value.int .i64))]) := by
  have hu : Try.prog.underlying 60 = some (.slice 3) := by kernel_rfl
  obtain ⟨j, hj, hsz, hby⟩ := tInts.info
  have hz : zeroOf Try.prog 3 = some [(Value.int .i64 0)] := by kernel_rfl
  unfold aMakeSlice
  simp only [hu, hj, hz]
  rw [if_pos ⟨hsz, by omega, rfl⟩, if_pos ⟨by omega, by omega, by omega, by rw [hby]; omega⟩, hsz, Int.toNat_natCast, repL_one]
theorem levels12_law : Law Try.prog cfg 6 [23, 24] := by
  intro h avs ha
  obtain ⟨x, r, rfl, a0, ha⟩ := args_cons ha
  obtain ⟨ov, r, rfl, a1, ha⟩ := args_cons ha
  obtain rfl := args_nil ha
  obtain ⟨V, S, T, rfl⟩ := arg_lay12 a0
  obtain ⟨ops, SO⟩ := arg_ops12 a1
  generalize hhb : h ++ [Blk.own [(Value.int .i64 V), (Value.int .i64 S), (Value.int .i64 T)]] = hb
  have lhb : hb.length = h.length + 1 := by rw [← hhb]; simp
  have ohb : ∀ y, y < h.length → hb[y]? = h[y]? := fun y hy => by rw [← hhb, List.getElem?_append_left hy]
  have c0 : hb[h.length]? = some (.own [(Value.int .i64 V), (Value.int .i64 S), (Value.int .i64 T)]) := by rw [← hhb]; exact List.getElem?_concat_length ..
  have rt := right12 ⟨0, h.length⟩ hb V S T
  have r0 : rdN hb h.length 0 3 = some [(Value.int .i64 V), (Value.int .i64 S), (Value.int .i64 T)] := by rw [rdN_at c0 (Nat.le_refl 3)]; rfl
  have len := fun {α : Type} (k : Value → Option α) => SO.len k
  have nt : (!true) = false := rfl
  have nf : (!false) = true := rfl
  rw [call_eq, F6_eq]
  unfold F6
  have aw := fun (m : Nat) => awake12 m hb
  by_cases hq : Rt V S T ∧ V ≤ 8
  · rw [decide_eq_true hq] at rt
    obtain ⟨hR, h8⟩ := hq
    have rs := hR
    unfold Rt at rs
    have rL := Lv_le hR
    by_cases h60 : (ops.length : Int) > 60
    · exact ⟨_, by simp only [go_sem, Nat.reduceAdd, Nat.reduceLeDiff, Nat.reduceMul, Int.reduceBEq, Int.reduceBNe, Int.reduceLT, Int.reduceLE, Int.reduceGT, hhb, rt, r0, nt, len, aBin_gtr, h60, aw]; rfl⟩
    · obtain ⟨g1, a, b, s, e1, ab, O1, st10, r3, r10, H, l1, lab⟩ := lay12g (n := h.length) hR hb (by omega) c0
      have la := H.hb.th.la
      have sp := H.hb.sp
      have lq := lt_of H.hb.hq
      generalize hk0 : g1 ++ [Blk.own (B10 V S T a), Blk.mp (.one .i64) [], Blk.mp (.two .i64) [], Blk.own (qC V S T a (g1.length + 1) (g1.length + 1 + 1))] = k0 at H la lq
      have ok0 : ∀ y, y < hb.length → k0[y]? = hb[y]? := fun y hy => by rw [← hk0, List.getElem?_append_left (by omega), O1.old y (by omega)]
      have lk0 : k0.length = g1.length + 4 := by rw [← hk0]; simp
      obtain ⟨f2, s2, mk2, E2, L2, ees2, les2, k2, e, H2, fm2⟩ := levels_loop (n := h.length) (hb := hb) (h0 := h) (s2 := (Value.pointer (some ⟨h.length, 0, none⟩))) (s4 := (Value.bool false)) hR (SO.heap fun hl => ohb _ hl) (by omega) (by omega) (by omega) ops.length 0 k0 _ _ _ _ _ _ _ (by omega) H (by omega) ok0
      obtain ⟨vN, hV⟩ : ∃ vN : Nat, (vN : Int) = V := ⟨V.toNat, by omega⟩
      obtain ⟨lN, hl⟩ : ∃ lN : Nat, (lN : Int) = Lv V := ⟨(Lv V).toNat, by omega⟩
      obtain ⟨SN, hSN⟩ : ∃ SN : Nat, (SN : Int) = S := ⟨S.toNat, by omega⟩
      have d1 : k2[h.length]? = some (.own [(Value.int .i64 V), (Value.int .i64 S), (Value.int .i64 T)]) := (fm2.old _ (by omega) (by omega) (by omega) (by omega) (by omega)).trans ((ok0 _ (by omega)).trans c0)
      have lq2 := lt_of H2.hb.hq
      have ld := lt_of d1
      have H3 : LH V S T f2 a b (g1.length + 1 + 2) (g1.length + 1) (g1.length + 1 + 1) k2.length SN s2 mk2 E2 L2 ees2 les2 (DV L2 lN 0) (k2 ++ [Blk.own ((csI [] SN).map (Value.int .i64))]) := ⟨⟨H2.hb.fm fun y hy => List.getElem?_append_left hy, H2.lk⟩, List.getElem?_concat_length ..⟩
      have d3 : (k2 ++ [Blk.own ((csI [] SN).map (Value.int .i64))])[h.length]? = some (.own [(Value.int .i64 V), (Value.int .i64 S), (Value.int .i64 T)]) := (List.getElem?_append_left ld).trans d1
      have far : ∀ w j, (mGet les2 [w, j]).getD nil12 = nil12 ∨ slB ((mGet les2 [w, j]).getD nil12) ≠ k2.length := fun w j => (H2.hb.ml.get w j).lo.imp id fun z => by omega
      obtain ⟨k', e'⟩ := lev_v (n := h.length) (h0 := h) (s4 := (Value.bool false)) (p1 := h.length) hR (by omega) (by omega) hSN hV hl (by omega) far vN 0 _ (by omega) H3 d3
      refine ⟨k', ?_⟩
      have z0 : ((0 : Nat) : Int) = 0 := rfl
      rw [z0] at e e'
      have rS : rd k2 h.length 1 = some ((Value.int .i64 ((SN : Int)))) := by rw [rd_at d1, hSN]; rfl
      have rV : rd (k2 ++ [Blk.own ((csI [] SN).map (Value.int .i64))]) h.length 0 = some ((Value.int .i64 ((vN : Int)))) := by rw [rd_at d3, hV]; rfl
      have ms := fun {α : Type} (kk : Value → Heap → Option α) => mkS12 k2 (SN := SN) (by omega) kk
      have eJ : J6_1 C ⟨0, h.length⟩ h ((Value.pointer (some ⟨h.length, 0, none⟩))) ((Value.bool false)) ((Value.pointer (some ⟨g1.length + 1 + 2, 0, none⟩))) k2 = some ((Value.bool true), k') := by
        unfold J6_1
        simp only [go_sem, Nat.reduceAdd, Nat.reduceLeDiff, Nat.reduceMul, Int.reduceBEq, Int.reduceBNe, Int.reduceLT, Int.reduceLE, Int.reduceGT, rS, ms, rV]
        exact e'
      simp only [go_sem, Nat.reduceAdd, Nat.reduceLeDiff, Nat.reduceMul, Int.reduceBEq, Int.reduceBNe, Int.reduceLT, Int.reduceLE, Int.reduceGT, hhb, rt, r0, nt, len, aBin_gtr, h60, e1, st10, r3, r10, mkE12, mkL12, bPlay12, hk0]
      exact e.trans eJ
  · rw [decide_eq_false hq] at rt
    exact ⟨_, by simp only [go_sem, Nat.reduceAdd, Nat.reduceLeDiff, Nat.reduceMul, Int.reduceBEq, Int.reduceBNe, Int.reduceLT, Int.reduceLE, Int.reduceGT, hhb, rt, r0, nf, aw]; rfl⟩
end Go.Det.E
