/- The play of 10: any step; its beginning: all nodes alone. -/
import Derived.Test.YtodeenahpoobkaaQ5
set_option autoImplicit false
set_option linter.unusedVariables false
set_option linter.unusedSimpArgs false
namespace Go.Det.E
open Go.Proofs Go.Det Go.Det.U
attribute [local congr] bind_c cond_c
variable {h hh k h' : Heap} {a b q n n0 c cb lb tb : Nat} {V S T x y p f u w sl K LV SL U W : Int} {D l : List Int} {l0 : Int → Int} {pr : Int → Int} {s s' : NS} {r A B xs : List Int} {dv rv av bv RW LK lv lk X : Value} {i j m sn N : Nat} {rs rs' : List (List Int)} {ps ps' : List (Int × Int)} {rss rss' : List (List (List Int))} {pss pss' : List (List (Int × Int))} {rvs lvs lks : List Value} {rvss : List (List Value)} {cs : List Value} {e : Int × Int}
/-- An act. -/
structure OpT where
  k : Int
  lv : Int
  sl : Int
  u : Int
  w : Int
theorem step10 (hR : Rt V S T) (H : H10 V S T l0 a b q n0 RW LK lvs lks rvss s rss pss h) (Wp : PW V S (prO V S T l0) c s rss pss) (hc : c < 10000) (hn0 : n ≤ n0) (K LV SL U W : Int) :
    ∃ lvs' rvss' s' rss' pss' h', C ⟨0, n⟩ 34 [(Value.pointer (some ⟨q, 0, none⟩)), (Value.agg #[(Value.int .i64 K), (Value.int .i64 LV), (Value.int .i64 SL), (Value.int .i64 U), (Value.int .i64 W)])] h = some ((Value.bool true), h') ∧ H10 V S T l0 a b q n0 RW LK lvs' lks rvss' s' rss' pss' h' ∧ PW V S (prO V S T l0) (c + 2) s' rss' pss' ∧ h.length ≤ h'.length ∧ ∀ y, y < n0 → h'[y]? = h[y]? := by
  have hq0 := lt_of H.hq
  have lo := H.lo
  rcases Classical.em (Good V S LV SL U W) with g | g
  · obtain ⟨⟨g1, g2⟩, ⟨g3, g4⟩, g5, g6⟩ := g
    obtain ⟨i, rfl⟩ : ∃ i : Nat, LV = i := ⟨LV.toNat, by omega⟩
    obtain ⟨sn, rfl⟩ : ∃ i : Nat, SL = i := ⟨SL.toNat, by omega⟩
    by_cases k1 : K = 1
    · subst k1; exact step_link hR H Wp hc hn0 g2 g4 g5 g6
    · by_cases k2 : K = 2
      · subst k2; exact step_cut hR H Wp hc hn0 g2 g4 g5 g6
      · by_cases k3 : K = 3
        · subst k3; exact step_begin hR H Wp hc hn0 g2 g4 g5 g6
        · exact step_other hR H Wp hc hn0 g2 g4 g5 g6 (by rw [beq_eq_false_iff_ne]; exact k1) (by rw [beq_eq_false_iff_ne]; exact k2) (by rw [beq_eq_false_iff_ne]; exact k3)
  · obtain ⟨g', e, l1, o⟩ := step_out (n := n) (K := K) hR H (by omega) g
    exact ⟨lvs, rvss, s, rss, pss, g', e, H.old o, Wp.mono (by omega), l1, fun y hy => o y (by omega)⟩
/-! ### Begun -/
theorem Rep.putPrio10 (hR : Rt V S T) (Q : Rep V S T l0 l s) (h1 : 1 ≤ x) (h2 : x ≤ Nn V S) (hv : 0 ≤ y ∧ y < 18446744073709551616) : Rep V S T (upI l0 (qN V S T x + 5) y) (putI l (qN V S T x + 5) y) s := by
  have q := qN_in hR h1 h2
  have hl := Q.len
  have g := fun j => getI_put l (qN V S T x + 5) j y
  refine ⟨by rw [putI_len]; exact hl, Q.wd.put _ hv, fun i hi => ?_, fun y a b => ?_, fun y a b => ?_, fun y a b => ?_, fun y a b c => ?_, fun y a b c => ?_⟩
  · rw [g]
    by_cases e : i = qN V S T x + 5
    · subst e; rw [if_pos ⟨rfl, by omega, by omega⟩]; exact (upI_same _ _ _).symm
    · rw [if_neg (by omega), Q.oth i hi]; exact (upI_else e).symm
  · rw [g, if_neg (by unfold qN; omega)]; exact Q.lf y a b
  · rw [g, if_neg (by unfold qN; omega)]; exact Q.rt y a b
  · rw [g, if_neg (by unfold qN; omega)]; exact Q.sm y a b
  · rw [g, if_neg (by unfold qN; omega)]; exact Q.sh y a b c
  · rw [g, if_neg (by unfold qN; omega)]; exact Q.ns y a b c
theorem tprio10 (hR : Rt V S T) (A : TH V S T l0 a b s h) (hx : Nix V S x) (hv : 0 ≤ y ∧ y < 18446744073709551616) :
    ∃ h' e, C ⟨0, n⟩ 54 [(Value.pointer (some ⟨a, 0, none⟩)), (Value.int .i64 (qN V S T x + 5)), (Value.int .u64 y)] h = some ((Value.int .i64 e), h') ∧ TH V S T (upI l0 (qN V S T x + 5) y) a b s h' ∧ Only a b h h' := by
  obtain ⟨l, c, A, Q⟩ := A
  obtain ⟨h', c', e, f, A', o⟩ := astore_e (md := ⟨0, n⟩) A (Nat.zero_le _) (Nat.zero_le _) (qN V S T x + 5) y
  exact ⟨h', e, f, ⟨_, c', A', Rep.putPrio10 hR Q hx.1 hx.2 hv⟩, o⟩
theorem alone_HR (pr : Int → Int) : HR V pr s [x] ↔ IsT mkN (vxB V) s (one1 x) 0 := by
  have et : one1 x = treeOf pr [x] := tree_of (t := one1 x) ⟨fun y hy => by simp [Tr.row] at hy, fun y hy => by simp [Tr.row] at hy, trivial, trivial⟩ (by simp [Tr.row])
  unfold HR
  rw [← et]
theorem tree_rep0 (hR : Rt V S T) : Rep V S T (fun _ => 0) (List.replicate (Cn V S T).toNat 0) ⟨fun _ => 0, fun _ => 0, fun _ => 0, fun _ => 0⟩ := by
  have cn := Cn_le hR
  have g : ∀ i, getI (List.replicate (Cn V S T).toNat (0 : Int)) i = 0 := by
    intro i
    unfold getI
    split
    · rename_i h
      simp only [List.length_replicate] at h
      rw [List.getD, List.getElem?_replicate_of_lt (by omega)]; rfl
    · rfl
  refine ⟨by simp; omega, Wd.zero _, fun i _ => g i, fun y _ _ => g _, fun y _ _ => g _, fun y _ _ => g _, fun y _ _ _ => ?_, fun y _ _ _ => g _⟩
  rw [g]
  exact ⟨by decide, rfl⟩
/-- All nodes are alone, one by one. -/
theorem begun_lp10 {h0 : Heap} {ov : Value} (hR : Rt V S T) (hN : (N : Int) = Nn V S) (wD : Wd D) (hcb : cb ≠ a ∧ cb ≠ b) (hlb : lb ≠ a ∧ lb ≠ b) (htb : tb ≠ a ∧ tb ≠ b) (hdv : slB dv ≠ a ∧ slB dv ≠ b) : ∀ (m x : Nat) (k : Heap) (l0 : Int → Int) (s : NS), x + m = N + 1 → 1 ≤ x → TH V S T l0 a b s k → k[cb]? = some (.own [(Value.int .i64 V), (Value.int .i64 S), (Value.int .i64 T), dv, ov]) → k[lb]? = some (.own [(Value.int .i64 V), (Value.int .i64 S), (Value.int .i64 T)]) → k[tb]? = some (.own [(Value.int .i64 V), (Value.int .i64 S), (Value.int .i64 T), ifA a, (Value.int .i64 1), (Value.int .i64 0)]) → Sl k 1 eU dv D → (∀ y : Nat, 1 ≤ y → y < x → IsT mkN (vxB V) s (one1 (y : Int)) 0) →
    ∃ l0' s' k', J33_0 C ⟨0, n⟩ h0 ((Value.pointer (some ⟨cb, 0, none⟩))) (.pointer none) ((Value.pointer (some ⟨lb, 0, none⟩))) ((Value.pointer (some ⟨a, 0, none⟩))) ((Value.pointer (some ⟨tb, 0, none⟩))) ((Value.int .i64 ((x : Int)))) k = J33_1 C ⟨0, n⟩ h0 (.pointer none) ((Value.pointer (some ⟨lb, 0, none⟩))) ((Value.pointer (some ⟨tb, 0, none⟩))) k' ∧ TH V S T l0' a b s' k' ∧ k'.length = k.length ∧ (∀ y, y ≠ a → y ≠ b → k'[y]? = k[y]?) ∧ ∀ y : Nat, 1 ≤ y → y ≤ N → IsT mkN (vxB V) s' (one1 (y : Int)) 0 := by
  have cn := Cn_le hR
  have nd := fun (m : Md) (h : Heap) => nodes_s m h hR
  rw [← hN] at nd
  intro m
  induction m with
  | zero =>
    intro x k l0 s hx h1 A hc hl ht SD Z
    obtain rfl : x = N + 1 := by omega
    have rl : rdN k lb 0 3 = some [(Value.int .i64 V), (Value.int .i64 S), (Value.int .i64 T)] := by rw [rdN_at hl (Nat.le_refl 3)]; rfl
    have nle : ¬ (((N + 1 : Nat) : Int) ≤ (N : Int)) := by omega
    refine ⟨l0, s, k, ?_, A, rfl, fun _ _ _ => rfl, fun y h1 h2 => Z y h1 (by omega)⟩
    rw [J33_0_step]
    unfold Jr33_0
    simp only [go_sem, Nat.reduceAdd, Nat.reduceLeDiff, Nat.reduceMul, Int.reduceBEq, Int.reduceBNe, Int.reduceLT, Int.reduceLE, Int.reduceGT, rl, nd, aBin_leq, nle, Jk33_0]
  | succ m ih =>
    intro x k l0 s hx h1 A hc hl ht SD Z
    have hnx : Nix V S (x : Int) := ⟨by omega, by omega⟩
    have hle : (x : Int) ≤ (N : Int) := by omega
    have w : IntKind.wrap .i64 ((x : Int) + 1) = ((x + 1 : Nat) : Int) := by rw [wi (by omega) (by omega)]; rfl
    have rl : rdN k lb 0 3 = some [(Value.int .i64 V), (Value.int .i64 S), (Value.int .i64 T)] := by rw [rdN_at hl (Nat.le_refl 3)]; rfl
    have rD : rd k cb 3 = some dv := by rw [rd_at hc]; rfl
    have len := fun {α : Type} (kk : Value → Option α) => SD.len kk
    have rt : ∀ {k' : Heap}, k'[tb]? = k[tb]? → rdN k' tb 0 6 = some [(Value.int .i64 V), (Value.int .i64 S), (Value.int .i64 T), ifA a, (Value.int .i64 1), (Value.int .i64 0)] := fun {k'} e => by rw [rdN_at (e.trans ht) (Nat.le_refl 6)]; rfl
    -- alone, from any memory of the priorities
    have fin : ∀ (l1 : Int → Int) (k1 : Heap), TH V S T l1 a b s k1 → Only a b k k1 → ∃ l0' s' k' k2, C ⟨0, n⟩ 56 [(Value.agg #[(Value.int .i64 V), (Value.int .i64 S), (Value.int .i64 T), ifA a, (Value.int .i64 1), (Value.int .i64 0)]), (Value.int .i64 ((x : Int)))] k1 = some ((Value.tuple #[]), k2) ∧ J33_0 C ⟨0, n⟩ h0 ((Value.pointer (some ⟨cb, 0, none⟩))) (.pointer none) ((Value.pointer (some ⟨lb, 0, none⟩))) ((Value.pointer (some ⟨a, 0, none⟩))) ((Value.pointer (some ⟨tb, 0, none⟩))) ((Value.int .i64 (((x + 1 : Nat) : Int)))) k2 = J33_1 C ⟨0, n⟩ h0 (.pointer none) ((Value.pointer (some ⟨lb, 0, none⟩))) ((Value.pointer (some ⟨tb, 0, none⟩))) k' ∧ TH V S T l0' a b s' k' ∧ k'.length = k.length ∧ (∀ y, y ≠ a → y ≠ b → k'[y]? = k[y]?) ∧ ∀ y : Nat, 1 ≤ y → y ≤ N → IsT mkN (vxB V) s' (one1 (y : Int)) 0 := fun l1 k1 A1 o1 => by
      obtain ⟨s2, k2, e2, A2, o2, I2, so2⟩ := rAlone (n := n) hR A1 hnx
      have o := o1.trans o2
      obtain ⟨l0', s', k', e3, A3, l3, o3, Z3⟩ := ih (x + 1) k2 l1 s2 (by omega) (by omega) A2 ((o.oth _ hcb.1 hcb.2).trans hc) ((o.oth _ hlb.1 hlb.2).trans hl) ((o.oth _ htb.1 htb.2).trans ht) (SD.heap fun _ => o.oth _ hdv.1 hdv.2) (fun y q1 q2 => by
        by_cases e : y = x
        · subst e; exact (alone_HR _).1 I2
        · exact IsT.congr (so2.on fun z hz => by simp [Tr.row] at hz; subst hz; simp; omega) (Z y q1 (by omega)))
      exact ⟨l0', s', k', k2, e2, e3, A3, by rw [l3, o.len], fun y q1 q2 => (o3 y q1 q2).trans (o.oth y q1 q2), Z3⟩
    by_cases hD : D = []
    · have z : ¬ ((D.length : Int) > 0) := by rw [hD]; simp
      obtain ⟨l0', s', k', k2, e2, e3, z3⟩ := fin l0 k A Only.refl
      refine ⟨l0', s', k', ?_, z3⟩
      have r6 := rt (k' := k) rfl
      rw [J33_0_step]
      unfold Jr33_0
      simp only [go_sem, Nat.reduceAdd, Nat.reduceLeDiff, Nat.reduceMul, Int.reduceBEq, Int.reduceBNe, Int.reduceLT, Int.reduceLE, Int.reduceGT, rl, nd, aBin_leq, hle, rD, len, z, r6, e2, aBin_add, w]
      exact e3
    · have hl0 : 0 < D.length := List.length_pos_iff.2 hD
      have z : ((D.length : Int) > 0) := by omega
      have nz : ¬ ((D.length : Int) = 0) := by omega
      have te : (x : Int).tmod (D.length : Int) = ((x % D.length : Nat) : Int) := by rw [Int.tmod_eq_emod_of_nonneg (by omega)]; rfl
      have hmod : x % D.length < D.length := Nat.mod_lt _ hl0
      have hd : D[x % D.length]? = some (D[x % D.length]'hmod) := List.getElem?_eq_getElem hmod
      obtain ⟨ix, rx⟩ := Sl.getU SD hd
      generalize hdv : D[x % D.length]'hmod = d at *
      have dr : 0 ≤ d ∧ d < 18446744073709551616 := wD d (List.mem_of_getElem? hd)
      have fs := fun (m : Md) (h : Heap) => fs_of hR hnx (f := 5) (by omega) m h
      obtain ⟨k1, er, e1, A1, o1⟩ := tprio10 (n := n) hR A hnx dr
      obtain ⟨l0', s', k', k2, e2, e3, z3⟩ := fin _ k1 A1 o1
      refine ⟨l0', s', k', ?_, z3⟩
      have r6 := rt (o1.oth _ htb.1 htb.2)
      rw [J33_0_step]
      unfold Jr33_0
      simp only [go_sem, Nat.reduceAdd, Nat.reduceLeDiff, Nat.reduceMul, Int.reduceBEq, Int.reduceBNe, Int.reduceLT, Int.reduceLE, Int.reduceGT, rl, nd, aBin_leq, hle, rD, len, z, fs, aBin_rem nz, te, ixSV_p, ix, rx, e1, r6, e2, aBin_add, w]
      exact e3
end Go.Det.E
/- The play of 10 at its beginning: a level's rows and links. -/
namespace Go.Det.E
open Go.Proofs Go.Det Go.Det.U
attribute [local congr] bind_c cond_c
variable {h hh k h' : Heap} {a b q n n0 c cb lb tb : Nat} {V S T x y p f u w sl K LV SL U W : Int} {D l : List Int} {l0 : Int → Int} {pr : Int → Int} {s s' : NS} {r A B xs : List Int} {dv rv av bv RW LK lv lk X : Value} {i j m sn N : Nat} {rs rs' : List (List Int)} {ps ps' : List (Int × Int)} {rss rss' : List (List (List Int))} {pss pss' : List (List (Int × Int))} {rvs lvs lks : List Value} {rvss : List (List Value)} {cs : List Value} {e : Int × Int}
/-- The rows of a level at the beginning. -/
def rows0 (V : Int) (i j : Nat) : List (List Int) := (List.range j).map fun (v : Nat) => [Vx V (i : Int) (v : Int)]
theorem rows0_len (V : Int) (i j : Nat) : (rows0 V i j).length = j := by simp [rows0]
theorem rows0_succ (V : Int) (i j : Nat) : rows0 V i (j + 1) = rows0 V i j ++ [[Vx V (i : Int) (j : Int)]] := by simp [rows0, List.range_succ]
theorem rows_lp {s2 s8 s67 : Value} (hR : Rt V S T) (n1 : Nat) : ∀ (m j : Nat) (g : Heap) (acc : Value) (rvs : List Value), (j : Int) + m = V → n1 ≤ g.length → g[lb]? = some (.own [(Value.int .i64 V), (Value.int .i64 S), (Value.int .i64 T)]) → lb < n1 → SlO g n1 1 eV acc rvs → F2 (fun rv r => Sl g 1 eZ rv r) rvs (rows0 V i j) → (∀ rv ∈ rvs, n1 ≤ slB rv ∧ slB rv < g.length ∧ (acc = nilS ∨ slB rv ≠ slB acc)) →
    ∃ acc' rvs' g', J33_2b0 C ⟨0, n⟩ s2 ((Value.pointer (some ⟨lb, 0, none⟩))) s8 ((Value.int .i64 ((i : Int)))) acc s67 ((Value.int .i64 ((i : Int)))) ((Value.int .i64 V)) ((Value.int .i64 ((j : Int)))) g = J33_2b1 C ⟨0, n⟩ s2 ((Value.pointer (some ⟨lb, 0, none⟩))) s8 acc' s67 ((Value.int .i64 ((i : Int)))) g' ∧ SlO g' n1 1 eV acc' rvs' ∧ F2 (fun rv r => Sl g' 1 eZ rv r) rvs' (rows0 V i V.toNat) ∧ (∀ rv ∈ rvs', n1 ≤ slB rv ∧ slB rv < g'.length ∧ (acc' = nilS ∨ slB rv ≠ slB acc')) ∧ g.length ≤ g'.length ∧ ∀ y, y < n1 → g'[y]? = g[y]? := by
  have rV := hR
  unfold Rt at rV
  intro m
  induction m with
  | zero =>
    intro j g acc rvs hj hn hl hlb SO F B
    obtain rfl : V = (j : Int) := by omega
    refine ⟨acc, rvs, g, ?_, SO, by rw [Int.toNat_natCast]; exact F, B, Nat.le_refl _, fun _ _ => rfl⟩
    rw [J33_2b0_step]
    unfold Jr33_2b0
    simp only [go_sem, Nat.reduceAdd, Nat.reduceLeDiff, Nat.reduceMul, Int.reduceBEq, Int.reduceBNe, Int.reduceLT, Int.reduceLE, Int.reduceGT, aBin_lss, Int.lt_irrefl, Jk33_2b0]
  | succ m ih =>
    intro j g acc rvs hj hn hl hlb SO F B
    have hlt : (j : Int) < V := by omega
    have w : IntKind.wrap .i64 ((j : Int) + 1) = ((j + 1 : Nat) : Int) := by rw [wi (by omega) (by omega)]; rfl
    have rl : rdN g lb 0 3 = some [(Value.int .i64 V), (Value.int .i64 S), (Value.int .i64 T)] := by rw [rdN_at hl (Nat.le_refl 3)]; rfl
    have vs := fun (m : Md) (h : Heap) => vertex_s m h (a := (i : Int)) (b := (j : Int)) hR
    have rvl := F.len
    rw [rows0_len] at rvl
    have l1 : (g ++ [Blk.own [(Value.int .i64 (Vx V (i : Int) (j : Int)))]]).length = g.length + 1 := by simp
    have o1 : ∀ y, y < g.length → (g ++ [Blk.own [(Value.int .i64 (Vx V (i : Int) (j : Int)))]])[y]? = g[y]? := fun y hy => List.getElem?_append_left hy
    have b1 : (g ++ [Blk.own [(Value.int .i64 (Vx V (i : Int) (j : Int)))]])[g.length]? = some (Blk.own [(Value.int .i64 (Vx V (i : Int) (j : Int)))]) := List.getElem?_concat_length ..
    have SO1 : SlO (g ++ [Blk.own [(Value.int .i64 (Vx V (i : Int) (j : Int)))]]) n1 1 eV acc rvs := SO.at fun y h1 h2 => o1 y h2
    generalize hg1 : g ++ [Blk.own [(Value.int .i64 (Vx V (i : Int) (j : Int)))]] = g1 at *
    have brow : ∀ {α : Type} (hx : Heap) (kk : Value → Heap → Option α), aBuildSlice Try.prog 43 1 [(0, (Value.slice (some ⟨g.length, 0, none⟩) 1 1))] hx kk = kk ((Value.slice (some ⟨hx.length, 0, none⟩) 1 1)) (hx ++ [Blk.own [(Value.slice (some ⟨g.length, 0, none⟩) 1 1)]]) := fun hx kk => bRows10 hx kk
    obtain ⟨v1, g3, ea, S1, l3, f3⟩ := append_own2 (md := ⟨0, n⟩) (ys := [(Value.slice (some ⟨g.length, 0, none⟩) 1 1)]) tRows10 SO1 (Nat.zero_le _) (by omega) (cs := [(Value.slice (some ⟨g.length, 0, none⟩) 1 1)]) (by simp [flat]) (by simp) rfl (by simp; omega)
    simp only [List.length_cons, List.length_nil, Nat.zero_add] at ea
    have ea2 : ∀ {α : Type} (kk : Value → Heap → Option α), aBuiltin Try.prog ⟨0, n⟩ .append #[43, 43] [acc, (Value.slice (some ⟨g.length + 1, 0, none⟩) 1 1)] (g ++ [Blk.own [(Value.int .i64 (Vx V (i : Int) (j : Int)))], Blk.own [(Value.slice (some ⟨g.length, 0, none⟩) 1 1)]]) kk = kk v1 g3 := fun {α} kk => by
      have := ea kk
      rw [l1, ← hg1, List.append_assoc] at this
      exact this
    have nacc : acc = nilS ∨ n1 ≤ slB acc := SO.own.imp id fun q => q.1
    have bv1 : g1.length ≤ slB v1 := by
      rcases S1.own with e | ⟨q, _⟩
      · subst e
        have := S1.nil_of
        simp at this
      · exact q
    have accl : acc = nilS ∨ slB acc < g.length := by
      rcases SO.own with e | ⟨_, cs, q⟩
      · exact .inl e
      · exact .inr (lt_of q)
    have newrow : Sl g3 1 eZ ((Value.slice (some ⟨g.length, 0, none⟩) 1 1)) [Vx V (i : Int) (j : Int)] := by
      have hb : g3[g.length]? = some (Blk.own [(Value.int .i64 (Vx V (i : Int) (j : Int)))]) := (f3 g.length (by omega) (accl.imp id fun q => by omega)).trans b1
      exact Sl.whole eZ_len hb rfl rfl
    have F' : F2 (fun rv r => Sl g3 1 eZ rv r) (rvs ++ [(Value.slice (some ⟨g.length, 0, none⟩) 1 1)]) (rows0 V i (j + 1)) := by
      rw [rows0_succ]
      refine F2.app (F2.mk F.len fun a rv r h1 h2 => ?_) ⟨newrow, trivial⟩
      have bb := B rv (List.mem_of_getElem? h1)
      exact (F.get a rv r h1 h2).heap fun hl => (f3 _ (by omega) (bb.2.2.imp id fun q => q)).trans (o1 _ hl)
    obtain ⟨acc', rvs', g', e', S', F'', B', l', o'⟩ := ih (j + 1) g3 v1 (rvs ++ [(Value.slice (some ⟨g.length, 0, none⟩) 1 1)]) (by omega) (by omega) (((f3 lb (by omega) (nacc.imp id fun q => by omega)).trans (o1 lb (by omega))).trans hl) hlb (S1.mono (by omega)) F' (fun rv hrv => by
      rcases List.mem_append.1 hrv with z | z
      · have := B rv z
        exact ⟨this.1, by omega, .inr (by omega)⟩
      · simp only [List.mem_singleton] at z; subst z
        exact ⟨by show n1 ≤ g.length; exact hn, by show g.length < _; omega, .inr (by show g.length ≠ _; omega)⟩)
    refine ⟨acc', rvs', g', ?_, S', F'', B', by omega, fun y hy => by rw [o' y hy, f3 y (by omega) (nacc.imp id fun q => by omega), o1 y (by omega)]⟩
    rw [J33_2b0_step]
    unfold Jr33_2b0
    simp only [go_sem, Nat.reduceAdd, Nat.reduceLeDiff, Nat.reduceMul, Int.reduceBEq, Int.reduceBNe, Int.reduceLT, Int.reduceLE, Int.reduceGT, aBin_lss, hlt, rl, vs, bRows10, ea2, aBin_add, w]
    exact e'
theorem eZ2_rep (n : Nat) : repL n [(Value.int .i64 0), (Value.int .i64 0)] = flat eZ2 (List.replicate n (0, 0)) := by
  induction n with
  | zero => rfl
  | succ n ih =>
    show [(Value.int .i64 0), (Value.int .i64 0)] ++ repL n [(Value.int .i64 0), (Value.int .i64 0)] = _
    rw [ih, List.replicate_succ, flat_cons]
theorem links_lp {s2 s10 s67 : Value} (hS : S ≤ 48) : ∀ (m j : Nat) (g : Heap) (ps : List (Int × Int)), (j : Int) + m = S → Sl g 2 eZ2 lk ps → (ps.length : Int) = S → (∃ cs, g[slB lk]? = some (.own cs)) → (∀ t : Nat, t < j → ps[t]? = some (-1, -1)) →
    ∃ g' ps', J33_2b2 C ⟨0, n⟩ s2 ((Value.pointer (some ⟨lb, 0, none⟩))) ((Value.pointer (some ⟨q, 0, none⟩))) s10 lk s67 ((Value.int .i64 ((i : Int)))) ((Value.int .i64 S)) ((Value.int .i64 ((j : Int)))) g = J33_2b3 C ⟨0, n⟩ s2 ((Value.pointer (some ⟨lb, 0, none⟩))) ((Value.pointer (some ⟨q, 0, none⟩))) s10 lk s67 ((Value.int .i64 ((i : Int)))) g' ∧ Sl g' 2 eZ2 lk ps' ∧ (ps'.length : Int) = S ∧ (∃ cs, g'[slB lk]? = some (.own cs)) ∧ (∀ t : Nat, (t : Int) < S → ps'[t]? = some (-1, -1)) ∧ g'.length = g.length ∧ ∀ y, y ≠ slB lk → g'[y]? = g[y]? := by
  intro m
  induction m with
  | zero =>
    intro j g ps hj X hl ow hd
    obtain rfl : S = (j : Int) := by omega
    refine ⟨g, ps, ?_, X, hl, ow, fun t ht => hd t (by omega), rfl, fun _ _ => rfl⟩
    rw [J33_2b2_step]
    unfold Jr33_2b2
    simp only [go_sem, Nat.reduceAdd, Nat.reduceLeDiff, Nat.reduceMul, Int.reduceBEq, Int.reduceBNe, Int.reduceLT, Int.reduceLE, Int.reduceGT, aBin_lss, Int.lt_irrefl, Jk33_2b2]
  | succ m ih =>
    intro j g ps hj X hl ow hd
    obtain ⟨cs, hc⟩ := ow
    have hlt : (j : Int) < S := by omega
    have w : IntKind.wrap .i64 ((j : Int) + 1) = ((j + 1 : Nat) : Int) := by rw [wi (by omega) (by omega)]; rfl
    have ix := fun {α : Type} (kk : Value → Option α) => X.ix (i := (j : Int)) (by omega) (by omega) kk
    simp only [Int.toNat_natCast] at ix
    obtain ⟨g1, e1, X1, l1, ow1, o1⟩ := Sl.put (md := ⟨0, n⟩) (x := ((-1, -1) : Int × Int)) X hc (show j < ps.length by omega) (Nat.zero_le _) (.inr rfl)
    have st2 := fun (hq : Heap) (kk : Heap → Option (((Value × Value × Value × Value × Value × Value × Value × Value × Value) × Heap) ⊕ (Exit × (Value × Value × Value × Value × Value × Value × Value × Value × Value) × Heap))) => st_N ⟨0, n⟩ 2 (slB lk) (slO lk + j * 2) [(Value.int .i64 (-1)), (Value.int .i64 (-1))] hq kk rfl rfl
    obtain ⟨g', ps', e', X', l', ow', d', ll', o'⟩ := ih (j + 1) g1 (ps.set j (-1, -1)) (by omega) X1 (by rw [List.length_set]; exact hl) ow1 (fun t ht => by
      by_cases e : j = t
      · subst e; rw [List.getElem?_set_self (by omega)]
      · rw [List.getElem?_set_ne e]; exact hd t (by omega))
    refine ⟨g', ps', ?_, X', l', ow', d', by omega, fun y hy => (o' y hy).trans (o1 y hy)⟩
    rw [J33_2b2_step]
    unfold Jr33_2b2
    simp only [go_sem, Nat.reduceAdd, Nat.reduceLeDiff, Nat.reduceMul, Int.reduceBEq, Int.reduceBNe, Int.reduceLT, Int.reduceLE, Int.reduceGT, aBin_lss, hlt, ixSV_p, ix, st2, e1, aBin_add, w]
    exact e'
end Go.Det.E

/- The play of 10 at its beginning: all levels. -/
namespace Go.Det.E
open Go.Proofs Go.Det Go.Det.U
attribute [local congr] bind_c cond_c
variable {h hh k h' : Heap} {a b q n n0 n1 c cb lb tb : Nat} {V S T x y p f u w sl K LV SL U W : Int} {D l : List Int} {l0 : Int → Int} {pr : Int → Int} {s s' : NS} {r A B xs : List Int} {dv rv av bv RW LK lv lk X : Value} {i j m sn N : Nat} {rs rs' : List (List Int)} {ps ps' : List (Int × Int)} {rss rss' : List (List (List Int))} {pss pss' : List (List (Int × Int))} {rvs lvs lks : List Value} {rvss : List (List Value)} {cs : List Value} {e : Int × Int}
theorem tL10 : SlT Try.prog 75 43 1 24 [.slice none 0 0] := ⟨by kernel_rfl, by kernel_rfl, by kernel_rfl, rfl, by decide, by decide, rfl⟩
theorem tG10 : SlT Try.prog 81 53 2 16 [(Value.int .i64 0), (Value.int .i64 0)] := ⟨by kernel_rfl, by kernel_rfl, by kernel_rfl, rfl, by decide, by decide, rfl⟩
theorem tGG10 : SlT Try.prog 76 81 1 24 [.slice none 0 0] := ⟨by kernel_rfl, by kernel_rfl, by kernel_rfl, rfl, by decide, by decide, rfl⟩
theorem bL10 {α : Type} {a : Option Addr} {l c : Nat} (h : Heap) (k : Value → Heap → Option α) : aBuildSlice Try.prog 75 1 [(0, .slice a l c)] h k = k ((Value.slice (some ⟨h.length, 0, none⟩) 1 1)) (h ++ [Blk.own [.slice a l c]]) := by kernel_rfl
theorem bG10 {α : Type} {a : Option Addr} {l c : Nat} (h : Heap) (k : Value → Heap → Option α) : aBuildSlice Try.prog 76 1 [(0, .slice a l c)] h k = k ((Value.slice (some ⟨h.length, 0, none⟩) 1 1)) (h ++ [Blk.own [.slice a l c]]) := by kernel_rfl
abbrev ps0 (S : Int) : List (Int × Int) := List.replicate S.toNat (-1, -1)
/-- What is there when some levels are made. -/
structure QB (V S T : Int) (l0 : Int → Int) (a b q lb n1 : Nat) (s : NS) (RW LK : Value) (lvs lks : List Value) (rvss : List (List Value)) (i : Nat) (k : Heap) : Prop where
  th : TH V S T l0 a b s k
  hl : k[lb]? = some (.own [(Value.int .i64 V), (Value.int .i64 S), (Value.int .i64 T)])
  hq : k[q]? = some (.own (pC V S T a RW LK))
  so : SlO k n1 1 eV RW lvs
  sk : SlO k n1 1 eV LK lks
  ln : lvs.length = i ∧ rvss.length = i ∧ lks.length = i
  lr : ∀ (j : Nat) (lv : Value) (rvs : List Value), lvs[j]? = some lv → rvss[j]? = some rvs → LR k lv rvs (rows0 V j V.toNat)
  lp : ∀ lk ∈ lks, Sl k 2 eZ2 lk (ps0 S) ∧ ∃ cs, k[slB lk]? = some (.own cs)
  bl : ∀ lv ∈ lvs, n1 ≤ slB lv ∧ slB lv < k.length ∧ slB lv ≠ slB RW ∧ slB lv ≠ slB LK ∧ ∀ lk ∈ lks, slB lv ≠ slB lk
  bv : ∀ rvs ∈ rvss, ∀ rv ∈ rvs, n1 ≤ slB rv ∧ slB rv < k.length ∧ slB rv ≠ slB RW ∧ slB rv ≠ slB LK ∧ ∀ lk ∈ lks, slB rv ≠ slB lk
  bk : ∀ lk ∈ lks, n1 ≤ slB lk ∧ slB lk < k.length ∧ slB lk ≠ slB RW ∧ slB lk ≠ slB LK
  mL : ∀ (i j : Nat) (x y : Value), i ≠ j → lks[i]? = some x → lks[j]? = some y → slB x ≠ slB y
  rk : (RW = nilS ∧ LK = nilS ∧ i = 0) ∨ (n1 ≤ slB RW ∧ n1 ≤ slB LK ∧ slB RW ≠ slB LK)
theorem level_lp {h0 : Heap} (hR : Rt V S T) (hn1 : 0 < n1 ∧ a < n1 ∧ b < n1 ∧ q < n1 ∧ lb < n1) (hq2 : q ≠ a ∧ q ≠ b ∧ q ≠ lb) (hnq : n ≤ q) : ∀ (m i : Nat) (k : Heap) (RW LK : Value) (lvs lks : List Value) (rvss : List (List Value)), (i : Int) + m = Lv V → n1 ≤ k.length → QB V S T l0 a b q lb n1 s RW LK lvs lks rvss i k →
    ∃ RW' LK' lvs' lks' rvss' k', J33_2 C ⟨0, n⟩ h0 (.pointer none) ((Value.pointer (some ⟨lb, 0, none⟩))) ((Value.pointer (some ⟨q, 0, none⟩))) ((Value.int .i64 (Lv V))) ((Value.int .i64 ((i : Int)))) k = some ((Value.pointer (some ⟨q, 0, none⟩)), k') ∧ QB V S T l0 a b q lb n1 s RW' LK' lvs' lks' rvss' (Lv V).toNat k' ∧ k.length ≤ k'.length ∧ ∀ y, y < n1 → y ≠ q → k'[y]? = k[y]? := by
  have rV := hR
  unfold Rt at rV
  have rL := Lv_le hR
  intro m
  induction m with
  | zero =>
    intro i k RW LK lvs lks rvss hi hk Q
    have e1 : (Lv V).toNat = i := by omega
    refine ⟨RW, LK, lvs, lks, rvss, k, ?_, by rw [e1]; exact Q, Nat.le_refl _, fun _ _ _ => rfl⟩
    have e2 : Lv V = (i : Int) := by omega
    rw [e2, J33_2_step]
    unfold Jr33_2
    simp only [go_sem, Nat.reduceAdd, Nat.reduceLeDiff, Nat.reduceMul, Int.reduceBEq, Int.reduceBNe, Int.reduceLT, Int.reduceLE, Int.reduceGT, aBin_lss, Int.lt_irrefl, Jk33_2]
  | succ m ih =>
    intro i k RW LK lvs lks rvss hi hk Q
    have hlt : (i : Int) < Lv V := by omega
    have w : IntKind.wrap .i64 ((i : Int) + 1) = ((i + 1 : Nat) : Int) := by rw [wi (by omega) (by omega)]; rfl
    have rV0 : rd k lb 0 = some ((Value.int .i64 V)) := by rw [rd_at Q.hl]; rfl
    obtain ⟨ln1, ln2, ln3⟩ := Q.ln
    -- the rows
    obtain ⟨acc, rvs, g, e1, S1, F1, B1, l1, o1⟩ := rows_lp (n := n) (i := i) (s2 := .pointer none) (s8 := (Value.pointer (some ⟨q, 0, none⟩))) (s67 := (Value.int .i64 (Lv V))) hR k.length V.toNat 0 k nilS [] (by omega) (Nat.le_refl _) Q.hl (by omega) (SlO.nil _ _ eV_len) trivial (fun rv hrv => by simp at hrv)
    have rvl := F1.len
    rw [rows0_len] at rvl
    have bacc : k.length ≤ slB acc ∧ slB acc < g.length := by
      rcases S1.own with e | ⟨q1, cs, q2⟩
      · subst e
        have := S1.nil_of
        rw [this] at rvl
        simp at rvl
        omega
      · exact ⟨q1, lt_of q2⟩
    have nacc : acc ≠ nilS := fun e => by
      subst e
      have := S1.nil_of
      rw [this] at rvl
      simp at rvl
      omega
    obtain ⟨a3, b3, d3, rfl⟩ := Sl.sliceV S1.sl
    have hlg : g[lb]? = some (.own [(Value.int .i64 V), (Value.int .i64 S), (Value.int .i64 T)]) := (o1 lb (by omega)).trans Q.hl
    have rS : rd g lb 1 = some ((Value.int .i64 S)) := by rw [rd_at hlg]; rfl
    -- the links
    have mk := fun (kk : Value → Heap → Option (((Value × Value × Value × Value × Value) × Heap) ⊕ (Exit × (Value × Value × Value × Value × Value) × Heap))) => make_p tG10 (n := S) (c := S) (by omega) (by omega) (by omega) (by omega) g kk
    rw [eZ2_rep] at mk
    generalize hg1 : g ++ [Blk.own (flat eZ2 (List.replicate S.toNat (0, 0)))] = g1 at mk
    have l2 : g1.length = g.length + 1 := by rw [← hg1]; simp
    have o2 : ∀ y, y < g.length → g1[y]? = g[y]? := fun y hy => by rw [← hg1, List.getElem?_append_left hy]
    have b2 : g1[g.length]? = some (.own (flat eZ2 (List.replicate S.toNat (0, 0)))) := by rw [← hg1]; exact List.getElem?_concat_length ..
    have L1 : Sl g1 2 eZ2 ((Value.slice (some ⟨g.length, 0, none⟩) S.toNat 2)) (List.replicate S.toNat (0, 0)) := Sl.whole eZ2_len b2 rfl (by simp)
    have eS : ((S.toNat : Nat) : Int) = S := by omega
    have lenL : ∀ {α : Type} (kk : Value → Option α), lenS ((Value.slice (some ⟨g.length, 0, none⟩) S.toNat 2)) kk = kk ((Value.int .i64 S)) := fun kk => by rw [lenS_p, eS]
    obtain ⟨g2, ps', e3, L2, pl, ow3, pd, l3, o3⟩ := links_lp (S := S) (n := n) (i := i) (lb := lb) (q := q) (s2 := .pointer none) (s10 := .slice a3 b3 d3) (s67 := (Value.int .i64 (Lv V))) (lk := (Value.slice (some ⟨g.length, 0, none⟩) S.toNat 2)) (by omega) S.toNat 0 g1 (List.replicate S.toNat (0, 0)) (by omega) L1 (by simp; omega) ⟨_, b2⟩ (fun t ht => by omega)
    have eb : slB ((Value.slice (some ⟨g.length, 0, none⟩) S.toNat 2)) = g.length := rfl
    rw [eb] at ow3 o3
    have ep : ps' = ps0 S := List.ext_getElem? fun t => by
      by_cases ht : (t : Int) < S
      · rw [pd t ht, List.getElem?_replicate_of_lt (by omega)]
      · rw [List.getElem?_eq_none (by omega), List.getElem?_eq_none (by simp; omega)]
    rw [ep] at L2
    have o23 : ∀ y, y < g.length → g2[y]? = g[y]? := fun y hy => (o3 y (by omega)).trans (o2 y hy)
    have ok : ∀ y, y < k.length → g2[y]? = k[y]? := fun y hy => (o23 y (by omega)).trans (o1 y hy)
    -- both are put behind
    have q2 : g2[q]? = some (.own (pC V S T a RW LK)) := (ok q (by omega)).trans Q.hq
    have rR2 := pRW q2
    have soB : RW = nilS ∨ n1 ≤ slB RW := Q.so.own.imp id fun q => q.1
    have skB : LK = nilS ∨ n1 ≤ slB LK := Q.sk.own.imp id fun q => q.1
    have soL : RW = nilS ∨ slB RW < k.length := Q.so.own.imp id fun ⟨_, cs, q⟩ => lt_of q
    have skL : LK = nilS ∨ slB LK < k.length := Q.sk.own.imp id fun ⟨_, cs, q⟩ => lt_of q
    have SO2 : SlO g2 n1 1 eV RW lvs := Q.so.at fun y h1 h2 => ok y h2
    obtain ⟨RW', g4, ea, S4, l4, f4⟩ := append_own2 (md := ⟨0, n⟩) (ys := [Value.slice a3 b3 d3]) tL10 SO2 (Nat.zero_le _) (by omega) (cs := [Value.slice a3 b3 d3]) (by simp [flat]) (by simp) rfl (by simp; omega)
    simp only [List.length_cons, List.length_nil, Nat.zero_add] at ea
    have q3 : (g2 ++ [Blk.own [Value.slice a3 b3 d3]])[q]? = some (.own (pC V S T a RW LK)) := by rw [List.getElem?_append_left (by omega)]; exact q2
    have rR3 := pRW q3
    have rK2 := pLK q2
    have rK3 := pLK q3
    have q4 : g4[q]? = some (.own (pC V S T a RW LK)) := (f4 q (by omega) (soB.imp id fun z => by omega)).trans q2
    have rR4 := pRW q4
    have rK4 := pLK q4
    have bR' : g2.length ≤ slB RW' ∧ slB RW' < g4.length := by
      rcases S4.own with e | ⟨q1, cs, q2⟩
      · subst e
        have := S4.nil_of
        simp at this
      · exact ⟨q1, lt_of q2⟩
    have dKR : RW = nilS ∨ slB LK ≠ slB RW := by
      rcases Q.rk with ⟨e, _, _⟩ | ⟨_, _, e⟩
      · exact .inl e
      · exact .inr (Ne.symm e)
    have SK4 : SlO g4 n1 1 eV LK lks := by
      rcases Q.rk with ⟨_, e, e0⟩ | ⟨_, e, _⟩
      · subst e
        have : lks = [] := List.length_eq_zero_iff.1 (by omega)
        rw [this]
        exact SlO.nil _ _ eV_len
      · refine SlO.heap2 Q.sk (fun _ => ?_) (Nat.le_refl _)
        rcases Q.sk.own with z | ⟨_, cs, z⟩
        · rw [z] at e
          exact absurd e (by show ¬ n1 ≤ 0; omega)
        · have := lt_of z
          exact (f4 _ (by omega) dKR).trans (ok _ this)
    have bG : ∀ {α : Type} (hx : Heap) (kk : Value → Heap → Option α), aBuildSlice Try.prog 76 1 [(0, (Value.slice (some ⟨g.length, 0, none⟩) S.toNat 2))] hx kk = kk ((Value.slice (some ⟨hx.length, 0, none⟩) 1 1)) (hx ++ [Blk.own [(Value.slice (some ⟨g.length, 0, none⟩) S.toNat 2)]]) := fun hx kk => bG10 hx kk
    obtain ⟨LK', g6, eb6, S6, l6, f6⟩ := append_own2 (md := ⟨0, n⟩) (ys := [(Value.slice (some ⟨g.length, 0, none⟩) S.toNat 2)]) tGG10 SK4 (Nat.zero_le _) (by omega) (cs := [(Value.slice (some ⟨g.length, 0, none⟩) S.toNat 2)]) (by simp [flat]) (by simp) rfl (by simp; omega)
    simp only [List.length_cons, List.length_nil, Nat.zero_add] at eb6
    have q5 : (g4 ++ [Blk.own [(Value.slice (some ⟨g.length, 0, none⟩) S.toNat 2)]])[q]? = some (.own (pC V S T a RW LK)) := by rw [List.getElem?_append_left (by omega)]; exact q4
    have rR5 := pRW q5
    have rK5 := pLK q5
    have q6 : g6[q]? = some (.own (pC V S T a RW LK)) := (f6 q (by omega) (skB.imp id fun z => by omega)).trans q4
    have bK' : g4.length ≤ slB LK' ∧ slB LK' < g6.length := by
      rcases S6.own with e | ⟨q1, cs, q2⟩
      · subst e
        have := S6.nil_of
        simp at this
      · exact ⟨q1, lt_of q2⟩
    obtain ⟨ra, rb, rc, rfl⟩ := Sl.sliceV S4.sl
    obtain ⟨ka, kb, kc, rfl⟩ := Sl.sliceV S6.sl
    have w7 := wr_at (md := ⟨0, n⟩) (i := 9) (vs := [Value.slice ra rb rc]) q6 (by show 9 + 1 ≤ 11; omega) (Nat.zero_le _) (.inl hnq)
    have e7 : lay (pC V S T a RW LK) 9 [Value.slice ra rb rc] = pC V S T a (Value.slice ra rb rc) LK := rfl
    rw [e7] at w7
    generalize hg7 : g6.set q (.own (pC V S T a (Value.slice ra rb rc) LK)) = g7 at w7
    have q7 : g7[q]? = some (.own (pC V S T a (Value.slice ra rb rc) LK)) := by rw [← hg7]; exact set_same (lt_of q6)
    have o7 : ∀ y, y ≠ q → g7[y]? = g6[y]? := fun y hy => by rw [← hg7]; exact set_else hy
    have l7 : g7.length = g6.length := by rw [← hg7, List.length_set]
    have w8 := wr_at (md := ⟨0, n⟩) (i := 10) (vs := [Value.slice ka kb kc]) q7 (by show 10 + 1 ≤ 11; omega) (Nat.zero_le _) (.inl hnq)
    have e8 : lay (pC V S T a (Value.slice ra rb rc) LK) 10 [Value.slice ka kb kc] = pC V S T a (Value.slice ra rb rc) (Value.slice ka kb kc) := rfl
    rw [e8] at w8
    generalize hg8 : g7.set q (.own (pC V S T a (Value.slice ra rb rc) (Value.slice ka kb kc))) = g8 at w8
    have q8 : g8[q]? = some (.own (pC V S T a (Value.slice ra rb rc) (Value.slice ka kb kc))) := by rw [← hg8]; exact set_same (lt_of q7)
    have o8 : ∀ y, y ≠ q → g8[y]? = g7[y]? := fun y hy => by rw [← hg8]; exact set_else hy
    have l8 : g8.length = g7.length := by rw [← hg8, List.length_set]
    -- what is as it was
    have t4 : ∀ y, y < g4.length → y ≠ q → (LK = nilS ∨ y ≠ slB LK) → g8[y]? = g4[y]? := fun y hy hyq hk => by rw [o8 y hyq, o7 y hyq, f6 y hy hk]
    have t2 : ∀ y, y < g2.length → y ≠ q → (RW = nilS ∨ y ≠ slB RW) → (LK = nilS ∨ y ≠ slB LK) → g8[y]? = g2[y]? := fun y hy hyq hr hk => by rw [t4 y (by omega) hyq hk, f4 y hy hr]
    have tn : ∀ y, k.length ≤ y → y < g2.length → g8[y]? = g2[y]? := fun y h1 h2 => t2 y h2 (by omega) (soL.imp id fun z => by omega) (skL.imp id fun z => by omega)
    have tl : ∀ y, y < n1 → y ≠ q → g8[y]? = k[y]? := fun y h1 h2 => (t2 y (by omega) h2 (soB.imp id fun z => by omega) (skB.imp id fun z => by omega)).trans (ok y (by omega))
    have to : ∀ y, n1 ≤ y → y < k.length → y ≠ slB RW → y ≠ slB LK → g8[y]? = k[y]? := fun y h0 h1 h2 h3 => (t2 y (by omega) (by omega) (.inr h2) (.inr h3)).trans (ok y h1)
    have Q' : QB V S T l0 a b q lb n1 s (Value.slice ra rb rc) (Value.slice ka kb kc) (lvs ++ [.slice a3 b3 d3]) (lks ++ [(Value.slice (some ⟨g.length, 0, none⟩) S.toNat 2)]) (rvss ++ [rvs]) (i + 1) g8 := by
      refine ⟨Q.th.old (tl a (by omega) (Ne.symm hq2.1)) (tl b (by omega) (Ne.symm hq2.2.1)), (tl lb (by omega) (Ne.symm hq2.2.2)).trans Q.hl, q8, ?_, ?_, by simp [ln1, ln2, ln3], fun j lv rvs' h1 h2 => ?_, fun lk hlk => ?_, fun lv hlv => ?_, fun rvs' hrvs rv hrv => ?_, fun lk hlk => ?_, fun j1 j2 x y hne h1 h2 => ?_, .inr ⟨by omega, by omega, by omega⟩⟩
      · refine SlO.heap2 S4 (fun _ => t4 _ bR'.2 (by omega) (skL.imp id fun z => by omega)) (by omega)
      · refine SlO.heap2 S6 (fun _ => by rw [o8 _ (by omega), o7 _ (by omega)]) (by omega)
      · by_cases e : j = i
        · subst e
          rw [List.getElem?_append_right (by omega), ln1, Nat.sub_self] at h1
          rw [List.getElem?_append_right (by omega), ln2, Nat.sub_self] at h2
          simp only [List.getElem?_cons_zero, Option.some.injEq] at h1 h2
          subst h1 h2
          exact ⟨S1.sl.heap fun _ => (tn _ bacc.1 (by omega)).trans (o23 _ bacc.2), F2.mk F1.len fun a rv r q1 q2 => (F1.get a rv r q1 q2).heap fun hl => by
            have := B1 rv (List.mem_of_getElem? q1)
            exact (tn _ this.1 (by omega)).trans (o23 _ hl)⟩
        · have hj : j < i := by have := (List.getElem?_eq_some_iff.1 h1).1; simp at this; omega
          rw [List.getElem?_append_left (by omega)] at h1 h2
          refine (Q.lr j lv rvs' h1 h2).heap fun y hy hyy => ?_
          rcases hyy with rfl | ⟨rv, hrv, rfl⟩
          · obtain ⟨z1, z2, z3, z4, _⟩ := Q.bl lv (List.mem_of_getElem? h1)
            exact to _ z1 z2 z3 z4
          · obtain ⟨z1, z2, z3, z4, _⟩ := Q.bv rvs' (List.mem_of_getElem? h2) rv hrv
            exact to _ z1 z2 z3 z4
      · rcases List.mem_append.1 hlk with z | z
        · obtain ⟨z1, z2, z3, z4⟩ := Q.bk lk z
          obtain ⟨z5, cs, z6⟩ := Q.lp lk z
          exact ⟨z5.heap fun _ => to _ z1 z2 z3 z4, cs, (to _ z1 z2 z3 z4).trans z6⟩
        · simp only [List.mem_singleton] at z; subst z
          obtain ⟨cs, hc⟩ := ow3
          exact ⟨L2.heap fun _ => tn _ (by show k.length ≤ g.length; omega) (by show g.length < _; omega), cs, (tn _ (by show k.length ≤ g.length; omega) (by show g.length < _; omega)).trans hc⟩
      · rcases List.mem_append.1 hlv with z | z
        · obtain ⟨z1, z2, z3, z4, z5⟩ := Q.bl lv z
          refine ⟨z1, by omega, by omega, by omega, fun lk hlk => ?_⟩
          rcases List.mem_append.1 hlk with z' | z'
          · exact z5 lk z'
          · simp only [List.mem_singleton] at z'; subst z'
            show _ ≠ g.length; omega
        · simp only [List.mem_singleton] at z; subst z
          refine ⟨by omega, by omega, by omega, by omega, fun lk hlk => ?_⟩
          rcases List.mem_append.1 hlk with z' | z'
          · have := Q.bk lk z'; omega
          · simp only [List.mem_singleton] at z'; subst z'
            show _ ≠ g.length; omega
      · rcases List.mem_append.1 hrvs with z | z
        · obtain ⟨z1, z2, z3, z4, z5⟩ := Q.bv rvs' z rv hrv
          refine ⟨z1, by omega, by omega, by omega, fun lk hlk => ?_⟩
          rcases List.mem_append.1 hlk with z' | z'
          · exact z5 lk z'
          · simp only [List.mem_singleton] at z'; subst z'
            show _ ≠ g.length; omega
        · simp only [List.mem_singleton] at z; subst z
          obtain ⟨z1, z2, _⟩ := B1 rv hrv
          refine ⟨by omega, by omega, by omega, by omega, fun lk hlk => ?_⟩
          rcases List.mem_append.1 hlk with z' | z'
          · have := Q.bk lk z'; omega
          · simp only [List.mem_singleton] at z'; subst z'
            show _ ≠ g.length; omega
      · rcases List.mem_append.1 hlk with z | z
        · obtain ⟨z1, z2, z3, z4⟩ := Q.bk lk z
          exact ⟨z1, by omega, by omega, by omega⟩
        · simp only [List.mem_singleton] at z; subst z
          exact ⟨by show n1 ≤ g.length; omega, by show g.length < _; omega, by show g.length ≠ _; omega, by show g.length ≠ _; omega⟩
      · by_cases e1 : j1 < i
        · rw [List.getElem?_append_left (by omega)] at h1
          by_cases e2 : j2 < i
          · rw [List.getElem?_append_left (by omega)] at h2
            exact Q.mL j1 j2 x y hne h1 h2
          · rw [List.getElem?_append_right (by omega)] at h2
            have := Q.bk x (List.mem_of_getElem? h1)
            have h3 := List.mem_of_getElem? h2
            simp only [List.mem_singleton] at h3; subst h3
            show _ ≠ g.length; omega
        · rw [List.getElem?_append_right (by omega)] at h1
          have h3 := List.mem_of_getElem? h1
          simp only [List.mem_singleton] at h3; subst h3
          by_cases e2 : j2 < i
          · rw [List.getElem?_append_left (by omega)] at h2
            have := Q.bk y (List.mem_of_getElem? h2)
            show g.length ≠ _; omega
          · have a1 := (List.getElem?_eq_some_iff.1 h1).1
            have a2 := (List.getElem?_eq_some_iff.1 h2).1
            simp at a1 a2
            omega
    obtain ⟨RW2, LK2, lvs2, lks2, rvss2, k2, e9, Q2, l9, o9⟩ := ih (i + 1) g8 _ _ _ _ _ (by omega) (by omega) Q'
    refine ⟨RW2, LK2, lvs2, lks2, rvss2, k2, ?_, Q2, by omega, fun y h1 h2 => (o9 y h1 h2).trans (tl y h1 h2)⟩
    have z0 : (((0 : Nat) : Int)) = 0 := rfl
    rw [z0] at e1 e3
    rw [J33_2_step]
    unfold Jr33_2
    simp only [go_sem, Nat.reduceAdd, Nat.reduceLeDiff, Nat.reduceMul, Int.reduceBEq, Int.reduceBNe, Int.reduceLT, Int.reduceLE, Int.reduceGT, aBin_lss, hlt, rV0]
    rw [e1]
    unfold J33_2b1
    simp only [go_sem, Nat.reduceAdd, Nat.reduceLeDiff, Nat.reduceMul, Int.reduceBEq, Int.reduceBNe, Int.reduceLT, Int.reduceLE, Int.reduceGT, rS, mk, lenL]
    rw [e3]
    unfold J33_2b3
    simp only [go_sem, Nat.reduceAdd, Nat.reduceLeDiff, Nat.reduceMul, Int.reduceBEq, Int.reduceBNe, Int.reduceLT, Int.reduceLE, Int.reduceGT, okNil, okP_p, rR2, bL10, rR3, cLE_t, ea, rK4, rK3, rK2, rR4, bG, rK5, rR5, eb6, w7, w8, aBin_add, w]
    exact e9
end Go.Det.E

/- The play of 10 at its beginning, whole. -/
namespace Go.Det.E
open Go.Proofs Go.Det Go.Det.U
attribute [local congr] bind_c cond_c
variable {h hh k h' : Heap} {a b q n n0 n1 c cb lb tb : Nat} {V S T x y p f u w sl K LV SL U W : Int} {D l : List Int} {l0 : Int → Int} {pr : Int → Int} {s s' : NS} {r A B xs : List Int} {dv ov rv av bv RW LK lv lk X : Value} {i j m sn N : Nat} {rs rs' : List (List Int)} {ps ps' : List (Int × Int)} {rss rss' : List (List (List Int))} {pss pss' : List (List (Int × Int))} {rvs lvs lks : List Value} {rvss : List (List Value)} {cs : List Value} {e : Int × Int}
theorem rows0_get {v : Nat} (h : (rows0 V i j)[v]? = some r) : v < j ∧ r = [Vx V (i : Int) (v : Int)] := by
  have hl := (List.getElem?_eq_some_iff.1 h).1
  rw [rows0_len] at hl
  refine ⟨hl, ?_⟩
  unfold rows0 at h
  rw [List.getElem?_map, List.getElem?_range hl] at h
  exact (Option.some.inj h).symm
theorem rows0_mem (h : r ∈ rows0 V i V.toNat) : ∃ v : Int, (0 ≤ v ∧ v < V) ∧ r = [Vx V (i : Int) v] := by
  obtain ⟨v, hv⟩ := List.mem_iff_getElem?.1 h
  obtain ⟨h1, h2⟩ := rows0_get hv
  exact ⟨v, by omega, h2⟩
theorem no_lk (h : Lk (ps0 S) sn e) : False := by
  have h1 := h.2
  have := List.eq_of_mem_replicate (List.mem_of_getElem? h.1)
  rw [this] at h1
  exact absurd h1 (by decide)
theorem WF.start (hR : Rt V S T) (hi : (i : Int) < Lv V) : WF V S i (rows0 V i V.toNat) (ps0 S) := by
  have rV := hR
  unfold Rt at rV
  refine ⟨by simp; omega, fun s e h => .inl (List.eq_of_mem_replicate (List.mem_of_getElem? h)), fun r hr => ?_, pw_of fun a b r r' hab h1 h2 => ?_, fun r hr y hy => ?_, fun v h1 h2 => ?_, fun s e h => (no_lk h).elim, fun r hr s e h => (no_lk h).elim⟩
  · obtain ⟨v, hv, rfl⟩ := rows0_mem hr
    simp
  · obtain ⟨q1, rfl⟩ := rows0_get h1
    obtain ⟨q2, rfl⟩ := rows0_get h2
    intro y hy hy'
    simp only [List.mem_singleton] at hy hy'
    have := (V_pos hR hi hi (show 0 ≤ (a : Int) ∧ (a : Int) < V by omega) (show 0 ≤ (b : Int) ∧ (b : Int) < V by omega) (hy.symm.trans hy')).2
    omega
  · obtain ⟨v, hv, rfl⟩ := rows0_mem hr
    simp only [List.mem_singleton] at hy
    exact .inl ⟨v, hv, hy⟩
  · refine ⟨[Vx V i v], List.mem_iff_getElem?.2 ⟨v.toNat, ?_⟩, by simp⟩
    unfold rows0
    rw [List.getElem?_map, List.getElem?_range (by omega)]
    show some [Vx V i ((v.toNat : Nat) : Int)] = _
    rw [show ((v.toNat : Nat) : Int) = v by omega]
abbrev rss0 (V : Int) : List (List (List Int)) := (List.range (Lv V).toNat).map fun i => rows0 V i V.toNat
abbrev pss0 (V S : Int) : List (List (Int × Int)) := List.replicate (Lv V).toNat (ps0 S)
theorem rss0_get (h : (rss0 V)[i]? = some rs) : i < (Lv V).toNat ∧ rs = rows0 V i V.toNat := by
  have hl := (List.getElem?_eq_some_iff.1 h).1
  simp at hl
  refine ⟨by omega, ?_⟩
  rw [List.getElem?_map, List.getElem?_range (by omega)] at h
  exact (Option.some.inj h).symm
theorem PW.start (hR : Rt V S T) (hN : (N : Int) = Nn V S) (Z : ∀ y : Nat, 1 ≤ y → y ≤ N → IsT mkN (vxB V) s (one1 (y : Int)) 0) (pr : Int → Int) : PW V S pr 16 s (rss0 V) (pss0 V S) := by
  have rV := hR
  unfold Rt at rV
  have rL := Lv_le hR
  have one : ∀ {i : Nat} {y : Int}, (i : Int) < Lv V → NL V S i y → HR V pr s [y] := fun {i y} hi hy => by
    have q := NL_nix hR hi hy
    have q1 := q.1
    have q2 := q.2
    have z := Z y.toNat (by omega) (by omega)
    rw [show ((y.toNat : Nat) : Int) = y by omega] at z
    exact (alone_HR pr).2 z
  refine ⟨by simp; omega, by simp; omega, fun i rs ps h1 h2 => ?_, fun i rs h1 r hr => ?_, fun i ps h1 sn hs hn d hd => ?_, fun i rs h1 => ?_, fun i rs ps h1 h2 r hr u v hu hv q1 q2 => ?_⟩
  · obtain ⟨hi, rfl⟩ := rss0_get h1
    have := List.eq_of_mem_replicate (List.mem_of_getElem? h2)
    rw [this]
    exact WF.start hR (by omega)
  · obtain ⟨hi, rfl⟩ := rss0_get h1
    obtain ⟨v, hv, rfl⟩ := rows0_mem hr
    exact one (i := i) (by omega) (.inl ⟨v, hv, rfl⟩)
  · have hi := (List.getElem?_eq_some_iff.1 h1).1
    simp at hi
    exact one (i := i) (by omega) (.inr ⟨sn, d, hs, hd, rfl⟩)
  · obtain ⟨hi, rfl⟩ := rss0_get h1
    rw [rows0_len]; omega
  · obtain ⟨hi, rfl⟩ := rss0_get h1
    obtain ⟨z, hz, rfl⟩ := rows0_mem hr
    simp only [List.mem_singleton] at q1 q2
    obtain ⟨_, e⟩ := V_pos hR (by omega) (by omega) hu hv (q1.trans q2.symm)
    subst e
    exact .refl
theorem bTrees10 {α : Type} {V S T : Int} {a : Nat} (k : Value → Option α) : aBuild Try.prog 42 [(0, (Value.agg #[(Value.int .i64 V), (Value.int .i64 S), (Value.int .i64 T)])), (1, ifA a), (2, (Value.agg #[(Value.int .i64 1), (Value.int .i64 0)]))] k = k ((Value.agg #[(Value.int .i64 V), (Value.int .i64 S), (Value.int .i64 T), ifA a, (Value.int .i64 1), (Value.int .i64 0)])) := by kernel_rfl
theorem bTours10 {α : Type} {V S T : Int} {a : Nat} (k : Value → Option α) : aBuild Try.prog 74 [(0, (Value.agg #[(Value.int .i64 V), (Value.int .i64 S), (Value.int .i64 T), ifA a, (Value.int .i64 1), (Value.int .i64 0)]))] k = k ((Value.agg #[(Value.int .i64 V), (Value.int .i64 S), (Value.int .i64 T), ifA a, (Value.int .i64 1), (Value.int .i64 0)])) := by kernel_rfl
theorem bPlay10 {α : Type} {V S T : Int} {a : Nat} (k : Value → Option α) : aBuild Try.prog 78 [(0, (Value.agg #[(Value.int .i64 V), (Value.int .i64 S), (Value.int .i64 T)])), (1, (Value.agg #[(Value.int .i64 V), (Value.int .i64 S), (Value.int .i64 T), ifA a, (Value.int .i64 1), (Value.int .i64 0)]))] k = k ((Value.agg (List.toArray (pC V S T a nilS nilS)))) := by kernel_rfl
set_option maxRecDepth 100000 in
theorem begun10 (hR : Rt V S T) (hp : 0 < h.length) (hn : n ≤ h.length) (SD : Sl h 1 eU dv D) (wD : Wd D) :
    ∃ h' q a b l0 s RW LK lvs lks rvss, C ⟨0, n⟩ 33 [(Value.agg #[(Value.int .i64 V), (Value.int .i64 S), (Value.int .i64 T), dv, ov])] h = some ((Value.pointer (some ⟨q, 0, none⟩)), h') ∧ H10 V S T l0 a b q h.length RW LK lvs lks rvss s (rss0 V) (pss0 V S) h' ∧ PW V S (prO V S T l0) 16 s (rss0 V) (pss0 V S) ∧ h.length ≤ h'.length ∧ ∀ y, y < h.length → h'[y]? = h[y]? := by
  have cn := Cn_le hR
  have rL := Lv_le hR
  obtain ⟨N, hN⟩ : ∃ N : Nat, (N : Int) = Nn V S := ⟨(Nn V S).toNat, by omega⟩
  have c0 : (h ++ [Blk.own [(Value.int .i64 V), (Value.int .i64 S), (Value.int .i64 T), dv, ov]])[h.length]? = some (Blk.own [(Value.int .i64 V), (Value.int .i64 S), (Value.int .i64 T), dv, ov]) := List.getElem?_concat_length ..
  have r0 : rdN (h ++ [Blk.own [(Value.int .i64 V), (Value.int .i64 S), (Value.int .i64 T), dv, ov]]) h.length 0 3 = some [(Value.int .i64 V), (Value.int .i64 S), (Value.int .i64 T)] := by rw [rdN_at c0 (by show 3 ≤ 5; omega)]; rfl
  have st3 := fun (hq : Heap) (kk : Heap → Option (Value × Heap)) => st_N ⟨0, n⟩ 3 (h.length + 1) 0 [(Value.int .i64 V), (Value.int .i64 S), (Value.int .i64 T)] hq kk rfl rfl
  have w3 := wrN_new1 (md := ⟨0, n⟩) (h := h) (b0 := Blk.own [(Value.int .i64 V), (Value.int .i64 S), (Value.int .i64 T), dv, ov]) (bs := []) (i := 0) (cs := [(Value.int .i64 0), (Value.int .i64 0), (Value.int .i64 0)]) (vs := [(Value.int .i64 V), (Value.int .i64 S), (Value.int .i64 T)]) (Nat.zero_le _) hn (Nat.le_refl 3)
  have eL : lay [(Value.int .i64 0), (Value.int .i64 0), (Value.int .i64 0)] 0 [(Value.int .i64 V), (Value.int .i64 S), (Value.int .i64 T)] = [(Value.int .i64 V), (Value.int .i64 S), (Value.int .i64 T)] := rfl
  rw [eL] at w3
  generalize hg1 : h ++ [Blk.own [(Value.int .i64 V), (Value.int .i64 S), (Value.int .i64 T), dv, ov], Blk.own [(Value.int .i64 V), (Value.int .i64 S), (Value.int .i64 T)]] = g1 at w3
  have lg1 : g1.length = h.length + 2 := by rw [← hg1]; simp
  have o1 : ∀ y, y < h.length → g1[y]? = h[y]? := fun y hy => by rw [← hg1, List.getElem?_append_left hy]
  have c1 : g1[h.length]? = some (Blk.own [(Value.int .i64 V), (Value.int .i64 S), (Value.int .i64 T), dv, ov]) := by rw [← hg1, List.getElem?_append_right (Nat.le_refl _)]; simp
  have d1 : g1[h.length + 1]? = some (Blk.own [(Value.int .i64 V), (Value.int .i64 S), (Value.int .i64 T)]) := by rw [← hg1, List.getElem?_append_right (by omega)]; simp
  have r1 : rdN g1 (h.length + 1) 0 3 = some [(Value.int .i64 V), (Value.int .i64 S), (Value.int .i64 T)] := by rw [rdN_at d1 (Nat.le_refl 3)]; rfl
  have ce := fun (m : Md) (h : Heap) => cells_s m h hR
  obtain ⟨g2, a, b, e2, A2, O2, la, lb⟩ := new_e ⟨0, n⟩ g1 (n := Cn V S T) (by omega) (by omega)
  have lg2 := O2.len
  have lta := lt_of A2.ha
  have ltb := lt_of A2.hb
  have d2 : g2[h.length + 1]? = some (Blk.own [(Value.int .i64 V), (Value.int .i64 S), (Value.int .i64 T)]) := (O2.old _ (by omega)).trans d1
  have r2 : rdN g2 (h.length + 1) 0 3 = some [(Value.int .i64 V), (Value.int .i64 S), (Value.int .i64 T)] := by rw [rdN_at d2 (Nat.le_refl 3)]; rfl
  have mo := fun (m : Md) => memof_s m g2 lta
  have mo3 := fun (m : Md) => memof_s m (g2 ++ [Blk.own [(Value.int .i64 0), (Value.int .i64 0), (Value.int .i64 0), .nilIface, (Value.int .i64 0), (Value.int .i64 0)]]) (a := a) (by simp; omega)
  have r23 : rdN (g2 ++ [Blk.own [(Value.int .i64 0), (Value.int .i64 0), (Value.int .i64 0), .nilIface, (Value.int .i64 0), (Value.int .i64 0)]]) (h.length + 1) 0 3 = some [(Value.int .i64 V), (Value.int .i64 S), (Value.int .i64 T)] := by rw [rdN_at (by rw [List.getElem?_append_left (by omega)]; exact d2) (Nat.le_refl 3)]; rfl
  have st6 := fun (hq : Heap) (kk : Heap → Option (Value × Heap)) => st_N ⟨0, n⟩ 6 g2.length 0 [(Value.int .i64 V), (Value.int .i64 S), (Value.int .i64 T), ifA a, (Value.int .i64 1), (Value.int .i64 0)] hq kk rfl rfl
  have w6 := wrN_new0 (md := ⟨0, n⟩) (h := g2) (bs := []) (i := 0) (cs := [(Value.int .i64 0), (Value.int .i64 0), (Value.int .i64 0), .nilIface, (Value.int .i64 0), (Value.int .i64 0)]) (vs := [(Value.int .i64 V), (Value.int .i64 S), (Value.int .i64 T), ifA a, (Value.int .i64 1), (Value.int .i64 0)]) (Nat.zero_le _) (by show n ≤ _; omega) (Nat.le_refl 6)
  have eL6 : lay [(Value.int .i64 0), (Value.int .i64 0), (Value.int .i64 0), .nilIface, (Value.int .i64 0), (Value.int .i64 0)] 0 [(Value.int .i64 V), (Value.int .i64 S), (Value.int .i64 T), ifA a, (Value.int .i64 1), (Value.int .i64 0)] = [(Value.int .i64 V), (Value.int .i64 S), (Value.int .i64 T), ifA a, (Value.int .i64 1), (Value.int .i64 0)] := rfl
  rw [eL6] at w6
  generalize hg3 : g2 ++ [Blk.own [(Value.int .i64 V), (Value.int .i64 S), (Value.int .i64 T), ifA a, (Value.int .i64 1), (Value.int .i64 0)]] = g3 at w6
  have lg3 : g3.length = g2.length + 1 := by rw [← hg3]; simp
  have o3 : ∀ y, y < g2.length → g3[y]? = g2[y]? := fun y hy => by rw [← hg3, List.getElem?_append_left hy]
  have t3 : g3[g2.length]? = some (Blk.own [(Value.int .i64 V), (Value.int .i64 S), (Value.int .i64 T), ifA a, (Value.int .i64 1), (Value.int .i64 0)]) := by rw [← hg3]; exact List.getElem?_concat_length ..
  have o13 : ∀ y, y < g1.length → g3[y]? = g1[y]? := fun y hy => (o3 y (by omega)).trans (O2.old y hy)
  have bd : slB dv < h.length := by
    rcases SD.is with ⟨rfl, rfl⟩ | ⟨bb, oo, kk, rfl, hb, hc, hl⟩
    · exact hp
    · exact lt_of hb
  obtain ⟨l0, s, kf, ef, Af, lf, of, Z⟩ := begun_lp10 (n := n) (h0 := h) (cb := h.length) (lb := h.length + 1) (tb := g2.length) (dv := dv) (ov := ov) hR hN wD ⟨by omega, by omega⟩ ⟨by omega, by omega⟩ ⟨by omega, by omega⟩ ⟨by omega, by omega⟩ N 1 g3 _ _ (by omega) (Nat.le_refl 1) ⟨_, _, A2.same (o3 _ lta) (o3 _ ltb), tree_rep0 hR⟩ ((o13 _ (by omega)).trans c1) ((o13 _ (by omega)).trans d1) t3 (SD.heap fun hl => (o13 _ (by omega)).trans (o1 _ hl)) (fun y h1 h2 => by omega)
  have df : kf[h.length + 1]? = some (Blk.own [(Value.int .i64 V), (Value.int .i64 S), (Value.int .i64 T)]) := (of _ (by omega) (by omega)).trans ((o13 _ (by omega)).trans d1)
  have tf : kf[g2.length]? = some (Blk.own [(Value.int .i64 V), (Value.int .i64 S), (Value.int .i64 T), ifA a, (Value.int .i64 1), (Value.int .i64 0)]) := (of _ (by omega) (by omega)).trans t3
  have rf : rdN kf (h.length + 1) 0 3 = some [(Value.int .i64 V), (Value.int .i64 S), (Value.int .i64 T)] := by rw [rdN_at df (Nat.le_refl 3)]; rfl
  have rt : rdN kf g2.length 0 6 = some [(Value.int .i64 V), (Value.int .i64 S), (Value.int .i64 T), ifA a, (Value.int .i64 1), (Value.int .i64 0)] := by rw [rdN_at tf (Nat.le_refl 6)]; rfl
  have ec : (Value.agg (List.toArray (pC V S T a nilS nilS))).cells.toList = pC V S T a nilS nilS := rfl
  generalize hk0 : kf ++ [Blk.own (pC V S T a nilS nilS)] = k0
  have lk0 : k0.length = kf.length + 1 := by rw [← hk0]; simp
  have ok0 : ∀ y, y < kf.length → k0[y]? = kf[y]? := fun y hy => by rw [← hk0, List.getElem?_append_left hy]
  have qk0 : k0[kf.length]? = some (Blk.own (pC V S T a nilS nilS)) := by rw [← hk0]; exact List.getElem?_concat_length ..
  have dk0 : k0[h.length + 1]? = some (Blk.own [(Value.int .i64 V), (Value.int .i64 S), (Value.int .i64 T)]) := (ok0 _ (by omega)).trans df
  have rk0 : rdN k0 (h.length + 1) 0 3 = some [(Value.int .i64 V), (Value.int .i64 S), (Value.int .i64 T)] := by rw [rdN_at dk0 (Nat.le_refl 3)]; rfl
  have lvS := fun (m : Md) (h : Heap) => levels_s m h hR
  obtain ⟨RW, LK, lvs, lks, rvss, k2, e9, Q, l9, o9⟩ := level_lp (n := n) (h0 := h) (a := a) (b := b) (q := kf.length) (lb := h.length + 1) (n1 := kf.length + 1) (s := s) (l0 := l0) hR ⟨by omega, by omega, by omega, by omega, by omega⟩ ⟨by omega, by omega, by omega⟩ (by omega) (Lv V).toNat 0 k0 nilS nilS [] [] [] (by omega) (by omega) ⟨Af.old (ok0 a (by omega)) (ok0 b (by omega)), dk0, qk0, SlO.nil _ _ eV_len, SlO.nil _ _ eV_len, ⟨rfl, rfl, rfl⟩, fun j lv rvs h1 => by simp at h1, fun lk h1 => by simp at h1, fun lv h1 => by simp at h1, fun rvs h1 => by simp at h1, fun lk h1 => by simp at h1, fun i j x y hne h1 => by simp at h1, .inl ⟨rfl, rfl, rfl⟩⟩
  obtain ⟨ln1, ln2, ln3⟩ := Q.ln
  have rkk : kf.length + 1 ≤ slB RW ∧ kf.length + 1 ≤ slB LK ∧ slB RW ≠ slB LK := by
    rcases Q.rk with ⟨_, _, e0⟩ | z
    · omega
    · exact z
  have sep : ∀ {y : Nat}, kf.length + 1 ≤ y → y ≠ slB RW → (∀ lk ∈ lks, y ≠ slB lk) → ¬ Mt a b RW lks y := fun {y} h1 h2 h3 hm => by
    rcases hm with e | e | e | ⟨lk, hlk, e⟩
    · omega
    · omega
    · exact h2 e
    · exact h3 lk hlk e
  refine ⟨k2, kf.length, a, b, l0, s, RW, LK, lvs, lks, rvss, ?_, ⟨Q.th, Q.hq, Q.so.sl, Q.sk.sl, ⟨by simp [ln1], by simp [ln2], by simp [ln3]⟩, fun i lv rvs rs h1 h2 h3 => ?_, fun i lk ps h1 h2 => ?_, ?_, fun lk hlk => (Q.lp lk hlk).2, fun hm => ?_, sep rkk.2.1 (Ne.symm rkk.2.2) (fun lk hlk => Ne.symm (Q.bk lk hlk).2.2.2), fun lv hlv => ?_, fun rvs hrvs rv hrv => ?_, ⟨by omega, by omega, fun lk hlk => ?_⟩, Q.mL, ⟨hp, by omega, by omega, by omega, by omega, fun lk hlk => by have := Q.bk lk hlk; omega⟩⟩, PW.start hR hN Z _, by omega, fun y hy => ?_⟩
  · rw [C, call_eq, F33_eq]
    unfold F33
    have uP : Try.prog.underlying 36 = some (.pointer 122) := by kernel_rfl
    have z0 : ((0 : Int) != 0) = false := rfl
    have z00 : (((0 : Nat) : Int)) = 0 := rfl
    rw [Int.natCast_one] at ef
    rw [z00] at e9
    simp only [go_sem, Nat.reduceAdd, Nat.reduceLeDiff, Nat.reduceMul, Int.reduceBEq, Int.reduceBNe, Int.reduceLT, Int.reduceLE, Int.reduceGT, r0, st3, w3, r1, ce, e2, z0, aBin_eqlP uP, r2, mo, bTrees10, mo3, cLE_t, r23, st6, w6]
    rw [ef]
    unfold J33_1
    simp only [go_sem, Nat.reduceAdd, Nat.reduceLeDiff, Nat.reduceMul, Int.reduceBEq, Int.reduceBNe, Int.reduceLT, Int.reduceLE, Int.reduceGT, rf, rt, bTours10, bPlay10, ec, hk0, rk0, lvS]
    exact e9
  · obtain ⟨hi, rfl⟩ := rss0_get h3
    exact Q.lr i lv rvs h1 h2
  · have := List.eq_of_mem_replicate (List.mem_of_getElem? h2)
    rw [this]
    exact (Q.lp lk (List.mem_of_getElem? h1)).1
  · rcases Q.so.own with e | ⟨_, cs, z⟩
    · rw [e] at rkk
      exact absurd rkk.1 (by show ¬ kf.length + 1 ≤ 0; omega)
    · exact ⟨cs, z⟩
  · rcases hm with e | e | e | ⟨lk, hlk, e⟩
    · omega
    · omega
    · omega
    · have := Q.bk lk hlk; omega
  · obtain ⟨z1, z2, z3, z4, z5⟩ := Q.bl lv hlv
    exact sep z1 z3 z5
  · obtain ⟨z1, z2, z3, z4, z5⟩ := Q.bv rvs hrvs rv hrv
    exact sep z1 z3 z5
  · obtain ⟨z1, z2, z3, z4⟩ := Q.bk lk hlk
    exact ⟨z3, by omega, by omega⟩
  · rw [o9 y (by omega) (by omega), ok0 y (by omega), of y (by omega) (by omega), o13 y (by omega), o1 y hy]
end Go.Det.E
