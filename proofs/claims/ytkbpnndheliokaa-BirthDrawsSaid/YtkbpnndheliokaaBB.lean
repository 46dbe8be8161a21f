/- Memory as it is at first: what is stored, cell by cell. -/
import Derived.Test.YtkbpnndheliokaaP5
import Derived.Test.YtkbpnndheliokaaS3
import Derived.Test.YtkbpnndheliokaaL12
import Derived.Test.YtkbpnndheliokaaE5
import Derived.Test.YtkbpnndheliokaaM3
set_option autoImplicit false
set_option linter.unusedVariables false
set_option linter.unusedSimpArgs false
namespace Go.Det.E
open Go.Proofs Go.Det
variable {n : Nat} {l : List Int} {V S T p x q i : Int}
/-- The cells of a node, from q on. -/
def ndL (l : List Int) (q p lone lock : Int) (sh : Bool) : List Int :=
  let l3 := putI (putI (putI l (q + 5) p) (q + 3) 0) (q + 4) 0
  let l4 := bif sh then chL l3 (q + 2) (olW 1 0 (getI l3 (q + 2))) 0 1 0 else putI l3 (q + 2) 0
  let l5 := putI l4 (q + 6) lone
  putI (chL l5 (q + 2) (getI l5 (q + 2) % 65536) (getI l5 (q + 2) % 65536) 0 0) q lock
theorem chL_len (l : List Int) (x o n t g : Int) : (chL l x o n t g).length = l.length := by
  unfold chL
  cases W.rightB (getI l x) && W.rightW o n t g
  · rfl
  · exact putI_len _ _ _
theorem ndL_len (l : List Int) (q p lone lock : Int) (sh : Bool) : (ndL l q p lone lock sh).length = l.length := by
  unfold ndL
  simp only [putI_len, chL_len]
  cases sh <;> simp only [cond_true, cond_false, putI_len, chL_len]
theorem nd_get {lone lock : Int} {sh : Bool} (h0 : getI l (q + 2) = 0) (hq : 0 ≤ q) (hq6 : q + 6 < l.length) (i : Int) :
    getI (ndL l q p lone lock sh) i = if i = q then lock else if i = q + 5 then p else if i = q + 6 then lone else if i = q + 2 ∨ i = q + 3 ∨ i = q + 4 then 0 else getI l i := by
  have r0 : W.rightB 0 = true := by decide +kernel
  have r1 : W.rightW (olW 1 0 0) 0 1 0 = true := by decide +kernel
  have b1 : W.bitsW (olW 1 0 0) 0 1 0 = 4294967296 := by decide +kernel
  have r2 : W.rightB 4294967296 = true := by decide +kernel
  have r3 : W.rightW 0 0 0 0 = true := by decide +kernel
  have b3 : W.bitsW 0 0 0 0 = 0 := by decide +kernel
  have v3 : getI (putI (putI (putI l (q + 5) p) (q + 3) 0) (q + 4) 0) (q + 2) = 0 := by
    rw [getI_else (by omega), getI_else (by omega), getI_else (by omega), h0]
  unfold ndL
  cases sh
  · simp only [cond_false]
    generalize hl4 : putI (putI (putI (putI l (q + 5) p) (q + 3) 0) (q + 4) 0) (q + 2) 0 = l4
    have e4 : l4.length = l.length := by rw [← hl4]; simp only [putI_len]
    have v5 : getI (putI l4 (q + 6) lone) (q + 2) = 0 := by
      rw [getI_else (by omega), ← hl4, getI_same ⟨by omega, by simp only [putI_len]; omega⟩]
    have c5 : chL (putI l4 (q + 6) lone) (q + 2) (0 % 65536) (0 % 65536) 0 0 = putI (putI l4 (q + 6) lone) (q + 2) 0 := by
      unfold chL
      rw [v5]
      simp only [Int.zero_emod, r0, r3, b3, Bool.and_self, cond_true]
    rw [v5, c5, ← hl4]
    simp only [getI_put, putI_len]
    repeat' split
    all_goals first | rfl | omega
  · simp only [cond_true]
    rw [v3]
    have c4 : chL (putI (putI (putI l (q + 5) p) (q + 3) 0) (q + 4) 0) (q + 2) (olW 1 0 0) 0 1 0 = putI (putI (putI (putI l (q + 5) p) (q + 3) 0) (q + 4) 0) (q + 2) 4294967296 := by
      unfold chL
      rw [v3]
      simp only [r0, r1, b1, Bool.and_self, cond_true]
    rw [c4]
    generalize hl4 : putI (putI (putI (putI l (q + 5) p) (q + 3) 0) (q + 4) 0) (q + 2) 4294967296 = l4
    have e4 : l4.length = l.length := by rw [← hl4]; simp only [putI_len]
    have v5 : getI (putI l4 (q + 6) lone) (q + 2) = 4294967296 := by
      rw [getI_else (by omega), ← hl4, getI_same ⟨by omega, by simp only [putI_len]; omega⟩]
    have m5 : (4294967296 : Int) % 65536 = 0 := by decide
    have c5 : chL (putI l4 (q + 6) lone) (q + 2) 0 0 0 0 = putI (putI l4 (q + 6) lone) (q + 2) 0 := by
      unfold chL
      rw [v5]
      simp only [r2, r3, b3, Bool.and_self, cond_true]
    rw [v5, m5, c5, ← hl4]
    simp only [getI_put, putI_len]
    repeat' split
    all_goals first | rfl | omega
/-- What a field of a node is at first. -/
def loneV (V x : Int) : Int := if x - 1 < Lv V * V then 65537 else 1
def lockV (V x : Int) : Int := if x - 1 < V then 0 else 65535
def fv (V x p f : Int) : Int := if f = 0 then lockV V x else if f = 5 then p else if f = 6 then loneV V x else 0
/-- Memory behind the first nodes. -/
def ndsL (V S T : Int) (sh : Int → Bool) (pr : Int → Int) (l : List Int) : Nat → List Int
  | 0 => l
  | k + 1 => ndL (ndsL V S T sh pr l k) (Nd V S T + (k : Int) * 7) (pr ((k : Int) + 1)) (loneV V ((k : Int) + 1)) (lockV V ((k : Int) + 1)) (sh ((k : Int) + 1))
theorem ndsL_len (sh : Int → Bool) (pr : Int → Int) : ∀ k, (ndsL V S T sh pr l k).length = l.length := by
  intro k
  induction k with
  | zero => rfl
  | succ k ih => rw [ndsL, ndL_len, ih]
theorem nds_get (hR : Rt V S T) (sh : Int → Bool) (pr : Int → Int) (hl : (l.length : Int) = Cn V S T) (hz : ∀ i, Nd V S T ≤ i → getI l i = 0) : ∀ k : Nat, (k : Int) ≤ Nn V S → ∀ i,
    getI (ndsL V S T sh pr l k) i = if Nd V S T ≤ i ∧ i < Nd V S T + (k : Int) * 7 then fv V ((i - Nd V S T) / 7 + 1) (pr ((i - Nd V S T) / 7 + 1)) ((i - Nd V S T) % 7) else getI l i := by
  have cn : Cn V S T = Nd V S T + Nn V S * 7 := rfl
  have nd := (order hR)
  intro k
  induction k with
  | zero =>
    intro _ i
    rw [if_neg (by omega)]; rfl
  | succ k ih =>
    intro hk i
    have ih := ih (by omega)
    rw [ndsL, nd_get (by rw [ih, if_neg (by omega), hz _ (by omega)]) (by omega) (by rw [ndsL_len]; omega)]
    by_cases hi : Nd V S T + (k : Int) * 7 ≤ i ∧ i < Nd V S T + (k : Int) * 7 + 7
    · have e1 : (i - Nd V S T) / 7 = k := by omega
      have e2 : getI (ndsL V S T sh pr l k) i = 0 := by rw [ih, if_neg (by omega), hz i (by omega)]
      have e3 : Nd V S T ≤ i ∧ i < Nd V S T + ((k + 1 : Nat) : Int) * 7 := ⟨by omega, by omega⟩
      rw [if_pos e3, e1, e2]
      unfold fv
      repeat' split
      all_goals first | rfl | omega
    · have n1 : ¬ i = Nd V S T + (k : Int) * 7 := by omega
      have n2 : ¬ i = Nd V S T + (k : Int) * 7 + 5 := by omega
      have n3 : ¬ i = Nd V S T + (k : Int) * 7 + 6 := by omega
      have n4 : ¬ (i = Nd V S T + (k : Int) * 7 + 2 ∨ i = Nd V S T + (k : Int) * 7 + 3 ∨ i = Nd V S T + (k : Int) * 7 + 4) := by omega
      rw [if_neg n1, if_neg n2, if_neg n3, if_neg n4, ih]
      by_cases h2 : Nd V S T ≤ i ∧ i < Nd V S T + (k : Int) * 7
      · have h3 : Nd V S T ≤ i ∧ i < Nd V S T + ((k + 1 : Nat) : Int) * 7 := ⟨h2.1, by omega⟩
        rw [if_pos h2, if_pos h3]
      · have h3 : ¬ (Nd V S T ≤ i ∧ i < Nd V S T + ((k + 1 : Nat) : Int) * 7) := by omega
        rw [if_neg h2, if_neg h3]
/-- The cells ahead of the nodes. -/
def hd0 (T : Int) (n : Nat) (i : Int) : Int :=
  if i = T then (if n = 0 then 0 else 1)
  else if T + 1 ≤ i ∧ i < T + 1 + (n : Int) * 7 ∧ (i - T - 1) % 7 = 0 ∧ (i - T - 1) / 7 + 1 < n then (i - T - 1) / 7 + 2 else 0
theorem ini_all (hl : T + 1 + (n : Int) * 7 ≤ l.length) (hT : 1 ≤ T) (hz : ∀ i, getI l i = 0) : ∀ k, k ≤ n → ∀ i, getI (ini T n l k) i = if T + 1 ≤ i ∧ i < T + 1 + (k : Int) * 7 ∧ (i - T - 1) % 7 = 0 then (i - T - 1) / 7 + 2 else 0 := by
  intro k
  induction k with
  | zero => intro _ i; rw [if_neg (by omega)]; exact hz i
  | succ k ih =>
    intro hk i
    rw [ini, getI_put, ini_len, ih (by omega), Ox_in (by omega) (by omega)]
    by_cases h : T + 1 + (k : Int) * 7 = i
    · rw [if_pos ⟨h, by omega, by omega⟩, if_pos ⟨by omega, by omega, by omega⟩]; omega
    · rw [if_neg fun q => h q.1]
      by_cases h2 : T + 1 ≤ i ∧ i < T + 1 + (k : Int) * 7 ∧ (i - T - 1) % 7 = 0
      · rw [if_pos h2, if_pos ⟨h2.1, by omega, h2.2.2⟩]
      · rw [if_neg h2, if_neg (by omega)]
theorem init_all (hl : T + 1 + (n : Int) * 7 ≤ l.length) (hT : 1 ≤ T) (hz : ∀ i, getI l i = 0) (i : Int) : getI (initL T n l) i = hd0 T n i := by
  unfold initL hd0
  by_cases hn : n = 0
  · rw [if_pos hn, getI_put, hz i, hn]
    simp only [if_true]
    repeat' split
    all_goals first | rfl | omega
  · rw [if_neg hn, getI_put, getI_put, putI_len, ini_len, ini_all hl hT hz n (Nat.le_refl _) i, Ox_in (by omega) (by omega), if_neg hn]
    repeat' split
    all_goals first | rfl | omega
end Go.Det.E
/- Nodes that are alone: what is stored. -/
namespace Go.Det.E
open Go.Proofs Go.Det
attribute [local congr] bind_c cond_c
variable {md : Md} {h hh : Heap} {a b n : Nat} {l c : List Int} {V S T x : Int}
def arcB (V x : Int) : Bool := !decide (x - 1 < Lv V * V)
def lvlB (V x : Int) : Int := if x - 1 < Lv V * V then (x - 1) / V else (x - 1 - Lv V * V) % (2 * Lv V) / 2
theorem thing_in (hx : Bl (x - 1) (Nn V S) = true) : ∃ vx sl sd, thing V S x = (Value.tuple #[(Value.agg (List.toArray (thC (arcB V x) (lvlB V x) vx sl sd))), (Value.bool true)]) := by
  unfold thing arcB lvlB
  rw [hx]
  simp only [cond_true, thAt]
  by_cases h : x - 1 < Lv V * V
  · exact ⟨_, _, _, by rw [if_pos h, if_pos h]; simp [h]; exact ⟨rfl, rfl, rfl⟩⟩
  · exact ⟨_, _, _, by rw [if_neg h, if_neg h]; simp [h]; exact ⟨rfl, rfl, rfl⟩⟩
theorem node_in (hR : Rt V S T) (hx : Bl (x - 1) (Nn V S) = true) : ∃ vx sl sd, ∀ (md : Md) (h : Heap), C md 72 [(Value.agg #[(Value.int .i64 V), (Value.int .i64 S), (Value.int .i64 T)]), (Value.int .i64 x)] h = some ((Value.tuple #[(Value.agg (List.toArray (thC (arcB V x) (lvlB V x) vx sl sd))), (Value.bool true)]), h) := by
  obtain ⟨vx, sl, sd, e⟩ := thing_in (V := V) (S := S) hx
  have h1 := Bl_t.1 hx
  have h2 := Cn_le hR
  exact ⟨vx, sl, sd, fun md h => by rw [node_s md h hR ⟨by omega, by omega⟩, e]⟩
theorem tput_e (hR : Rt V S T) (A : Ar h a b l c) (hro : md.ro ≤ a) (hrb : md.ro ≤ b) (hr : md.ro ≤ h.length) (hx : Bl (x - 1) (Nn V S) = true) (th tag f v : Int) :
    ∃ h' c', C md 85 [(Value.agg #[(Value.int .i64 V), (Value.int .i64 S), (Value.int .i64 T), ifA a, (Value.int .i64 th), (Value.int .i64 tag)]), (Value.int .i64 x), (Value.int .i64 f), (Value.int .i64 v)] h = some ((Value.tuple #[]), h') ∧ Ar h' a b (putI l (Fx V S T x f) (IntKind.wrap .u64 v)) c' ∧ Only a b h h' := by
  have la := lt_of A.ha
  have lb := lt_of A.hb
  have h1 := Bl_t.1 hx
  have h2 := Cn_le hR
  have fs := fun (m : Md) (h : Heap) => field_s m h (b := f) hR (a := x) ⟨by omega, by omega⟩
  obtain ⟨h3, e3, A3, o3⟩ := ps_x (md := ⟨md.ro, h.length⟩) (A.app [Blk.own [(Value.int .i64 V), (Value.int .i64 S), (Value.int .i64 T), ifA a, (Value.int .i64 th), (Value.int .i64 tag)]]) hro hrb (Fx V S T x f) (IntKind.wrap .u64 v)
  refine ⟨h3.take h.length, _, ?_, A3.take la lb, o3.take⟩
  rw [C, call_eq, F85_eq]
  unfold F85
  simp only [go_sem, Nat.reduceAdd, Nat.reduceLeDiff, Nat.reduceMul, Int.reduceBEq, Int.reduceBNe, Int.reduceLT, Int.reduceLE, Int.reduceGT, fs, okN_i, clI_store, e3]
theorem shown_e (hR : Rt V S T) (hx : Bl (x - 1) (Nn V S) = true) (mv : Value) (th tag : Int) (hr : md.ro ≤ h.length) : C md 98 [(Value.agg #[(Value.int .i64 V), (Value.int .i64 S), (Value.int .i64 T), mv, (Value.int .i64 th), (Value.int .i64 tag)]), (Value.int .i64 x)] h = some ((Value.bool (lvlB V x == 0)), h) := by
  obtain ⟨vx, sl, sd, e⟩ := node_in hR hx
  have s := fun (α : Type) (m : Md) (b : Nat) (h : Heap) (k : Heap → Option α) => st_N m 5 b 0 (thC (arcB V x) (lvlB V x) vx sl sd) h k rfl rfl
  unfold thC at s e
  have r2 : md.ro ≤ h.length + 1 := by omega
  rw [C, call_eq, F98_eq]
  unfold F98
  simp only [go_sem, Nat.reduceAdd, Nat.reduceLeDiff, Nat.reduceMul, Int.reduceBEq, Int.reduceBNe, Int.reduceLT, Int.reduceLE, Int.reduceGT, e, s, hr, r2]
/-- What hangs a node under none. -/
def hgL (l : List Int) (q : Int) (sh : Bool) : List Int := bif sh then chL l q (olW 1 0 (getI l q)) 0 1 0 else putI l q 0
theorem hang_e (hR : Rt V S T) (A : Ar h a b l c) (w : Wd l) (hro : md.ro ≤ a) (hrb : md.ro ≤ b) (hr : md.ro ≤ h.length) (hx : Bl (x - 1) (Nn V S) = true) :
    ∃ h' c', C md 86 [(Value.agg #[(Value.int .i64 V), (Value.int .i64 S), (Value.int .i64 T), ifA a, (Value.int .i64 1), (Value.int .i64 0)]), (Value.int .i64 x), (Value.int .i64 0)] h = some ((Value.tuple #[]), h') ∧ Ar h' a b (hgL l (Fx V S T x 2) (lvlB V x == 0)) c' ∧ Only a b h h' := by
  have la := lt_of A.ha
  have lb := lt_of A.hb
  have h1 := Bl_t.1 hx
  have h2 := Cn_le hR
  have x0 : (x == 0) = false := by simp; omega
  have fs := fun (m : Md) (h : Heap) => field_s m h (b := 2) hR (a := x) ⟨by omega, by omega⟩
  have lh : md.ro ≤ (h ++ [Blk.own [(Value.int .i64 V), (Value.int .i64 S), (Value.int .i64 T), ifA a, (Value.int .i64 1), (Value.int .i64 0)]]).length := by simp; omega
  have sh := shown_e (md := ⟨md.ro, h.length⟩) (h := h ++ [Blk.own [(Value.int .i64 V), (Value.int .i64 S), (Value.int .i64 T), ifA a, (Value.int .i64 1), (Value.int .i64 0)]]) hR hx (ifA a) 1 0 lh
  unfold hgL
  cases hs : (lvlB V x == 0)
  · rw [hs] at sh
    obtain ⟨h3, c3, e3, A3, o3⟩ := tput_e (md := ⟨md.ro, h.length⟩) hR (A.app [Blk.own [(Value.int .i64 V), (Value.int .i64 S), (Value.int .i64 T), ifA a, (Value.int .i64 1), (Value.int .i64 0)]]) hro hrb lh hx 1 0 2 0
    refine ⟨h3.take h.length, c3, ?_, A3.take la lb, o3.take⟩
    rw [C, call_eq, F86_eq]
    unfold F86
    simp only [go_sem, Nat.reduceAdd, Nat.reduceLeDiff, Nat.reduceMul, Int.reduceBEq, Int.reduceBNe, Int.reduceLT, Int.reduceLE, Int.reduceGT, x0, sh, e3]
  · rw [hs] at sh
    obtain ⟨h3, e3, A3, o3⟩ := write_e (md := ⟨md.ro, h.length⟩) (A.app [Blk.own [(Value.int .i64 V), (Value.int .i64 S), (Value.int .i64 T), ifA a, (Value.int .i64 1), (Value.int .i64 0)]]) hro hrb lh w (x := Fx V S T x 2) (y := 0) (th := 1) (tag := 0) rfl
    refine ⟨h3.take h.length, _, ?_, A3.take la lb, o3.take⟩
    rw [C, call_eq, F86_eq]
    unfold F86
    simp only [go_sem, Nat.reduceAdd, Nat.reduceLeDiff, Nat.reduceMul, Int.reduceBEq, Int.reduceBNe, Int.reduceLT, Int.reduceLE, Int.reduceGT, x0, sh, fs, e3]
theorem lone_e (hR : Rt V S T) (hx : Bl (x - 1) (Nn V S) = true) (mv : Value) (th tag : Int) (hr : md.ro ≤ h.length) : C md 87 [(Value.agg #[(Value.int .i64 V), (Value.int .i64 S), (Value.int .i64 T), mv, (Value.int .i64 th), (Value.int .i64 tag)]), (Value.int .i64 x), (Value.int .u64 0)] h = some ((Value.int .u64 (loneV V x)), h) := by
  obtain ⟨vx, sl, sd, e⟩ := node_in hR hx
  have s := fun (α : Type) (m : Md) (b : Nat) (h : Heap) (k : Heap → Option α) => st_N m 5 b 0 (thC (arcB V x) (lvlB V x) vx sl sd) h k rfl rfl
  unfold thC at s e
  have r2 : md.ro ≤ h.length + 1 := by omega
  have b1 : bOr .u64 (bOr .u64 (bOr .u64 1 (IntKind.wrap .u64 (0 * 2 ^ 32))) (IntKind.wrap .u64 (0 * 2 ^ 34))) 65536 = 65537 := by decide +kernel
  have b2 : bOr .u64 (bOr .u64 1 (IntKind.wrap .u64 (0 * 2 ^ 32))) (IntKind.wrap .u64 (0 * 2 ^ 34)) = 1 := by decide +kernel
  rw [C, call_eq, F87_eq]
  unfold F87 loneV
  cases ha : arcB V x
  · have : x - 1 < Lv V * V := by simpa [arcB] using ha
    rw [if_pos this]
    rw [ha] at e s
    simp only [go_sem, Nat.reduceAdd, Nat.reduceLeDiff, Nat.reduceMul, Int.reduceBEq, Int.reduceBNe, Int.reduceLT, Int.reduceLE, Int.reduceGT, e, s, hr, r2, b1]
  · have : ¬ x - 1 < Lv V * V := by simpa [arcB] using ha
    rw [if_neg this]
    rw [ha] at e s
    simp only [go_sem, Nat.reduceAdd, Nat.reduceLeDiff, Nat.reduceMul, Int.reduceBEq, Int.reduceBNe, Int.reduceLT, Int.reduceLE, Int.reduceGT, e, s, hr, r2, b2]
end Go.Det.E

/- Memory as it is at first. -/
namespace Go.Det.E
open Go.Proofs Go.Det
attribute [local congr] bind_c cond_c
variable {md : Md} {h hh g : Heap} {a b n : Nat} {l c D : List Int} {V S T x : Int}
abbrev encU (x : Int) : List Value := [(Value.int .u64 x)]
theorem encU_len (x : Int) : (encU x).length = 1 := rfl
theorem chL_wd (w : Wd l) (x o n t g : Int) : Wd (chL l x o n t g) := by
  unfold chL
  cases hc : (W.rightB (getI l x) && W.rightW o n t g)
  · exact w
  · simp only [Bool.and_eq_true] at hc
    have := W.bits_of hc.2
    exact w.put _ ⟨this.1, this.2.1⟩
theorem hgL_wd (w : Wd l) (q : Int) (sh : Bool) : Wd (hgL l q sh) := by
  unfold hgL
  cases sh
  · exact w.put _ (by omega)
  · exact chL_wd w _ _ _ _ _
def aloneL (l : List Int) (q lone : Int) (sh : Bool) : List Int := putI (hgL (putI (putI l (q + 3) 0) (q + 4) 0) (q + 2) sh) (q + 6) lone
theorem aloneL_wd (w : Wd l) (q : Int) {lone : Int} (hl : 0 ≤ lone ∧ lone < 18446744073709551616) (sh : Bool) : Wd (aloneL l q lone sh) := by
  unfold aloneL
  exact (hgL_wd ((w.put _ (by omega)).put _ (by omega)) _ _).put _ hl
theorem loneV_in (V x : Int) : 0 ≤ loneV V x ∧ loneV V x < 18446744073709551616 := by unfold loneV; split <;> omega
theorem alone_e (hR : Rt V S T) (A : Ar h a b l c) (w : Wd l) (hro : md.ro ≤ a) (hrb : md.ro ≤ b) (hr : md.ro ≤ h.length) (hx : Bl (x - 1) (Nn V S) = true) :
    ∃ h' c', C md 70 [(Value.agg #[(Value.int .i64 V), (Value.int .i64 S), (Value.int .i64 T), ifA a, (Value.int .i64 1), (Value.int .i64 0)]), (Value.int .i64 x)] h = some ((Value.tuple #[]), h') ∧ Ar h' a b (aloneL l (Nd V S T + (x - 1) * 7) (loneV V x) (lvlB V x == 0)) c' ∧ Only a b h h' := by
  have la := lt_of A.ha
  have lb := lt_of A.hb
  have h1 := Bl_t.1 hx
  have h2 := Cn_le hR
  have fx : ∀ f : Int, 0 ≤ f ∧ f < 7 → Fx V S T x f = Nd V S T + (x - 1) * 7 + f := fun f hf => ((fx_in (b := f) hR).1 (by rw [hx, Bl_t.2 hf]; rfl)).1
  have w0 : IntKind.wrap .u64 0 = 0 := by decide
  have lh : md.ro ≤ (h ++ [Blk.own [(Value.int .i64 V), (Value.int .i64 S), (Value.int .i64 T), ifA a, (Value.int .i64 1), (Value.int .i64 0)]]).length := by simp; omega
  obtain ⟨k1, c1, e1, A1, o1⟩ := tput_e (md := ⟨md.ro, h.length⟩) hR (A.app [Blk.own [(Value.int .i64 V), (Value.int .i64 S), (Value.int .i64 T), ifA a, (Value.int .i64 1), (Value.int .i64 0)]]) hro hrb lh hx 1 0 3 0
  rw [fx 3 (by omega), w0] at A1
  have l1 := o1.len
  simp only [List.length_append, List.length_cons, List.length_nil] at l1
  obtain ⟨k2, c2, e2, A2, o2⟩ := tput_e (md := ⟨md.ro, h.length⟩) hR A1 hro hrb (by show md.ro ≤ k1.length; omega) hx 1 0 4 0
  rw [fx 4 (by omega), w0] at A2
  have l2 := o2.len
  have wA2 : ∀ {l : List Int}, Wd l → Wd (putI (putI l (Nd V S T + (x - 1) * 7 + 3) 0) (Nd V S T + (x - 1) * 7 + 4) 0) := fun w => (w.put _ (by omega)).put _ (by omega)
  obtain ⟨k3, c3, e3, A3, o3⟩ := hang_e (md := ⟨md.ro, h.length⟩) hR A2 (wA2 w) hro hrb (by show md.ro ≤ k2.length; omega) hx
  rw [fx 2 (by omega)] at A3
  have l3 := o3.len
  have fs := fun (m : Md) (h : Heap) => field_s m h (b := 6) hR (a := x) ⟨by omega, by omega⟩
  rw [fx 6 (by omega)] at fs
  have q3 : ∀ {k : Heap}, Only a b (h ++ [Blk.own [(Value.int .i64 V), (Value.int .i64 S), (Value.int .i64 T), ifA a, (Value.int .i64 1), (Value.int .i64 0)]]) k → k[h.length]? = some (.own [(Value.int .i64 V), (Value.int .i64 S), (Value.int .i64 T), ifA a, (Value.int .i64 1), (Value.int .i64 0)]) := fun o => by
    have := o.new la lb 0
    rw [Nat.add_zero] at this
    rw [this]; rfl
  have b1 := q3 o1
  have b2 := q3 (o1.trans o2)
  have b3 := q3 ((o1.trans o2).trans o3)
  have r1 : rdN k1 h.length 0 6 = some [(Value.int .i64 V), (Value.int .i64 S), (Value.int .i64 T), ifA a, (Value.int .i64 1), (Value.int .i64 0)] := by rw [rdN_own b1 (by simp)]; rfl
  have r2 : rdN k2 h.length 0 6 = some [(Value.int .i64 V), (Value.int .i64 S), (Value.int .i64 T), ifA a, (Value.int .i64 1), (Value.int .i64 0)] := by rw [rdN_own b2 (by simp)]; rfl
  have r3 : rdN k3 h.length 0 6 = some [(Value.int .i64 V), (Value.int .i64 S), (Value.int .i64 T), ifA a, (Value.int .i64 1), (Value.int .i64 0)] := by rw [rdN_own b3 (by simp)]; rfl
  have r4 : rd k3 h.length 3 = some (ifA a) := by rw [rd_own b3]; rfl
  have r5 : rdN k3 h.length 0 3 = some [(Value.int .i64 V), (Value.int .i64 S), (Value.int .i64 T)] := by rw [rdN_own b3 (by simp)]; rfl
  have lo := lone_e (md := ⟨md.ro, h.length⟩) (h := k3) hR hx (ifA a) 1 0 (by show md.ro ≤ k3.length; omega)
  obtain ⟨k4, e4, A4, o4⟩ := ps_x (md := ⟨md.ro, h.length⟩) A3 hro hrb (Nd V S T + (x - 1) * 7 + 6) (loneV V x)
  have oall := ((o1.trans o2).trans o3).trans o4
  refine ⟨k4.take h.length, _, ?_, A4.take la lb, oall.take⟩
  rw [C, call_eq, F70_eq]
  unfold F70
  simp only [go_sem, Nat.reduceAdd, Nat.reduceLeDiff, Nat.reduceMul, Int.reduceBEq, Int.reduceBNe, Int.reduceLT, Int.reduceLE, Int.reduceGT, e1, r1, e2, r2, e3, r3, r4, r5, fs, lo, okN_i, clI_store, e4]
/-- One node. -/
theorem node_e {k : Nat} (hR : Rt V S T) (A : Ar h a b l c) (w : Wd l) (hro : md.ro ≤ a) (hrb : md.ro ≤ b) (hr : md.ro ≤ h.length) (hk : (k : Int) < Nn V S) {p : Int} (hp : 0 ≤ p ∧ p < 18446744073709551616) :
    ∃ h' c', C md 47 [(Value.agg #[(Value.int .i64 V), (Value.int .i64 S), (Value.int .i64 T), ifA a, (Value.int .i64 1), (Value.int .i64 0)]), (Value.int .i64 ((k : Int) + 1)), (Value.int .u64 p)] h = some ((Value.tuple #[]), h') ∧ Ar h' a b (ndL l (Nd V S T + (k : Int) * 7) p (loneV V ((k : Int) + 1)) (lockV V ((k : Int) + 1)) (lvlB V ((k : Int) + 1) == 0)) c' ∧ Only a b h h' ∧
      Wd (ndL l (Nd V S T + (k : Int) * 7) p (loneV V ((k : Int) + 1)) (lockV V ((k : Int) + 1)) (lvlB V ((k : Int) + 1) == 0)) := by
  have hx : Bl (((k : Int) + 1) - 1) (Nn V S) = true := Bl_t.2 (by omega)
  have e7 : (((k : Int) + 1) - 1) * 7 = (k : Int) * 7 := by omega
  have la := lt_of A.ha
  have lb := lt_of A.hb
  have h2 := Cn_le hR
  have fx : ∀ f : Int, 0 ≤ f ∧ f < 7 → Fx V S T ((k : Int) + 1) f = Nd V S T + (k : Int) * 7 + f := fun f hf => by rw [← e7]; exact ((fx_in (b := f) hR).1 (by rw [hx, Bl_t.2 hf]; rfl)).1
  have fs := fun (f : Int) (m : Md) (h : Heap) => field_s m h (b := f) hR (a := (k : Int) + 1) ⟨by omega, by omega⟩
  have fs5 := fs 5
  have fs2 := fs 2
  have fs0 := fs 0
  rw [fx 5 (by omega)] at fs5
  rw [fx 2 (by omega)] at fs2
  rw [fx 0 (by omega), Int.add_zero] at fs0
  obtain ⟨k1, e1, A1, o1⟩ := ps_x (md := ⟨md.ro, h.length⟩) (A.app [Blk.own [(Value.int .i64 V), (Value.int .i64 S), (Value.int .i64 T), ifA a, (Value.int .i64 1), (Value.int .i64 0)]]) hro hrb (Nd V S T + (k : Int) * 7 + 5) p
  have l1 := o1.len
  simp only [List.length_append, List.length_cons, List.length_nil] at l1
  obtain ⟨k2, c2, e2, A2, o2⟩ := alone_e (md := ⟨md.ro, h.length⟩) hR A1 (w.put _ hp) hro hrb (by show md.ro ≤ k1.length; omega) hx
  rw [e7] at A2
  have l2 := o2.len
  have w2 := aloneL_wd (w.put (Nd V S T + (k : Int) * 7 + 5) hp) (Nd V S T + (k : Int) * 7) (loneV_in V ((k : Int) + 1)) (lvlB V ((k : Int) + 1) == 0)
  obtain ⟨k3, e3, A3, o3⟩ := clean_e (md := ⟨md.ro, h.length⟩) A2 hro hrb (by show md.ro ≤ k2.length; omega) w2 (x := Nd V S T + (k : Int) * 7 + 2) (th := 1) (tag := 0) rfl
  have l3 := o3.len
  have q3 : ∀ {k : Heap}, Only a b (h ++ [Blk.own [(Value.int .i64 V), (Value.int .i64 S), (Value.int .i64 T), ifA a, (Value.int .i64 1), (Value.int .i64 0)]]) k → k[h.length]? = some (.own [(Value.int .i64 V), (Value.int .i64 S), (Value.int .i64 T), ifA a, (Value.int .i64 1), (Value.int .i64 0)]) := fun o => by
    have := o.new la lb 0
    rw [Nat.add_zero] at this
    rw [this]; rfl
  have b1 := q3 o1
  have b2 := q3 (o1.trans o2)
  have b3 := q3 ((o1.trans o2).trans o3)
  have r1 : rdN k1 h.length 0 6 = some [(Value.int .i64 V), (Value.int .i64 S), (Value.int .i64 T), ifA a, (Value.int .i64 1), (Value.int .i64 0)] := by rw [rdN_own b1 (by simp)]; rfl
  have r2 : rdN k2 h.length 4 2 = some [(Value.int .i64 1), (Value.int .i64 0)] := by rw [rdN_own b2 (by simp)]; rfl
  have r3 : rd k2 h.length 3 = some (ifA a) := by rw [rd_own b2]; rfl
  have r4 : rdN k2 h.length 0 3 = some [(Value.int .i64 V), (Value.int .i64 S), (Value.int .i64 T)] := by rw [rdN_own b2 (by simp)]; rfl
  have r5 : rdN k3 h.length 0 3 = some [(Value.int .i64 V), (Value.int .i64 S), (Value.int .i64 T)] := by rw [rdN_own b3 (by simp)]; rfl
  obtain ⟨vx, sl, sd, en⟩ := node_in hR hx
  have lk : lockV V ((k : Int) + 1) = bif !arcB V ((k : Int) + 1) && (lvlB V ((k : Int) + 1) == 0) then 0 else 65535 := by
    have hV := hR.1
    unfold lockV arcB lvlB
    have lv := Lv_le hR
    generalize hy : (k : Int) + 1 - 1 = y
    by_cases h1 : y < Lv V * V
    · simp only [h1, decide_true, Bool.not_true, Bool.not_false, Bool.true_and, if_true]
      by_cases h3 : y < V
      · have : y / V = 0 := Int.ediv_eq_zero_of_lt (by omega) h3
        rw [if_pos h3, this]; rfl
      · have : y / V ≠ 0 := by
          intro q
          have := Int.lt_ediv_add_one_mul_self y (show 0 < V by omega)
          rw [q] at this; omega
        have e : (y / V == 0) = false := beq_false_of_ne this
        rw [if_neg h3, e]; rfl
    · have h3 : ¬ y < V := by
        have : 1 * V ≤ Lv V * V := Int.mul_le_mul_of_nonneg_right (by omega) (by omega)
        omega
      simp [h1, h3]
  have s := fun (α : Type) (m : Md) (b : Nat) (h : Heap) (k' : Heap → Option α) => st_N m 5 b 0 (thC (arcB V ((k : Int) + 1)) (lvlB V ((k : Int) + 1)) vx sl sd) h k' rfl rfl
  unfold thC at s en
  obtain ⟨k4, hk4⟩ : ∃ k4, k4 = k3 ++ [Blk.own [(Value.bool (arcB V ((k : Int) + 1))), (Value.int .i64 (lvlB V ((k : Int) + 1))), (Value.int .i64 vx), (Value.int .i64 sl), (Value.int .i64 sd)]] := ⟨_, rfl⟩
  have A4 := A3.app [Blk.own [(Value.bool (arcB V ((k : Int) + 1))), (Value.int .i64 (lvlB V ((k : Int) + 1))), (Value.int .i64 vx), (Value.int .i64 sl), (Value.int .i64 sd)]]
  rw [← hk4] at A4
  have b4 : k4[h.length]? = some (.own [(Value.int .i64 V), (Value.int .i64 S), (Value.int .i64 T), ifA a, (Value.int .i64 1), (Value.int .i64 0)]) := by rw [hk4, List.getElem?_append_left (lt_of b3)]; exact b3
  have r6 : rdN k4 h.length 0 3 = some [(Value.int .i64 V), (Value.int .i64 S), (Value.int .i64 T)] := by rw [rdN_own b4 (by simp)]; rfl
  have r7 : rd k4 h.length 3 = some (ifA a) := by rw [rd_own b4]; rfl
  have t4 : k4[k3.length]? = some (.own [(Value.bool (arcB V ((k : Int) + 1))), (Value.int .i64 (lvlB V ((k : Int) + 1))), (Value.int .i64 vx), (Value.int .i64 sl), (Value.int .i64 sd)]) := by rw [hk4]; simp
  have r8 : rd k4 k3.length 0 = some ((Value.bool (arcB V ((k : Int) + 1)))) := by rw [rd_own t4]; rfl
  have r9 : rd k4 k3.length 1 = some ((Value.int .i64 (lvlB V ((k : Int) + 1)))) := by rw [rd_own t4]; rfl
  have wk : wrN ⟨md.ro, h.length⟩ (k3 ++ [Blk.own [(Value.bool false), (Value.int .i64 0), (Value.int .i64 0), (Value.int .i64 0), (Value.int .i64 0)]]) k3.length 0 [(Value.bool (arcB V ((k : Int) + 1))), (Value.int .i64 (lvlB V ((k : Int) + 1))), (Value.int .i64 vx), (Value.int .i64 sl), (Value.int .i64 sd)] = some k4 := by
    have h1 : md.ro ≤ k3.length := by omega
    have h2 : h.length ≤ k3.length := by omega
    rw [hk4]; simp only [go_sem, Nat.reduceAdd, Nat.reduceLeDiff, Nat.reduceMul, Int.reduceBEq, Int.reduceBNe, Int.reduceLT, Int.reduceLE, Int.reduceGT, h1, h2]
  obtain ⟨k5, e5, A5, o5⟩ := ps_x (md := ⟨md.ro, h.length⟩) A4 hro hrb (Nd V S T + (k : Int) * 7) (lockV V ((k : Int) + 1))
  have oall : OG a b h k5 := by
    have o : OG a b h k3 := ((((OG.refl.app _).only o1).only o2).only o3)
    have : OG a b h k4 := by rw [hk4]; exact o.app _
    exact this.only o5
  have eL : ndL l (Nd V S T + (k : Int) * 7) p (loneV V ((k : Int) + 1)) (lockV V ((k : Int) + 1)) (lvlB V ((k : Int) + 1) == 0) =
      putI (chL (aloneL (putI l (Nd V S T + (k : Int) * 7 + 5) p) (Nd V S T + (k : Int) * 7) (loneV V ((k : Int) + 1)) (lvlB V ((k : Int) + 1) == 0)) (Nd V S T + (k : Int) * 7 + 2) (getI (aloneL (putI l (Nd V S T + (k : Int) * 7 + 5) p) (Nd V S T + (k : Int) * 7) (loneV V ((k : Int) + 1)) (lvlB V ((k : Int) + 1) == 0)) (Nd V S T + (k : Int) * 7 + 2) % 65536)
        (getI (aloneL (putI l (Nd V S T + (k : Int) * 7 + 5) p) (Nd V S T + (k : Int) * 7) (loneV V ((k : Int) + 1)) (lvlB V ((k : Int) + 1) == 0)) (Nd V S T + (k : Int) * 7 + 2) % 65536) 0 0) (Nd V S T + (k : Int) * 7) (lockV V ((k : Int) + 1)) := rfl
  rw [eL]
  refine ⟨k5.take h.length, _, ?_, A5.take la lb, oall.done, (chL_wd w2 _ _ _ _ _).put _ (by unfold lockV; split <;> omega)⟩
  rw [C, call_eq, F47_eq]
  unfold F47
  rw [lk] at e5
  cases ha : arcB V ((k : Int) + 1)
  · cases hl : (lvlB V ((k : Int) + 1) == 0)
    · rw [ha, hl] at e5
      rw [ha] at en s wk r8
      simp only [Bool.not_false, Bool.true_and, cond_false] at e5
      simp only [go_sem, Nat.reduceAdd, Nat.reduceLeDiff, Nat.reduceMul, Int.reduceBEq, Int.reduceBNe, Int.reduceLT, Int.reduceLE, Int.reduceGT, fs5, okN_i, clI_store, e1, r1, e2, r2, r3, r4, fs2, e3, r5, en, s, wk, r8, r9, aBin_eql, hl, J47_0, r6, r7, fs0, e5]
    · rw [ha, hl] at e5
      rw [ha] at en s wk r8
      simp only [Bool.not_false, Bool.true_and, cond_true] at e5
      simp only [go_sem, Nat.reduceAdd, Nat.reduceLeDiff, Nat.reduceMul, Int.reduceBEq, Int.reduceBNe, Int.reduceLT, Int.reduceLE, Int.reduceGT, fs5, okN_i, clI_store, e1, r1, e2, r2, r3, r4, fs2, e3, r5, en, s, wk, r8, r9, aBin_eql, hl, J47_0, r6, r7, fs0, e5]
  · rw [ha] at e5
    rw [ha] at en s wk r8
    simp only [Bool.not_true, Bool.false_and, cond_false] at e5
    simp only [go_sem, Nat.reduceAdd, Nat.reduceLeDiff, Nat.reduceMul, Int.reduceBEq, Int.reduceBNe, Int.reduceLT, Int.reduceLE, Int.reduceGT, fs5, okN_i, clI_store, e1, r1, e2, r2, r3, r4, fs2, e3, r5, en, s, wk, r8, r9, J47_0, r6, r7, fs0, e5]
end Go.Det.E

/- Memory as it is at first: the whole of it. -/
namespace Go.Det.E
open Go.Proofs Go.Det
attribute [local congr] bind_c cond_c
variable {md : Md} {h hh g : Heap} {a b n : Nat} {l c D : List Int} {V T x : Int}
/-- A node's priority. -/
def prD (D : List Int) (x : Int) : Int := D.getD (x % (D.length : Int)).toNat 0
theorem prD_in (w : Wd D) (x : Int) : 0 ≤ prD D x ∧ prD D x < 18446744073709551616 := by
  unfold prD
  rw [List.getD_eq_getElem?_getD]
  cases h : D[(x % (D.length : Int)).toNat]? with
  | none => simp
  | some y => exact w y (List.mem_of_getElem? h)
/-- All cells at first. -/
def bL (V : Int) (n : Nat) (T : Int) (D : List Int) : List Int :=
  ndsL V n T (fun x => lvlB V x == 0) (prD D) (initL T n (List.replicate (Cn V n T).toNat 0)) (Nn V n).toNat
theorem getI_zero (k : Nat) (i : Int) : getI (List.replicate k 0) i = 0 := by
  unfold getI
  split
  · rw [List.getD_eq_getElem?_getD]
    cases h : (List.replicate k (0 : Int))[i.toNat]? with
    | none => rfl
    | some y => exact (List.mem_replicate.1 (List.mem_of_getElem? h)).2
  · rfl
theorem init_len (T : Int) (n : Nat) (l : List Int) : (initL T n l).length = l.length := initL_len T n l
theorem bL_len (hR : Rt V n T) (D : List Int) : (bL V n T D).length = (Cn V n T).toNat := by
  unfold bL
  rw [ndsL_len, init_len, List.length_replicate]
theorem bL_get (hR : Rt V n T) (D : List Int) {i : Int} (h0 : 0 ≤ i) (h1 : i < Cn V n T) :
    getI (bL V n T D) i = if Nd V n T ≤ i then fv V ((i - Nd V n T) / 7 + 1) (prD D ((i - Nd V n T) / 7 + 1)) ((i - Nd V n T) % 7) else hd0 T n i := by
  have cn : Cn V n T = Nd V n T + Nn V n * 7 := rfl
  have nd := order hR
  have c2 := Cn_le hR
  have hT := hR.2.2
  have hlen : ((initL T n (List.replicate (Cn V n T).toNat 0)).length : Int) = Cn V n T := by rw [init_len, List.length_replicate]; omega
  have hl : T + 1 + (n : Int) * 7 ≤ (List.replicate (Cn V n T).toNat (0 : Int)).length := by rw [List.length_replicate]; omega
  have ia := init_all hl (by omega) (getI_zero _)
  unfold bL
  rw [nds_get hR _ _ hlen (fun j hj => by
    rw [ia]; unfold hd0
    rw [if_neg (by omega), if_neg (by omega)]) _ (by omega), ia]
  by_cases h2 : Nd V n T ≤ i
  · have h3 : Nd V n T ≤ i ∧ i < Nd V n T + ((Nn V n).toNat : Int) * 7 := ⟨h2, by omega⟩
    rw [if_pos h3, if_pos h2]
  · have h3 : ¬ (Nd V n T ≤ i ∧ i < Nd V n T + ((Nn V n).toNat : Int) * 7) := by omega
    rw [if_neg h3, if_neg h2]
theorem Sl.readu {hh : Heap} {v : Value} {xs : List Int} (S : Sl hh 1 encU v xs) {i : Int} {x : Int} (h0 : 0 ≤ i) (hx : xs[i.toNat]? = some x) :
    (∀ {α : Type} (kk : Value → Option α), ixS 1 v i kk = kk ((Value.pointer (some ⟨slB v, slO v + i.toNat, none⟩)))) ∧ rd hh (slB v) (slO v + i.toNat) = some ((Value.int .u64 x)) := by
  have h1 : i < xs.length := by have := (List.getElem?_eq_some_iff.1 hx).1; omega
  refine ⟨fun kk => ?_, ?_⟩
  · rw [S.ix h0 h1 kk, Nat.mul_one]
  · have := S.cell hx (j := 0) (by decide)
    rw [Nat.mul_one, Nat.add_zero] at this
    exact this
theorem births_loop {S : Int} {q tb : Nat} {dv : Value} (hR : Rt V S T) (wD : Wd D) (hD : D.length < 100000) (hro : md.ro ≤ a) (hrb : md.ro ≤ b) (hr : md.ro ≤ g.length) (hq : g[q]? = some (.own [(Value.int .i64 V), (Value.int .i64 S), (Value.int .i64 T)])) (ht : g[tb]? = some (.own [(Value.int .i64 V), (Value.int .i64 S), (Value.int .i64 T), ifA a, (Value.int .i64 1), (Value.int .i64 0)]))
    (SD : Sl g 1 encU dv D) (da : slB dv < g.length → slB dv ≠ a ∧ slB dv ≠ b) (qa : q ≠ a ∧ q ≠ b) (ta : tb ≠ a ∧ tb ≠ b) (h0 : Heap) (s4 s5 : Value) (l0 : List Int) : ∀ (m k : Nat) (hh : Heap) (c : List Int), k + m = (Nn V S).toNat →
    Ar hh a b (ndsL V S T (fun x => lvlB V x == 0) (prD D) l0 k) c → Wd (ndsL V S T (fun x => lvlB V x == 0) (prD D) l0 k) → OG a b g hh →
    ∃ hf cf, J21_0 C md h0 dv ((Value.pointer (some ⟨q, 0, none⟩))) s4 s5 ((Value.pointer (some ⟨a, 0, none⟩))) ((Value.pointer (some ⟨tb, 0, none⟩))) ((Value.int .i64 ((k : Int) + 1))) hh = some ((Value.tuple #[(Value.pointer (some ⟨a, 0, none⟩)), (Value.int .i64 0)]), hf) ∧ Ar hf a b (ndsL V S T (fun x => lvlB V x == 0) (prD D) l0 (Nn V S).toNat) cf ∧ OG a b g hf ∧ Wd (ndsL V S T (fun x => lvlB V x == 0) (prD D) l0 (Nn V S).toNat) := by
  have c2 := Cn_le hR
  intro m
  induction m with
  | zero =>
    intro k hh c hk A w O
    obtain rfl : k = (Nn V S).toNat := by omega
    have bq : hh[q]? = some (.own [(Value.int .i64 V), (Value.int .i64 S), (Value.int .i64 T)]) := (O.oth q (lt_of hq) qa.1 qa.2).trans hq
    have rq : rdN hh q 0 3 = some [(Value.int .i64 V), (Value.int .i64 S), (Value.int .i64 T)] := by rw [rdN_own bq (by simp)]; rfl
    have nl : ¬ ((Nn V S).toNat : Int) + 1 ≤ Nn V S := by omega
    refine ⟨hh, c, ?_, A, O, w⟩
    rw [J21_0_step]
    unfold Jr21_0
    simp only [go_sem, Nat.reduceAdd, Nat.reduceLeDiff, Nat.reduceMul, Int.reduceBEq, Int.reduceBNe, Int.reduceLT, Int.reduceLE, Int.reduceGT, rq, nodes_s _ _ hR, aBin_leq, nl, Jk21_0]
  | succ m ih =>
    intro k hh c hk A w O
    have bq : hh[q]? = some (.own [(Value.int .i64 V), (Value.int .i64 S), (Value.int .i64 T)]) := (O.oth q (lt_of hq) qa.1 qa.2).trans hq
    have rq : rdN hh q 0 3 = some [(Value.int .i64 V), (Value.int .i64 S), (Value.int .i64 T)] := by rw [rdN_own bq (by simp)]; rfl
    have bt : hh[tb]? = some (.own [(Value.int .i64 V), (Value.int .i64 S), (Value.int .i64 T), ifA a, (Value.int .i64 1), (Value.int .i64 0)]) := (O.oth tb (lt_of ht) ta.1 ta.2).trans ht
    have rt : rdN hh tb 0 6 = some [(Value.int .i64 V), (Value.int .i64 S), (Value.int .i64 T), ifA a, (Value.int .i64 1), (Value.int .i64 0)] := by rw [rdN_own bt (by simp)]; rfl
    have S1 : Sl hh 1 encU dv D := SD.heap fun hl => O.oth _ hl (da hl).1 (da hl).2
    have len := fun {α : Type} (kk : Value → Option α) => S1.len kk
    have ol := O.len
    obtain ⟨k1, c1, e1, A1, o1, w1⟩ := node_e (md := md) (k := k) hR A w hro hrb (by omega) (by omega) (prD_in wD ((k : Int) + 1))
    have wk : IntKind.wrap .i64 ((k : Int) + 1 + 1) = ((k + 1 : Nat) : Int) + 1 := by rw [wi (by omega) (by omega)]; omega
    obtain ⟨hf, cf, e2, A2, O2, w2⟩ := ih (k + 1) k1 c1 (by omega) A1 w1 (O.only o1)
    refine ⟨hf, cf, ?_, A2, O2, w2⟩
    have hle : (k : Int) + 1 ≤ Nn V S := by omega
    rw [J21_0_step]
    unfold Jr21_0
    by_cases hD0 : D.length = 0
    · have : ¬ (D.length : Int) > 0 := by omega
      have pd : prD D ((k : Int) + 1) = 0 := by rw [List.length_eq_zero_iff.1 hD0]; rfl
      rw [pd] at e1
      simp only [go_sem, Nat.reduceAdd, Nat.reduceLeDiff, Nat.reduceMul, Int.reduceBEq, Int.reduceBNe, Int.reduceLT, Int.reduceLE, Int.reduceGT, rq, nodes_s _ _ hR, aBin_leq, hle, len, this, J21_0b0, rt, e1, aBin_add, wk]
      exact e2
    · have hD1 : (D.length : Int) > 0 := by omega
      have hD2 : (D.length : Int) ≠ 0 := by omega
      have tm : Int.tmod ((k : Int) + 1) D.length = ((k : Int) + 1) % D.length := Int.tmod_eq_emod_of_nonneg (by omega)
      have m0 : 0 ≤ ((k : Int) + 1) % (D.length : Int) := Int.emod_nonneg _ hD2
      have m1 : ((k : Int) + 1) % (D.length : Int) < D.length := Int.emod_lt_of_pos _ (by omega)
      have hx : D[(((k : Int) + 1) % (D.length : Int)).toNat]? = some (prD D ((k : Int) + 1)) := by
        unfold prD
        rw [List.getD_eq_getElem?_getD, List.getElem?_eq_getElem (by omega)]; rfl
      obtain ⟨ix, el⟩ := Sl.readu S1 m0 hx
      simp only [go_sem, Nat.reduceAdd, Nat.reduceLeDiff, Nat.reduceMul, Int.reduceBEq, Int.reduceBNe, Int.reduceLT, Int.reduceLE, Int.reduceGT, rq, nodes_s _ _ hR, aBin_leq, hle, len, hD1, aBin_rem hD2, tm, ix, el, J21_0b0, rt, e1, aBin_add, wk]
      exact e2
theorem uAr : Try.prog.underlying 51 = some (.pointer 104) := by kernel_rfl
/-- A new memory. -/
theorem birth_e {dv : Value} (hR : Rt V n T) (wD : Wd D) (hD : D.length ≤ 256) (SD : Sl h 1 encU dv D) (hro : md.ro ≤ h.length) (hlim : md.lim ≤ h.length) :
    ∃ h' a b c, C md 21 [(Value.agg #[(Value.int .i64 V), (Value.int .i64 ((n : Int))), (Value.int .i64 T)]), dv] h = some ((Value.tuple #[(Value.pointer (some ⟨a, 0, none⟩)), (Value.int .i64 0)]), h') ∧ Ar h' a b (bL V n T D) c ∧ Old h.length h h' ∧ h.length ≤ a ∧ h.length ≤ b ∧ Wd (bL V n T D) := by
  have cn : Cn V n T = Nd V n T + Nn V n * 7 := rfl
  have nd := order hR
  have c2 := Cn_le hR
  have hT := hR.2.2
  have ce := fun (m : Md) (h : Heap) => cells_s m h hR
  have ri := fun (m : Md) (h : Heap) => right_n m h (S := (n : Int)) (V := V) (T := T) (show I64 V from ⟨by have := hR.1; omega, by have := hR.1; omega⟩) (show I64 T from ⟨by omega, by omega⟩)
  have dR : decide (Rt V (n : Int) T) = true := decide_eq_true hR
  simp only [dR] at ri
  have len := fun {α : Type} (kk : Value → Option α) => SD.len kk
  have hD2 : ¬ (D.length : Int) > 256 := by omega
  obtain ⟨h1, a, b, e1, A1, O1, la, lb⟩ := new_e md (h ++ [Blk.own [(Value.int .i64 V), (Value.int .i64 ((n : Int))), (Value.int .i64 T)]]) (n := Cn V n T) c2.1 (by omega)
  simp only [List.length_append, List.length_cons, List.length_nil] at la lb O1
  have la1 := lt_of A1.ha
  have lb1 := lt_of A1.hb
  have l1 := O1.len
  simp only [List.length_append, List.length_cons, List.length_nil] at l1
  have q1 : h1[h.length]? = some (.own [(Value.int .i64 V), (Value.int .i64 ((n : Int))), (Value.int .i64 T)]) := (O1.old _ (by omega)).trans (by simp)
  have rL : rdN h1 h.length 0 3 = some [(Value.int .i64 V), (Value.int .i64 ((n : Int))), (Value.int .i64 T)] := by rw [rdN_own q1 (by simp)]; rfl
  have hl : T + 1 + (n : Int) * 7 ≤ (List.replicate (Cn V n T).toNat (0 : Int)).length := by simp; omega
  obtain ⟨h2, e2, A2, o2⟩ := init_e (md := md) hR A1 (by omega) (by omega) (by omega) hl
  have l2 := o2.len
  have q2 : h2[h.length]? = some (.own [(Value.int .i64 V), (Value.int .i64 ((n : Int))), (Value.int .i64 T)]) := (o2.oth _ (by omega) (by omega)).trans q1
  have rL2 : rdN h2 h.length 0 3 = some [(Value.int .i64 V), (Value.int .i64 ((n : Int))), (Value.int .i64 T)] := by rw [rdN_own q2 (by simp)]; rfl
  have mo := fun (m : Md) => memof_s m h1 la1
  have mo2 := fun (m : Md) => memof_s m h2 (show a < h2.length by omega)
  have mo3 := fun (m : Md) (bs : Heap) => memof_s m (h2 ++ bs) (show a < (h2 ++ bs).length by simp; omega)
  have bT : ∀ {α : Type} (k : Value → Option α), aBuild Try.prog 95 [(0, (Value.agg #[(Value.int .i64 V), (Value.int .i64 ((n : Int))), (Value.int .i64 T)])), (1, ifA a), (2, (Value.agg #[(Value.int .i64 1), (Value.int .i64 0)]))] k = k ((Value.agg #[(Value.int .i64 V), (Value.int .i64 ((n : Int))), (Value.int .i64 T), ifA a, (Value.int .i64 1), (Value.int .i64 0)])) := fun k => by kernel_rfl
  obtain ⟨g, hg⟩ : ∃ g, g = h2 ++ [Blk.own [(Value.int .i64 V), (Value.int .i64 ((n : Int))), (Value.int .i64 T), ifA a, (Value.int .i64 1), (Value.int .i64 0)]] := ⟨_, rfl⟩
  have wg : wrN md (h2 ++ [Blk.own [(Value.int .i64 0), (Value.int .i64 0), (Value.int .i64 0), .nilIface, (Value.int .i64 0), (Value.int .i64 0)]]) h2.length 0 [(Value.int .i64 V), (Value.int .i64 ((n : Int))), (Value.int .i64 T), ifA a, (Value.int .i64 1), (Value.int .i64 0)] = some g := by
    have h1 : md.ro ≤ h2.length := by omega
    have h2 : md.lim ≤ h2.length := by omega
    rw [hg]; simp only [go_sem, Nat.reduceAdd, Nat.reduceLeDiff, Nat.reduceMul, Int.reduceBEq, Int.reduceBNe, Int.reduceLT, Int.reduceLE, Int.reduceGT, h1, h2]
  have st6 := fun (h' : Heap) (kk : Heap → Option (Value × Heap)) => st_N md 6 h2.length 0 [(Value.int .i64 V), (Value.int .i64 ((n : Int))), (Value.int .i64 T), ifA a, (Value.int .i64 1), (Value.int .i64 0)] h' kk rfl rfl
  have old2 : ∀ y, y < h.length → h2[y]? = h[y]? := fun y hy => by rw [o2.oth y (by omega) (by omega), O1.old y (by omega), List.getElem?_append_left hy]
  have lg : g.length = h2.length + 1 := by rw [hg]; simp
  have og : ∀ y, y < h2.length → g[y]? = h2[y]? := fun y hy => by rw [hg, List.getElem?_append_left hy]
  have SDg : Sl g 1 encU dv D := SD.heap fun hl => (og _ (by omega)).trans (old2 _ hl)
  have Ag : Ar g a b (initL T n (List.replicate (Cn V n T).toNat 0)) [0, if n = 0 then 1 else n + 2, 0, 0, 0] := by rw [hg]; exact A2.app _
  have qg := (og h.length (by omega)).trans q2
  have tg : g[h2.length]? = some (.own [(Value.int .i64 V), (Value.int .i64 ((n : Int))), (Value.int .i64 T), ifA a, (Value.int .i64 1), (Value.int .i64 0)]) := by rw [hg]; simp
  have SDb : slB dv < g.length → slB dv ≠ a ∧ slB dv ≠ b := by
    intro _
    rcases SD.is with ⟨e, _⟩ | ⟨b', o', kb, e, hb', _⟩
    · rw [e]; show 0 ≠ a ∧ 0 ≠ b; exact ⟨by omega, by omega⟩
    · rw [e]; show b' ≠ a ∧ b' ≠ b
      have := lt_of hb'
      exact ⟨by omega, by omega⟩
  obtain ⟨hf, cf, e3, A3, O3, w3⟩ := births_loop (md := md) (g := g) (q := h.length) (tb := h2.length) hR wD (by omega) (by omega) (by omega) (by omega) qg tg SDg SDb ⟨by omega, by omega⟩ ⟨by omega, by omega⟩ h (.pointer none) ((Value.int .i64 0)) (initL T n (List.replicate (Cn V n T).toNat 0)) (Nn V n).toNat 0 g _ (by omega) Ag (initL_wd T (by have := hR.2.1.2; omega) (Wd.zero _)) OG.refl
  have of := O3.len
  refine ⟨hf, a, b, cf, ?_, A3, ⟨by omega, fun y hy => by rw [O3.oth y (by omega) (by omega) (by omega), og y (by omega), old2 y hy]⟩, by omega, by omega, w3⟩
  rw [C, call_eq, F21_eq]
  unfold F21
  simp only [Int.natCast_zero, Int.zero_add] at e3
  simp only [go_sem, Nat.reduceAdd, Nat.reduceLeDiff, Nat.reduceMul, Int.reduceBEq, Int.reduceBNe, Int.reduceLT, Int.reduceLE, Int.reduceGT, ri, len, hD2, ce, e1, mo, rL, e2, rL2, mo2, mo3, bT, rdN_old (show h.length < h2.length by omega), cLE_t, st6, wg]
  exact e3
end Go.Det.E

/- What the document says of memory at first, cell by cell. -/
namespace Go.Det.E
open Go.Proofs Go.Det
attribute [local congr] bind_c cond_c
variable {md : Md} {h hh g : Heap} {a b n : Nat} {l c D : List Int} {V T x i : Int} {dv nv : Value}
theorem awake15 (md : Md) (h : Heap) : C md 24 [] h = some ((Value.bool true), h) := free_ok 100 100 (by kernel_rfl) (by kernel_rfl) md h
theorem refof15 (md : Md) (h : Heap) (V S T : Int) : C md 23 [(Value.agg #[(Value.int .i64 V), (Value.int .i64 S), (Value.int .i64 T)])] h = some ((Value.agg #[(Value.int .i64 V), (Value.int .i64 S), (Value.int .i64 T)]), h) := by
  rw [C, call_eq, F23_eq]
  unfold F23
  have e : below2 0 ((Value.agg #[(Value.int .i64 V), (Value.int .i64 S), (Value.int .i64 T)])) = true := nrf rfl
  have s := fun (h : Heap) (k : Heap → Option (Value × Heap)) => st_N ⟨0, 0⟩ 3 1 0 [(Value.int .i64 V), (Value.int .i64 S), (Value.int .i64 T)] h k rfl rfl
  have bl : ∀ {α : Type} (k : Value → Option α), aBuild Try.prog 55 [(0, (Value.int .i64 V)), (1, (Value.int .i64 S)), (2, (Value.int .i64 T))] k = k ((Value.agg #[(Value.int .i64 V), (Value.int .i64 S), (Value.int .i64 T)])) := fun k => by kernel_rfl
  simp only [go_sem, Nat.reduceAdd, Nat.reduceLeDiff, Nat.reduceMul, Int.reduceBEq, Int.reduceBNe, Int.reduceLT, Int.reduceLE, Int.reduceGT, s, bl]
theorem refright15 (md : Md) (h : Heap) (V S T : Int) : C md 22 [(Value.agg #[(Value.int .i64 V), (Value.int .i64 S), (Value.int .i64 T)])] h = some ((Value.bool (decide (Rt V S T))), h) := by
  rw [C, call_eq, F22_eq]
  unfold F22 Rt
  by_cases h1 : 1 ≤ V <;> (try by_cases h2 : V ≤ 16) <;> (try by_cases h3 : 0 ≤ S) <;> (try by_cases h4 : S ≤ 48) <;> (try by_cases h5 : 1 ≤ T) <;> (try by_cases h6 : T ≤ 8) <;>
    simp only [go_sem, Nat.reduceAdd, Nat.reduceLeDiff, Nat.reduceMul, Int.reduceBEq, Int.reduceBNe, Int.reduceLT, Int.reduceLE, Int.reduceGT, ge_iff_le, *, aBin_leq, aBin_geq, false_and, and_false, true_and, and_self]
/-- What a cell is at first. -/
def wV (V : Int) (n : Nat) (T : Int) (D : List Int) (i : Int) : Int := if Nd V n T ≤ i then fv V ((i - Nd V n T) / 7 + 1) (prD D ((i - Nd V n T) / 7 + 1)) ((i - Nd V n T) % 7) else hd0 T n i
theorem Sl.read4 {hh : Heap} {v : Value} {xs : List N4} (S : Sl hh 4 enc4 v xs) {i : Int} {x : N4} (h0 : 0 ≤ i) (hx : xs[i.toNat]? = some x) :
    (∀ {α : Type} (kk : Value → Option α), ixS 4 v i kk = kk ((Value.pointer (some ⟨slB v, slO v + i.toNat * 4, none⟩)))) ∧ rdN hh (slB v) (slO v + i.toNat * 4) 4 = some (enc4 x) := by
  have h1 : i < xs.length := by have := (List.getElem?_eq_some_iff.1 hx).1; omega
  exact ⟨fun kk => S.ix h0 h1 kk, S.elem hx⟩
theorem bfirst_s (hR : Rt V n T) (SN : Sl h 4 enc4 nv (nodeL V (Nn V n).toNat)) (SD : Sl h 1 encU dv D) (hD : D.length < 100000) (hro : md.ro ≤ h.length) {t : N4} (h0 : 0 ≤ i) (hN : Nm V n T i t) :
    C md 50 [(Value.agg #[(Value.int .i64 V), (Value.int .i64 ((n : Int))), (Value.int .i64 T)]), dv, (Value.agg #[(Value.int .i64 t.1), (Value.int .i64 t.2.1), (Value.int .i64 t.2.2.1), (Value.int .i64 t.2.2.2)]), nv] h = some ((Value.int .u64 (wV V n T D i)), h) := by
  have nd := order hR
  have hT := hR.2.2
  have c2 := Cn_le hR
  have hn : (n : Int) ≤ 48 := hR.2.1.2
  rw [C, call_eq, F50_eq]
  unfold F50
  have zero : ∀ {j : Int}, j < Nd V n T → j ≠ T → (T + 1 ≤ j → j < T + 1 + (n : Int) * 7 → (j - T - 1) % 7 ≠ 0) → wV V n T D j = 0 := by
    intro j h1 h2 h3
    unfold wV hd0
    rw [if_neg (by omega), if_neg h2, if_neg (by intro q; exact h3 q.1 q.2.1 q.2.2.1)]
  have oxz : ∀ {a f : Int}, 1 ≤ f → f < 7 → Ox n T a f = i → wV V n T D i = 0 := by
    intro a f f1 f2 h
    have q := ox_in (a := a) (f := f) hR (by omega)
    cases hb : Bl a (n : Int)
    · have := q.2 hb; omega
    · obtain ⟨q1, q2, q3⟩ := q.1 hb
      exact zero (by omega) (by omega) fun _ _ => by omega
  cases hN with
  | k1 a h _ =>
    have q := sx_in (a := a) hR
    have : i < T := by
      cases hb : Bl (a - 1) T
      · have := q.2 hb; omega
      · have := q.1 hb; omega
    rw [zero (by omega) (by omega) fun h _ => by omega]
    simp only [go_sem, Nat.reduceAdd, Nat.reduceLeDiff, Nat.reduceMul, Int.reduceBEq, Int.reduceBNe, Int.reduceLT, Int.reduceLE, Int.reduceGT]
  | k2 h =>
    subst h
    have e : wV V n T D T = if n = 0 then 0 else 1 := by unfold wV hd0; rw [if_neg (by omega), if_pos rfl]
    rw [e]
    by_cases hz : n = 0
    · rw [if_pos hz]
      have : ¬ (0 : Int) < (n : Int) := by omega
      simp only [go_sem, Nat.reduceAdd, Nat.reduceLeDiff, Nat.reduceMul, Int.reduceBEq, Int.reduceBNe, Int.reduceLT, Int.reduceLE, Int.reduceGT, aBin_gtr, this]
    · rw [if_neg hz]
      have : (0 : Int) < (n : Int) := by omega
      simp only [go_sem, Nat.reduceAdd, Nat.reduceLeDiff, Nat.reduceMul, Int.reduceBEq, Int.reduceBNe, Int.reduceLT, Int.reduceLE, Int.reduceGT, aBin_gtr, this]
  | k3 a h =>
    have q := ox_in (a := a) (f := 0) hR (by omega)
    cases hb : Bl a (n : Int)
    · have := q.2 hb; omega
    · obtain ⟨q1, q2, q3⟩ := q.1 hb
      have hb' := Bl_t.1 hb
      have w1 : IntKind.wrap .i64 (a + 1) = a + 1 := wi (by omega) (by omega)
      have w2 : IntKind.wrap .i64 (a + 2) = a + 2 := wi (by omega) (by omega)
      have w3 : IntKind.wrap .u64 (a + 2) = a + 2 := wu (by omega) (by omega)
      have e : wV V n T D i = if a + 1 < (n : Int) then a + 2 else 0 := by
        unfold wV hd0
        rw [if_neg (by omega), if_neg (by omega)]
        have e1 : (i - T - 1) / 7 = a := by omega
        rw [e1]
        by_cases h3 : a + 1 < (n : Int)
        · rw [if_pos ⟨by omega, by omega, by omega, h3⟩, if_pos h3]
        · rw [if_neg (fun q => h3 q.2.2.2), if_neg h3]
      rw [e]
      by_cases h3 : a + 1 < (n : Int)
      · rw [if_pos h3]
        simp only [go_sem, Nat.reduceAdd, Nat.reduceLeDiff, Nat.reduceMul, Int.reduceBEq, Int.reduceBNe, Int.reduceLT, Int.reduceLE, Int.reduceGT, aBin_add, aBin_lss, w1, w2, w3, h3]
      · rw [if_neg h3]
        simp only [go_sem, Nat.reduceAdd, Nat.reduceLeDiff, Nat.reduceMul, Int.reduceBEq, Int.reduceBNe, Int.reduceLT, Int.reduceLE, Int.reduceGT, aBin_add, aBin_lss, w1, w2, w3, h3]
  | k4 a h => rw [oxz (by omega) (by omega) h]; simp only [go_sem, Nat.reduceAdd, Nat.reduceLeDiff, Nat.reduceMul, Int.reduceBEq, Int.reduceBNe, Int.reduceLT, Int.reduceLE, Int.reduceGT]
  | k5 a h => rw [oxz (by omega) (by omega) h]; simp only [go_sem, Nat.reduceAdd, Nat.reduceLeDiff, Nat.reduceMul, Int.reduceBEq, Int.reduceBNe, Int.reduceLT, Int.reduceLE, Int.reduceGT]
  | k6 a b h =>
    unfold Nx at h
    cases hb : Bl b 2
    · rw [hb, cond_false] at h; omega
    · rw [hb, cond_true] at h
      have := Bl_t.1 hb
      rw [oxz (by omega) (by omega) h]; simp only [go_sem, Nat.reduceAdd, Nat.reduceLeDiff, Nat.reduceMul, Int.reduceBEq, Int.reduceBNe, Int.reduceLT, Int.reduceLE, Int.reduceGT]
  | k7 a b h =>
    unfold Px at h
    cases hb : Bl b 2
    · rw [hb, cond_false] at h; omega
    · rw [hb, cond_true] at h
      have := Bl_t.1 hb
      rw [oxz (by omega) (by omega) h]; simp only [go_sem, Nat.reduceAdd, Nat.reduceLeDiff, Nat.reduceMul, Int.reduceBEq, Int.reduceBNe, Int.reduceLT, Int.reduceLE, Int.reduceGT]
  | k8 a b h =>
    have q := hx_in (a := a) (b := b) hR
    cases hb : (Bl a V && Bl b (Lv V))
    · have := q.2 hb; omega
    · obtain ⟨q1, q2, q3⟩ := q.1 hb
      rw [zero (by omega) (by omega) fun _ _ => by omega]; simp only [go_sem, Nat.reduceAdd, Nat.reduceLeDiff, Nat.reduceMul, Int.reduceBEq, Int.reduceBNe, Int.reduceLT, Int.reduceLE, Int.reduceGT]
  | k9 a b h _ =>
    have q := ex_in (a := a) (b := b) hR
    cases hb : eOk V a b
    · have := q.2 hb; omega
    · obtain ⟨q1, q2, q3⟩ := q.1 hb
      rw [zero (by omega) (by omega) fun _ _ => by omega]; simp only [go_sem, Nat.reduceAdd, Nat.reduceLeDiff, Nat.reduceMul, Int.reduceBEq, Int.reduceBNe, Int.reduceLT, Int.reduceLE, Int.reduceGT]
  | k10 a b q10 _ =>
    have q := fx_in (a := a) (b := b) hR
    cases hb : (Bl (a - 1) (Nn V n) && Bl b 7)
    · have := q.2 hb; omega
    · obtain ⟨q1, q2, q3⟩ := q.1 hb
      simp only [Bool.and_eq_true] at hb
      have ha := Bl_t.1 hb.1
      have hb7 := Bl_t.1 hb.2
      have ea : (i - Nd V n T) / 7 + 1 = a := by omega
      have eb : (i - Nd V n T) % 7 = b := by omega
      have e : wV V n T D i = fv V a (prD D a) b := by unfold wV; rw [if_pos (by omega), ea, eb]
      rw [e]
      have w1 : IntKind.wrap .i64 (a - 1) = a - 1 := wi (by omega) (by omega)
      have hx : (nodeL V (Nn V n).toNat)[(a - 1).toNat]? = some (nodeAt V (a - 1)) := by
        unfold nodeL
        rw [List.getElem?_map, List.getElem?_range (by omega), Option.map_some]
        congr 2; omega
      have SN2 : Sl (h ++ [Blk.own [(Value.int .i64 V), (Value.int .i64 ((n : Int))), (Value.int .i64 T)], Blk.own [(Value.int .i64 10), (Value.int .i64 a), (Value.int .i64 b), (Value.int .i64 0)]]) 4 enc4 nv (nodeL V (Nn V n).toNat) := SN.app
      obtain ⟨ix, el⟩ := Sl.read4 SN2 (i := a - 1) (by omega) hx
      have len := fun {α : Type} (kk : Value → Option α) => SD.len kk
      have s4 := fun (α : Type) (m : Md) (b : Nat) (x y z u : Int) (h : Heap) (k : Heap → Option α) => st_N m 4 b 0 [(Value.int .i64 x), (Value.int .i64 y), (Value.int .i64 z), (Value.int .i64 u)] h k rfl rfl
      have r2 : md.ro ≤ h.length + 2 := by omega
      have hV := hR.1
      -- kinds of nodes
      have kind : ∃ k y z u, nodeAt V (a - 1) = (k, y, z, u) ∧ ((k == 1) = decide (a - 1 < Lv V * V)) ∧ (((k == 1) && (y == 0)) = decide (a - 1 < V)) := by
        unfold nodeAt
        by_cases h1 : a - 1 < Lv V * V
        · refine ⟨_, _, _, _, if_pos h1, by simp [h1], ?_⟩
          by_cases h2 : a - 1 < V
          · have : (a - 1) / V = 0 := Int.ediv_eq_zero_of_lt (by omega) h2
            simp [this, h2]
          · have : (a - 1) / V ≠ 0 := by
              intro q
              have := Int.lt_ediv_add_one_mul_self (a - 1) (show 0 < V by omega)
              rw [q] at this; omega
            simp [this, h2]
        · refine ⟨_, _, _, _, if_neg h1, by simp [h1], ?_⟩
          have h3 : ¬ a - 1 < V := by
            have : 1 * V ≤ Lv V * V := Int.mul_le_mul_of_nonneg_right (by omega) (by omega)
            omega
          simp [h3]
      obtain ⟨k, y, z, u, en, kd, kl⟩ := kind
      rw [en] at el
      simp only [enc4] at el
      have hb2 : b = 0 ∨ b = 1 ∨ b = 2 ∨ b = 3 ∨ b = 4 ∨ b = 5 ∨ b = 6 := by omega
      have S3 : Sl (h ++ [Blk.own [(Value.int .i64 V), (Value.int .i64 ((n : Int))), (Value.int .i64 T)], Blk.own [(Value.int .i64 10), (Value.int .i64 a), (Value.int .i64 5), (Value.int .i64 0)], Blk.own [(Value.int .i64 k), (Value.int .i64 y), (Value.int .i64 z), (Value.int .i64 u)]]) 1 encU dv D := SD.app
      rcases hb2 with rfl | rfl | rfl | rfl | rfl | rfl | rfl
      · have ef : fv V a (prD D a) 0 = bif decide (a - 1 < V) then 0 else 65535 := by
          unfold fv lockV; rw [if_pos rfl]; by_cases h : a - 1 < V <;> simp [h]
        rw [ef, ← kl]
        cases hk : (k == 1)
        · simp only [go_sem, Nat.reduceAdd, Nat.reduceLeDiff, Nat.reduceMul, Int.reduceBEq, Int.reduceBNe, Int.reduceLT, Int.reduceLE, Int.reduceGT, w1, ix, el, s4, r2, hk]
        · cases hy : (y == 0)
          · simp only [go_sem, Nat.reduceAdd, Nat.reduceLeDiff, Nat.reduceMul, Int.reduceBEq, Int.reduceBNe, Int.reduceLT, Int.reduceLE, Int.reduceGT, w1, ix, el, s4, r2, hk, aBin_eql, hy]
          · simp only [go_sem, Nat.reduceAdd, Nat.reduceLeDiff, Nat.reduceMul, Int.reduceBEq, Int.reduceBNe, Int.reduceLT, Int.reduceLE, Int.reduceGT, w1, ix, el, s4, r2, hk, aBin_eql, hy]
      · simp only [go_sem, Nat.reduceAdd, Nat.reduceLeDiff, Nat.reduceMul, Int.reduceBEq, Int.reduceBNe, Int.reduceLT, Int.reduceLE, Int.reduceGT, w1, ix, el, s4, r2]; rfl
      · simp only [go_sem, Nat.reduceAdd, Nat.reduceLeDiff, Nat.reduceMul, Int.reduceBEq, Int.reduceBNe, Int.reduceLT, Int.reduceLE, Int.reduceGT, w1, ix, el, s4, r2]; rfl
      · simp only [go_sem, Nat.reduceAdd, Nat.reduceLeDiff, Nat.reduceMul, Int.reduceBEq, Int.reduceBNe, Int.reduceLT, Int.reduceLE, Int.reduceGT, w1, ix, el, s4, r2]; rfl
      · simp only [go_sem, Nat.reduceAdd, Nat.reduceLeDiff, Nat.reduceMul, Int.reduceBEq, Int.reduceBNe, Int.reduceLT, Int.reduceLE, Int.reduceGT, w1, ix, el, s4, r2]; rfl
      · have ef : fv V a (prD D a) 5 = prD D a := by unfold fv; rw [if_neg (by decide), if_pos rfl]
        rw [ef]
        by_cases hD0 : D.length = 0
        · have : ¬ (0 : Int) < (D.length : Int) := by omega
          have pd : prD D a = 0 := by rw [List.length_eq_zero_iff.1 hD0]; rfl
          rw [pd]
          simp only [go_sem, Nat.reduceAdd, Nat.reduceLeDiff, Nat.reduceMul, Int.reduceBEq, Int.reduceBNe, Int.reduceLT, Int.reduceLE, Int.reduceGT, w1, ix, el, s4, r2, len, aBin_gtr, this]
        · have hD1 : (0 : Int) < (D.length : Int) := by omega
          have hD2 : (D.length : Int) ≠ 0 := by omega
          have tm : Int.tmod a D.length = a % D.length := Int.tmod_eq_emod_of_nonneg (by omega)
          have m0 : 0 ≤ a % (D.length : Int) := Int.emod_nonneg _ hD2
          have m1 : a % (D.length : Int) < D.length := Int.emod_lt_of_pos _ (by omega)
          have hx : D[(a % (D.length : Int)).toNat]? = some (prD D a) := by
            unfold prD
            rw [List.getD_eq_getElem?_getD, List.getElem?_eq_getElem (by omega)]; rfl
          obtain ⟨ix2, el2⟩ := Sl.readu S3 m0 hx
          have dr : intOp .rem a D.length .i64 = some ((Value.int .i64 (a % D.length))) := by
            simp only [intOp, hD2, if_false, tm]
          simp only [go_sem, Nat.reduceAdd, Nat.reduceLeDiff, Nat.reduceMul, Int.reduceBEq, Int.reduceBNe, Int.reduceLT, Int.reduceLE, Int.reduceGT, w1, ix, el, s4, r2, len, aBin_gtr, hD1, dr, ix2, el2]
      · have ef : fv V a (prD D a) 6 = bif decide (a - 1 < Lv V * V) then 65537 else 1 := by
          unfold fv loneV; rw [if_neg (by decide), if_neg (by decide), if_pos rfl]; by_cases h : a - 1 < Lv V * V <;> simp [h]
        rw [ef, ← kd]
        cases hk : (k == 1)
        · simp only [go_sem, Nat.reduceAdd, Nat.reduceLeDiff, Nat.reduceMul, Int.reduceBEq, Int.reduceBNe, Int.reduceLT, Int.reduceLE, Int.reduceGT, w1, ix, el, s4, r2, hk]
        · simp only [go_sem, Nat.reduceAdd, Nat.reduceLeDiff, Nat.reduceMul, Int.reduceBEq, Int.reduceBNe, Int.reduceLT, Int.reduceLE, Int.reduceGT, w1, ix, el, s4, r2, hk]
end Go.Det.E

/- Of any lay and any draws the memory at first has just the cells that the document says; or it is refused. -/
namespace Go.Det.E
open Go.Proofs Go.Det
attribute [local congr] bind_c cond_c
variable {md : Md} {h hh g : Heap} {a b n : Nat} {l c D : List Int} {V T x i : Int} {dv nv : Value}
def wL (V : Int) (n : Nat) (T : Int) (D : List Int) (m : Nat) : List Int := (List.range m).map fun k : Nat => wV V n T D (k : Int)
theorem wL_len (m : Nat) : (wL V n T D m).length = m := by simp [wL]
theorem wL_succ (m : Nat) : wL V n T D (m + 1) = wL V n T D m ++ [wV V n T D (m : Int)] := by simp [wL, List.range_succ]
theorem cells15_loop {q : Nat} {names : Value} {xs : List N4} (hR : Rt V n T) (hq : g[q]? = some (.own [(Value.int .i64 V), (Value.int .i64 ((n : Int))), (Value.int .i64 T)])) (SC : Sl g 4 enc4 names xs) (SN : Sl g 4 enc4 nv (nodeL V (Nn V n).toNat)) (SD : Sl g 1 encU dv D) (hD : D.length < 100000)
    (hI : ∀ (i : Nat) (t : N4), xs[i]? = some t → Nm V n T i t) (hlx : xs.length < 100000) (hro : md.ro ≤ g.length) (h0 : Heap) (s4 : Value) : ∀ (m k : Nat) (hh : Heap) (s7 : Value), k + m = xs.length → Old g.length g hh → SlO hh g.length 1 encU s7 (wL V n T D k) →
    ∃ v' h', J25_0 C md h0 dv ((Value.pointer (some ⟨q, 0, none⟩))) s4 names nv s7 ((Value.int .i64 ((k : Int)))) hh = some (v', h') ∧ SlO h' g.length 1 encU v' (wL V n T D xs.length) ∧ Old g.length g h' := by
  intro m
  induction m with
  | zero =>
    intro k hh s7 hk O S7
    obtain rfl : k = xs.length := by omega
    have S1 : Sl hh 4 enc4 names xs := SC.heap fun hl => O.old _ hl
    have len := fun {α : Type} (kk : Value → Option α) => S1.len kk
    refine ⟨s7, hh, ?_, S7, O⟩
    rw [J25_0_step]
    unfold Jr25_0
    simp only [go_sem, Nat.reduceAdd, Nat.reduceLeDiff, Nat.reduceMul, Int.reduceBEq, Int.reduceBNe, Int.reduceLT, Int.reduceLE, Int.reduceGT, len, aBin_lss, Int.lt_irrefl, Jk25_0]
  | succ m ih =>
    intro k hh s7 hk O S7
    have ol := O.len
    have S1 : Sl hh 4 enc4 names xs := SC.heap fun hl => O.old _ hl
    have S2 : Sl hh 4 enc4 nv (nodeL V (Nn V n).toNat) := SN.heap fun hl => O.old _ hl
    have S3 : Sl hh 1 encU dv D := SD.heap fun hl => O.old _ hl
    have len := fun {α : Type} (kk : Value → Option α) => S1.len kk
    have hlt : (k : Int) < (xs.length : Int) := by omega
    obtain ⟨t, ht⟩ : ∃ t, xs[k]? = some t := ⟨xs[k]'(by omega), List.getElem?_eq_getElem (by omega)⟩
    obtain ⟨ix, el⟩ := Sl.read4 S1 (i := (k : Int)) (x := t) (by omega) (by simpa using ht)
    rw [Int.toNat_natCast] at el
    simp only [Int.toNat_natCast] at ix
    have bq : hh[q]? = some (.own [(Value.int .i64 V), (Value.int .i64 ((n : Int))), (Value.int .i64 T)]) := (O.old q (lt_of hq)).trans hq
    have rq : rdN hh q 0 3 = some [(Value.int .i64 V), (Value.int .i64 ((n : Int))), (Value.int .i64 T)] := by rw [rdN_own bq (by simp)]; rfl
    have ef := bfirst_s (md := md) hR S2 S3 hD (by omega) (t := t) (i := (k : Int)) (by omega) (hI k t ht)
    obtain ⟨v2, h2, ea, S2', l2, f2⟩ := append_own2 (md := md) (ys := [wV V n T D (k : Int)]) tU S7 hro ol (cs := [(Value.int .u64 (wV V n T D (k : Int)))]) (by simp [flat]) (by simp) rfl (by rw [wL_len]; simp; omega)
    have s7b : s7 = .slice none 0 0 ∨ g.length ≤ slB s7 := S7.own.imp id fun q => q.1
    have O2 : Old g.length g h2 := ⟨by omega, fun y hy => by rw [f2 y (by omega) (s7b.imp id fun q => by omega)]; exact O.old y hy⟩
    have w : IntKind.wrap .i64 ((k : Int) + 1) = ((k + 1 : Nat) : Int) := by rw [wi (by omega) (by omega)]; rfl
    obtain ⟨v', h', e', S', O'⟩ := ih (k + 1) h2 v2 (by omega) O2 (by rw [wL_succ]; exact S2'.mono ol)
    refine ⟨v', h', ?_, S', O'⟩
    rw [J25_0_step]
    unfold Jr25_0
    simp only [List.length_cons, List.length_nil, Nat.zero_add] at ea
    simp only [go_sem, Nat.reduceAdd, Nat.reduceLeDiff, Nat.reduceMul, Int.reduceBEq, Int.reduceBNe, Int.reduceLT, Int.reduceLE, Int.reduceGT, len, aBin_lss, hlt, rq, ix, el, enc4, ef, ea, aBin_add, w]
    exact e'
theorem cells15_e (hR : Rt V n T) (SD : Sl h 1 encU dv D) (hD : D.length < 100000) (hro : md.ro ≤ h.length) :
    ∃ v h', C md 25 [(Value.agg #[(Value.int .i64 V), (Value.int .i64 ((n : Int))), (Value.int .i64 T)]), dv] h = some (v, h') ∧ SlO h' h.length 1 encU v (wL V n T D (Cn V n T).toNat) ∧ Old h.length h h' := by
  obtain ⟨vn, rfl⟩ : ∃ k : Nat, V = k := ⟨V.toNat, by have := hR.1; omega⟩
  obtain ⟨tn, rfl⟩ : ∃ k : Nat, T = k := ⟨T.toNat, by have := hR.2.2; omega⟩
  obtain ⟨lv, hl⟩ : ∃ k : Nat, Lv (vn : Int) = k := ⟨(Lv vn).toNat, by have := Lv_le hR; omega⟩
  obtain ⟨nn, hnn⟩ : ∃ k : Nat, Nn vn n = k := ⟨(Nn vn n).toNat, by have := Cn_le hR; omega⟩
  have c2 := Cn_le hR
  obtain ⟨v1, h1, e1, S1, O1⟩ := refcells_s md (h ++ [Blk.own [(Value.int .i64 ((vn : Int))), (Value.int .i64 ((n : Int))), (Value.int .i64 ((tn : Int)))]]) (by simp; omega) hR hl hnn
  have l1 := O1.len
  simp only [List.length_append, List.length_cons, List.length_nil] at l1 O1
  obtain ⟨v2, h2, e2, S2, O2⟩ := refnodes_s md h1 (by omega) hR
  have l2 := O2.len
  obtain ⟨ci1, ci2⟩ := cell_ix hR hl hnn
  have b1 : h1[h.length]? = some (.own [(Value.int .i64 ((vn : Int))), (Value.int .i64 ((n : Int))), (Value.int .i64 ((tn : Int)))]) := (O1.old _ (by omega)).trans (by simp)
  have b2 := (O2.old h.length (by omega)).trans b1
  have r1 : rdN h1 h.length 0 3 = some [(Value.int .i64 ((vn : Int))), (Value.int .i64 ((n : Int))), (Value.int .i64 ((tn : Int)))] := by rw [rdN_own b1 (by simp)]; rfl
  have old : ∀ y, y < h.length → h2[y]? = h[y]? := fun y hy => by rw [O2.old y (by omega), O1.old y (by omega), List.getElem?_append_left hy]
  obtain ⟨v', h', e3, S3, O3⟩ := cells15_loop (md := md) (g := h2) (q := h.length) hR b2 (S1.heap fun hl => O2.old _ hl) S2 (SD.heap fun hl => old _ hl) hD
    (fun i t ht => by have := ci1 i t ht; rw [Int.zero_add] at this; exact this) (by omega) (by omega) h (.slice none 0 0) _ 0 h2 (.slice none 0 0) (Nat.zero_add _) ⟨Nat.le_refl _, fun _ _ => rfl⟩ (SlO.nil _ _ encU_len)
  have ec : (cellL vn n tn lv nn).length = (Cn vn n tn).toNat := by omega
  rw [ec] at S3
  have l3 := O3.len
  refine ⟨v', h', ?_, S3.mono (by omega), ⟨by omega, fun y hy => by rw [O3.old y (by omega), old y hy]⟩⟩
  rw [C, call_eq, F25_eq]
  unfold F25
  simp only [go_sem, Nat.reduceAdd, Nat.reduceLeDiff, Nat.reduceMul, Int.reduceBEq, Int.reduceBNe, Int.reduceLT, Int.reduceLE, Int.reduceGT, e1, r1, e2]
  exact e3
theorem birth_bad {S : Int} (hV : I64 V) (hT : I64 T) (hR : ¬ Rt V S T) (dv : Value) (md : Md) (h : Heap) : C md 21 [(Value.agg #[(Value.int .i64 V), (Value.int .i64 S), (Value.int .i64 T)]), dv] h = some ((Value.tuple #[.pointer none, (Value.int .i64 11)]), h ++ [Blk.own [(Value.int .i64 V), (Value.int .i64 S), (Value.int .i64 T)]]) := by
  have ri := fun (m : Md) (h : Heap) => right_n m h (S := S) hV hT
  have dR : decide (Rt V S T) = false := decide_eq_false hR
  simp only [dR] at ri
  rw [C, call_eq, F21_eq]
  unfold F21
  simp only [go_sem, Nat.reduceAdd, Nat.reduceLeDiff, Nat.reduceMul, Int.reduceBEq, Int.reduceBNe, Int.reduceLT, Int.reduceLE, Int.reduceGT, ri]
theorem birth_many {S : Int} (hR : Rt V S T) (SD : Sl h 1 encU dv D) (hD : 256 < D.length) (md : Md) : C md 21 [(Value.agg #[(Value.int .i64 V), (Value.int .i64 S), (Value.int .i64 T)]), dv] h = some ((Value.tuple #[.pointer none, (Value.int .i64 12)]), h ++ [Blk.own [(Value.int .i64 V), (Value.int .i64 S), (Value.int .i64 T)]]) := by
  have ri := fun (m : Md) (h : Heap) => right_n m h (S := S) (V := V) (T := T) (show I64 V from ⟨by have := hR.1; omega, by have := hR.1; omega⟩) (show I64 T from ⟨by have := hR.2.2; omega, by have := hR.2.2; omega⟩)
  have dR : decide (Rt V S T) = true := decide_eq_true hR
  simp only [dR] at ri
  have len := fun {α : Type} (kk : Value → Option α) => SD.len kk
  have hD2 : (D.length : Int) > 256 := by omega
  rw [C, call_eq, F21_eq]
  unfold F21
  simp only [go_sem, Nat.reduceAdd, Nat.reduceLeDiff, Nat.reduceMul, Int.reduceBEq, Int.reduceBNe, Int.reduceLT, Int.reduceLE, Int.reduceGT, ri, len, hD2]
theorem births_eq {v s4 : Value} {n0 : Nat} (hR : Rt V n T) : ∀ (m k : Nat) (hh : Heap) (c : List Int), k + m = (Cn V n T).toNat → Ar hh a b (bL V n T D) c → (hro : md.ro ≤ a) → SlO hh n0 1 encU v (wL V n T D (Cn V n T).toNat) → (slB v ≠ a ∧ slB v ≠ b ∨ v = .slice none 0 0) →
    ∃ g, J7_0 C md h s4 ((Value.pointer (some ⟨a, 0, none⟩))) v ((Value.int .i64 ((Cn V n T)))) ((Value.int .i64 ((k : Int)))) hh = some ((Value.bool true), g) := by
  have c2 := Cn_le hR
  intro m
  induction m with
  | zero =>
    intro k hh c hk A hro S hne
    have : ¬ (k : Int) < Cn V n T := by omega
    refine ⟨hh.take h.length, ?_⟩
    rw [J7_0_step]
    unfold Jr7_0
    simp only [go_sem, Nat.reduceAdd, Nat.reduceLeDiff, Nat.reduceMul, Int.reduceBEq, Int.reduceBNe, Int.reduceLT, Int.reduceLE, Int.reduceGT, aBin_lss, this, Jk7_0, awake15]
  | succ m ih =>
    intro k hh c hk A hro S hne
    have hlt : (k : Int) < Cn V n T := by omega
    have hx : (wL V n T D (Cn V n T).toNat)[k]? = some (wV V n T D (k : Int)) := by
      unfold wL
      rw [List.getElem?_map, List.getElem?_range (by omega)]; rfl
    obtain ⟨ix, el⟩ := Sl.readu S.sl (i := (k : Int)) (by omega) (by simpa using hx)
    rw [Int.toNat_natCast] at el
    simp only [Int.toNat_natCast] at ix
    obtain ⟨h2, e2, A2, o2⟩ := ld_x (md := md) A hro (k : Int)
    have eg : getI (bL V n T D) (k : Int) = wV V n T D (k : Int) := bL_get hR D (by omega) hlt
    rw [eg] at e2
    have w : IntKind.wrap .i64 ((k : Int) + 1) = ((k + 1 : Nat) : Int) := by rw [wi (by omega) (by omega)]; rfl
    have S2 : SlO h2 n0 1 encU v (wL V n T D (Cn V n T).toNat) := S.keep (hne.elim (fun q => .inr (o2.oth _ q.1 q.2)) .inl)
    obtain ⟨g, e3⟩ := ih (k + 1) h2 _ (by omega) A2 hro S2 hne
    refine ⟨g, ?_⟩
    rw [J7_0_step]
    unfold Jr7_0
    simp only [go_sem, Nat.reduceAdd, Nat.reduceLeDiff, Nat.reduceMul, Int.reduceBEq, Int.reduceBNe, Int.reduceLT, Int.reduceLE, Int.reduceGT, aBin_lss, hlt, ix, el, e2, aBin_add, w]
    exact e3
theorem arg_draws {h : Heap} {v : Value} (x : TyArg Try.prog h 50 v) : ∃ ws : List Int, Sl h 1 encU v ws ∧ Wd ws ∧ ws.length ≤ maxLen := by
  rcases inSl (arg1 (c := .sl [.i .u64]) (by kernel_rfl) (by kernel_rfl) x : TyS h (.sl [.i .u64]) _) with e | ⟨b, ess, e, hb', hl, he⟩
  · rw [e]; exact ⟨[], Sl.nil _ encU_len, fun _ h => by simp at h, Nat.zero_le _⟩
  · obtain ⟨vs, rfl, e2, hv⟩ := elems1 he
    have : ∃ ws : List Int, vs = ws.map (.int .u64) ∧ Wd ws := by
      clear e hb' hl e2 he
      induction vs with
      | nil => exact ⟨[], rfl, fun _ h => by simp at h⟩
      | cons y ys ih =>
        obtain ⟨n, rfl, hn⟩ := inU64 (hv y (by simp))
        obtain ⟨ws, rfl, w⟩ := ih (fun z hz => hv z (by simp [hz]))
        refine ⟨n :: ws, rfl, fun q hq => ?_⟩
        rcases List.mem_cons.1 hq with rfl | hq
        · exact hn
        · exact w q hq
    obtain ⟨ws, rfl, w⟩ := this
    rw [e]
    refine ⟨ws, Sl.whole encU_len hb' ?_ (by simp), w, by simpa using hl⟩
    simp only [Blk.cells, e2]
    have : ∀ ys : List Int, flat encU ys = ys.map (.int .u64) := by
      intro ys
      induction ys with
      | nil => rfl
      | cons y ys ih => rw [flat_cons, ih]; rfl
    exact (this ws).symm
theorem births_law : Law Try.prog cfg 7 [49, 50] := by
  intro h avs ha
  obtain ⟨x, r, rfl, a0, ha⟩ := args_cons ha
  obtain ⟨dv, r, rfl, a1, ha⟩ := args_cons ha
  obtain rfl := args_nil ha
  obtain ⟨V, S, T, rfl, hV, hS, hT⟩ := arg_lay a0
  obtain ⟨D, SD, wD, hm⟩ := arg_draws a1
  have len := fun {α : Type} (k : Value → Option α) => SD.len k
  have ml : (maxLen : Int) < 9223372036854775808 := by decide
  rw [call_eq, F7_eq]
  unfold F7
  by_cases hR : Rt V S T
  · have dR : decide (Rt V S T) = true := decide_eq_true hR
    by_cases hD : 256 < D.length
    · have SD1 : Sl (h ++ [Blk.own [(Value.int .i64 V), (Value.int .i64 S), (Value.int .i64 T)]]) 1 encU dv D := SD.app
      have eb := birth_many (S := S) hR SD1 hD
      have hD2 : (D.length : Int) > 256 := by omega
      exact ⟨(h ++ [Blk.own [(Value.int .i64 V), (Value.int .i64 S), (Value.int .i64 T)]] ++ [Blk.own [(Value.int .i64 V), (Value.int .i64 S), (Value.int .i64 T)]]).take h.length, by simp only [go_sem, Nat.reduceAdd, Nat.reduceLeDiff, Nat.reduceMul, Int.reduceBEq, Int.reduceBNe, Int.reduceLT, Int.reduceLE, Int.reduceGT] at eb ⊢; simp only [go_sem, Nat.reduceAdd, Nat.reduceLeDiff, Nat.reduceMul, Int.reduceBEq, Int.reduceBNe, Int.reduceLT, Int.reduceLE, Int.reduceGT, eb, refof15, refright15, dR, len, hD2, aBin_eqlN uAr, awake15]⟩
    · obtain ⟨n, rfl⟩ : ∃ n : Nat, S = n := ⟨S.toNat, by have := hR.2.1; omega⟩
      have hD2 : ¬ (D.length : Int) > 256 := by omega
      have SD1 : Sl (h ++ [Blk.own [(Value.int .i64 V), (Value.int .i64 ((n : Int))), (Value.int .i64 T)]]) 1 encU dv D := SD.app
      obtain ⟨h4, a, b, c, e1, A1, O1, la, lb, w1⟩ := birth_e (md := ⟨0, h.length⟩) hR wD (by omega) SD1 (Nat.zero_le _) (by simp)
      simp only [List.length_append, List.length_cons, List.length_nil] at la lb O1
      have l1 := O1.len
      simp only [List.length_append, List.length_cons, List.length_nil] at l1
      have la1 := lt_of A1.ha
      have lb1 := lt_of A1.hb
      have b1 : h4[h.length]? = some (.own [(Value.int .i64 V), (Value.int .i64 ((n : Int))), (Value.int .i64 T)]) := (O1.old _ (by omega)).trans (by simp)
      have r1 : rdN h4 h.length 0 3 = some [(Value.int .i64 V), (Value.int .i64 ((n : Int))), (Value.int .i64 T)] := by rw [rdN_own b1 (by simp)]; rfl
      have SD4 : Sl h4 1 encU dv D := SD.heap fun hl => by rw [O1.old _ (by omega), List.getElem?_append_left hl]
      obtain ⟨v, h5, e2, S2, O2⟩ := cells15_e (md := ⟨0, h.length⟩) hR SD4 (by omega) (Nat.zero_le _)
      have A2 : Ar h5 a b (bL V n T D) c := A1.same (O2.old _ la1) (O2.old _ lb1)
      have r2 : rd h5 a 0 = some ((Value.slice (some ⟨b, 0, none⟩) ((bL V n T D).length) 1)) := by rw [rd_own A2.ha]; rfl
      have c2 := Cn_le hR
      have el : ((bL V n T D).length : Int) = Cn V n T := by rw [bL_len hR]; omega
      have lenV := fun {α : Type} (k : Value → Option α) => S2.sl.len k
      have ew : (((wL V n T D (Cn V n T).toNat).length : Nat) : Int) = Cn V n T := by rw [wL_len]; omega
      rw [ew] at lenV
      have alen : ∀ (m : Md), C m 26 [(Value.pointer (some ⟨a, 0, none⟩))] h5 = some ((Value.int .i64 (Cn V n T)), h5) := by
        intro m
        rw [C, call_eq, F26_eq]
        unfold F26
        simp only [go_sem, Nat.reduceAdd, Nat.reduceLeDiff, Nat.reduceMul, Int.reduceBEq, Int.reduceBNe, Int.reduceLT, Int.reduceLE, Int.reduceGT, r2, el]
      have vlo := S2.own.imp id fun q => q.1
      obtain ⟨g, e3⟩ := births_eq (md := ⟨0, h.length⟩) (h := h) (n := n) (a := a) (b := b) (v := v) (s4 := (Value.bool false)) hR (Cn V n T).toNat 0 h5 c (by omega) A2 (Nat.zero_le _) S2 (vlo.elim .inr fun q => .inl ⟨by omega, by omega⟩)
      refine ⟨g, ?_⟩
      have neq : (Cn V n T != Cn V n T) = false := by simp
      simp only [Int.natCast_zero] at e3
      simp only [go_sem, Nat.reduceAdd, Nat.reduceLeDiff, Nat.reduceMul, Int.reduceBEq, Int.reduceBNe, Int.reduceLT, Int.reduceLE, Int.reduceGT, e1, r1, refof15, refright15, dR, len, hD2, e2, aBin_eqlP uAr, alen, lenV, aBin_neq, neq]
      exact e3
  · have dR : decide (Rt V S T) = false := decide_eq_false hR
    have eb := birth_bad (S := S) hV hT hR dv
    exact ⟨(h ++ [Blk.own [(Value.int .i64 V), (Value.int .i64 S), (Value.int .i64 T)]] ++ [Blk.own [(Value.int .i64 V), (Value.int .i64 S), (Value.int .i64 T)]]).take h.length, by simp only [go_sem, Nat.reduceAdd, Nat.reduceLeDiff, Nat.reduceMul, Int.reduceBEq, Int.reduceBNe, Int.reduceLT, Int.reduceLE, Int.reduceGT, eb, refof15, refright15, dR, aBin_eqlN uAr, awake15]⟩
end Go.Det.E

/- Draws change the nodes' priorities alone; as many more of the same ones, behind them, change nothing. -/
namespace Go.Det.E
open Go.Proofs Go.Det
attribute [local congr] bind_c cond_c
variable {md : Md} {h hh g : Heap} {a b n : Nat} {l c D : List Int} {V T x i : Int} {dv nv : Value}
theorem prD_twice (D : List Int) (hD : 0 < D.length) : prD (D ++ D) = prD D := by
  funext x
  unfold prD
  have e1 : ((D ++ D).length : Int) = 2 * D.length := by simp; omega
  rw [e1]
  have p : (0 : Int) < D.length := by omega
  have m0 : 0 ≤ x % (2 * (D.length : Int)) := Int.emod_nonneg _ (by omega)
  have m1 : x % (2 * (D.length : Int)) < 2 * (D.length : Int) := Int.emod_lt_of_pos _ (by omega)
  have m2 : x % (2 * (D.length : Int)) % (D.length : Int) = x % (D.length : Int) := Int.emod_emod_of_dvd _ ⟨2, by omega⟩
  have n0 : 0 ≤ x % (D.length : Int) := Int.emod_nonneg _ (by omega)
  rw [List.getD_eq_getElem?_getD, List.getD_eq_getElem?_getD]
  by_cases h : x % (2 * (D.length : Int)) < D.length
  · rw [Int.emod_eq_of_lt m0 h] at m2
    rw [List.getElem?_append_left (by omega), m2]
  · have : x % (2 * (D.length : Int)) - D.length = x % (D.length : Int) := by
      rw [← m2]
      generalize x % (2 * (D.length : Int)) = y at m0 m1 h ⊢
      have e : (y - D.length + D.length) % (D.length : Int) = (y - D.length) % (D.length : Int) := Int.add_emod_right _ _
      rw [Int.sub_add_cancel, Int.emod_eq_of_lt (a := y - D.length) (by omega) (by omega)] at e
      exact e.symm
    rw [List.getElem?_append_right (by omega)]
    congr 2
    omega
theorem bL_twice (D : List Int) (hD : 0 < D.length) : bL V n T (D ++ D) = bL V n T D := by
  unfold bL
  rw [prD_twice D hD]
theorem ext_getI {l l' : List Int} (hl : l.length = l'.length) (h : ∀ i : Int, 0 ≤ i → i < l.length → getI l i = getI l' i) : l = l' := by
  refine List.ext_getElem hl fun k h1 h2 => ?_
  have := h k (by omega) (by omega)
  unfold getI at this
  rw [if_pos ⟨by omega, by omega⟩, if_pos ⟨by omega, by omega⟩, List.getD_eq_getElem?_getD, List.getD_eq_getElem?_getD, Int.toNat_natCast, List.getElem?_eq_getElem h1, List.getElem?_eq_getElem h2] at this
  exact this
/-- Memory whose nodes have no priorities any more. -/
def zpL (V S T : Int) (l : List Int) : Nat → List Int
  | 0 => l
  | k + 1 => putI (zpL V S T l k) (Nd V S T + (k : Int) * 7 + 5) 0
theorem zpL_len {S : Int} : ∀ k, (zpL V S T l k).length = l.length := by
  intro k
  induction k with
  | zero => rfl
  | succ k ih => rw [zpL, putI_len, ih]
theorem zp_get {S : Int} (hR : Rt V S T) (hl : (l.length : Int) = Cn V S T) : ∀ k : Nat, (k : Int) ≤ Nn V S → ∀ i, getI (zpL V S T l k) i = if Nd V S T ≤ i ∧ i < Nd V S T + (k : Int) * 7 ∧ (i - Nd V S T) % 7 = 5 then 0 else getI l i := by
  have cn : Cn V S T = Nd V S T + Nn V S * 7 := rfl
  have nd := order hR
  intro k
  induction k with
  | zero => intro _ i; rw [if_neg (by omega)]; rfl
  | succ k ih =>
    intro hk i
    rw [zpL, getI_put, zpL_len, ih (by omega)]
    by_cases h : Nd V S T + (k : Int) * 7 + 5 = i
    · have h1 : Nd V S T + (k : Int) * 7 + 5 = i ∧ 0 ≤ Nd V S T + (k : Int) * 7 + 5 ∧ Nd V S T + (k : Int) * 7 + 5 < l.length := ⟨h, by omega, by omega⟩
      have h2 : Nd V S T ≤ i ∧ i < Nd V S T + ((k + 1 : Nat) : Int) * 7 ∧ (i - Nd V S T) % 7 = 5 := ⟨by omega, by omega, by omega⟩
      rw [if_pos h1, if_pos h2]
    · have h1 : ¬ (Nd V S T + (k : Int) * 7 + 5 = i ∧ 0 ≤ Nd V S T + (k : Int) * 7 + 5 ∧ Nd V S T + (k : Int) * 7 + 5 < l.length) := fun q => h q.1
      rw [if_neg h1]
      by_cases h2 : Nd V S T ≤ i ∧ i < Nd V S T + (k : Int) * 7 ∧ (i - Nd V S T) % 7 = 5
      · have h3 : Nd V S T ≤ i ∧ i < Nd V S T + ((k + 1 : Nat) : Int) * 7 ∧ (i - Nd V S T) % 7 = 5 := ⟨h2.1, by omega, h2.2.2⟩
        rw [if_pos h2, if_pos h3]
      · have h3 : ¬ (Nd V S T ≤ i ∧ i < Nd V S T + ((k + 1 : Nat) : Int) * 7 ∧ (i - Nd V S T) % 7 = 5) := by omega
        rw [if_neg h2, if_neg h3]
theorem zp_all (hR : Rt V n T) (D : List Int) : zpL V n T (bL V n T D) (Nn V n).toNat = bL V n T [] := by
  have cn : Cn V n T = Nd V n T + Nn V n * 7 := rfl
  have nd := order hR
  have c2 := Cn_le hR
  have hl : ((bL V n T D).length : Int) = Cn V n T := by rw [bL_len hR]; omega
  refine ext_getI (by rw [zpL_len, bL_len hR, bL_len hR]) fun i h0 h1 => ?_
  rw [zpL_len] at h1
  rw [zp_get hR hl _ (by omega), bL_get hR D h0 (by omega), bL_get hR [] h0 (by omega)]
  have p0 : ∀ x, prD [] x = 0 := fun x => rfl
  by_cases h2 : Nd V n T ≤ i
  · rw [if_pos h2, if_pos h2, p0]
    by_cases h3 : (i - Nd V n T) % 7 = 5
    · have h4 : Nd V n T ≤ i ∧ i < Nd V n T + ((Nn V n).toNat : Int) * 7 ∧ (i - Nd V n T) % 7 = 5 := ⟨h2, by omega, h3⟩
      rw [if_pos h4, h3]; rfl
    · have h4 : ¬ (Nd V n T ≤ i ∧ i < Nd V n T + ((Nn V n).toNat : Int) * 7 ∧ (i - Nd V n T) % 7 = 5) := fun q => h3 q.2.2
      rw [if_neg h4]
      unfold fv
      rw [if_neg h3, if_neg h3]
  · have h4 : ¬ (Nd V n T ≤ i ∧ i < Nd V n T + ((Nn V n).toNat : Int) * 7 ∧ (i - Nd V n T) % 7 = 5) := fun q => h2 q.1
    rw [if_neg h4, if_neg h2, if_neg h2]
theorem draws_loop {S : Int} {q b2 : Nat} {a2 : Nat} {l2 c2 : List Int} (hR : Rt V S T) (hro : md.ro ≤ a) (hrb : md.ro ≤ b) (hq : g[q]? = some (.own [(Value.int .i64 V), (Value.int .i64 S), (Value.int .i64 T)])) (qa : q ≠ a ∧ q ≠ b) (A2 : Ar g a2 b2 l2 c2) (d : a2 ≠ a ∧ a2 ≠ b ∧ b2 ≠ a ∧ b2 ≠ b) (h0 : Heap) (s4 : Value)
    (hll : (zpL V S T l (Nn V S).toNat).length < 4611686018427387904) (heq : zpL V S T l (Nn V S).toNat = l2) : ∀ (m k : Nat) (hh : Heap) (c : List Int), k + m = (Nn V S).toNat → Ar hh a b (zpL V S T l k) c → OG a b g hh →
    ∃ gf, J9_0 C md h0 ((Value.pointer (some ⟨q, 0, none⟩))) s4 ((Value.pointer (some ⟨a, 0, none⟩))) ((Value.pointer (some ⟨a2, 0, none⟩))) ((Value.int .i64 ((k : Int) + 1))) hh = some ((Value.bool true), gf) := by
  have cc := Cn_le hR
  intro m
  induction m with
  | zero =>
    intro k hh c hk A O
    obtain rfl : k = (Nn V S).toNat := by omega
    have bq : hh[q]? = some (.own [(Value.int .i64 V), (Value.int .i64 S), (Value.int .i64 T)]) := (O.oth q (lt_of hq) qa.1 qa.2).trans hq
    have rq : rdN hh q 0 3 = some [(Value.int .i64 V), (Value.int .i64 S), (Value.int .i64 T)] := by rw [rdN_own bq (by simp)]; rfl
    have nl : ¬ ((Nn V S).toNat : Int) + 1 ≤ Nn V S := by omega
    have A3 : Ar hh a2 b2 l2 c2 := A2.same (O.oth _ (lt_of A2.ha) d.1 d.2.1) (O.oth _ (lt_of A2.hb) d.2.2.1 d.2.2.2)
    have e := fun (m : Md) => equal_s (md := m) A A3 hll
    have dt : decide (zpL V S T l (Nn V S).toNat = l2) = true := decide_eq_true heq
    simp only [dt] at e
    refine ⟨hh.take h0.length, ?_⟩
    rw [J9_0_step]
    unfold Jr9_0
    simp only [go_sem, Nat.reduceAdd, Nat.reduceLeDiff, Nat.reduceMul, Int.reduceBEq, Int.reduceBNe, Int.reduceLT, Int.reduceLE, Int.reduceGT, rq, nodes_s _ _ hR, aBin_leq, nl, Jk9_0, J9_1, e, awake15]
  | succ m ih =>
    intro k hh c hk A O
    have bq : hh[q]? = some (.own [(Value.int .i64 V), (Value.int .i64 S), (Value.int .i64 T)]) := (O.oth q (lt_of hq) qa.1 qa.2).trans hq
    have rq : rdN hh q 0 3 = some [(Value.int .i64 V), (Value.int .i64 S), (Value.int .i64 T)] := by rw [rdN_own bq (by simp)]; rfl
    have hle : (k : Int) + 1 ≤ Nn V S := by omega
    have fx : Fx V S T ((k : Int) + 1) 5 = Nd V S T + (k : Int) * 7 + 5 := by
      rw [((fx_in (a := (k : Int) + 1) (b := 5) hR).1 (by rw [Bl_t.2 (by omega), Bl_t.2 (by omega)]; rfl)).1]; omega
    have fs := fun (m : Md) (h : Heap) => field_s m h (b := 5) hR (a := (k : Int) + 1) ⟨by omega, by omega⟩
    rw [fx] at fs
    obtain ⟨k1, e1, A1, o1⟩ := st_x (md := md) A hro hrb (Nd V S T + (k : Int) * 7 + 5) 0
    have wk : IntKind.wrap .i64 ((k : Int) + 1 + 1) = ((k + 1 : Nat) : Int) + 1 := by rw [wi (by omega) (by omega)]; omega
    obtain ⟨gf, e2⟩ := ih (k + 1) k1 _ (by omega) A1 (O.only o1)
    refine ⟨gf, ?_⟩
    rw [J9_0_step]
    unfold Jr9_0
    simp only [go_sem, Nat.reduceAdd, Nat.reduceLeDiff, Nat.reduceMul, Int.reduceBEq, Int.reduceBNe, Int.reduceLT, Int.reduceLE, Int.reduceGT, rq, nodes_s _ _ hR, aBin_leq, hle, fs, e1, aBin_add, wk]
    exact e2
theorem draws_law : Law Try.prog cfg 9 [49, 50] := by
  intro h avs ha
  obtain ⟨x, r, rfl, a0, ha⟩ := args_cons ha
  obtain ⟨dv, r, rfl, a1, ha⟩ := args_cons ha
  obtain rfl := args_nil ha
  obtain ⟨V, S, T, rfl, hV, hS, hT⟩ := arg_lay a0
  obtain ⟨D, SD, wD, hm⟩ := arg_draws a1
  have len := fun {α : Type} (k : Value → Option α) => SD.len k
  rw [call_eq, F9_eq]
  unfold F9
  by_cases hR : Rt V S T
  · have dR : decide (Rt V S T) = true := decide_eq_true hR
    by_cases hD1 : (D.length : Int) < 1
    · exact ⟨(h ++ [Blk.own [(Value.int .i64 V), (Value.int .i64 S), (Value.int .i64 T)]]).take h.length, by simp only [go_sem, Nat.reduceAdd, Nat.reduceLeDiff, Nat.reduceMul, Int.reduceBEq, Int.reduceBNe, Int.reduceLT, Int.reduceLE, Int.reduceGT, refof15, refright15, dR, len, aBin_lss, hD1, awake15]⟩
    by_cases hD2 : (128 : Int) < D.length
    · exact ⟨(h ++ [Blk.own [(Value.int .i64 V), (Value.int .i64 S), (Value.int .i64 T)]]).take h.length, by simp only [go_sem, Nat.reduceAdd, Nat.reduceLeDiff, Nat.reduceMul, Int.reduceBEq, Int.reduceBNe, Int.reduceLT, Int.reduceLE, Int.reduceGT, refof15, refright15, dR, len, aBin_lss, hD1, aBin_gtr, hD2, awake15]⟩
    obtain ⟨n, rfl⟩ : ∃ n : Nat, S = n := ⟨S.toNat, by have := hR.2.1; omega⟩
    have c2 := Cn_le hR
    have SD1 : Sl (h ++ [Blk.own [(Value.int .i64 V), (Value.int .i64 ((n : Int))), (Value.int .i64 T)]]) 1 encU dv D := SD.app
    -- the first one
    obtain ⟨h1, a, b, c, e1, A1, O1, la, lb, w1⟩ := birth_e (md := ⟨0, h.length⟩) hR wD (by omega) SD1 (Nat.zero_le _) (by simp)
    simp only [List.length_append, List.length_cons, List.length_nil] at la lb O1
    have l1 := O1.len
    simp only [List.length_append, List.length_cons, List.length_nil] at l1
    have la1 := lt_of A1.ha
    have lb1 := lt_of A1.hb
    have b1 : h1[h.length]? = some (.own [(Value.int .i64 V), (Value.int .i64 ((n : Int))), (Value.int .i64 T)]) := (O1.old _ (by omega)).trans (by simp)
    have r1 : rdN h1 h.length 0 3 = some [(Value.int .i64 V), (Value.int .i64 ((n : Int))), (Value.int .i64 T)] := by rw [rdN_own b1 (by simp)]; rfl
    -- the one without draws
    obtain ⟨h2, a2, b2, c2', e2, A2, O2, la2, lb2, w2⟩ := birth_e (md := ⟨0, h.length⟩) (h := h1) hR (D := []) (fun _ h => by simp at h) (by simp) (Sl.nil _ encU_len) (Nat.zero_le _) (by show h.length ≤ h1.length; omega)
    have l2 := O2.len
    have la2' := lt_of A2.ha
    have lb2' := lt_of A2.hb
    have b2q := (O2.old h.length (by omega)).trans b1
    have r2 : rdN h2 h.length 0 3 = some [(Value.int .i64 V), (Value.int .i64 ((n : Int))), (Value.int .i64 T)] := by rw [rdN_own b2q (by simp)]; rfl
    -- twice the draws
    have old2 : ∀ y, y < h.length → h2[y]? = h[y]? := fun y hy => by rw [O2.old y (by omega), O1.old y (by omega), List.getElem?_append_left hy]
    have SD2 : Sl h2 1 encU dv D := SD.heap fun hl => old2 _ hl
    have hcell : ∀ x, (encU x).all isCell = true := fun _ => rfl
    have he0 : (h2 ++ [Blk.own []])[h2.length]? = some (.own []) := by simp
    have S0 : SlO (h2 ++ [Blk.own []]) h2.length 1 encU ((Value.slice (some ⟨h2.length, 0, none⟩) 0 1)) ([] : List Int) := ⟨Sl.whole encU_len he0 (by simp [Blk.cells, flat]) (by simp), .inr ⟨Nat.le_refl _, _, he0⟩⟩
    obtain ⟨v3, h3, e3, S3, O3⟩ := append_sl (md := ⟨0, h.length⟩) (n0 := h2.length) tU S0 SD2.app (Nat.zero_le _) (by simp) hcell (by simp; omega)
    simp only [List.nil_append] at S3
    have l3 := O3.len
    simp only [List.length_append, List.length_cons, List.length_nil] at l3
    have old3 : ∀ y, y < h2.length → h3[y]? = h2[y]? := fun y hy => by rw [O3.old y hy, List.getElem?_append_left hy]
    obtain ⟨v4, h4, e4, S4, O4⟩ := append_sl (md := ⟨0, h.length⟩) (n0 := h2.length) tU S3 (SD2.heap fun hl => old3 _ hl) (Nat.zero_le _) (by omega) hcell (by omega)
    have l4 := O4.len
    have old4 : ∀ y, y < h2.length → h4[y]? = h2[y]? := fun y hy => by rw [O4.old y hy, old3 y hy]
    have rq : ∀ {k : Heap}, (∀ y, y < h2.length → k[y]? = h2[y]?) → rdN k h.length 0 3 = some [(Value.int .i64 V), (Value.int .i64 ((n : Int))), (Value.int .i64 T)] := fun hk => by rw [rdN_own ((hk _ (by omega)).trans b2q) (by simp)]; rfl
    have r3 := rq old3
    have r4 := rq old4
    have r5 := rq (k := h2 ++ [Blk.own []]) fun y hy => List.getElem?_append_left hy
    have wDD : Wd (D ++ D) := fun x hx => by rcases List.mem_append.1 hx with h | h <;> exact wD x h
    obtain ⟨h5, a5, b5, c5, e5, A5, O5, la5, lb5, w5⟩ := birth_e (md := ⟨0, h.length⟩) (h := h4) hR (D := D ++ D) wDD (by simp; omega) S4.sl (Nat.zero_le _) (by show h.length ≤ h4.length; omega)
    have l5 := O5.len
    rw [bL_twice D (by omega)] at A5
    have old5 : ∀ y, y < h2.length → h5[y]? = h2[y]? := fun y hy => by rw [O5.old y (by omega), old4 y hy]
    have A1' : Ar h5 a b (bL V n T D) c := A1.same ((old5 _ (by omega)).trans (O2.old _ la1)) ((old5 _ (by omega)).trans (O2.old _ lb1))
    have A2'' : Ar h5 a2 b2 (bL V n T []) c2' := A2.same (old5 _ la2') (old5 _ lb2')
    have hlen : (bL V n T D).length < 4611686018427387904 := by rw [bL_len hR]; omega
    have eq := fun (m : Md) => equal_s (md := m) A1' A5 hlen
    have dt : decide (bL V n T D = bL V n T D) = true := by simp
    simp only [dt] at eq
    have b5q := (old5 h.length (by omega)).trans b2q
    obtain ⟨g, e6⟩ := draws_loop (md := ⟨0, h.length⟩) (g := h5) (q := h.length) hR (Nat.zero_le _) (Nat.zero_le _) b5q ⟨by omega, by omega⟩ A2'' ⟨by omega, by omega, by omega, by omega⟩ h ((Value.bool false)) (by rw [zpL_len]; exact hlen) (zp_all hR D) (Nn V n).toNat 0 h5 c (by omega) A1' OG.refl
    refine ⟨g, ?_⟩
    simp only [Int.natCast_zero, Int.zero_add] at e6
    simp only [go_sem, Nat.reduceAdd, Nat.reduceLeDiff, Nat.reduceMul, Int.reduceBEq, Int.reduceBNe, Int.reduceLT, Int.reduceLE, Int.reduceGT, refof15, refright15, dR, len, aBin_lss, hD1, aBin_gtr, hD2, e1, r1, e2, r2, r5, cLE_t, e3, r3, e4, r4, e5, aBin_neq, aBin_eqlP uAr, eq, aUn_not]
    exact e6
  · have dR : decide (Rt V S T) = false := decide_eq_false hR
    exact ⟨(h ++ [Blk.own [(Value.int .i64 V), (Value.int .i64 S), (Value.int .i64 T)]]).take h.length, by simp only [go_sem, Nat.reduceAdd, Nat.reduceLeDiff, Nat.reduceMul, Int.reduceBEq, Int.reduceBNe, Int.reduceLT, Int.reduceLE, Int.reduceGT, refof15, refright15, dR, awake15]⟩
end Go.Det.E
