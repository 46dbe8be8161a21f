/- At every moment the free slots are there, each once, and nobody has one of them. -/
import Derived.Test.YtfckdafeeoibhaaS12
import Derived.Test.YtfckdafeeoibhaaS13
set_option autoImplicit false
set_option linter.unusedVariables false
set_option linter.unusedSimpArgs false
namespace Go.Det.E
open Go.Proofs Go.Det
attribute [local congr] bind_c cond_c
/-- A map that has the numbers of a list. -/
def Sn (es : List (Int × Value)) (xs : List Int) : Prop := ∀ x, mGet es x = if x ∈ xs then some ((Value.bool true)) else none
theorem Sn.nil : Sn [] [] := fun x => by simp [mGet]
theorem Sn.put {es : List (Int × Value)} {xs : List Int} (S : Sn es xs) (x : Int) : Sn (mPut es x ((Value.bool true))) (xs ++ [x]) := by
  intro y
  rw [mGet_put, S y]
  by_cases h : y = x
  · subst h; simp
  · simp [h]
theorem tMap : mapTy Try.prog 56 = some (.i64, 4) := by kernel_rfl
theorem zBool : zeroV Try.prog 4 = some ((Value.bool false)) := by kernel_rfl
theorem Sn.get {es : List (Int × Value)} {xs : List Int} {h : Heap} {b : Nat} (S : Sn es xs) (hb : h[b]? = some (.mp .i64 es)) (x : Int) {α : Type} (kk : Value → Option α) :
    aLookup Try.prog 56 (.map (some b)) ((Value.int .i64 x)) false h kk = kk ((Value.bool (decide (x ∈ xs)))) := by
  rw [aLookup_p tMap zBool hb, S x]
  by_cases h : x ∈ xs <;> simp [h]
theorem Sn.set {es : List (Int × Value)} {h : Heap} {b : Nat} {md : Md} (hb : h[b]? = some (.mp .i64 es)) (hro : md.ro ≤ b) (x : Int) {α : Type} (kk : Heap → Option α) :
    aMapPut Try.prog md 56 (.map (some b)) ((Value.int .i64 x)) ((Value.bool true)) h kk = kk (h.set b (.mp .i64 (mPut es x ((Value.bool true))))) := aMapPut_p tMap hb rfl hro
variable {md : Md} {h hh h' : Heap} {a b p n : Nat} {l c picks free : List Int} {B : Int} {av v : Value} {ws : List Wk} {W : Nat}
theorem SI.mono {B' : Int} (I : SI n B l ws free) (h : B ≤ B') : SI n B' l ws free := ⟨I.F, I.cnt, by have := I.tag; omega, I.hds⟩
theorem rows_put {fv s1 s6 s7 s8 s65 s66 s67 : Value} {mb n0 : Nat} (hnd : ∀ x : Int, free.count x ≤ 1) (hin : ∀ x ∈ free, 0 ≤ x ∧ x < (n : Int)) (hf : free.length < 1000) (hm : fv = .slice none 0 0 ∨ slB fv ≠ mb) (hro : md.ro ≤ mb) : ∀ (rest pre : List Int) (hh : Heap) (es : List (Int × Value)),
    pre ++ rest = free → SlO hh n0 1 encI fv free → hh[mb]? = some (.mp .i64 es) → Sn es pre →
    ∃ h' es', J6_2b0 C md ((Value.int .i64 ((n : Int)))) s1 s6 s7 s8 (.map (some mb)) s65 s66 s67 fv ((Value.int .i64 ((free.length : Int)))) ((Value.int .i64 ((pre.length : Int)))) hh =
      J6_2b1 C md ((Value.int .i64 ((n : Int)))) s1 s6 s7 s8 (.map (some mb)) s65 s66 s67 h' ∧ h'[mb]? = some (.mp .i64 es') ∧ Sn es' free ∧ h'.length = hh.length ∧ ∀ y, y ≠ mb → h'[y]? = hh[y]? := by
  intro rest
  induction rest with
  | nil =>
    intro pre hh es e S hb Q
    rw [List.append_nil] at e
    subst e
    refine ⟨hh, es, ?_, hb, Q, rfl, fun _ _ => rfl⟩
    rw [J6_2b0_step]
    unfold Jr6_2b0
    simp only [go_sem, Nat.reduceAdd, Nat.reduceLeDiff, Nat.reduceMul, Int.reduceBEq, Int.reduceBNe, Int.reduceLT, Int.reduceLE, Int.reduceGT, aBin_lss, Int.lt_irrefl, Jk6_2b0]
  | cons x rest ih =>
    intro pre hh es e S hb Q
    have hx : free[pre.length]? = some x := by rw [← e]; simp
    have hlt : (pre.length : Int) < (free.length : Int) := by have := (List.getElem?_eq_some_iff.1 hx).1; omega
    obtain ⟨ix, el⟩ := Sl.readn S.sl hx
    obtain ⟨x0, x1⟩ := hin x (by rw [← e]; simp)
    have nx : x ∉ pre := by
      intro q
      have := hnd x
      have := List.count_pos_iff.2 q
      rw [← e, List.count_append, List.count_cons_self] at *
      omega
    have w : IntKind.wrap .i64 ((pre.length : Int) + 1) = ((pre.length + 1 : Nat) : Int) := by rw [wi (by omega) (by omega)]; rfl
    have g := fun {α : Type} (kk : Value → Option α) => Q.get hb x kk
    have s := fun {α : Type} (kk : Heap → Option α) => Sn.set (md := md) hb hro x kk
    have ltm := lt_of hb
    obtain ⟨h', es', e', q1, q2, q3, q4⟩ := ih (pre ++ [x]) (hh.set mb (.mp .i64 (mPut es x ((Value.bool true))))) _ (by rw [← e]; simp) (S.keep (hm.imp id fun q => set_else (Ne.symm q))) (set_here hb) (Q.put x)
    refine ⟨h', es', ?_, q1, q2, by rw [q3]; simp, fun y hy => by rw [q4 y hy, set_else (Ne.symm hy)]⟩
    rw [J6_2b0_step]
    unfold Jr6_2b0
    have c1 : ¬ x < 0 := by omega
    have c2 : ¬ (n : Int) ≤ x := by omega
    simp only [go_sem, Nat.reduceAdd, Nat.reduceLeDiff, Nat.reduceMul, Int.reduceBEq, Int.reduceBNe, Int.reduceLT, Int.reduceLE, Int.reduceGT, aBin_lss, hlt, ix, el, c1, aBin_geq, c2, g, nx, s, aBin_add, w]
    simpa using e'
theorem rows_has {s0 s1 s6 s7 s8 s65 s66 s67 av hv : Value} {mb L1 i : Nat} {es : List (Int × Value)} {has : List Int} (hb : hh[mb]? = some (.mp .i64 es)) (Q : Sn es free) (S : Sl hh 1 encI hv has) (hno : ∀ x ∈ has, x ∉ free) (hlen : has.length < 1000) (hi : i < 1000) : ∀ (m k : Nat), k + m = has.length →
    J6_2b2b0 C md s0 s1 s6 s7 s8 (.map (some mb)) s65 s66 s67 av ((Value.int .i64 ((L1 : Int)))) ((Value.int .i64 ((i : Int)))) hv ((Value.int .i64 ((has.length : Int)))) ((Value.int .i64 ((k : Int)))) hh =
      some (.inl ((s0, s1, s6, s7, s8, .map (some mb), s65, s66, s67, av, (Value.int .i64 ((L1 : Int))), (Value.int .i64 (((i + 1 : Nat) : Int)))), hh)) := by
  intro m
  have wi1 : IntKind.wrap .i64 ((i : Int) + 1) = ((i + 1 : Nat) : Int) := by rw [wi (by omega) (by omega)]; rfl
  induction m with
  | zero =>
    intro k hk
    obtain rfl : k = has.length := by omega
    rw [J6_2b2b0_step]
    unfold Jr6_2b2b0
    simp only [go_sem, Nat.reduceAdd, Nat.reduceLeDiff, Nat.reduceMul, Int.reduceBEq, Int.reduceBNe, Int.reduceLT, Int.reduceLE, Int.reduceGT, aBin_lss, Int.lt_irrefl, Jk6_2b2b0, aBin_add, wi1]
  | succ m ih =>
    intro k hk
    obtain ⟨x, hx⟩ : ∃ x, has[k]? = some x := ⟨has[k]'(by omega), List.getElem?_eq_getElem (by omega)⟩
    have hlt : (k : Int) < (has.length : Int) := by omega
    obtain ⟨ix, el⟩ := Sl.readn S hx
    have w : IntKind.wrap .i64 ((k : Int) + 1) = ((k + 1 : Nat) : Int) := by rw [wi (by omega) (by omega)]; rfl
    have nx := hno x (List.mem_of_getElem? hx)
    have g := fun {α : Type} (kk : Value → Option α) => Q.get hb x kk
    rw [J6_2b2b0_step]
    unfold Jr6_2b2b0
    simp only [go_sem, Nat.reduceAdd, Nat.reduceLeDiff, Nat.reduceMul, Int.reduceBEq, Int.reduceBNe, Int.reduceLT, Int.reduceLE, Int.reduceGT, aBin_lss, hlt, ix, el, g, nx, aBin_add, w]
    exact ih (k + 1) (by omega)
theorem wk_has {n0 : Nat} {w : Wk} (P : WkOk hh n0 n a b p w) : rd hh w.wb 2 = some w.hv := by
  rw [rd_own P.W]
  unfold wkC
  cases w.st <;> rfl
theorem has_not (I : SI n B l ws free) {i : Nat} {w : Wk} (hw : ws[i]? = some w) : ∀ x ∈ w.has, x ∉ free := by
  intro x hx hf
  have := I.one x
  have := List.count_pos_iff.2 hf
  have : 0 < (ws.flatMap own).count x := List.count_pos_iff.2 (List.mem_flatMap.2 ⟨w, List.mem_of_getElem? hw, List.mem_append.2 (.inl hx)⟩)
  omega
theorem has_len (I : SI n B l ws free) {i : Nat} {w : Wk} (hw : ws[i]? = some w) : w.has.length ≤ n := by
  have h1 := I.perm.length_eq
  obtain ⟨pre, post, e, _⟩ := split_at hw
  rw [e] at h1
  simp only [List.length_append, List.flatMap_append, List.flatMap_cons, own, List.length_map, List.length_range] at h1
  omega
theorem rows_all {s0 s1 s6 s7 s8 s65 s66 : Value} {mb K : Nat} {es : List (Int × Value)} (P : Pg h hh a b p n av ws l c B) (I : SI n B l ws free) (hn : n ≤ 48) (hW : ws.length ≤ 8) (hK : K < 1000) (hb : hh[mb]? = some (.mp .i64 es)) (Q : Sn es free) : ∀ (m k : Nat), k + m = ws.length →
    J6_2b2 C md s0 s1 s6 s7 s8 (.map (some mb)) s65 s66 ((Value.int .i64 ((K : Int)))) av ((Value.int .i64 ((ws.length : Int)))) ((Value.int .i64 ((k : Int)))) hh = some (.inl ((s0, s1, s6, s7, s8, s65, s66, (Value.int .i64 (((K + 1 : Nat) : Int)))), hh)) := by
  have wK : IntKind.wrap .i64 ((K : Int) + 1) = ((K + 1 : Nat) : Int) := by rw [wi (by omega) (by omega)]; rfl
  intro m
  induction m with
  | zero =>
    intro k hk
    obtain rfl : k = ws.length := by omega
    rw [J6_2b2_step]
    unfold Jr6_2b2
    simp only [go_sem, Nat.reduceAdd, Nat.reduceLeDiff, Nat.reduceMul, Int.reduceBEq, Int.reduceBNe, Int.reduceLT, Int.reduceLE, Int.reduceGT, aBin_lss, Int.lt_irrefl, Jk6_2b2, aBin_add, wK]
  | succ m ih =>
    intro k hk
    obtain ⟨w, hw⟩ : ∃ w, ws[k]? = some w := ⟨ws[k]'(by omega), List.getElem?_eq_getElem (by omega)⟩
    have hlt : (k : Int) < (ws.length : Int) := by omega
    obtain ⟨ip, rp⟩ := Sl.pread P.AL.sl (i := (k : Int)) (x := w.wb) (by omega) (by rw [Int.toNat_natCast, List.getElem?_map, hw]; rfl)
    rw [Int.toNat_natCast] at rp
    simp only [Int.toNat_natCast] at ip
    have rh := wk_has (P.oks k w hw)
    have SH := (P.oks k w hw).H.sl
    have len := fun {α : Type} (kk : Value → Option α) => SH.len kk
    have e2 := rows_has (md := md) (s0 := s0) (s1 := s1) (s6 := s6) (s7 := s7) (s8 := s8) (s65 := s65) (s66 := s66) (s67 := (Value.int .i64 ((K : Int)))) (av := av) (L1 := ws.length) (i := k) hb Q SH (has_not I hw) (by have := has_len I hw; omega) (by omega) w.has.length 0 (by omega)
    rw [J6_2b2_step]
    unfold Jr6_2b2
    simp only [Int.natCast_zero] at e2
    simp only [go_sem, Nat.reduceAdd, Nat.reduceLeDiff, Nat.reduceMul, Int.reduceBEq, Int.reduceBNe, Int.reduceLT, Int.reduceLE, Int.reduceGT, aBin_lss, hlt, ip, rp, rh, len]
    rw [e2]
    exact ih (k + 1) (by omega)
end Go.Det.E
