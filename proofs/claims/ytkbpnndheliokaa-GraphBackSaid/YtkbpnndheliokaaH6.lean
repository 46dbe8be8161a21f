/- A graph of any vertices answers any calls, wrong ones too, as a set of edges does. -/
import Derived.Test.YtkbpnndheliokaaH5
set_option autoImplicit false
set_option linter.unusedVariables false
set_option linter.unusedSimpArgs false
namespace Go.Det.E
open Go.Proofs Go.Det
attribute [local congr] bind_c cond_c
abbrev eC (x : Int × Int × Int) : List Value := [(Value.int .i64 x.1), (Value.int .i64 x.2.1), (Value.int .i64 x.2.2)]
theorem eC_len (x : Int × Int × Int) : (eC x).length = 3 := rfl
theorem calls_of {h : Heap} {ess : List (List Value)} (a : TyE h [.i .i64, .i .i64, .i .i64] ess) : ∃ ops : List (Int × Int × Int), ess = ops.map eC := by
  induction ess with
  | nil => exact ⟨[], rfl⟩
  | cons es ess ih =>
    cases a with
    | cons _ _ _ b h2 =>
      obtain ⟨v1, r, rfl, a1, b⟩ := l_cons b
      obtain ⟨v2, r, rfl, a2, b⟩ := l_cons b
      obtain ⟨v3, r, rfl, a3, b⟩ := l_cons b
      obtain rfl := l_nil b
      obtain ⟨x1, rfl, _⟩ := inI64 a1
      obtain ⟨x2, rfl, _⟩ := inI64 a2
      obtain ⟨x3, rfl, _⟩ := inI64 a3
      obtain ⟨ops, e⟩ := ih h2
      exact ⟨(x1, x2, x3) :: ops, by rw [e]; rfl⟩
theorem arg_calls {h : Heap} {v : Value} (a : TyArg Try.prog h 22 v) : ∃ ops : List (Int × Int × Int), Sl h 3 eC v ops := by
  have a' : TyS h (.sl [.i .i64, .i .i64, .i .i64]) v := arg1 (by kernel_rfl) (by kernel_rfl) a
  rcases inSl a' with rfl | ⟨b, ess, rfl, hb, _, he⟩
  · exact ⟨[], Sl.nil _ eC_len⟩
  · obtain ⟨ops, rfl⟩ := calls_of he
    exact ⟨ops, Sl.whole eC_len hb rfl (by simp)⟩
theorem Sl.getC {h : Heap} {v : Value} {xs : List (Int × Int × Int)} (S : Sl h 3 eC v xs) {k : Nat} {x : Int × Int × Int} (hx : xs[k]? = some x) :
    (∀ {α : Type} (kk : Value → Option α), ixS 3 v (k : Int) kk = kk ((Value.pointer (some ⟨slB v, slO v + k * 3, none⟩)))) ∧ rdN h (slB v) (slO v + k * 3) 3 = some (eC x) := by
  have h1 : k < xs.length := (List.getElem?_eq_some_iff.1 hx).1
  exact ⟨fun kk => by rw [S.ix (by omega) (by omega) kk, Int.toNat_natCast], S.elem hx⟩
theorem awake24 (md : Md) (h : Heap) : C md 10 [] h = some ((Value.bool true), h) := free_ok 100 100 (by kernel_rfl) (by kernel_rfl) md h
variable {md : Md} {h hh : Heap} {q n mb : Nat} {nb : List Nat} {es : List (MK × Value)} {lv : Value} {u v : Int}
theorem gnew_n (h : Heap) {x : Int} (hx : x < 1 ∨ 16 < x) : C md 11 [(Value.int .i64 x)] h = some ((Value.tuple #[.pointer none, (Value.int .i64 11)]), h) := by
  rw [C, call_eq, F11_eq]
  unfold F11
  by_cases h1 : x < 1
  · simp only [go_sem, Nat.reduceAdd, Nat.reduceLeDiff, Nat.reduceMul, Int.reduceBEq, Int.reduceBNe, Int.reduceLT, Int.reduceLE, Int.reduceGT, h1]
  · have h2 : x > 16 := by omega
    simp only [go_sem, Nat.reduceAdd, Nat.reduceLeDiff, Nat.reduceMul, Int.reduceBEq, Int.reduceBNe, Int.reduceLT, Int.reduceLE, Int.reduceGT, h1, aBin_gtr, h2]
theorem gnew_s (h : Heap) {n : Nat} (h1 : 1 ≤ n) (h16 : n ≤ 16) : C md 11 [(Value.int .i64 ((n : Int)))] h = some ((Value.tuple #[(Value.pointer (some ⟨h.length, 0, none⟩)), (Value.int .i64 0)]), h ++ [.own (grC n (List.replicate 16 0))]) := by
  rw [C, call_eq, F11_eq]
  unfold F11
  have c1 : ¬ (n : Int) < 1 := by omega
  have c2 : ¬ (n : Int) > 16 := by omega
  simp only [go_sem, Nat.reduceAdd, Nat.reduceLeDiff, Nat.reduceMul, Int.reduceBEq, Int.reduceBNe, Int.reduceLT, Int.reduceLE, Int.reduceGT, c1, aBin_gtr, c2]
  rfl
theorem rep_get (x : Nat) : (List.replicate 16 0).getD x 0 = 0 := by
  rw [List.getD_eq_getElem?_getD, List.getElem?_replicate]
  split <;> rfl
theorem gnew_g (h : Heap) {n : Nat} (h1 : 1 ≤ n) (h16 : n ≤ 16) : Gr (h ++ [.own (grC n (List.replicate 16 0))]) h.length n (List.replicate 16 0) :=
  ⟨by simp, h1, h16, by simp, fun v => by rw [rep_get]; exact Nat.two_pow_pos n⟩
theorem sy0 : Sy (List.replicate 16 0) := fun x y => by rw [rep_get, rep_get]; simp
theorem min24 {α : Type} {md : Md} {a b : Int} {h : Heap} (k : Value → Heap → Option α) : aBuiltin Try.prog md .min #[3, 3] [(Value.int .i64 a), (Value.int .i64 b)] h k = k ((Value.int .i64 (min a b))) h := by
  rw [← (mm a b).1]; rfl
theorem max24 {α : Type} {md : Md} {a b : Int} {h : Heap} (k : Value → Heap → Option α) : aBuiltin Try.prog md .max #[3, 3] [(Value.int .i64 a), (Value.int .i64 b)] h k = k ((Value.int .i64 (max a b))) h := by
  rw [← (mm a b).2]; rfl
theorem get_mm (S : SM n nb es) (Y : Sy nb) (hb : hh[mb]? = some (.mp (.two .i64) es)) (hu : inB n u = true) (hv : inB n v = true) {α : Type} (kk : Value → Option α) :
    aLookup Try.prog 29 (.map (some mb)) ((Value.agg #[(Value.int .i64 (min u v)), (Value.int .i64 (max u v))])) false hh kk = kk ((Value.bool (bt nb u v))) := by
  rw [S.get hb]
  have hu := inB_t.1 hu
  have hv := inB_t.1 hv
  congr 2
  by_cases e : u = v
  · subst e
    have : bt nb u u = false := (Y u.toNat u.toNat).2
    rw [this, Int.min_self, Int.max_self, this]; simp
  · have c : 0 ≤ min u v ∧ min u v < max u v ∧ max u v < (n : Int) := by omega
    rw [decide_eq_true c, Bool.true_and]
    by_cases q : u < v
    · rw [Int.min_eq_left (by omega), Int.max_eq_right (by omega)]
    · rw [Int.min_eq_right (by omega), Int.max_eq_left (by omega)]; exact (Y _ _).1
theorem plays_in (G : Gr hh q n nb) (S : SM n nb es) (Y : Sy nb) (hb : hh[mb]? = some (.mp (.two .i64) es)) (s4 : Value) (hu : -1 ≤ u ∧ u ≤ n) : ∀ (m : Nat) (v : Int), -1 ≤ v → v + m = n + 1 →
    J3_2b0 C md ((Value.int .i64 ((n : Int)))) s4 ((Value.pointer (some ⟨q, 0, none⟩))) (.map (some mb)) ((Value.int .i64 u)) ((Value.int .i64 v)) hh = some (.inl (((Value.int .i64 ((n : Int))), s4, (Value.pointer (some ⟨q, 0, none⟩)), .map (some mb), (Value.int .i64 (u + 1))), hh)) := by
  have n16 := G.n16
  have wu : IntKind.wrap .i64 (u + 1) = u + 1 := wi (by omega) (by omega)
  have uB : Try.prog.underlying 4 = some .bool := by kernel_rfl
  intro m
  induction m with
  | zero =>
    intro v h1 h2
    have nl : ¬ v ≤ (n : Int) := by omega
    rw [J3_2b0_step]
    unfold Jr3_2b0
    simp only [go_sem, Nat.reduceAdd, Nat.reduceLeDiff, Nat.reduceMul, Int.reduceBEq, Int.reduceBNe, Int.reduceLT, Int.reduceLE, Int.reduceGT, aBin_leq, nl, Jk3_2b0, aBin_add, wu]
  | succ m ih =>
    intro v h1 h2
    have hle : v ≤ (n : Int) := by omega
    have wv : IntKind.wrap .i64 (v + 1) = v + 1 := wi (by omega) (by omega)
    have eh := fun (m : Md) => has_g (md := m) G u v
    have ej := fun (m : Md) => joined_g (md := m) G u v
    have ih := ih (v + 1) (by omega) (by omega)
    have nf : ∀ b : Bool, (b != b) = false := by simp
    rw [J3_2b0_step]
    unfold Jr3_2b0
    by_cases u0 : u ≥ 0
    · by_cases v0 : v ≥ 0
      · by_cases u1 : u < (n : Int)
        · have hu : inB n u = true := inB_t.2 ⟨u0, u1⟩
          by_cases v1 : v < (n : Int)
          · have hv : inB n v = true := inB_t.2 ⟨v0, v1⟩
            have gm := fun {α : Type} (kk : Value → Option α) => get_mm S Y hb hu hv kk
            have es := fun (m : Md) => sjoined_s (md := m) S G.N Y n16 ⟨u0, u1⟩ ⟨v0, v1⟩ hb
            have ew : wy n nb u v = wayB (eB n nb) u.toNat v.toNat := by unfold wy; rw [hu, hv]; rfl
            simp only [go_sem, Nat.reduceAdd, Nat.reduceLeDiff, Nat.reduceMul, Int.reduceBEq, Int.reduceBNe, Int.reduceLT, Int.reduceLE, Int.reduceGT, aBin_leq, hle, aBin_geq, u0, v0, aBin_lss, u1, v1, eh, hu, hv, min24, max24, bPair, gm, aBin_neqB uB, nf, ej, ew, es, aBin_add, wv]
            exact ih
          · have hv : inB n v = false := inB_f.2 fun q => v1 q.2
            have ew : wy n nb u v = false := by unfold wy; rw [hu, hv]; rfl
            simp only [go_sem, Nat.reduceAdd, Nat.reduceLeDiff, Nat.reduceMul, Int.reduceBEq, Int.reduceBNe, Int.reduceLT, Int.reduceLE, Int.reduceGT, aBin_leq, hle, aBin_geq, u0, v0, aBin_lss, u1, v1, eh, hu, hv, aBin_neqB uB, nf, ej, ew, aBin_add, wv]
            exact ih
        · have hu : inB n u = false := inB_f.2 fun q => u1 q.2
          have ew : wy n nb u v = false := by unfold wy; rw [hu]; rfl
          simp only [go_sem, Nat.reduceAdd, Nat.reduceLeDiff, Nat.reduceMul, Int.reduceBEq, Int.reduceBNe, Int.reduceLT, Int.reduceLE, Int.reduceGT, aBin_leq, hle, aBin_geq, u0, v0, aBin_lss, u1, eh, hu, aBin_neqB uB, nf, ej, ew, aBin_add, wv]
          exact ih
      · have hv : inB n v = false := inB_f.2 fun q => v0 q.1
        have ew : wy n nb u v = false := by unfold wy; rw [hv]; simp
        simp only [go_sem, Nat.reduceAdd, Nat.reduceLeDiff, Nat.reduceMul, Int.reduceBEq, Int.reduceBNe, Int.reduceLT, Int.reduceLE, Int.reduceGT, aBin_leq, hle, aBin_geq, u0, v0, aBin_lss, eh, hv, aBin_neqB uB, nf, ej, ew, aBin_add, wv]
        exact ih
    · have hu : inB n u = false := inB_f.2 fun q => u0 q.1
      have ew : wy n nb u v = false := by unfold wy; rw [hu]; rfl
      simp only [go_sem, Nat.reduceAdd, Nat.reduceLeDiff, Nat.reduceMul, Int.reduceBEq, Int.reduceBNe, Int.reduceLT, Int.reduceLE, Int.reduceGT, aBin_leq, hle, aBin_geq, u0, aBin_lss, eh, hu, aBin_neqB uB, nf, ej, ew, aBin_add, wv]
      exact ih
theorem plays_out (G : Gr hh q n nb) (S : SM n nb es) (Y : Sy nb) (hb : hh[mb]? = some (.mp (.two .i64) es)) (s4 : Value) (h : Heap) : ∀ (m : Nat) (u : Int), -1 ≤ u → u + m = n + 1 →
    J3_2 C md h ((Value.int .i64 ((n : Int)))) s4 ((Value.pointer (some ⟨q, 0, none⟩))) (.map (some mb)) ((Value.int .i64 u)) hh = some ((Value.bool true), hh.take h.length) := by
  have n16 := G.n16
  intro m
  induction m with
  | zero =>
    intro u h1 h2
    have nl : ¬ u ≤ (n : Int) := by omega
    rw [J3_2_step]
    unfold Jr3_2
    simp only [go_sem, Nat.reduceAdd, Nat.reduceLeDiff, Nat.reduceMul, Int.reduceBEq, Int.reduceBNe, Int.reduceLT, Int.reduceLE, Int.reduceGT, aBin_leq, nl, Jk3_2, awake24]
  | succ m ih =>
    intro u h1 h2
    have hle : u ≤ (n : Int) := by omega
    have e := plays_in (md := md) (u := u) G S Y hb s4 ⟨h1, by omega⟩ (n + 2) (-1) (by omega) (by omega)
    rw [J3_2_step]
    unfold Jr3_2
    simp only [go_sem, Nat.reduceAdd, Nat.reduceLeDiff, Nat.reduceMul, Int.reduceBEq, Int.reduceBNe, Int.reduceLT, Int.reduceLE, Int.reduceGT, aBin_leq, hle]
    rw [e]
    exact ih (u + 1) (by omega) (by omega)
theorem plays_calls {cv s4 : Value} {cs : List (Int × Int × Int)} (SC : Sl h 3 eC cv cs) (hl : cs.length ≤ 60) (hq : h.length ≤ q) (hm : h.length ≤ mb) : ∀ (m k : Nat) (hh : Heap) (nb : List Nat) (es : List (MK × Value)), k + m = cs.length → Gr hh q n nb → SM n nb es → Sy nb → hh[mb]? = some (.mp (.two .i64) es) → Old h.length h hh →
    ∃ g, J3_0 C ⟨0, h.length⟩ h ((Value.int .i64 ((n : Int)))) s4 ((Value.pointer (some ⟨q, 0, none⟩))) (.map (some mb)) cv ((Value.int .i64 ((cs.length : Int)))) ((Value.int .i64 ((k : Int)))) hh = some ((Value.bool true), g) := by
  intro m
  induction m with
  | zero =>
    intro k hh nb es hk G S Y hb O
    obtain rfl : k = cs.length := by omega
    refine ⟨hh.take h.length, ?_⟩
    rw [J3_0_step]
    unfold Jr3_0
    simp only [go_sem, Nat.reduceAdd, Nat.reduceLeDiff, Nat.reduceMul, Int.reduceBEq, Int.reduceBNe, Int.reduceLT, Int.reduceLE, Int.reduceGT, aBin_lss, Int.lt_irrefl, Jk3_0, J3_1]
    exact plays_out G S Y hb s4 h (n + 2) (-1) (by omega) (by omega)
  | succ m ih =>
    intro k hh nb es hk G S Y hb O
    obtain ⟨x, hx⟩ : ∃ x, cs[k]? = some x := ⟨cs[k]'(by omega), List.getElem?_eq_getElem (by omega)⟩
    have hlt : (k : Int) < (cs.length : Int) := by omega
    have lo := O.len
    have SH : Sl hh 3 eC cv cs := SC.heap fun hl => O.old _ hl
    obtain ⟨ix, rx⟩ := Sl.getC SH hx
    have w : IntKind.wrap .i64 ((k : Int) + 1) = ((k + 1 : Nat) : Int) := by rw [wi (by omega) (by omega)]; rfl
    have hb1 : (hh ++ [Blk.own (eC x)])[mb]? = some (.mp (.two .i64) es) := by rw [List.getElem?_append_left (lt_of hb)]; exact hb
    obtain ⟨h', es', e, G', Y', hb', S', O'⟩ := step_s (md := ⟨0, h.length⟩) (G.app [Blk.own (eC x)]) Y S hb1 (Nat.zero_le _) (Nat.zero_le _) (Nat.zero_le _) (by simp; omega) x.1 x.2.1 x.2.2
    have st3 := fun (k' : Heap → Option (((Value × Value × Value × Value × Value × Value × Value) × Heap) ⊕ (Exit × (Value × Value × Value × Value × Value × Value × Value) × Heap))) => st_N ⟨0, h.length⟩ 3 hh.length 0 (eC x) (hh ++ [Blk.own [(Value.int .i64 0), (Value.int .i64 0), (Value.int .i64 0)]]) k' rfl rfl
    have w3 : wrN ⟨0, h.length⟩ (hh ++ [Blk.own [(Value.int .i64 0), (Value.int .i64 0), (Value.int .i64 0)]]) hh.length 0 (eC x) = some (hh ++ [Blk.own (eC x)]) := wrN_new0 (bs := []) (Nat.zero_le _) lo (by simp)
    have r3 : rdN (hh ++ [Blk.own (eC x)]) hh.length 0 3 = some (eC x) := by rw [rdN_new0]; rfl
    obtain ⟨g, eg⟩ := ih (k + 1) h' _ es' (by omega) G' S' Y' hb' ⟨by have := O'.len; simp at this; omega, fun y hy => by
      rw [O'.oth y (by simp; omega) (by omega) (by omega), List.getElem?_append_left (by omega)]; exact O.old y hy⟩
    refine ⟨g, ?_⟩
    rw [J3_0_step]
    unfold Jr3_0
    simp only [go_sem, Nat.reduceAdd, Nat.reduceLeDiff, Nat.reduceMul, Int.reduceBEq, Int.reduceBNe, Int.reduceLT, Int.reduceLE, Int.reduceGT, aBin_lss, hlt, ixSV_p, ix, rx, st3, w3, r3, e, aBin_add, w]
    exact eg
theorem plays24_law : Law Try.prog cfg 3 [3, 22] := by
  intro h avs ha
  obtain ⟨x, r, rfl, a0, ha⟩ := args_cons ha
  obtain ⟨cv, r, rfl, a1, ha⟩ := args_cons ha
  obtain rfl := args_nil ha
  obtain ⟨z, rfl, z0, z1⟩ := inI64 (arg1 (P := Try.prog) (by kernel_rfl) (by kernel_rfl) a0)
  obtain ⟨cs, SC⟩ := arg_calls a1
  have len := fun {α : Type} (k : Value → Option α) => SC.len k
  have uP : Try.prog.underlying 24 = some (.pointer 82) := by kernel_rfl
  rw [call_eq, F3_eq]
  unfold F3
  by_cases h60 : (cs.length : Int) > 60
  · exact ⟨h.take h.length, by simp only [go_sem, Nat.reduceAdd, Nat.reduceLeDiff, Nat.reduceMul, Int.reduceBEq, Int.reduceBNe, Int.reduceLT, Int.reduceLE, Int.reduceGT, len, h60, awake24]⟩
  by_cases z1' : z < 1
  · have e := fun (m : Md) => gnew_n (md := m) h (x := z) (.inl z1')
    exact ⟨h.take h.length, by simp only [go_sem, Nat.reduceAdd, Nat.reduceLeDiff, Nat.reduceMul, Int.reduceBEq, Int.reduceBNe, Int.reduceLT, Int.reduceLE, Int.reduceGT, len, h60, e, z1', aBin_eqlN uP, awake24]⟩
  by_cases z16 : z > 16
  · have e := fun (m : Md) => gnew_n (md := m) h (x := z) (.inr z16)
    exact ⟨h.take h.length, by simp only [go_sem, Nat.reduceAdd, Nat.reduceLeDiff, Nat.reduceMul, Int.reduceBEq, Int.reduceBNe, Int.reduceLT, Int.reduceLE, Int.reduceGT, len, h60, e, z1', z16, aBin_gtr, aBin_eqlN uP, awake24]⟩
  obtain ⟨n, rfl⟩ : ∃ n : Nat, z = n := ⟨z.toNat, by omega⟩
  have e := fun (m : Md) => gnew_s (md := m) h (n := n) (by omega) (by omega)
  have G := gnew_g h (n := n) (by omega) (by omega)
  obtain ⟨h1, e1⟩ : ∃ h1, h1 = h ++ [Blk.own (grC n (List.replicate 16 0))] := ⟨_, rfl⟩
  rw [← e1] at G
  simp only [← e1] at e
  have l1 : h1.length = h.length + 1 := by rw [e1]; simp
  have eM := fun {α : Type} (kk : Value → Heap → Option α) => aMakeMap_p (h := h1) (k := kk) tSet
  obtain ⟨g, eg⟩ := plays_calls (q := h.length) (mb := h1.length) (n := n) (s4 := (Value.bool false)) SC (by omega) (Nat.le_refl _) (by omega) cs.length 0 (h1 ++ [Blk.mp (.two .i64) []]) _ [] (by omega) (G.app _) SM.nil sy0 (by simp) ⟨by simp; omega, fun y hy => by
    rw [List.getElem?_append_left (by omega), e1, List.getElem?_append_left hy]⟩
  refine ⟨g, ?_⟩
  simp only [go_sem, Nat.reduceAdd, Nat.reduceLeDiff, Nat.reduceMul, Int.reduceBEq, Int.reduceBNe, Int.reduceLT, Int.reduceLE, Int.reduceGT, len, h60, e, z1', z16, aBin_gtr, aBin_eqlP uP, eM]
  exact eg
end Go.Det.E
