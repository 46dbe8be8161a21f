/- Scanning: the law of two texts. -/
import Derived.Test.YthhlflpeibdfmaaDoorQF
set_option autoImplicit false
set_option linter.unusedVariables false
set_option linter.unusedSimpArgs false
namespace Go.Det.E
open Go.Proofs Go.Det
open Go.Lib (decodeL)
attribute [local congr] bind_c cond_c
variable {md : Md} {h hh h' h0 : Heap} {s : ByteArray} {l o : List Tok} {t : List Int} {k : Int} {f n m n0 p w i : Nat} {v tv a b s2 s3 s4 s5 s6 s14 : Value}
theorem bs_app (l m : List UInt8) : bs l ++ bs m = bs (l ++ m) := by
  apply ByteArray.ext
  rw [ByteArray.data_append]
  simp [bs]
theorem bs_size (l : List UInt8) : (bs l).size = l.length := rfl
theorem add_S {α : Type} {l m : List UInt8} {ty : TypeId} (h : l.length + m.length ≤ 9223372036854775807) (k : Value → Option α) : aBin Tryd.prog .add ty (.string (bs l)) (.string (bs m)) k = k (.string (bs (l ++ m))) := by
  have hn : ¬ (((bs l).size + (bs m).size : Nat) : Int) > IntKind.i64.max := by
    rw [bs_size, bs_size]
    show ¬ ((l.length + m.length : Nat) : Int) > 9223372036854775807
    omega
  simp only [aBin]
  rw [if_neg hn, bs_app]
theorem SlO.below {h : Heap} {n0 sz : Nat} {ε : Type} {enc : ε → List Value} {v : Value} {xs : List ε} (S : SlO h n0 sz enc v xs) : below2 h.length v = true := by
  rcases S.sl.is with ⟨rfl, _⟩ | ⟨b, o, k, rfl, hb, _⟩
  · rfl
  · show Nat.blt b h.length = true
    rw [Nat.blt_eq]; exact lt_of hb
/-- What a text is told as. -/
def told (l : List UInt8) : List Tok × Nat × Int := mach (items l) 0 [] 0 0 []
theorem told_len (l : List UInt8) : (told l).1.length ≤ 2 * l.length + 1 := by
  have h1 := mach_len (items l) 0 [] 0 0 []
  have h2 := (items_ok _ l (Nat.le_refl _)).2
  unfold told
  simp only [List.length_nil] at h1
  omega
theorem told_end {l : List UInt8} (h : (told l).2.2 = 0) : (told l).2.1 = l.length := by
  have := mach_end (items l) 0 [] 0 0 [] h
  rw [wid_items _ l (Nat.le_refl _), Nat.zero_add] at this
  exact this
theorem told_pos (l : List UInt8) : (told l).2.1 ≤ l.length := by
  have := mach_pos (items l) 0 [] 0 0 [] (Nat.le_refl _)
  rw [wid_items _ l (Nat.le_refl _), Nat.zero_add] at this
  exact this
theorem scan_t (hro : md.ro ≤ h.length) (hlim : md.lim ≤ h.length) {l : List UInt8} (hs : l.length ≤ 20000) :
    ∃ v' h', C md 11 [.string (bs l)] h = some ((Value.tuple #[v', (Value.int .i64 ((((told l).2.1 : Nat) : Int))), (Value.int .i64 ((told l).2.2))]), h') ∧ SlO h' (h.length + 2) 1 encT v' (told l).1 ∧ Old h.length h h' :=
  scan_s (s := bs l) hro hlim hs
theorem blank1 : cls ((32 : Nat) : Int) = 1 := by decide
theorem tab1 : cls ((9 : Nat) : Int) = 1 := by decide
/-- Two texts, a blank between. -/
theorem told_two (S T : List UInt8) : ((told S).2.2 ≠ 0 → told (S ++ 32 :: T) = told S) ∧
    ((told S).2.2 = 0 → told (S ++ 32 :: T) = (if (told T).2.2 = 0 then (told S).1 ++ (told T).1 else [], (told T).2.1 + (S.length + 1), (told T).2.2)) := by
  have e : told (S ++ 32 :: T) = if (told S).2.2 = 0 then mach (items T) ((told S).2.1 + 1) (told S).1 1 0 [] else told S := by
    unfold told
    rw [items_app (c := 32) (by decide) T _ S (Nat.le_refl _)]
    exact mach_app blank1 _ _ _ _ _ _ _
  refine ⟨fun h => by rw [e, if_neg h], fun h => ?_⟩
  rw [e, if_pos h, told_end h]
  have := mach_sh (told S).1 (S.length + 1) (items T) 0 [] 0 0 []
  rw [Nat.zero_add, List.append_nil] at this
  rw [neut2 (items T) (S.length + 1) (told S).1 (k := 1) (k' := 0) 0 (S.length + 1) [] [] (by omega) (by omega), this]
  rfl
set_option maxHeartbeats 1000000 in
theorem parts_law : Law Tryd.prog cfg 7 [9, 9] := by
  intro h avs ha
  obtain ⟨v, r, rfl, a0, ha⟩ := args_cons ha
  obtain ⟨w, r, rfl, a1, ha⟩ := args_cons ha
  obtain rfl := args_nil ha
  obtain ⟨s, rfl, _⟩ := inS (arg1 (by kernel_rfl) (by kernel_rfl) a0 : TyS h .s v)
  obtain ⟨t, rfl, _⟩ := inS (arg1 (by kernel_rfl) (by kernel_rfl) a1 : TyS h .s w)
  obtain ⟨S, eS⟩ : ∃ S, s = bs S := ⟨_, bs_of s⟩
  obtain ⟨T, eT⟩ : ∃ T, t = bs T := ⟨_, bs_of t⟩
  subst eS; subst eT
  have len : ∀ {α : Type} (l : List UInt8) (k : Value → Option α), lenT (.string (bs l)) k = k ((Value.int .i64 (((l.length : Nat) : Int)))) := fun l k => rfl
  have tk : h.take h.length = h := take_same (Nat.le_refl _)
  rw [call_eq, F7_eq]
  unfold F7
  by_cases h1 : ((S.length : Nat) : Int) > 200
  · exact ⟨h, by simp only [go_sem, Nat.reduceAdd, Nat.reduceLeDiff, Nat.reduceMul, Int.reduceBEq, Int.reduceBNe, Int.reduceLT, Int.reduceLE, Int.reduceGT, len, h1, awake04, tk]⟩
  by_cases h2 : ((T.length : Nat) : Int) > 200
  · exact ⟨h, by simp only [go_sem, Nat.reduceAdd, Nat.reduceLeDiff, Nat.reduceMul, Int.reduceBEq, Int.reduceBNe, Int.reduceLT, Int.reduceLE, Int.reduceGT, len, h1, aBin_gtr, h2, awake04, tk]⟩
  obtain ⟨va, ha, ea, Sa, Oa⟩ := scan_t (md := ⟨0, h.length⟩) (h := h) (l := S) (Nat.zero_le _) (Nat.le_refl _) (by omega)
  have la := Oa.len
  obtain ⟨vb, hb, eb, Sb, Ob⟩ := scan_t (md := ⟨0, h.length⟩) (h := ha) (l := T) (Nat.zero_le _) (by show h.length ≤ ha.length; omega) (by omega)
  have lb := Ob.len
  obtain ⟨vc, hc, ec, Sc, Oc⟩ := scan_t (md := ⟨0, h.length⟩) (h := hb) (l := S ++ 32 :: T) (Nat.zero_le _) (by show h.length ≤ hb.length; omega) (by simp; omega)
  have lc := Oc.len
  have d1 : ∀ {α : Type} (k : Value → Option α), aBin Tryd.prog .add 9 (.string (bs S)) (.string ⟨#[32]⟩) k = k (.string (bs (S ++ [32]))) := fun k => add_S (m := [32]) (by simp; omega) k
  have d2 : ∀ {α : Type} (k : Value → Option α), aBin Tryd.prog .add 9 (.string (bs (S ++ [32]))) (.string (bs T)) k = k (.string (bs (S ++ 32 :: T))) := fun k => by
    rw [add_S (by simp; omega), List.append_assoc]; rfl
  obtain ⟨t1, t2⟩ := told_two S T
  by_cases eA : (told S).2.2 = 0
  · have t3 := t2 eA
    have bA : ((told S).2.2 != 0) = false := by rw [eA]; rfl
    by_cases eB : (told T).2.2 = 0
    · have bB : ((told T).2.2 != 0) = false := by rw [eB]; rfl
      rw [if_pos eB] at t3
      have eC : (told (S ++ 32 :: T)).2.2 = 0 := by rw [t3]; exact eB
      have bC : ((told (S ++ 32 :: T)).2.2 == 0) = true := by rw [eC]; rfl
      have kC : (told (S ++ 32 :: T)).1 = (told S).1 ++ (told T).1 := by rw [t3]
      rw [kC] at Sc
      have n1 := told_len S
      have n2 := told_len T
      have Sa3 : Sl hc 1 encT va (told S).1 := Sa.sl.heap fun hl => (Oc.old _ (by omega)).trans (Ob.old _ hl)
      have Sb3 : Sl hc 1 encT vb (told T).1 := Sb.sl.heap fun hl => Oc.old _ hl
      have q1 := fun {α : Type} (k : Value → Option α) => Sa3.len k
      have q2 := fun {α : Type} (k : Value → Option α) => Sb3.len k
      have q3 := fun {α : Type} (k : Value → Option α) => Sc.sl.len k
      have w1 : IntKind.wrap .i64 (((told S).1.length : Int) + ((told T).1.length : Int)) = ((((told S).1 ++ (told T).1).length : Nat) : Int) := by rw [List.length_append, IntKind.wrap_i64]; omega
      by_cases z : (((told S).1 ++ (told T).1).length : Int) = 0
      · have bz : ((((told S).1 ++ (told T).1).length : Int) == 0) = true := by rw [z]; rfl
        refine ⟨hc.take h.length, ?_⟩
        simp only [go_sem, Nat.reduceAdd, Nat.reduceLeDiff, Nat.reduceMul, Int.reduceBEq, Int.reduceBNe, Int.reduceLT, Int.reduceLE, Int.reduceGT, len, h1, aBin_gtr, h2, ea, eb, d1, d2, ec, bA, bB, bC, q1, q2, q3, aBin_add, w1, beq_self_eq_true, aBin_eql, bz, awake04]
      · have bz : ((((told S).1 ++ (told T).1).length : Int) == 0) = false := by simpa using z
        obtain ⟨g0, eg0⟩ : ∃ g0, g0 = hc ++ [Blk.own []] := ⟨_, rfl⟩
        have bg : g0[hc.length]? = some (.own []) := by rw [eg0]; simp
        have lg : g0.length = hc.length + 1 := by rw [eg0]; simp
        have S0 : SlO g0 hc.length 1 encT ((Value.slice (some ⟨hc.length, 0, none⟩) 0 1)) [] := ⟨Sl.whole encT_len bg rfl rfl, .inr ⟨Nat.le_refl _, [], bg⟩⟩
        obtain ⟨v8, g8, e8, S8, O8⟩ := append_sl (md := ⟨0, h.length⟩) (ys := (told S).1) tT S0 (by rw [eg0]; exact Sa3.app) (Nat.zero_le _) (by omega) encT_cell (by rw [List.length_nil]; omega)
        rw [List.nil_append] at S8
        have l8 := O8.len
        have Sb8 : Sl g8 1 encT vb (told T).1 := Sb3.heap fun hl => (O8.old _ hl).trans (by rw [eg0]; exact List.getElem?_append_left hl)
        obtain ⟨v9, g9, e9, S9, O9⟩ := append_sl (md := ⟨0, h.length⟩) (ys := (told T).1) tT S8 Sb8 (Nat.zero_le _) (by omega) encT_cell (by omega)
        have Sc9 : Sl g9 1 encT vc ((told S).1 ++ (told T).1) := Sc.sl.heap fun hl => (O9.old _ hl).trans ((O8.old _ hl).trans (by rw [eg0]; exact List.getElem?_append_left hl))
        have eq := fun (m : Md) => eq_toks Sc9 S9.sl (by rw [List.length_append]; omega) (SlO.below S9) m
        refine ⟨g9.take h.length, ?_⟩
        simp only [go_sem, Nat.reduceAdd, Nat.reduceLeDiff, Nat.reduceMul, Int.reduceBEq, Int.reduceBNe, Int.reduceLT, Int.reduceLE, Int.reduceGT, len, h1, aBin_gtr, h2, ea, eb, d1, d2, ec, bA, bB, bC, q1, q2, q3, aBin_add, w1, beq_self_eq_true, aBin_eql, bz, ← eg0, e8, e9, eq, awake04]
    · have bB : ((told T).2.2 != 0) = true := by simpa using eB
      have eC : (told (S ++ 32 :: T)).2.2 = (told T).2.2 := by rw [t3]
      have kC : (told (S ++ 32 :: T)).2.1 = (told T).2.1 + (S.length + 1) := by rw [t3]
      have tp := told_pos T
      have w1 : IntKind.wrap .i64 (((S.length : Nat) : Int) + 1) = ((S.length + 1 : Nat) : Int) := by rw [IntKind.wrap_i64]; omega
      have w2 : IntKind.wrap .i64 (((S.length + 1 : Nat) : Int) + (((told T).2.1 : Nat) : Int)) = (((told (S ++ 32 :: T)).2.1 : Nat) : Int) := by rw [kC, IntKind.wrap_i64]; omega
      rw [eC] at ec
      refine ⟨hc.take h.length, ?_⟩
      simp only [go_sem, Nat.reduceAdd, Nat.reduceLeDiff, Nat.reduceMul, Int.reduceBEq, Int.reduceBNe, Int.reduceLT, Int.reduceLE, Int.reduceGT, len, h1, aBin_gtr, h2, ea, eb, d1, d2, ec, bA, bB, aBin_add, w1, w2, beq_self_eq_true, aBin_eql, awake04]
  · have bA : ((told S).2.2 != 0) = true := by simpa using eA
    have t3 := t1 eA
    have eC : (told (S ++ 32 :: T)).2.2 = (told S).2.2 := by rw [t3]
    rw [eC] at ec
    refine ⟨hc.take h.length, ?_⟩
    simp only [go_sem, Nat.reduceAdd, Nat.reduceLeDiff, Nat.reduceMul, Int.reduceBEq, Int.reduceBNe, Int.reduceLT, Int.reduceLE, Int.reduceGT, len, h1, aBin_gtr, h2, ea, eb, d1, d2, ec, bA, beq_self_eq_true, awake04]
end Go.Det.E
