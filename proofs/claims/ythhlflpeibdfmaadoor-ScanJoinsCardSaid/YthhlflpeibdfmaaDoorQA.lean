/- Scanning: a text's tokens, by the document: all of it. -/
import Derived.Test.YthhlflpeibdfmaaDoorQ9
set_option autoImplicit false
set_option linter.unusedVariables false
set_option linter.unusedSimpArgs false
namespace Go.Det.E
open Go.Proofs Go.Det
open Go.Lib (decodeL)
attribute [local congr] bind_c cond_c
variable {md : Md} {h hh h' h0 : Heap} {s : ByteArray} {l o : List Tok} {t : List Int} {k : Int} {f n m n0 p w i : Nat} {v tv s2 s3 s4 s5 s6 s14 : Value}
theorem ref_lp (hro : md.ro ≤ h0.length) (hs : s.size ≤ 20000) : ∀ (m i : Nat) (o : List Tok) (s5 : Value) (h : Heap), s.size - i ≤ m → i ≤ s.size → SlO h h0.length 3 encK s5 o → Old h0.length h0 h → o.length ≤ i →
    ∃ v' h', J12_0 C md h0 (.string s) (.slice none 0 0) ((Value.int .i64 0)) ((Value.int .i64 0)) s5 ((Value.int .i64 ((i : Int)))) h = some ((Value.tuple #[v', (Value.int .i64 ((((mach (items (s.data.toList.drop i)) i o 1 0 []).2.1 : Nat) : Int))), (Value.int .i64 ((mach (items (s.data.toList.drop i)) i o 1 0 []).2.2))]), h') ∧
      SlO h' h0.length 3 encK v' (mach (items (s.data.toList.drop i)) i o 1 0 []).1 ∧ Old h0.length h0 h' := by
  have len : ∀ {α : Type} (k : Value → Option α), lenT (.string s) k = k ((Value.int .i64 (((s.size : Nat) : Int)))) := fun k => rfl
  intro m
  induction m with
  | zero =>
    intro i o s5 h hm hi S O ho
    obtain rfl : i = s.size := by omega
    rw [at_end (Nat.le_refl _), mach, fin_neut (by omega)]
    refine ⟨s5, h, ?_, S, O⟩
    rw [J12_0_step]
    unfold Jr12_0
    simp only [go_sem, Nat.reduceAdd, Nat.reduceLeDiff, Nat.reduceMul, Int.reduceBEq, Int.reduceBNe, Int.reduceLT, Int.reduceLE, Int.reduceGT, len, aBin_lss, Int.lt_irrefl, Jk12_0]
    unfold J12_1
    simp only [go_sem, Nat.reduceAdd, Nat.reduceLeDiff, Nat.reduceMul, Int.reduceBEq, Int.reduceBNe, Int.reduceLT, Int.reduceLE, Int.reduceGT, len]
  | succ m ih =>
    intro i o s5 h hm hi S O ho
    by_cases hps : i = s.size
    · exact ih i o s5 h (by omega) hi S O ho
    obtain ⟨r, w, dc, hw, hpw, hr, hit⟩ := at_rune (s := s) (p := i) (by omega)
    have ol := O.len
    have hlt : ((i : Int) < ((s.size : Nat) : Int)) := by omega
    have rn := fun (m : Md) (g : Heap) => rune_s (s := s) (i := i) (by omega) (by omega) m g
    rw [dc] at rn
    have cl := fun (m : Md) (g : Heap) => rclass_s m g ((r : Nat) : Int)
    have w1 : IntKind.wrap .i64 ((i : Int) + ((w : Nat) : Int)) = ((i + w : Nat) : Int) := by rw [IntKind.wrap_i64]; omega
    have c5 := cls_five (r : Int)
    by_cases c0 : cls (r : Int) = 0
    · have b0 : (cls (r : Int) == 0) = true := by rw [c0]; rfl
      rw [hit, mach, if_neg (by omega), fin_neut (by omega)]
      simp only [if_pos c0]
      refine ⟨.slice none 0 0, h, ?_, SlO.nil _ _ encK_len, O⟩
      rw [J12_0_step]
      unfold Jr12_0
      simp only [go_sem, Nat.reduceAdd, Nat.reduceLeDiff, Nat.reduceMul, Int.reduceBEq, Int.reduceBNe, Int.reduceLT, Int.reduceLE, Int.reduceGT, len, aBin_lss, hlt, rn, cl, b0, Jk12_0]
    have b0 : (cls (r : Int) == 0) = false := by simpa using c0
    by_cases c4 : cls (r : Int) = 4
    · have b4 : (cls (r : Int) == 4) = true := by rw [c4]; rfl
      have b1 : (cls (r : Int) == 1) = false := by rw [c4]; rfl
      obtain ⟨v', h', ea, S', O'⟩ := app_K (md := md) S hro ol (by omega) (.c r)
      have ea' : ∀ {α : Type} (kk : Value → Heap → Option α), aBuiltin Tryd.prog md .append #[27, 27] [s5, (Value.slice (some ⟨h.length, 0, none⟩) 1 3)] (h ++ [Blk.own [(Value.int .i64 3), (Value.int .i64 (((r : Nat) : Int))), .string ⟨#[]⟩]]) kk = kk v' h' := ea
      obtain ⟨v2, h2, e2, S2, O2⟩ := ih (i + w) (o ++ [.c r]) v' h' (by omega) hpw S' (O.trans O') (by simp; omega)
      have em : mach (items (s.data.toList.drop i)) i o 1 0 [] = mach (items (s.data.toList.drop (i + w))) (i + w) (o ++ [.c r]) 1 0 [] := by
        rw [hit, mach, if_neg (by omega), fin_neut (by omega)]
        simp only [if_neg c0, if_pos c4]
        exact neut _ _ _ _ _ (by omega) (by omega)
      rw [em]
      refine ⟨v2, h2, ?_, S2, O2⟩
      rw [J12_0_step]
      unfold Jr12_0 J12_0b0
      simp only [go_sem, Nat.reduceAdd, Nat.reduceLeDiff, Nat.reduceMul, Int.reduceBEq, Int.reduceBNe, Int.reduceLT, Int.reduceLE, Int.reduceGT, len, aBin_lss, hlt, rn, cl, b0, b4, ea', aBin_eql, b1, aBin_add, w1]
      exact e2
    have b4 : (cls (r : Int) == 4) = false := by simpa using c4
    by_cases c1 : cls (r : Int) = 1
    · have b1 : (cls (r : Int) == 1) = true := by rw [c1]; rfl
      obtain ⟨v2, h2, e2, S2, O2⟩ := ih (i + w) o s5 h (by omega) hpw S O (by omega)
      have em : mach (items (s.data.toList.drop i)) i o 1 0 [] = mach (items (s.data.toList.drop (i + w))) (i + w) o 1 0 [] := by
        rw [hit, mach, if_pos c1, if_neg c0, if_neg c4, if_neg (by omega)]
      rw [em]
      refine ⟨v2, h2, ?_, S2, O2⟩
      rw [J12_0_step]
      unfold Jr12_0 J12_0b0
      simp only [go_sem, Nat.reduceAdd, Nat.reduceLeDiff, Nat.reduceMul, Int.reduceBEq, Int.reduceBNe, Int.reduceLT, Int.reduceLE, Int.reduceGT, len, aBin_lss, hlt, rn, cl, b0, b4, aBin_eql, b1, aBin_add, w1]
      exact e2
    have b1 : (cls (r : Int) == 1) = false := by simpa using c1
    obtain ⟨k, ek⟩ : ∃ k, k = cls (r : Int) := ⟨_, rfl⟩
    have hk : k = 2 ∨ k = 3 := by omega
    rw [← ek] at b0 b4 b1 cl
    obtain ⟨ts, er, hj, hts, hall, hrest, hrow⟩ := rrun_lp (md := md) (s2 := .slice none 0 0) (s3 := (Value.int .i64 0)) (s4 := (Value.int .i64 0)) (s5 := s5) (h := h) (s := s) (k := k) (fr := i) hs (by omega) s.size i (by omega) hi
    cases ts with
    | nil =>
      exfalso
      rw [List.nil_append] at hts
      rcases hrest with q | ⟨y, ys, q, hc⟩
      · rw [← hts, hit] at q; cases q
      · rw [← hts, hit] at q; cases q; exact hc ek.symm
    | cons x ts =>
      have hx : x = (r, w) := by rw [hit] at hts; exact (List.cons.inj hts).1.symm
      subst hx
      have hall' : ∀ y ∈ rns ((r, w) :: ts), cls y = k := by
        intro y hy
        obtain ⟨z, hz, rfl⟩ := List.mem_map.1 hy
        exact hall z hz
      have wpos : 1 ≤ wid ((r, w) :: ts) := by rw [wid_cons]; show 1 ≤ w + _; omega
      have em : mach (items (s.data.toList.drop i)) i o 1 0 [] = (match fin o k (rns ((r, w) :: ts)) with | none => ([], i, 41) | some l' => mach (items (s.data.toList.drop (i + wid ((r, w) :: ts)))) (i + wid ((r, w) :: ts)) l' 1 0 []) := by
        rw [hts, List.cons_append, mach, if_neg (by omega), fin_neut (by omega)]
        simp only [if_neg c0, if_neg c4]
        rw [if_pos (by omega), ← ek, mach_run hk hrest ts _ _ _ _ fun y hy => hall y (List.mem_cons_of_mem _ hy)]
        have e1 : [(r : Int)] ++ rns ts = rns ((r, w) :: ts) := rfl
        rw [e1, wid_cons, Nat.add_assoc]
        rfl
      rcases b2_s (md := md) hs S hro ol (by omega) (Nat.le_add_right i (wid ((r, w) :: ts))) hj hk hall' (by rw [Nat.add_sub_cancel_left]; exact hrow) with ⟨ef, e⟩ | ⟨o', v', h', ef, e, S', O', hlen⟩
      · rw [ef] at em
        rw [em]
        refine ⟨.slice none 0 0, h, ?_, SlO.nil _ _ encK_len, O⟩
        rw [J12_0_step]
        unfold Jr12_0 J12_0b0
        simp only [go_sem, Nat.reduceAdd, Nat.reduceLeDiff, Nat.reduceMul, Int.reduceBEq, Int.reduceBNe, Int.reduceLT, Int.reduceLE, Int.reduceGT, len, aBin_lss, hlt, rn, cl, b0, b4, aBin_eql, b1]
        rw [er, e]
        simp only [go_sem, Nat.reduceAdd, Nat.reduceLeDiff, Nat.reduceMul, Int.reduceBEq, Int.reduceBNe, Int.reduceLT, Int.reduceLE, Int.reduceGT, Jk12_0]
      · rw [ef] at em
        obtain ⟨v2, h2, e2, S2, O2⟩ := ih (i + wid ((r, w) :: ts)) o' v' h' (by omega) hj S' (O.trans O') (by omega)
        rw [em]
        refine ⟨v2, h2, ?_, S2, O2⟩
        rw [J12_0_step]
        unfold Jr12_0 J12_0b0
        simp only [go_sem, Nat.reduceAdd, Nat.reduceLeDiff, Nat.reduceMul, Int.reduceBEq, Int.reduceBNe, Int.reduceLT, Int.reduceLE, Int.reduceGT, len, aBin_lss, hlt, rn, cl, b0, b4, aBin_eql, b1]
        rw [er, e]
        simp only [go_sem, Nat.reduceAdd, Nat.reduceLeDiff, Nat.reduceMul, Int.reduceBEq, Int.reduceBNe, Int.reduceLT, Int.reduceLE, Int.reduceGT]
        exact e2
theorem ref_s (hro : md.ro ≤ h.length) (hs : s.size ≤ 20000) :
    ∃ v' h', C md 12 [.string s] h = some ((Value.tuple #[v', (Value.int .i64 ((((mach (items s.data.toList) 0 [] 0 0 []).2.1 : Nat) : Int))), (Value.int .i64 ((mach (items s.data.toList) 0 [] 0 0 []).2.2))]), h') ∧
      SlO h' h.length 3 encK v' (mach (items s.data.toList) 0 [] 0 0 []).1 ∧ Old h.length h h' := by
  obtain ⟨v', h', e, S, O⟩ := ref_lp (md := md) hro hs s.size 0 [] (.slice none 0 0) h (by omega) (Nat.zero_le _) (SlO.nil _ _ encK_len) (Old.refl _ _) (Nat.zero_le _)
  rw [List.drop_zero] at e S
  rw [neut (items s.data.toList) 0 [] (k := 0) (k' := 1) 0 0 (by omega) (by omega)]
  refine ⟨v', h', ?_, S, O⟩
  rw [C, call_eq, F12_eq]
  unfold F12
  exact e
end Go.Det.E
