/- Scanning: a text's tokens, by the program. -/
import Derived.Test.YthhlflpeibdfmaaDoorQ5
set_option autoImplicit false
set_option linter.unusedVariables false
set_option linter.unusedSimpArgs false
namespace Go.Det.E
open Go.Proofs Go.Det
open Go.Lib (decodeL)
attribute [local congr] bind_c cond_c
variable {md : Md} {h hh h' h0 : Heap} {s : ByteArray} {l : List Tok} {t : List Int} {k : Int} {f n m n0 p w : Nat} {v tv s2 : Value}
theorem fin_len {l l' : List Tok} (h : fin l k t = some l') : l'.length ≤ l.length + 1 := by
  unfold fin at h
  repeat' split at h
  all_goals first | (cases h; done) | (cases h; simp)
theorem Inv.next (I : Inv h0 s h p l k f t s2 tv) (w : Nat) : Inv h0 s (h.set (h0.length + 1) (.si s (p + w))) (p + w) l k f t s2 tv := by
  have hlen := I.len
  have oth : ∀ y, y ≠ h0.length + 1 → (h.set (h0.length + 1) (.si s (p + w)))[y]? = h[y]? := fun y hy => set_else (Ne.symm hy)
  exact ⟨(oth _ (by omega)).trans I.run, set_here I.si, I.S.at fun y h1 _ => oth y (by omega), I.St.at fun y h1 _ => oth y (by omega), I.dj, ⟨by simp; exact I.old.len, fun b hb => (oth b (by omega)).trans (I.old.old b hb)⟩, I.hd, by have := I.ll; omega, by have := I.lt; omega⟩
/-- What is there from a byte on. -/
theorem at_rune (hp : p < s.size) : ∃ r w, Utf8.decode s p = (r, w) ∧ 1 ≤ w ∧ p + w ≤ s.size ∧ r ≤ 1114111 ∧ items (s.data.toList.drop p) = (r, w) :: items (s.data.toList.drop (p + w)) := by
  have hl : s.data.toList.length = s.size := rfl
  have hne : s.data.toList.drop p ≠ [] := by
    intro e
    have := congrArg List.length e
    rw [List.length_drop, hl] at this
    simp at this; omega
  have e := Lib.decodeL_drop s p
  have h1 := Lib.decodeL_width (s.data.toList.drop p)
  have h2 := Lib.decodeL_le _ hne
  have h3 := Lib.decodeL_rune (s.data.toList.drop p)
  have h4 := items_cons hne
  rw [List.length_drop] at h2
  rw [List.drop_drop] at h4
  rw [e] at h1 h2 h3 h4
  have h5 : p + (Utf8.decode s p).2 ≤ s.size := by
    rw [hl] at h2
    omega
  exact ⟨_, _, rfl, h1, h5, h3, h4⟩
theorem at_end (hp : s.size ≤ p) : items (s.data.toList.drop p) = [] := by
  rw [List.drop_eq_nil_of_le (show s.data.toList.length ≤ p from hp), items_nil]
theorem scan_lp (hro : md.ro ≤ h0.length) (hlim : md.lim ≤ h0.length) (hs : s.size ≤ 20000) : ∀ (m p : Nat) (l : List Tok) (k : Int) (f : Nat) (t : List Int) (s2 tv : Value) (h : Heap), s.size - p ≤ m → p ≤ s.size → Inv h0 s h p l k f t s2 tv →
    ∃ v' h', J11_0 C md h0 (.string s) s2 ((Value.int .i64 0)) ((Value.int .i64 0)) ((Value.pointer (some ⟨h0.length, 0, none⟩))) ((Value.pointer (some ⟨h0.length + 1, 0, none⟩))) h = some ((Value.tuple #[v', (Value.int .i64 ((((mach (items (s.data.toList.drop p)) p l k f t).2.1 : Nat) : Int))), (Value.int .i64 ((mach (items (s.data.toList.drop p)) p l k f t).2.2))]), h') ∧
      SlO h' (h0.length + 2) 1 encT v' (mach (items (s.data.toList.drop p)) p l k f t).1 ∧ Old h0.length h0 h' := by
  intro m
  induction m with
  | zero =>
    intro p l k f t s2 tv h hm hp I
    have hlen := I.len
    obtain rfl : p = s.size := by omega
    rw [at_end (Nat.le_refl _)]
    have nx := fun {α : Type} (kk : Value → Heap → Option α) => next_end (md := md) I.si (by omega) (Nat.le_refl _) kk
    have q3 : rdN h h0.length 0 3 = some [(Value.int .i64 k), (Value.int .i64 ((f : Int))), tv] := by rw [rdN_own I.run (by simp)]; rfl
    obtain ⟨v', h', e, fS, hle, ho⟩ := end_s (md := md) (k := k) (f := f) I.S (by omega) hlen I.St.sl (fun e2 r hr => cls2 ((I.hd r hr).trans e2)) (by have := I.ll; omega)
    have nb : ∀ y, y < h0.length + 2 → s2 = .slice none 0 0 ∨ y ≠ slB s2 := fun y hy => I.S.lo.imp id fun q => by omega
    have O' : Old h0.length h0 h' := ⟨by omega, fun b hb => (ho b (by omega) (nb b (by omega))).trans (I.old.old b hb)⟩
    have rn := (ho _ (by omega) (nb h0.length (by omega))).trans I.run
    rw [mach]
    cases hf : fin l k t with
    | none =>
      rw [hf] at e
      have q1 : rd h' h0.length 1 = some ((Value.int .i64 ((f : Int)))) := by rw [rd_own rn]; rfl
      refine ⟨.slice none 0 0, h', ?_, SlO.nil _ _ encT_len, O'⟩
      rw [J11_0_step]
      unfold Jr11_0
      simp only [go_sem, Nat.reduceAdd, Nat.reduceLeDiff, Nat.reduceMul, Int.reduceBEq, Int.reduceBNe, Int.reduceLT, Int.reduceLE, Int.reduceGT, nx, Jk11_0]
      unfold J11_1
      simp only [go_sem, Nat.reduceAdd, Nat.reduceLeDiff, Nat.reduceMul, Int.reduceBEq, Int.reduceBNe, Int.reduceLT, Int.reduceLE, Int.reduceGT, q3, e, Option.isSome_none, Bool.false_eq_true, if_false, q1]
    | some l' =>
      rw [hf] at e
      have len : ∀ {α : Type} (k : Value → Option α), lenT (.string s) k = k ((Value.int .i64 (((s.size : Nat) : Int)))) := fun k => rfl
      refine ⟨v', h', ?_, (fS l' hf).1, O'⟩
      rw [J11_0_step]
      unfold Jr11_0
      simp only [go_sem, Nat.reduceAdd, Nat.reduceLeDiff, Nat.reduceMul, Int.reduceBEq, Int.reduceBNe, Int.reduceLT, Int.reduceLE, Int.reduceGT, nx, Jk11_0]
      unfold J11_1
      simp only [go_sem, Nat.reduceAdd, Nat.reduceLeDiff, Nat.reduceMul, Int.reduceBEq, Int.reduceBNe, Int.reduceLT, Int.reduceLE, Int.reduceGT, q3, e, Option.isSome_some, if_true, len]
  | succ m ih =>
    intro p l k f t s2 tv h hm hp I
    by_cases hps : p = s.size
    · exact ih p l k f t s2 tv h (by omega) hp I
    obtain ⟨r, w, dc, hw, hpw, hr, hit⟩ := at_rune (s := s) (p := p) (by omega)
    have hlen := I.len
    have nx := fun {α : Type} (kk : Value → Heap → Option α) => next_rune (md := md) I.si (by omega) (show p < s.size by omega) kk
    rw [dc] at nx
    have I2 := I.next w
    obtain ⟨h2, e2⟩ : ∃ h2, h2 = h.set (h0.length + 1) (.si s (p + w)) := ⟨_, rfl⟩
    rw [← e2] at I2
    have hlen2 := I2.len
    have cl := fun (m : Md) (g : Heap) => class_s m g ((r : Nat) : Int)
    have q0 : rd h2 h0.length 0 = some ((Value.int .i64 k)) := by rw [rd_own I2.run]; rfl
    rw [hit, mach]
    by_cases ck : cls (r : Int) = k
    · rw [if_pos ck]
      have bne : (cls (r : Int) != k) = false := by simp [ck]
      by_cases c0 : cls (r : Int) = 0
      · have b0 : (cls (r : Int) == 0) = true := by rw [c0]; rfl
        rw [if_pos c0]
        refine ⟨.slice none 0 0, h2, ?_, SlO.nil _ _ encT_len, I2.old⟩
        rw [J11_0_step]
        unfold Jr11_0 J11_0b0
        simp only [go_sem, Nat.reduceAdd, Nat.reduceLeDiff, Nat.reduceMul, Int.reduceBEq, Int.reduceBNe, Int.reduceLT, Int.reduceLE, Int.reduceGT, nx, ← e2, cl, q0, bne, aBin_eql, b0, Jk11_0]
      · rw [if_neg c0]
        obtain ⟨l', t', s2', tv', h', e, I', hl', ht'⟩ := b0_s (md := md) (q := (p : Int)) I2 hro hlim (by omega) ck (by have := I.ll; omega) (by have := I.lt; omega) (by rw [← ck]; exact c0)
        obtain ⟨v', h3, e3, S3, O3⟩ := ih (p + w) l' k f t' s2' tv' h' (by omega) hpw I'
        have em : mach (items (s.data.toList.drop (p + w))) (p + w) l' k f t' = (if cls (r : Int) = 4 then mach (items (s.data.toList.drop (p + w))) (p + w) (l ++ [.c r]) k f t else if cls (r : Int) = 2 ∨ cls (r : Int) = 3 then mach (items (s.data.toList.drop (p + w))) (p + w) l k f (t ++ [(r : Int)]) else mach (items (s.data.toList.drop (p + w))) (p + w) l k f t) := by
          rw [hl', ht', ck]
          by_cases k4 : k = 4
          · rw [if_pos k4, if_pos k4, if_pos k4]
          · rw [if_neg k4, if_neg k4, if_neg k4]
            by_cases k23 : k = 2 ∨ k = 3
            · rw [if_pos k23, if_pos k23]
            · rw [if_neg k23, if_neg k23]
        rw [← em]
        refine ⟨v', h3, ?_, S3, O3⟩
        rw [← ck] at e
        rw [J11_0_step]
        unfold Jr11_0
        simp only [go_sem, Nat.reduceAdd, Nat.reduceLeDiff, Nat.reduceMul, Int.reduceBEq, Int.reduceBNe, Int.reduceLT, Int.reduceLE, Int.reduceGT, nx, ← e2, cl, q0, bne, e]
        exact e3
    · rw [if_neg ck]
      have bne : (cls (r : Int) != k) = true := by simp [ck]
      have q3 : rdN h2 h0.length 0 3 = some [(Value.int .i64 k), (Value.int .i64 ((f : Int))), tv] := by rw [rdN_own I2.run (by simp)]; rfl
      obtain ⟨v', h', e, fS, hle, ho⟩ := end_s (md := md) (k := k) (f := f) I2.S (by omega) hlen2 I2.St.sl (fun e2 r hr => cls2 ((I2.hd r hr).trans e2)) (by have := I2.ll; omega)
      have nb : ∀ y, y < h0.length + 2 → s2 = .slice none 0 0 ∨ y ≠ slB s2 := fun y hy => I2.S.lo.imp id fun q => by omega
      have O' : Old h0.length h0 h' := ⟨by omega, fun b hb => (ho b (by omega) (nb b (by omega))).trans (I2.old.old b hb)⟩
      have rn := (ho _ (by omega) (nb h0.length (by omega))).trans I2.run
      cases hf : fin l k t with
      | none =>
        rw [hf] at e
        have q1 : rd h' h0.length 1 = some ((Value.int .i64 ((f : Int)))) := by rw [rd_own rn]; rfl
        refine ⟨.slice none 0 0, h', ?_, SlO.nil _ _ encT_len, O'⟩
        rw [J11_0_step]
        unfold Jr11_0
        simp only [go_sem, Nat.reduceAdd, Nat.reduceLeDiff, Nat.reduceMul, Int.reduceBEq, Int.reduceBNe, Int.reduceLT, Int.reduceLE, Int.reduceGT, nx, ← e2, cl, q0, bne, q3, e, Option.isSome_none, Bool.false_eq_true, if_false, q1, Jk11_0]
      | some l' =>
        rw [hf] at e
        obtain ⟨S', hfr⟩ := fS l' hf
        have fl := fin_len hf
        have stx : ∀ {α : Type} (kk : Heap → Option α), st md 3 ((Value.pointer (some ⟨h0.length, 0, none⟩))) (.agg #[(Value.int .i64 (cls (r : Int))), (Value.int .i64 ((p : Int))), .slice none 0 0]) h' kk = kk (h'.set h0.length (.own [(Value.int .i64 (cls (r : Int))), (Value.int .i64 ((p : Int))), .slice none 0 0])) := fun kk => by
          have := st_N md 3 h0.length 0 [(Value.int .i64 (cls (r : Int))), (Value.int .i64 ((p : Int))), .slice none 0 0] h' kk rfl rfl
          rw [wr_l [(Value.int .i64 (cls (r : Int))), (Value.int .i64 ((p : Int))), .slice none 0 0] rn hro hlim (by simp)] at this
          exact this
        have w3 : wrN md h' h0.length 0 [(Value.int .i64 (cls (r : Int))), (Value.int .i64 ((p : Int))), .slice none 0 0] = some (h'.set h0.length (.own [(Value.int .i64 (cls (r : Int))), (Value.int .i64 ((p : Int))), .slice none 0 0])) := wr_l [(Value.int .i64 (cls (r : Int))), (Value.int .i64 ((p : Int))), .slice none 0 0] rn hro hlim (by simp)
        obtain ⟨h4, e4⟩ : ∃ h4, h4 = h'.set h0.length (.own [(Value.int .i64 (cls (r : Int))), (Value.int .i64 ((p : Int))), .slice none 0 0]) := ⟨_, rfl⟩
        have oth : ∀ y, y ≠ h0.length → h4[y]? = h'[y]? := fun y hy => by rw [e4]; exact set_else (Ne.symm hy)
        have I4 : Inv h0 s h4 (p + w) l' (cls (r : Int)) p [] v' (.slice none 0 0) :=
          ⟨by rw [e4]; exact set_here rn, (oth _ (by omega)).trans ((ho _ (by omega) (nb _ (by omega))).trans I2.si), S'.at fun y h1 _ => oth y (by omega), SlO.nil _ _ encI_len, .inr (.inl rfl),
            ⟨by rw [e4]; simp; omega, fun b hb => (oth b (by omega)).trans (O'.old b hb)⟩, fun x hx => by simp at hx, by have := I.ll; omega, by simp⟩
        by_cases c0 : cls (r : Int) = 0
        · have b0 : (cls (r : Int) == 0) = true := by rw [c0]; rfl
          simp only [if_pos c0]
          refine ⟨.slice none 0 0, h4, ?_, SlO.nil _ _ encT_len, I4.old⟩
          rw [J11_0_step]
          unfold Jr11_0 J11_0b0
          simp only [go_sem, Nat.reduceAdd, Nat.reduceLeDiff, Nat.reduceMul, Int.reduceBEq, Int.reduceBNe, Int.reduceLT, Int.reduceLE, Int.reduceGT, nx, ← e2, cl, q0, bne, q3, e, Option.isSome_some, if_true, stx, w3, ← e4, aBin_eql, b0, Jk11_0]
        · simp only [if_neg c0]
          obtain ⟨l5, t5, s5, tv5, h5, e5, I5, hl5, ht5⟩ := b0_s (md := md) (q := (p : Int)) (r := (r : Int)) I4 hro hlim (by omega) rfl (by have := I.ll; omega) (by simp; omega) c0
          obtain ⟨v6, h6, e6, S6, O6⟩ := ih (p + w) l5 (cls (r : Int)) p t5 s5 tv5 h5 (by omega) hpw I5
          have em : mach (items (s.data.toList.drop (p + w))) (p + w) l5 (cls (r : Int)) p t5 = (if cls (r : Int) = 4 then mach (items (s.data.toList.drop (p + w))) (p + w) (l' ++ [.c r]) (cls (r : Int)) p [] else if cls (r : Int) = 2 ∨ cls (r : Int) = 3 then mach (items (s.data.toList.drop (p + w))) (p + w) l' (cls (r : Int)) p [(r : Int)] else mach (items (s.data.toList.drop (p + w))) (p + w) l' (cls (r : Int)) p []) := by
            rw [hl5, ht5]
            by_cases k4 : cls (r : Int) = 4
            · rw [if_pos k4, if_pos k4, if_pos k4]
            · rw [if_neg k4, if_neg k4, if_neg k4]
              by_cases k23 : cls (r : Int) = 2 ∨ cls (r : Int) = 3
              · rw [if_pos k23, if_pos k23]; rfl
              · rw [if_neg k23, if_neg k23]
          rw [← em]
          refine ⟨v6, h6, ?_, S6, O6⟩
          rw [J11_0_step]
          unfold Jr11_0
          simp only [go_sem, Nat.reduceAdd, Nat.reduceLeDiff, Nat.reduceMul, Int.reduceBEq, Int.reduceBNe, Int.reduceLT, Int.reduceLE, Int.reduceGT, nx, ← e2, cl, q0, bne, q3, e, Option.isSome_some, if_true, stx, w3, ← e4, e5]
          exact e6
/-- A text's tokens. -/
theorem scan_s (hro : md.ro ≤ h.length) (hlim : md.lim ≤ h.length) (hs : s.size ≤ 20000) :
    ∃ v' h', C md 11 [.string s] h = some ((Value.tuple #[v', (Value.int .i64 ((((mach (items s.data.toList) 0 [] 0 0 []).2.1 : Nat) : Int))), (Value.int .i64 ((mach (items s.data.toList) 0 [] 0 0 []).2.2))]), h') ∧
      SlO h' (h.length + 2) 1 encT v' (mach (items s.data.toList) 0 [] 0 0 []).1 ∧ Old h.length h h' := by
  obtain ⟨h1, e1⟩ : ∃ h1, h1 = h ++ [Blk.own [(Value.int .i64 0), (Value.int .i64 0), .slice none 0 0]] := ⟨_, rfl⟩
  have l1 : h1.length = h.length + 1 := by rw [e1]; simp
  have rg : ∀ {α : Type} (kk : Value → Heap → Option α), aRange Tryd.prog 9 (.string s) h1 kk = kk ((Value.pointer (some ⟨h.length + 1, 0, none⟩))) (h1 ++ [.si s 0]) := fun kk => by
    rw [← l1]
    unfold aRange
    simp only [uSt]
  have I : Inv h s (h1 ++ [.si s 0]) 0 [] 0 0 [] (.slice none 0 0) (.slice none 0 0) :=
    ⟨by rw [e1]; simp, by rw [← l1]; simp, SlO.nil _ _ encT_len, SlO.nil _ _ encI_len, .inl rfl, by rw [e1]; exact (Old.app _ (Nat.le_refl _)).trans (Old.app _ (by simp)), fun x hx => by simp at hx, by simp, by simp⟩
  obtain ⟨v', h', e, S, O⟩ := scan_lp (md := md) hro hlim hs s.size 0 [] 0 0 [] _ _ _ (by omega) (Nat.zero_le _) I
  rw [List.drop_zero] at e S
  refine ⟨v', h', ?_, S, O⟩
  rw [C, call_eq, F11_eq]
  unfold F11
  simp only [go_sem, Nat.reduceAdd, Nat.reduceLeDiff, Nat.reduceMul, Int.reduceBEq, Int.reduceBNe, Int.reduceLT, Int.reduceLE, Int.reduceGT, ← e1, rg]
  exact e
end Go.Det.E
