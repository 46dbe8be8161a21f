/- Scanning: the walk through a text. -/
import Derived.Test.YthhlflpeibdfmaaDoorQ4
set_option autoImplicit false
set_option linter.unusedVariables false
set_option linter.unusedSimpArgs false
namespace Go.Det.E
open Go.Proofs Go.Det
open Go.Lib (decodeL)
attribute [local congr] bind_c cond_c
variable {md : Md} {h hh h' h0 : Heap} {s : ByteArray} {l : List Tok} {t : List Int} {k : Int} {f n m n0 p w : Nat} {v tv s2 : Value}
theorem wr_l {md : Md} {h : Heap} {b i : Nat} {cs : List Value} (vs : List Value) (hb : h[b]? = some (.own cs)) (hro : md.ro ≤ b) (hlim : md.lim ≤ b) (hi : i + vs.length ≤ cs.length) : wrN md h b i vs = some (h.set b (.own (lay cs i vs))) := by
  unfold wrN
  rw [hb]
  simp only []
  rw [if_pos hi, if_pos ⟨hro, .inl hlim⟩]
theorem bs_I {α : Type} (r : Int) (h : Heap) (k : Value → Heap → Option α) : aBuildSlice Tryd.prog 43 1 [(0, .int .i32 r)] h k = k ((Value.slice (some ⟨h.length, 0, none⟩) 1 1)) (h ++ [.own [.int .i32 r]]) := by
  obtain ⟨j, hj, e1, e2⟩ := tI.info
  unfold aBuildSlice
  simp only [tI.hu, hj, tI.hz, e1]
  rw [if_pos ⟨rfl, by decide, by decide⟩, if_pos tI.hsc]
  simp [repL, fillL, lay, Value.cells]
/-- How it stands, while a text is gone through. -/
structure Inv (h0 : Heap) (s : ByteArray) (h : Heap) (p : Nat) (l : List Tok) (k : Int) (f : Nat) (t : List Int) (s2 tv : Value) : Prop where
  run : h[h0.length]? = some (.own [(Value.int .i64 k), (Value.int .i64 ((f : Int))), tv])
  si : h[h0.length + 1]? = some (.si s p)
  S : SlO h (h0.length + 2) 1 encT s2 l
  St : SlO h (h0.length + 2) 1 encI tv t
  dj : s2 = .slice none 0 0 ∨ tv = .slice none 0 0 ∨ slB s2 ≠ slB tv
  old : Old h0.length h0 h
  hd : ∀ r ∈ t, cls r = k
  ll : l.length ≤ 2 * p
  lt : t.length ≤ p
theorem Inv.len (I : Inv h0 s h p l k f t s2 tv) : h0.length + 2 ≤ h.length := lt_of I.si
theorem fresh {ε : Type} {h : Heap} {n sz : Nat} {enc : ε → List Value} {v : Value} {xs : List ε} {x : ε} (S : SlO h n sz enc v (xs ++ [x])) : n ≤ slB v := by
  rcases S.lo with e | ⟨h1, _⟩
  · have := SlO.nil_of (e ▸ S); simp at this
  · exact h1
/-- A sign is a token. -/
theorem Inv.sign (I : Inv h0 s h p l k f t s2 tv) (hro : md.ro ≤ h0.length) (hp : p ≤ 20000) (x : Tok) (hl : l.length + 1 ≤ 2 * p) :
    ∃ v' h', (∀ {α : Type} (kk : Value → Heap → Option α), aBuiltin Tryd.prog md .append #[23, 23] [s2, (Value.slice (some ⟨h.length, 0, none⟩) 1 1)] (h ++ [Blk.own [tokV x]]) kk = kk v' h') ∧ Inv h0 s h' p (l ++ [x]) k f t v' tv := by
  have hlen := I.len
  obtain ⟨v', h', e, S', hlt, ho⟩ := app_T (md := md) I.S (by omega) hlen (by have := I.ll; omega) x
  have fr := fresh S'
  have nb : ∀ y, y < h0.length + 2 → s2 = .slice none 0 0 ∨ y ≠ slB s2 := fun y hy => I.S.lo.imp id fun q => by omega
  refine ⟨v', h', fun kk => e kk, ⟨(ho _ (by omega) (nb _ (by omega))).trans I.run, (ho _ (by omega) (nb _ (by omega))).trans I.si, S'.mono (by omega), ?_, ?_, ⟨by have := I.old.len; omega, fun b hb => (ho b (by omega) (nb b (by omega))).trans (I.old.old b hb)⟩, I.hd, by simp; omega, I.lt⟩⟩
  · refine I.St.keep ?_
    rcases I.St.lo with q | q
    · exact .inl q
    · rcases I.dj with d | d | d
      · exact .inr (ho _ q.2 (.inl d))
      · exact .inl d
      · exact .inr (ho _ q.2 (.inr (Ne.symm d)))
  · rcases I.St.lo with q | q
    · exact .inr (.inl q)
    · exact .inr (.inr (by omega))
/-- A rune more of a row. -/
theorem Inv.rune (I : Inv h0 s h p l k f t s2 tv) (hro : md.ro ≤ h0.length) (hlim : md.lim ≤ h0.length) (hp : p ≤ 20000) {r : Int} (hr : cls r = k) (ht : t.length + 1 ≤ p) :
    ∃ v' h', (∀ {α : Type} (kk : Value → Heap → Option α), aBuiltin Tryd.prog md .append #[43, 43] [tv, (Value.slice (some ⟨h.length, 0, none⟩) 1 1)] (h ++ [Blk.own [.int .i32 r]]) kk = kk v' h') ∧
      ∃ h2, (∀ {α : Type} (kk : Heap → Option α), st md 1 ((Value.pointer (some ⟨h0.length, 2, none⟩))) v' h' kk = kk h2) ∧ Inv h0 s h2 p l k f (t ++ [r]) s2 v' := by
  have hlen := I.len
  obtain ⟨v', h', e, S', hlt, ho⟩ := append_own2 (md := md) (ys := [r]) tI I.St (by omega) hlen (cs := [.int .i32 r]) (by simp [flat]) (by simp) rfl (by have := I.lt; simp; omega)
  have fr := fresh S'
  have nb : ∀ y, y < h0.length + 2 → tv = .slice none 0 0 ∨ y ≠ slB tv := fun y hy => I.St.lo.imp id fun q => by omega
  have hb := (ho _ (by omega) (nb h0.length (by omega))).trans I.run
  have sl : ∃ a c d, v' = .slice a c d := by
    rcases S'.sl.is with ⟨rfl, _⟩ | ⟨b, o, kk, rfl, _⟩ <;> exact ⟨_, _, _, rfl⟩
  obtain ⟨a, c, d, rfl⟩ := sl
  refine ⟨_, h', fun kk => e kk, h'.set h0.length (.own [(Value.int .i64 k), (Value.int .i64 ((f : Int))), .slice a c d]), fun kk => ?_, ?_⟩
  · rw [st_1s, wr_l [.slice a c d] hb hro hlim (by simp)]
    rfl
  · have oth : ∀ y, y ≠ h0.length → (h'.set h0.length (.own [(Value.int .i64 k), (Value.int .i64 ((f : Int))), .slice a c d]))[y]? = h'[y]? := fun y hy => set_else (Ne.symm hy)
    refine ⟨set_here hb, (oth _ (by omega)).trans ((ho _ (by omega) (nb _ (by omega))).trans I.si), ?_, (S'.mono (by omega)).at fun y h1 h2 => oth y (by omega), ?_, ⟨by simp; have := I.old.len; omega, fun b hb => (oth b (by omega)).trans ((ho b (by omega) (nb b (by omega))).trans (I.old.old b hb))⟩, ?_, I.ll, by simp; omega⟩
    · refine I.S.keep ?_
      rcases I.S.lo with q | q
      · exact .inl q
      · refine .inr ((oth _ (by omega)).trans (ho _ q.2 ?_))
        rcases I.dj with d | d | d
        · exact absurd q.1 (by rw [d]; simp [slB])
        · exact .inl d
        · exact .inr d
    · rcases I.S.lo with q | q
      · exact .inl q
      · exact .inr (.inr (by omega))
    · intro x hx
      rcases List.mem_append.1 hx with q | q
      · exact I.hd x q
      · rw [List.mem_singleton.1 q]; exact hr
abbrev stp (s : ByteArray) (h0 : Heap) (s2 : Value) : Value × Value × Value × Value × Value × Value := (.string s, s2, (Value.int .i64 0), (Value.int .i64 0), (Value.pointer (some ⟨h0.length, 0, none⟩)), (Value.pointer (some ⟨h0.length + 1, 0, none⟩)))
/-- What a rune does that is of the row's kind. -/
theorem b0_s (I : Inv h0 s h p l k f t s2 tv) (hro : md.ro ≤ h0.length) (hlim : md.lim ≤ h0.length) (hp : p ≤ 20000) {r : Int} {q : Int} (hr : cls r = k) (hll : l.length + 1 ≤ 2 * p) (hlt : t.length + 1 ≤ p) (hk : k ≠ 0) :
    ∃ l' t' s2' tv' h', J11_0b0 C md (.string s) s2 ((Value.int .i64 0)) ((Value.int .i64 0)) ((Value.pointer (some ⟨h0.length, 0, none⟩))) ((Value.int .i64 q)) (.int .i32 r) ((Value.int .i64 k)) ((Value.pointer (some ⟨h0.length + 1, 0, none⟩))) h = some (.inl (stp s h0 s2', h')) ∧ Inv h0 s h' p l' k f t' s2' tv' ∧
      l' = (if k = 4 then l ++ [.c r] else l) ∧ t' = (if k = 4 then t else if k = 2 ∨ k = 3 then t ++ [r] else t) := by
  have b0 : (k == 0) = false := by simpa using hk
  by_cases k4 : k = 4
  · have b4 : (k == 4) = true := by rw [k4]; rfl
    obtain ⟨v', h', ea, I'⟩ := I.sign (md := md) hro hp (.c r) hll
    refine ⟨l ++ [.c r], t, v', tv, h', ?_, I', by rw [if_pos k4], by rw [if_pos k4]⟩
    have ea' : ∀ {α : Type} (kk : Value → Heap → Option α), aBuiltin Tryd.prog md .append #[23, 23] [s2, (Value.slice (some ⟨h.length, 0, none⟩) 1 1)] (h ++ [Blk.own [.iface 21 (.int .i32 r)]]) kk = kk v' h' := ea
    unfold J11_0b0
    simp only [go_sem, Nat.reduceAdd, Nat.reduceLeDiff, Nat.reduceMul, Int.reduceBEq, Int.reduceBNe, Int.reduceLT, Int.reduceLE, Int.reduceGT, aBin_eql, b0, b4, ea']
  · have b4 : (k == 4) = false := by simpa using k4
    by_cases k23 : k = 2 ∨ k = 3
    · obtain ⟨v', h', ea, h2, es, I'⟩ := I.rune (md := md) hro hlim hp hr hlt
      have q2 : rd h h0.length 2 = some tv := by rw [rd_own I.run]; rfl
      have bI := fun {α : Type} (kk : Value → Heap → Option α) => bs_I r h kk
      refine ⟨l, t ++ [r], s2, v', h2, ?_, I', by rw [if_neg k4], by rw [if_neg k4, if_pos k23]⟩
      unfold J11_0b0
      rcases k23 with k2 | k3
      · have b2 : (k == 2) = true := by rw [k2]; rfl
        unfold J11_0b1
        simp only [go_sem, Nat.reduceAdd, Nat.reduceLeDiff, Nat.reduceMul, Int.reduceBEq, Int.reduceBNe, Int.reduceLT, Int.reduceLE, Int.reduceGT, aBin_eql, b0, b4, b2, q2, bI, ea, es]
      · have b2 : (k == 2) = false := by rw [k3]; rfl
        have b3 : (k == 3) = true := by rw [k3]; rfl
        unfold J11_0b1
        simp only [go_sem, Nat.reduceAdd, Nat.reduceLeDiff, Nat.reduceMul, Int.reduceBEq, Int.reduceBNe, Int.reduceLT, Int.reduceLE, Int.reduceGT, aBin_eql, b0, b4, b2, b3, q2, bI, ea, es]
    · have b2 : (k == 2) = false := by simpa using fun e => k23 (.inl e)
      have b3 : (k == 3) = false := by simpa using fun e => k23 (.inr e)
      refine ⟨l, t, s2, tv, h, ?_, I, by rw [if_neg k4], by rw [if_neg k4, if_neg k23]⟩
      unfold J11_0b0
      unfold J11_0b1
      simp only [go_sem, Nat.reduceAdd, Nat.reduceLeDiff, Nat.reduceMul, Int.reduceBEq, Int.reduceBNe, Int.reduceLT, Int.reduceLE, Int.reduceGT, aBin_eql, b0, b4, b2, b3]
theorem next_end {α : Type} (hb : h[n]? = some (.si s p)) (hro : md.ro ≤ n) (hp : s.size ≤ p) (kk : Value → Heap → Option α) : aNext md ((Value.pointer (some ⟨n, 0, none⟩))) true h kk = kk ((Value.tuple #[.bool false])) h := by
  unfold aNext
  simp only [hb]
  rw [if_pos hro]
  have : Nat.blt p s.size = false := by rw [← Bool.not_eq_true, Nat.blt_eq]; omega
  rw [this]; rfl
theorem next_rune {α : Type} (hb : h[n]? = some (.si s p)) (hro : md.ro ≤ n) (hp : p < s.size) (kk : Value → Heap → Option α) : aNext md ((Value.pointer (some ⟨n, 0, none⟩))) true h kk =
    kk ((Value.tuple #[.bool true, (Value.int .i64 ((p : Int))), .int .i32 (((Utf8.decode s p).1 : Nat) : Int)])) (h.set n (.si s (p + (Utf8.decode s p).2))) := by
  unfold aNext
  simp only [hb]
  rw [if_pos hro]
  have : Nat.blt p s.size = true := by rw [Nat.blt_eq]; exact hp
  rw [this]; rfl
end Go.Det.E
