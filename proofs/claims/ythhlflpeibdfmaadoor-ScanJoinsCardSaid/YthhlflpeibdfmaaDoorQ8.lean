/- Scanning: a text's tokens, by the document. -/
import Derived.Test.YthhlflpeibdfmaaDoorQ7
set_option autoImplicit false
set_option linter.unusedVariables false
set_option linter.unusedSimpArgs false
namespace Go.Det.E
open Go.Proofs Go.Det
open Go.Lib (decodeL)
attribute [local congr] bind_c cond_c
variable {md : Md} {h hh h' h0 : Heap} {s : ByteArray} {l o : List Tok} {t : List Int} {k : Int} {f n m n0 p w i : Nat} {v tv s2 s3 s4 s5 s6 s14 : Value}
theorem enc_dig {r : Int} (h : 48 ≤ r ∧ r ≤ 57) : (Utf8.encode r).data.toList = [UInt8.ofNat r.toNat] := by
  unfold Utf8.encode
  have hv : Utf8.valid r = true := by unfold Utf8.valid; simp; omega
  simp only [hv, if_true]
  rw [if_pos (by omega)]
theorem encs_dig : ∀ {t : List Int}, (∀ r ∈ t, 48 ≤ r ∧ r ≤ 57) → encs t = t.map fun r => UInt8.ofNat r.toNat := by
  intro t
  induction t with
  | nil => intro _; rfl
  | cons r t ih =>
    intro ht
    have := ih fun x hx => ht x (List.mem_cons_of_mem _ hx)
    have e : encs (r :: t) = encs [r] ++ encs t := encs_app [r] t
    rw [e, encs_one, enc_dig (ht r (List.mem_cons_self ..)), this]
    rfl
theorem by_dig {t : List Int} (ht : ∀ r ∈ t, 48 ≤ r ∧ r ≤ 57) {j : Nat} {r : Int} (hr : t[j]? = some r) : ((by' (bs (encs t)) j : Nat) : Int) = r := by
  have h1 := ht r (List.mem_of_getElem? hr)
  have hj : j < t.length := (List.getElem?_eq_some_iff.1 hr).1
  have hsz : j < (bs (encs t)).size := by rw [encs_dig ht]; show j < (t.map _).toArray.size; simpa using hj
  have e : (bs (encs t))[j]? = some (UInt8.ofNat r.toNat) := by
    rw [getElem?_pos _ j hsz]
    show some ((encs t).toArray[j]) = _
    simp [encs_dig ht]
    rw [show t[j] = r from (List.getElem?_eq_some_iff.1 hr).2]
  rw [get_S hsz] at e
  have e2 : (bs (encs t)).get! j = UInt8.ofNat r.toNat := Option.some.inj e
  unfold by'
  rw [e2, UInt8.toNat_ofNat']
  omega
theorem row_eq {i j : Nat} : s.extract i j = bs ((s.data.toList.drop i).take (j - i)) := by
  apply ByteArray.ext
  rw [ByteArray.data_extract]
  apply Array.toList_inj.1
  simp
theorem tK : SlT Tryd.prog 27 50 3 32 [(Value.int .i64 0), (Value.int .i64 0), .string ⟨#[]⟩] := ⟨by kernel_rfl, by kernel_rfl, by kernel_rfl, rfl, by decide, by decide, rfl⟩
/-- One more of the document's tokens. -/
theorem app_K (S : SlO h n0 3 encK s5 o) (hro : md.ro ≤ n0) (hn0 : n0 ≤ h.length) (hl : o.length ≤ 100000) (x : Tok) :
    ∃ v' h', (∀ {α : Type} (kk : Value → Heap → Option α), aBuiltin Tryd.prog md .append #[27, 27] [s5, (Value.slice (some ⟨h.length, 0, none⟩) 1 3)] (h ++ [Blk.own (encK x)]) kk = kk v' h') ∧ SlO h' n0 3 encK v' (o ++ [x]) ∧ Old n0 h h' := by
  obtain ⟨v', h', e, S', O'⟩ := append_own (md := md) (ys := [x]) tK S hro hn0 (cs := encK x) (by simp [flat]) (by simp) (encK_cell x) (by simp; omega)
  exact ⟨v', h', fun kk => e kk, S', O'⟩
theorem rrun_lp (hs : s.size ≤ 20000) (hk : k ≠ 0) {fr : Nat} : ∀ (m i : Nat), s.size - i ≤ m → i ≤ s.size → ∃ ts,
    J12_0b1 C md (.string s) s2 s3 s4 s5 ((Value.int .i64 ((i : Int)))) ((Value.int .i64 k)) ((Value.int .i64 ((fr : Int)))) h = J12_0b2 C md (.string s) s2 s3 s4 s5 ((Value.int .i64 (((i + wid ts : Nat) : Int)))) ((Value.int .i64 k)) ((Value.int .i64 ((fr : Int)))) h ∧
    i + wid ts ≤ s.size ∧ items (s.data.toList.drop i) = ts ++ items (s.data.toList.drop (i + wid ts)) ∧ (∀ x ∈ ts, cls (x.1 : Int) = k) ∧ (items (s.data.toList.drop (i + wid ts)) = [] ∨ ∃ y ys, items (s.data.toList.drop (i + wid ts)) = y :: ys ∧ cls (y.1 : Int) ≠ k) ∧
    (s.data.toList.drop i).take (wid ts) = encs (rns ts) := by
  have len : ∀ {α : Type} (k : Value → Option α), lenT (.string s) k = k ((Value.int .i64 (((s.size : Nat) : Int)))) := fun k => rfl
  have fin' : ∀ i, i = s.size → ∃ ts, J12_0b1 C md (.string s) s2 s3 s4 s5 ((Value.int .i64 ((i : Int)))) ((Value.int .i64 k)) ((Value.int .i64 ((fr : Int)))) h = J12_0b2 C md (.string s) s2 s3 s4 s5 ((Value.int .i64 (((i + wid ts : Nat) : Int)))) ((Value.int .i64 k)) ((Value.int .i64 ((fr : Int)))) h ∧
    i + wid ts ≤ s.size ∧ items (s.data.toList.drop i) = ts ++ items (s.data.toList.drop (i + wid ts)) ∧ (∀ x ∈ ts, cls (x.1 : Int) = k) ∧ (items (s.data.toList.drop (i + wid ts)) = [] ∨ ∃ y ys, items (s.data.toList.drop (i + wid ts)) = y :: ys ∧ cls (y.1 : Int) ≠ k) ∧
    (s.data.toList.drop i).take (wid ts) = encs (rns ts) := by
    intro i hi
    have ng : ¬ ((i : Int) < ((s.size : Nat) : Int)) := by omega
    refine ⟨[], ?_, by rw [hi]; exact Nat.le_refl _, rfl, fun x hx => (by simp at hx), .inl (at_end (by rw [hi]; exact Nat.le_add_right _ _)), rfl⟩
    rw [J12_0b1_step]
    unfold Jr12_0b1
    simp only [go_sem, Nat.reduceAdd, Nat.reduceLeDiff, Nat.reduceMul, Int.reduceBEq, Int.reduceBNe, Int.reduceLT, Int.reduceLE, Int.reduceGT, len, aBin_lss, ng, Jk12_0b1]
    rfl
  intro m
  induction m with
  | zero => intro i hm hi; exact fin' i (by omega)
  | succ m ih =>
    intro i hm hi
    by_cases hps : i = s.size
    · exact fin' i hps
    obtain ⟨r, w, dc, hw, hpw, hr, hit⟩ := at_rune (s := s) (p := i) (by omega)
    have hlt : ((i : Int) < ((s.size : Nat) : Int)) := by omega
    have rn := fun (m : Md) (g : Heap) => rune_s (s := s) (i := i) (by omega) (by omega) m g
    rw [dc] at rn
    have cl := fun (m : Md) (g : Heap) => rclass_s m g ((r : Nat) : Int)
    by_cases ck : cls (r : Int) = k
    · have bne : (cls (r : Int) != k) = false := by simp [ck]
      obtain ⟨ts, e, h1, h2, h3, h4, h5⟩ := ih (i + w) (by omega) hpw
      have w1 : IntKind.wrap .i64 ((i : Int) + ((w : Nat) : Int)) = ((i + w : Nat) : Int) := by rw [IntKind.wrap_i64]; omega
      have ea : i + wid ((r, w) :: ts) = i + w + wid ts := by rw [wid_cons]; show i + (w + wid ts) = _; omega
      refine ⟨(r, w) :: ts, ?_, ?_, ?_, ?_, ?_, ?_⟩
      · rw [J12_0b1_step]
        unfold Jr12_0b1
        simp only [go_sem, Nat.reduceAdd, Nat.reduceLeDiff, Nat.reduceMul, Int.reduceBEq, Int.reduceBNe, Int.reduceLT, Int.reduceLE, Int.reduceGT, len, aBin_lss, hlt, rn, cl, aBin_neq, bne, aBin_add, w1]
        rw [ea]
        exact e
      · rw [ea]; exact h1
      · rw [ea, hit, List.cons_append, ← h2]
      · intro x hx
        rcases List.mem_cons.1 hx with rfl | hx
        · exact ck
        · exact h3 x hx
      · rw [ea]; exact h4
      · have hne : s.data.toList.drop i ≠ [] := by
          intro e
          rw [e, items_nil] at hit; cases hit
        have dl := Lib.decodeL_drop s i
        rw [dc] at dl
        have eb := enc_back hne (by rw [dl, ck]; exact hk)
        rw [dl] at eb
        have : encs (rns ((r, w) :: ts)) = encs [(r : Int)] ++ encs (rns ts) := encs_app [(r : Int)] (rns ts)
        rw [this, eb, ← h5, wid_cons, List.take_add, List.drop_drop]
    · have bne : (cls (r : Int) != k) = true := by simp [ck]
      refine ⟨[], ?_, hi, rfl, fun x hx => (by simp at hx), .inr ⟨(r, w), _, hit, ck⟩, rfl⟩
      rw [J12_0b1_step]
      unfold Jr12_0b1
      simp only [go_sem, Nat.reduceAdd, Nat.reduceLeDiff, Nat.reduceMul, Int.reduceBEq, Int.reduceBNe, Int.reduceLT, Int.reduceLE, Int.reduceGT, len, aBin_lss, hlt, rn, cl, aBin_neq, bne, Jk12_0b1]
      rfl
end Go.Det.E
