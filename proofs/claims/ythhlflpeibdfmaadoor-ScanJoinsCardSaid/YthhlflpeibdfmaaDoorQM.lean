/- Scanning: the law of numbers. -/
import Derived.Test.YthhlflpeibdfmaaDoorQJ
import Derived.Test.YthhlflpeibdfmaaDoorQK
import Derived.Lib.ItoaLen
set_option autoImplicit false
set_option linter.unusedVariables false
set_option linter.unusedSimpArgs false
namespace Go.Det.E
open Go.Proofs Go.Det
open Go.Lib (decodeL)
attribute [local congr] bind_c cond_c
variable {md : Md} {h hh h' h0 : Heap} {s : ByteArray} {l o : List Tok} {k : Int} {f n m n0 p w i : Nat} {v tv a b : Value}
theorem itoa_s {n : Int} (h0 : -9223372036854775808 ≤ n) (h1 : n ≤ 9223372036854775807) (md : Md) (h : Heap) : C md 29 [(Value.int .i64 n)] h = some (.string (bs (Lib.itoa n)), h) := by
  rw [C, call_eq]
  refine callStep_ext (by kernel_rfl) (by kernel_rfl) ?_ rfl
  show extItoa ((Value.int .i64 n)) = _
  unfold extItoa
  dsimp only
  rw [itoaF_eq h0 h1]
  exact if_pos ⟨h0, h1⟩
theorem cv_r {α : Type} {n : Int} (k : Value → Option α) : aConv Tryd.prog 21 9 (.int .i32 n) k = k (.string (Utf8.encode n)) := by kernel_rfl
/-- What a token says. -/
theorem say_tok {t : Tok} (ht : Good t) (md : Md) (h : Heap) : C md 20 [tokV t] h = some (.string (bs (tx t)), h) := by
  rw [C, call_eq, F20_eq]
  unfold F20
  cases t with
  | n v =>
    obtain ⟨ts, hr, hb, rfl⟩ := ht
    have hne : rns ts ≠ [] := fun q => hr.1 (List.map_eq_nil_iff.1 q)
    have e := dig_text hne (row_dig hr) hb
    obtain ⟨L1, L2, L3, L4⟩ := lk_i (val (rns ts))
    have it := fun (m : Md) (g : Heap) => itoa_s (n := val (rns ts)) (by omega) (by omega) m g
    simp only [tokV, tx, go_sem, Nat.reduceAdd, Nat.reduceLeDiff, Nat.reduceMul, Int.reduceBEq, Int.reduceBNe, Int.reduceLT, Int.reduceLE, Int.reduceGT, L1, it]
  | s q =>
    obtain ⟨L1, L2, L3, L4⟩ := lk_s (bs q)
    simp only [tokV, tx, go_sem, Nat.reduceAdd, Nat.reduceLeDiff, Nat.reduceMul, Int.reduceBEq, Int.reduceBNe, Int.reduceLT, Int.reduceLE, Int.reduceGT, L1, L2]
  | c r =>
    obtain ⟨L1, L2, L3, L4⟩ := lk_r r
    have e : (.string (Utf8.encode r) : Value) = .string (bs (encs [r])) := by rw [encs_one]
    have cv : ∀ {α : Type} (k : Value → Option α), aConv Tryd.prog 21 9 (.int .i32 r) k = k (.string (bs (encs [r]))) := fun k => by rw [cv_r, e]
    simp only [tokV, tx, go_sem, Nat.reduceAdd, Nat.reduceLeDiff, Nat.reduceMul, Int.reduceBEq, Int.reduceBNe, Int.reduceLT, Int.reduceLE, Int.reduceGT, L1, L2, L3, cv]
theorem numbers_law : Law Tryd.prog cfg 9 [3] := by
  intro h avs ha
  obtain ⟨w, r, rfl, a1, ha⟩ := args_cons ha
  obtain rfl := args_nil ha
  obtain ⟨z, rfl, hz⟩ := inI64 (arg1 (by kernel_rfl) (by kernel_rfl) a1 : TyS h (.i .i64) w)
  have len : ∀ {α : Type} (l : List UInt8) (k : Value → Option α), lenT (.string (bs l)) k = k ((Value.int .i64 (((l.length : Nat) : Int)))) := fun l k => rfl
  have tk : h.take h.length = h := take_same (Nat.le_refl _)
  rw [call_eq, F9_eq]
  unfold F9
  by_cases h2 : z < 0
  · exact ⟨h, by simp only [go_sem, Nat.reduceAdd, Nat.reduceLeDiff, Nat.reduceMul, Int.reduceBEq, Int.reduceBNe, Int.reduceLT, Int.reduceLE, Int.reduceGT, h2, awake04, tk]⟩
  by_cases h3 : z > 999999999
  · exact ⟨h, by simp only [go_sem, Nat.reduceAdd, Nat.reduceLeDiff, Nat.reduceMul, Int.reduceBEq, Int.reduceBNe, Int.reduceLT, Int.reduceLE, Int.reduceGT, h2, aBin_gtr, h3, awake04, tk]⟩
  obtain ⟨n, rfl⟩ : ∃ n : Nat, z = (n : Int) := ⟨z.toNat, by omega⟩
  have hn : n ≤ 999999999 := by omega
  have t1 := told_num hn
  have t2 := told_bad hn
  have il := Lib.itoa_length_le (n : Int) (by omega) (by omega)
  have sy := fun (m : Md) (g : Heap) => say_tok (num_good hn).1 m g
  simp only [tokV, tx] at sy
  obtain ⟨va, ha, ea, Sa, Oa⟩ := scan_t (md := ⟨0, h.length⟩) (h := h) (l := Lib.itoa (n : Int)) (Nat.zero_le _) (Nat.le_refl _) (by omega)
  have la := Oa.len
  obtain ⟨vb, hb, eb, Sb, Ob⟩ := scan_t (md := ⟨0, h.length⟩) (h := ha) (l := [120, 32, 48] ++ Lib.itoa (n : Int)) (Nat.zero_le _) (by show h.length ≤ ha.length; omega) (by simp; omega)
  rw [t1] at ea Sa
  rw [t2] at eb Sb
  have d1 : ∀ {α : Type} (k : Value → Option α), aBin Tryd.prog .add 9 (.string ⟨#[120, 32, 48]⟩) (.string (bs (Lib.itoa (n : Int)))) k = k (.string (bs ([120, 32, 48] ++ Lib.itoa (n : Int)))) := fun k => add_S (l := [120, 32, 48]) (by simp; omega) k
  have Sa3 : Sl hb 1 encT va [.n (n : Int)] := Sa.sl.heap fun hl => Ob.old _ hl
  have q1 : ∀ {α : Type} (k : Value → Option α), lenS va k = k ((Value.int .i64 1)) := fun k => Sa3.len k
  have eb : C ⟨0, h.length⟩ 11 [.string (bs ([120, 32, 48] ++ Lib.itoa (n : Int)))] ha = some ((Value.tuple #[vb, (Value.int .i64 2), (Value.int .i64 41)]), hb) := eb
  obtain ⟨i1, r1⟩ := Sl.getV (Sl.toks Sa3) (k := 0) (x := tokV (.n (n : Int))) rfl
  have z0 : ((0 : Nat) : Int) = 0 := rfl
  rw [z0] at i1
  rw [Nat.add_zero] at r1
  have eq := fun (m : Md) (g : Heap) => eq_tok m g (.n (n : Int))
  simp only [tokV] at r1 eq
  refine ⟨hb.take h.length, ?_⟩
  generalize hD : [120, 32, 48] ++ Lib.itoa (n : Int) = D at *
  simp only [go_sem, Nat.reduceAdd, Nat.reduceLeDiff, Nat.reduceMul, Int.reduceBEq, Int.reduceBNe, Int.reduceLT, Int.reduceLE, Int.reduceGT, h2, aBin_gtr, h3, sy, ea, d1, eb, len, aBin_eql, beq_self_eq_true, q1, i1, r1, eq, awake04]
end Go.Det.E
