/- Scanning: the law of joining. -/
import Derived.Test.YthhlflpeibdfmaaDoorQM
import Derived.Test.YthhlflpeibdfmaaDoorQN
set_option autoImplicit false
set_option linter.unusedVariables false
set_option linter.unusedSimpArgs false
namespace Go.Det.E
open Go.Proofs Go.Det
open Go.Lib (decodeL)
attribute [local congr] bind_c cond_c
variable {md : Md} {h hh h' h0 : Heap} {s : ByteArray} {l o : List Tok} {f n m n0 p w i : Nat} {v tv a b s2 s3 : Value}
abbrev encS (b : List UInt8) : List Value := [.string (bs b)]
theorem encS_len (b : List UInt8) : (encS b).length = 1 := rfl
theorem encS_cell (b : List UInt8) : (encS b).all isCell = true := rfl
theorem tS : SlT Tryd.prog 51 9 1 16 [.string ⟨#[]⟩] := ⟨by kernel_rfl, by kernel_rfl, by kernel_rfl, rfl, by decide, by decide, rfl⟩
theorem bs_St {α : Type} (r : ByteArray) (h : Heap) (k : Value → Heap → Option α) : aBuildSlice Tryd.prog 51 1 [(0, .string r)] h k = k ((Value.slice (some ⟨h.length, 0, none⟩) 1 1)) (h ++ [.own [.string r]]) := by
  obtain ⟨j, hj, e1, e2⟩ := tS.info
  unfold aBuildSlice
  simp only [tS.hu, hj, tS.hz, e1]
  rw [if_pos ⟨rfl, by decide, by decide⟩, if_pos tS.hsc]
  simp [repL, fillL, lay, Value.cells]
theorem strs_flat (xs : List (List UInt8)) : strsOf (flat encS xs) = some (xs.map bs) := by
  induction xs with
  | nil => rfl
  | cons x xs ih => rw [flat_cons]; simp [strsOf, ih]
/-- What the library joins. -/
theorem join_ext {xs : List (List UInt8)} (S : Sl h 1 encS v xs) (hl : xs.length ≤ 140737488355328) (hj : (Lib.join xs [32]).length ≤ 140737488355328) (md : Md) : C md 23 [v, .string ⟨#[32]⟩] h = some (.string (bs (Lib.join xs [32])), h) := by
  rw [C, call_eq]
  refine callStep_ext (by kernel_rfl) (by kernel_rfl) ?_ rfl
  show extJoin h v (.string ⟨#[32]⟩) = _
  have em : (xs.map bs).map (·.data.toList) = xs := by rw [List.map_map]; exact List.map_id' xs
  rcases S.is with ⟨rfl, rfl⟩ | ⟨b, o, kb, rfl, hb, hc, hl2⟩
  · rfl
  · have r : rdN h b o xs.length = some (flat encS xs) := by
      have := rdN_at hb (i := o) (n := xs.length * 1) hl2
      rw [hc, Nat.mul_one] at this
      exact this
    unfold extJoin
    simp only [r, strs_flat, em]
    exact if_pos ⟨hl, hj⟩
theorem join_lp (SV : Sl hh 1 encT v l) (hg : ∀ x ∈ l, Good x) (hlen : l.length ≤ 10000) (htot : tot l ≤ 100000) (hro : md.ro ≤ hh.length) : ∀ (m j : Nat) (k : Heap) (s3 : Value), j + m = l.length → SlO k hh.length 1 encS s3 ((l.take j).map tx) → Old hh.length hh k →
    J18_0 C md h0 s2 s3 v ((Value.int .i64 ((l.length : Int)))) ((Value.int .i64 ((j : Int)))) k = some (.string (bs (jn l)), h0) := by
  intro m
  induction m with
  | zero =>
    intro j k s3 hj S O
    obtain rfl : j = l.length := by omega
    rw [List.take_length] at S
    have jl := jn_len l
    have je := fun (m : Md) => join_ext S.sl (by rw [List.length_map]; omega) (show (jn l).length ≤ _ by omega) m
    rw [J18_0_step]
    unfold Jr18_0
    simp only [go_sem, Nat.reduceAdd, Nat.reduceLeDiff, Nat.reduceMul, Int.reduceBEq, Int.reduceBNe, Int.reduceLT, Int.reduceLE, Int.reduceGT, aBin_lss, Int.lt_irrefl, Jk18_0, je]
    rfl
  | succ m ih =>
    intro j k s3 hj S O
    have hlt : (j : Int) < (l.length : Int) := by omega
    obtain ⟨x, hx⟩ : ∃ x, l[j]? = some x := ⟨l[j]'(by omega), List.getElem?_eq_getElem (by omega)⟩
    have ol := O.len
    have S0 : Sl k 1 encT v l := SV.heap fun hl => O.old _ hl
    obtain ⟨i1, r1⟩ := Sl.getV (Sl.toks S0) (x := tokV x) (k := j) (by rw [List.getElem?_map, hx]; rfl)
    have sy := fun (m : Md) (g : Heap) => say_tok (hg x (List.mem_of_getElem? hx)) m g
    have w : IntKind.wrap .i64 ((j : Int) + 1) = ((j + 1 : Nat) : Int) := by rw [IntKind.wrap_i64]; omega
    have bS := fun {α : Type} (g : Heap) (kk : Value → Heap → Option α) => bs_St (bs (tx x)) g kk
    obtain ⟨v2, h2, ea, S2, O2⟩ := append_own (md := md) (ys := [tx x]) tS S hro ol (cs := [.string (bs (tx x))]) (by simp [flat]) (by simp) rfl (by simp; omega)
    have ea' : ∀ {α : Type} (kk : Value → Heap → Option α), aBuiltin Tryd.prog md .append #[51, 51] [s3, (Value.slice (some ⟨k.length, 0, none⟩) 1 1)] (k ++ [Blk.own [.string (bs (tx x))]]) kk = kk v2 h2 := fun kk => ea kk
    have tk : (l.take j).map tx ++ [tx x] = (l.take (j + 1)).map tx := by rw [List.take_add_one, hx]; simp
    rw [tk] at S2
    rw [J18_0_step]
    unfold Jr18_0
    simp only [go_sem, Nat.reduceAdd, Nat.reduceLeDiff, Nat.reduceMul, Int.reduceBEq, Int.reduceBNe, Int.reduceLT, Int.reduceLE, Int.reduceGT, aBin_lss, hlt, ixSV_p, i1, r1, sy, bS, ea', aBin_add, w]
    exact ih (j + 1) h2 v2 (by omega) S2 (O.trans O2)
theorem join_s (SV : Sl h 1 encT v l) (hg : ∀ x ∈ l, Good x) (hlen : l.length ≤ 10000) (htot : tot l ≤ 100000) (md : Md) : C md 18 [v] h = some (.string (bs (jn l)), h) := by
  have len := fun {α : Type} (kk : Value → Option α) => SV.len kk
  have e := join_lp (md := ⟨h.length, h.length⟩) (h0 := h) (s2 := .string ⟨#[]⟩) SV hg hlen htot (Nat.le_refl _) l.length 0 h (.slice none 0 0) (by omega) (SlO.nil _ _ encS_len) (Old.refl _ _)
  rw [C, call_eq, F18_eq]
  unfold F18
  simp only [go_sem, Nat.reduceAdd, Nat.reduceLeDiff, Nat.reduceMul, Int.reduceBEq, Int.reduceBNe, Int.reduceLT, Int.reduceLE, Int.reduceGT, len]
  exact e
set_option maxHeartbeats 1000000 in
theorem joins_law : Law Tryd.prog cfg 6 [9] := by
  intro h avs ha
  obtain ⟨v, r, rfl, a0, ha⟩ := args_cons ha
  obtain rfl := args_nil ha
  obtain ⟨s, rfl, _⟩ := inS (arg1 (by kernel_rfl) (by kernel_rfl) a0 : TyS h .s v)
  obtain ⟨S, eS⟩ : ∃ S, s = bs S := ⟨_, bs_of s⟩
  subst eS
  have len : ∀ {α : Type} (l : List UInt8) (k : Value → Option α), lenT (.string (bs l)) k = k ((Value.int .i64 (((l.length : Nat) : Int)))) := fun l k => rfl
  have tk : h.take h.length = h := take_same (Nat.le_refl _)
  rw [call_eq, F6_eq]
  unfold F6
  by_cases h1 : ((S.length : Nat) : Int) > 300
  · exact ⟨h, by simp only [go_sem, Nat.reduceAdd, Nat.reduceLeDiff, Nat.reduceMul, Int.reduceBEq, Int.reduceBNe, Int.reduceLT, Int.reduceLE, Int.reduceGT, len, h1, awake04, tk]⟩
  obtain ⟨va, ha, ea, Sa, Oa⟩ := scan_t (md := ⟨0, h.length⟩) (h := h) (l := S) (Nat.zero_le _) (Nat.le_refl _) (by omega)
  have la := Oa.len
  by_cases eA : (told S).2.2 = 0
  · have bA : ((told S).2.2 != 0) = false := by rw [eA]; rfl
    obtain ⟨tg, tt⟩ := told_good S
    have n1 := told_len S
    have jl := jn_len (told S).1
    have js := fun (m : Md) => join_s Sa.sl tg (by omega) (by omega) m
    have tj := told_jn tg
    obtain ⟨vb, hb, eb, Sb, Ob⟩ := scan_t (md := ⟨0, h.length⟩) (h := ha) (l := jn (told S).1) (Nat.zero_le _) (by show h.length ≤ ha.length; omega) (by omega)
    rw [tj] at eb Sb
    have Sa3 : Sl hb 1 encT va (told S).1 := Sa.sl.heap fun hl => Ob.old _ hl
    have q1 := fun {α : Type} (k : Value → Option α) => Sa3.len k
    have q3 := fun {α : Type} (k : Value → Option α) => Sb.sl.len k
    have z : ((0 : Int) == 0) = true := rfl
    by_cases zz : (((told S).1.length : Nat) : Int) = 0
    · have bz : ((((told S).1.length : Nat) : Int) == 0) = true := by rw [zz]; rfl
      refine ⟨hb.take h.length, ?_⟩
      simp only [go_sem, Nat.reduceAdd, Nat.reduceLeDiff, Nat.reduceMul, Int.reduceBEq, Int.reduceBNe, Int.reduceLT, Int.reduceLE, Int.reduceGT, len, h1, ea, bA, js, eb, z, aBin_eql, beq_self_eq_true, q1, q3, bz, awake04]
    · have bz : ((((told S).1.length : Nat) : Int) == 0) = false := by simpa using zz
      have eq := fun (m : Md) => eq_toks Sa3 Sb.sl (by omega) (SlO.below Sb) m
      refine ⟨hb.take h.length, ?_⟩
      simp only [go_sem, Nat.reduceAdd, Nat.reduceLeDiff, Nat.reduceMul, Int.reduceBEq, Int.reduceBNe, Int.reduceLT, Int.reduceLE, Int.reduceGT, len, h1, ea, bA, js, eb, z, aBin_eql, beq_self_eq_true, q1, q3, bz, eq, awake04]
  · have bA : ((told S).2.2 != 0) = true := by simpa using eA
    refine ⟨ha.take h.length, ?_⟩
    simp only [go_sem, Nat.reduceAdd, Nat.reduceLeDiff, Nat.reduceMul, Int.reduceBEq, Int.reduceBNe, Int.reduceLT, Int.reduceLE, Int.reduceGT, len, h1, ea, bA, awake04]
end Go.Det.E
