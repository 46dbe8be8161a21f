/- Scanning: tokens; what a text is told as. No program in sight but its types' numbers. -/
import Derived.Test.YthhlflpeibdfmaaDoorQ2
set_option autoImplicit false
set_option linter.unusedVariables false
set_option linter.unusedSimpArgs false
namespace Go.Det.E
open Go.Proofs Go.Det
open Go.Lib (decodeL)
attribute [local congr] bind_c cond_c
abbrev bs (l : List UInt8) : ByteArray := ⟨l.toArray⟩
theorem bs_of (b : ByteArray) : b = bs b.data.toList := rfl
/-- A token. -/
inductive Tok
  | n (v : Int)
  | s (b : List UInt8)
  | c (r : Int)
def tokV : Tok → Value
  | .n v => .iface 3 (.int .i64 v)
  | .s b => .iface 9 (.string (bs b))
  | .c r => .iface 21 (.int .i32 r)
abbrev encT (t : Tok) : List Value := [tokV t]
theorem encT_len (t : Tok) : (encT t).length = 1 := rfl
theorem encT_cell (t : Tok) : (encT t).all isCell = true := by cases t <;> rfl
/-- The document's token. -/
def encK : Tok → List Value
  | .n v => [(Value.int .i64 1), (Value.int .i64 v), .string ⟨#[]⟩]
  | .s b => [(Value.int .i64 2), (Value.int .i64 0), .string (bs b)]
  | .c r => [(Value.int .i64 3), (Value.int .i64 r), .string ⟨#[]⟩]
theorem encK_len (t : Tok) : (encK t).length = 3 := by cases t <;> rfl
theorem encK_cell (t : Tok) : (encK t).all isCell = true := by cases t <;> rfl
abbrev encI (r : Int) : List Value := [.int .i32 r]
theorem encI_len (r : Int) : (encI r).length = 1 := rfl
theorem encI_cell (r : Int) : (encI r).all isCell = true := rfl
/-- A text's runes, each with its bytes' number. -/
def items (l : List UInt8) : List (Nat × Nat) :=
  if h : l = [] then [] else decodeL l :: items (l.drop (decodeL l).2)
termination_by l.length
decreasing_by
  have := Lib.decodeL_width l
  have := List.length_pos_iff.2 h
  rw [List.length_drop]; omega
theorem items_nil : items [] = [] := by rw [items, dif_pos rfl]
theorem items_cons {l : List UInt8} (h : l ≠ []) : items l = decodeL l :: items (l.drop (decodeL l).2) := by rw [items, dif_neg h]
/-- What digits amount to. -/
def val (t : List Int) : Int := t.foldl (fun n r => 10 * n + (r - 48)) 0
theorem val_snoc (t : List Int) (r : Int) : val (t ++ [r]) = 10 * val t + (r - 48) := by simp [val]
theorem fold_lt : ∀ (t : List Int) (a : Int), (∀ r ∈ t, 48 ≤ r ∧ r ≤ 57) → 0 ≤ a → 0 ≤ t.foldl (fun n r => 10 * n + (r - 48)) a ∧ t.foldl (fun n r => 10 * n + (r - 48)) a < (a + 1) * ((10 ^ t.length : Nat) : Int) := by
  intro t
  induction t with
  | nil => intro a _ h; exact ⟨h, by simp; omega⟩
  | cons r t ih =>
    intro a ht h
    have hr := ht r (List.mem_cons_self ..)
    obtain ⟨h1, h2⟩ := ih (10 * a + (r - 48)) (fun x hx => ht x (List.mem_cons_of_mem _ hx)) (by omega)
    refine ⟨h1, Int.lt_of_lt_of_le h2 ?_⟩
    rw [List.length_cons, Nat.pow_succ]
    have e : (a + 1) * ((10 ^ t.length * 10 : Nat) : Int) = (10 * (a + 1)) * ((10 ^ t.length : Nat) : Int) := by
      rw [Int.natCast_mul, Int.mul_comm 10 (a + 1), Int.mul_assoc, Int.mul_comm ((10 ^ t.length : Nat) : Int)]; rfl
    rw [e]
    exact Int.mul_le_mul_of_nonneg_right (by omega) (Int.natCast_nonneg _)
theorem val_lt {t : List Int} (ht : ∀ r ∈ t, 48 ≤ r ∧ r ≤ 57) : 0 ≤ val t ∧ val t < ((10 ^ t.length : Nat) : Int) := by
  have h := fold_lt t 0 ht (by decide)
  refine ⟨h.1, Int.lt_of_lt_of_le h.2 ?_⟩
  omega
theorem val_take {t : List Int} (ht : ∀ r ∈ t, 48 ≤ r ∧ r ≤ 57) (hl : t.length ≤ 9) (j : Nat) : 0 ≤ val (t.take j) ∧ val (t.take j) < 1000000000 := by
  have h := val_lt (t := t.take j) fun r hr => ht r (List.mem_of_mem_take hr)
  have q : (t.take j).length ≤ 9 := by rw [List.length_take]; omega
  have : (10 : Nat) ^ (t.take j).length ≤ 10 ^ 9 := Nat.pow_le_pow_right (by decide) q
  refine ⟨h.1, Int.lt_of_lt_of_le h.2 ?_⟩
  have e : (10 : Nat) ^ 9 = 1000000000 := by decide
  omega
def encs (t : List Int) : List UInt8 := t.flatMap fun r => (Utf8.encode r).data.toList
def bad (t : List Int) : Bool := decide (9 < t.length) || (decide (1 < t.length) && (t.head? == some 48))
/-- The tokens when a row of like runes ends. -/
def fin (l : List Tok) (k : Int) (t : List Int) : Option (List Tok) :=
  if k = 2 then (if bad t = true then none else some (l ++ [.n (val t)])) else if k = 3 then some (l ++ [.s (encs t)]) else some l
/-- A text's tokens, where it ends, an error's number. -/
def mach : List (Nat × Nat) → Nat → List Tok → Int → Nat → List Int → List Tok × Nat × Int
  | [], p, l, k, f, t => (match fin l k t with | none => ([], f, 41) | some l' => (l', p, 0))
  | (r, w) :: is, p, l, k, f, t =>
    if cls r = k then
      (if cls r = 0 then ([], p, 40) else if cls r = 4 then mach is (p + w) (l ++ [.c r]) k f t else if cls r = 2 ∨ cls r = 3 then mach is (p + w) l k f (t ++ [(r : Int)]) else mach is (p + w) l k f t)
    else (match fin l k t with
      | none => ([], f, 41)
      | some l' => (if cls r = 0 then ([], p, 40) else if cls r = 4 then mach is (p + w) (l' ++ [.c r]) (cls r) p [] else if cls r = 2 ∨ cls r = 3 then mach is (p + w) l' (cls r) p [(r : Int)] else mach is (p + w) l' (cls r) p []))
variable {md : Md} {h hh h' h0 : Heap} {l : List Tok} {t : List Int} {k : Int} {f n m : Nat} {v w tv s2 : Value}
theorem cls2 {r : Int} (h : cls r = 2) : 48 ≤ r ∧ r ≤ 57 := by
  unfold cls at h
  repeat' split at h
  all_goals omega
theorem getI {v : Value} {t : List Int} (S : Sl h 1 encI v t) {j : Nat} {r : Int} (hr : t[j]? = some r) : (∀ {α : Type} (kk : Value → Option α), ixS 1 v (j : Int) kk = kk ((Value.pointer (some ⟨slB v, slO v + j, none⟩)))) ∧ rd h (slB v) (slO v + j) = some (.int .i32 r) := by
  have h1 : j < t.length := (List.getElem?_eq_some_iff.1 hr).1
  refine ⟨fun kk => ?_, ?_⟩
  · rw [S.ix (by omega) (by omega) kk, Nat.mul_one, Int.toNat_natCast]
  · have := S.cell hr (j := 0) (by decide)
    rw [Nat.mul_one, Nat.add_zero] at this
    exact this
theorem num_lp {s2 s3 : Value} (St : Sl h 1 encI tv t) (ht : ∀ r ∈ t, 48 ≤ r ∧ r ≤ 57) (hl : t.length ≤ 9) : ∀ (m j : Nat), j + m = t.length →
    J30_0 C md h0 s2 s3 ((Value.int .i64 (val (t.take j)))) tv ((Value.int .i64 ((t.length : Int)))) ((Value.int .i64 ((j : Int)))) h = some ((Value.tuple #[(Value.int .i64 (val t)), .bool true]), h0) := by
  intro m
  induction m with
  | zero =>
    intro j hj
    obtain rfl : j = t.length := by omega
    rw [J30_0_step]
    unfold Jr30_0
    rw [List.take_length]
    simp only [go_sem, Nat.reduceAdd, Nat.reduceLeDiff, Nat.reduceMul, Int.reduceBEq, Int.reduceBNe, Int.reduceLT, Int.reduceLE, Int.reduceGT, aBin_lss, Int.lt_irrefl, Jk30_0]
  | succ m ih =>
    intro j hj
    have hlt : (j : Int) < (t.length : Int) := by omega
    obtain ⟨r, hr⟩ : ∃ r, t[j]? = some r := ⟨t[j]'(by omega), List.getElem?_eq_getElem (by omega)⟩
    obtain ⟨i1, r1⟩ := getI St hr
    have hr2 := ht r (List.mem_of_getElem? hr)
    have v1 := val_take ht hl j
    have v2 := val_take ht hl (j + 1)
    have e : val (t.take (j + 1)) = 10 * val (t.take j) + (r - 48) := by rw [List.take_add_one, hr]; exact val_snoc _ _
    have w0 : IntKind.wrap .i64 (10 * val (t.take j)) = 10 * val (t.take j) := by rw [IntKind.wrap_i64]; omega
    have w1 : IntKind.wrap .i64 (IntKind.wrap .i32 (r - 48)) = r - 48 := by rw [IntKind.wrap_i32, IntKind.wrap_i64]; omega
    have w2 : IntKind.wrap .i64 (10 * val (t.take j) + (r - 48)) = val (t.take (j + 1)) := by rw [e, IntKind.wrap_i64]; omega
    have w3 : IntKind.wrap .i64 ((j : Int) + 1) = ((j + 1 : Nat) : Int) := by rw [IntKind.wrap_i64]; omega
    rw [J30_0_step]
    unfold Jr30_0
    simp only [go_sem, Nat.reduceAdd, Nat.reduceLeDiff, Nat.reduceMul, Int.reduceBEq, Int.reduceBNe, Int.reduceLT, Int.reduceLE, Int.reduceGT, aBin_lss, hlt, ixSV_p, i1, r1, aBin_mul, w0, w1, aBin_add, w2, w3]
    exact ih (j + 1) (by omega)
theorem number_s (St : Sl h 1 encI tv t) (ht : ∀ r ∈ t, 48 ≤ r ∧ r ≤ 57) (md : Md) : C md 30 [.agg #[(Value.int .i64 k), (Value.int .i64 ((f : Int))), tv]] h = some ((Value.tuple #[(Value.int .i64 (if bad t = true then 0 else val t)), .bool (!bad t)]), h) := by
  have len := fun {α : Type} (kk : Value → Option α) => St.len kk
  rw [C, call_eq, F30_eq]
  unfold F30
  obtain ⟨h1, e1⟩ : ∃ h1, h1 = h ++ [Blk.own [(Value.int .i64 k), (Value.int .i64 ((f : Int))), tv]] := ⟨_, rfl⟩
  have b1 : h1[h.length]? = some (.own [(Value.int .i64 k), (Value.int .i64 ((f : Int))), tv]) := by rw [e1]; simp
  have q2 : rd h1 h.length 2 = some tv := by rw [rd_own b1]; rfl
  have S1 : Sl h1 1 encI tv t := by rw [e1]; exact St.app
  by_cases g9 : (t.length : Int) > 9
  · have e : bad t = true := by unfold bad; rw [decide_eq_true (by omega)]; rfl
    rw [e]
    simp only [go_sem, Nat.reduceAdd, Nat.reduceLeDiff, Nat.reduceMul, Int.reduceBEq, Int.reduceBNe, Int.reduceLT, Int.reduceLE, Int.reduceGT, ← e1, q2, len, g9]
  · have d9 : decide (9 < t.length) = false := decide_eq_false (by omega)
    have lp := fun (md : Md) (h0 : Heap) (hb : bad t = false) => num_lp (md := md) (h0 := h0) (s2 := (Value.int .i64 0)) (s3 := .bool false) S1 ht (by omega) t.length 0 (by omega)
    have z0 : ((0 : Nat) : Int) = 0 := rfl
    have z1 : val (t.take 0) = 0 := rfl
    rw [z0, z1] at lp
    by_cases g1 : (t.length : Int) > 1
    · obtain ⟨r, hr⟩ : ∃ r, t[0]? = some r := ⟨t[0]'(by omega), List.getElem?_eq_getElem (by omega)⟩
      have hh : t.head? = some r := by rw [List.head?_eq_getElem?]; exact hr
      obtain ⟨i1, r1⟩ := getI S1 hr
      rw [z0] at i1
      rw [Nat.add_zero] at r1
      by_cases h48 : r = 48
      · have e : bad t = true := by unfold bad; rw [decide_eq_true (show 1 < t.length by omega), hh, h48]; simp
        have b : (r == 48) = true := by rw [h48]; rfl
        rw [e]
        simp only [go_sem, Nat.reduceAdd, Nat.reduceLeDiff, Nat.reduceMul, Int.reduceBEq, Int.reduceBNe, Int.reduceLT, Int.reduceLE, Int.reduceGT, ← e1, q2, len, g9, aBin_gtr, g1, i1, r1, aBin_eql, b]
      · have e : bad t = false := by unfold bad; rw [d9, hh]; simp [h48]
        have b : (r == 48) = false := by simpa using h48
        have lp' := fun (md : Md) (h0 : Heap) => lp md h0 e
        rw [e]
        simp only [go_sem, Nat.reduceAdd, Nat.reduceLeDiff, Nat.reduceMul, Int.reduceBEq, Int.reduceBNe, Int.reduceLT, Int.reduceLE, Int.reduceGT, ← e1, q2, len, g9, aBin_gtr, g1, i1, r1, aBin_eql, b, lp', Bool.false_eq_true, if_false]
    · have e : bad t = false := by unfold bad; rw [d9, decide_eq_false (show ¬ 1 < t.length by omega)]; rfl
      have lp' := fun (md : Md) (h0 : Heap) => lp md h0 e
      rw [e]
      simp only [go_sem, Nat.reduceAdd, Nat.reduceLeDiff, Nat.reduceMul, Int.reduceBEq, Int.reduceBNe, Int.reduceLT, Int.reduceLE, Int.reduceGT, ← e1, q2, len, g9, aBin_gtr, g1, lp', Bool.false_eq_true, if_false]
theorem tT : SlT Tryd.prog 23 20 1 16 [.nilIface] := ⟨by kernel_rfl, by kernel_rfl, by kernel_rfl, rfl, by decide, by decide, rfl⟩
theorem tI : SlT Tryd.prog 43 21 1 4 [.int .i32 0] := ⟨by kernel_rfl, by kernel_rfl, by kernel_rfl, rfl, by decide, by decide, rfl⟩
theorem uRs : Tryd.prog.underlying 43 = some (.slice 21) := by kernel_rfl
theorem uR32 : Tryd.prog.underlying 21 = some (.int .i32) := by kernel_rfl
theorem uSt : Tryd.prog.underlying 9 = some .string := by kernel_rfl
theorem encRunes_eq : ∀ (t : List Int), encRunes t = bs (encs t) := by
  have key : ∀ (t : List Int) (b : ByteArray), t.foldl (fun r n => r ++ Utf8.encode n) b = b ++ bs (encs t) := by
    intro t
    induction t with
    | nil => intro b; apply ByteArray.ext; rw [ByteArray.data_append]; simp [encs, bs]
    | cons r t ih =>
      intro b
      rw [List.foldl_cons, ih]
      apply ByteArray.ext
      simp only [ByteArray.data_append, encs, List.flatMap_cons, bs]
      rw [Array.append_assoc]
      congr 1
      apply Array.toList_inj.1
      simp
  intro t
  rw [encRunes, key]
  apply ByteArray.ext
  rw [ByteArray.data_append]
  simp [bs]
theorem intsOf_flat (t : List Int) : intsOf .i32 (flat encI t) = some t := by
  induction t with
  | nil => rfl
  | cons r t ih => rw [flat_cons]; simp [intsOf, ih]
/-- The text of a list of runes. -/
theorem conv_s {α : Type} (St : Sl h 1 encI tv t) (kk : Value → Option α) : aConvH Tryd.prog 43 9 tv h kk = kk (.string (bs (encs t))) := by
  rcases St.is with ⟨rfl, rfl⟩ | ⟨b, o, kb, rfl, hb, hc, hl2⟩
  · unfold aConvH
    simp only [uRs, uSt, uR32]
    rfl
  · have r : rdN h b o t.length = some (flat encI t) := by
      have := rdN_at hb (i := o) (n := t.length * 1) hl2
      rw [hc, Nat.mul_one] at this
      exact this
    unfold aConvH
    simp only [uRs, uSt, uR32, r, intsOf_flat, encRunes_eq, if_true]
end Go.Det.E
