/- Scanning: the law of the tokens. -/
import Derived.Test.YthhlflpeibdfmaaDoorQB
set_option autoImplicit false
set_option linter.unusedVariables false
set_option linter.unusedSimpArgs false
namespace Go.Det.E
open Go.Proofs Go.Det
open Go.Lib (decodeL)
attribute [local congr] bind_c cond_c
variable {md : Md} {h hh h' h0 : Heap} {s : ByteArray} {l o : List Tok} {t : List Int} {k : Int} {f n m n0 p w i : Nat} {v tv a b s2 s3 s4 s5 s6 s14 : Value}
/-- What a token may be. -/
def TokOk : Tok → Prop
  | .c r => 0 ≤ r ∧ r ≤ 1114111
  | _ => True
theorem fin_ok {l l' : List Tok} (h : fin l k t = some l') (hl : ∀ x ∈ l, TokOk x) : ∀ x ∈ l', TokOk x := by
  unfold fin at h
  repeat' split at h
  · cases h
  · cases h; intro x hx
    rcases List.mem_append.1 hx with q | q
    · exact hl x q
    · rw [List.mem_singleton.1 q]; trivial
  · cases h; intro x hx
    rcases List.mem_append.1 hx with q | q
    · exact hl x q
    · rw [List.mem_singleton.1 q]; trivial
  · cases h; exact hl
theorem mach_ok : ∀ (is : List (Nat × Nat)) (p : Nat) (l : List Tok) (k : Int) (f : Nat) (t : List Int), (∀ x ∈ is, x.1 ≤ 1114111) → (∀ x ∈ l, TokOk x) → ∀ x ∈ (mach is p l k f t).1, TokOk x := by
  intro is
  induction is with
  | nil =>
    intro p l k f t _ hl
    rw [mach]
    cases hf : fin l k t with
    | none => intro x hx; simp at hx
    | some l' => exact fin_ok hf hl
  | cons y is ih =>
    obtain ⟨r, w⟩ := y
    intro p l k f t his hl
    have hr : r ≤ 1114111 := his (r, w) (List.mem_cons_self ..)
    have his' : ∀ x ∈ is, x.1 ≤ 1114111 := fun x hx => his x (List.mem_cons_of_mem _ hx)
    have sg : ∀ l : List Tok, (∀ x ∈ l, TokOk x) → ∀ x ∈ l ++ [.c (r : Int)], TokOk x := fun l hl x hx => by
      rcases List.mem_append.1 hx with q | q
      · exact hl x q
      · rw [List.mem_singleton.1 q]; show 0 ≤ (r : Int) ∧ (r : Int) ≤ 1114111; omega
    rw [mach]
    split
    · split
      · intro x hx; simp at hx
      · split
        · exact ih _ _ _ _ _ his' (sg l hl)
        · split
          · exact ih _ _ _ _ _ his' hl
          · exact ih _ _ _ _ _ his' hl
    · cases hf : fin l k t with
      | none => intro x hx; simp at hx
      | some l' =>
        have hl' := fin_ok hf hl
        dsimp only
        split
        · intro x hx; simp at hx
        · split
          · exact ih _ _ _ _ _ his' (sg l' hl')
          · split
            · exact ih _ _ _ _ _ his' hl'
            · exact ih _ _ _ _ _ his' hl'
theorem mach_len : ∀ (is : List (Nat × Nat)) (p : Nat) (l : List Tok) (k : Int) (f : Nat) (t : List Int), (mach is p l k f t).1.length ≤ l.length + 2 * is.length + 1 := by
  intro is
  induction is with
  | nil =>
    intro p l k f t
    rw [mach]
    cases hf : fin l k t with
    | none => simp
    | some l' => have := fin_len hf; simp; omega
  | cons y is ih =>
    obtain ⟨r, w⟩ := y
    intro p l k f t
    rw [mach]
    split
    · split
      · simp
      · split
        · have := ih (p + w) (l ++ [.c (r : Int)]) k f t; simp at this ⊢; omega
        · split
          · have := ih (p + w) l k f (t ++ [(r : Int)]); simp; omega
          · have := ih (p + w) l k f t; simp; omega
    · cases hf : fin l k t with
      | none => simp
      | some l' =>
        have hl' := fin_len hf
        dsimp only
        split
        · simp
        · split
          · have := ih (p + w) (l' ++ [.c (r : Int)]) (cls r) p []; simp at this ⊢; omega
          · split
            · have := ih (p + w) l' (cls r) p [(r : Int)]; simp; omega
            · have := ih (p + w) l' (cls r) p []; simp; omega
theorem items_ok : ∀ (n : Nat) (l : List UInt8), l.length ≤ n → (∀ x ∈ items l, x.1 ≤ 1114111) ∧ (items l).length ≤ l.length := by
  intro n
  induction n with
  | zero =>
    intro l hl
    obtain rfl : l = [] := List.length_eq_zero_iff.1 (by omega)
    rw [items_nil]; exact ⟨fun x hx => by simp at hx, Nat.le_refl _⟩
  | succ n ih =>
    intro l hl
    by_cases hne : l = []
    · rw [hne, items_nil]; exact ⟨fun x hx => by simp at hx, Nat.le_refl _⟩
    · have h1 := Lib.decodeL_width l
      have h2 := List.length_pos_iff.2 hne
      obtain ⟨g1, g2⟩ := ih (l.drop (decodeL l).2) (by rw [List.length_drop]; omega)
      rw [items_cons hne]
      refine ⟨fun x hx => ?_, by rw [List.length_drop] at g2; simp; omega⟩
      rcases List.mem_cons.1 hx with rfl | hx
      · exact Lib.decodeL_rune l
      · exact g1 x hx
theorem same_lp {want : Value} (Sa : Sl hh 1 encT a l) (Sb : Sl hh 3 encK b l) (hok : ∀ x ∈ l, TokOk x) (hl : l.length ≤ 10000) (hro : md.ro ≤ hh.length) (hlim : md.lim ≤ hh.length) : ∀ (m j : Nat) (g : Heap), j + m = l.length → Old hh.length hh g →
    J13_0 C md h0 a (.bool false) b ((Value.int .i64 ((l.length : Int)))) ((Value.int .i64 ((j : Int)))) g = some (.bool true, h0) := by
  intro m
  induction m with
  | zero =>
    intro j g hj O
    obtain rfl : j = l.length := by omega
    rw [J13_0_step]
    unfold Jr13_0
    simp only [go_sem, Nat.reduceAdd, Nat.reduceLeDiff, Nat.reduceMul, Int.reduceBEq, Int.reduceBNe, Int.reduceLT, Int.reduceLE, Int.reduceGT, aBin_lss, Int.lt_irrefl, Jk13_0]
  | succ m ih =>
    intro j g hj O
    have hlt : (j : Int) < (l.length : Int) := by omega
    obtain ⟨x, hx⟩ : ∃ x, l[j]? = some x := ⟨l[j]'(by omega), List.getElem?_eq_getElem (by omega)⟩
    have ol := O.len
    have A0 : Sl g 1 encT a l := Sa.heap fun hl => O.old _ hl
    have B0 : Sl g 3 encK b l := Sb.heap fun hl => O.old _ hl
    have ixb := fun {α : Type} (kk : Value → Option α) => B0.ix (i := (j : Int)) (by omega) hlt kk
    have elb := B0.elem hx
    have w1 : IntKind.wrap .i64 ((j : Int) + 1) = ((j + 1 : Nat) : Int) := by rw [IntKind.wrap_i64]; omega
    obtain ⟨g6, e6⟩ : ∃ g6, g6 = g ++ [Blk.own (encK x)] := ⟨_, rfl⟩
    have b6 : g6[g.length]? = some (.own (encK x)) := by rw [e6]; simp
    have O6 : Old hh.length hh g6 := by rw [e6]; exact O.trans (Old.app _ ol)
    have A6 : Sl g6 1 encT a l := by rw [e6]; exact A0.app
    obtain ⟨i1, r1⟩ := Sl.getV (Sl.toks A6) (x := tokV x) (k := j) (by rw [List.getElem?_map, hx]; rfl)
    have b0 : (g ++ [Blk.own [(Value.int .i64 0), (Value.int .i64 0), .string ⟨#[]⟩]])[g.length]? = some (.own [(Value.int .i64 0), (Value.int .i64 0), .string ⟨#[]⟩]) := by simp
    have stx : ∀ {α : Type} (kk : Heap → Option α), st md 3 ((Value.pointer (some ⟨g.length, 0, none⟩))) (.agg (encK x).toArray) (g ++ [Blk.own [(Value.int .i64 0), (Value.int .i64 0), .string ⟨#[]⟩]]) kk = kk g6 := fun kk => by
      rw [st_N md 3 g.length 0 (encK x) _ kk (encK_len x) (encK_cell x), wr_l (encK x) b0 (by omega) (by omega) (by rw [encK_len]; simp)]
      rw [e6]
      show kk _ = _
      congr 1
      rw [List.set_append_right _ _ (Nat.le_refl _), Nat.sub_self]
      cases x <;> rfl
    have eq := fun (m : Md) (g : Heap) => eq_tok m g x
    have nx := ih (j + 1) g6 (by omega) O6
    rw [J13_0_step]
    unfold Jr13_0
    have z0 : ((j : Int)).toNat = j := Int.toNat_natCast _
    rw [z0] at ixb
    cases x with
    | n v =>
      have q0 : rd g6 g.length 0 = some ((Value.int .i64 1)) := by rw [rd_own b6]; rfl
      have q1 : rd g6 g.length 1 = some ((Value.int .i64 v)) := by rw [rd_own b6]; rfl
      simp only [tokV] at r1 eq
      simp only [go_sem, Nat.reduceAdd, Nat.reduceLeDiff, Nat.reduceMul, Int.reduceBEq, Int.reduceBNe, Int.reduceLT, Int.reduceLE, Int.reduceGT, aBin_lss, hlt, ixSV_p, ixb, elb, stx, q0, i1, r1, q1, eq, aBin_add, w1]
      exact nx
    | s y =>
      have q0 : rd g6 g.length 0 = some ((Value.int .i64 2)) := by rw [rd_own b6]; rfl
      have q2 : rd g6 g.length 2 = some (.string (bs y)) := by rw [rd_own b6]; rfl
      simp only [tokV] at r1 eq
      simp only [go_sem, Nat.reduceAdd, Nat.reduceLeDiff, Nat.reduceMul, Int.reduceBEq, Int.reduceBNe, Int.reduceLT, Int.reduceLE, Int.reduceGT, aBin_lss, hlt, ixSV_p, ixb, elb, stx, q0, i1, r1, q2, eq, aBin_add, w1]
      exact nx
    | c r =>
      have q0 : rd g6 g.length 0 = some ((Value.int .i64 3)) := by rw [rd_own b6]; rfl
      have q1 : rd g6 g.length 1 = some ((Value.int .i64 r)) := by rw [rd_own b6]; rfl
      have hr : 0 ≤ r ∧ r ≤ 1114111 := hok _ (List.mem_of_getElem? hx)
      have w2 : IntKind.wrap .i32 r = r := by rw [IntKind.wrap_i32]; omega
      simp only [tokV] at r1 eq
      simp only [go_sem, Nat.reduceAdd, Nat.reduceLeDiff, Nat.reduceMul, Int.reduceBEq, Int.reduceBNe, Int.reduceLT, Int.reduceLE, Int.reduceGT, aBin_lss, hlt, ixSV_p, ixb, elb, stx, q0, i1, r1, q1, w2, eq, aBin_add, w1]
      exact nx
theorem same_s (Sa : Sl h 1 encT a l) (Sb : Sl h 3 encK b l) (hok : ∀ x ∈ l, TokOk x) (hl : l.length ≤ 10000) (md : Md) : C md 13 [a, b] h = some (.bool true, h) := by
  have la := fun {α : Type} (kk : Value → Option α) => Sa.len kk
  have lb := fun {α : Type} (kk : Value → Option α) => Sb.len kk
  have e := same_lp (md := ⟨h.length, h.length⟩) (h0 := h) (want := b) Sa Sb hok hl (Nat.le_refl _) (Nat.le_refl _) l.length 0 h (by omega) (Old.refl _ _)
  rw [C, call_eq, F13_eq]
  unfold F13
  simp only [go_sem, Nat.reduceAdd, Nat.reduceLeDiff, Nat.reduceMul, Int.reduceBEq, Int.reduceBNe, Int.reduceLT, Int.reduceLE, Int.reduceGT, la, lb, bne_self_eq_false]
  exact e
theorem tells_law : Law Tryd.prog cfg 3 [9] := by
  intro h avs ha
  obtain ⟨v, r, rfl, a0, ha⟩ := args_cons ha
  obtain rfl := args_nil ha
  obtain ⟨s, rfl, _⟩ := inS (arg1 (by kernel_rfl) (by kernel_rfl) a0 : TyS h .s v)
  have len : ∀ {α : Type} (k : Value → Option α), lenT (.string s) k = k ((Value.int .i64 (((s.size : Nat) : Int)))) := fun k => rfl
  have tk : h.take h.length = h := take_same (Nat.le_refl _)
  rw [call_eq, F3_eq]
  unfold F3
  by_cases h3 : ((s.size : Nat) : Int) > 300
  · exact ⟨h, by simp only [go_sem, Nat.reduceAdd, Nat.reduceLeDiff, Nat.reduceMul, Int.reduceBEq, Int.reduceBNe, Int.reduceLT, Int.reduceLE, Int.reduceGT, len, h3, awake04, tk]⟩
  obtain ⟨v2, h2, e2, S2, O2⟩ := scan_s (md := ⟨0, h.length⟩) (h := h) (s := s) (Nat.zero_le _) (Nat.le_refl _) (by omega)
  have l2 := O2.len
  obtain ⟨v3, h3', e3, S3, O3⟩ := ref_s (md := ⟨0, h.length⟩) (h := h2) (s := s) (Nat.zero_le _) (by omega)
  obtain ⟨M, hM⟩ : ∃ M, M = mach (items s.data.toList) 0 [] 0 0 [] := ⟨_, rfl⟩
  have iok := items_ok _ s.data.toList (Nat.le_refl _)
  have hl0 : s.data.toList.length = s.size := rfl
  have hok : ∀ x ∈ M.1, TokOk x := by rw [hM]; exact mach_ok _ _ _ _ _ _ iok.1 (fun x hx => by simp at hx)
  have hlen : M.1.length ≤ 10000 := by
    have := mach_len (items s.data.toList) 0 [] 0 0 []
    rw [← hM] at this
    simp only [List.length_nil] at this
    omega
  rw [← hM] at e2 S2 e3 S3
  have A3 : Sl h3' 1 encT v2 M.1 := S2.sl.heap fun hl => O3.old _ hl
  have sm := fun (m : Md) => same_s A3 S3.sl hok hlen m
  refine ⟨h3'.take h.length, ?_⟩
  simp only [go_sem, Nat.reduceAdd, Nat.reduceLeDiff, Nat.reduceMul, Int.reduceBEq, Int.reduceBNe, Int.reduceLT, Int.reduceLE, Int.reduceGT, len, h3, e2, e3, beq_self_eq_true, aBin_eql, sm, awake04]
end Go.Det.E
