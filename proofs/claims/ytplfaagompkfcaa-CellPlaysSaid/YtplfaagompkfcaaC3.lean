/- What the functions of the cells do, with the heap unnamed. -/
import Derived.Test.YtplfaagompkfcaaC2
set_option autoImplicit false
set_option linter.unusedVariables false
set_option linter.unusedSimpArgs false
namespace Go.Det.Cell
open Go.Proofs
attribute [local congr] bind_c cond_c

/-- Only two blocks may be others now. -/
structure Only (a b : Nat) (h h' : Heap) : Prop where
  len : h'.length = h.length
  oth : ∀ x, x ≠ a → x ≠ b → h'[x]? = h[x]?
theorem Only.one {h : Heap} {a b : Nat} (k : Blk) : Only a b h (h.set a k) := ⟨by simp, fun x hx _ => set_else (Ne.symm hx)⟩
theorem Only.two {h : Heap} {a b : Nat} (k k' : Blk) : Only a b h ((h.set a k).set b k') := ⟨by simp, fun x hx hy => by rw [set_else (Ne.symm hy), set_else (Ne.symm hx)]⟩
theorem Only.refl {h : Heap} {a b : Nat} : Only a b h h := ⟨rfl, fun _ _ _ => rfl⟩
theorem Only.trans {h h' h'' : Heap} {a b : Nat} (x : Only a b h h') (y : Only a b h' h'') : Only a b h h'' := ⟨y.len.trans x.len, fun z h1 h2 => (y.oth z h1 h2).trans (x.oth z h1 h2)⟩
/-- The old blocks are as they were. -/
structure Grown (h h' : Heap) : Prop where
  len : h.length ≤ h'.length
  old : ∀ x, x < h.length → h'[x]? = h[x]?
theorem Grown.app (h bs : Heap) : Grown h (h ++ bs) := ⟨by simp, fun x hx => List.getElem?_append_left hx⟩
theorem Ar.grown {h h' : Heap} {a b : Nat} {l c : List Int} (A : Ar h a b l c) (g : Grown h h') : Ar h' a b l c :=
  ⟨by rw [g.old _ (lt_of A.ha)]; exact A.ha, by rw [g.old _ (lt_of A.hb)]; exact A.hb, A.hc, A.ne⟩
theorem Ar.only {h h' : Heap} {a b a' b' : Nat} {l c : List Int} (A : Ar h a b l c) (o : Only a' b' h h') (h1 : a ≠ a') (h2 : a ≠ b') (h3 : b ≠ a') (h4 : b ≠ b') : Ar h' a b l c :=
  ⟨by rw [o.oth _ h1 h2]; exact A.ha, by rw [o.oth _ h3 h4]; exact A.hb, A.hc, A.ne⟩
theorem load_e {md : Md} {h : Heap} {a b : Nat} {l c : List Int} (A : Ar h a b l c) (hro : md.ro ≤ a) {i : Int} (h0 : 0 ≤ i) (h1 : i < l.length) :
    ∃ h', C md 37 [.pointer (some ⟨a, 0, none⟩), .int .i64 i] h = some (.tuple #[.int .u64 (l.getD i.toNat 0), .int .i64 0], h') ∧ Ar h' a b l (up c 0) ∧ Only a b h h' :=
  ⟨_, load_s A hro h0 h1, A.up 0, Only.one _⟩
theorem store_e {md : Md} {h : Heap} {a b : Nat} {l c : List Int} (A : Ar h a b l c) (hro : md.ro ≤ a) (hrb : md.ro ≤ b) {i : Int} (h0 : 0 ≤ i) (h1 : i < l.length) (v : Int) :
    ∃ h', C md 35 [.pointer (some ⟨a, 0, none⟩), .int .i64 i, .int .u64 v] h = some (.int .i64 0, h') ∧ Ar h' a b (l.set i.toNat v) (up c 1) ∧ Only a b h h' :=
  ⟨_, store_s A hro hrb h0 h1 v, (A.up 1).cells (by simp), Only.two _ _⟩
theorem add_e {md : Md} {h : Heap} {a b : Nat} {l c : List Int} (A : Ar h a b l c) (hro : md.ro ≤ a) (hrb : md.ro ≤ b) {i : Int} (h0 : 0 ≤ i) (h1 : i < l.length) (v : Int) :
    ∃ h', C md 39 [.pointer (some ⟨a, 0, none⟩), .int .i64 i, .int .u64 v] h = some (.tuple #[.int .u64 (l.getD i.toNat 0), .int .i64 0], h') ∧ Ar h' a b (l.set i.toNat (IntKind.wrap .u64 (l.getD i.toNat 0 + v))) (up c 4) ∧ Only a b h h' :=
  ⟨_, add_s A hro hrb h0 h1 v, (A.up 4).cells (by simp), Only.two _ _⟩
theorem swap_e {md : Md} {h : Heap} {a b : Nat} {l c : List Int} (A : Ar h a b l c) (hro : md.ro ≤ a) (hrb : md.ro ≤ b) {i : Int} (h0 : 0 ≤ i) (h1 : i < l.length) (was v : Int) :
    ∃ h', C md 38 [.pointer (some ⟨a, 0, none⟩), .int .i64 i, .int .u64 was, .int .u64 v] h = some (.tuple #[.bool (l.getD i.toNat 0 == was), .int .i64 0], h') ∧
      Ar h' a b (bif l.getD i.toNat 0 == was then l.set i.toNat v else l) (bif l.getD i.toNat 0 == was then up c 2 else up c 3) ∧ Only a b h h' := by
  refine ⟨_, swap_s A hro hrb h0 h1 was v, ?_⟩
  cases l.getD i.toNat 0 == was
  · exact ⟨A.up 3, Only.one _⟩
  · exact ⟨(A.up 2).cells (by simp), Only.two _ _⟩
theorem new_e (md : Md) (h : Heap) {n : Int} (h0 : 0 ≤ n) (h1 : n ≤ 16384) :
    ∃ h' a b, C md 31 [.int .i64 n] h = some (.tuple #[.pointer (some ⟨a, 0, none⟩), .int .i64 0], h') ∧ Ar h' a b (List.replicate n.toNat 0) [0, 0, 0, 0, 0] ∧ Grown h h' ∧ h.length ≤ a ∧ h.length ≤ b := by
  refine ⟨_, _, h.length, new_s h0 h1, ⟨?_, ?_, rfl, by omega⟩, Grown.app _ _, by omega, Nat.le_refl _⟩
  · rw [List.getElem?_append_right (by omega), Nat.add_sub_cancel_left, List.length_replicate]; rfl
  · rw [List.getElem?_append_right (Nat.le_refl _), Nat.sub_self]; rfl
theorem copy_e {md : Md} {h : Heap} {a b : Nat} {l c : List Int} (A : Ar h a b l c) (hro : md.ro ≤ h.length) (hm : l.length ≤ 16384) :
    ∃ h' a' b', C md 33 [.pointer (some ⟨a, 0, none⟩)] h = some (.pointer (some ⟨a', 0, none⟩), h') ∧ Ar h' a' b' l c ∧ Grown h h' ∧ h.length ≤ a' ∧ h.length ≤ b' := by
  obtain ⟨bs, a', b', h1, h2, h3, h4⟩ := copy_s (md := md) A hro hm
  exact ⟨_, a', b', h1, h2, Grown.app _ _, h3, h4⟩
theorem u53 : Try.prog.underlying 53 = some (.pointer 79) := by kernel_rfl
theorem eq59 {α : Type} {k : Value → Option α} {a b c d e a' b' c' d' e' : Int} : aBin Try.prog .eql 59 (.agg #[.int .i64 a, .int .i64 b, .int .i64 c, .int .i64 d, .int .i64 e]) (.agg #[.int .i64 a', .int .i64 b', .int .i64 c', .int .i64 d', .int .i64 e']) k = k (.bool (a == a' && (b == b' && (c == c' && (d == d' && (e == e' && true)))))) :=
  aBin_eqlA (xs := [_, _, _, _, _]) (ys := [_, _, _, _, _]) (ks := [.i, .i, .i, .i, .i]) (by kernel_rfl) (by kernel_rfl) (by kernel_rfl) rfl rfl (cellsEq_i (cellsEq_i (cellsEq_i (cellsEq_i (cellsEq_i cellsEq_n)))))
theorem awake_s (md : Md) (h : Heap) : C md 30 [] h = some (.bool true, h) := by
  rw [C, call_eq, F30_eq]
  unfold F30
  obtain ⟨h1, a, b, e1, A1, g1, la, lb⟩ := new_e ⟨h.length, h.length⟩ h (n := 2) (by decide) (by decide)
  have e2 := new_n (md := ⟨h.length, h.length⟩) (h := h1) (n := -1) (.inl (by decide))
  obtain ⟨h2, e3, A2, o2⟩ := store_e (md := ⟨h.length, h.length⟩) A1 la lb (i := 0) (by decide) (by decide) 5
  have A2' : Ar h2 a b [5, 0] [0, 1, 0, 0, 0] := A2
  have e4 := store_n (md := ⟨h.length, h.length⟩) A2' (i := 2) (.inr (by decide)) 5
  obtain ⟨h3, e5, A3, o3⟩ := swap_e (md := ⟨h.length, h.length⟩) A2' la lb (i := 0) (by decide) (by decide) 5 7
  have e5' : C ⟨h.length, h.length⟩ 38 [.pointer (some ⟨a, 0, none⟩), .int .i64 0, .int .u64 5, .int .u64 7] h2 = some (.tuple #[.bool true, .int .i64 0], h3) := e5
  have A3' : Ar h3 a b [7, 0] [0, 1, 1, 0, 0] := A3
  obtain ⟨h4, e6, A4, o4⟩ := swap_e (md := ⟨h.length, h.length⟩) A3' la lb (i := 0) (by decide) (by decide) 5 9
  have e6' : C ⟨h.length, h.length⟩ 38 [.pointer (some ⟨a, 0, none⟩), .int .i64 0, .int .u64 5, .int .u64 9] h3 = some (.tuple #[.bool false, .int .i64 0], h4) := e6
  have A4' : Ar h4 a b [7, 0] [0, 1, 1, 1, 0] := A4
  obtain ⟨h5, e7, A5, o5⟩ := add_e (md := ⟨h.length, h.length⟩) A4' la lb (i := 0) (by decide) (by decide) 2
  have e7' : C ⟨h.length, h.length⟩ 39 [.pointer (some ⟨a, 0, none⟩), .int .i64 0, .int .u64 2] h4 = some (.tuple #[.int .u64 7, .int .i64 0], h5) := e7
  have A5' : Ar h5 a b [9, 0] [0, 1, 1, 1, 1] := A5
  obtain ⟨h6, e8, A6, o6⟩ := load_e (md := ⟨h.length, h.length⟩) A5' la (i := 0) (by decide) (by decide)
  have e8' : C ⟨h.length, h.length⟩ 37 [.pointer (some ⟨a, 0, none⟩), .int .i64 0] h5 = some (.tuple #[.int .u64 9, .int .i64 0], h6) := e8
  have A6' : Ar h6 a b [9, 0] [1, 1, 1, 1, 1] := A6
  have hl6 : h.length ≤ h6.length := by have := g1.len; have := o2.len; have := o3.len; have := o4.len; have := o5.len; have := o6.len; omega
  obtain ⟨h7, a', b', e9, A7, g7, la', lb'⟩ := copy_e (md := ⟨h.length, h.length⟩) A6' hl6 (by decide)
  have B7 := A6'.grown g7
  have e10 := len_s (md := ⟨h.length, h.length⟩) B7
  have e11 := counts_s (md := ⟨h.length, h.length⟩) B7
  have e11' : C ⟨h.length, h.length⟩ 40 [.pointer (some ⟨a, 0, none⟩)] h7 = some (.agg #[.int .i64 1, .int .i64 1, .int .i64 1, .int .i64 1, .int .i64 1], h7) := e11
  have e10' : C ⟨h.length, h.length⟩ 32 [.pointer (some ⟨a, 0, none⟩)] h7 = some (.int .i64 2, h7) := e10
  have e12 := equal_s (md := ⟨h.length, h.length⟩) A7 B7 (by decide)
  have e12' : C ⟨h.length, h.length⟩ 34 [.pointer (some ⟨a', 0, none⟩), .pointer (some ⟨a, 0, none⟩)] h7 = some (.bool true, h7) := e12
  obtain ⟨h8, e13, A8, o8⟩ := store_e (md := ⟨h.length, h.length⟩) A7 (Nat.le_trans hl6 la') (Nat.le_trans hl6 lb') (i := 1) (by decide) (by decide) 1
  have lt1 := lt_of A6'.ha
  have lt2 := lt_of A6'.hb
  have B8 := B7.only o8 (by omega) (by omega) (by omega) (by omega)
  have e14 := equal_s (md := ⟨h.length, h.length⟩) A8 B8 (by decide)
  have e14' : C ⟨h.length, h.length⟩ 34 [.pointer (some ⟨a', 0, none⟩), .pointer (some ⟨a, 0, none⟩)] h8 = some (.bool false, h8) := e14
  simp only [go_sem, Nat.reduceAdd, Nat.reduceLeDiff, Nat.reduceMul, Int.reduceBEq, Int.reduceBNe, Int.reduceLT, Int.reduceLE, Int.reduceGT, e1, e2, e3, e4, e5', e6', e7', e8', e9, e10', e11', e12', e13, e14', aBin_eql, aBin_neq, aBin_eqlP u53, aBin_neqP u53, eq59, aUn_not]
end Go.Det.Cell
