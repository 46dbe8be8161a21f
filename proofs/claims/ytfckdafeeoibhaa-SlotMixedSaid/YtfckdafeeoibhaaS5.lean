/- Takes and gives, each to its end: the law. -/
import Derived.Test.YtfckdafeeoibhaaS4
set_option autoImplicit false
set_option linter.unusedVariables false
set_option linter.unusedSimpArgs false
namespace Go.Det.E
open Go.Proofs Go.Det
attribute [local congr] bind_c cond_c
/-- What the law holds between two acts. -/
structure Se (h hh : Heap) (a b n : Nat) (fv tv : Value) (l c free taken : List Int) : Prop where
  A : Ar hh a b l c
  w : Wd l
  hl : (1 : Int) + 1 + (n : Int) * 7 ≤ l.length
  F : Fr n 1 l (getI l 1 % 65536) free
  q : hh[h.length]? = some (.own [(Value.int .i64 1), (Value.int .i64 ((n : Int))), (Value.int .i64 1)])
  la : h.length < a
  lb : h.length < b
  SF : SlO hh (h.length + 1) 1 encI fv free
  ST : SlO hh (h.length + 1) 1 encI tv taken
  dF : fv = .slice none 0 0 ∨ (slB fv ≠ a ∧ slB fv ≠ b)
  dT : tv = .slice none 0 0 ∨ (slB tv ≠ a ∧ slB tv ≠ b)
  dFT : fv = .slice none 0 0 ∨ tv = .slice none 0 0 ∨ slB fv ≠ slB tv
  nd : (free ++ taken).Nodup
  rg : ∀ x ∈ free ++ taken, 0 ≤ x ∧ x < n
  sz : free.length + taken.length = n
  G : Old h.length h hh
variable {h hh h' : Heap} {a b n : Nat} {fv tv v : Value} {l c free taken ops : List Int}
/-- New blocks, and another arena of the same cells. -/
theorem Se.og {c' : List Int} (P : Se h hh a b n fv tv l c free taken) (A : Ar h' a b l c') (O : OG a b hh h') : Se h h' a b n fv tv l c' free taken := by
  have lq := lt_of P.q
  exact ⟨A, P.w, P.hl, P.F, by rw [O.oth _ lq (by have := P.la; omega) (by have := P.lb; omega)]; exact P.q, P.la, P.lb,
    P.SF.keep (P.SF.lo.elim .inl fun q => P.dF.imp id fun d => O.oth _ q.2 d.1 d.2), P.ST.keep (P.ST.lo.elim .inl fun q => P.dT.imp id fun d => O.oth _ q.2 d.1 d.2), P.dF, P.dT, P.dFT, P.nd, P.rg, P.sz,
    ⟨Nat.le_trans P.G.len O.len, fun x hx => by rw [O.oth x (by have := P.G.len; omega) (by have := P.la; omega) (by have := P.lb; omega)]; exact P.G.old x hx⟩⟩
theorem OG.three {a b k : Nat} {h h' : Heap} (hk : h.length ≤ k) (hl : h.length ≤ h'.length) {g : Heap} (og : OG a b h g) (hg : g.length ≤ h'.length) (f : ∀ y, y ≠ a → y ≠ b → y ≠ k → h'[y]? = g[y]?) : OG a b h h' :=
  ⟨hl, fun x h1 h2 h3 => (f x h2 h3 (by omega)).trans (og.oth x h1 h2 h3)⟩
theorem filter_len {s : Int} : ∀ {xs : List Int}, xs.Nodup → s ∈ xs → (xs.filter (· != s)).length + 1 = xs.length := by
  intro xs
  induction xs with
  | nil => intro _ h; simp at h
  | cons x xs ih =>
    intro nd hm
    rw [List.nodup_cons] at nd
    by_cases e : x = s
    · subst e
      have : xs.filter (· != x) = xs := List.filter_eq_self.2 fun y hy => by
        have : y ≠ x := fun e => nd.1 (e ▸ hy)
        simpa using this
      simp [this]
    · have hm' : s ∈ xs := by
        rcases List.mem_cons.1 hm with h | h
        · exact absurd h.symm e
        · exact h
      have := ih nd.2 hm'
      have e' : (x != s) = true := by simpa using e
      simp only [List.filter_cons, e', if_true, List.length_cons]
      omega
theorem first_eq {x : Int} (h0 : 0 ≤ x) (h1 : x < 65535) : (x + 1) % 65536 = x + 1 := by omega
theorem isW_now {l : List Int} {i : Int} (hi : inR l i) : isW l i (getI l i) = true := by simp [isW, hi]
/-- One round: a slot is given back. -/
theorem give_round {m k : Nat} {hn : n ≤ 48} {s1 s4 : Value} (P : Se h hh a b n fv tv l c free taken) (SV : Sl h 1 encI v ops) (hlen : ops.length ≤ 60) {o : Int} (hx : ops[k]? = some o) (h0 : 0 ≤ o) (ht : taken ≠ []) :
    ∃ fv' tv' h' l' c' free' taken', Jr3_2 C ⟨0, h.length⟩ s4 ((Value.pointer (some ⟨h.length, 0, none⟩))) ((Value.pointer (some ⟨a, 0, none⟩))) fv tv v ((Value.int .i64 ((ops.length : Int)))) ((Value.int .i64 ((k : Int)))) hh =
      some (.inl ((s4, (Value.pointer (some ⟨h.length, 0, none⟩)), (Value.pointer (some ⟨a, 0, none⟩)), fv', tv', v, (Value.int .i64 ((ops.length : Int))), (Value.int .i64 (((k + 1 : Nat) : Int)))), h')) ∧ Se h h' a b n fv' tv' l' c' free' taken' := by
  have hkl : k < ops.length := (List.getElem?_eq_some_iff.1 hx).1
  have hlt : (k : Int) < (ops.length : Int) := by omega
  have S0 : Sl hh 1 encI v ops := SV.heap fun hl => P.G.old _ hl
  obtain ⟨ix, el⟩ := Sl.readn S0 hx
  have w : IntKind.wrap .i64 ((k : Int) + 1) = ((k + 1 : Nat) : Int) := by rw [wi (by omega) (by omega)]; rfl
  have mo := fun (m : Md) => memof_s m hh (lt_of P.A.ha)
  have gl := P.G.len
  have lq := lt_of P.q
  have la := P.la
  have lb := P.lb
  have rL : ∀ hx : Heap, hx[h.length]? = some (.own [(Value.int .i64 1), (Value.int .i64 ((n : Int))), (Value.int .i64 1)]) → rdN hx h.length 0 3 = some [(Value.int .i64 1), (Value.int .i64 ((n : Int))), (Value.int .i64 1)] := fun hx e => by rw [rdN_own e (by simp)]; rfl
  have rL0 := rL hh P.q
  obtain ⟨lv, h1, c1, e1, S1, A1, O1⟩ := list_e (md := ⟨0, h.length⟩) (rt1 hn) P.A P.w (Nat.zero_le _) (Nat.zero_le _) (by show h.length ≤ hh.length; omega) P.F (by have := P.sz; omega)
  have P1 := P.og A1 O1
  have fl : free.length < 1000000 := by have := P.sz; omega
  have sm := same_s S1.sl P1.SF.sl fl ⟨0, h.length⟩
  have len := fun {α : Type} (k : Value → Option α) => P1.ST.sl.len k
  have tpos : 0 < taken.length := List.length_pos_iff.2 ht
  have tpos' : (0 : Int) < taken.length := by omega
  have tn : (taken.length : Int) ≠ 0 := by omega
  have tm : Int.tmod o taken.length = o % taken.length := Int.tmod_eq_emod_of_nonneg h0
  have m0 : 0 ≤ o % (taken.length : Int) := Int.emod_nonneg _ tn
  have m1 : o % (taken.length : Int) < taken.length := Int.emod_lt_of_pos _ tpos'
  obtain ⟨s, hs⟩ : ∃ s, taken[(o % (taken.length : Int)).toNat]? = some s := ⟨taken[(o % (taken.length : Int)).toNat]'(by omega), List.getElem?_eq_getElem (by omega)⟩
  have hmem : s ∈ taken := List.mem_of_getElem? hs
  obtain ⟨s0, s1'⟩ := P.rg s (by simp [hmem])
  have hnf : s ∉ free := fun hq => by
    have := List.nodup_append.1 P.nd
    exact this.2.2 s hq s hmem rfl
  obtain ⟨ix2, el2⟩ := Sl.read P1.ST.sl m0 hs
  have rL1 := rL h1 P1.q
  have l1 := O1.len
  have dv : intOp .rem o (taken.length : Int) .i64 = some ((Value.int .i64 (o % (taken.length : Int)))) := by
    unfold intOp
    simp only []
    rw [if_neg tn, tm]
  have ng := newgive_s (V := 1) (S := (n : Int)) (T := 1) ⟨0, h.length⟩ h1 (Nat.zero_le _) (by show h.length ≤ h1.length; omega) s
  have A2 := A1.app [Blk.own [(Value.int .i64 1), (Value.int .i64 ((n : Int))), (Value.int .i64 1)], Blk.own (gvC 1 n 1 s 0 0)]
  have k2 : (h1 ++ [Blk.own [(Value.int .i64 1), (Value.int .i64 ((n : Int))), (Value.int .i64 1)], Blk.own (gvC 1 n 1 s 0 0)])[h1.length + 1]? = some (.own (gvC 1 n 1 s 0 0)) := by rw [List.getElem?_append_right (by omega), Nat.add_sub_cancel_left]; rfl
  have lta := lt_of A1.ha
  have ltb := lt_of A1.hb
  have i1 : inR l 1 := ⟨by omega, by have := P.hl; omega⟩
  have gw := P.w.get 1
  obtain ⟨h3, e3, A3, k3, l3, f3⟩ := gstep0 (md := ⟨0, h.length⟩) A2 (Nat.zero_le _) (Nat.zero_le _) (by omega) (by omega) k2
  obtain ⟨h4, e4, A4, k4, l4, f4⟩ := gstep1 (md := ⟨0, h.length⟩) (rt1 hn) A3 (Nat.zero_le _) (Nat.zero_le _) (Nat.zero_le _) (by omega) (by omega) gw.1 gw.2 k3
  have ox : ∀ x : Int, 0 ≤ x → x < n → Ox n 1 x 0 = 1 + 1 + x * 7 := fun x h0 h1 => Ox_in h0 h1
  have hd4 : getI (putI l (Ox n 1 s 0) (getI l 1 % 65536)) 1 = getI l 1 := getI_else (by rw [ox s s0 s1']; omega)
  obtain ⟨h5, e5, A5, k5, l5, f5⟩ := gstep2 (md := ⟨0, h.length⟩) A4 (Nat.zero_le _) (Nat.zero_le _) (Nat.zero_le _) (by omega) (by omega) gw.1 gw.2 s0 (by omega) k4
  have iw : isW (putI l (Ox n 1 s 0) (getI l 1 % 65536)) 1 (getI l 1) = true := by
    have := isW_now (inR_put (j := Ox n 1 s 0) (v := getI l 1 % 65536) i1)
    rwa [hd4] at this
  rw [iw] at e5 A5 k5
  have e6 := gstep3 ⟨0, h.length⟩ ((Value.pointer (some ⟨a, 0, none⟩))) k5
  simp only [cond_true] at A5
  have w2 := P.w.put (Ox n 1 s 0) (v := getI l 1 % 65536) (by omega)
  have w5 := w2.put 1 (withW_in (getI l 1) (s + 1))
  simp only [List.length_append, List.length_cons, List.length_nil] at l3
  have O5 : OG a b h1 h5 := ⟨by omega, fun y hy ha hb => by rw [f5 y ha hb (by omega), f4 y ha hb (by omega), f3 y ha hb (by omega), List.getElem?_append_left hy]⟩
  -- memory is a right row again
  have i1' : inR (putI l (Ox n 1 s 0) (getI l 1 % 65536)) 1 := inR_put i1
  have F5 : Fr n 1 (putI (putI l (Ox n 1 s 0) (getI l 1 % 65536)) 1 (withW (getI l 1) (s + 1))) (getI (putI (putI l (Ox n 1 s 0) (getI l 1 % 65536)) 1 (withW (getI l 1) (s + 1))) 1 % 65536) (s :: free) := by
    rw [getI_same i1', withW_first, first_eq s0 (by omega)]
    refine ⟨rfl, s0, s1', ?_⟩
    rw [getI_else (by rw [ox s s0 s1']; omega), getI_same ⟨by rw [ox s s0 s1']; omega, by rw [ox s s0 s1']; have := P.hl; omega⟩]
    refine P.F.other fun x hx => ?_
    obtain ⟨x0, x1⟩ := P.rg x (by simp [hx])
    have hne : x ≠ s := fun e => hnf (e ▸ hx)
    rw [getI_else (by rw [ox x x0 x1]; omega), getI_else (by rw [ox x x0 x1, ox s s0 s1']; omega)]
  -- the law's own lists
  have SF5 : Sl h5 1 encI fv free := (P1.SF.keep (P1.SF.lo.elim .inl fun q => P1.dF.imp id fun d => O5.oth _ q.2 d.1 d.2)).sl
  have ST5 := P1.ST.keep (h' := h5) (P1.ST.lo.elim .inl fun q => P1.dT.imp id fun d => O5.oth _ q.2 d.1 d.2)
  obtain ⟨fv', h6, ea, S6, l6, f6⟩ := append_sl2 (md := ⟨0, h.length⟩) (y := s) tInts SF5 encI_len (Nat.zero_le _) encI_cell (by have := P.sz; omega)
  have ST6 := ST5.keep (h' := h6) (ST5.lo.imp id fun q => f6 _ q.2)
  have tl : taken.length < 1000000 := by have := P.sz; omega
  obtain ⟨tv', h7, ew, S7, l7, f7⟩ := without_e (md := ⟨0, h.length⟩) (hh := h6) (Nat.zero_le _) (ST6.lo.imp id fun q => q.2) ST6.sl tl s
  have keep : ∀ y, y < h5.length → h7[y]? = h5[y]? := fun y hy => (f7 y (by omega)).trans (f6 y hy)
  have A7 := A5.same (keep a (lt_of A5.ha)) (keep b (lt_of A5.hb))
  have S6' := S6.keep (h' := h7) (S6.lo.imp id fun q => f7 _ q.2)
  have s6b := S6.lo
  have s7b := S7.lo
  have G7 : Old h.length h h7 := ⟨by omega, fun y hy => by rw [keep y (by omega), O5.oth y (by omega) (by omega) (by omega)]; exact P1.G.old y hy⟩
  have ndt := (List.nodup_append.1 P.nd)
  refine ⟨fv', tv', h7, _, _, s :: free, taken.filter (· != s), ?_, ⟨A7, w5, by rw [putI_len, putI_len]; exact P.hl, F5, ?_, la, lb, S6'.mono (by omega), S7.mono (by omega), ?_, ?_, ?_, ?_, ?_, ?_, G7⟩⟩
  · have ewx : ∀ {α : Type} (kk : Value → Option α), ixSV 1 tv ((Value.int .i64 (o % (taken.length : Int)))) kk = kk ((Value.pointer (some ⟨slB tv, slO tv + (o % (taken.length : Int)).toNat, none⟩))) := fun kk => ix2 kk
    unfold Jr3_2
    simp only [go_sem, Nat.reduceAdd, Nat.reduceLeDiff, Nat.reduceMul, Int.reduceBEq, Int.reduceBNe, Int.reduceLT, Int.reduceLE, Int.reduceGT, aBin_lss, hlt, ix, el, mo, rL0, e1, sm, ge_iff_le, h0, len, aBin_gtr, tpos', dv, ix2, el2, rL1, ng, aBin_eqlP (show Try.prog.underlying 33 = some (.pointer 126) by kernel_rfl), e3, e4, e5, e6, aUn_not, ea, ew, aBin_add, w]
  · rw [keep _ (by omega), O5.oth _ (by omega) (by omega) (by omega)]; exact P1.q
  · exact s6b.imp id fun q => by omega
  · exact s7b.imp id fun q => by omega
  · rcases s6b with e | q
    · exact .inl e
    · rcases s7b with e | q'
      · exact .inr (.inl e)
      · exact .inr (.inr (by omega))
  · rw [List.cons_append, List.nodup_cons]
    refine ⟨?_, ?_⟩
    · simp [hnf]
    · rw [List.nodup_append]
      exact ⟨ndt.1, ndt.2.1.filter _, fun x hx y hy => ndt.2.2 x hx y (List.mem_filter.1 hy).1⟩
  · intro x hx
    rw [List.cons_append, List.mem_cons, List.mem_append] at hx
    rcases hx with rfl | hx | hx
    · exact ⟨s0, s1'⟩
    · exact P.rg x (by simp [hx])
    · exact P.rg x (by simp [(List.mem_filter.1 hx).1])
  · have := filter_len ndt.2.1 hmem
    have := P.sz
    simp only [List.length_cons]
    omega
end Go.Det.E
