/- Workers that take and give, one step. -/
import Derived.Test.YtfckdafeeoibhaaS4
set_option autoImplicit false
set_option linter.unusedVariables false
set_option linter.unusedSimpArgs false
namespace Go.Det
/-- What a store of a value into a block that this call made leaves. -/
theorem put_l' {md : Md} {h : Heap} {b : Nat} {cs : List Value} (hb : h[b]? = some (.own cs)) (hro : md.ro ≤ b) (hlim : md.lim ≤ b) (i : Nat) (vs cs' : List Value) (hi : i + vs.length ≤ cs.length) (e : lay cs i vs = cs') :
    ∃ h', wrN md h b i vs = some h' ∧ h'[b]? = some (.own cs') ∧ h'.length = h.length ∧ ∀ x, x ≠ b → h'[x]? = h[x]? := by
  refine ⟨h.set b (.own cs'), ?_, set_here hb, by simp, fun x hx => set_else (Ne.symm hx)⟩
  unfold wrN
  rw [hb]
  simp only []
  rw [if_pos hi, if_pos ⟨hro, .inl hlim⟩, e]
end Go.Det
namespace Go.Det.E
open Go.Proofs Go.Det
attribute [local congr] bind_c cond_c
/-- What a worker does just now. -/
inductive Ws where
  | idle
  | tk (a hd nx : Int)
  | gv (s a hd : Int)
/-- A worker: its block, its program's block, what it has. -/
structure Wk where
  wb : Nat
  kb : Nat
  hv : Value
  st : Ws
  has : List Int
def Ws.busy : Ws → Prop
  | .idle => False
  | _ => True
def wkC (w : Wk) : List Value :=
  match w.st with
  | .idle => [.pointer none, .pointer none, w.hv]
  | .tk .. => [(Value.pointer (some ⟨w.kb, 0, none⟩)), .pointer none, w.hv]
  | .gv .. => [.pointer none, (Value.pointer (some ⟨w.kb, 0, none⟩)), w.hv]
def Wk.prog (hh : Heap) (n : Nat) (w : Wk) : Prop :=
  match w.st with
  | .idle => True
  | .tk a hd nx => hh[w.kb]? = some (.own (tkC 1 n 1 a hd nx))
  | .gv s a hd => hh[w.kb]? = some (.own (gvC 1 n 1 s a hd))
/-- What its numbers can be. -/
def Ws.ok (n : Nat) : Ws → Prop
  | .idle => True
  | .tk a hd nx => (0 ≤ hd ∧ hd < 18446744073709551616) ∧ (0 ≤ nx ∧ nx < 18446744073709551616) ∧ (a = 0 ∨ (a = 1 ∨ a = 2 ∧ nx ≤ n) ∧ 1 ≤ hd % 65536 ∧ hd % 65536 ≤ n)
  | .gv s a hd => (0 ≤ hd ∧ hd < 18446744073709551616) ∧ (0 ≤ s ∧ s < n) ∧ (a = 0 ∨ (a = 1 ∨ a = 2) ∧ hd % 65536 ≤ n)
/-- The blocks of a worker. -/
def wf (w : Wk) (y : Nat) : Prop := y = w.wb ∨ (w.st.busy ∧ y = w.kb) ∨ (w.hv ≠ .slice none 0 0 ∧ y = slB w.hv)
structure WkOk (hh : Heap) (n0 n a b p : Nat) (w : Wk) : Prop where
  W : hh[w.wb]? = some (.own (wkC w))
  K : w.prog hh n
  H : SlO hh n0 1 encI w.hv w.has
  gw : n0 ≤ w.wb
  gk : w.st.busy → n0 ≤ w.kb
  dw : w.wb ≠ a ∧ w.wb ≠ b ∧ w.wb ≠ p
  dk : w.st.busy → w.kb ≠ a ∧ w.kb ≠ b ∧ w.kb ≠ p ∧ w.kb ≠ w.wb
  dh : w.hv = .slice none 0 0 ∨ (slB w.hv ≠ a ∧ slB w.hv ≠ b ∧ slB w.hv ≠ p ∧ slB w.hv ≠ w.wb ∧ (w.st.busy → slB w.hv ≠ w.kb))
  V : w.st.ok n
  R : ∀ x ∈ w.has, 0 ≤ x ∧ x < n
  sz : w.has.length ≤ 1000
/-- What memory has, of slots. -/
structure Mem (n : Nat) (l : List Int) : Prop where
  w : Wd l
  hl : (1 : Int) + 1 + (n : Int) * 7 ≤ l.length
  hd : getI l 1 % 65536 ≤ n
  nx : ∀ s, 0 ≤ s → s < (n : Int) → getI l (Ox n 1 s 0) ≤ n
variable {md : Md} {h hh h' : Heap} {a b k p n n0 : Nat} {l c : List Int} {B : Int} {w : Wk}
theorem Mem.i1 (M : Mem n l) : inR l 1 := ⟨by omega, by have := M.hl; omega⟩
theorem Mem.is (M : Mem n l) {s : Int} (h0 : 0 ≤ s) (h1 : s < n) : Ox n 1 s 0 = 1 + 1 + s * 7 ∧ inR l (Ox n 1 s 0) := by
  have e : Ox n 1 s 0 = 1 + 1 + s * 7 := Ox_in h0 h1
  exact ⟨e, by rw [e]; omega, by rw [e]; have := M.hl; omega⟩
theorem Mem.head (M : Mem n l) {v : Int} (hn : n ≤ 48) (hv : 0 ≤ v ∧ v < 18446744073709551616) (hf : v % 65536 ≤ n) : Mem n (putI l 1 v) := by
  refine ⟨M.w.put 1 hv, by rw [putI_len]; exact M.hl, by rw [getI_same M.i1]; exact hf, fun s h0 h1 => ?_⟩
  rw [getI_else (by rw [(M.is h0 h1).1]; omega)]
  exact M.nx s h0 h1
theorem Mem.next (M : Mem n l) {s v : Int} (hn : n ≤ 48) (s0 : 0 ≤ s) (s1 : s < n) (hv : 0 ≤ v ∧ v ≤ n) : Mem n (putI l (Ox n 1 s 0) v) := by
  refine ⟨M.w.put _ (by omega), by rw [putI_len]; exact M.hl, by rw [getI_else (by rw [(M.is s0 s1).1]; omega)]; exact M.hd, fun t h0 h1 => ?_⟩
  by_cases e : t = s
  · subst e; rw [getI_same (M.is h0 h1).2]; omega
  · rw [getI_else (by rw [(M.is s0 s1).1, (M.is h0 h1).1]; omega)]
    exact M.nx t h0 h1
/-- The law's play at its block. -/
abbrev plC (n a : Nat) (av : Value) : List Value := [(Value.int .i64 1), (Value.int .i64 ((n : Int))), (Value.int .i64 1), (Value.pointer (some ⟨a, 0, none⟩)), av, (Value.int .i64 0)]
theorem count_s {d : List Int} {av : Value} {nb : Nat} (hp : hh[p]? = some (.own (plC n a av))) (A : Ar hh a b l d) (hc : C5 B c) (hd : C5 B d) (hB : B < 1000000) (hs : sm d = sm c + 1)
    (hnb : hh[nb]? = some (.own (c.map (.int .i64)))) (hro : md.ro ≤ hh.length) (hlim : md.lim ≤ hh.length) :
    J27_2 C md h ((Value.pointer (some ⟨p, 0, none⟩))) ((Value.pointer (some ⟨nb, 0, none⟩))) hh = some ((Value.bool true), hh ++ [Blk.own (d.map (.int .i64))]) := by
  obtain ⟨c0, c1, c2, c3, c4, rfl, hc0, hc1, hc2, hc3, rfl⟩ := hc
  obtain ⟨d0, d1, d2, d3, d4, rfl, hd0, hd1, hd2, hd3, rfl⟩ := hd
  simp only [sm, List.getD_cons_zero, List.getD_cons_succ] at hs
  have r3 : rd hh p 3 = some ((Value.pointer (some ⟨a, 0, none⟩))) := by rw [rd_own hp]; rfl
  have e := fun (m : Md) => counts_x (md := m) A
  have lnb := lt_of hnb
  have hnb' : (hh ++ [Blk.own [(Value.int .i64 d0), (Value.int .i64 d1), (Value.int .i64 d2), (Value.int .i64 d3), (Value.int .i64 0)]])[nb]? = some (.own [(Value.int .i64 c0), (Value.int .i64 c1), (Value.int .i64 c2), (Value.int .i64 c3), (Value.int .i64 0)]) := by
    rw [List.getElem?_append_left lnb]; exact hnb
  have q0 : rd (hh ++ [Blk.own [(Value.int .i64 d0), (Value.int .i64 d1), (Value.int .i64 d2), (Value.int .i64 d3), (Value.int .i64 0)]]) nb 0 = some ((Value.int .i64 c0)) := by rw [rd_own hnb']; rfl
  have q1 : rd (hh ++ [Blk.own [(Value.int .i64 d0), (Value.int .i64 d1), (Value.int .i64 d2), (Value.int .i64 d3), (Value.int .i64 0)]]) nb 1 = some ((Value.int .i64 c1)) := by rw [rd_own hnb']; rfl
  have q2 : rd (hh ++ [Blk.own [(Value.int .i64 d0), (Value.int .i64 d1), (Value.int .i64 d2), (Value.int .i64 d3), (Value.int .i64 0)]]) nb 2 = some ((Value.int .i64 c2)) := by rw [rd_own hnb']; rfl
  have q3 : rd (hh ++ [Blk.own [(Value.int .i64 d0), (Value.int .i64 d1), (Value.int .i64 d2), (Value.int .i64 d3), (Value.int .i64 0)]]) nb 3 = some ((Value.int .i64 c3)) := by rw [rd_own hnb']; rfl
  have s1 : IntKind.wrap .i64 (IntKind.wrap .i64 (IntKind.wrap .i64 (d0 + d1) + d2) + d3) = d0 + d1 + d2 + d3 := by
    rw [wi (x := d0 + d1) (by omega) (by omega), wi (x := d0 + d1 + d2) (by omega) (by omega), wi (by omega) (by omega)]
  have s2 : IntKind.wrap .i64 (IntKind.wrap .i64 (IntKind.wrap .i64 (IntKind.wrap .i64 (c0 + c1) + c2) + c3) + 1) = d0 + d1 + d2 + d3 := by
    rw [wi (x := c0 + c1) (by omega) (by omega), wi (x := c0 + c1 + c2) (by omega) (by omega), wi (x := c0 + c1 + c2 + c3) (by omega) (by omega), wi (by omega) (by omega)]; omega
  unfold J27_2
  simp only [go_sem, Nat.reduceAdd, Nat.reduceLeDiff, Nat.reduceMul, Int.reduceBEq, Int.reduceBNe, Int.reduceLT, Int.reduceLE, Int.reduceGT, r3, e, hro, hlim, q0, q1, q2, q3, s1, s2, List.map_cons, List.map_nil]
end Go.Det.E
