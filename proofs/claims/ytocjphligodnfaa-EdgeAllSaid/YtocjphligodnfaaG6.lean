/- The laws of the edges: what they begin with. -/
import Derived.Test.YtocjphligodnfaaG5
set_option autoImplicit false
set_option linter.unusedVariables false
set_option linter.unusedSimpArgs false
namespace Go.Det.E
open Go.Proofs Go.Det
attribute [local congr] bind_c cond_c
/-- An act on the edges. -/
structure Opn where
  k : Int
  s : Int
  u : Int
  v : Int
  lv : Int
  t : Bool
abbrev encP (o : Opn) : List Value := [(Value.int .i64 o.k), (Value.int .i64 o.s), (Value.int .i64 o.u), (Value.int .i64 o.v), (Value.int .i64 o.lv), (Value.bool o.t)]
theorem encP_len (o : Opn) : (encP o).length = 6 := rfl
theorem ops_of {h : Heap} {ess : List (List Value)} (a : TyE h [.i .i64, .i .i64, .i .i64, .i .i64, .i .i64, .b] ess) : ∃ ops : List Opn, ess = ops.map encP := by
  induction ess with
  | nil => exact ⟨[], rfl⟩
  | cons es ess ih =>
    cases a with
    | cons _ _ _ b h2 =>
      obtain ⟨v1, r, rfl, a1, b⟩ := l_cons b
      obtain ⟨v2, r, rfl, a2, b⟩ := l_cons b
      obtain ⟨v3, r, rfl, a3, b⟩ := l_cons b
      obtain ⟨v4, r, rfl, a4, b⟩ := l_cons b
      obtain ⟨v5, r, rfl, a5, b⟩ := l_cons b
      obtain ⟨v6, r, rfl, a6, b⟩ := l_cons b
      obtain rfl := l_nil b
      obtain ⟨x1, rfl, _⟩ := inI64 a1
      obtain ⟨x2, rfl, _⟩ := inI64 a2
      obtain ⟨x3, rfl, _⟩ := inI64 a3
      obtain ⟨x4, rfl, _⟩ := inI64 a4
      obtain ⟨x5, rfl, _⟩ := inI64 a5
      obtain ⟨x6, rfl⟩ := inB a6
      obtain ⟨ops, e⟩ := ih h2
      exact ⟨⟨x1, x2, x3, x4, x5, x6⟩ :: ops, by rw [e]; rfl⟩
theorem arg_ops {h : Heap} {v : Value} (a : TyArg Try.prog h 49 v) : ∃ ops : List Opn, Sl h 6 encP v ops := by
  have a' : TyS h (.sl [.i .i64, .i .i64, .i .i64, .i .i64, .i .i64, .b]) v := arg1 (by kernel_rfl) (by kernel_rfl) a
  rcases inSl a' with rfl | ⟨b, ess, rfl, hb, _, he⟩
  · exact ⟨[], Sl.nil _ encP_len⟩
  · obtain ⟨ops, rfl⟩ := ops_of he
    exact ⟨ops, Sl.whole encP_len hb rfl (by simp)⟩
theorem right11_s (md : Md) (h : Heap) {V S T : Int} (hV : I64 V) (hS : I64 S) (hT : I64 T) (hro : md.ro ≤ h.length) (hlim : md.lim ≤ h.length) :
    C md 40 [(Value.agg #[(Value.int .i64 V), (Value.int .i64 S), (Value.int .i64 T)])] h = some ((Value.bool (decide (Rt V S T ∧ V ≤ 8))), h) := by
  rw [C, call_eq, F40_eq]
  unfold F40
  by_cases hR : Rt V S T
  · by_cases h8 : V ≤ 8
    · have : decide (Rt V S T ∧ V ≤ 8) = true := by simp [hR, h8]
      rw [this]
      simp only [go_sem, Nat.reduceAdd, Nat.reduceLeDiff, Nat.reduceMul, Int.reduceBEq, Int.reduceBNe, Int.reduceLT, Int.reduceLE, Int.reduceGT, refright_s, hR, aBin_leq, h8]
    · have : decide (Rt V S T ∧ V ≤ 8) = false := by simp [hR, h8]
      rw [this]
      simp only [go_sem, Nat.reduceAdd, Nat.reduceLeDiff, Nat.reduceMul, Int.reduceBEq, Int.reduceBNe, Int.reduceLT, Int.reduceLE, Int.reduceGT, refright_s, hR, aBin_leq, h8]
  · have : decide (Rt V S T ∧ V ≤ 8) = false := by simp [hR]
    rw [this]
    simp only [go_sem, Nat.reduceAdd, Nat.reduceLeDiff, Nat.reduceMul, Int.reduceBEq, Int.reduceBNe, Int.reduceLT, Int.reduceLE, Int.reduceGT, refright_s, hR]
theorem wrs_any {md : Md} {h : Heap} {b i : Nat} {cs vs : List Value} (hb : h[b]? = some (.own cs)) (hro : md.ro ≤ b) (hlim : md.lim ≤ b) (hi : i + vs.length ≤ cs.length) : wrN md h b i vs = some (h.set b (.own (lay cs i vs))) := by
  unfold wrN
  rw [hb]
  simp only []
  rw [if_pos hi, if_pos ⟨hro, .inl hlim⟩]
theorem bEdges {α : Type} {V S T : Int} {a : Nat} (k : Value → Option α) : aBuild Try.prog 53 [(0, (Value.agg #[(Value.int .i64 V), (Value.int .i64 S), (Value.int .i64 T)])), (1, ifA a)] k = k (E4 V S T a) := by kernel_rfl
theorem begun_s (md : Md) (h : Heap) {V S T : Int} (hR : Rt V S T) (hro : md.ro ≤ h.length) (hlim : md.lim ≤ h.length) :
    ∃ h' a b, C md 42 [(Value.agg #[(Value.int .i64 V), (Value.int .i64 S), (Value.int .i64 T)])] h = some ((Value.tuple #[E4 V S T a, (Value.bool true)]), h') ∧ Ar h' a b (List.replicate (Cn V S T).toNat 0) [0, 0, 0, 0, 0] ∧ Old h.length h h' ∧ h.length ≤ a ∧ h.length ≤ b := by
  have cn := Cn_le hR
  obtain ⟨h8, a, b, e8, A8, o8, ha, hb⟩ := new_e md (h ++ [Blk.own [(Value.int .i64 V), (Value.int .i64 S), (Value.int .i64 T)], Blk.own [(Value.int .i64 0), (Value.int .i64 0), (Value.int .i64 0), .nilIface]]) (n := Cn V S T) (by omega) (by omega)
  simp only [List.length_append, List.length_cons, List.length_nil] at ha hb o8
  have b0 : h8[h.length]? = some (.own [(Value.int .i64 V), (Value.int .i64 S), (Value.int .i64 T)]) := (o8.old _ (by omega)).trans (by simp)
  have b1 : h8[h.length + 1]? = some (.own [(Value.int .i64 0), (Value.int .i64 0), (Value.int .i64 0), .nilIface]) := (o8.old _ (by omega)).trans (by simp)
  have r0 : rdN h8 h.length 0 3 = some [(Value.int .i64 V), (Value.int .i64 S), (Value.int .i64 T)] := by rw [rdN_own b0 (by simp)]; rfl
  have w1 : wrN md h8 (h.length + 1) 0 [(Value.int .i64 V), (Value.int .i64 S), (Value.int .i64 T), ifA a] = some (h8.set (h.length + 1) (.own [(Value.int .i64 V), (Value.int .i64 S), (Value.int .i64 T), ifA a])) := wrs_any b1 (by omega) (by omega) (by simp)
  have r1 : rdN (h8.set (h.length + 1) (.own [(Value.int .i64 V), (Value.int .i64 S), (Value.int .i64 T), ifA a])) (h.length + 1) 0 4 = some [(Value.int .i64 V), (Value.int .i64 S), (Value.int .i64 T), ifA a] := by rw [rdN_own (set_here b1) (by simp)]; rfl
  have s := fun (b : Nat) (hh : Heap) (k : Heap → Option (Value × Heap)) => st_N md 4 b 0 [(Value.int .i64 V), (Value.int .i64 S), (Value.int .i64 T), ifA a] hh k rfl rfl
  have mo := memof_s md h8 (lt_of A8.ha)
  refine ⟨h8.set (h.length + 1) (.own [(Value.int .i64 V), (Value.int .i64 S), (Value.int .i64 T), ifA a]), a, b, ?_, ⟨?_, ?_, A8.hc, A8.ne⟩, ⟨?_, fun x hx => ?_⟩, by omega, by omega⟩
  · rw [C, call_eq, F42_eq]
    unfold F42
    have z : ((0 : Int) != 0) = false := rfl
    have eq0 : ∀ (k : Value → Option (Value × Heap)), aBin Try.prog .eql 80 ((Value.pointer (some ⟨a, 0, none⟩))) (.pointer none) k = k ((Value.bool false)) := fun k => by kernel_rfl
    simp only [go_sem, Nat.reduceAdd, Nat.reduceLeDiff, Nat.reduceMul, Int.reduceBEq, Int.reduceBNe, Int.reduceLT, Int.reduceLE, Int.reduceGT, cells_s _ _ hR, e8, z, eq0, r0, mo, bEdges, s, w1, r1]
  · rw [set_else (by omega)]; exact A8.ha
  · rw [set_else (by omega)]; exact A8.hb
  · have := o8.len; simp at this ⊢; omega
  · rw [set_else (by omega), o8.old x (by omega), List.getElem?_append_left hx]
end Go.Det.E
