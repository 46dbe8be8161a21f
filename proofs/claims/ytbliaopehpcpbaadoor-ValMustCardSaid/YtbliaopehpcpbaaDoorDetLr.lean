/- A region in which what makes an interface waits: it may wait for anything that all behind it wait for. -/
import Derived.Test.YtbliaopehpcpbaaDoorDetL
set_option autoImplicit false
set_option linter.unusedVariables false
set_option linter.unusedSimpArgs false
set_option linter.unusedSectionVars false
namespace Go.Det

variable {P : Program} {ops : Array Oper} {k i : Nat}
theorem addE_size : (addE ops k i).size = ops.size := by unfold addE; split <;> simp
theorem addE_ne {j : Nat} (h : j ≠ k) : (addE ops k i)[j]? = ops[j]? := by
  unfold addE
  split
  · rw [Array.getElem?_setIfInBounds_ne (Ne.symm h)]
  · rfl
theorem addE_eq {o : Oper} (ho : ops[k]? = some o) : (addE ops k i)[k]? = some { o with after := o.after.push ⟨i, .data⟩ } := by
  have hk : k < ops.size := (Array.getElem?_eq_some_iff.1 ho).1
  unfold addE
  rw [ho]
  simp only []
  rw [Array.getElem?_setIfInBounds_self_of_lt hk]
/-- Each is what it was, but for its edges. -/
theorem addE_at {j : Nat} {o : Oper} (ho : ops[j]? = some o) : ∃ o', (addE ops k i)[j]? = some o' ∧ o'.op = o.op ∧ o'.dst = o.dst ∧ o'.guard = o.guard ∧ (∀ e ∈ o.after, e ∈ o'.after) ∧ (j ≠ k → o' = o) ∧ execOp = execOp ∧ (∀ ev, execOp ev o' = execOp ev o) := by
  by_cases h : j = k
  · subst h
    exact ⟨_, addE_eq ho, rfl, rfl, rfl, fun e he => by simp [he], fun q => absurd rfl q, rfl, fun ev => rfl⟩
  · exact ⟨o, (addE_ne h).trans ho, rfl, rfl, rfl, fun e he => he, fun _ => rfl, rfl, fun _ => rfl⟩
theorem addE_dst (j : Nat) : ((addE ops k i)[j]?).bind (·.dst) = (ops[j]?).bind (·.dst) := by
  cases ho : ops[j]? with
  | none =>
    have : (addE ops k i)[j]? = none := by
      rw [Array.getElem?_eq_none_iff, addE_size]
      exact Array.getElem?_eq_none_iff.1 ho
    rw [this]
  | some o =>
    obtain ⟨o', h1, _, h2, _⟩ := addE_at (k := k) (i := i) ho
    rw [h1]; exact h2
theorem addE_yield : yielded (addE ops k i) = yielded ops := by
  funext t j
  unfold yielded
  rw [addE_dst]
theorem binds_data (i : Nat) : Region.binds .any ⟨i, .data⟩ = true := rfl
/-- What normal ends alone are asked of. -/
def nq (Q : Exit → Act → World → Prop) : Exit → Act → World → Prop
  | .normal, a, w => Q .normal a w
  | _, _, _ => False
theorem nq_out {Q : Exit → Act → World → Prop} : ¬ LetsOut (nq Q) := fun ⟨_, _, h⟩ => h
theorem wp_nq {o : Oper} {a : Act} {w : World} {C : Act → World → Prop} {Q : Exit → Act → World → Prop} (h : o.wp P a w C (nq Q)) : o.wp P a w C Q := by
  unfold Oper.wp at *
  generalize (execOp a.eval o).run P w = x at *
  cases x with
  | ok n w' =>
    cases n <;> simp only [Oper.upon] at h ⊢ <;> first | exact h | skip
    case enter f args =>
      refine Calls.mono h fun e w'' hh => ?_
      cases e with
      | returned u => exact hh
      | panicked c => exact hh.elim
      | outgrown => exact absurd hh nq_out
  | halt y w' => cases y <;> simp only [Oper.upon] at h ⊢ <;> first | exact h | exact h.elim
/-- The same with one thing more put where it doesn't look. -/
theorem wp_late {o ok : Oper} {a : Act} {w : World} {v : Value} {C C' : Act → World → Prop} {Q : Exit → Act → World → Prop} (hs : notSel o.op = true) (hap : Oper.apart ops o ok = true)
    (hC : ∀ a' w', (∀ d ∈ ok.looksAt ops, a'.tmps[d]? = a.tmps[d]?) → C a' w' → C' (a'.put ok.dst v) w') (h : o.wp P a w C (nq Q)) : o.wp P (a.put ok.dst v) w C' Q := by
  obtain ⟨a1, a2, a3⟩ := Oper.apart_spec hap
  have he : execOp (a.put ok.dst v).eval o = execOp a.eval o := execOp_congr o (fun cs b e => by rw [e] at hs; cases hs) fun x hx => by
    refine Act.eval_put fun d hd e => a3 d hd ?_
    rw [e] at hx
    exact List.mem_append_left _ (List.mem_filterMap.2 ⟨.tmp d, by simpa using hx, rfl⟩)
  have kp : ∀ (a0 : Act) (u : Value), a0.tmps = a.tmps → ∀ d ∈ ok.looksAt ops, (a0.put o.dst u).tmps[d]? = a.tmps[d]? := fun a0 u h0 d hd => by
    rw [put_off (fun e => a1 d e hd), h0]
  have pc : ∀ (a0 : Act) (u : Value), (a0.put ok.dst v).put o.dst u = (a0.put o.dst u).put ok.dst v := fun a0 u => (Act.put_comm a0 u v a2).symm
  unfold Oper.wp at *
  rw [he]
  generalize (execOp a.eval o).run P w = x at *
  cases x with
  | ok n w' =>
    cases n <;> simp only [Oper.upon] at h ⊢ <;> first | exact h.elim | skip
    case value u => rw [pc]; exact hC _ _ (kp a u rfl) h
    case skip => rw [pc]; exact hC _ _ (kp a undef rfl) h
    case defer d =>
      have e : ({ a.put ok.dst v with defers := d :: (a.put ok.dst v).defers } : Act) = ({ a with defers := d :: a.defers } : Act).put ok.dst v := Act.put_defers a ok.dst v d
      rw [e, pc]
      exact hC _ _ (kp { a with defers := d :: a.defers } undef rfl) h
    case enter f args =>
      refine Calls.mono h fun e w'' hh => ?_
      cases e with
      | returned u => show C' ((a.put ok.dst v).put o.dst u) w''; rw [pc]; exact hC _ _ (kp a u rfl) hh
      | panicked c => exact hh.elim
      | outgrown => exact absurd hh nq_out
    case row row args => exact Rows.mono h fun u w'' hh => by rw [pc]; exact hC _ _ (kp a u rfl) hh
  | halt y w' => cases y <;> simp only [Oper.upon] at h ⊢ <;> exact h.elim
theorem op_same {Q : Exit → Act → World → Prop} {j : Nat} {a : Act} {w : World} {C C' : Act → World → Prop} (hC : ∀ a' w', C a' w' → C' a' w') (h : wpOp P (addE ops k i) (nq Q) j C a w) : wpOp P ops Q j C' a w := by
  unfold wpOp at *
  cases ho : ops[j]? with
  | none =>
    have : (addE ops k i)[j]? = none := by
      rw [Array.getElem?_eq_none_iff, addE_size]
      exact Array.getElem?_eq_none_iff.1 ho
    rw [this] at h
    exact hC _ _ h
  | some o =>
    have key : ∃ x, (addE ops k i)[j]? = some { o with after := x } := by
      by_cases e : j = k
      · subst e; exact ⟨_, addE_eq ho⟩
      · exact ⟨o.after, (addE_ne e).trans ho⟩
    obtain ⟨x, hx⟩ := key
    rw [hx, addE_yield] at h
    simp only [] at h ⊢
    have e1 : Region.wanted ({ o with after := x } : Oper) (yielded ops a.tmps) = Region.wanted o (yielded ops a.tmps) := rfl
    rw [e1] at h
    cases hw : Region.wanted o (yielded ops a.tmps)
    · rw [hw] at h
      simp only [Bool.false_eq_true, if_false] at h ⊢
      exact hC _ _ h
    · rw [hw] at h
      simp only [if_true] at h ⊢
      rcases h with h | ⟨_, h⟩
      · exact .inl (Oper.wp_mono hC (wp_nq (o := o) h))
      · exact absurd h nq_out
theorem op_late {Q : Exit → Act → World → Prop} {j : Nat} {o ok : Oper} {a : Act} {w : World} {v : Value} {C C' : Act → World → Prop} (hjk : j ≠ k) (ho : ops[j]? = some o) (hs : notSel o.op = true) (hap : Oper.apart ops o ok = true)
    (hC : ∀ a' w', (∀ d ∈ ok.looksAt ops, a'.tmps[d]? = a.tmps[d]?) → C a' w' → C' (a'.put ok.dst v) w') (h : wpOp P (addE ops k i) (nq Q) j C a w) : wpOp P ops Q j C' (a.put ok.dst v) w := by
  obtain ⟨a1, a2, a3⟩ := Oper.apart_spec hap
  unfold wpOp at *
  rw [(addE_ne hjk).trans ho, addE_yield] at h
  rw [ho]
  simp only [] at h ⊢
  have e1 : Region.wanted o (yielded ops (a.put ok.dst v).tmps) = Region.wanted o (yielded ops a.tmps) := wanted_act fun d hd => put_off fun e => a3 d e hd
  rw [e1]
  cases hw : Region.wanted o (yielded ops a.tmps)
  · rw [hw] at h
    simp only [Bool.false_eq_true, if_false] at h ⊢
    rw [Act.put_comm a v undef fun d e1 e2 => a2 d e2 e1]
    exact hC _ _ (fun d hd => put_off fun e => a1 d e hd) h
  · rw [hw] at h
    simp only [if_true] at h ⊢
    rcases h with h | ⟨_, h⟩
    · exact .inl (wp_late hs hap hC h)
    · exact absurd h nq_out
/-- Nothing is left. -/
theorem none_left {ops : Array Oper} (hlow : ∀ j o, ops[j]? = some o → ∀ e ∈ o.after, Region.binds .any e = true → e.on < j) {listed : Array Bool} (hs : listed.size = ops.size) (hr : Region.ready .any ops listed = []) : unl ops listed = [] := by
  cases hu : unl ops listed with
  | nil => rfl
  | cons x l =>
    exfalso
    have hx : x ∈ unl ops listed := by rw [hu]; simp
    obtain ⟨hlt, hun⟩ := unl_mem.1 hx
    have hox := Array.getElem?_eq_getElem hlt
    have : x ∈ Region.ready .any ops listed := mem_ready.2 ⟨hun, _, hox, fun e he hb => by
      have hlt' := hlow _ _ hox e he hb
      have hnot : e.on ∉ unl ops listed := fun hm => by
        rw [hu] at hm
        have hs := unl_sorted (ops := ops) listed
        rw [hu, List.pairwise_cons] at hs
        rcases List.mem_cons.1 hm with h1 | h1
        · omega
        · have := hs.1 _ h1; omega
      have hsz : e.on < listed.size := by omega
      cases hg : listed[e.on] with
      | true => simp [Array.getD, hsz, hg]
      | false => exact absurd (unl_mem.2 ⟨by omega, by simp [Array.getD, hsz, hg]⟩) hnot⟩
    rw [hr] at this; cases this
theorem unl_addE (listed : Array Bool) : unl (addE ops k i) listed = unl ops listed := by unfold unl; rw [addE_size]
/-- What is known of one that may wait. -/
structure MW (P : Program) (ops : Array Oper) (k i : Nat) (ok : Oper) (ty : TypeId) (x : Operand) : Prop where
  lt : i < k
  at_ : ops[k]? = some ok
  op : ok.op = .makeInterface ty x
  gd : ok.guard = none
  run : ∀ (ev : Operand → Value) (w : World), (execOp ev ok).run P w = .ok (.value (.iface ty (ev x))) w
  sel : ∀ (j : Nat) (o : Oper), ops[j]? = some o → notSel o.op = true
  low : ∀ (j : Nat) (o : Oper), ops[j]? = some o → ∀ e ∈ o.after, Region.binds .any e = true → e.on < j
  dir : ∀ (j : Nat) (o : Oper), ops[j]? = some o → ∀ e ∈ o.after, Region.binds .any e = true → e.on = k → anc ops j i = true
  beh : ∀ j, j < ops.size → anc ops j k = true → anc ops j i = true
  ap : ∀ (j : Nat) (o : Oper), ops[j]? = some o → j ≠ k → anc ops j k = false → anc ops k j = false → Oper.apart ops o ok = true
theorem mayWait_spec (h : mayWait P ops k i = true) : ∃ ok ty x, MW P ops k i ok ty x := by
  unfold mayWait at h
  simp only [Bool.and_eq_true] at h
  obtain ⟨hlt, h⟩ := h
  cases ho : ops[k]? with
  | none => rw [ho] at h; cases h
  | some ok =>
    rw [ho] at h
    simp only [Bool.and_eq_true] at h
    obtain ⟨⟨hg, hop⟩, hall⟩ := h
    cases hx : ok.op <;> rw [hx] at hop <;> first | (cases hop; done) | skip
    rename_i ty x
    simp only [] at hop
    have hmem : ∀ {j : Nat} {o : Oper}, ops[j]? = some o → (o, j) ∈ ops.toList.zipIdx := fun {j o} hj => by
      rw [List.mem_zipIdx_iff_getElem?]; simpa using hj
    refine ⟨ok, ty, x, by rwa [Nat.blt_eq] at hlt, ho, hx, by simpa using hg, fun ev w => ?_, fun j o hj => ?_, fun j o hj e he hb => ?_, fun j o hj e he hb hek => ?_, fun j hj h1 => ?_, fun j o hj hne h1 h2 => ?_⟩
    · cases hu : P.underlying ty with
      | none => rw [hu] at hop; cases hop
      | some d =>
        rw [hu] at hop
        simp only [execOp, hx, Instr.makeInterface, Sem.run_bind, run_underlying hu, Result.andThen_ok]
        cases d <;> first | (cases hop; done) | rfl
    · have := List.all_eq_true.1 hall _ (hmem hj)
      simp only [Bool.and_eq_true] at this
      exact this.1.1
    · have := List.all_eq_true.1 hall _ (hmem hj)
      simp only [Bool.and_eq_true] at this
      have := List.all_eq_true.1 this.1.2 e (by simpa using he)
      simp only [hb, Bool.not_true, Bool.false_or, Bool.and_eq_true] at this
      have h1 := this.1
      rwa [Nat.blt_eq] at h1
    · have := List.all_eq_true.1 hall _ (hmem hj)
      simp only [Bool.and_eq_true] at this
      have := List.all_eq_true.1 this.1.2 e (by simpa using he)
      have hbk : Nat.beq e.on k = true := by rw [hek]; exact Nat.beq_refl k
      simp only [hb, hbk, Bool.not_true, Bool.false_or, Bool.and_eq_true] at this
      unfold anc
      exact this.2
    · have := List.all_eq_true.1 hall _ (hmem (Array.getElem?_eq_getElem hj))
      simp only [Bool.and_eq_true] at this
      have := this.2.1
      unfold anc at h1 ⊢
      rw [h1] at this
      simpa using this
    · have := List.all_eq_true.1 hall _ (hmem hj)
      simp only [Bool.and_eq_true] at this
      have := this.2.2
      unfold anc at h1 h2
      rw [h1, h2] at this
      have hb : Nat.beq j k = false := by
        cases hq : Nat.beq j k
        · rfl
        · exact absurd (Nat.eq_of_beq_eq_true hq) hne
      rw [hb] at this
      simpa using this
/-- What waits longer than it must comes to the same. -/
theorem relax1 {ok : Oper} {ty : TypeId} {x : Operand} (M : MW P ops k i ok ty x) {Q : Exit → Act → World → Prop} : ∀ (fuel : Nat),
    (∀ (listed : Array Bool) (a : Act) (w : World), listed.size = ops.size → (∀ m o, ops[m]? = some o → listed.getD m false = true → ∀ e ∈ o.after, Region.binds .any e = true → listed.getD e.on false = true) → (unl ops listed).length ≤ fuel →
      wpAny P .any (addE ops k i) (nq Q) fuel listed a w → wpAny P .any ops Q fuel listed a w) ∧
    (∀ (listed : Array Bool) (a : Act) (w : World), listed.size = ops.size → (∀ m o, ops[m]? = some o → listed.getD m false = true → ∀ e ∈ o.after, Region.binds .any e = true → listed.getD e.on false = true) → (unl ops listed).length ≤ fuel + 1 →
      listed.getD k false = false → (∀ e ∈ ok.after, Region.binds .any e = true → listed.getD e.on false = true) →
      wpAny P .any (addE ops k i) (nq Q) (fuel + 1) listed a w → wpAny P .any ops Q fuel (listed.setIfInBounds k true) (a.put ok.dst (.iface ty (a.eval x))) w) := by
  have hks : k < ops.size := (Array.getElem?_eq_some_iff.1 M.at_).1
  have his : i < ops.size := Nat.lt_trans M.lt hks
  have low' : ∀ j o, (addE ops k i)[j]? = some o → ∀ e ∈ o.after, Region.binds .any e = true → e.on < j := by
    intro j o hj e he hb
    by_cases h : j = k
    · subst h
      rw [addE_eq M.at_] at hj
      cases hj
      simp only [Array.mem_push] at he
      rcases he with he | rfl
      · exact M.low j ok M.at_ e he hb
      · exact M.lt
    · exact M.low j o ((addE_ne h).symm.trans hj) e he hb
  have un : ∀ {listed : Array Bool}, listed.size = ops.size → ∀ {j : Nat}, j < ops.size → (listed.getD j true = false ↔ listed.getD j false = false) := fun {listed} hs {j} hj => by
    rw [getD_tf (by rw [hs]; exact hj)]
  have setc : ∀ {listed : Array Bool} {j : Nat} {o : Oper}, ops[j]? = some o → (∀ m o, ops[m]? = some o → listed.getD m false = true → ∀ e ∈ o.after, Region.binds .any e = true → listed.getD e.on false = true) →
      (∀ e ∈ o.after, Region.binds .any e = true → listed.getD e.on false = true) → (∀ m o, ops[m]? = some o → (listed.setIfInBounds j true).getD m false = true → ∀ e ∈ o.after, Region.binds .any e = true → (listed.setIfInBounds j true).getD e.on false = true) := by
    intro listed j o ho cl hd m q hq hl e he hb
    by_cases h : m = j
    · subst h
      rw [ho] at hq; cases hq
      exact getD_set_true (hd e he hb)
    · rw [getD_set_ne false (Ne.symm h)] at hl
      exact getD_set_true (cl m q hq hl e he hb)
  have less : ∀ {listed : Array Bool} {j n : Nat}, listed.size = ops.size → j ∈ unl ops listed → (unl ops listed).length ≤ n + 1 → (unl ops (listed.setIfInBounds j true)).length ≤ n := by
    intro listed j n hs hj hn
    obtain ⟨pre, post, hu⟩ := List.append_of_mem hj
    rw [unl_set hs hu]
    rw [hu] at hn
    simp at hn ⊢
    omega
  have knext : ∀ {fuel : Nat} {listed : Array Bool} {a : Act} {w : World}, wpOp P (addE ops k i) (nq Q) k (wpAny P .any (addE ops k i) (nq Q) fuel (listed.setIfInBounds k true)) a w → wpAny P .any (addE ops k i) (nq Q) fuel (listed.setIfInBounds k true) (a.put ok.dst (.iface ty (a.eval x))) w := by
    intro fuel listed a w h
    unfold wpOp at h
    rw [addE_eq M.at_] at h
    simp only [] at h
    have hw : Region.wanted ({ ok with after := ok.after.push ⟨i, .data⟩ } : Oper) (yielded (addE ops k i) a.tmps) = true := by
      unfold Region.wanted
      simp only [M.gd]
    rw [hw] at h
    simp only [if_true] at h
    rcases h with h | ⟨_, h⟩
    · unfold Oper.wp at h
      have e : execOp a.eval ({ ok with after := ok.after.push ⟨i, .data⟩ } : Oper) = execOp a.eval ok := rfl
      rw [e, M.run] at h
      exact h
    · exact absurd h nq_out
  have hA : ∀ (fuel : Nat), (∀ (listed : Array Bool) (a : Act) (w : World), listed.size = ops.size → (∀ m o, ops[m]? = some o → listed.getD m false = true → ∀ e ∈ o.after, Region.binds .any e = true → listed.getD e.on false = true) → (unl ops listed).length ≤ fuel →
      wpAny P .any (addE ops k i) (nq Q) fuel listed a w → wpAny P .any ops Q fuel listed a w) →
      (∀ (listed : Array Bool) (a : Act) (w : World), listed.size = ops.size → (∀ m o, ops[m]? = some o → listed.getD m false = true → ∀ e ∈ o.after, Region.binds .any e = true → listed.getD e.on false = true) → (unl ops listed).length ≤ fuel + 1 →
      listed.getD k false = false → (∀ e ∈ ok.after, Region.binds .any e = true → listed.getD e.on false = true) →
      wpAny P .any (addE ops k i) (nq Q) (fuel + 1) listed a w → wpAny P .any ops Q fuel (listed.setIfInBounds k true) (a.put ok.dst (.iface ty (a.eval x))) w) →
      (∀ (listed : Array Bool) (a : Act) (w : World), listed.size = ops.size → (∀ m o, ops[m]? = some o → listed.getD m false = true → ∀ e ∈ o.after, Region.binds .any e = true → listed.getD e.on false = true) → (unl ops listed).length ≤ fuel + 1 →
      wpAny P .any (addE ops k i) (nq Q) (fuel + 1) listed a w → wpAny P .any ops Q (fuel + 1) listed a w) := by
    intro fuel ihA ihB listed a w hs cl hn h
    have h' := h
    obtain ⟨h0, h1⟩ := h
    refine ⟨fun hr => h0 ?_, fun j hj => ?_⟩
    · have := none_left M.low hs hr
      cases hq : Region.ready .any (addE ops k i) listed with
      | nil => rfl
      | cons y l =>
        exfalso
        obtain ⟨g1, o, g2, _⟩ := mem_ready.1 (show y ∈ Region.ready .any (addE ops k i) listed by rw [hq]; simp)
        have : y ∈ unl ops listed := unl_mem.2 ⟨by rw [← addE_size (ops := ops) (k := k) (i := i)]; exact (Array.getElem?_eq_some_iff.1 g2).1, g1⟩
        rw [none_left M.low hs hr] at this; cases this
    · obtain ⟨g1, o, g2, g3⟩ := mem_ready.1 hj
      have hjs : j < ops.size := (Array.getElem?_eq_some_iff.1 g2).1
      have hju : j ∈ unl ops listed := unl_mem.2 ⟨hjs, g1⟩
      have go : j ∈ Region.ready .any (addE ops k i) listed → wpOp P ops Q j (wpAny P .any ops Q fuel (listed.setIfInBounds j true)) a w := fun hj' =>
        op_same (fun a' w' q => ihA (listed.setIfInBounds j true) a' w' (by simpa using hs) (setc g2 cl g3) (less hs hju hn) q) (h1 j hj')
      by_cases hjk : j = k
      · subst hjk
        rw [M.at_] at g2; cases g2
        cases hi : listed.getD i false
        · have := ihB listed a w hs cl hn ((un hs hjs).1 g1) g3 h'
          unfold wpOp
          rw [M.at_]
          simp only []
          have hw : Region.wanted ok (yielded ops a.tmps) = true := by unfold Region.wanted; rw [M.gd]
          rw [hw]
          simp only [if_true]
          left
          unfold Oper.wp
          rw [M.run]
          exact this
        · refine go (mem_ready.2 ⟨g1, _, addE_eq M.at_, fun e he hb => ?_⟩)
          simp only [Array.mem_push] at he
          rcases he with he | rfl
          · exact g3 e he hb
          · exact hi
      · exact go (mem_ready.2 ⟨g1, o, (addE_ne hjk).trans g2, g3⟩)
  intro fuel
  induction fuel with
  | zero =>
    have zA : ∀ (listed : Array Bool) (a : Act) (w : World), listed.size = ops.size → (∀ m o, ops[m]? = some o → listed.getD m false = true → ∀ e ∈ o.after, Region.binds .any e = true → listed.getD e.on false = true) → (unl ops listed).length ≤ 0 →
      wpAny P .any (addE ops k i) (nq Q) 0 listed a w → wpAny P .any ops Q 0 listed a w := by
      intro listed a w hs cl hn h
      refine ⟨?_, h.2⟩
      cases hq : Region.ready .any ops listed with
      | nil => rfl
      | cons y l =>
        exfalso
        obtain ⟨g1, o, g2, _⟩ := mem_ready.1 (show y ∈ Region.ready .any ops listed by rw [hq]; simp)
        have : y ∈ unl ops listed := unl_mem.2 ⟨(Array.getElem?_eq_some_iff.1 g2).1, g1⟩
        rw [List.length_eq_zero_iff.1 (by omega : (unl ops listed).length = 0)] at this; cases this
    refine ⟨zA, fun listed a w hs cl hn hk hd h => ?_⟩
    have hku : k ∈ unl ops listed := unl_mem.2 ⟨hks, (un hs hks).2 hk⟩
    cases hi : listed.getD i false
    · exfalso
      have hiu : i ∈ unl ops listed := unl_mem.2 ⟨his, (un hs his).2 hi⟩
      obtain ⟨pre, post, hu⟩ := List.append_of_mem hku
      rw [hu] at hiu hn
      have hik : i ≠ k := Nat.ne_of_lt M.lt
      simp [hik] at hiu
      simp at hn
      rcases hiu with q | q
      · have := List.length_pos_of_mem q; omega
      · have := List.length_pos_of_mem q; omega
    · have hr : k ∈ Region.ready .any (addE ops k i) listed := mem_ready.2 ⟨(un hs hks).2 hk, _, addE_eq M.at_, fun e he hb => by
        simp only [Array.mem_push] at he
        rcases he with he | rfl
        · exact hd e he hb
        · exact hi⟩
      exact zA _ _ _ (by simpa using hs) (setc M.at_ cl hd) (less hs hku hn) (knext (h.2 k hr))
  | succ fuel ih =>
    have sA := hA fuel ih.1 ih.2
    refine ⟨sA, fun listed a w hs cl hn hk hd h => ?_⟩
    have hku : k ∈ unl ops listed := unl_mem.2 ⟨hks, (un hs hks).2 hk⟩
    cases hi : listed.getD i false
    · have clk := setc (j := k) M.at_ cl hd
      have hik : k ≠ i := Ne.symm (Nat.ne_of_lt M.lt)
      have hs' : (listed.setIfInBounds k true).size = ops.size := by simpa using hs
      have hi' : (listed.setIfInBounds k true).getD i false = false := by rw [getD_set_ne false hik]; exact hi
      refine ⟨fun hr => ?_, fun j hj => ?_⟩
      · exfalso
        have hiu : i ∈ unl ops (listed.setIfInBounds k true) := unl_mem.2 ⟨his, (un hs' his).2 hi'⟩
        rw [none_left M.low hs' hr] at hiu; cases hiu
      · obtain ⟨g1, o, g2, g3⟩ := mem_ready.1 hj
        have hjs : j < ops.size := (Array.getElem?_eq_some_iff.1 g2).1
        have hjk : j ≠ k := fun e => by
          subst e
          have : (listed.setIfInBounds j true).getD j false = true := by
            have : j < listed.size := by rw [hs]; exact hjs
            simp [Array.getD, this]
          rw [(un hs' hjs).1 g1] at this; cases this
        have njk : anc ops j k = false := by
          cases hb : anc ops j k
          · rfl
          · have h1 := M.beh j hjs hb
            have : (listed.setIfInBounds k true).getD i false = true := before_closed (ops := ops) (fun m => (listed.setIfInBounds k true).getD m false = true) clk g2 g3 h1
            rw [hi'] at this; cases this
        have nkj : anc ops k j = false := by
          cases hb : anc ops k j
          · rfl
          · have : listed.getD j false = true := before_closed (ops := ops) (fun m => listed.getD m false = true) cl M.at_ hd hb
            rw [getD_set_ne true (Ne.symm hjk), un hs hjs, this] at g1; cases g1
        have hdep : ∀ e ∈ o.after, Region.binds .any e = true → listed.getD e.on false = true := fun e he hb => by
          have := g3 e he hb
          by_cases hek : e.on = k
          · exfalso
            have h1 := M.dir j o g2 e he hb hek
            have : (listed.setIfInBounds k true).getD i false = true := before_closed (ops := ops) (fun m => (listed.setIfInBounds k true).getD m false = true) clk g2 g3 h1
            rw [hi'] at this; cases this
          · rw [getD_set_ne false (Ne.symm hek)] at this; exact this
        have g1' : listed.getD j true = false := by rw [getD_set_ne true (Ne.symm hjk)] at g1; exact g1
        have hju : j ∈ unl ops listed := unl_mem.2 ⟨hjs, g1'⟩
        have hr : j ∈ Region.ready .any (addE ops k i) listed := mem_ready.2 ⟨g1', o, (addE_ne hjk).trans g2, hdep⟩
        have hkj' : (listed.setIfInBounds j true).getD k false = false := by rw [getD_set_ne false hjk]; exact hk
        have sw : (listed.setIfInBounds j true).setIfInBounds k true = (listed.setIfInBounds k true).setIfInBounds j true := Array.setIfInBounds_comm _ _ hjk
        refine op_late hjk g2 (M.sel j o g2) (M.ap j o g2 hjk njk nkj) (fun a' w' hl q => ?_) (h.2 j hr)
        have ev : a'.eval x = a.eval x := by
          cases hx : x with
          | tmp d =>
            have := hl d (List.mem_append_left _ (List.mem_filterMap.2 ⟨.tmp d, by simp [M.op, Op.operands, hx], rfl⟩))
            simp only [Act.eval, Array.getD_eq_getD_getElem?, this]
          | _ => rfl
        have := ih.2 (listed.setIfInBounds j true) a' w' (by simpa using hs) (setc g2 cl hdep) (less hs hju hn) hkj' (fun e he hb => getD_set_true (hd e he hb)) q
        rw [ev, sw] at this
        exact this
    · have hr : k ∈ Region.ready .any (addE ops k i) listed := mem_ready.2 ⟨(un hs hks).2 hk, _, addE_eq M.at_, fun e he hb => by
        simp only [Array.mem_push] at he
        rcases he with he | rfl
        · exact hd e he hb
        · exact hi⟩
      exact sA _ _ _ (by simpa using hs) (setc M.at_ cl hd) (less hs hku hn) (knext (h.2 k hr))
theorem nq_nq (Q : Exit → Act → World → Prop) : nq (nq Q) = nq Q := by
  funext e a w
  cases e <;> rfl
theorem relaxL_wp {Q : Exit → Act → World → Prop} {a : Act} {w : World} : ∀ (l : List (Nat × Nat)) (ops : Array Oper), (relaxL P l ops).size = ops.size ∧
    (∀ (j : Nat) (o : Oper), ops[j]? = some o → ∃ o' : Oper, (relaxL P l ops)[j]? = some o' ∧ o'.op = o.op) ∧
    (wpAny P .any (relaxL P l ops) (nq Q) ops.size (Array.replicate ops.size false) a w → wpAny P .any ops (nq Q) ops.size (Array.replicate ops.size false) a w) := by
  intro l
  induction l with
  | nil => intro ops; exact ⟨rfl, fun j o h => ⟨o, h, rfl⟩, fun h => h⟩
  | cons p l ih =>
    intro ops
    obtain ⟨k, i⟩ := p
    simp only [relaxL]
    cases hm : mayWait P ops k i
    · exact ih ops
    · simp only [cond_true]
      obtain ⟨ok, ty, x, M⟩ := mayWait_spec hm
      obtain ⟨h1, h2, h3⟩ := ih (addE ops k i)
      have start : ∀ k, (Array.replicate ops.size false).getD k false = false := fun k => by
        by_cases hk : k < ops.size <;> simp [Array.getD, hk]
      refine ⟨h1.trans addE_size, fun j o hj => ?_, fun h => ?_⟩
      · obtain ⟨o', q1, q2, _⟩ := addE_at (k := k) (i := i) hj
        obtain ⟨o2, q3, q4⟩ := h2 j o' q1
        exact ⟨o2, q3, q4.trans q2⟩
      · rw [addE_size] at h3
        have := h3 h
        rw [← nq_nq Q] at this
        exact (relax1 M ops.size).1 _ a w (by simp) (fun m o _ hl => by rw [start] at hl; cases hl) (by
          have : (unl ops (Array.replicate ops.size false)).length ≤ (List.range ops.size).length := List.length_filter_le _ _
          simpa using this) this
theorem any_nq {Q : Exit → Act → World → Prop} : ∀ (fuel : Nat) (listed : Array Bool) (a : Act) (w : World), wpAny P .any ops (nq Q) fuel listed a w → wpAny P .any ops Q fuel listed a w := by
  intro fuel
  induction fuel with
  | zero => intro listed a w h; exact ⟨h.1, h.2⟩
  | succ fuel ih =>
    intro listed a w h
    refine ⟨h.1, fun j hj => ?_⟩
    have h := h.2 j hj
    unfold wpOp at *
    cases ho : ops[j]? with
    | none => rw [ho] at h; exact ih _ _ _ h
    | some o =>
      rw [ho] at h
      simp only [] at h ⊢
      cases hw : Region.wanted o (yielded ops a.tmps)
      · rw [hw] at h
        simp only [Bool.false_eq_true, if_false] at h ⊢
        exact ih _ _ _ h
      · rw [hw] at h
        simp only [if_true] at h ⊢
        rcases h with h | ⟨_, h⟩
        · exact .inl (Oper.wp_mono (ih _) (wp_nq h))
        · exact absurd h nq_out
end Go.Det
