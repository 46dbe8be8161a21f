/- Code and calls: the frame is the model's. -/
import Derived.Test.YtbliaopehpcpbaaDoorDetLr
set_option autoImplicit false
set_option linter.unusedVariables false
set_option linter.unusedSimpArgs false
set_option linter.unusedSectionVars false
namespace Go.Det
open Go.RowKit (Below)

variable [Gl] {P : Program} {base : Nat} {ρ : Ren} {β : Nat → Nat} {md : Md} {h : Heap} {w : World} {n N : Nat} {t : T} {a : Act} {rc : Rec} {cfg : Cfg}

def good : Exit → Prop
  | .normal | .exit _ | .ret => True
  | _ => False

theorem sup_some {α : Type} {g : Nat → Option α} {x : α} (h : sup g = some x) : ∃ n, g n = some x := by
  unfold sup at h
  split at h
  · rename_i he
    cases h
    exact Classical.choose_spec he
  · cases h

/-- A loop that ends after some rounds. -/
theorem wp_loop_n {c : Code} {Q : Exit → Act → World → Prop} (I : Nat → Act → World → Prop)
    (round : ∀ n a w, I n a w → c.wp P (Exit.then (fun a' w' => ∃ m, m < n ∧ I m a' w') Q) a w) {n : Nat} {a : Act} {w : World} (h₀ : I n a w) : (Code.loop c).wp P Q a w := by
  intro b k cs
  have key : ∀ n a w, I n a w → ∃ e a' w', Q e a' w' ∧ Arrives P (lone (b.at a (.code c :: .inLoop c :: k)) cs w) b k cs e a' w' := by
    intro n
    induction n using Nat.strongRecOn with
    | _ n ih =>
      intro a w hI
      obtain ⟨e, a₁, w₁, hq, harr⟩ := round n a w hI b (.inLoop c :: k) cs
      cases e with
      | normal =>
        obtain ⟨m, hlt, hI₁⟩ := hq
        obtain ⟨e₂, a₂, w₂, hq₂, harr₂⟩ := ih m hlt a₁ w₁ hI₁
        exact ⟨e₂, a₂, w₂, hq₂, .of_steps (Steps.trans harr (.one step_inLoop)) harr₂⟩
      | exit id => exact ⟨_, a₁, w₁, hq, .pass (x := .inLoop c) rfl (fun _ _ => .inl (by simp)) harr⟩
      | goto l => exact ⟨_, a₁, w₁, hq, .pass (x := .inLoop c) rfl (fun _ _ => .inl (by simp)) harr⟩
      | ret => exact ⟨_, a₁, w₁, hq, .pass (x := .inLoop c) rfl (fun _ _ => .inl (by simp)) harr⟩
      | panic ch => exact ⟨_, a₁, w₁, hq, .pass (x := .inLoop c) rfl (fun _ _ => .inl (by simp)) harr⟩
      | outgrown => exact ⟨_, a₁, w₁, hq, .pass (x := .inLoop c) rfl (fun _ _ => .inl (by simp)) harr⟩
  obtain ⟨e, a', w', hq, harr⟩ := key n a w h₀
  exact ⟨e, a', w', hq, .of_steps (.one step_loop) harr⟩

theorem unl_start (ops : Array Oper) : unl ops (Array.replicate ops.size false) = List.range ops.size := by
  unfold unl
  refine List.filter_eq_self.2 fun i hi => ?_
  rw [List.mem_range] at hi
  simp [hi]

theorem regOps_fr {α : Type} {ops : Array Oper} {K : T → Heap → Option α} {t : T} {h : Heap} {r : α} (hco : commOk P cfg ops = true) (hk : regOps P cfg rc md N ops true K t h = some r) :
    ∃ (fr : Nat → Nat → Bool) (L : List Ent), (∀ i j oi oj, ops[i]? = some oi → ops[j]? = some oj → j < i → ((Region.before ops).getD i 0).testBit j = false → LE P cfg oj oi → fr i j = true ∧ fr j i = true) ∧
      aOpsD P cfg rc md N ops fr K (List.range ops.size) t h L = some r := by
  unfold regOps at hk
  simp only [hco, cond_true] at hk
  have hle : ∀ {x y : Oper}, LE P cfg x y → ((isLoad P cfg x.op && isEff P cfg y.op) || (isEff P cfg x.op && isLoad P cfg y.op)) = true ∧ ((isLoad P cfg y.op && isEff P cfg x.op) || (isEff P cfg y.op && isLoad P cfg x.op)) = true := by
    intro x y h
    rcases h with ⟨h1, h2⟩ | ⟨h1, h2⟩ <;> simp [h1, h2]
  cases hf : hasFr P cfg ops
  · simp only [hf, cond_false] at hk
    refine ⟨fun _ _ => false, [], fun i j oi oj hi hj hlt hb h => ?_, by rw [aOpsD_off]; exact hk⟩
    exfalso
    have hm : ∀ {k : Nat} {o : Oper}, ops[k]? = some o → (o, k) ∈ ops.toList.zipIdx := fun {k o} hk => by
      rw [List.mem_zipIdx_iff_getElem?]; simpa using hk
    have : hasFr P cfg ops = true := by
      unfold hasFr
      refine List.any_eq_true.2 ⟨(oi, i), hm hi, List.any_eq_true.2 ⟨(oj, j), hm hj, ?_⟩⟩
      have hlt' : Nat.blt j i = true := by simp [Nat.blt]; omega
      simp only [hlt', (hle h).2, hb, Bool.not_false, Bool.and_true]
    rw [hf] at this; cases this
  · simp only [hf, cond_true] at hk
    refine ⟨frOf P cfg ops, [], fun i j oi oj hi hj hlt hb h => ?_, hk⟩
    unfold frOf
    simp only [hi, hj]
    have e1 : max i j = i := by omega
    have e2 : min i j = j := by omega
    have e3 : max j i = i := by omega
    have e4 : min j i = j := by omega
    rw [e1, e2, e3, e4, hb, (hle h).1, (hle h).2]
    exact ⟨rfl, rfl⟩

theorem exec_wp (hm : P.follows .mixedOrders = true) (hrc : SoundRec P rc) (hp : PureRec cfg rc) : ∀ (c : Code), okCode cfg c = true → ∀ {α : Type} {K : Exit → T → Heap → Option α} {r : α} (t : T) (h : Heap)
    (Q : Exit → Act → World → Prop) (a : Act) (w : World) (ρ : Ren), exec P cfg rc md N c K t h = some r → SR base md ρ β N t h a w →
    (∀ e t' h' a' w' ρ', good e → K e t' h' = some r → SR base md ρ' β N t' h' a' w' → Ext base md ρ h w ρ' h' w' → Q e a' w') → c.wp P Q a w := by
  intro c
  induction c with
  | skip => intro _ α K r t h Q a w ρ hk S hQ; exact wp_skip (hQ .normal t h a w ρ trivial hk S Ext.refl)
  | label l => intro _ α K r t h Q a w ρ hk S hQ; exact wp_label (hQ .normal t h a w ρ trivial hk S Ext.refl)
  | exit id => intro _ α K r t h Q a w ρ hk S hQ; exact wp_exit (hQ (.exit id) t h a w ρ trivial hk S Ext.refl)
  | ret => intro _ α K r t h Q a w ρ hk S hQ; exact wp_ret (hQ .ret t h a w ρ trivial hk S Ext.refl)
  | goto l => intro hok; simp [okCode] at hok
  | refuse s => intro hok; simp [okCode] at hok
  | rangeFunc f ps x y => intro hok; simp [okCode] at hok
  | region id ops draw =>
    intro hok α K r t h Q a w ρ hk S hQ
    simp only [okCode, okOps] at hok
    have hx := hok
    have hx' : ∀ o ∈ ops, o.op.operands.toList.all okOperand = true := fun o ho => List.all_eq_true.1 hx o (by simpa using ho)
    simp only [exec] at hk
    cases draw with
    | false =>
      simp only [regOps, cond_false] at hk
      exact wp_region (aOps_wp hrc hx' _ t h a w ρ S hk fun t' h' a' w' ρ' h1 h2 h3 => hQ .normal t' h' a' w' ρ' trivial h1 h2 h3)
    | true =>
      have key : ∀ (ops' : Array Oper) (Q' : Exit → Act → World → Prop), (∀ o ∈ ops', o.op.operands.toList.all okOperand = true) → commOk P cfg ops' = true → regOps P cfg rc md N ops' true (K .normal) t h = some r →
          (∀ a' w', Q .normal a' w' → Q' .normal a' w') → wpAny P .any ops' Q' ops'.size (Array.replicate ops'.size false) a w.drew := by
        intro ops' Q' hx' hd hk hq
        obtain ⟨fr, L, hfr, hk⟩ := regOps_fr hd hk
        have start : ∀ k, (Array.replicate ops'.size false).getD k false = false := fun k => by
          by_cases hk : k < ops'.size <;> simp [Array.getD, hk]
        refine any_wp hrc hp hx' hd hfr (h0 := h) (w0 := w.drew) (ρ0 := ρ) (fun t' h' a' w' ρ' h1 h2 h3 => hq _ _ (hQ .normal t' h' a' w' ρ' trivial h1 h2 ⟨h3.len, h3.rho, h3.ro, (Below.refl base w).drew.trans h3.below, h3.frm, h3.img⟩))
          ops'.size (Array.replicate ops'.size false) (Array.replicate ops'.size false) L t h a a w.drew ρ [] (by rw [unl_start]; simp)
          ⟨by simp, by simp, fun i hi => hi, fun k o ho hl => ?_, fun i h1 _ => ?_, fun p hp => by simp at hp, fun p hp => by simp at hp, fun p hp => by simp at hp, fun p hp => by simp at hp, fun p hp => by simp at hp, fun p hp => by simp at hp, List.Pairwise.nil, rfl, fun _ _ => rfl, rfl, S.drew, Ext.refl, by rw [unl_start]; exact hk⟩
        · rw [start] at hl; cases hl
        · rw [start] at h1; cases h1
      refine wp_region_any hm ?_
      cases hd : commOk P cfg ops
      · cases hd2 : commOk P cfg (relax P ops)
        · simp only [regOf, regOps, hd, hd2, cond_true, cond_false] at hk
          exact all_wp hrc hx' ops.size (Array.replicate ops.size false) t h a w.drew ρ S.drew hk
            fun t' h' a' w' ρ' h1 h2 h3 => hQ .normal t' h' a' w' ρ' trivial h1 h2 ⟨h3.len, h3.rho, h3.ro, (Below.refl base w).drew.trans h3.below, h3.frm, h3.img⟩
        · simp only [regOf, hd, hd2, cond_true, cond_false] at hk
          obtain ⟨z1, z2, z3⟩ := relaxL_wp (P := P) (Q := Q) (a := a) (w := w.drew) (relaxP ops) ops
          refine any_nq _ _ _ _ (z3 ?_)
          have := key (relax P ops) (nq Q) (fun o ho => ?_) hd2 hk (fun _ _ q => q)
          · unfold relax at this
            rw [z1] at this
            exact this
          · obtain ⟨j, hj, ej⟩ := Array.mem_iff_getElem.1 ho
            have hjs : j < ops.size := by
              have : (relax P ops).size = ops.size := z1
              omega
            obtain ⟨o', q1, q2⟩ := z2 j _ (Array.getElem?_eq_getElem hjs)
            have : (relax P ops)[j]? = some o := by rw [Array.getElem?_eq_getElem hj, ej]
            unfold relax at this
            rw [q1] at this
            cases this
            rw [q2]
            exact hx' _ (Array.getElem_mem hjs)
      · simp only [regOf, hd, cond_true] at hk
        exact key ops Q hx' hd hk (fun _ _ q => q)
  | seq x y ihx ihy =>
    intro hok α K r t h Q a w ρ hk S hQ
    simp only [okCode, Bool.and_eq_true] at hok
    simp only [exec] at hk
    refine wp_seq (ihx hok.1 t h _ a w ρ hk S fun e t' h' a' w' ρ' hg h1 h2 h3 => ?_)
    cases e <;> first | exact hg.elim | skip
    · exact ihy hok.2 t' h' Q a' w' ρ' h1 h2 fun e2 t2 h2' a2 w2 ρ2 hg2 g1 g2 g3 => hQ e2 t2 h2' a2 w2 ρ2 hg2 g1 g2 (h3.trans g3)
    · exact hQ _ t' h' a' w' ρ' hg h1 h2 h3
    · exact hQ _ t' h' a' w' ρ' hg h1 h2 h3
  | cond c x y ihx ihy =>
    intro hok α K r t h Q a w ρ hk S hQ
    simp only [okCode, Bool.and_eq_true] at hok
    simp only [exec] at hk
    split at hk
    · rename_i q hq
      have hr := ev_rel S.tmps hok.1.1
      rw [hq] at hr
      refine wp_cond hr.bool_inv ?_
      cases q
      · simp only [cond_false] at hk
        simp only [Bool.false_eq_true, if_false]
        exact ihy hok.2 t h Q a w ρ hk S hQ
      · simp only [cond_true] at hk
        simp only [if_true]
        exact ihx hok.1.2 t h Q a w ρ hk S hQ
    · cases hk
  | block id body ih =>
    intro hok α K r t h Q a w ρ hk S hQ
    simp only [okCode] at hok
    simp only [exec] at hk
    refine wp_block (ih hok t h _ a w ρ hk S fun e t' h' a' w' ρ' hg h1 h2 h3 => ?_)
    cases e <;> first | exact hg.elim | skip
    · exact hQ .normal t' h' a' w' ρ' trivial h1 h2 h3
    · rename_i j
      simp only [Exit.inBlock]
      simp only [] at h1
      cases hj : Nat.beq j id
      · simp only [hj, cond_false] at h1
        rw [if_neg (fun e => by rw [e] at hj; simp at hj)]
        exact hQ (.exit j) t' h' a' w' ρ' trivial h1 h2 h3
      · simp only [hj, cond_true] at h1
        rw [if_pos (Nat.eq_of_beq_eq_true hj)]
        exact hQ .normal t' h' a' w' ρ' trivial h1 h2 h3
    · exact hQ .ret t' h' a' w' ρ' trivial h1 h2 h3
  | loop body ih =>
    intro hok α K r t h Q a w ρ hk S hQ
    simp only [okCode] at hok
    simp only [exec] at hk
    split at hk
    · rename_i e0 t0 h0 hl
      obtain ⟨n, hn⟩ := sup_some hl
      refine wp_loop_n (fun n a' w' => ∃ t' h' ρ', loopN (fun s : T × Heap => exec P cfg rc md N body roundK s.1 s.2) n (t', h') = some (e0, t0, h0) ∧ SR base md ρ' β N t' h' a' w' ∧
        Ext base md ρ h w ρ' h' w') ?_ ⟨t, h, ρ, hn, S, Ext.refl⟩
      rintro n a' w' ⟨t', h', ρ', h1, h2, h3⟩
      cases n with
      | zero => simp [loopN] at h1
      | succ n =>
        simp only [loopN] at h1
        cases hb : exec P cfg rc md N body roundK t' h' with
        | none => simp [hb] at h1
        | some x =>
          refine ih hok t' h' _ a' w' ρ' hb h2 fun e2 t2 h2' a2 w2 ρ2 hg g1 g2 g3 => ?_
          simp only [hb] at h1
          cases e2 <;> first | exact hg.elim | skip
          · cases g1
            exact ⟨n, by omega, t2, h2', ρ2, h1, g2, h3.trans g3⟩
          · cases g1
            cases h1
            exact hQ _ _ _ a2 w2 ρ2 hg hk g2 (h3.trans g3)
          · cases g1
            cases h1
            exact hQ _ _ _ a2 w2 ρ2 hg hk g2 (h3.trans g3)
    · cases hk
  | scope body ih =>
    intro hok α K r t h Q a w ρ hk S hQ
    simp only [okCode] at hok
    simp only [exec] at hk
    refine wp_scope_straight (ih hok t h _ a w ρ hk S fun e t' h' a' w' ρ' hg h1 h2 h3 => ?_)
    cases e <;> first | exact hg.elim | exact hQ _ t' h' a' w' ρ' hg h1 h2 h3

/-! ### What the frame's own answers come from -/

theorem aOps_some {ops : Array Oper} {α : Type} {K : T → Heap → Option α} {r : α} : ∀ (l : List Nat) (t : T) (h : Heap), aOps P rc md N ops K l t h = some r → ∃ t' h', K t' h' = some r := by
  intro l
  induction l with
  | nil => intro t h hk; exact ⟨t, h, hk⟩
  | cons i rest ih =>
    intro t h hk
    cases ho : ops[i]? with
    | none => simp [aOps, ho] at hk
    | some o =>
      rw [aOps_cons ho] at hk
      cases h1 : run1 P rc md ops o t h with
      | none => simp [h1] at hk
      | some p =>
        simp only [h1, Option.bind_some] at hk
        unfold put at hk
        cases hd : o.dst with
        | none => rw [hd] at hk; exact ih _ _ hk
        | some d =>
          rw [hd] at hk
          simp only [] at hk
          cases hb : Nat.blt d N <;> simp [hb] at hk
          exact ih _ _ hk

theorem aOpsD_some {ops : Array Oper} {fr : Nat → Nat → Bool} {α : Type} {K : T → Heap → Option α} {r : α} : ∀ (l : List Nat) (t : T) (h : Heap) (L : List Ent), aOpsD P cfg rc md N ops fr K l t h L = some r → ∃ t' h', K t' h' = some r := by
  intro l
  induction l with
  | nil => intro t h L hk; exact ⟨t, h, hk⟩
  | cons i rest ih =>
    intro t h L hk
    cases ho : ops[i]? with
    | none => simp [aOpsD, ho] at hk
    | some o =>
      rw [aOpsD_cons ho] at hk
      cases h1 : run1 P rc md ops o t h with
      | none => simp [h1] at hk
      | some p =>
        simp only [h1, Option.bind_some] at hk
        rw [logK_some] at hk
        replace hk := hk.2
        unfold put at hk
        cases hd : o.dst with
        | none => rw [hd] at hk; exact ih _ _ _ hk
        | some d =>
          rw [hd] at hk
          simp only [] at hk
          cases hb : Nat.blt d N <;> simp [hb] at hk
          exact ih _ _ _ hk
theorem aOpsAny_some {ops : Array Oper} {α : Type} {K : T → Heap → Option α} {r : α} : ∀ (fuel : Nat) (listed : Array Bool) (t : T) (h : Heap), aOpsAny P rc md N ops K fuel listed t h = some r → ∃ t' h', K t' h' = some r := by
  intro fuel
  induction fuel with
  | zero =>
    intro listed t h hk
    simp only [aOpsAny] at hk
    cases hr : (Region.ready .any ops listed).isEmpty
    · rw [hr] at hk; cases hk
    · rw [hr] at hk; exact ⟨t, h, hk⟩
  | succ fuel ih =>
    intro listed t h hk
    by_cases hr : Region.ready .any ops listed = []
    · simp only [aOpsAny, hr] at hk; exact ⟨t, h, hk⟩
    · rw [aOpsAny_succ hr] at hk
      obtain ⟨i, hi⟩ := List.exists_mem_of_ne_nil _ hr
      have h1 := agree_some hk _ (List.mem_map_of_mem hi)
      obtain ⟨_, o, ho, _⟩ := mem_ready.1 hi
      simp only [ho] at h1
      cases hp : run1 P rc md ops o t h with
      | none => simp [hp] at h1
      | some p =>
        simp only [hp, Option.bind_some] at h1
        unfold put at h1
        cases hd : o.dst with
        | none => rw [hd] at h1; exact ih _ _ _ h1
        | some d =>
          rw [hd] at h1
          simp only [] at h1
          cases hb : Nat.blt d N <;> simp [hb] at h1
          exact ih _ _ _ h1
theorem regOps_some {ops : Array Oper} {draw : Bool} {α : Type} {K : T → Heap → Option α} {r : α} {t : T} {h : Heap} (hk : regOps P cfg rc md N ops draw K t h = some r) : ∃ t' h', K t' h' = some r := by
  unfold regOps at hk
  cases draw
  · exact aOps_some _ _ _ hk
  · simp only [cond_true] at hk
    cases hc : commOk P cfg ops
    · rw [hc] at hk; exact aOpsAny_some _ _ _ _ hk
    · rw [hc] at hk
      simp only [cond_true] at hk
      cases hb : hasFr P cfg ops
      · rw [hb] at hk; exact aOps_some _ _ _ hk
      · rw [hb] at hk; exact aOpsD_some _ _ _ _ hk

theorem exec_some : ∀ (c : Code) {α : Type} {K : Exit → T → Heap → Option α} {r : α} (t : T) (h : Heap), exec P cfg rc md N c K t h = some r → ∃ e t' h', K e t' h' = some r := by
  intro c
  induction c with
  | skip => intro α K r t h hk; exact ⟨_, _, _, hk⟩
  | label l => intro α K r t h hk; exact ⟨_, _, _, hk⟩
  | exit id => intro α K r t h hk; exact ⟨_, _, _, hk⟩
  | ret => intro α K r t h hk; exact ⟨_, _, _, hk⟩
  | goto l => intro α K r t h hk; simp [exec] at hk
  | refuse s => intro α K r t h hk; simp [exec] at hk
  | rangeFunc f ps x y => intro α K r t h hk; simp [exec] at hk
  | region id ops draw => intro α K r t h hk; obtain ⟨t', h', h1⟩ := regOps_some (show regOps P cfg rc md N (regOf P cfg ops draw) draw (K .normal) t h = some r from hk); exact ⟨_, _, _, h1⟩
  | seq x y ihx ihy =>
    intro α K r t h hk
    simp only [exec] at hk
    obtain ⟨e, t', h', h1⟩ := ihx _ _ hk
    cases e <;> first | exact ihy _ _ h1 | exact ⟨_, _, _, h1⟩
  | cond c x y ihx ihy =>
    intro α K r t h hk
    simp only [exec] at hk
    split at hk
    · rename_i q _
      cases q
      · exact ihy _ _ hk
      · exact ihx _ _ hk
    · cases hk
  | block id body ih =>
    intro α K r t h hk
    simp only [exec] at hk
    obtain ⟨e, t', h', h1⟩ := ih _ _ hk
    cases e <;> first | exact ⟨_, _, _, h1⟩ | skip
    rename_i j
    simp only [] at h1
    cases hj : Nat.beq j id
    · simp only [hj, cond_false] at h1; exact ⟨_, _, _, h1⟩
    · simp only [hj, cond_true] at h1; exact ⟨_, _, _, h1⟩
  | loop body ih =>
    intro α K r t h hk
    simp only [exec] at hk
    split at hk
    · exact ⟨_, _, _, hk⟩
    · cases hk
  | scope body ih => intro α K r t h hk; simp only [exec] at hk; exact ih _ _ hk

theorem resVals_some {t : T} {h : Heap} {r : Value × Heap} : ∀ (rs : List ResultVar) (k : List Value → Option (Value × Heap)), resVals P t h rs k = some r → ∃ l, k l = some r := by
  intro rs
  induction rs with
  | nil => intro k hk; exact ⟨_, hk⟩
  | cons x rs ih =>
    intro k hk
    cases x with
    | tmp i => simp only [resVals] at hk; obtain ⟨l, hl⟩ := ih _ hk; exact ⟨_, hl⟩
    | cell i ty =>
      simp only [resVals] at hk
      rw [aLoad_bind] at hk
      cases hv : aLoad P ty (t i) h some with
      | none => simp [hv] at hk
      | some v => simp only [hv, Option.bind_some] at hk; obtain ⟨l, hl⟩ := ih _ hk; exact ⟨_, hl⟩

theorem pure_step0 (cfg : Cfg) (rc : Rec) : ∀ md g args h v h', 2 ≤ cfg g → callStep0 P cfg rc md g args h = some (v, h') → h' = h := by
  intro md f args h v h' hc hk
  unfold callStep0 at hk
  split at hk
  case h_2 => cases hk
  rename_i fn hf
  split at hk
  case h_2 => cases hk
  rename_i c hbody
  cases hb : (okCode cfg c && !(fn.name == "runtime.NumGoroutine"))
  · simp [hb] at hk
  simp only [hb, cond_true] at hk
  obtain ⟨e, t', h1, hk⟩ := exec_some _ _ _ hk
  have fin : ∀ l, finishCall cfg f h (resOf l) h1 = some (v, h') → h' = h := fun l hl => by
    unfold finishCall at hl
    split at hl
    · omega
    · omega
    · cases hbl : below h.length (resOf l) <;> simp [hbl] at hl
      exact hl.2.symm
  unfold retK at hk
  split at hk
  · obtain ⟨l, hl⟩ := resVals_some _ _ hk; exact fin l hl
  · obtain ⟨l, hl⟩ := resVals_some _ _ hk; exact fin l hl
  · cases hk

/-! ### A call -/

theorem resVals_sound {r : Value × Heap} (S : SR base md ρ β N t h a w) : ∀ (rs : List ResultVar) (k : List Value → Option (Value × Heap)), resVals P t h rs k = some r →
    ∃ l cl, k l = some r ∧ LRel ρ h.length l cl ∧ ((rs.mapM fun x => match x with | .tmp t => pure (a.tmps.getD t undef) | .cell b ty => do loadVar ty (← asAddr (a.tmps.getD b undef)) : Sem (List Value))).run P w = .ok cl w := by
  intro rs
  induction rs with
  | nil => intro k hk; exact ⟨[], [], hk, LRel.nil, by simp⟩
  | cons x rs ih =>
    intro k hk
    cases x with
    | tmp i =>
      simp only [resVals] at hk
      obtain ⟨l, cl, h1, h2, h3⟩ := ih _ hk
      exact ⟨_, _, h1, LRel.cons (S.tmps i) h2, by simp only [List.mapM_cons, Sem.run_bind, Sem.run_pure, Result.andThen_ok, h3]⟩
    | cell i ty =>
      simp only [resVals] at hk
      have hi := S.tmps i
      obtain ⟨v, cv, h1, h2, h3⟩ := aLoad_sound (P := P) (k := fun v => resVals P t h rs fun l => k (v :: l)) S.heap hi hk
      obtain ⟨l, cl, g1, g2, g3⟩ := ih _ h1
      refine ⟨_, _, g1, LRel.cons h3 g2, ?_⟩
      have hp : ∃ ad, a.tmps.getD i undef = .pointer (some ad) := by
        unfold aLoad at hk
        split at hk
        · rename_i e
          rw [e] at hi
          obtain ⟨_, e'⟩ := hi.ptr_inv
          exact ⟨_, e'⟩
        · cases hk
      obtain ⟨ad, e⟩ := hp
      rw [e] at h2
      simp only [Instr.loadAt, Instr.sureAddr, Sem.run_bind, Sem.run_pure, Result.andThen_ok] at h2
      have e' : (asAddr (a.tmps.getD i undef)).run P w = .ok ad w := by rw [e]; rfl
      simp only [List.mapM_cons, Sem.run_bind, Sem.run_pure, Result.andThen_ok, e', h2, g3]

theorem HR.inner (H : HR base ρ β md.lim h w) : HR base ρ (bd β md.lim h) h.length h w := by
  have e : ∀ b, b < h.length → bd (bd β md.lim h) h.length h b = bd β md.lim h b := fun b hb => if_pos hb
  refine ⟨Nat.le_refl _, fun b _ => H.bd_le b, H.base_le, ?_, ?_, H.apart, H.mp.sub id (fun _ _ _ h => ⟨h, rfl⟩) (fun _ _ _ _ _ _ h => h) (fun b kd es hb l hl => by rw [e b (List.getElem?_eq_some_iff.1 hb).1]; exact hl)⟩
  · intro b cs hb
    rw [e b (List.getElem?_eq_some_iff.1 hb).1]
    exact H.ro b cs hb
  · intro b cs hb
    rw [e b (List.getElem?_eq_some_iff.1 hb).1]
    exact H.own b cs hb

theorem HR.outer {h' : Heap} (H : HR base ρ β md.lim h w) {w' : World} {ρ' : Ren} (hlen : h.length ≤ h'.length) (H' : HR base ρ' (bd β md.lim h) h.length h' w') : HR base ρ' β md.lim (h'.take h.length) w' := by
  have hl : (h'.take h.length).length = h.length := by simp; omega
  have old : ∀ {b k}, (h'.take h.length)[b]? = some k → b < h.length ∧ h'[b]? = some k := by
    intro b k hk
    rw [List.getElem?_take] at hk
    split at hk
    · exact ⟨by assumption, hk⟩
    · cases hk
  have e : ∀ b, b < h.length → bd (bd β md.lim h) h.length h' b = bd β md.lim (h'.take h.length) b := fun b hb => by
    unfold bd; rw [if_pos hb, hl]
  refine ⟨by rw [hl]; exact H.lim_le, H.bnd, H'.base_le, ?_, ?_, ?_, H'.mp.sub id (fun b kk ho hb => ⟨(old hb).2, rfl⟩) (fun _ _ _ _ _ _ hw => hw) (fun b kd es hb l hl => by rw [← e b (old hb).1]; exact hl)⟩
  · intro b cs hb
    obtain ⟨hlt, hb⟩ := old hb
    rw [← e b hlt]; exact H'.ro b cs hb
  · intro b cs hb
    obtain ⟨hlt, hb⟩ := old hb
    rw [← e b hlt]; exact H'.own b cs hb
  · intro b b' c1 c2 h1 h2 hne
    exact H'.apart b b' c1 c2 (old h1).2 (old h2).2 hne

theorem take_eq_of {h h' : Heap} (hlen : h.length ≤ h'.length) (hs : ∀ b, b < h.length → h'[b]? = h[b]?) : h'.take h.length = h := by
  refine List.ext_getElem? fun b => ?_
  rw [List.getElem?_take]
  split
  · exact hs b (by assumption)
  · rw [List.getElem?_eq_none (by omega)]

theorem sound_step0 (hm : P.follows .mixedOrders = true) (hrc : SoundRec P rc) (hp : PureRec cfg rc) : SoundRec P (callStep0 P cfg rc) := by
  intro md f args h v h' hk
  unfold callStep0 at hk
  split at hk
  case h_2 => cases hk
  rename_i fn hf
  split at hk
  case h_2 => cases hk
  rename_i c hbody
  cases hb : (okCode cfg c && !(fn.name == "runtime.NumGoroutine"))
  · simp [hb] at hk
  simp only [hb, cond_true] at hk
  simp only [Bool.and_eq_true, Bool.not_eq_true'] at hb
  obtain ⟨hok, hname⟩ := hb
  refine ⟨⟨fn, hf, by simp [hbody], hname⟩, ?_⟩
  intro base ρ β w cargs H hl
  have hsz : args.length = cargs.size := by simpa using hl.1
  -- the frame's bound at this call
  obtain ⟨β', hβ'⟩ : ∃ β', HR base ρ β' (mdOf cfg f md h.length).lim h w ∧ ((cfg f = 0 ∧ β' = β) ∨ (cfg f ≠ 0 ∧ β' = bd β md.lim h ∧ (mdOf cfg f md h.length).lim = h.length)) := by
    unfold mdOf
    split
    · rename_i e; exact ⟨β, H, .inl ⟨e, rfl⟩⟩
    · rename_i e; exact ⟨bd β md.lim h, H.inner, .inr ⟨by omega, rfl, rfl⟩⟩
    · rename_i e1 e2; exact ⟨bd β md.lim h, H.inner, .inr ⟨fun e => e1 e, rfl, rfl⟩⟩
  obtain ⟨H1, hβ⟩ := hβ'
  have S : SR base (mdOf cfg f md h.length) ρ β' (args.length + (fn.ntmps - args.length)) (args0 args) h { tmps := cargs ++ Array.replicate (fn.ntmps - cargs.size) undef, defers := [] } w := by
    refine ⟨H1, fun i => ?_, by simp [hsz], rfl⟩
    by_cases hi : i < args.length
    · have e1 : args0 args i = args[i] := by simp [args0, hi]
      have hc : i < cargs.size := by omega
      have e2 : (cargs ++ Array.replicate (fn.ntmps - cargs.size) undef).getD i undef = cargs[i] := by
        simp [Array.getD_eq_getD_getElem?, Array.getElem?_append_left hc, hc]
      rw [e1, e2]
      exact hl.2 i _ _ (List.getElem?_eq_getElem hi) (by simp [hc])
    · have e1 : args0 args i = undef := by simp [args0, List.getD, List.getElem?_eq_none (Nat.le_of_not_lt hi)]
      have e2 : (cargs ++ Array.replicate (fn.ntmps - cargs.size) undef).getD i undef = undef := by
        rw [Array.getD_eq_getD_getElem?, Array.getElem?_append_right (by omega)]
        by_cases hr : i - cargs.size < fn.ntmps - cargs.size
        · simp [hr]
        · rw [Array.getElem?_eq_none (by simp; omega)]; rfl
      rw [e1, e2]; exact VRel.undef
  refine calls_of_wp hf hbody (exec_wp hm hrc hp c hok _ _ _ _ _ ρ hk S fun e t' h1 a' w' ρ' hg hK S' E => ?_)
  have fin : ∀ l, finishCall cfg f h (resOf l) h1 = some (v, h') → ∀ cl, LRel ρ' h1.length l cl →
      ∃ ρ'', HR base ρ'' β md.lim h' w' ∧ VRel ρ'' h'.length v (if hh : cl.toArray.size = 1 then cl.toArray[0] else .tuple cl.toArray) ∧ Ext base md ρ h w ρ'' h' w' := by
    intro l hfin cl hcl
    have hv : VRel ρ' h1.length (resOf l) (if hh : cl.toArray.size = 1 then cl.toArray[0] else .tuple cl.toArray) := by
      unfold resOf
      split
      · obtain ⟨c, l', rfl, hc, hl'⟩ := hcl.cons_inv
        rw [hl'.nil_inv]
        simpa using hc
      · rename_i hne
        have : ¬ cl.toArray.size = 1 := by
          intro e1
          have : l.length = 1 := by rw [hcl.1]; simpa using e1
          obtain ⟨x, rfl⟩ := List.length_eq_one_iff.1 this
          exact hne x rfl
        rw [dif_neg this]
        exact hcl.tuple
    generalize (if hh : cl.toArray.size = 1 then cl.toArray[0] else Value.tuple cl.toArray) = cv at hv ⊢
    unfold finishCall at hfin
    split at hfin
    · rename_i e0
      cases hfin
      rcases hβ with ⟨_, rfl⟩ | ⟨hne, _⟩
      · have : mdOf cfg f md h.length = md := by simp [mdOf, e0]
        rw [this] at S' E
        exact ⟨ρ', S'.heap, hv, E⟩
      · exact absurd e0 hne
    · rename_i e1
      cases hbl : below h.length (resOf l) <;> simp [hbl] at hfin
      obtain ⟨rfl, rfl⟩ := hfin
      rcases hβ with ⟨e0, _⟩ | ⟨_, rfl, hlim⟩
      · omega
      · have H2 := S'.heap
        rw [hlim] at H2
        have hlen : (h1.take h.length).length = h.length := by have := E.len; simp; omega
        refine ⟨ρ', H.outer E.len H2, by rw [hlen]; exact hv.of_below hbl, ⟨by rw [hlen]; exact Nat.le_refl _, E.rho, fun b hb hlt => ?_, E.below, E.frm, fun b hb => by
          obtain ⟨k, hk, hl⟩ := hb
          rw [List.getElem?_take] at hk
          split at hk
          · exact E.img b ⟨k, hk, hl⟩
          · cases hk⟩⟩
        rw [List.getElem?_take, if_pos hlt]
        exact E.ro b (by unfold mdOf; rw [e1]; exact hb) hlt
    · rename_i e0 e1
      cases hbl : below h.length (resOf l) <;> simp [hbl] at hfin
      obtain ⟨rfl, rfl⟩ := hfin
      rcases hβ with ⟨e0', _⟩ | ⟨_, rfl, hlim⟩
      · exact absurd e0' e0
      · have H2 := S'.heap
        rw [hlim] at H2
        have hro : (mdOf cfg f md h.length).ro = h.length := by
          unfold mdOf
          split
          · rename_i e; exact absurd e e0
          · rename_i e; exact absurd e e1
          · rfl
        have htake : h1.take h.length = h := take_eq_of E.len fun b hb => E.ro b (by rw [hro]; exact hb) hb
        have H3 := H.outer E.len H2
        rw [htake] at H3
        exact ⟨ρ', H3, hv.of_below hbl, ⟨Nat.le_refl _, E.rho, fun _ _ _ => rfl, E.below, E.frm, fun b hb => by
          obtain ⟨k, hk, hl⟩ := hb
          have hlt : b < h.length := (List.getElem?_eq_some_iff.1 hk).1
          exact .inr ⟨b, ⟨k, hk, hl⟩, (congrArg Loc.blk (E.rho b hlt)).symm⟩⟩⟩
  have post : ∀ (hk' : resVals P t' h1 fn.results.toList (fun l => finishCall cfg f h (resOf l) h1) = some (v, h')), a'.defers = [] ∧ ∃ u, (results fn a'.tmps).run P w' = .ok u w' ∧
      ∃ cv ρ'', Ending.returned u = .returned cv ∧ HR base ρ'' β md.lim h' w' ∧ VRel ρ'' h'.length v cv ∧ Ext base md ρ h w ρ'' h' w' := by
    intro hk'
    obtain ⟨l, cl, g1, g2, g3⟩ := resVals_sound (P := P) S' _ _ hk'
    obtain ⟨ρ'', q1, q2, q3⟩ := fin l g1 cl g2
    refine ⟨S'.defers, _, ?_, _, ρ'', rfl, q1, q2, q3⟩
    have hres : results fn a'.tmps = (do
        let vs ← List.toArray <$> fn.results.toList.mapM (fun x => match x with | .tmp t => pure (a'.tmps.getD t undef) | .cell b ty => do loadVar ty (← asAddr (a'.tmps.getD b undef)) : ResultVar → Sem Value)
        pure (if h : vs.size = 1 then vs[0] else .tuple vs)) := by
      unfold results
      rw [Array.mapM_eq_mapM_toList]
      rfl
    rw [hres]
    simp only [Sem.run_bind, Sem.run_map, g3, Result.andThen_ok, Sem.run_pure]
  cases e <;> first | exact hg.elim | skip
  · exact post hK
  · cases hK
  · exact post hK

theorem alone_some {h : Heap} {x : Option (Value × Heap)} {v : Value} {h' : Heap} (hk : alone h x = some (v, h')) : ∃ g, x = some (v, g) ∧ plain2 v = true ∧ h' = h := by
  unfold alone at hk
  split at hk
  · rename_i u g
    cases hs : plain2 u
    · simp [hs] at hk
    · simp only [hs, cond_true] at hk; cases hk; exact ⟨g, rfl, hs, rfl⟩
  · cases hk
theorem pure_step (cfg : Cfg) (rc : Rec) : PureRec cfg (callStep P cfg rc) := by
  refine ⟨?_, ?_⟩
  · intro md f args h v h' hc hk
    unfold callStep at hk
    cases hb : Nat.beq (cfg f) 3
    · rw [hb] at hk
      cases h4 : Nat.beq (cfg f) 4
      · rw [h4] at hk; exact pure_step0 cfg rc md f args h v h' hc hk
      · rw [h4] at hk
        simp only [cond_true, cond_false] at hk
        split at hk
        · rename_i u hu
          cases hp : plain2 u
          · rw [hp] at hk; cases hk
          · rw [hp] at hk; cases hk; rfl
        · cases hk
    · rw [hb] at hk
      simp only [cond_true] at hk
      cases ha : args.all plain1
      · rw [ha] at hk; cases hk
      · rw [ha] at hk
        obtain ⟨g, _, _, e⟩ := alone_some hk; exact e
  · intro g args hg
    cases ha : args.all plain1
    · exact ⟨none, fun md h => by unfold callStep; rw [hg, ha]; rfl⟩
    · cases hx : callStep0 P cfg rc ⟨0, 0⟩ g args [] with
      | none => exact ⟨none, fun md h => by unfold callStep; rw [hg, ha]; simp only [cond_true]; rw [hx]; rfl⟩
      | some p =>
        obtain ⟨v, g'⟩ := p
        cases hv : plain2 v
        · exact ⟨none, fun md h => by unfold callStep; rw [hg, ha]; simp only [cond_true]; rw [hx]; simp only [alone, hv]; rfl⟩
        · exact ⟨some v, fun md h => by unfold callStep; rw [hg, ha]; simp only [cond_true]; rw [hx]; simp only [alone, hv]; rfl⟩
theorem VRel.plain1 {v : Value} (h : Det.plain1 v = true) : VRel ρ n v v := by
  cases v <;> first | exact .sc _ h | skip
  rename_i xs
  refine .agg xs xs rfl fun i v c h1 h2 => ?_
  rw [h1] at h2; cases h2
  exact .sc _ (List.all_eq_true.1 h v (by simpa using Array.mem_of_getElem? h1))
theorem VRel.plain1_eq {v c : Value} (hv : VRel ρ n v c) (h : Det.plain1 v = true) : c = v := by
  cases v with
  | agg xs =>
    obtain ⟨ys, rfl, hl⟩ := hv.agg_inv
    have := hl.scalars h
    rw [Array.toList_inj.1 this]
  | _ => exact hv.scalar_eq h
theorem VRel.plain2_eq {v c : Value} (hv : VRel ρ n v c) (h : Det.plain2 v = true) : c = v := by
  cases v with
  | tuple xs =>
    obtain ⟨ys, rfl, hl⟩ := hv.tuple_inv
    have : ys.toList = xs.toList := by
      refine List.ext_getElem? fun i => ?_
      cases hx : xs.toList[i]? with
      | none => exact List.getElem?_eq_none (by rw [← hl.1]; exact List.getElem?_eq_none_iff.1 hx)
      | some v =>
        obtain ⟨c, hc, hr⟩ := hl.get hx
        rw [hc, hr.plain1_eq (List.all_eq_true.1 h v (List.mem_of_getElem? hx))]
    rw [Array.toList_inj.1 this]
  | _ => exact hv.plain1_eq h
theorem VRel.plain2 {v : Value} (h : Det.plain2 v = true) : VRel ρ n v v := by
  cases v with
  | tuple xs =>
    refine .tuple xs xs rfl fun i v c h1 h2 => ?_
    rw [h1] at h2; cases h2
    exact VRel.plain1 (List.all_eq_true.1 h v (by simpa using Array.mem_of_getElem? h1))
  | _ => exact VRel.plain1 h
theorem LRel.plain {l l' : List Value} (hl : LRel ρ n l l') (h : l.all Det.plain1 = true) : l' = l := by
  refine List.ext_getElem? fun i => ?_
  cases hx : l[i]? with
  | none => exact List.getElem?_eq_none (by rw [← hl.1]; exact List.getElem?_eq_none_iff.1 hx)
  | some v =>
    obtain ⟨c, hc, hr⟩ := hl.get hx
    rw [hc, hr.plain1_eq (List.all_eq_true.1 h v (List.mem_of_getElem? hx))]
theorem LRel.of_plain {l : List Value} (h : l.all Det.plain1 = true) : LRel ρ n l l :=
  ⟨rfl, fun i v c h1 h2 => by
    rw [h1] at h2; cases h2
    exact VRel.plain1 (List.all_eq_true.1 h v (List.mem_of_getElem? h1))⟩
theorem HR.later {w' : World} (H : HR base ρ β n h w) (hb : Below w.heap.size w w') : HR base ρ β n h w' := by
  have lt : ∀ {k : Nat} {o : Obj}, w.heap[k]? = some o → k < w.heap.size := fun h => (Array.getElem?_eq_some_iff.1 h).1
  refine ⟨H.lim_le, H.bnd, Nat.le_trans H.base_le hb.size, ?_, ?_, H.apart, H.mp.sub (fun g => Gl.keep g hb.size (fun k hk => hb.block k (Nat.lt_of_lt_of_le hk H.base_le))) (fun _ _ _ h => ⟨h, rfl⟩) (fun b kk ho h1 o oo hw => (hb.block _ (Array.getElem?_eq_some_iff.1 hw).1).trans hw) (fun _ _ _ _ _ h => h)⟩
  · intro b cs h1 h2
    obtain ⟨g1, ccs, e, fz, g2, g3⟩ := H.ro b cs h1 h2
    exact ⟨g1, ccs, e, fz, (hb.block _ (lt g2)).trans g2, g3⟩
  · intro b cs h1
    obtain ⟨g1, ccs, e, g2, g3⟩ := H.own b cs h1
    exact ⟨g1, ccs, e, (hb.block _ (lt g2)).trans g2, g3⟩
/-- What is asked of what stands for a function: the model's call comes to the same, and leaves what was there. -/
def ExtOk (P : Program) (cfg : Cfg) : Prop := ∀ f args h v, cfg.x f args h = some v → Det.plain2 v = true →
  (∃ fn, P.funcs[f]? = some fn ∧ fn.body.isSome = true ∧ (fn.name == "runtime.NumGoroutine") = false) ∧
  ∀ base ρ β lim w (cargs : Array Value), HR base ρ β lim h w → LRel ρ h.length args cargs.toList → Calls P f cargs w fun e w' => e = .returned v ∧ Below w.heap.size w w'
theorem sound_step (hm : P.follows .mixedOrders = true) (hx : ExtOk P cfg) (hrc : SoundRec P rc) (hp : PureRec cfg rc) : SoundRec P (callStep P cfg rc) := by
  intro md f args h v h' hk
  unfold callStep at hk
  cases hb : Nat.beq (cfg f) 3
  · rw [hb] at hk
    cases h4 : Nat.beq (cfg f) 4
    · rw [h4] at hk; exact sound_step0 hm hrc hp md f args h v h' hk
    rw [h4] at hk
    simp only [cond_true, cond_false] at hk
    split at hk
    case h_2 => cases hk
    rename_i u hu
    cases hp2 : Det.plain2 u
    · rw [hp2] at hk; cases hk
    rw [hp2] at hk
    cases hk
    obtain ⟨h1, h2⟩ := hx f args h v hu hp2
    refine ⟨h1, fun base ρ β w cargs H hl => (h2 base ρ β md.lim w cargs H hl).mono fun e w' hh => ?_⟩
    obtain ⟨e1, E⟩ := hh
    exact ⟨v, ρ, e1, H.later E, VRel.plain2 hp2, ⟨Nat.le_refl _, fun _ _ => rfl, fun _ _ _ => rfl, E.mono H.base_le, fun k hk _ => E.block k hk, fun b hb => .inr ⟨b, hb, rfl⟩⟩⟩
  · rw [hb] at hk
    simp only [cond_true] at hk
    cases ha : args.all plain1
    · rw [ha] at hk; cases hk
    rw [ha] at hk
    simp only [cond_true] at hk
    obtain ⟨g, hx, hs, rfl⟩ := alone_some hk
    obtain ⟨h1, h2⟩ := sound_step0 hm hrc hp ⟨0, 0⟩ f args [] v g hx
    refine ⟨h1, ?_⟩
    intro base ρ β w cargs H hl
    have start : HR w.heap.size (fun _ => ⟨0, 0, 0⟩) (fun _ => 0) 0 [] w := ⟨Nat.le_refl _, fun b hb => by omega, Nat.le_refl _, fun b cs h => by simp at h, fun b cs h => by simp at h, fun b b' cs cs' h => by simp at h, ⟨fun b kd es h => by simp at h, fun b b' kd kd' es es' h => by simp at h, fun b s p h => by simp at h, fun b b' s s' p p' h => by simp at h, Gl.mono H.mp.gl H.base_le (Nat.le_refl _)⟩⟩
    have hc : cargs.toList = args := hl.plain ha
    refine (h2 w.heap.size (fun _ => ⟨0, 0, 0⟩) (fun _ => 0) w cargs start (by rw [hc]; exact LRel.of_plain ha)).mono fun e w' hh => ?_
    obtain ⟨cv, ρ', e1, R', hv, E⟩ := hh
    have hcv := hv.plain2_eq hs
    subst hcv
    exact ⟨cv, ρ, e1, H.later E.below, VRel.plain2 hs, ⟨Nat.le_refl _, fun _ _ => rfl, fun _ _ _ => rfl, E.below.mono H.base_le, fun k hk _ => E.below.block k hk, fun b hb => .inr ⟨b, hb, rfl⟩⟩⟩

theorem callN_sound (hm : P.follows .mixedOrders = true) (cfg : Cfg) (hx : ExtOk P cfg) : ∀ n, SoundRec P (callN P cfg n) ∧ PureRec cfg (callN P cfg n) := by
  intro n
  induction n with
  | zero => exact ⟨fun md f args h v h' hk => (by cases hk), ⟨fun md f args h v h' _ hk => (by cases hk), fun g args _ => ⟨none, fun md h => rfl⟩⟩⟩
  | succ n ih => exact ⟨sound_step hm hx ih.1 ih.2, pure_step cfg _⟩

/-- THE FRAME IS SOUND: what it answers is what the model's call comes to. -/
theorem call_sound (hm : P.follows .mixedOrders = true) (cfg : Cfg) (hx : ExtOk P cfg) : SoundRec P (call P cfg) := by
  intro md f args h v h' hk
  obtain ⟨n, hn⟩ := sup_some hk
  exact (callN_sound hm cfg hx n).1 md f args h v h' hn

end Go.Det
