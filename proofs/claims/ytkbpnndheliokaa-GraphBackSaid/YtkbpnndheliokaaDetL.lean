/- A region, in whatever order; code; calls: the frame is the model's. -/
import Derived.Test.YtkbpnndheliokaaDetKd
set_option autoImplicit false
set_option linter.unusedVariables false
set_option linter.unusedSimpArgs false
namespace Go.Det
open Go.RowKit (Below)

variable {P : Program} {base : Nat} {ρ : Ren} {β : Nat → Nat} {md : Md} {h : Heap} {w : World} {α : Type} {r : α} {n N : Nat} {t : T} {a : Act} {rc : Rec} {ops : Array Oper}

/-- The frame's state beside the model's. -/
structure SR (base : Nat) (md : Md) (ρ : Ren) (β : Nat → Nat) (N : Nat) (t : T) (h : Heap) (a : Act) (w : World) : Prop where
  heap : HR base ρ β md.lim h w
  tmps : TRel ρ h.length t a.tmps
  size : a.tmps.size = N
  defers : a.defers = []

theorem SR.drew (S : SR base md ρ β N t h a w) : SR base md ρ β N t h a w.drew := ⟨S.heap.drew, S.tmps, S.size, S.defers⟩

theorem wanted_eq (S : SR base md ρ β N t h a w) (o : Oper) : Region.wanted o (yielded ops a.tmps) = aWanted ops t o := by
  unfold Region.wanted aWanted
  cases o.guard with
  | none => rfl
  | some g =>
    obtain ⟨j, want⟩ := g
    simp only []
    have : yielded ops a.tmps j = aYield ops t j := by
      unfold yielded aYield
      cases hj : ops[j]? with
      | none => simp
      | some q =>
        simp only [Option.bind_some]
        cases hd : q.dst with
        | none => simp
        | some d =>
          simp only [Option.bind_some]
          have hr := S.tmps d
          by_cases hlt : d < a.tmps.size
          · have e : a.tmps.getD d undef = a.tmps[d] := by simp [Array.getD, hlt]
            have e2 : a.tmps[d]? = some a.tmps[d] := Array.getElem?_eq_getElem hlt
            rw [e] at hr
            rw [e2]
            generalize a.tmps[d] = c at hr
            generalize t d = x at hr
            cases hr with
            | sc v hs => cases c <;> rfl
            | ptr => rfl
            | slice => rfl
            | slice0 => rfl
            | func => rfl
            | iface => rfl
            | map => rfl
            | agg => rfl
            | tuple => rfl
          · have e : a.tmps.getD d undef = undef := by simp [Array.getD, hlt]
            have e2 : a.tmps[d]? = none := Array.getElem?_eq_none (Nat.le_of_not_lt hlt)
            rw [e] at hr
            rw [e2]
            cases htd : t d <;> first | rfl | skip
            rw [htd] at hr
            have := hr.bool_inv
            cases this
    rw [this]
    cases aYield ops t j with
    | none => cases want <;> rfl
    | some b => cases b <;> cases want <;> rfl

theorem SR.put {v cv : Value} {ρ' : Ren} {h' : Heap} {w' : World} (S : SR base md ρ β N t h a w) (H' : HR base ρ' β md.lim h' w') (hv : VRel ρ' h'.length v cv) (E : Ext base md ρ h w ρ' h' w')
    {dst : Option Tmp} {k : T → Option α} (hk : put N dst t v k = some r) : ∃ t', k t' = some r ∧ SR base md ρ' β N t' h' (a.put dst cv) w' := by
  have old : ∀ i, VRel ρ' h'.length (t i) (a.tmps.getD i undef) := fun i => (S.tmps i).mono E.len E.rho
  unfold Det.put at hk
  cases dst with
  | none => exact ⟨t, hk, H', old, S.size, S.defers⟩
  | some d =>
    simp only [] at hk
    cases hb : Nat.blt d N
    · simp [hb] at hk
    · simp only [hb, cond_true] at hk
      refine ⟨_, hk, H', fun i => ?_, by simpa [Act.put] using S.size, S.defers⟩
      have hd : d < a.tmps.size := by rw [S.size]; exact Nat.lt_of_succ_le (by simpa [Nat.blt] using hb)
      by_cases e : i = d
      · subst e
        rw [upd_same]
        simp only [Act.put]
        simp [Array.getD, hd]
        exact hv
      · rw [upd_ne _ _ e]
        simp only [Act.put]
        have : (a.tmps.setIfInBounds d cv).getD i undef = a.tmps.getD i undef := by
          simp only [Array.getD_eq_getD_getElem?, Array.getElem?_setIfInBounds_ne (Ne.symm e)]
        rw [this]; exact old i

/-- One operation of a region. -/
theorem step_wp (hrc : SoundRec P rc) {K : T → Heap → Option α} {Q : Exit → Act → World → Prop} {C : Act → World → Prop} {i : Nat} {rest : List Nat} {o : Oper} (ho : ops[i]? = some o)
    (hx : o.op.operands.toList.all okOperand = true) (S : SR base md ρ β N t h a w) (hk : aOps P rc md N ops K (i :: rest) t h = some r)
    (hC : ∀ t' h' a' w' ρ', aOps P rc md N ops K rest t' h' = some r → SR base md ρ' β N t' h' a' w' → Ext base md ρ h w ρ' h' w' → C a' w') : wpOp P ops Q i C a w := by
  unfold wpOp
  simp only [ho]
  rw [wanted_eq S o]
  rw [aOps_cons ho] at hk
  unfold run1 at hk
  cases hw : aWanted ops t o
  · simp only [hw, cond_false, Option.bind_some] at hk
    obtain ⟨t', h1, h2⟩ := S.put S.heap VRel.undef Ext.refl hk
    simp only [Bool.false_eq_true, if_false]
    exact hC t' h _ w ρ h1 h2 Ext.refl
  · simp only [hw, cond_true] at hk
    rw [← aOp_bind t o h (fun v h' => Det.put N o.dst t v fun t' => aOps P rc md N ops K rest t' h')] at hk
    simp only [if_true]
    refine .inl (aOp_wp hrc S.heap S.tmps hx hk fun v cv ρ' h' w' hv H' hr E => ?_)
    obtain ⟨t', h1, h2⟩ := S.put H' hr E hv
    exact hC t' h' _ w' ρ' h1 h2 E

theorem aOps_wp (hrc : SoundRec P rc) {K : T → Heap → Option α} {Q : Exit → Act → World → Prop} (hx : ∀ o ∈ ops, o.op.operands.toList.all okOperand = true) :
    ∀ (l : List Nat) (t : T) (h : Heap) (a : Act) (w : World) (ρ : Ren), SR base md ρ β N t h a w → aOps P rc md N ops K l t h = some r →
      (∀ t' h' a' w' ρ', K t' h' = some r → SR base md ρ' β N t' h' a' w' → Ext base md ρ h w ρ' h' w' → Q .normal a' w') → wpOps P ops Q l a w := by
  intro l
  induction l with
  | nil => intro t h a w ρ S hk hQ; exact hQ t h a w ρ hk S Ext.refl
  | cons i rest ih =>
    intro t h a w ρ S hk hQ
    rw [wpOps_cons]
    cases ho : ops[i]? with
    | none => simp [aOps, ho] at hk
    | some o =>
      exact step_wp hrc ho (hx o (Array.mem_of_getElem? ho)) S hk fun t' h' a' w' ρ' hk' S' E =>
        ih t' h' a' w' ρ' S' hk' fun t2 h2 a2 w2 ρ2 h3 h4 h5 => hQ t2 h2 a2 w2 ρ2 h3 h4 (E.trans h5)

/-- One operation of a region with a log. -/
theorem stepD_wp {cfg : FuncId → Nat} {fr : Nat → Nat → Bool} (hrc : SoundRec P rc) {K : T → Heap → Option α} {Q : Exit → Act → World → Prop} {C : Act → World → Prop} {i : Nat} {rest : List Nat} {o : Oper} (ho : ops[i]? = some o)
    (hx : o.op.operands.toList.all okOperand = true) (S : SR base md ρ β N t h a w) {L : List Ent} (hk : aOpsD P cfg rc md N ops fr K (i :: rest) t h L = some r)
    (hC : ∀ t' h' a' w' ρ' L', aOpsD P cfg rc md N ops fr K rest t' h' L' = some r → SR base md ρ' β N t' h' a' w' → Ext base md ρ h w ρ' h' w' → C a' w') : wpOp P ops Q i C a w := by
  unfold wpOp
  simp only [ho]
  rw [wanted_eq S o]
  rw [aOpsD_cons ho] at hk
  unfold run1 at hk
  cases hw : aWanted ops t o
  · simp only [hw, cond_false, Option.bind_some] at hk
    rw [logK_some] at hk
    obtain ⟨t', h1, h2⟩ := S.put S.heap VRel.undef Ext.refl hk.2
    simp only [Bool.false_eq_true, if_false]
    exact hC t' h _ w ρ _ h1 h2 Ext.refl
  · simp only [hw, cond_true] at hk
    rw [← aOp_bind t o h (fun v h' => logK P rc md cfg fr o i t true v h h' L fun L' => Det.put N o.dst t v fun t' => aOpsD P cfg rc md N ops fr K rest t' h' L')] at hk
    simp only [if_true]
    refine .inl (aOp_wp hrc S.heap S.tmps hx hk fun v cv ρ' h' w' hv H' hr E => ?_)
    rw [logK_some] at hv
    obtain ⟨t', h1, h2⟩ := S.put H' hr E hv.2
    exact hC t' h' _ w' ρ' _ h1 h2 E

/-! ### What an operation waits for -/

theorem before_bits (S : Nat → Prop) (f : Array Nat → Oper → Array Nat)
    (hf : ∀ acc o, f acc o = acc.push (o.after.foldl (fun s e => if Region.binds .any e then s ||| 2 ^ e.on ||| acc.getD e.on 0 else s) 0)) :
    ∀ (l pre : List Oper) (acc : Array Nat), acc.size = pre.length →
      (∀ k o, (pre ++ l)[k]? = some o → S k → ∀ e ∈ o.after, Region.binds .any e = true → S e.on) →
      (∀ i o, pre[i]? = some o → (∀ e ∈ o.after, Region.binds .any e = true → S e.on) → ∀ j, (acc.getD i 0).testBit j = true → S j) →
      ∀ i o, (pre ++ l)[i]? = some o → (∀ e ∈ o.after, Region.binds .any e = true → S e.on) → ∀ j, ((l.foldl f acc).getD i 0).testBit j = true → S j := by
  intro l
  induction l with
  | nil => intro pre acc _ _ hinv i o ho; rw [List.append_nil] at ho; exact hinv i o ho
  | cons o l ih =>
    intro pre acc hs hcl hinv
    have e : pre ++ o :: l = (pre ++ [o]) ++ l := by simp
    rw [e] at hcl ⊢
    simp only [List.foldl_cons]
    refine ih (pre ++ [o]) (f acc o) (by rw [hf]; simp [hs]) hcl ?_
    intro i q hq hdeps j hj
    rw [hf] at hj
    by_cases hi : i < pre.length
    · rw [List.getElem?_append_left hi] at hq
      refine hinv i q hq hdeps j ?_
      have : (acc.push (o.after.foldl (fun s e => if Region.binds .any e then s ||| 2 ^ e.on ||| acc.getD e.on 0 else s) 0)).getD i 0 = acc.getD i 0 := by
        simp only [Array.getD_eq_getD_getElem?, Array.getElem?_push]
        rw [if_neg (by omega)]
      rw [this] at hj; exact hj
    · rw [List.getElem?_append_right (by omega)] at hq
      have hi0 : i - pre.length = 0 := by
        rcases Nat.eq_zero_or_pos (i - pre.length) with h0 | h0
        · exact h0
        · rw [List.getElem?_eq_none (by simp; omega)] at hq; cases hq
      rw [hi0] at hq; simp at hq; subst hq
      have hii : i = acc.size := by omega
      have : (acc.push (o.after.foldl (fun s e => if Region.binds .any e then s ||| 2 ^ e.on ||| acc.getD e.on 0 else s) 0)).getD i 0 =
          o.after.foldl (fun s e => if Region.binds .any e then s ||| 2 ^ e.on ||| acc.getD e.on 0 else s) 0 := by
        simp only [Array.getD_eq_getD_getElem?, Array.getElem?_push]
        rw [if_pos hii]; rfl
      rw [this] at hj
      -- the bits of a sum are the bits of its parts
      have key : ∀ (es : List Edge), (∀ e ∈ es, Region.binds .any e = true → S e.on) → ∀ s : Nat, (∀ j, s.testBit j = true → S j) →
          ∀ j, (es.foldl (fun s e => if Region.binds .any e then s ||| 2 ^ e.on ||| acc.getD e.on 0 else s) s).testBit j = true → S j := by
        intro es
        induction es with
        | nil => intro _ s hs j hj; exact hs j hj
        | cons e es ihe =>
          intro hes s hs j hj
          simp only [List.foldl_cons] at hj
          refine ihe (fun x hx => hes x (by simp [hx])) _ ?_ j hj
          intro j' hj'
          split at hj'
          · rename_i hb
            have hSe := hes e (by simp) hb
            simp only [Nat.testBit_or, Bool.or_eq_true] at hj'
            rcases hj' with (h1 | h1) | h1
            · exact hs j' h1
            · rw [Nat.testBit_two_pow] at h1
              have : e.on = j' := by simpa using h1
              exact this ▸ hSe
            · by_cases hlt : e.on < pre.length
              · cases hpe : pre[e.on]? with
                | none => rw [List.getElem?_eq_none_iff] at hpe; omega
                | some q =>
                  exact hinv e.on q hpe (fun e' he' hb' => hcl e.on q (by rw [List.append_assoc, List.getElem?_append_left hlt]; exact hpe) hSe e' he' hb') j' h1
              · have : acc.getD e.on 0 = 0 := by
                  simp only [Array.getD_eq_getD_getElem?]
                  rw [Array.getElem?_eq_none (by omega)]; rfl
                rw [this] at h1; simp at h1
          · exact hs j' hj'
      exact key o.after.toList (fun e he => hdeps e (by simpa using he)) 0 (fun j hj => by simp at hj) j (by rw [← Array.foldl_toList] at hj; exact hj)

theorem before_closed (S : Nat → Prop) (hcl : ∀ k o, ops[k]? = some o → S k → ∀ e ∈ o.after, Region.binds .any e = true → S e.on) {i : Nat} {o : Oper} (ho : ops[i]? = some o)
    (hd : ∀ e ∈ o.after, Region.binds .any e = true → S e.on) {j : Nat} (hj : ((Region.before ops).getD i 0).testBit j = true) : S j := by
  unfold Region.before at hj
  rw [← Array.foldl_toList] at hj
  exact before_bits S _ (fun _ _ => rfl) ops.toList [] #[] rfl (fun k o hk => hcl k o (by simpa using hk)) (fun i o h => by simp at h) i o (by simpa using ho) hd j hj

/-! ### Any order -/

def unl (ops : Array Oper) (listed : Array Bool) : List Nat := (List.range ops.size).filter fun i => !listed.getD i true

theorem aOpsD_front {cfg : FuncId → Nat} {fr : Nat → Nat → Bool} (hp : PureRec cfg rc) {K : T → Heap → Option α} {i : Nat} {oi : Oper} (hi : ops[i]? = some oi) :
    ∀ (pre post : List Nat), (∀ j ∈ pre, ∃ oj, ops[j]? = some oj ∧ Oper.apart ops oj oi = true ∧ (okPair cfg ops oj oi = true ∨ (LE cfg oj oi ∧ fr i j = true ∧ fr j i = true))) → ∀ (t : T) (h : Heap) (L : List Ent),
      aOpsD P cfg rc md N ops fr K (pre ++ i :: post) t h L = some r → aOpsD P cfg rc md N ops fr K (i :: (pre ++ post)) t h L = some r := by
  intro pre
  induction pre with
  | nil => intro post _ t h L hk; exact hk
  | cons j pre ih =>
    intro post hpre t h L hk
    obtain ⟨oj, hj, hap, hok⟩ := hpre j (by simp)
    refine aOpsD_swap hp hi hj hap hok ?_
    simp only [List.cons_append] at hk
    rw [aOpsD_cons hj] at hk ⊢
    cases hr1 : run1 P rc md ops oj t h with
    | none => simp [hr1] at hk
    | some p =>
      simp only [hr1, Option.bind_some] at hk ⊢
      rw [logK_some] at hk ⊢
      refine ⟨hk.1, ?_⟩
      replace hk := hk.2
      unfold put at hk ⊢
      cases hd : oj.dst with
      | none => rw [hd] at hk; exact ih post (fun x hx => hpre x (by simp [hx])) _ _ _ hk
      | some d =>
        rw [hd] at hk
        simp only [] at hk ⊢
        cases hb : Nat.blt d N
        · simp [hb] at hk
        · simp only [hb, cond_true] at hk ⊢
          exact ih post (fun x hx => hpre x (by simp [hx])) _ _ _ hk

theorem commOk_spec {cfg : FuncId → Nat} (hc : commOk cfg ops = true) {i : Nat} {oi : Oper} (hi : ops[i]? = some oi) :
    (∀ e ∈ oi.after, Region.binds .any e = true → e.on < i) ∧ ∀ j oj, ops[j]? = some oj → j < i → ((Region.before ops).getD i 0).testBit j = true ∨ okPairD cfg ops oj oi = true := by
  unfold commOk at hc
  have hm : ∀ {k : Nat} {o : Oper}, ops[k]? = some o → (o, k) ∈ ops.toList.zipIdx := fun {k o} hk => by
    rw [List.mem_zipIdx_iff_getElem?]; simpa using hk
  have h1 := List.all_eq_true.1 hc (oi, i) (hm hi)
  simp only [Bool.and_eq_true] at h1
  refine ⟨fun e he hb => ?_, fun j oj hj hlt => ?_⟩
  · have := List.all_eq_true.1 h1.1 e (by simpa using he)
    simp only [hb, Bool.not_true, Bool.false_or] at this
    exact Nat.lt_of_succ_le (by simpa [Nat.blt] using this)
  · have := List.all_eq_true.1 h1.2 (oj, j) (hm hj)
    simp only [Bool.or_eq_true, Bool.not_eq_true'] at this
    rcases this with (h | h) | h
    · have : Nat.blt j i = true := by simp [Nat.blt]; omega
      rw [this] at h; cases h
    · exact .inl h
    · exact .inr h

theorem unl_mem {listed : Array Bool} {i : Nat} : i ∈ unl ops listed ↔ i < ops.size ∧ listed.getD i true = false := by
  unfold unl; rw [List.mem_filter, List.mem_range]; simp

theorem unl_sorted (listed : Array Bool) : (unl ops listed).Pairwise (· < ·) := List.Pairwise.filter _ List.pairwise_lt_range

theorem unl_set {listed : Array Bool} (hs : listed.size = ops.size) {i : Nat} {pre post : List Nat} (hu : unl ops listed = pre ++ i :: post) : unl ops (listed.setIfInBounds i true) = pre ++ post := by
  have hsort := unl_sorted (ops := ops) listed
  have hi : i < ops.size := (unl_mem.1 (by rw [hu]; simp : i ∈ unl ops listed)).1
  have e : unl ops (listed.setIfInBounds i true) = (unl ops listed).filter (fun j => j != i) := by
    unfold unl
    rw [List.filter_filter]
    refine List.filter_congr fun j _ => ?_
    by_cases hji : j = i
    · subst hji
      simp [Array.getElem?_setIfInBounds_self_of_lt, hs, hi]
    · have : (listed.setIfInBounds i true).getD j true = listed.getD j true := by
        simp [Array.getElem?_setIfInBounds_ne (Ne.symm hji)]
      rw [this]; simp [hji]
  rw [e, hu]
  rw [hu, List.pairwise_append] at hsort
  obtain ⟨_, s2, s3⟩ := hsort
  rw [List.pairwise_cons] at s2
  rw [List.filter_append, List.filter_cons]
  simp only [bne_self_eq_false, Bool.false_eq_true, if_false]
  rw [List.filter_eq_self.2 fun x hx => by have := s3 x hx i (by simp); simp; omega,
    List.filter_eq_self.2 fun x hx => by have := s2.1 x hx; simp; omega]

theorem okD_cases {cfg : FuncId → Nat} {x y : Oper} {p : Prop} (h : okPairD cfg ops x y = true) (hp : LE cfg x y → p) : Oper.apart ops x y = true ∧ (okPair cfg ops x y = true ∨ (LE cfg x y ∧ p)) := by
  simp only [okPairD, Bool.and_eq_true] at h
  refine ⟨h.2, ?_⟩
  have hrl : ∀ o : Op, isLoad cfg o = true → readOp cfg o = true ∧ stillOp cfg o = false := by intro o ho; simpa [isLoad] using ho
  cases hok : okPair cfg ops x y
  · right
    simp only [okPair, h.2, Bool.and_true, Bool.or_eq_false_iff] at hok
    obtain ⟨⟨s1, s2⟩, s3⟩ := hok
    have h1 := h.1
    rw [s1, s2, s3] at h1
    simp only [Bool.false_or, Bool.or_eq_true, Bool.and_eq_true, Bool.not_eq_true'] at h1
    have hle : LE cfg x y := by
      rcases h1 with ⟨l1, l2⟩ | ⟨l1, l2⟩
      · left
        refine ⟨l1, ?_⟩
        rw [(hrl _ l1).1, Bool.true_and] at s3
        simp [isEff, s2, s3]
      · right
        refine ⟨?_, l1⟩
        rw [(hrl _ l1).1, Bool.and_true] at s3
        simp [isEff, s1, s3]
    exact ⟨hle, hp hle⟩
  · exact .inl rfl

theorem any_wp (hrc : SoundRec P rc) {cfg : FuncId → Nat} (hp : PureRec cfg rc) {K : T → Heap → Option α} {Q : Exit → Act → World → Prop} (hx : ∀ o ∈ ops, o.op.operands.toList.all okOperand = true)
    (hc : commOk cfg ops = true) {fr : Nat → Nat → Bool} (hfr : ∀ i j oi oj, ops[i]? = some oi → ops[j]? = some oj → j < i → ((Region.before ops).getD i 0).testBit j = false → LE cfg oj oi → fr i j = true ∧ fr j i = true) : ∀ (fuel : Nat) (listed : Array Bool) (L : List Ent) (t : T) (h : Heap) (a : Act) (w : World) (ρ : Ren), listed.size = ops.size →
      (∀ k o, ops[k]? = some o → listed.getD k false = true → ∀ e ∈ o.after, Region.binds .any e = true → listed.getD e.on false = true) → (unl ops listed).length ≤ fuel →
      SR base md ρ β N t h a w → aOpsD P cfg rc md N ops fr K (unl ops listed) t h L = some r →
      (∀ t' h' a' w' ρ', K t' h' = some r → SR base md ρ' β N t' h' a' w' → Ext base md ρ h w ρ' h' w' → Q .normal a' w') → wpAny P .any ops Q fuel listed a w := by
  intro fuel
  have rdy : ∀ {listed : Array Bool} {i : Nat}, i ∈ Region.ready .any ops listed → i ∈ unl ops listed := fun {listed i} hi => by
    obtain ⟨h1, o, h2, _⟩ := mem_ready.1 hi
    exact unl_mem.2 ⟨(Array.getElem?_eq_some_iff.1 h2).1, h1⟩
  have idle : ∀ {listed : Array Bool}, listed.size = ops.size → Region.ready .any ops listed = [] → unl ops listed = [] := fun {listed} hs hr => by
    cases hu : unl ops listed with
    | nil => rfl
    | cons x l =>
      exfalso
      have hx : x ∈ unl ops listed := by rw [hu]; simp
      obtain ⟨hlt, hun⟩ := unl_mem.1 hx
      have hox := Array.getElem?_eq_getElem hlt
      have : x ∈ Region.ready .any ops listed := mem_ready.2 ⟨hun, _, hox, fun e he hb => by
        have hlt' := (commOk_spec hc hox).1 e he hb
        have hnot : e.on ∉ unl ops listed := fun hm => by
          rw [hu] at hm
          have hs := unl_sorted (ops := ops) listed
          rw [hu, List.pairwise_cons] at hs
          rcases List.mem_cons.1 hm with h1 | h1
          · omega
          · have := hs.1 _ h1; omega
        have hsz : e.on < listed.size := by omega
        cases hg : listed[e.on] with
        | true => simp [Array.getD, hsz, hg]
        | false => exact absurd (unl_mem.2 ⟨by omega, by simp [Array.getD, hsz, hg]⟩) hnot⟩
      rw [hr] at this; cases this
  induction fuel with
  | zero =>
    intro listed L t h a w ρ hs hcl hf S hk hQ
    have hu : unl ops listed = [] := List.length_eq_zero_iff.1 (by omega)
    rw [hu] at hk
    refine ⟨?_, hQ t h a w ρ hk S Ext.refl⟩
    cases hr : Region.ready .any ops listed with
    | nil => rfl
    | cons x l => have := rdy (listed := listed) (i := x) (by rw [hr]; simp); rw [hu] at this; cases this
  | succ fuel ih =>
    intro listed L t h a w ρ hs hcl hf S hk hQ
    refine ⟨fun hr => ?_, fun i hi => ?_⟩
    · rw [idle hs hr] at hk
      exact hQ t h a w ρ hk S Ext.refl
    · have hiu := rdy hi
      obtain ⟨pre, post, hu⟩ := List.append_of_mem hiu
      obtain ⟨hun, o, ho, hdeps⟩ := mem_ready.1 hi
      have hpre : ∀ j ∈ pre, ∃ oj, ops[j]? = some oj ∧ Oper.apart ops oj o = true ∧ (okPair cfg ops oj o = true ∨ (LE cfg oj o ∧ fr i j = true ∧ fr j i = true)) := by
        intro j hj
        have hju : j ∈ unl ops listed := by rw [hu]; simp [hj]
        obtain ⟨hjl, hjun⟩ := unl_mem.1 hju
        have hsort := unl_sorted (ops := ops) listed
        rw [hu, List.pairwise_append] at hsort
        have hlt : j < i := hsort.2.2 j hj i (by simp)
        have hoj := Array.getElem?_eq_getElem hjl
        refine ⟨_, hoj, ?_⟩
        cases hbit : ((Region.before ops).getD i 0).testBit j
        rotate_left
        · have hb := hbit
          have := before_closed (ops := ops) (fun k => listed.getD k false = true) (fun k o hk hlk => hcl k o hk hlk) ho hdeps hb
          have hsz : j < listed.size := by omega
          simp [Array.getD, hsz] at this hjun
          rw [this] at hjun; cases hjun
        · have hb := ((commOk_spec hc ho).2 j _ hoj hlt).resolve_left (by rw [hbit]; exact Bool.false_ne_true)
          exact okD_cases hb fun hle => hfr i j o _ ho hoj hlt hbit hle
      rw [hu] at hk
      have hk' := aOpsD_front hp ho pre post hpre t h L hk
      rw [← unl_set hs hu] at hk'
      refine stepD_wp hrc ho (hx o (Array.mem_of_getElem? ho)) S hk' fun t' h' a' w' ρ' L' hk2 S' E => ?_
      refine ih (listed.setIfInBounds i true) L' t' h' a' w' ρ' (by simpa using hs) ?_ ?_ S' hk2 fun t2 h2 a2 w2 ρ2 h3 h4 h5 => hQ t2 h2 a2 w2 ρ2 h3 h4 (E.trans h5)
      · intro k q hq hlk e he hb
        by_cases hki : k = i
        · subst hki
          rw [ho] at hq; cases hq
          exact getD_set_true (hdeps e he hb)
        · rw [getD_set_ne false (Ne.symm hki)] at hlk
          exact getD_set_true (hcl k q hq hlk e he hb)
      · rw [unl_set hs hu]
        rw [hu] at hf
        simp at hf ⊢
        omega


/-- One operation, whatever comes then. -/
theorem stepG_wp (hrc : SoundRec P rc) {Q : Exit → Act → World → Prop} {C : Act → World → Prop} {i : Nat} {G : T → Heap → Option α} {o : Oper} (ho : ops[i]? = some o)
    (hx : o.op.operands.toList.all okOperand = true) (S : SR base md ρ β N t h a w) (hk : ((run1 P rc md ops o t h).bind fun p => Det.put N o.dst t p.1 fun t' => G t' p.2) = some r)
    (hC : ∀ t' h' a' w' ρ', G t' h' = some r → SR base md ρ' β N t' h' a' w' → Ext base md ρ h w ρ' h' w' → C a' w') : wpOp P ops Q i C a w := by
  unfold wpOp
  simp only [ho]
  rw [wanted_eq S o]
  unfold run1 at hk
  cases hw : aWanted ops t o
  · simp only [hw, cond_false, Option.bind_some] at hk
    obtain ⟨t', h1, h2⟩ := S.put S.heap VRel.undef Ext.refl hk
    simp only [Bool.false_eq_true, if_false]
    exact hC t' h _ w ρ h1 h2 Ext.refl
  · simp only [hw, cond_true] at hk
    rw [← aOp_bind t o h (fun v h' => Det.put N o.dst t v fun t' => G t' h')] at hk
    simp only [if_true]
    refine .inl (aOp_wp hrc S.heap S.tmps hx hk fun v cv ρ' h' w' hv H' hr E => ?_)
    obtain ⟨t', h1, h2⟩ := S.put H' hr E hv
    exact hC t' h' _ w' ρ' h1 h2 E

theorem agree_some {l : List (Option α)} (h : agree l = some r) : ∀ y ∈ l, y = some r := by
  cases l with
  | nil => cases h
  | cons x l =>
    simp only [agree] at h
    split at h
    · rename_i hy
      intro y hm
      rcases List.mem_cons.1 hm with rfl | hm
      · exact h
      · rw [hy y hm, h]
    · cases h
theorem agree_of {l : List (Option α)} (hl : l ≠ []) (h : ∀ y ∈ l, y = some r) : agree l = some r := by
  cases l with
  | nil => exact absurd rfl hl
  | cons x l =>
    have hx := h x (by simp)
    simp only [agree]
    rw [if_pos fun y hy => (h y (by simp [hy])).trans hx.symm]
    exact hx

theorem aOpsAny_succ {K : T → Heap → Option α} {fuel : Nat} {listed : Array Bool} (hr : Region.ready .any ops listed ≠ []) : aOpsAny P rc md N ops K (fuel + 1) listed t h =
    agree ((Region.ready .any ops listed).map fun i => match ops[i]? with
      | none => none
      | some o => (run1 P rc md ops o t h).bind fun p => Det.put N o.dst t p.1 fun t' => aOpsAny P rc md N ops K fuel (listed.setIfInBounds i true) t' p.2) := by
  simp only [aOpsAny]
  rfl

theorem all_wp (hrc : SoundRec P rc) {K : T → Heap → Option α} {Q : Exit → Act → World → Prop} (hx : ∀ o ∈ ops, o.op.operands.toList.all okOperand = true) :
    ∀ (fuel : Nat) (listed : Array Bool) (t : T) (h : Heap) (a : Act) (w : World) (ρ : Ren), SR base md ρ β N t h a w → aOpsAny P rc md N ops K fuel listed t h = some r →
      (∀ t' h' a' w' ρ', K t' h' = some r → SR base md ρ' β N t' h' a' w' → Ext base md ρ h w ρ' h' w' → Q .normal a' w') → wpAny P .any ops Q fuel listed a w := by
  intro fuel
  induction fuel with
  | zero =>
    intro listed t h a w ρ S hk hQ
    simp only [aOpsAny] at hk
    cases hr : (Region.ready .any ops listed).isEmpty
    · rw [hr] at hk; cases hk
    · rw [hr] at hk
      exact ⟨List.isEmpty_iff.1 hr, hQ t h a w ρ hk S Ext.refl⟩
  | succ fuel ih =>
    intro listed t h a w ρ S hk hQ
    by_cases hr : Region.ready .any ops listed = []
    · refine ⟨fun _ => ?_, fun i hi => by rw [hr] at hi; cases hi⟩
      simp only [aOpsAny, hr] at hk
      exact hQ t h a w ρ hk S Ext.refl
    · refine ⟨fun e => absurd e hr, fun i hi => ?_⟩
      rw [aOpsAny_succ hr] at hk
      have h1 := agree_some hk _ (List.mem_map_of_mem hi)
      obtain ⟨_, o, ho, _⟩ := mem_ready.1 hi
      simp only [ho] at h1
      refine stepG_wp hrc (G := fun t' h' => aOpsAny P rc md N ops K fuel (listed.setIfInBounds i true) t' h') ho (hx o (Array.mem_of_getElem? ho)) S h1 fun t' h' a' w' ρ' h2 S' E => ?_
      exact ih _ t' h' a' w' ρ' S' h2 fun t2 h2 a2 w2 ρ2 h3 h4 h5 => hQ t2 h2 a2 w2 ρ2 h3 h4 (E.trans h5)

end Go.Det
