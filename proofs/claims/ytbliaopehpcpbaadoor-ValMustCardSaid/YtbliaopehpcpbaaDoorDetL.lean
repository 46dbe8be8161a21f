/- A region, in whatever order; code; calls: the frame is the model's. -/
import Derived.Test.YtbliaopehpcpbaaDoorDetKd
set_option autoImplicit false
set_option linter.unusedVariables false
set_option linter.unusedSimpArgs false
set_option linter.unusedSectionVars false
namespace Go.Det
open Go.RowKit (Below)

variable [Gl] {P : Program} {base : Nat} {ρ : Ren} {β : Nat → Nat} {md : Md} {h : Heap} {w : World} {α : Type} {r : α} {n N : Nat} {t : T} {a : Act} {rc : Rec} {ops : Array Oper}

/-- The frame's state beside the model's. -/
structure SR (base : Nat) (md : Md) (ρ : Ren) (β : Nat → Nat) (N : Nat) (t : T) (h : Heap) (a : Act) (w : World) : Prop where
  heap : HR base ρ β md.lim h w
  tmps : TRel ρ h.length t a.tmps
  size : a.tmps.size = N
  defers : a.defers = []

theorem SR.drew (S : SR base md ρ β N t h a w) : SR base md ρ β N t h a w.drew := ⟨S.heap.drew, S.tmps, S.size, S.defers⟩

theorem wanted_eq (S : SR base md ρ β N t h a w) (o : Oper) : Region.wanted o (yielded ops a.tmps) = aWanted ops t o := by
  unfold Region.wanted aWanted
  cases o.guard with
  | none => rfl
  | some g =>
    obtain ⟨j, want⟩ := g
    simp only []
    have : yielded ops a.tmps j = aYield ops t j := by
      unfold yielded aYield
      cases hj : ops[j]? with
      | none => simp
      | some q =>
        simp only [Option.bind_some]
        cases hd : q.dst with
        | none => simp
        | some d =>
          simp only [Option.bind_some]
          have hr := S.tmps d
          by_cases hlt : d < a.tmps.size
          · have e : a.tmps.getD d undef = a.tmps[d] := by simp [Array.getD, hlt]
            have e2 : a.tmps[d]? = some a.tmps[d] := Array.getElem?_eq_getElem hlt
            rw [e] at hr
            rw [e2]
            generalize a.tmps[d] = c at hr
            generalize t d = x at hr
            cases hr with
            | sc v hs => cases c <;> rfl
            | ptr => rfl
            | slice => rfl
            | slice0 => rfl
            | func => rfl
            | iface => rfl
            | map => rfl
            | agg => rfl
            | tuple => rfl
          · have e : a.tmps.getD d undef = undef := by simp [Array.getD, hlt]
            have e2 : a.tmps[d]? = none := Array.getElem?_eq_none (Nat.le_of_not_lt hlt)
            rw [e] at hr
            rw [e2]
            cases htd : t d <;> first | rfl | skip
            rw [htd] at hr
            have := hr.bool_inv
            cases this
    rw [this]
    cases aYield ops t j with
    | none => cases want <;> rfl
    | some b => cases b <;> cases want <;> rfl

theorem SR.put {v cv : Value} {ρ' : Ren} {h' : Heap} {w' : World} (S : SR base md ρ β N t h a w) (H' : HR base ρ' β md.lim h' w') (hv : VRel ρ' h'.length v cv) (E : Ext base md ρ h w ρ' h' w')
    {dst : Option Tmp} {k : T → Option α} (hk : put N dst t v k = some r) : ∃ t', k t' = some r ∧ SR base md ρ' β N t' h' (a.put dst cv) w' := by
  have old : ∀ i, VRel ρ' h'.length (t i) (a.tmps.getD i undef) := fun i => (S.tmps i).mono E.len E.rho
  unfold Det.put at hk
  cases dst with
  | none => exact ⟨t, hk, H', old, S.size, S.defers⟩
  | some d =>
    simp only [] at hk
    cases hb : Nat.blt d N
    · simp [hb] at hk
    · simp only [hb, cond_true] at hk
      refine ⟨_, hk, H', fun i => ?_, by simpa [Act.put] using S.size, S.defers⟩
      have hd : d < a.tmps.size := by rw [S.size]; exact Nat.lt_of_succ_le (by simpa [Nat.blt] using hb)
      by_cases e : i = d
      · subst e
        rw [upd_same]
        simp only [Act.put]
        simp [Array.getD, hd]
        exact hv
      · rw [upd_ne _ _ e]
        simp only [Act.put]
        have : (a.tmps.setIfInBounds d cv).getD i undef = a.tmps.getD i undef := by
          simp only [Array.getD_eq_getD_getElem?, Array.getElem?_setIfInBounds_ne (Ne.symm e)]
        rw [this]; exact old i

/-- One operation of a region. -/
theorem step_wp (hrc : SoundRec P rc) {K : T → Heap → Option α} {Q : Exit → Act → World → Prop} {C : Act → World → Prop} {i : Nat} {rest : List Nat} {o : Oper} (ho : ops[i]? = some o)
    (hx : o.op.operands.toList.all okOperand = true) (S : SR base md ρ β N t h a w) (hk : aOps P rc md N ops K (i :: rest) t h = some r)
    (hC : ∀ t' h' a' w' ρ', aOps P rc md N ops K rest t' h' = some r → SR base md ρ' β N t' h' a' w' → Ext base md ρ h w ρ' h' w' → C a' w') : wpOp P ops Q i C a w := by
  unfold wpOp
  simp only [ho]
  rw [wanted_eq S o]
  rw [aOps_cons ho] at hk
  unfold run1 at hk
  cases hw : aWanted ops t o
  · simp only [hw, cond_false, Option.bind_some] at hk
    obtain ⟨t', h1, h2⟩ := S.put S.heap VRel.undef Ext.refl hk
    simp only [Bool.false_eq_true, if_false]
    exact hC t' h _ w ρ h1 h2 Ext.refl
  · simp only [hw, cond_true] at hk
    rw [← aOp_bind t o h (fun v h' => Det.put N o.dst t v fun t' => aOps P rc md N ops K rest t' h')] at hk
    simp only [if_true]
    refine .inl (aOp_wp hrc S.heap S.tmps hx hk fun v cv ρ' h' w' hv H' hr E => ?_)
    obtain ⟨t', h1, h2⟩ := S.put H' hr E hv
    exact hC t' h' _ w' ρ' h1 h2 E

theorem aOps_wp (hrc : SoundRec P rc) {K : T → Heap → Option α} {Q : Exit → Act → World → Prop} (hx : ∀ o ∈ ops, o.op.operands.toList.all okOperand = true) :
    ∀ (l : List Nat) (t : T) (h : Heap) (a : Act) (w : World) (ρ : Ren), SR base md ρ β N t h a w → aOps P rc md N ops K l t h = some r →
      (∀ t' h' a' w' ρ', K t' h' = some r → SR base md ρ' β N t' h' a' w' → Ext base md ρ h w ρ' h' w' → Q .normal a' w') → wpOps P ops Q l a w := by
  intro l
  induction l with
  | nil => intro t h a w ρ S hk hQ; exact hQ t h a w ρ hk S Ext.refl
  | cons i rest ih =>
    intro t h a w ρ S hk hQ
    rw [wpOps_cons]
    cases ho : ops[i]? with
    | none => simp [aOps, ho] at hk
    | some o =>
      exact step_wp hrc ho (hx o (Array.mem_of_getElem? ho)) S hk fun t' h' a' w' ρ' hk' S' E =>
        ih t' h' a' w' ρ' S' hk' fun t2 h2 a2 w2 ρ2 h3 h4 h5 => hQ t2 h2 a2 w2 ρ2 h3 h4 (E.trans h5)

/-- One operation of a region with a log. -/
theorem stepD_wp {cfg : Cfg} {fr : Nat → Nat → Bool} (hrc : SoundRec P rc) {K : T → Heap → Option α} {Q : Exit → Act → World → Prop} {C : Act → World → Prop} {i : Nat} {rest : List Nat} {o : Oper} (ho : ops[i]? = some o)
    (hx : o.op.operands.toList.all okOperand = true) (S : SR base md ρ β N t h a w) {L : List Ent} (hk : aOpsD P cfg rc md N ops fr K (i :: rest) t h L = some r)
    (hC : ∀ t' h' a' w' ρ' L', aOpsD P cfg rc md N ops fr K rest t' h' L' = some r → SR base md ρ' β N t' h' a' w' → Ext base md ρ h w ρ' h' w' → C a' w') : wpOp P ops Q i C a w := by
  unfold wpOp
  simp only [ho]
  rw [wanted_eq S o]
  rw [aOpsD_cons ho] at hk
  unfold run1 at hk
  cases hw : aWanted ops t o
  · simp only [hw, cond_false, Option.bind_some] at hk
    rw [logK_some] at hk
    obtain ⟨t', h1, h2⟩ := S.put S.heap VRel.undef Ext.refl hk.2
    simp only [Bool.false_eq_true, if_false]
    exact hC t' h _ w ρ _ h1 h2 Ext.refl
  · simp only [hw, cond_true] at hk
    rw [← aOp_bind t o h (fun v h' => logK P rc md cfg fr o i t true v h h' L fun L' => Det.put N o.dst t v fun t' => aOpsD P cfg rc md N ops fr K rest t' h' L')] at hk
    simp only [if_true]
    refine .inl (aOp_wp hrc S.heap S.tmps hx hk fun v cv ρ' h' w' hv H' hr E => ?_)
    rw [logK_some] at hv
    obtain ⟨t', h1, h2⟩ := S.put H' hr E hv.2
    exact hC t' h' _ w' ρ' _ h1 h2 E

/-! ### What an operation waits for -/

theorem before_bits (S : Nat → Prop) (f : Array Nat → Oper → Array Nat)
    (hf : ∀ acc o, f acc o = acc.push (o.after.foldl (fun s e => if Region.binds .any e then s ||| 2 ^ e.on ||| acc.getD e.on 0 else s) 0)) :
    ∀ (l pre : List Oper) (acc : Array Nat), acc.size = pre.length →
      (∀ k o, (pre ++ l)[k]? = some o → S k → ∀ e ∈ o.after, Region.binds .any e = true → S e.on) →
      (∀ i o, pre[i]? = some o → (∀ e ∈ o.after, Region.binds .any e = true → S e.on) → ∀ j, (acc.getD i 0).testBit j = true → S j) →
      ∀ i o, (pre ++ l)[i]? = some o → (∀ e ∈ o.after, Region.binds .any e = true → S e.on) → ∀ j, ((l.foldl f acc).getD i 0).testBit j = true → S j := by
  intro l
  induction l with
  | nil => intro pre acc _ _ hinv i o ho; rw [List.append_nil] at ho; exact hinv i o ho
  | cons o l ih =>
    intro pre acc hs hcl hinv
    have e : pre ++ o :: l = (pre ++ [o]) ++ l := by simp
    rw [e] at hcl ⊢
    simp only [List.foldl_cons]
    refine ih (pre ++ [o]) (f acc o) (by rw [hf]; simp [hs]) hcl ?_
    intro i q hq hdeps j hj
    rw [hf] at hj
    by_cases hi : i < pre.length
    · rw [List.getElem?_append_left hi] at hq
      refine hinv i q hq hdeps j ?_
      have : (acc.push (o.after.foldl (fun s e => if Region.binds .any e then s ||| 2 ^ e.on ||| acc.getD e.on 0 else s) 0)).getD i 0 = acc.getD i 0 := by
        simp only [Array.getD_eq_getD_getElem?, Array.getElem?_push]
        rw [if_neg (by omega)]
      rw [this] at hj; exact hj
    · rw [List.getElem?_append_right (by omega)] at hq
      have hi0 : i - pre.length = 0 := by
        rcases Nat.eq_zero_or_pos (i - pre.length) with h0 | h0
        · exact h0
        · rw [List.getElem?_eq_none (by simp; omega)] at hq; cases hq
      rw [hi0] at hq; simp at hq; subst hq
      have hii : i = acc.size := by omega
      have : (acc.push (o.after.foldl (fun s e => if Region.binds .any e then s ||| 2 ^ e.on ||| acc.getD e.on 0 else s) 0)).getD i 0 =
          o.after.foldl (fun s e => if Region.binds .any e then s ||| 2 ^ e.on ||| acc.getD e.on 0 else s) 0 := by
        simp only [Array.getD_eq_getD_getElem?, Array.getElem?_push]
        rw [if_pos hii]; rfl
      rw [this] at hj
      -- the bits of a sum are the bits of its parts
      have key : ∀ (es : List Edge), (∀ e ∈ es, Region.binds .any e = true → S e.on) → ∀ s : Nat, (∀ j, s.testBit j = true → S j) →
          ∀ j, (es.foldl (fun s e => if Region.binds .any e then s ||| 2 ^ e.on ||| acc.getD e.on 0 else s) s).testBit j = true → S j := by
        intro es
        induction es with
        | nil => intro _ s hs j hj; exact hs j hj
        | cons e es ihe =>
          intro hes s hs j hj
          simp only [List.foldl_cons] at hj
          refine ihe (fun x hx => hes x (by simp [hx])) _ ?_ j hj
          intro j' hj'
          split at hj'
          · rename_i hb
            have hSe := hes e (by simp) hb
            simp only [Nat.testBit_or, Bool.or_eq_true] at hj'
            rcases hj' with (h1 | h1) | h1
            · exact hs j' h1
            · rw [Nat.testBit_two_pow] at h1
              have : e.on = j' := by simpa using h1
              exact this ▸ hSe
            · by_cases hlt : e.on < pre.length
              · cases hpe : pre[e.on]? with
                | none => rw [List.getElem?_eq_none_iff] at hpe; omega
                | some q =>
                  exact hinv e.on q hpe (fun e' he' hb' => hcl e.on q (by rw [List.append_assoc, List.getElem?_append_left hlt]; exact hpe) hSe e' he' hb') j' h1
              · have : acc.getD e.on 0 = 0 := by
                  simp only [Array.getD_eq_getD_getElem?]
                  rw [Array.getElem?_eq_none (by omega)]; rfl
                rw [this] at h1; simp at h1
          · exact hs j' hj'
      exact key o.after.toList (fun e he => hdeps e (by simpa using he)) 0 (fun j hj => by simp at hj) j (by rw [← Array.foldl_toList] at hj; exact hj)

theorem before_closed (S : Nat → Prop) (hcl : ∀ k o, ops[k]? = some o → S k → ∀ e ∈ o.after, Region.binds .any e = true → S e.on) {i : Nat} {o : Oper} (ho : ops[i]? = some o)
    (hd : ∀ e ∈ o.after, Region.binds .any e = true → S e.on) {j : Nat} (hj : ((Region.before ops).getD i 0).testBit j = true) : S j := by
  unfold Region.before at hj
  rw [← Array.foldl_toList] at hj
  exact before_bits S _ (fun _ _ => rfl) ops.toList [] #[] rfl (fun k o hk => hcl k o (by simpa using hk)) (fun i o h => by simp at h) i o (by simpa using ho) hd j hj

/-! ### Any order -/

def unl (ops : Array Oper) (listed : Array Bool) : List Nat := (List.range ops.size).filter fun i => !listed.getD i true

theorem aOpsD_front {cfg : Cfg} {fr : Nat → Nat → Bool} (hp : PureRec cfg rc) {K : T → Heap → Option α} {i : Nat} {oi : Oper} (hi : ops[i]? = some oi) :
    ∀ (pre post : List Nat), (∀ j ∈ pre, ∃ oj, ops[j]? = some oj ∧ Oper.apart ops oj oi = true ∧ (okPair P cfg ops oj oi = true ∨ (LE P cfg oj oi ∧ fr i j = true ∧ fr j i = true))) → ∀ (t : T) (h : Heap) (L : List Ent),
      aOpsD P cfg rc md N ops fr K (pre ++ i :: post) t h L = some r → aOpsD P cfg rc md N ops fr K (i :: (pre ++ post)) t h L = some r := by
  intro pre
  induction pre with
  | nil => intro post _ t h L hk; exact hk
  | cons j pre ih =>
    intro post hpre t h L hk
    obtain ⟨oj, hj, hap, hok⟩ := hpre j (by simp)
    refine aOpsD_swap hp hi hj hap hok ?_
    simp only [List.cons_append] at hk
    rw [aOpsD_cons hj] at hk ⊢
    cases hr1 : run1 P rc md ops oj t h with
    | none => simp [hr1] at hk
    | some p =>
      simp only [hr1, Option.bind_some] at hk ⊢
      rw [logK_some] at hk ⊢
      refine ⟨hk.1, ?_⟩
      replace hk := hk.2
      unfold put at hk ⊢
      cases hd : oj.dst with
      | none => rw [hd] at hk; exact ih post (fun x hx => hpre x (by simp [hx])) _ _ _ hk
      | some d =>
        rw [hd] at hk
        simp only [] at hk ⊢
        cases hb : Nat.blt d N
        · simp [hb] at hk
        · simp only [hb, cond_true] at hk ⊢
          exact ih post (fun x hx => hpre x (by simp [hx])) _ _ _ hk

theorem commOk_spec {cfg : Cfg} (hc : commOk P cfg ops = true) {i : Nat} {oi : Oper} (hi : ops[i]? = some oi) :
    (∀ e ∈ oi.after, Region.binds .any e = true → e.on < i) ∧ ∀ j oj, ops[j]? = some oj → j < i → ((Region.before ops).getD i 0).testBit j = true ∨ okPairD P cfg ops oj oi = true ∨
      (earlyOp oi = true ∧ Oper.apart ops oj oi = true ∧ ∀ k, k < ops.size → i < k → ((Region.before ops).getD k 0).testBit i = true → ((Region.before ops).getD k 0).testBit j = true) := by
  unfold commOk at hc
  have hm : ∀ {k : Nat} {o : Oper}, ops[k]? = some o → (o, k) ∈ ops.toList.zipIdx := fun {k o} hk => by
    rw [List.mem_zipIdx_iff_getElem?]; simpa using hk
  have h1 := List.all_eq_true.1 hc (oi, i) (hm hi)
  simp only [Bool.and_eq_true] at h1
  refine ⟨fun e he hb => ?_, fun j oj hj hlt => ?_⟩
  · have := List.all_eq_true.1 h1.1 e (by simpa using he)
    simp only [hb, Bool.not_true, Bool.false_or] at this
    exact Nat.lt_of_succ_le (by simpa [Nat.blt] using this)
  · have := List.all_eq_true.1 h1.2 (oj, j) (hm hj)
    simp only [Bool.or_eq_true, Bool.and_eq_true, Bool.not_eq_true'] at this
    rcases this with ((h | h) | h) | h
    · have : Nat.blt j i = true := by simp [Nat.blt]; omega
      rw [this] at h; cases h
    · exact .inl h
    · exact .inr (.inl h)
    · refine .inr (.inr ⟨h.1.1, h.1.2, fun k hk hik hb => ?_⟩)
      have := List.all_eq_true.1 h.2 (ops[k], k) (hm (Array.getElem?_eq_getElem hk))
      simp only [Bool.or_eq_true, Bool.not_eq_true'] at this
      rcases this with (q | q) | q
      · have : Nat.blt i k = true := by simp [Nat.blt]; omega
        rw [this] at q; cases q
      · rw [hb] at q; cases q
      · exact q

theorem unl_mem {listed : Array Bool} {i : Nat} : i ∈ unl ops listed ↔ i < ops.size ∧ listed.getD i true = false := by
  unfold unl; rw [List.mem_filter, List.mem_range]; simp

theorem unl_sorted (listed : Array Bool) : (unl ops listed).Pairwise (· < ·) := List.Pairwise.filter _ List.pairwise_lt_range

theorem unl_set {listed : Array Bool} (hs : listed.size = ops.size) {i : Nat} {pre post : List Nat} (hu : unl ops listed = pre ++ i :: post) : unl ops (listed.setIfInBounds i true) = pre ++ post := by
  have hsort := unl_sorted (ops := ops) listed
  have hi : i < ops.size := (unl_mem.1 (by rw [hu]; simp : i ∈ unl ops listed)).1
  have e : unl ops (listed.setIfInBounds i true) = (unl ops listed).filter (fun j => j != i) := by
    unfold unl
    rw [List.filter_filter]
    refine List.filter_congr fun j _ => ?_
    by_cases hji : j = i
    · subst hji
      simp [Array.getElem?_setIfInBounds_self_of_lt, hs, hi]
    · have : (listed.setIfInBounds i true).getD j true = listed.getD j true := by
        simp [Array.getElem?_setIfInBounds_ne (Ne.symm hji)]
      rw [this]; simp [hji]
  rw [e, hu]
  rw [hu, List.pairwise_append] at hsort
  obtain ⟨_, s2, s3⟩ := hsort
  rw [List.pairwise_cons] at s2
  rw [List.filter_append, List.filter_cons]
  simp only [bne_self_eq_false, Bool.false_eq_true, if_false]
  rw [List.filter_eq_self.2 fun x hx => by have := s3 x hx i (by simp); simp; omega,
    List.filter_eq_self.2 fun x hx => by have := s2.1 x hx; simp; omega]

theorem okD_cases {cfg : Cfg} {x y : Oper} {p : Prop} (h : okPairD P cfg ops x y = true) (hp : LE P cfg x y → p) : Oper.apart ops x y = true ∧ (okPair P cfg ops x y = true ∨ (LE P cfg x y ∧ p)) := by
  simp only [okPairD, Bool.and_eq_true] at h
  refine ⟨h.2, ?_⟩
  have hrl : ∀ o : Op, isLoad P cfg o = true → readOp cfg o = true ∧ stillOp P cfg o = false := by intro o ho; simpa [isLoad] using ho
  cases hok : okPair P cfg ops x y
  · right
    simp only [okPair, h.2, Bool.and_true, Bool.or_eq_false_iff] at hok
    obtain ⟨⟨s1, s2⟩, s3⟩ := hok
    have h1 := h.1
    rw [s1, s2, s3] at h1
    simp only [Bool.false_or, Bool.or_eq_true, Bool.and_eq_true, Bool.not_eq_true'] at h1
    have hle : LE P cfg x y := by
      rcases h1 with ⟨l1, l2⟩ | ⟨l1, l2⟩
      · left
        refine ⟨l1, ?_⟩
        rw [(hrl _ l1).1, Bool.true_and] at s3
        simp [isEff, s2, s3]
      · right
        refine ⟨?_, l1⟩
        rw [(hrl _ l1).1, Bool.and_true] at s3
        simp [isEff, s1, s3]
    exact ⟨hle, hp hle⟩
  · exact .inl rfl

/-! ### What lays a new block may be done ahead -/

theorem lay_mem {v : Value} : ∀ {vs cs : List Value} {i : Nat}, v ∈ lay cs i vs → v ∈ cs ∨ v ∈ vs := by
  intro vs
  induction vs with
  | nil => intro cs i h; exact .inl h
  | cons x vs ih =>
    intro cs i h
    rcases ih (cs := cs.set i x) (i := i + 1) h with q | q
    · rcases List.mem_or_eq_of_mem_set q with z | z
      · exact .inl z
      · exact .inr (by rw [z]; simp)
    · exact .inr (by simp [q])
theorem fillL_mem {place : Nat → Option (Nat × Nat)} {v : Value} : ∀ {parts : List (Nat × Value)} {cells l : List Value}, fillL place cells parts = some l → v ∈ l → v ∈ cells ∨ ∃ p ∈ parts, v ∈ p.2.cells.toList := by
  intro parts
  induction parts with
  | nil => intro cells l h hv; simp only [fillL] at h; cases h; exact .inl hv
  | cons p parts ih =>
    obtain ⟨i, u⟩ := p
    intro cells l h hv
    simp only [fillL] at h
    split at h
    · split at h
      · split at h
        · rcases ih h hv with q | ⟨p, hp, q⟩
          · rcases lay_mem q with z | z
            · exact .inl z
            · exact .inr ⟨(i, u), by simp, z⟩
          · exact .inr ⟨p, by simp [hp], q⟩
        · cases h
      · cases h
    · cases h
theorem repL_mem {v : Value} {z : List Value} : ∀ {n : Nat}, v ∈ repL n z → v ∈ z := by
  intro n
  induction n with
  | zero => intro h; simp [repL] at h
  | succ n ih =>
    intro h
    simp only [repL] at h
    rcases List.mem_append.1 h with q | q
    · exact q
    · exact ih q
/-- What an operation that lays a block comes to, wherever it is done. -/
theorem early_run {o : Oper} (he : earlyOp o = true) (t : T) : ∃ e : Option ((Nat → Value) × List Value), (∀ h, run1 P rc md ops o t h = e.map fun p => (p.1 h.length, h ++ [.own p.2])) ∧
    ∀ f l, e = some (f, l) → ((f = fun n => .pointer (some ⟨n, 0, none⟩)) ∨ ∃ len c, f = fun n => .slice (some ⟨n, 0, none⟩) len c) ∧
      ∀ v ∈ l, scalar v = true ∨ ∃ x ∈ o.op.operands.toList, v ∈ (ev t x).cells.toList := by
  simp only [earlyOp, Bool.and_eq_true] at he
  have hw : aWanted ops t o = true := by
    unfold aWanted
    cases hg : o.guard with
    | none => rfl
    | some g => rw [hg] at he; simp at he
  have hr : castOf o.op = false → ∀ h, run1 P rc md ops o t h = aOp0 P rc md t o h fun v h' => some (v, h') := by
    intro hc h
    unfold run1 aOp
    simp only [hw, cond_true, hc, cond_false]
  obtain ⟨_, he⟩ := he
  cases ho : o.op <;> rw [ho] at he <;> first | (cases he; done) | skip
  · -- alloc
    rename_i ty
    have hr := hr (by rw [ho]; rfl)
    cases hz : zeroOf P ty with
    | none => exact ⟨none, fun h => by rw [hr]; simp only [aOp0, ho, hz]; rfl, fun f l h => by cases h⟩
    | some z =>
      by_cases hs : z.all scalar = true
      · refine ⟨some (fun n => .pointer (some ⟨n, 0, none⟩), z), fun h => by rw [hr]; simp only [aOp0, ho, hz, hs, if_true]; rfl, fun f l h => ?_⟩
        simp only [Option.some.injEq, Prod.mk.injEq] at h
        obtain ⟨rfl, rfl⟩ := h
        exact ⟨.inl rfl, fun v hv => .inl (List.all_eq_true.1 hs v hv)⟩
      · exact ⟨none, fun h => by rw [hr]; simp only [aOp0, ho, hz]; rw [if_neg hs]; rfl, fun f l h => by cases h⟩
  · -- buildSlice
    rename_i ty len ps
    have hr := hr (by rw [ho]; rfl)
    have key : ∃ e : Option ((Nat → Value) × List Value), (∀ h, aBuildSlice P ty len (ps.toList.map fun p => (p.1, ev t p.2)) h (fun v h' => some (v, h')) = e.map fun p => (p.1 h.length, h ++ [.own p.2])) ∧
        ∀ f l, e = some (f, l) → (∃ len c, f = fun n => .slice (some ⟨n, 0, none⟩) len c) ∧ ∀ v ∈ l, scalar v = true ∨ ∃ x ∈ ps.toList.map (·.2), v ∈ (ev t x).cells.toList := by
      unfold aBuildSlice
      split
      · split
        · rename_i e j z hj hz
          split
          · split
            · rename_i hs
              split
              · rename_i l hl
                refine ⟨some (fun n => .slice (some ⟨n, 0, none⟩) len j.size, l), fun h => rfl, fun f l' h => ?_⟩
                simp only [Option.some.injEq, Prod.mk.injEq] at h
                obtain ⟨rfl, rfl⟩ := h
                refine ⟨⟨_, _, rfl⟩, fun v hv => ?_⟩
                rcases fillL_mem hl hv with q | ⟨p, hp, q⟩
                · exact .inl (List.all_eq_true.1 hs v (repL_mem q))
                · obtain ⟨u, hu, rfl⟩ := List.mem_map.1 hp
                  exact .inr ⟨u.2, List.mem_map.2 ⟨u, hu, rfl⟩, q⟩
              · exact ⟨none, fun h => rfl, fun f l h => by cases h⟩
            · exact ⟨none, fun h => rfl, fun f l h => by cases h⟩
          · exact ⟨none, fun h => rfl, fun f l h => by cases h⟩
        · exact ⟨none, fun h => rfl, fun f l h => by cases h⟩
      · exact ⟨none, fun h => rfl, fun f l h => by cases h⟩
    obtain ⟨e, k1, k2⟩ := key
    refine ⟨e, fun h => by rw [hr]; simp only [aOp0, ho]; exact k1 h, fun f l h => ?_⟩
    obtain ⟨q1, q2⟩ := k2 f l h
    refine ⟨.inr q1, fun v hv => (q2 v hv).imp id fun ⟨x, hx, hv⟩ => ⟨x, ?_, hv⟩⟩
    simp only [Op.operands]
    simpa using hx
  · -- makeSlice
    rename_i ty l c
    have hr := hr (by rw [ho]; rfl)
    have key : ∃ e : Option ((Nat → Value) × List Value), (∀ h, aMakeSlice P ty (ev t l) (ev t c) h (fun v h' => some (v, h')) = e.map fun p => (p.1 h.length, h ++ [.own p.2])) ∧
        ∀ f l, e = some (f, l) → (∃ len c, f = fun n => .slice (some ⟨n, 0, none⟩) len c) ∧ ∀ v ∈ l, scalar v = true := by
      unfold aMakeSlice
      split
      · split
        · rename_i j z hj hz
          split
          · rename_i hs
            split
            · refine ⟨some (fun n => .slice (some ⟨n, 0, none⟩) _ j.size, repL _ z), fun h => rfl, fun f l' h => ?_⟩
              simp only [Option.some.injEq, Prod.mk.injEq] at h
              obtain ⟨rfl, rfl⟩ := h
              exact ⟨⟨_, _, rfl⟩, fun v hv => List.all_eq_true.1 hs.2.2 v (repL_mem hv)⟩
            · exact ⟨none, fun h => rfl, fun f l h => by cases h⟩
          · exact ⟨none, fun h => rfl, fun f l h => by cases h⟩
        · exact ⟨none, fun h => rfl, fun f l h => by cases h⟩
      · exact ⟨none, fun h => rfl, fun f l h => by cases h⟩
    obtain ⟨e, k1, k2⟩ := key
    refine ⟨e, fun h => by rw [hr]; simp only [aOp0, ho]; exact k1 h, fun f l h => ?_⟩
    obtain ⟨q1, q2⟩ := k2 f l h
    exact ⟨.inr q1, fun v hv => .inl (q2 v hv)⟩

/-- A block that the model has laid, and the frame hasn't yet. -/
structure Pend where
  i : Nat
  dst : Option Tmp
  f : Nat → Value
  l : List Value
  loc : Loc
  cv : Value
structure PendOk (base : Nat) (ρ : Ren) (h : Heap) (w : World) (p : Pend) : Prop where
  ge : base ≤ p.loc.blk
  own : ∃ ccs e, w.heap[p.loc.blk]? = some (.cells ccs e (0, 0)) ∧ p.loc.off + p.loc.avail ≤ ccs.size ∧ p.l.length ≤ p.loc.avail ∧ CellsAt ρ h.length p.l ccs p.loc.off
  out : ∀ b, Live h b → (ρ b).blk ≠ p.loc.blk
  val : ∀ n ρ', ρ' n = p.loc → VRel ρ' (n + 1) (p.f n) p.cv
theorem PendOk.lt {p : Pend} (h : PendOk base ρ h w p) : p.loc.blk < w.heap.size := by
  obtain ⟨_, _, h1, _⟩ := h.own
  exact (Array.getElem?_eq_some_iff.1 h1).1
theorem CellsAt.mono {ρ' : Ren} {n n' : Nat} {cs : List Value} {ccs : Array Value} {off : Nat} (c : CellsAt ρ n cs ccs off) (hn : n ≤ n') (hr : ∀ b, b < n → ρ' b = ρ b) : CellsAt ρ' n' cs ccs off := fun i v hv => by
  obtain ⟨u, h1, h2⟩ := c i v hv
  exact ⟨u, h1, h2.mono hn hr⟩
/-- It stays so behind a step of both. -/
theorem PendOk.step {p : Pend} {ρ' : Ren} {h' : Heap} {w' : World} (k : PendOk base ρ h w p) (E : Ext base md ρ h w ρ' h' w') : PendOk base ρ' h' w' p := by
  have hl := k.lt
  obtain ⟨ccs, e, h1, h2, h3, h4⟩ := k.own
  refine ⟨k.ge, ⟨ccs, e, (E.frm _ hl k.out).trans h1, h2, h3, h4.mono E.len E.rho⟩, fun b hb => ?_, k.val⟩
  rcases E.img b hb with q | ⟨b0, q0, q⟩
  · omega
  · rw [← q]; exact k.out b0 q0
/-- The frame lays it too. -/
theorem PendOk.lay {p : Pend} {lim : Nat} (H : HR base ρ β lim h w) (k : PendOk base ρ h w p) :
    let ρ' : Ren := fun b => if b = h.length then p.loc else ρ b
    HR base ρ' β lim (h ++ [.own p.l]) w := by
  intro ρ'
  have hr : ∀ b, b < h.length → ρ' b = ρ b := fun b hb => by show (if _ then _ else _) = _; rw [if_neg (by omega)]
  have hn : ρ' h.length = p.loc := if_pos rfl
  have old : ∀ {b k}, (h ++ [Blk.own p.l])[b]? = some k → (b < h.length ∧ h[b]? = some k) ∨ (b = h.length ∧ k = .own p.l) := by
    intro b k hk
    by_cases hb : b < h.length
    · rw [List.getElem?_append_left hb] at hk; exact .inl ⟨hb, hk⟩
    · rw [List.getElem?_append_right (by omega)] at hk
      have : b - h.length = 0 := by
        rcases Nat.eq_zero_or_pos (b - h.length) with h0 | h0
        · exact h0
        · rw [List.getElem?_eq_none (by simp; omega)] at hk; cases hk
      rw [this] at hk; simp at hk
      exact .inr ⟨by omega, hk.symm⟩
  have bdm : ∀ b, b < h.length → bd β lim h b ≤ bd β lim (h ++ [Blk.own p.l]) b := by
    intro b hb; unfold bd; split
    · exact Nat.le_refl _
    · simp
  have cells : ∀ b cs' ccs' off, b < h.length → CellsAt ρ (bd β lim h b) cs' ccs' off → CellsAt ρ' (bd β lim (h ++ [Blk.own p.l]) b) cs' ccs' off := by
    intro b cs' ccs' off hb hcells
    exact hcells.mono (bdm b hb) fun x hx => hr x (Nat.lt_of_lt_of_le hx (H.bd_le b))
  refine ⟨?_, H.bnd, H.base_le, ?_, ?_, ?_, H.mp.sub id (fun b kk ho hb => by
      rcases old hb with ⟨hlt, hk⟩ | ⟨_, hk⟩
      · exact ⟨hk, hr b hlt⟩
      · subst hk; cases ho) (fun _ _ _ _ _ _ hw => hw) (fun b kd es hb l hl => by
      rcases old hb with ⟨hlt, _⟩ | ⟨_, hk⟩
      · exact hl.mono (bdm b hlt) fun x hx => hr x (Nat.lt_of_lt_of_le hx (H.bd_le b))
      · cases hk)⟩
  · have := H.lim_le; simp; omega
  · intro b cs' hb hne
    rcases old hb with ⟨hlt, hk⟩ | ⟨_, hk⟩
    · rw [hr b hlt]
      obtain ⟨h1, ccs', e', fz, h2, h3⟩ := H.ro b cs' hk hne
      exact ⟨h1, ccs', e', fz, h2, cells b cs' ccs' _ hlt h3⟩
    · cases hk
  · intro b cs' hb
    rcases old hb with ⟨hlt, hk⟩ | ⟨rfl, hk⟩
    · rw [hr b hlt]
      obtain ⟨h1, ccs', e', h2, h3, h4, h5⟩ := H.own b cs' hk
      exact ⟨h1, ccs', e', h2, h3, h4, cells b cs' ccs' _ hlt h5⟩
    · cases hk
      rw [hn]
      obtain ⟨ccs, e, q1, q2, q3, q4⟩ := k.own
      refine ⟨k.ge, ccs, e, q1, q2, q3, q4.mono ?_ fun x hx => hr x hx⟩
      have := H.lim_le
      unfold bd
      rw [if_neg (by omega)]
      simp
  · intro b b' cs1 cs2 h1 h2 hne
    rcases old h1 with ⟨hlt, hk⟩ | ⟨rfl, hk⟩ <;> rcases old h2 with ⟨hlt', hk'⟩ | ⟨rfl, hk'⟩
    · rw [hr b hlt, hr b' hlt']; exact H.apart b b' cs1 cs2 hk hk' hne
    · rw [hr b hlt, hn]; exact k.out b ⟨_, hk, rfl⟩
    · rw [hr b' hlt', hn]; exact Ne.symm (k.out b' ⟨_, hk', rfl⟩)
    · exact absurd rfl hne

theorem put_same {a a0 : Act} (hs : a.tmps.size = a0.tmps.size) {dst : Option Tmp} {u v : Value} (e : a0.put dst u = a0.put dst v) : a.put dst u = a.put dst v := by
  cases dst with
  | none => rfl
  | some d =>
    simp only [Act.put] at e ⊢
    have e' : a0.tmps.setIfInBounds d u = a0.tmps.setIfInBounds d v := congrArg Act.tmps e
    by_cases hd : d < a0.tmps.size
    · have := congrArg (fun x : Array Value => x[d]?) e'
      simp only [Array.getElem?_setIfInBounds_self_of_lt hd, Option.some.injEq] at this
      rw [this]
    · have : ∀ x, a.tmps.setIfInBounds d x = a.tmps := fun x => by
        simp only [Array.setIfInBounds]
        split
        · rename_i hlt; rw [hs] at hlt; exact absurd hlt hd
        · rfl
      rw [this, this]
theorem put_defers' (a : Act) (d : Option Tmp) (v : Value) : (a.put d v).defers = a.defers := by cases d <;> rfl
/-- An operation does the same where what it looks at is the same. -/
theorem wp_act {o : Oper} {a a0 : Act} {C : Act → World → Prop} {Q : Exit → Act → World → Prop} (hs : a.tmps.size = a0.tmps.size) (he : execOp a.eval o = execOp a0.eval o)
    (h : o.wp P a0 w (fun a' w' => ∃ cv, a' = a0.put o.dst cv ∧ C (a.put o.dst cv) w') (fun _ _ _ => False)) : o.wp P a w C Q := by
  unfold Oper.wp at *
  rw [he]
  have val : ∀ u w', (∃ cv, a0.put o.dst u = a0.put o.dst cv ∧ C (a.put o.dst cv) w') → C (a.put o.dst u) w' := fun u w' ⟨cv, e, hc⟩ => by
    rw [put_same hs e]; exact hc
  generalize (execOp a0.eval o).run P w = x at *
  cases x with
  | ok n w' =>
    cases n <;> simp only [Oper.upon] at h ⊢
    case value u => exact val u w' h
    case skip => exact val undef w' h
    case defer d =>
      obtain ⟨cv, e, _⟩ := h
      have := congrArg (fun a : Act => a.defers.length) e
      simp only [put_defers', List.length_cons] at this
      omega
    case enter f args =>
      refine Calls.mono h fun e w'' hh => ?_
      cases e with
      | returned u => exact val u w'' hh
      | panicked c => exact hh.elim
      | outgrown => obtain ⟨_, _, hq⟩ := hh; exact hq.elim
    case row row args => exact Rows.mono h fun u w'' hh => val u w'' hh
  | halt y w' =>
    cases y <;> simp only [Oper.upon] at h ⊢ <;> first | exact h.elim | exact h
theorem wanted_act {o : Oper} {a a0 : Act} (h : ∀ d ∈ o.looksAt ops, a.tmps[d]? = a0.tmps[d]?) : Region.wanted o (yielded ops a.tmps) = Region.wanted o (yielded ops a0.tmps) := by
  unfold Region.wanted
  cases hg : o.guard with
  | none => rfl
  | some g =>
    obtain ⟨j, want⟩ := g
    have : yielded ops a.tmps j = yielded ops a0.tmps j := by
      unfold yielded
      cases ht : (ops[j]?).bind (·.dst) with
      | none => rfl
      | some d =>
        simp only [Option.bind_some]
        rw [h d (by simp [Oper.looksAt, hg, ht])]
    simp only [this]
theorem exec_act {o : Oper} {a a0 : Act} (hs : ∀ cs b, o.op ≠ .select cs b) (h : ∀ d ∈ o.looksAt ops, a.tmps[d]? = a0.tmps[d]?) : execOp a.eval o = execOp a0.eval o :=
  execOp_congr o hs fun x hx => by
    cases x with
    | tmp d =>
      have := h d (List.mem_append_left _ (List.mem_filterMap.2 ⟨.tmp d, by simpa using hx, rfl⟩))
      simp only [Act.eval, Array.getD_eq_getD_getElem?, this]
    | _ => rfl
theorem not_select {o : Oper} {k : Value → Heap → Option α} (hk : aOp P rc md t o h k = some r) : ∀ cs b, o.op ≠ .select cs b := by
  intro cs b e
  unfold aOp at hk
  simp [aOp0, e] at hk
/-- A step of the frame alone. -/
theorem aOpsD_step {cfg : Cfg} {fr : Nat → Nat → Bool} {K : T → Heap → Option α} {i : Nat} {rest : List Nat} {o : Oper} (ho : ops[i]? = some o) {L : List Ent} (hk : aOpsD P cfg rc md N ops fr K (i :: rest) t h L = some r)
    {v : Value} {h' : Heap} (hr : run1 P rc md ops o t h = some (v, h')) : ∃ L', Det.put N o.dst t v (fun t' => aOpsD P cfg rc md N ops fr K rest t' h' L') = some r := by
  rw [aOpsD_cons ho, hr] at hk
  simp only [Option.bind_some] at hk
  rw [logK_some] at hk
  exact ⟨_, hk.2⟩
/-- What is carried out later is carried out. -/
theorem aOpsD_reach {cfg : Cfg} {fr : Nat → Nat → Bool} {K : T → Heap → Option α} {i : Nat} {post : List Nat} {o : Oper} (ho : ops[i]? = some o) : ∀ (pre : List Nat), (∀ j ∈ pre, ∃ oj, ops[j]? = some oj ∧ ∀ d, oj.dst = some d → d ∉ o.looksAt ops) → ∀ (t : T) (h : Heap) (L : List Ent),
    aOpsD P cfg rc md N ops fr K (pre ++ i :: post) t h L = some r → (∃ t1 h1 p, run1 P rc md ops o t1 h1 = some p ∧ ∀ d ∈ o.looksAt ops, t1 d = t d) ∧ ∀ d, o.dst = some d → Nat.blt d N = true := by
  intro pre
  induction pre with
  | nil =>
    intro _ t h L hk
    simp only [List.nil_append] at hk
    rw [aOpsD_cons ho] at hk
    cases hr : run1 P rc md ops o t h with
    | none => rw [hr] at hk; cases hk
    | some p =>
      refine ⟨⟨t, h, p, hr, fun _ _ => rfl⟩, fun d hd => ?_⟩
      rw [hr] at hk
      simp only [Option.bind_some] at hk
      rw [logK_some] at hk
      replace hk := hk.2
      unfold Det.put at hk
      rw [hd] at hk
      simp only [] at hk
      cases hb : Nat.blt d N
      · simp [hb] at hk
      · rfl
  | cons j pre ih =>
    intro hp t h L hk
    obtain ⟨oj, hj, hd⟩ := hp j (by simp)
    simp only [List.cons_append] at hk
    rw [aOpsD_cons hj] at hk
    cases hr : run1 P rc md ops oj t h with
    | none => rw [hr] at hk; cases hk
    | some p =>
      rw [hr] at hk
      simp only [Option.bind_some] at hk
      rw [logK_some] at hk
      replace hk := hk.2
      unfold Det.put at hk
      cases hdst : oj.dst with
      | none =>
        rw [hdst] at hk
        exact ih (fun x hx => hp x (by simp [hx])) _ _ _ hk
      | some d =>
        rw [hdst] at hk
        simp only [] at hk
        cases hb : Nat.blt d N
        · simp [hb] at hk
        · simp only [hb, cond_true] at hk
          obtain ⟨⟨t1, h1, p1, q1, q2⟩, q3⟩ := ih (fun x hx => hp x (by simp [hx])) _ _ _ hk
          refine ⟨⟨t1, h1, p1, q1, fun e he => ?_⟩, q3⟩
          rw [q2 e he]
          exact upd_ne _ _ fun hq => hd d hdst (hq ▸ he)
theorem SR.put' {v cv : Value} {ρ' : Ren} {h' : Heap} {w' : World} (S : SR base md ρ β N t h a w) (H' : HR base ρ' β md.lim h' w') (hv : VRel ρ' h'.length v cv) (hlen : h.length ≤ h'.length) (hrho : ∀ b, b < h.length → ρ' b = ρ b)
    {dst : Option Tmp} {k : T → Option α} (hk : Det.put N dst t v k = some r) : ∃ t', k t' = some r ∧ SR base md ρ' β N t' h' (a.put dst cv) w' ∧ (∀ d, dst ≠ some d → t' d = t d) ∧ ∀ d, dst = some d → d < a.tmps.size := by
  have old : ∀ i, VRel ρ' h'.length (t i) (a.tmps.getD i undef) := fun i => (S.tmps i).mono hlen hrho
  unfold Det.put at hk
  cases dst with
  | none => exact ⟨t, hk, ⟨H', old, S.size, S.defers⟩, fun _ _ => rfl, fun _ h => by cases h⟩
  | some d =>
    simp only [] at hk
    cases hb : Nat.blt d N
    · simp [hb] at hk
    · simp only [hb, cond_true] at hk
      have hd : d < a.tmps.size := by rw [S.size]; exact Nat.lt_of_succ_le (by simpa [Nat.blt] using hb)
      refine ⟨_, hk, ⟨H', fun i => ?_, by simpa [Act.put] using S.size, S.defers⟩, fun e he => upd_ne _ _ fun q => he (by rw [q]), fun e he => by cases he; exact hd⟩
      by_cases e : i = d
      · subst e
        rw [upd_same]
        simp only [Act.put]
        simp [Array.getD, hd]
        exact hv
      · rw [upd_ne _ _ e]
        simp only [Act.put]
        have : (a.tmps.setIfInBounds d cv).getD i undef = a.tmps.getD i undef := by
          simp only [Array.getD_eq_getD_getElem?, Array.getElem?_setIfInBounds_ne (Ne.symm e)]
        rw [this]; exact old i
theorem put_at {a : Act} {d : Tmp} {v : Value} (hd : d < a.tmps.size) : (a.put (some d) v).tmps[d]? = some v := by
  simp [Act.put, hd]
theorem put_off {a : Act} {dst : Option Tmp} {d : Tmp} {v : Value} (h : dst ≠ some d) : (a.put dst v).tmps[d]? = a.tmps[d]? := by
  cases dst with
  | none => rfl
  | some e => simp only [Act.put]; rw [Array.getElem?_setIfInBounds_ne (fun q => h (by rw [q]))]
theorem put_size {a : Act} {dst : Option Tmp} {v : Value} : (a.put dst v).tmps.size = a.tmps.size := by
  cases dst <;> simp [Act.put]

/-- Without what was laid behind. -/
theorem HR.forget {ρ' : Ren} {lim : Nat} {bs : Heap} {w' : World} (H : HR base ρ β lim h w) (H' : HR base ρ' β lim (h ++ bs) w') (hr : ∀ b, b < h.length → ρ' b = ρ b) : HR base ρ β lim h w' := by
  have up : ∀ {b : Nat} {k : Blk}, h[b]? = some k → b < h.length ∧ (h ++ bs)[b]? = some k := fun {b k} hb => by
    have := (List.getElem?_eq_some_iff.1 hb).1
    exact ⟨this, by rw [List.getElem?_append_left this]; exact hb⟩
  have cells : ∀ {b : Nat} {cs : List Value} {ccs ccs0 : Array Value} {off n : Nat}, CellsAt ρ (bd β lim h b) cs ccs0 off → CellsAt ρ' n cs ccs off → CellsAt ρ (bd β lim h b) cs ccs off := by
    intro b cs ccs ccs0 off n h1 h2 i v hv
    obtain ⟨c0, _, g0⟩ := h1 i v hv
    obtain ⟨c, q, g⟩ := h2 i v hv
    exact ⟨c, q, (g.shrink g0).mono (Nat.le_refl _) fun x hx => (hr x (Nat.lt_of_lt_of_le hx (H.bd_le b))).symm⟩
  refine ⟨H.lim_le, H.bnd, H'.base_le, fun b cs hb hne => ?_, fun b cs hb => ?_, fun b b' cs cs' h1 h2 hne => ?_, H'.mp.sub id (fun b kk ho hb => ⟨(up hb).2, (hr b (up hb).1).symm⟩) (fun _ _ _ _ _ _ hw => hw) (fun b kd es hb l hl => by
      obtain ⟨_, es0, _, _, _, c1, _⟩ := H.mp.mp b kd es hb
      exact ⟨hl.1, fun i v c hv hc => by
        obtain ⟨c0, _, g0⟩ := c1.get hv
        exact ((hl.2 i v c hv hc).shrink g0).mono (Nat.le_refl _) fun x hx => (hr x (Nat.lt_of_lt_of_le hx (H.bd_le b))).symm⟩)⟩
  · obtain ⟨u1, u2⟩ := up hb
    obtain ⟨_, _, _, _, _, c1⟩ := H.ro b cs hb hne
    obtain ⟨g1, ccs, e, fz, g2, c2⟩ := H'.ro b cs u2 hne
    rw [hr b u1] at g1 g2 c2
    exact ⟨g1, ccs, e, fz, g2, cells c1 c2⟩
  · obtain ⟨u1, u2⟩ := up hb
    obtain ⟨_, _, _, _, _, _, c1⟩ := H.own b cs hb
    obtain ⟨g1, ccs, e, g2, g3, g4, c2⟩ := H'.own b cs u2
    rw [hr b u1] at g1 g2 g3 g4 c2
    exact ⟨g1, ccs, e, g2, g3, g4, cells c1 c2⟩
  · have := H'.apart b b' cs cs' (up h1).2 (up h2).2 hne
    rwa [hr b (up h1).1, hr b' (up h2).1] at this
/-- Does one come behind another one? -/
def anc (ops : Array Oper) (k j : Nat) : Bool := ((Region.before ops).getD k 0).testBit j
variable {cfg : Cfg}
theorem anc_lt (hc : commOk P cfg ops = true) {k j : Nat} (hk : k < ops.size) (h : anc ops k j = true) : j < k := by
  have ho := Array.getElem?_eq_getElem hk
  refine before_closed (ops := ops) (fun j => j < k) (fun m o hm hlt e he hb => ?_) ho (fun e he hb => (commOk_spec hc ho).1 e he hb) h
  have := (commOk_spec hc hm).1 e he hb
  omega
theorem anc_in {k j : Nat} (hc : commOk P cfg ops = true) (hk : k < ops.size) {S : Nat → Prop} (hcl : ∀ m o, ops[m]? = some o → S m → ∀ e ∈ o.after, Region.binds .any e = true → S e.on) {o : Oper} (ho : ops[k]? = some o) (hd : ∀ e ∈ o.after, Region.binds .any e = true → S e.on)
    (h : anc ops k j = true) : S j := before_closed S hcl ho hd h
theorem pair_ap (hc : commOk P cfg ops = true) {i j : Nat} {oi oj : Oper} (hi : ops[i]? = some oi) (hj : ops[j]? = some oj) (hne : i ≠ j) (h1 : anc ops i j = false) (h2 : anc ops j i = false) : Oper.apart ops oi oj = true := by
  have sym : ∀ {x y : Oper}, Oper.apart ops x y = true → Oper.apart ops y x = true := fun {x y} h => by
    obtain ⟨q1, q2, q3⟩ := Oper.apart_spec h
    unfold Oper.apart
    cases hx : x.dst <;> cases hy : y.dst <;> simp_all
    exact fun e => q2 e.symm
  rcases Nat.lt_or_ge j i with h | h
  · rcases (commOk_spec hc hi).2 j oj hj h with q | q | q
    · unfold anc at h1; rw [q] at h1; cases h1
    · exact sym (by simp only [okPairD, Bool.and_eq_true] at q; exact q.2)
    · exact sym q.2.1
  · rcases (commOk_spec hc hj).2 i oi hi (by omega) with q | q | q
    · unfold anc at h2; rw [q] at h2; cases h2
    · simp only [okPairD, Bool.and_eq_true] at q; exact q.2
    · exact q.2.1
theorem getD_tf {x : Array Bool} {i : Nat} (h : i < x.size) : x.getD i true = x.getD i false := by simp [Array.getD, h]

/-- Where both stand, and what the frame hasn't yet. -/
structure PSt (P : Program) (rc : Rec) (cfg : Cfg) (fr : Nat → Nat → Bool) (ops : Array Oper) (base : Nat) (md : Md) (β : Nat → Nat) (N : Nat) (K : T → Heap → Option α) (r : α) (ρ0 : Ren) (h0 : Heap) (w0 : World)
    (listed Dl : Array Bool) (L : List Ent) (t : T) (h : Heap) (a a0 : Act) (w : World) (ρ : Ren) (pend : List Pend) : Prop where
  s1 : listed.size = ops.size
  s2 : Dl.size = ops.size
  sub : ∀ i, Dl.getD i false = true → listed.getD i false = true
  cl : ∀ k o, ops[k]? = some o → listed.getD k false = true → ∀ e ∈ o.after, Region.binds .any e = true → listed.getD e.on false = true
  pnd : ∀ i, listed.getD i false = true → Dl.getD i false = false → ∃ p ∈ pend, p.i = i
  on : ∀ p ∈ pend, listed.getD p.i false = true ∧ Dl.getD p.i false = false ∧ p.i < ops.size
  run : ∀ p ∈ pend, ∃ o, ops[p.i]? = some o ∧ o.dst = p.dst ∧ ∀ g, run1 P rc md ops o t g = some (p.f g.length, g ++ [.own p.l])
  ok : ∀ p ∈ pend, PendOk base ρ h w p
  new : ∀ p ∈ pend, w0.heap.size ≤ p.loc.blk
  ancs : ∀ p ∈ pend, ∀ j, anc ops p.i j = true → Dl.getD j false = true
  at_ : ∀ p ∈ pend, ∀ d, p.dst = some d → a.tmps[d]? = some p.cv
  dif : pend.Pairwise fun p q => p.i ≠ q.i ∧ p.loc.blk ≠ q.loc.blk
  sz : a.tmps.size = a0.tmps.size
  same : ∀ d, (∀ p ∈ pend, p.dst ≠ some d) → a.tmps[d]? = a0.tmps[d]?
  dfr : a.defers = a0.defers
  S : SR base md ρ β N t h a0 w
  E : Ext base md ρ0 h0 w0 ρ h w
  hk : aOpsD P cfg rc md N ops fr K (unl ops Dl) t h L = some r
section
variable {fr : Nat → Nat → Bool} {K : T → Heap → Option α} {ρ0 : Ren} {h0 : Heap} {w0 : World} {listed Dl : Array Bool} {L : List Ent} {a0 : Act} {pend : List Pend}
theorem PSt.open_ (S : PSt P rc cfg fr ops base md β N K r ρ0 h0 w0 listed Dl L t h a a0 w ρ pend) {i : Nat} : i ∈ unl ops Dl ↔ i < ops.size ∧ Dl.getD i false = false := by
  rw [unl_mem]
  refine ⟨fun q => ⟨q.1, ?_⟩, fun q => ⟨q.1, ?_⟩⟩
  · rw [← getD_tf (by rw [S.s2]; exact q.1)]; exact q.2
  · rw [getD_tf (by rw [S.s2]; exact q.1)]; exact q.2
/-- What is before another one, and not behind it, may be passed. -/
theorem PSt.pass (hc : commOk P cfg ops = true) (hfr : ∀ i j oi oj, ops[i]? = some oi → ops[j]? = some oj → j < i → ((Region.before ops).getD i 0).testBit j = false → LE P cfg oj oi → fr i j = true ∧ fr j i = true)
    {i : Nat} {o : Oper} (ho : ops[i]? = some o) {pre : List Nat} (h1 : ∀ j ∈ pre, j < i ∧ anc ops i j = false ∧ ∃ oj, ops[j]? = some oj ∧ okPairD P cfg ops oj o = true) :
    ∀ j ∈ pre, ∃ oj, ops[j]? = some oj ∧ Oper.apart ops oj o = true ∧ (okPair P cfg ops oj o = true ∨ (LE P cfg oj o ∧ fr i j = true ∧ fr j i = true)) := by
  intro j hj
  obtain ⟨hlt, hb, oj, hoj, hp⟩ := h1 j hj
  refine ⟨oj, hoj, ?_⟩
  exact okD_cases hp fun hle => hfr i j o oj ho hoj hlt hb hle
/-- The frame does one thing that the model has done. -/
theorem PSt.cat (hp : PureRec cfg rc) (hc : commOk P cfg ops = true) (hfr : ∀ i j oi oj, ops[i]? = some oi → ops[j]? = some oj → j < i → ((Region.before ops).getD i 0).testBit j = false → LE P cfg oj oi → fr i j = true ∧ fr j i = true)
    (S : PSt P rc cfg fr ops base md β N K r ρ0 h0 w0 listed Dl L t h a a0 w ρ pend) {p : Pend} (hpm : p ∈ pend)
    (hpre : ∀ j, j ∈ unl ops Dl → j < p.i → ∃ oj o, ops[j]? = some oj ∧ ops[p.i]? = some o ∧ okPairD P cfg ops oj o = true) :
    ∃ L' t' h' a0' ρ', PSt P rc cfg fr ops base md β N K r ρ0 h0 w0 listed (Dl.setIfInBounds p.i true) L' t' h' a a0' w ρ' (pend.filter fun q => q.i != p.i) := by
  obtain ⟨on1, on2, on3⟩ := S.on p hpm
  obtain ⟨o, ho, hdst, hrun⟩ := S.run p hpm
  have hpk := S.ok p hpm
  have hmem : p.i ∈ unl ops Dl := S.open_.2 ⟨on3, on2⟩
  obtain ⟨pre, post, hu⟩ := List.append_of_mem hmem
  have hsort := unl_sorted (ops := ops) Dl
  rw [hu, List.pairwise_append] at hsort
  have hlt : ∀ j ∈ pre, j < p.i := fun j hj => hsort.2.2 j hj p.i (by simp)
  have hin : ∀ j ∈ pre, j ∈ unl ops Dl := fun j hj => by rw [hu]; simp [hj]
  have hk := S.hk
  rw [hu] at hk
  have hk' := aOpsD_front hp ho pre post (PSt.pass hc hfr ho fun j hj => by
    refine ⟨hlt j hj, ?_, ?_⟩
    · cases hb : anc ops p.i j
      · rfl
      · have := S.ancs p hpm j hb
        rw [(S.open_.1 (hin j hj)).2] at this; cases this
    · obtain ⟨oj, o', q1, q2, q3⟩ := hpre j (hin j hj) (hlt j hj)
      rw [ho] at q2; cases q2
      exact ⟨oj, q1, q3⟩) t h L hk
  rw [← unl_set S.s2 hu] at hk'
  obtain ⟨L', hput⟩ := aOpsD_step ho hk' (hrun h)
  have Hn := hpk.lay S.S.heap
  obtain ⟨t', hk2, S', hoff, hsz⟩ := S.S.put' (cv := p.cv) Hn (by
    have := hpk.val h.length (fun b => if b = h.length then p.loc else ρ b) (if_pos rfl)
    simpa using this) (by simp) (fun b hb => if_neg (by omega)) hput
  rw [hdst] at S' hoff hsz
  have hr : ∀ b, b < h.length → (fun b => if b = h.length then p.loc else ρ b : Ren) b = ρ b := fun b hb => if_neg (by omega)
  have others : ∀ q ∈ pend, q.i ≠ p.i → q.loc.blk ≠ p.loc.blk := by
    intro q hq hne e
    have := S.dif
    obtain ⟨n1, n2, g1⟩ := List.mem_iff_getElem.1 hq
    obtain ⟨m1, m2, g2⟩ := List.mem_iff_getElem.1 hpm
    rcases Nat.lt_trichotomy n1 m1 with z | z | z
    · have := List.pairwise_iff_getElem.1 S.dif n1 m1 n2 m2 z
      rw [g1, g2] at this; exact this.2 e
    · subst z; rw [g1] at g2; exact hne (by rw [g2])
    · have := List.pairwise_iff_getElem.1 S.dif m1 n1 m2 n2 z
      rw [g1, g2] at this; exact this.2 e.symm
  have live : ∀ b, Live (h ++ [Blk.own p.l]) b → (b < h.length ∧ Live h b) ∨ b = h.length := by
    rintro b ⟨k, hk, hl⟩
    by_cases hb : b < h.length
    · rw [List.getElem?_append_left hb] at hk; exact .inl ⟨hb, k, hk, hl⟩
    · right
      have : b < (h ++ [Blk.own p.l]).length := (List.getElem?_eq_some_iff.1 hk).1
      simp at this; omega
  have nanc : ∀ q ∈ pend, anc ops q.i p.i = false := fun q hq => by
    cases hb : anc ops q.i p.i
    · rfl
    · have := S.ancs q hq p.i hb
      rw [on2] at this; cases this
  refine ⟨L', t', _, _, _, ⟨S.s1, by simpa using S.s2, fun i hi => ?_, S.cl, fun i h1 h2 => ?_, fun q hq => ?_, fun q hq => ?_, fun q hq => ?_, fun q hq => ?_, fun q hq j hj => ?_, fun q hq d hd => ?_, S.dif.filter _, ?_, fun d hd => ?_, ?_, S', ?_, hk2⟩⟩
  · by_cases e : i = p.i
    · subst e; exact on1
    · rw [getD_set_ne false (Ne.symm e)] at hi; exact S.sub i hi
  · have e : i ≠ p.i := fun e => by
      subst e
      have : (Dl.setIfInBounds p.i true).getD p.i false = true := by
        have : p.i < Dl.size := by rw [S.s2]; exact on3
        simp [Array.getD, this]
      rw [this] at h2; cases h2
    rw [getD_set_ne false (Ne.symm e)] at h2
    obtain ⟨q, hq, rfl⟩ := S.pnd i h1 h2
    exact ⟨q, List.mem_filter.2 ⟨hq, by simpa using e⟩, rfl⟩
  · obtain ⟨hq, hne⟩ := List.mem_filter.1 hq
    have hne : q.i ≠ p.i := by simpa using hne
    obtain ⟨c1, c2, c3⟩ := S.on q hq
    exact ⟨c1, by rw [getD_set_ne false (Ne.symm hne)]; exact c2, c3⟩
  · obtain ⟨hq, hne⟩ := List.mem_filter.1 hq
    have hne : q.i ≠ p.i := by simpa using hne
    obtain ⟨oq, g1, g2, g3⟩ := S.run q hq
    refine ⟨oq, g1, g2, fun g => ?_⟩
    rw [← g3 g]
    refine run1_congr (fun d hd => ?_) g
    refine hoff d fun e => ?_
    have hap := pair_ap hc ho g1 (Ne.symm hne) (by
      cases hb : anc ops p.i q.i
      · rfl
      · have := S.ancs p hpm q.i hb
        rw [(S.on q hq).2.1] at this; cases this) (nanc q hq)
    exact (Oper.apart_spec hap).1 d (hdst.trans e) hd
  · obtain ⟨hq, hne⟩ := List.mem_filter.1 hq
    have hne : q.i ≠ p.i := by simpa using hne
    have kq := S.ok q hq
    obtain ⟨ccs, e, g1, g2, g3, g4⟩ := kq.own
    refine ⟨kq.ge, ⟨ccs, e, g1, g2, g3, g4.mono (by simp) hr⟩, fun b hb => ?_, kq.val⟩
    rcases live b hb with ⟨hlt, hl⟩ | rfl
    · rw [if_neg (by omega : ¬ b = h.length)]; exact kq.out b hl
    · show (if _ then _ else _ : Loc).blk ≠ _
      rw [if_pos rfl]
      exact Ne.symm (others q hq hne)
  · exact S.new q (List.mem_filter.1 hq).1
  · have := S.ancs q (List.mem_filter.1 hq).1 j hj
    exact getD_set_true this
  · exact S.at_ q (List.mem_filter.1 hq).1 d hd
  · rw [put_size]; exact S.sz
  · by_cases e : p.dst = some d
    · have hd' := hsz d e
      rw [e, put_at hd']
      exact S.at_ p hpm d e
    · rw [put_off e]
      refine S.same d fun q hq hqd => ?_
      by_cases hi : q.i = p.i
      · obtain ⟨oq, g1, g2, _⟩ := S.run q hq
        rw [hi, ho] at g1
        cases g1
        exact e (hdst.symm.trans (g2.trans hqd))
      · exact hd q (List.mem_filter.2 ⟨hq, by simpa using hi⟩) hqd
  · rw [put_defers']; exact S.dfr
  · have E := S.E
    refine ⟨by have := E.len; simp; omega, fun b hb => (hr b (Nat.lt_of_lt_of_le hb E.len)).trans (E.rho b hb), fun b hb hl => ?_, E.below, E.frm, fun b hb => ?_⟩
    · rw [List.getElem?_append_left (Nat.lt_of_lt_of_le hl E.len)]; exact E.ro b hb hl
    · rcases live b hb with ⟨hlt, hl⟩ | rfl
      · rw [if_neg (by omega : ¬ b = h.length)]; exact E.img b hl
      · left
        show _ ≤ (if _ then _ else _ : Loc).blk
        rw [if_pos rfl]
        exact S.new p hpm
theorem least {p : Pend → Prop} : ∀ (l : List Pend), (∃ x ∈ l, p x) → ∃ x ∈ l, p x ∧ ∀ y ∈ l, p y → x.i ≤ y.i := by
  intro l
  induction l with
  | nil => rintro ⟨x, hx, _⟩; simp at hx
  | cons z l ih =>
    rintro ⟨x, hx, hp⟩
    by_cases hl : ∃ x ∈ l, p x
    · obtain ⟨y, hy, h1, h2⟩ := ih hl
      by_cases hz : p z ∧ z.i ≤ y.i
      · refine ⟨z, by simp, hz.1, fun u hu hpu => ?_⟩
        rcases List.mem_cons.1 hu with rfl | hu
        · exact Nat.le_refl _
        · exact Nat.le_trans hz.2 (h2 u hu hpu)
      · refine ⟨y, by simp [hy], h1, fun u hu hpu => ?_⟩
        rcases List.mem_cons.1 hu with rfl | hu
        · have : ¬ u.i ≤ y.i := fun q => hz ⟨hpu, q⟩
          omega
        · exact h2 u hu hpu
    · rcases List.mem_cons.1 hx with rfl | hx
      · exact ⟨x, by simp, hp, fun u hu hpu => by
          rcases List.mem_cons.1 hu with rfl | hu
          · exact Nat.le_refl _
          · exact absurd ⟨u, hu, hpu⟩ hl⟩
      · exact absurd ⟨x, hx, hp⟩ hl
theorem filter_lt {p : Pend} {l : List Pend} (h : p ∈ l) : (l.filter fun q => q.i != p.i).length < l.length := by
  rcases Nat.lt_or_eq_of_le (List.length_filter_le (fun q : Pend => q.i != p.i) l) with h1 | h1
  · exact h1
  · have := List.length_filter_eq_length_iff.1 h1 p h
    simp at this
/-- The frame does what one waits for. -/
theorem PSt.catAnc (hp : PureRec cfg rc) (hc : commOk P cfg ops = true) (hfr : ∀ i j oi oj, ops[i]? = some oi → ops[j]? = some oj → j < i → ((Region.before ops).getD i 0).testBit j = false → LE P cfg oj oi → fr i j = true ∧ fr j i = true)
    {k : Nat} (hk : k < ops.size) : ∀ (n : Nat) (Dl : Array Bool) (L : List Ent) (t : T) (h : Heap) (a0 : Act) (ρ : Ren) (pend : List Pend), pend.length ≤ n →
      PSt P rc cfg fr ops base md β N K r ρ0 h0 w0 listed Dl L t h a a0 w ρ pend → (∀ j, anc ops k j = true → listed.getD j false = true) → listed.getD k false = false →
      ∃ Dl' L' t' h' a0' ρ' pend', PSt P rc cfg fr ops base md β N K r ρ0 h0 w0 listed Dl' L' t' h' a a0' w ρ' pend' ∧ ∀ j, anc ops k j = true → Dl'.getD j false = true := by
  intro n
  induction n with
  | zero =>
    intro Dl L t h a0 ρ pend hn S ha hkl
    have : pend = [] := List.length_eq_zero_iff.1 (by omega)
    subst this
    refine ⟨Dl, L, t, h, a0, ρ, [], S, fun j hj => ?_⟩
    cases hd : Dl.getD j false
    · obtain ⟨p, hpm, _⟩ := S.pnd j (ha j hj) hd
      simp at hpm
    · rfl
  | succ n ih =>
    intro Dl L t h a0 ρ pend hn S ha hkl
    by_cases hex : ∃ p ∈ pend, anc ops k p.i = true
    · obtain ⟨p, hpm, hpa, hmin⟩ := least (p := fun p => anc ops k p.i = true) pend hex
      obtain ⟨o, ho, _, _⟩ := S.run p hpm
      have hplt := anc_lt hc hk hpa
      obtain ⟨L', t', h', a0', ρ', S'⟩ := S.cat hp hc hfr hpm (fun j hj hlt => by
        obtain ⟨hjs, hjd⟩ := S.open_.1 hj
        have hoj := Array.getElem?_eq_getElem hjs
        refine ⟨_, o, hoj, ho, ?_⟩
        rcases (commOk_spec hc ho).2 j _ hoj hlt with q | q | q
        · have := S.ancs p hpm j q
          rw [hjd] at this; cases this
        · exact q
        · exfalso
          have hkj : anc ops k j = true := q.2.2 k hk hplt hpa
          obtain ⟨u, hu, hui⟩ := S.pnd j (ha j hkj) hjd
          have := hmin u hu (by rw [hui]; exact hkj)
          omega)
      exact ih _ L' t' h' a0' ρ' _ (by have := filter_lt hpm; omega) S' ha hkl
    · refine ⟨Dl, L, t, h, a0, ρ, pend, S, fun j hj => ?_⟩
      cases hd : Dl.getD j false
      · obtain ⟨p, hpm, hpi⟩ := S.pnd j (ha j hj) hd
        exact absurd ⟨p, hpm, by rw [hpi]; exact hj⟩ hex
      · rfl
/-- The frame does all that the model has done. -/
theorem PSt.catAll (hp : PureRec cfg rc) (hc : commOk P cfg ops = true) (hfr : ∀ i j oi oj, ops[i]? = some oi → ops[j]? = some oj → j < i → ((Region.before ops).getD i 0).testBit j = false → LE P cfg oj oi → fr i j = true ∧ fr j i = true) :
    ∀ (n : Nat) (Dl : Array Bool) (L : List Ent) (t : T) (h : Heap) (a0 : Act) (ρ : Ren) (pend : List Pend), pend.length ≤ n →
      PSt P rc cfg fr ops base md β N K r ρ0 h0 w0 listed Dl L t h a a0 w ρ pend → (∀ j, j < ops.size → listed.getD j false = true) →
      ∃ t' h' ρ', K t' h' = some r ∧ SR base md ρ' β N t' h' a w ∧ Ext base md ρ0 h0 w0 ρ' h' w := by
  have fin : ∀ (Dl : Array Bool) (L : List Ent) (t : T) (h : Heap) (a0 : Act) (ρ : Ren) (pend : List Pend), unl ops Dl = [] →
      PSt P rc cfg fr ops base md β N K r ρ0 h0 w0 listed Dl L t h a a0 w ρ pend → ∃ t' h' ρ', K t' h' = some r ∧ SR base md ρ' β N t' h' a w ∧ Ext base md ρ0 h0 w0 ρ' h' w := by
    intro Dl L t h a0 ρ pend hu S
    have hk := S.hk
    rw [hu] at hk
    have none : pend = [] := by
      cases hpd : pend with
      | nil => rfl
      | cons p l =>
        obtain ⟨_, q2, q3⟩ := S.on p (by rw [hpd]; simp)
        have := S.open_.2 ⟨q3, q2⟩
        rw [hu] at this; simp at this
    subst none
    refine ⟨t, h, ρ, hk, ⟨S.S.heap, fun i => ?_, by rw [S.sz]; exact S.S.size, by rw [S.dfr]; exact S.S.defers⟩, S.E⟩
    have := S.same i (fun p hp => by simp at hp)
    rw [Array.getD_eq_getD_getElem?, this, ← Array.getD_eq_getD_getElem?]
    exact S.S.tmps i
  intro n
  induction n with
  | zero =>
    intro Dl L t h a0 ρ pend hn S hl
    have : pend = [] := List.length_eq_zero_iff.1 (by omega)
    subst this
    refine fin Dl L t h a0 ρ [] ?_ S
    cases hu : unl ops Dl with
    | nil => rfl
    | cons i l =>
      exfalso
      obtain ⟨q1, q2⟩ := S.open_.1 (by rw [hu]; simp : i ∈ unl ops Dl)
      obtain ⟨p, hp, _⟩ := S.pnd i (hl i q1) q2
      simp at hp
  | succ n ih =>
    intro Dl L t h a0 ρ pend hn S hl
    cases hu : unl ops Dl with
    | nil => exact fin Dl L t h a0 ρ pend hu S
    | cons i l =>
      obtain ⟨q1, q2⟩ := S.open_.1 (by rw [hu]; simp : i ∈ unl ops Dl)
      obtain ⟨p, hpm, hpi⟩ := S.pnd i (hl i q1) q2
      have hsort := unl_sorted (ops := ops) Dl
      rw [hu, List.pairwise_cons] at hsort
      obtain ⟨L', t', h', a0', ρ', S'⟩ := S.cat hp hc hfr hpm (fun j hj hlt => by
        exfalso
        rw [hu] at hj
        rcases List.mem_cons.1 hj with e | e
        · omega
        · have := hsort.1 j e; omega)
      exact ih _ L' t' h' a0' ρ' _ (by have := filter_lt hpm; omega) S' hl
end
theorem any_wp (hrc : SoundRec P rc) (hp : PureRec cfg rc) {K : T → Heap → Option α} {Q : Exit → Act → World → Prop} (hx : ∀ o ∈ ops, o.op.operands.toList.all okOperand = true)
    (hc : commOk P cfg ops = true) {fr : Nat → Nat → Bool} (hfr : ∀ i j oi oj, ops[i]? = some oi → ops[j]? = some oj → j < i → ((Region.before ops).getD i 0).testBit j = false → LE P cfg oj oi → fr i j = true ∧ fr j i = true)
    {ρ0 : Ren} {h0 : Heap} {w0 : World} (hQ : ∀ t' h' a' w' ρ', K t' h' = some r → SR base md ρ' β N t' h' a' w' → Ext base md ρ0 h0 w0 ρ' h' w' → Q .normal a' w') : ∀ (fuel : Nat) (listed Dl : Array Bool) (L : List Ent) (t : T) (h : Heap) (a a0 : Act) (w : World) (ρ : Ren) (pend : List Pend),
      (unl ops listed).length ≤ fuel → PSt P rc cfg fr ops base md β N K r ρ0 h0 w0 listed Dl L t h a a0 w ρ pend → wpAny P .any ops Q fuel listed a w := by
  intro fuel
  have rdy : ∀ {listed : Array Bool} {i : Nat}, i ∈ Region.ready .any ops listed → i ∈ unl ops listed := fun {listed i} hi => by
    obtain ⟨h1, o, h2, _⟩ := mem_ready.1 hi
    exact unl_mem.2 ⟨(Array.getElem?_eq_some_iff.1 h2).1, h1⟩
  have idle : ∀ {listed : Array Bool}, listed.size = ops.size → Region.ready .any ops listed = [] → unl ops listed = [] := fun {listed} hs hr => by
    cases hu : unl ops listed with
    | nil => rfl
    | cons x l =>
      exfalso
      have hx : x ∈ unl ops listed := by rw [hu]; simp
      obtain ⟨hlt, hun⟩ := unl_mem.1 hx
      have hox := Array.getElem?_eq_getElem hlt
      have : x ∈ Region.ready .any ops listed := mem_ready.2 ⟨hun, _, hox, fun e he hb => by
        have hlt' := (commOk_spec hc hox).1 e he hb
        have hnot : e.on ∉ unl ops listed := fun hm => by
          rw [hu] at hm
          have hs := unl_sorted (ops := ops) listed
          rw [hu, List.pairwise_cons] at hs
          rcases List.mem_cons.1 hm with h1 | h1
          · omega
          · have := hs.1 _ h1; omega
        have hsz : e.on < listed.size := by omega
        cases hg : listed[e.on] with
        | true => simp [Array.getD, hsz, hg]
        | false => exact absurd (unl_mem.2 ⟨by omega, by simp [Array.getD, hsz, hg]⟩) hnot⟩
      rw [hr] at this; cases this
  have done : ∀ {listed Dl : Array Bool} {L : List Ent} {t : T} {h : Heap} {a a0 : Act} {w : World} {ρ : Ren} {pend : List Pend}, unl ops listed = [] → PSt P rc cfg fr ops base md β N K r ρ0 h0 w0 listed Dl L t h a a0 w ρ pend → Q .normal a w := by
    intro listed Dl L t h a a0 w ρ pend hu S
    obtain ⟨t', h', ρ', q1, q2, q3⟩ := PSt.catAll hp hc hfr pend.length Dl L t h a0 ρ pend (Nat.le_refl _) S (fun j hj => by
      cases hl : listed.getD j false
      · have : j ∈ unl ops listed := unl_mem.2 ⟨hj, by rw [getD_tf (by rw [S.s1]; exact hj)]; exact hl⟩
        rw [hu] at this; simp at this
      · rfl)
    exact hQ t' h' a w ρ' q1 q2 q3
  induction fuel with
  | zero =>
    intro listed Dl L t h a a0 w ρ pend hf S
    have hu : unl ops listed = [] := List.length_eq_zero_iff.1 (by omega)
    refine ⟨?_, done hu S⟩
    cases hr : Region.ready .any ops listed with
    | nil => rfl
    | cons x l => have := rdy (listed := listed) (i := x) (by rw [hr]; simp); rw [hu] at this; cases this
  | succ fuel ih =>
    intro listed Dl L t h a a0 w ρ pend hf S
    refine ⟨fun hr => done (idle S.s1 hr) S, fun i hi => ?_⟩
    have hiu := rdy hi
    obtain ⟨hun, o, ho, hdeps⟩ := mem_ready.1 hi
    have hisz : i < ops.size := (Array.getElem?_eq_some_iff.1 ho).1
    have hil : listed.getD i false = false := by rw [← getD_tf (by rw [S.s1]; exact hisz)]; exact (unl_mem.1 hiu).2
    have hanc : ∀ j, anc ops i j = true → listed.getD j false = true := fun j hj => anc_in hc hisz (S := fun k => listed.getD k false = true) S.cl ho hdeps hj
    obtain ⟨Dl, L, t, h, a0, ρ, pend, S, hancD⟩ := PSt.catAnc hp hc hfr hisz pend.length Dl L t h a0 ρ pend (Nat.le_refl _) S hanc hil
    have hid : Dl.getD i false = false := by
      cases hd : Dl.getD i false
      · rfl
      · rw [S.sub i hd] at hil; cases hil
    have himem : i ∈ unl ops Dl := S.open_.2 ⟨hisz, hid⟩
    obtain ⟨pre, post, hu⟩ := List.append_of_mem himem
    have hsort := unl_sorted (ops := ops) Dl
    rw [hu, List.pairwise_append] at hsort
    have hlt : ∀ j ∈ pre, j < i := fun j hj => hsort.2.2 j hj i (by simp)
    have hin : ∀ j ∈ pre, j ∈ unl ops Dl := fun j hj => by rw [hu]; simp [hj]
    have nanc : ∀ j, j ∈ unl ops Dl → anc ops i j = false := fun j hj => by
      cases hb : anc ops i j
      · rfl
      · have := hancD j hb
        rw [(S.open_.1 hj).2] at this; cases this
    have panc : ∀ p ∈ pend, anc ops p.i i = false := fun p hpm => by
      cases hb : anc ops p.i i
      · rfl
      · have := S.ancs p hpm i hb
        rw [hid] at this; cases this
    have pne : ∀ p ∈ pend, p.i ≠ i := fun p hpm e => by
      have := (S.on p hpm).1
      rw [e, hil] at this; cases this
    -- what is pending is apart from it
    have pap : ∀ p ∈ pend, ∃ op, ops[p.i]? = some op ∧ op.dst = p.dst ∧ Oper.apart ops op o = true := fun p hpm => by
      obtain ⟨op, g1, g2, _⟩ := S.run p hpm
      obtain ⟨_, c2, c3⟩ := S.on p hpm
      exact ⟨op, g1, g2, pair_ap hc g1 ho (pne p hpm) (panc p hpm) (nanc p.i (S.open_.2 ⟨c3, c2⟩))⟩
    have looks : ∀ d ∈ o.looksAt ops, a.tmps[d]? = a0.tmps[d]? := fun d hd => S.same d fun p hpm e => by
      obtain ⟨op, g1, g2, g3⟩ := pap p hpm
      exact (Oper.apart_spec g3).1 d (g2.trans e) hd
    have dstne : ∀ p ∈ pend, ∀ d, p.dst = some d → o.dst ≠ some d := fun p hpm d e => by
      obtain ⟨op, g1, g2, g3⟩ := pap p hpm
      exact (Oper.apart_spec g3).2.1 d (g2.trans e)
    have hwa : Region.wanted o (yielded ops a.tmps) = aWanted ops t o := (wanted_act looks).trans (wanted_eq S.S o)
    have hxo := hx o (Array.mem_of_getElem? ho)
    have listedSet : (listed.setIfInBounds i true).getD i false = true := by
      have : i < listed.size := by rw [S.s1]; exact hisz
      simp [Array.getD, this]
    have clSet : ∀ k q, ops[k]? = some q → (listed.setIfInBounds i true).getD k false = true → ∀ e ∈ q.after, Region.binds .any e = true → (listed.setIfInBounds i true).getD e.on false = true := by
      intro k q hq hlk e he hb
      by_cases hki : k = i
      · subst hki
        rw [ho] at hq; cases hq
        exact getD_set_true (hdeps e he hb)
      · rw [getD_set_ne false (Ne.symm hki)] at hlk
        exact getD_set_true (S.cl k q hq hlk e he hb)
    have fuelSet : (unl ops (listed.setIfInBounds i true)).length ≤ fuel := by
      obtain ⟨pre', post', hu'⟩ := List.append_of_mem hiu
      rw [unl_set S.s1 hu']
      rw [hu'] at hf
      simp at hf ⊢
      omega
    have listedUp : ∀ j, listed.getD j false = true → (listed.setIfInBounds i true).getD j false = true := fun j hj => getD_set_true hj
    by_cases hnorm : ∀ j ∈ pre, ∃ oj, ops[j]? = some oj ∧ okPairD P cfg ops oj o = true
    · -- both do it
      have hk := S.hk
      rw [hu] at hk
      have hk' := aOpsD_front hp ho pre post (PSt.pass hc hfr ho fun j hj => ⟨hlt j hj, nanc j (hin j hj), hnorm j hj⟩) t h L hk
      rw [← unl_set S.s2 hu] at hk'
      have both : ∀ {v cv : Value} {ρ' : Ren} {h' : Heap} {w' : World} {L' : List Ent}, HR base ρ' β md.lim h' w' → VRel ρ' h'.length v cv → Ext base md ρ h w ρ' h' w' →
          Det.put N o.dst t v (fun t' => aOpsD P cfg rc md N ops fr K (unl ops (Dl.setIfInBounds i true)) t' h' L') = some r → wpAny P .any ops Q fuel (listed.setIfInBounds i true) (a.put o.dst cv) w' := by
        intro v cv ρ' h' w' L' H' hv E hput
        obtain ⟨t', hk2, S', hoff, hsz⟩ := S.S.put' (cv := cv) H' hv E.len E.rho hput
        refine ih (listed.setIfInBounds i true) (Dl.setIfInBounds i true) L' t' h' (a.put o.dst cv) (a0.put o.dst cv) w' ρ' pend fuelSet
          ⟨by simpa using S.s1, by simpa using S.s2, fun j hj => ?_, clSet, fun j h1 h2 => ?_, fun p hpm => ?_, fun p hpm => ?_, fun p hpm => (S.ok p hpm).step E, S.new, fun p hpm j hj => getD_set_true (S.ancs p hpm j hj), fun p hpm d hd => ?_, S.dif, by rw [put_size, put_size]; exact S.sz, fun d hd => ?_, by rw [put_defers', put_defers']; exact S.dfr, S', S.E.trans E, hk2⟩
        · by_cases e : j = i
          · subst e; exact listedSet
          · rw [getD_set_ne false (Ne.symm e)] at hj; exact listedUp j (S.sub j hj)
        · have e : j ≠ i := fun e => by
            subst e
            have : (Dl.setIfInBounds j true).getD j false = true := by
              have : j < Dl.size := by rw [S.s2]; exact hisz
              simp [Array.getD, this]
            rw [this] at h2; cases h2
          rw [getD_set_ne false (Ne.symm e)] at h1 h2
          exact S.pnd j h1 h2
        · obtain ⟨c1, c2, c3⟩ := S.on p hpm
          exact ⟨listedUp _ c1, by rw [getD_set_ne false (Ne.symm (pne p hpm))]; exact c2, c3⟩
        · obtain ⟨op, g1, g2, g3⟩ := S.run p hpm
          refine ⟨op, g1, g2, fun g => ?_⟩
          rw [← g3 g]
          refine run1_congr (fun d hd => hoff d fun e => ?_) g
          obtain ⟨op', q1, q2, q3⟩ := pap p hpm
          rw [g1] at q1; cases q1
          exact (Oper.apart_spec q3).2.2 d e hd
        · rw [put_off (dstne p hpm d hd)]; exact S.at_ p hpm d hd
        · by_cases e : o.dst = some d
          · have := hsz d e
            rw [e, put_at this, put_at (by rw [S.sz]; exact this)]
          · rw [put_off e, put_off e]; exact S.same d hd
      unfold wpOp
      simp only [ho]
      rw [hwa]
      rw [aOpsD_cons ho] at hk'
      unfold run1 at hk'
      cases hw : aWanted ops t o
      · simp only [hw, cond_false, Option.bind_some] at hk'
        rw [logK_some] at hk'
        simp only [Bool.false_eq_true, if_false]
        exact both S.S.heap VRel.undef Ext.refl hk'.2
      · simp only [hw, cond_true] at hk'
        rw [← aOp_bind t o h (fun v h' => logK P rc md cfg fr o i t true v h h' L fun L' => Det.put N o.dst t v fun t' => aOpsD P cfg rc md N ops fr K (unl ops (Dl.setIfInBounds i true)) t' h' L')] at hk'
        simp only [if_true]
        refine .inl (wp_act S.sz (exec_act (ops := ops) (not_select hk') looks) ?_)
        refine aOp_wp hrc S.S.heap S.S.tmps hxo hk' fun v cv ρ' h' w' hv H' hr E => ?_
        rw [logK_some] at hv
        exact ⟨cv, rfl, both H' hr E hv.2⟩
    · -- the model does it ahead
      obtain ⟨j, hj, hbad⟩ : ∃ j ∈ pre, ¬ ∃ oj, ops[j]? = some oj ∧ okPairD P cfg ops oj o = true := Classical.byContradiction fun q => hnorm fun j hj => Classical.byContradiction fun z => q ⟨j, hj, z⟩
      have hoj := Array.getElem?_eq_getElem (S.open_.1 (hin j hj)).1
      have hearly : earlyOp o = true := by
        rcases (commOk_spec hc ho).2 j _ hoj (hlt j hj) with q | q | q
        · have := nanc j (hin j hj)
          unfold anc at this
          rw [q] at this; cases this
        · exact absurd ⟨_, hoj, q⟩ hbad
        · exact q.1
      have hk := S.hk
      rw [hu] at hk
      obtain ⟨⟨t1, h1, p1, hr1, hag⟩, hslot⟩ := aOpsD_reach ho pre (fun j hj => by
        have hoj := Array.getElem?_eq_getElem (S.open_.1 (hin j hj)).1
        refine ⟨_, hoj, fun d hd hl => ?_⟩
        have hap := pair_ap hc hoj ho (by have := hlt j hj; omega) (by
          cases hb : anc ops j i
          · rfl
          · have := anc_lt hc (S.open_.1 (hin j hj)).1 hb
            have := hlt j hj
            omega) (nanc j (hin j hj))
        exact (Oper.apart_spec hap).1 d hd hl) t h L hk
      obtain ⟨e, e1, e2⟩ := early_run (P := P) (rc := rc) (md := md) (ops := ops) hearly t
      have hre : e.map (fun p => (p.1 h1.length, h1 ++ [Blk.own p.2])) = some p1 := by
        rw [← e1 h1, ← run1_congr hag h1]; exact hr1
      cases e with
      | none => cases hre
      | some fl =>
        obtain ⟨f, l⟩ := fl
        obtain ⟨hform, hcont⟩ := e2 f l rfl
        have hrun : ∀ g, run1 P rc md ops o t g = some (f g.length, g ++ [.own l]) := fun g => e1 g
        have hw : aWanted ops t o = true := by
          unfold aWanted
          simp only [earlyOp, Bool.and_eq_true] at hearly
          cases hg : o.guard with
          | none => rfl
          | some g => rw [hg] at hearly; simp at hearly
        have hka : aOp P rc md t o h (fun v h' => some (v, h')) = some (f h.length, h ++ [.own l]) := by
          have := hrun h
          unfold run1 at this
          rw [hw] at this
          exact this
        unfold wpOp
        simp only [ho]
        rw [hwa, hw]
        simp only [if_true]
        refine .inl (wp_act S.sz (exec_act (ops := ops) (not_select hka) looks) ?_)
        refine aOp_wp hrc S.S.heap S.S.tmps hxo hka fun v cv ρ' h' w' hv H' hr E => ⟨cv, rfl, ?_⟩
        simp only [Option.some.injEq, Prod.mk.injEq] at hv
        obtain ⟨rfl, rfl⟩ := hv
        have hnew : (h ++ [Blk.own l])[h.length]? = some (.own l) := by simp
        obtain ⟨o1, ccs, ty, o2, o3, o4, o5⟩ := H'.own h.length l hnew
        have hlim : ¬ h.length < md.lim := by have := S.S.heap.lim_le; omega
        have hge : w.heap.size ≤ (ρ' h.length).blk := by
          rcases E.img h.length ⟨_, hnew, rfl⟩ with q | ⟨b0, ⟨k0, hk0, hl0⟩, q⟩
          · exact q
          · exfalso
            have hb0 : b0 < h.length := (List.getElem?_eq_some_iff.1 hk0).1
            have hk0' : (h ++ [Blk.own l])[b0]? = some k0 := by rw [List.getElem?_append_left hb0]; exact hk0
            have hr0 := E.rho b0 hb0
            cases k0 with
            | own cs0 =>
              have := H'.apart b0 h.length cs0 l hk0' hnew (by omega)
              rw [hr0] at this; exact this q
            | mp kd0 es0 =>
              obtain ⟨_, es', cl', g2, _⟩ := H'.mp.mp b0 kd0 es0 hk0'
              rw [hr0, q, o2] at g2; cases g2
            | si s0 p0 =>
              obtain ⟨_, _, g2⟩ := H'.mp.si b0 s0 p0 hk0'
              rw [hr0, q, o2] at g2; cases g2
            | _ => cases hl0
        have Ew : Ext base md ρ h w ρ h w' := ⟨Nat.le_refl _, fun _ _ => rfl, fun _ _ _ => rfl, E.below, E.frm, fun b hb => .inr ⟨b, hb, rfl⟩⟩
        have hrho : ∀ b, b < h.length → ρ b = ρ' b := fun b hb => (E.rho b hb).symm
        have newOk : PendOk base ρ h w' ⟨i, o.dst, f, l, ρ' h.length, cv⟩ := by
          refine ⟨o1, ⟨ccs, ty, o2, o3, o4, fun x u hu => ?_⟩, fun b hb e => ?_, fun n ρ2 hn => ?_⟩
          · obtain ⟨c, g1, g2⟩ := o5 x u hu
            refine ⟨c, g1, ?_⟩
            rcases hcont u (List.mem_of_getElem? hu) with q | ⟨x', hx', q⟩
            · rw [g2.scalar_eq q]; exact .sc _ q
            · have hv := (ev_rel S.S.tmps (List.all_eq_true.1 hxo x' hx')).cells
              obtain ⟨m, hm, em⟩ := List.mem_iff_getElem.1 q
              obtain ⟨c0, _, hc0⟩ := hv.get (i := m) (v := u) (by rw [List.getElem?_eq_getElem hm, em])
              exact (g2.shrink hc0).mono (Nat.le_refl _) hrho
          · obtain ⟨k0, hk0, hl0⟩ := hb
            have hb0 : b < h.length := (List.getElem?_eq_some_iff.1 hk0).1
            have : (ρ b).blk < w.heap.size := by
              cases k0 with
              | own cs0 =>
                obtain ⟨_, _, _, q, _⟩ := S.S.heap.own b cs0 hk0
                exact (Array.getElem?_eq_some_iff.1 q).1
              | mp kd0 es0 =>
                obtain ⟨_, _, _, q, _⟩ := S.S.heap.mp.mp b kd0 es0 hk0
                exact (Array.getElem?_eq_some_iff.1 q).1
              | si s0 p0 =>
                obtain ⟨_, _, q⟩ := S.S.heap.mp.si b s0 p0 hk0
                exact (Array.getElem?_eq_some_iff.1 q).1
              | _ => cases hl0
            simp only at e
            omega
          · simp only at hn ⊢
            rw [show (h ++ [Blk.own l]).length = h.length + 1 by simp] at hr
            rcases hform with rfl | ⟨len, c, rfl⟩
            · cases hr with
              | sc _ q => simp [scalar] at q
              | ptr b o q => rw [← hn]; exact .ptr n 0 (by omega)
            · cases hr with
              | sc _ q => simp [scalar] at q
              | slice b o l' c c' q q1 q2 q3 => rw [← hn] at q3 ⊢; exact .slice n 0 _ _ _ (by omega) q1 q2 q3
              | slice0 b o c a' q => exact .slice0 n 0 c a' (by omega)
        refine ih (listed.setIfInBounds i true) Dl L t h (a.put o.dst cv) a0 w' ρ (⟨i, o.dst, f, l, ρ' h.length, cv⟩ :: pend) fuelSet
          ⟨by simpa using S.s1, S.s2, fun j hj => listedUp j (S.sub j hj), clSet, fun j h1 h2 => ?_, fun p hpm => ?_, fun p hpm => ?_, fun p hpm => ?_, fun p hpm => ?_, fun p hpm j hj => ?_, fun p hpm d hd => ?_, ?_, by rw [put_size]; exact S.sz, fun d hd => ?_, by rw [put_defers']; exact S.dfr,
            ⟨?_, S.S.tmps, S.S.size, S.S.defers⟩, S.E.trans Ew, S.hk⟩
        · by_cases e : j = i
          · exact ⟨_, List.mem_cons_self, e.symm⟩
          · rw [getD_set_ne false (Ne.symm e)] at h1
            obtain ⟨p, hpm, q⟩ := S.pnd j h1 h2
            exact ⟨p, List.mem_cons_of_mem _ hpm, q⟩
        · rcases List.mem_cons.1 hpm with rfl | hpm
          · exact ⟨listedSet, hid, hisz⟩
          · obtain ⟨c1, c2, c3⟩ := S.on p hpm
            exact ⟨listedUp _ c1, c2, c3⟩
        · rcases List.mem_cons.1 hpm with rfl | hpm
          · exact ⟨o, ho, rfl, hrun⟩
          · exact S.run p hpm
        · rcases List.mem_cons.1 hpm with rfl | hpm
          · exact newOk
          · exact (S.ok p hpm).step Ew
        · rcases List.mem_cons.1 hpm with rfl | hpm
          · exact Nat.le_trans S.E.below.size hge
          · exact S.new p hpm
        · rcases List.mem_cons.1 hpm with rfl | hpm
          · exact hancD j hj
          · exact S.ancs p hpm j hj
        · rcases List.mem_cons.1 hpm with rfl | hpm
          · simp only at hd
            have hds : d < a.tmps.size := by
              rw [S.sz, S.S.size]
              exact Nat.lt_of_succ_le (by simpa [Nat.blt] using hslot d hd)
            rw [hd, put_at hds]
          · rw [put_off (dstne p hpm d hd)]; exact S.at_ p hpm d hd
        · refine List.pairwise_cons.2 ⟨fun q hq => ⟨Ne.symm (pne q hq), fun e => ?_⟩, S.dif⟩
          have := (S.ok q hq).lt
          simp only at e
          omega
        · have h1 : o.dst ≠ some d := hd _ List.mem_cons_self
          rw [put_off h1]
          exact S.same d fun p hpm => hd p (List.mem_cons_of_mem _ hpm)
        · exact S.S.heap.forget H' E.rho


/-- One operation, whatever comes then. -/
theorem stepG_wp (hrc : SoundRec P rc) {Q : Exit → Act → World → Prop} {C : Act → World → Prop} {i : Nat} {G : T → Heap → Option α} {o : Oper} (ho : ops[i]? = some o)
    (hx : o.op.operands.toList.all okOperand = true) (S : SR base md ρ β N t h a w) (hk : ((run1 P rc md ops o t h).bind fun p => Det.put N o.dst t p.1 fun t' => G t' p.2) = some r)
    (hC : ∀ t' h' a' w' ρ', G t' h' = some r → SR base md ρ' β N t' h' a' w' → Ext base md ρ h w ρ' h' w' → C a' w') : wpOp P ops Q i C a w := by
  unfold wpOp
  simp only [ho]
  rw [wanted_eq S o]
  unfold run1 at hk
  cases hw : aWanted ops t o
  · simp only [hw, cond_false, Option.bind_some] at hk
    obtain ⟨t', h1, h2⟩ := S.put S.heap VRel.undef Ext.refl hk
    simp only [Bool.false_eq_true, if_false]
    exact hC t' h _ w ρ h1 h2 Ext.refl
  · simp only [hw, cond_true] at hk
    rw [← aOp_bind t o h (fun v h' => Det.put N o.dst t v fun t' => G t' h')] at hk
    simp only [if_true]
    refine .inl (aOp_wp hrc S.heap S.tmps hx hk fun v cv ρ' h' w' hv H' hr E => ?_)
    obtain ⟨t', h1, h2⟩ := S.put H' hr E hv
    exact hC t' h' _ w' ρ' h1 h2 E

theorem agree_some {l : List (Option α)} (h : agree l = some r) : ∀ y ∈ l, y = some r := by
  cases l with
  | nil => cases h
  | cons x l =>
    simp only [agree] at h
    split at h
    · rename_i hy
      intro y hm
      rcases List.mem_cons.1 hm with rfl | hm
      · exact h
      · rw [hy y hm, h]
    · cases h
theorem agree_of {l : List (Option α)} (hl : l ≠ []) (h : ∀ y ∈ l, y = some r) : agree l = some r := by
  cases l with
  | nil => exact absurd rfl hl
  | cons x l =>
    have hx := h x (by simp)
    simp only [agree]
    rw [if_pos fun y hy => (h y (by simp [hy])).trans hx.symm]
    exact hx

theorem aOpsAny_succ {K : T → Heap → Option α} {fuel : Nat} {listed : Array Bool} (hr : Region.ready .any ops listed ≠ []) : aOpsAny P rc md N ops K (fuel + 1) listed t h =
    agree ((Region.ready .any ops listed).map fun i => match ops[i]? with
      | none => none
      | some o => (run1 P rc md ops o t h).bind fun p => Det.put N o.dst t p.1 fun t' => aOpsAny P rc md N ops K fuel (listed.setIfInBounds i true) t' p.2) := by
  simp only [aOpsAny]
  rfl

theorem all_wp (hrc : SoundRec P rc) {K : T → Heap → Option α} {Q : Exit → Act → World → Prop} (hx : ∀ o ∈ ops, o.op.operands.toList.all okOperand = true) :
    ∀ (fuel : Nat) (listed : Array Bool) (t : T) (h : Heap) (a : Act) (w : World) (ρ : Ren), SR base md ρ β N t h a w → aOpsAny P rc md N ops K fuel listed t h = some r →
      (∀ t' h' a' w' ρ', K t' h' = some r → SR base md ρ' β N t' h' a' w' → Ext base md ρ h w ρ' h' w' → Q .normal a' w') → wpAny P .any ops Q fuel listed a w := by
  intro fuel
  induction fuel with
  | zero =>
    intro listed t h a w ρ S hk hQ
    simp only [aOpsAny] at hk
    cases hr : (Region.ready .any ops listed).isEmpty
    · rw [hr] at hk; cases hk
    · rw [hr] at hk
      exact ⟨List.isEmpty_iff.1 hr, hQ t h a w ρ hk S Ext.refl⟩
  | succ fuel ih =>
    intro listed t h a w ρ S hk hQ
    by_cases hr : Region.ready .any ops listed = []
    · refine ⟨fun _ => ?_, fun i hi => by rw [hr] at hi; cases hi⟩
      simp only [aOpsAny, hr] at hk
      exact hQ t h a w ρ hk S Ext.refl
    · refine ⟨fun e => absurd e hr, fun i hi => ?_⟩
      rw [aOpsAny_succ hr] at hk
      have h1 := agree_some hk _ (List.mem_map_of_mem hi)
      obtain ⟨_, o, ho, _⟩ := mem_ready.1 hi
      simp only [ho] at h1
      refine stepG_wp hrc (G := fun t' h' => aOpsAny P rc md N ops K fuel (listed.setIfInBounds i true) t' h') ho (hx o (Array.mem_of_getElem? ho)) S h1 fun t' h' a' w' ρ' h2 S' E => ?_
      exact ih _ t' h' a' w' ρ' S' h2 fun t2 h2 a2 w2 ρ2 h3 h4 h5 => hQ t2 h2 a2 w2 ρ2 h3 h4 (E.trans h5)

end Go.Det
