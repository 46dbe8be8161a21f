/- Drawn regions with a load beside an effect: neighbours change places. -/
import Derived.Test.YtbliaopehpcpbaaDoorDetK
set_option autoImplicit false
set_option linter.unusedVariables false
set_option linter.unusedSimpArgs false
set_option linter.unusedSectionVars false
namespace Go.Det
variable {P : Program} {rc : Rec} {md : Md} {α : Type} {N : Nat} {ops : Array Oper} {cfg : Cfg} {fr : Nat → Nat → Bool}

theorem aOpsD_cons {K : T → Heap → Option α} {i : Nat} {rest : List Nat} {t : T} {h : Heap} {L : List Ent} {o : Oper} (ho : ops[i]? = some o) :
    aOpsD P cfg rc md N ops fr K (i :: rest) t h L = (run1 P rc md ops o t h).bind fun p => logK P rc md cfg fr o i t (aWanted ops t o) p.1 h p.2 L fun L' => put N o.dst t p.1 fun t' => aOpsD P cfg rc md N ops fr K rest t' p.2 L' := by
  simp only [aOpsD, ho, run1]
  cases hg : o.guard with
  | none =>
    have : aWanted ops t o = true := by simp [aWanted, hg]
    rw [this]
    simp only [cond_true]
    exact aOp_bind t o h _
  | some g => rfl

/-- What the log asks of a new entry. -/
def Okay (P : Program) (rc : Rec) (md : Md) (fr : Nat → Nat → Bool) (x : Ent) (L : List Ent) : Prop := ∀ y ∈ L, fr x.idx y.idx = true → compat P rc md y x
theorem chk_some {x : Ent} {k : Option α} {r : α} : ∀ {L : List Ent}, chk P rc md fr x L k = some r ↔ Okay P rc md fr x L ∧ k = some r := by
  intro L
  induction L with
  | nil => simp [chk, Okay]
  | cons y L ih =>
    simp only [chk]
    cases hf : fr x.idx y.idx
    · simp only [cond_false, ih, Okay, List.mem_cons]
      constructor
      · rintro ⟨h1, h2⟩
        refine ⟨?_, h2⟩
        rintro z (rfl | hz) hz'
        · rw [hf] at hz'; cases hz'
        · exact h1 z hz hz'
      · rintro ⟨h1, h2⟩
        exact ⟨fun z hz => h1 z (.inr hz), h2⟩
    · simp only [cond_true]
      by_cases hc : compat P rc md y x
      · rw [if_pos hc, ih]
        simp only [Okay, List.mem_cons]
        constructor
        · rintro ⟨h1, h2⟩
          refine ⟨?_, h2⟩
          rintro z (rfl | hz) hz'
          · exact hc
          · exact h1 z hz hz'
        · rintro ⟨h1, h2⟩
          exact ⟨fun z hz => h1 z (.inr hz), h2⟩
      · rw [if_neg hc]
        constructor
        · intro h; cases h
        · rintro ⟨h1, _⟩
          exact absurd (h1 y List.mem_cons_self hf) hc

def ext (x : Option Ent) (L : List Ent) : List Ent := match x with | none => L | some x => x :: L
def OkayO (P : Program) (rc : Rec) (md : Md) (fr : Nat → Nat → Bool) (x : Option Ent) (L : List Ent) : Prop := ∀ e, x = some e → Okay P rc md fr e L
theorem logK_some {o : Oper} {i : Nat} {t : T} {w : Bool} {v : Value} {h h' : Heap} {L : List Ent} {k : List Ent → Option α} {r : α} :
    logK P rc md cfg fr o i t w v h h' L k = some r ↔ OkayO P rc md fr (entOf P cfg o i t w v h h') L ∧ k (ext (entOf P cfg o i t w v h h') L) = some r := by
  unfold logK OkayO ext
  cases entOf P cfg o i t w v h h' with
  | none => simp
  | some x => simp [chk_some]

def Same (L L' : List Ent) : Prop := ∀ x, x ∈ L ↔ x ∈ L'
theorem Same.ext {L L' : List Ent} (s : Same L L') (x : Option Ent) : Same (ext x L) (ext x L') := by
  intro y
  cases x with
  | none => exact s y
  | some x => simp only [Det.ext, List.mem_cons, s y]
theorem Same.okay {L L' : List Ent} (s : Same L L') {x : Option Ent} (h : OkayO P rc md fr x L) : OkayO P rc md fr x L' := fun e he y hy => h e he y ((s y).2 hy)

theorem aOpsD_same {K : T → Heap → Option α} {r : α} : ∀ (l : List Nat) (t : T) (h : Heap) (L L' : List Ent), Same L L' → aOpsD P cfg rc md N ops fr K l t h L = some r → aOpsD P cfg rc md N ops fr K l t h L' = some r := by
  intro l
  induction l with
  | nil => intro t h L L' _ hr; exact hr
  | cons i rest ih =>
    intro t h L L' s hr
    cases ho : ops[i]? with
    | none => simp [aOpsD, ho] at hr
    | some o =>
      rw [aOpsD_cons ho] at hr ⊢
      cases h1 : run1 P rc md ops o t h with
      | none => simp [h1] at hr
      | some p =>
        simp only [h1, Option.bind_some] at hr ⊢
        rw [logK_some] at hr ⊢
        refine ⟨s.okay hr.1, ?_⟩
        have hr2 := hr.2
        unfold put at hr2 ⊢
        cases hd : o.dst with
        | none => rw [hd] at hr2; exact ih _ _ _ _ (s.ext _) hr2
        | some d =>
          rw [hd] at hr2
          simp only [] at hr2 ⊢
          cases hb : Nat.blt d N
          · simp [hb] at hr2
          · simp only [hb, cond_true] at hr2 ⊢
            exact ih _ _ _ _ (s.ext _) hr2

theorem compat_symm {x y : Ent} (h : compat P rc md x y) : compat P rc md y x := by
  cases x <;> cases y <;> exact h

/-- Without pairs the log asks nothing. -/
theorem aOpsD_off {K : T → Heap → Option α} : ∀ (l : List Nat) (t : T) (h : Heap) (L : List Ent), aOpsD P cfg rc md N ops (fun _ _ => false) K l t h L = aOps P rc md N ops K l t h := by
  have hc : ∀ (x : Ent) (L : List Ent) {β : Type} (k : Option β), chk P rc md (fun _ _ => false) x L k = k := by
    intro x L β k
    induction L with
    | nil => rfl
    | cons y L ih => simp only [chk, cond_false, ih]
  intro l
  induction l with
  | nil => intro t h L; rfl
  | cons i rest ih =>
    intro t h L
    cases ho : ops[i]? with
    | none => simp [aOpsD, aOps, ho]
    | some o =>
      rw [aOpsD_cons ho, aOps_cons ho]
      congr 1
      funext p
      unfold logK
      cases entOf P cfg o i t (aWanted ops t o) p.1 h p.2 with
      | none => simp only [ih]
      | some x => simp only [hc, ih]

theorem entOf_congr {t t' : T} {o : Oper} (hg : ∀ d, d ∈ o.looksAt ops → t d = t' d) (i : Nat) (v : Value) (h h' : Heap) : entOf P cfg o i t (aWanted ops t o) v h h' = entOf P cfg o i t' (aWanted ops t' o) v h h' := by
  rw [aWanted_congr hg]
  obtain ⟨dst, op, type, pos, after, guard⟩ := o
  have key : ∀ x, x ∈ op.operands.toList → ev t x = ev t' x := fun x hx => by
    cases x with
    | tmp d => exact hg d (List.mem_append_left _ (List.mem_filterMap.2 ⟨.tmp d, hx, rfl⟩))
    | _ => rfl
  unfold entOf
  cases op <;> try rfl
  case load ty x =>
    have : ev t x = ev t' x := key x (by simp [Op.operands])
    simp only [this]
  case lookup ty x y ok =>
    have e1 : ev t x = ev t' x := key x (by simp [Op.operands])
    have e2 : ev t y = ev t' y := key y (by simp [Op.operands])
    simp only [e1, e2]
  case call c =>
    obtain ⟨callee, args, argTypes⟩ := c
    cases callee <;> try rfl
    rename_i f
    cases f <;> try rfl
    have : args.toList.map (ev t) = args.toList.map (ev t') := List.map_congr_left fun x hx => key x (by simp [Op.operands, Call.operands]; right; simpa using hx)
    simp only [this]

theorem entOf_still {o : Oper} (hs : stillOp P cfg o.op = true) (i : Nat) (t : T) (w : Bool) (v : Value) (h h' : Heap) : entOf P cfg o i t w v h h' = none := by
  obtain ⟨dst, op, type, pos, after, guard⟩ := o
  have he : isEff P cfg op = false := by unfold isEff; simp only at hs; simp [hs]
  unfold entOf
  cases op <;> first | (simp [stillOp] at hs; done) | (simp only [he]; rfl) | skip
  rename_i c
  obtain ⟨callee, args, argTypes⟩ := c
  cases callee <;> first | (simp only [he]; rfl) | skip
  rename_i f
  cases f <;> first | (simp only [he]; rfl) | skip
  rename_i g
  simp only [stillOp] at hs
  simp only [hs]; rfl
theorem entOf_eff {o : Oper} (hs : isEff P cfg o.op = true) (i : Nat) (t : T) (w : Bool) (v : Value) (h h' : Heap) : entOf P cfg o i t w v h h' = some (.ef i h h') := by
  obtain ⟨dst, op, type, pos, after, guard⟩ := o
  unfold entOf
  cases op <;> first | (simp [isEff, readOp] at hs; done) | (simp only [hs]; rfl) | skip
  rename_i c
  obtain ⟨callee, args, argTypes⟩ := c
  cases callee <;> first | (simp only [hs]; rfl) | skip
  rename_i f
  cases f <;> first | (simp only [hs]; rfl) | skip
  rename_i g
  simp only [isEff, stillOp, readOp, Bool.and_eq_true, Bool.not_eq_true'] at hs
  simp only [hs.1, hs.2, cond_false]
/-- What an operation is that reads. -/
theorem rd_cases {o : Oper} (hl : isLoad P cfg o.op = true) : (∃ ty x, o.op = .load ty x) ∨ (∃ ty x y ok, o.op = .lookup ty x y ok) ∨ ∃ g args tys, o.op = .call { callee := .value (.func g), args := args, argTypes := tys } ∧ 2 ≤ cfg g ∧ Nat.beq (cfg g) 3 = false := by
  obtain ⟨dst, op, type, pos, after, guard⟩ := o
  simp only [isLoad] at hl
  cases op <;> first | exact .inl ⟨_, _, rfl⟩ | exact .inr (.inl ⟨_, _, _, _, rfl⟩) | (simp [readOp] at hl; done) | skip
  rename_i c
  obtain ⟨callee, args, argTypes⟩ := c
  cases callee <;> first | (simp [readOp] at hl; done) | skip
  rename_i f
  cases f <;> first | (simp [readOp] at hl; done) | skip
  rename_i g
  simp only [readOp, stillOp, Bool.and_eq_true, Bool.not_eq_true'] at hl
  exact .inr (.inr ⟨g, args, argTypes, rfl, Nat.le_of_ble_eq_true hl.1, hl.2⟩)
/-- A reader's entry is no effect. -/
theorem entOf_read {o : Oper} (hs : readOp cfg o.op = true) (i : Nat) (t : T) (w : Bool) (v : Value) (h h' g g' : Heap) : entOf P cfg o i t w v h h' = entOf P cfg o i t w v g g' ∧ ∀ x, entOf P cfg o i t w v h h' = some x → ∃ l w q v, x = .ld l w q v := by
  cases hst : stillOp P cfg o.op
  · rcases rd_cases (P := P) (o := o) (cfg := cfg) (by simp [isLoad, hs, hst]) with ⟨ty, x, e⟩ | ⟨ty, x, y, ok, e⟩ | ⟨g, args, tys, e, h2, h3⟩
    · unfold entOf
      rw [e]
      exact ⟨rfl, fun x hx => by cases hx; exact ⟨_, _, _, _, rfl⟩⟩
    · unfold entOf
      rw [e]
      exact ⟨rfl, fun x hx => by cases hx; exact ⟨_, _, _, _, rfl⟩⟩
    · unfold entOf
      rw [e]
      simp only [h3, Nat.ble_eq_true_of_le h2, cond_false, cond_true]
      exact ⟨trivial, fun x hx => by cases hx; exact ⟨_, _, _, _, rfl⟩⟩
  · rw [entOf_still hst, entOf_still hst]
    exact ⟨rfl, fun x hx => by cases hx⟩

/-- An operation that reads: its entry, and that it answers the same wherever what it reads is the same. -/
theorem rd_run (hp : PureRec cfg rc) {o : Oper} (hl : isLoad P cfg o.op = true) {t : T} {h h' : Heap} {v : Value} (hr : run1 P rc md ops o t h = some (v, h')) :
    h' = h ∧ ∃ q, (∀ i w v g g', entOf P cfg o i t w v g g' = some (.ld i w q v)) ∧ ∀ g, (aWanted ops t o = true → rdV P rc md q h = some v ∧ rdV P rc md q g = some v) → run1 P rc md ops o t g = some (v, g) := by
  have hs : readOp cfg o.op = true := by simp only [isLoad, Bool.and_eq_true] at hl; exact hl.1
  obtain ⟨ov, hov⟩ := read_run (P := P) (md := md) (ops := ops) hp hs t h
  rw [hov] at hr
  cases ov with
  | none => cases hr
  | some u =>
    cases hr
    refine ⟨rfl, ?_⟩
    have fin : ∀ (q : Rd), castOf o.op = true → (∀ g (k : Value → Heap → Option (Value × Heap)), rdV P rc md q g = some v → aOp0 P rc md t o g k = k v g) →
        ∀ g, (aWanted ops t o = true → rdV P rc md q h = some v ∧ rdV P rc md q g = some v) → run1 P rc md ops o t g = some (v, g) := by
      intro q hc ha g hg
      unfold run1 at hov ⊢
      cases hw : aWanted ops t o
      · rw [hw] at hov
        simp only [cond_false, Option.map_some] at hov ⊢
        cases hov; rfl
      · rw [hw] at hov
        obtain ⟨g1, g2⟩ := hg hw
        simp only [cond_true, Option.map_some] at hov ⊢
        unfold aOp at hov ⊢
        rw [ha h _ g1] at hov
        rw [ha g _ g2]
        simp only [hc, cond_true] at hov ⊢
        have e1 := castV_bind (P := P) o.type v some (fun v => some (v, h))
        have e2 := castV_bind (P := P) o.type v some (fun v => some (v, g))
        simp only [Option.bind_some] at e1 e2
        rw [e1] at hov
        rw [e2]
        cases hcv : castV P o.type v some with
        | none => rw [hcv] at hov; cases hov
        | some u => rw [hcv] at hov; simp at hov; subst hov; rfl
    rcases rd_cases hl with ⟨ty, x, e⟩ | ⟨ty, x, y, ok, e⟩ | ⟨f, args, tys, e, h2, h3⟩
    · refine ⟨.ld ty (ev t x), fun i w v g g' => by unfold entOf; rw [e], fin _ (by rw [e]; rfl) fun g k hq => ?_⟩
      unfold aOp0
      rw [e]
      simp only [rdV] at hq
      simp only []
      rw [aLoad_bind, hq]; rfl
    · refine ⟨.lk ty (ev t x) (ev t y) ok, fun i w v g g' => by unfold entOf; rw [e], fin _ (by rw [e]; rfl) fun g k hq => ?_⟩
      unfold aOp0
      rw [e]
      simp only [rdV] at hq
      simp only []
      rw [aLookup_bind, hq]; rfl
    · refine ⟨.cl f (#[].toList ++ args.toList.map (ev t) ++ #[].toList), fun i w v g g' => by unfold entOf; rw [e]; simp only [h3, Nat.ble_eq_true_of_le h2, cond_false, cond_true], fin _ (by rw [e]; rfl) fun g k hq => ?_⟩
      unfold aOp0
      rw [e]
      simp only [rdV] at hq
      simp only [aCall, ev]
      cases hr : rc md f (#[].toList ++ args.toList.map (ev t) ++ #[].toList) g with
      | none => rw [hr] at hq; cases hq
      | some p =>
        obtain ⟨v', g'⟩ := p
        rw [hr] at hq
        have := hp.pure md f _ g v' g' h2 hr
        subst this
        simp only at hq ⊢
        cases hq; rfl

theorem entOf_congr_log {t t' : T} {o : Oper} (hg : ∀ d, d ∈ o.looksAt ops → t d = t' d) {i : Nat} {v : Value} {h h' : Heap} {L : List Ent} {k : List Ent → Option α} :
    logK P rc md cfg fr o i t (aWanted ops t o) v h h' L k = logK P rc md cfg fr o i t' (aWanted ops t' o) v h h' L k := by
  unfold logK
  rw [entOf_congr hg]

def LE (P : Program) (cfg : Cfg) (x y : Oper) : Prop := (isLoad P cfg x.op = true ∧ isEff P cfg y.op = true) ∨ (isEff P cfg x.op = true ∧ isLoad P cfg y.op = true)

theorem aOpsD_swap (hp : PureRec cfg rc) {K : T → Heap → Option α} {i j : Nat} {oi oj : Oper} (hi : ops[i]? = some oi) (hj : ops[j]? = some oj) (hap : Oper.apart ops oj oi = true)
    (hok : okPair P cfg ops oj oi = true ∨ (LE P cfg oj oi ∧ fr i j = true ∧ fr j i = true))
    {rest : List Nat} {t : T} {h : Heap} {L : List Ent} {r : α} (hr : aOpsD P cfg rc md N ops fr K (j :: i :: rest) t h L = some r) : aOpsD P cfg rc md N ops fr K (i :: j :: rest) t h L = some r := by
  obtain ⟨a1, a2, a3⟩ := Oper.apart_spec hap
  rw [aOpsD_cons hj] at hr
  rw [aOpsD_cons hi]
  have agree : ∀ {o : Oper} {d : Option Tmp} (t : T) (v : Value), (∀ x, d = some x → x ∉ o.looksAt ops) → ∀ t', put (α := T) N d t v some = some t' → ∀ x, x ∈ o.looksAt ops → t' x = t x := by
    intro o d t v hd t' ht x hx
    unfold put at ht
    cases d with
    | none => cases ht; rfl
    | some y =>
      simp only at ht
      cases hb : Nat.blt y N <;> simp [hb] at ht
      subst ht
      have : x ≠ y := fun e => hd y rfl (e ▸ hx)
      exact upd_ne t v this
  have putb : ∀ {β : Type} (d : Option Tmp) (t : T) (v : Value) (k : T → Option β), put N d t v k = (put (α := T) N d t v some).bind k := by
    intro β d t v k
    unfold put
    cases d with
    | none => rfl
    | some y => simp only []; cases Nat.blt y N <;> rfl
  cases h1 : run1 P rc md ops oj t h with
  | none => simp [h1] at hr
  | some p =>
    obtain ⟨vj, hj'⟩ := p
    simp only [h1, Option.bind_some] at hr
    rw [logK_some] at hr
    obtain ⟨okj, hr⟩ := hr
    rw [putb] at hr
    cases h2 : put (α := T) N oj.dst t vj some with
    | none => simp [h2] at hr
    | some t1 =>
      simp only [h2, Option.bind_some] at hr
      have ag1 := agree (o := oi) t vj a1 t1 h2
      rw [aOpsD_cons hi, run1_congr ag1] at hr
      cases h3 : run1 P rc md ops oi t hj' with
      | none => simp [h3] at hr
      | some q =>
        obtain ⟨vi, hi'⟩ := q
        simp only [h3, Option.bind_some] at hr
        rw [entOf_congr_log ag1] at hr
        rw [logK_some] at hr
        obtain ⟨oki, hr⟩ := hr
        rw [putb] at hr
        cases h4 : put (α := T) N oi.dst t1 vi some with
        | none => simp [h4] at hr
        | some t2 =>
          simp only [h4, Option.bind_some] at hr
          have sub0 : ∀ {x : Ent}, OkayO P rc md fr (entOf P cfg oi i t (aWanted ops t oi) vi hj' hi') (ext (some x) L) → OkayO P rc md fr (entOf P cfg oi i t (aWanted ops t oi) vi hj' hi') L := fun {x} hk e he y hy => hk e he y (List.mem_cons_of_mem _ hy)
          have sub1 : OkayO P rc md fr (entOf P cfg oi i t (aWanted ops t oi) vi hj' hi') L := by
            cases he : entOf P cfg oj j t (aWanted ops t oj) vj h hj' with
            | none => rw [he] at oki; exact oki
            | some x => rw [he] at oki; exact sub0 oki
          have first : ∃ hm, run1 P rc md ops oi t h = some (vi, hm) ∧ (∀ t', (∀ g, run1 P rc md ops oj t' g = run1 P rc md ops oj t g) → run1 P rc md ops oj t' hm = some (vj, hi')) ∧
              entOf P cfg oi i t (aWanted ops t oi) vi h hm = entOf P cfg oi i t (aWanted ops t oi) vi hj' hi' ∧
              entOf P cfg oj j t (aWanted ops t oj) vj hm hi' = entOf P cfg oj j t (aWanted ops t oj) vj h hj' ∧
              OkayO P rc md fr (entOf P cfg oj j t (aWanted ops t oj) vj h hj') (ext (entOf P cfg oi i t (aWanted ops t oi) vi hj' hi') L) := by
            -- a new entry that no pair binds
            have okx : (∀ x y, entOf P cfg oi i t (aWanted ops t oi) vi hj' hi' = some x → entOf P cfg oj j t (aWanted ops t oj) vj h hj' = some y → fr y.idx x.idx = true → compat P rc md x y) →
                OkayO P rc md fr (entOf P cfg oj j t (aWanted ops t oj) vj h hj') (ext (entOf P cfg oi i t (aWanted ops t oi) vi hj' hi') L) := by
              intro hx e he y hy hf
              cases hei : entOf P cfg oi i t (aWanted ops t oi) vi hj' hi' with
              | none => rw [hei] at hy; exact okj e he y hy hf
              | some x =>
                rw [hei] at hy
                rcases List.mem_cons.1 hy with rfl | hy
                · exact hx _ _ hei he hf
                · exact okj e he y hy hf
            rcases hok with hok | ⟨hle, f1, f2⟩
            · simp only [okPair, Bool.and_eq_true, Bool.or_eq_true] at hok
              rcases hok.1 with (hs | hs) | ⟨hs, hs'⟩
              · obtain ⟨ov, hov⟩ := still_run (P := P) (rc := rc) (md := md) (ops := ops) hp hs t
                rw [hov] at h1
                cases ov with
                | none => cases h1
                | some v =>
                  cases h1
                  exact ⟨hi', h3, fun t' ht => by rw [ht, hov]; rfl, rfl, by rw [entOf_still hs, entOf_still hs], okx fun x y _ hy => by rw [entOf_still hs] at hy; cases hy⟩
              · obtain ⟨ov, hov⟩ := still_run (P := P) (rc := rc) (md := md) (ops := ops) hp hs t
                rw [hov] at h3
                cases ov with
                | none => cases h3
                | some v =>
                  cases h3
                  exact ⟨h, by rw [hov]; rfl, fun t' ht => by rw [ht]; exact h1, by rw [entOf_still hs, entOf_still hs], rfl, okx fun x y hx => by rw [entOf_still hs] at hx; cases hx⟩
              · obtain ⟨ov, hov⟩ := read_run (P := P) (md := md) (ops := ops) hp hs t h
                rw [hov] at h1
                cases ov with
                | none => cases h1
                | some v =>
                  cases h1
                  obtain ⟨ov', hov'⟩ := read_run (P := P) (md := md) (ops := ops) hp hs' t h
                  rw [hov'] at h3
                  cases ov' with
                  | none => cases h3
                  | some v' =>
                    cases h3
                    refine ⟨h, by rw [hov']; rfl, fun t' ht => by rw [ht]; exact hov, rfl, rfl, okx fun x y hx hy _ => ?_⟩
                    obtain ⟨_, _, _, _, rfl⟩ := (entOf_read hs' i t _ _ h h h h).2 x hx
                    obtain ⟨_, _, _, _, rfl⟩ := (entOf_read hs j t _ _ h h h h).2 y hy
                    trivial
            · rcases hle with ⟨hl, he⟩ | ⟨he, hl⟩
              · -- a read, then an effect
                obtain ⟨e1, q, ej', e2⟩ := rd_run (P := P) (md := md) (ops := ops) hp hl h1
                subst e1
                have ej : ∀ g g', entOf P cfg oj j t (aWanted ops t oj) vj g g' = some (.ld j (aWanted ops t oj) q vj) := fun g g' => ej' _ _ _ _ _
                have ei : ∀ g g', entOf P cfg oi i t (aWanted ops t oi) vi g g' = some (.ef i g g') := fun g g' => entOf_eff he i t _ _ g g'
                have hc : compat P rc md (.ld j (aWanted ops t oj) q vj) (.ef i hj' hi') := by
                  rw [ei, ej] at oki
                  exact oki _ rfl _ List.mem_cons_self f1
                refine ⟨hi', h3, fun t' ht => by rw [ht]; exact e2 hi' hc, rfl, by rw [ej, ej], okx fun x' y' hx hy hf => ?_⟩
                rw [ei] at hx; cases hx
                rw [ej] at hy; cases hy
                exact compat_symm hc
              · -- an effect, then a read
                obtain ⟨e1, q, ei', e2⟩ := rd_run (P := P) (md := md) (ops := ops) hp hl h3
                subst e1
                have ei : ∀ g g', entOf P cfg oi i t (aWanted ops t oi) vi g g' = some (.ld i (aWanted ops t oi) q vi) := fun g g' => ei' _ _ _ _ _
                have ej : ∀ g g', entOf P cfg oj j t (aWanted ops t oj) vj g g' = some (.ef j g g') := fun g g' => entOf_eff he j t _ _ g g'
                have hc : compat P rc md (.ef j h hi') (.ld i (aWanted ops t oi) q vi) := by
                  rw [ei, ej] at oki
                  exact oki _ rfl _ List.mem_cons_self f1
                refine ⟨h, e2 h fun hw => ⟨(hc hw).2, (hc hw).1⟩, fun t' ht => by rw [ht]; exact h1, by rw [ei, ei], rfl, okx fun x' y' hx hy hf => ?_⟩
                rw [ei] at hx; cases hx
                rw [ej] at hy; cases hy
                exact compat_symm hc
          obtain ⟨hm, f1, f3, f4, f5, f6⟩ := first
          simp only [f1, Option.bind_some]
          rw [logK_some, f4]
          refine ⟨sub1, ?_⟩
          rw [putb]
          have places : ∃ t1', put (α := T) N oi.dst t vi some = some t1' ∧ put (α := T) N oj.dst t1' vj some = some t2 := by
            unfold put at h2 h4 ⊢
            cases hdi : oi.dst with
            | none =>
              rw [hdi] at h4
              simp only at h4 ⊢; cases h4
              exact ⟨t, rfl, h2⟩
            | some x =>
              cases hdj : oj.dst with
              | none => rw [hdj] at h2; rw [hdi] at h4; simp only at h2 h4 ⊢; cases h2; exact ⟨t2, h4, rfl⟩
              | some y =>
                rw [hdj] at h2; rw [hdi] at h4; simp only at h2 h4 ⊢
                have hne : x ≠ y := fun e => a2 y hdj (by rw [hdi, e])
                cases hx : Nat.blt x N <;> simp [hx] at h4
                cases hy : Nat.blt y N <;> simp [hy] at h2
                subst h2; subst h4
                refine ⟨upd t x vi, by simp, ?_⟩
                simp only [cond_true]
                congr 1
                funext z
                by_cases e1 : z = x
                · subst e1; rw [upd_ne _ _ hne, upd_same, upd_same]
                · rw [upd_ne (upd t y vj) vi e1]
                  by_cases e2 : z = y
                  · subst e2; rw [upd_same, upd_same]
                  · rw [upd_ne _ _ e2, upd_ne _ _ e2, upd_ne _ _ e1]
          obtain ⟨t1', p1, p2⟩ := places
          rw [p1, Option.bind_some, aOpsD_cons hj]
          have ag2 := agree (o := oj) t vi (fun x hx => a3 x hx) t1' p1
          rw [f3 t1' (fun g => run1_congr ag2 g)]
          simp only [Option.bind_some]
          rw [entOf_congr_log ag2, logK_some, f5]
          refine ⟨f6, ?_⟩
          rw [putb, p2, Option.bind_some]
          refine aOpsD_same rest t2 hi' _ _ (fun x => ?_) hr
          cases entOf P cfg oi i t (aWanted ops t oi) vi hj' hi' <;> cases entOf P cfg oj j t (aWanted ops t oj) vj h hj' <;> simp only [ext, List.mem_cons]
          constructor
          · rintro (h | h | h) <;> simp [h]
          · rintro (h | h | h) <;> simp [h]
end Go.Det
