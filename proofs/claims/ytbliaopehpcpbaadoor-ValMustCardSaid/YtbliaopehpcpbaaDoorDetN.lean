/- The frame's equations: a call is its body; a loop is its round and the loop again. -/
import Derived.Test.YtbliaopehpcpbaaDoorDetM
set_option autoImplicit false
set_option linter.unusedVariables false
set_option linter.unusedSimpArgs false
namespace Go.Det

variable {P : Program} {md : Md} {N : Nat} {cfg : Cfg}

/-- From some number on. -/
def Ev (p : Nat → Prop) : Prop := ∃ n, ∀ m, n ≤ m → p m

theorem Ev.of {p : Prop} (h : p) : Ev fun _ => p := ⟨0, fun _ _ => h⟩
theorem Ev.and {p q : Nat → Prop} (hp : Ev p) (hq : Ev q) : Ev fun m => p m ∧ q m :=
  let ⟨a, ha⟩ := hp; let ⟨b, hb⟩ := hq; ⟨max a b, fun m hm => ⟨ha m (by omega), hb m (by omega)⟩⟩
theorem Ev.imp {p q : Nat → Prop} (hp : Ev p) (h : ∀ m, p m → q m) : Ev q := let ⟨a, ha⟩ := hp; ⟨a, fun m hm => h m (ha m hm)⟩

/-! ### Loops -/

section
variable {σ α : Type} {f : σ → Option (σ ⊕ α)}

theorem loopN_mono : ∀ {n m : Nat} {s : σ} {a : α}, n ≤ m → loopN f n s = some a → loopN f m s = some a := by
  intro n
  induction n with
  | zero => intro m s a _ h; simp [loopN] at h
  | succ n ih =>
    intro m s a hm h
    obtain ⟨m, rfl⟩ : ∃ k, m = k + 1 := ⟨m - 1, by omega⟩
    simp only [loopN] at h ⊢
    cases hf : f s with
    | none => simp [hf] at h
    | some x =>
      cases x with
      | inl s' => simp only [hf] at h ⊢; exact ih (by omega) h
      | inr b => simp only [hf] at h ⊢; exact h

theorem sup_of {g : Nat → Option α} (hm : ∀ {n m : Nat} {a : α}, n ≤ m → g n = some a → g m = some a) {n : Nat} {a : α} (h : g n = some a) : sup g = some a := by
  have he : ∃ a n, g n = some a := ⟨a, n, h⟩
  unfold sup
  rw [dif_pos he]
  obtain ⟨m, hc⟩ := Classical.choose_spec he
  have h1 := hm (Nat.le_max_left n m) h
  have h2 := hm (Nat.le_max_right n m) hc
  rw [h1] at h2
  exact h2.symm

theorem loopF_of {n : Nat} {s : σ} {a : α} (h : loopN f n s = some a) : loopF f s = some a := sup_of (fun hm h => loopN_mono hm h) h

theorem loopF_iff {s : σ} {a : α} : loopF f s = some a ↔ ∃ n, loopN f n s = some a := ⟨sup_some, fun ⟨_, h⟩ => loopF_of h⟩

theorem opt_ext {α : Type} {x y : Option α} (h : ∀ a, x = some a ↔ y = some a) : x = y := by
  cases x with
  | none =>
    cases y with
    | none => rfl
    | some b => exact absurd ((h b).2 rfl) (by simp)
  | some a => exact ((h a).1 rfl).symm

theorem loopF_eq (s : σ) : loopF f s = match f s with | some (.inl s') => loopF f s' | some (.inr a) => some a | none => none := by
  refine opt_ext fun a => ?_
  rw [loopF_iff]
  constructor
  · rintro ⟨n, hn⟩
    cases n with
    | zero => simp [loopN] at hn
    | succ n =>
      simp only [loopN] at hn
      cases hf : f s with
      | none => simp [hf] at hn
      | some x =>
        cases x with
        | inl s' => simp only [hf] at hn ⊢; exact loopF_of hn
        | inr b => simp only [hf] at hn ⊢; exact hn
  · intro h
    cases hf : f s with
    | none => simp [hf] at h
    | some x =>
      cases x with
      | inl s' =>
        simp only [hf] at h
        obtain ⟨n, hn⟩ := sup_some h
        exact ⟨n + 1, by simp only [loopN, hf]; exact hn⟩
      | inr b => simp only [hf] at h; exact ⟨1, by simp only [loopN, hf]; exact h⟩

def simMap {σ α σ' α' : Type} (π : σ → σ') (out : α → α') : σ ⊕ α → σ' ⊕ α'
  | .inl s => .inl (π s)
  | .inr a => .inr (out a)

/-- A loop by what its rounds do to a smaller state. -/
theorem loopF_sim {σ' α' : Type} {g : σ' → Option (σ' ⊕ α')} {π : σ → σ'} {out : α → α'} (h : ∀ s, g (π s) = (f s).map (simMap π out)) (s : σ) :
    loopF g (π s) = (loopF f s).map out := by
  have key : ∀ n s, loopN g n (π s) = (loopN f n s).map out := by
    intro n
    induction n with
    | zero => intro s; rfl
    | succ n ih =>
      intro s
      simp only [loopN, h s]
      cases f s with
      | none => rfl
      | some x =>
        cases x with
        | inl s' => exact ih s'
        | inr a => rfl
  refine opt_ext fun a => ?_
  rw [loopF_iff]
  constructor
  · rintro ⟨n, hn⟩
    rw [key] at hn
    simp only [Option.map_eq_some_iff] at hn ⊢
    obtain ⟨b, h1, h2⟩ := hn
    exact ⟨b, loopF_of h1, h2⟩
  · intro hh
    simp only [Option.map_eq_some_iff] at hh
    obtain ⟨b, h1, h2⟩ := hh
    obtain ⟨n, hn⟩ := sup_some h1
    exact ⟨n, by rw [key]; simp only [Option.map_eq_some_iff]; exact ⟨b, hn, h2⟩⟩

end

/-! ### More calls answered, no fewer answers -/

def Chain (rcn : Nat → Rec) (rc : Rec) : Prop := ∀ md f args h r, rc md f args h = some r → Ev fun m => rcn m md f args h = some r

variable {rcn : Nat → Rec} {rc : Rec}

theorem aOp0_ev {α : Type} (hc : Chain rcn rc) (t : T) (o : Oper) (h : Heap) {k : Value → Heap → Option α} {kn : Nat → Value → Heap → Option α} {r : α}
    (hk : ∀ v h', k v h' = some r → Ev fun m => kn m v h' = some r) (hr : aOp0 P rc md t o h k = some r) : Ev fun m => aOp0 P (rcn m) md t o h (kn m) = some r := by
  rw [aOp0_bind] at hr
  have main : ∀ p : Value × Heap, (aOp0 P rc md t o h fun v h' => some (v, h')) = some p → Ev fun m => (aOp0 P (rcn m) md t o h fun v h' => some (v, h')) = some p := by
    intro p hp
    obtain ⟨dst, op, type, pos, after, guard⟩ := o
    cases op
    case call c =>
      unfold aOp0 at hp ⊢
      unfold aCall at hp ⊢
      simp only [] at hp ⊢
      split at hp
      · rename_i b hb
        exact Ev.of hp
      · split at hp
        · rename_i g fst cap hfe
          split at hp
          · rename_i v h' hg
            refine (hc _ _ _ _ _ hg).imp fun m hm => ?_
            simp only [hfe, hm]; exact hp
          · cases hp
        · cases hp
      · split at hp
        · rename_i ty v hxe
          split at hp
          · rename_i g recv hm
            split at hp
            · rename_i u h' hg
              refine (hc _ _ _ _ _ hg).imp fun m hm' => ?_
              simp only [hxe, hm, hm']; exact hp
            · cases hp
          · cases hp
        · cases hp
    case makeMap ty rs => cases rs <;> exact Ev.of hp
    all_goals exact Ev.of hp
  cases hp : (aOp0 P rc md t o h fun v h' => some (v, h')) with
  | none => simp [hp] at hr
  | some p =>
    simp only [hp, Option.bind_some] at hr
    refine ((main p hp).and (hk _ _ hr)).imp fun m hm => ?_
    rw [aOp0_bind, hm.1]
    exact hm.2

theorem aOp_ev {α : Type} (hc : Chain rcn rc) (t : T) (o : Oper) (h : Heap) {k : Value → Heap → Option α} {kn : Nat → Value → Heap → Option α} {r : α}
    (hk : ∀ v h', k v h' = some r → Ev fun m => kn m v h' = some r) (hr : aOp P rc md t o h k = some r) : Ev fun m => aOp P (rcn m) md t o h (kn m) = some r := by
  unfold aOp at hr ⊢
  refine aOp0_ev hc t o h (kn := fun m v h' => bif castOf o.op then castV P o.type v fun v => kn m v h' else kn m v h') (fun v h' h1 => ?_) hr
  cases hq : castOf o.op
  · simp only [hq, cond_false] at h1 ⊢; exact hk _ _ h1
  · simp only [hq, cond_true] at h1 ⊢
    have h2 := castV_some h1
    refine (hk _ _ h2).imp fun m hm => ?_
    have e1 := castV_bind (P := P) o.type v some (fun v => k v h')
    have e2 := castV_bind (P := P) o.type v some (fun v => kn m v h')
    simp only [Option.bind_some] at e1 e2
    rw [e1] at h1
    rw [e2]
    cases hv : castV P o.type v some with
    | none => simp [hv] at h1
    | some u =>
      have := castV_some hv
      cases this
      exact hm

theorem put_ev {α : Type} {d : Option Tmp} {t : T} {v : Value} {k : T → Option α} {kn : Nat → T → Option α} {r : α} (hk : ∀ t', k t' = some r → Ev fun m => kn m t' = some r)
    (hr : put N d t v k = some r) : Ev fun m => put N d t v (kn m) = some r := by
  unfold put at hr ⊢
  cases d with
  | none => exact hk _ hr
  | some d =>
    simp only [] at hr ⊢
    cases hb : Nat.blt d N
    · simp [hb] at hr
    · simp only [hb, cond_true] at hr ⊢; exact hk _ hr

theorem aOps_ev {α : Type} (hc : Chain rcn rc) {ops : Array Oper} {K : T → Heap → Option α} {Kn : Nat → T → Heap → Option α} {r : α}
    (hk : ∀ t h, K t h = some r → Ev fun m => Kn m t h = some r) : ∀ (l : List Nat) (t : T) (h : Heap), aOps P rc md N ops K l t h = some r → Ev fun m => aOps P (rcn m) md N ops (Kn m) l t h = some r := by
  intro l
  induction l with
  | nil => intro t h hr; exact hk t h hr
  | cons i rest ih =>
    intro t h hr
    simp only [aOps] at hr ⊢
    cases ho : ops[i]? with
    | none => simp [ho] at hr
    | some o =>
      simp only [ho] at hr ⊢
      cases hg : o.guard with
      | some g =>
        simp only [hg] at hr ⊢
        cases hw : aWanted ops t o
        · simp only [hw, cond_false, Option.bind_some] at hr ⊢
          exact put_ev (fun t' h1 => ih t' h h1) hr
        · simp only [hw, cond_true] at hr ⊢
          cases hp : (aOp P rc md t o h fun v h' => some (v, h')) with
          | none => simp [hp] at hr
          | some p =>
            simp only [hp, Option.bind_some] at hr
            have h1 := aOp_ev hc t o h (kn := fun _ v h' => some (v, h')) (fun v h' h1 => Ev.of h1) hp
            refine (h1.and (put_ev (kn := fun m t' => aOps P (rcn m) md N ops (Kn m) rest t' p.2) (fun t' h2 => ih t' p.2 h2) hr)).imp fun m hm => ?_
            rw [hm.1]; exact hm.2
      | none =>
        simp only [hg] at hr ⊢
        exact aOp_ev hc t o h (kn := fun m v h' => put N o.dst t v fun t' => aOps P (rcn m) md N ops (Kn m) rest t' h') (fun v h' h1 => put_ev (fun t' h2 => ih t' h' h2) h1) hr

theorem Ev.list {α : Type} {l : List α} {p : α → Nat → Prop} (h : ∀ x ∈ l, Ev (p x)) : Ev fun m => ∀ x ∈ l, p x m := by
  induction l with
  | nil => exact ⟨0, fun m _ x hx => by cases hx⟩
  | cons x l ih =>
    refine ((h x (by simp)).and (ih fun y hy => h y (by simp [hy]))).imp fun m hm y hy => ?_
    rcases List.mem_cons.1 hy with rfl | hy
    · exact hm.1
    · exact hm.2 y hy
theorem rdV_ev (hc : Chain rcn rc) {q : Rd} {g : Heap} {v : Value} (h : rdV P rc md q g = some v) : Ev fun m => rdV P (rcn m) md q g = some v := by
  cases q with
  | ld ty p => exact Ev.of h
  | lk ty m i ok => exact Ev.of h
  | cl f args =>
    simp only [rdV] at h ⊢
    cases hr : rc md f args g with
    | none => rw [hr] at h; cases h
    | some p =>
      rw [hr] at h
      refine (hc md f args g p hr).imp fun m hm => ?_
      rw [hm]; exact h
theorem compat_ev (hc : Chain rcn rc) {x y : Ent} (h : compat P rc md x y) : Ev fun m => compat P (rcn m) md x y := by
  have two : ∀ {w : Bool} {q : Rd} {v : Value} {g g' : Heap}, (w = true → rdV P rc md q g = some v ∧ rdV P rc md q g' = some v) → Ev fun m => (w = true → rdV P (rcn m) md q g = some v ∧ rdV P (rcn m) md q g' = some v) := by
    intro w q v g g' h
    cases w
    · exact ⟨0, fun m _ e => by cases e⟩
    · obtain ⟨h1, h2⟩ := h rfl
      exact ((rdV_ev hc h1).and (rdV_ev hc h2)).imp fun m hm _ => hm
  cases x <;> cases y
  · exact Ev.of trivial
  · exact two h
  · exact two h
  · exact Ev.of trivial
theorem okayO_ev {fr : Nat → Nat → Bool} (hc : Chain rcn rc) {x : Option Ent} {L : List Ent} (h : OkayO P rc md fr x L) : Ev fun m => OkayO P (rcn m) md fr x L := by
  cases x with
  | none => exact ⟨0, fun m _ e he => by cases he⟩
  | some x =>
    have h1 := h x rfl
    refine (Ev.list (l := L) (p := fun y m => fr x.idx y.idx = true → compat P (rcn m) md y x) fun y hy => ?_).imp fun m hm e he => by cases he; exact fun y hy => hm y hy
    cases hf : fr x.idx y.idx
    · exact ⟨0, fun m _ e => by cases e⟩
    · exact (compat_ev hc (h1 y hy hf)).imp fun m hm _ => hm
theorem aOpsD_ev {cfg : Cfg} {fr : Nat → Nat → Bool} {α : Type} (hc : Chain rcn rc) {ops : Array Oper} {K : T → Heap → Option α} {Kn : Nat → T → Heap → Option α} {r : α}
    (hk : ∀ t h, K t h = some r → Ev fun m => Kn m t h = some r) : ∀ (l : List Nat) (t : T) (h : Heap) (L : List Ent), aOpsD P cfg rc md N ops fr K l t h L = some r → Ev fun m => aOpsD P cfg (rcn m) md N ops fr (Kn m) l t h L = some r := by
  intro l
  induction l with
  | nil => intro t h L hr; exact hk t h hr
  | cons i rest ih =>
    intro t h L hr
    cases ho : ops[i]? with
    | none => simp [aOpsD, ho] at hr
    | some o =>
      rw [aOpsD_cons ho] at hr
      cases hp : run1 P rc md ops o t h with
      | none => simp [hp] at hr
      | some p =>
        simp only [hp, Option.bind_some] at hr
        rw [logK_some] at hr
        have h1 : Ev fun m => run1 P (rcn m) md ops o t h = some p := by
          unfold run1 at hp ⊢
          cases hw : aWanted ops t o
          · rw [hw] at hp; exact Ev.of hp
          · rw [hw] at hp; exact aOp_ev hc t o h (kn := fun _ v h' => some (v, h')) (fun v h' h1 => Ev.of h1) hp
        have h0 := okayO_ev hc hr.1
        refine (h0.and (h1.and (put_ev (kn := fun m t' => aOpsD P cfg (rcn m) md N ops fr (Kn m) rest t' p.2 _) (fun t' h2 => ih t' p.2 _ h2) hr.2))).imp fun m hm => ?_
        rw [aOpsD_cons ho, hm.2.1, Option.bind_some, logK_some]
        exact ⟨hm.1, hm.2.2⟩

theorem aOpsAny_ev {α : Type} (hc : Chain rcn rc) {ops : Array Oper} {K : T → Heap → Option α} {Kn : Nat → T → Heap → Option α} {r : α}
    (hk : ∀ t h, K t h = some r → Ev fun m => Kn m t h = some r) : ∀ (fuel : Nat) (listed : Array Bool) (t : T) (h : Heap), aOpsAny P rc md N ops K fuel listed t h = some r → Ev fun m => aOpsAny P (rcn m) md N ops (Kn m) fuel listed t h = some r := by
  intro fuel
  induction fuel with
  | zero =>
    intro listed t h hr
    simp only [aOpsAny] at hr ⊢
    cases hr' : (Region.ready .any ops listed).isEmpty
    · rw [hr'] at hr; cases hr
    · rw [hr'] at hr; exact hk t h hr
  | succ fuel ih =>
    intro listed t h hr
    by_cases he : Region.ready .any ops listed = []
    · simp only [aOpsAny, he] at hr ⊢; exact hk t h hr
    · rw [aOpsAny_succ he] at hr
      have h1 := agree_some hr
      have h2 : Ev fun m => ∀ i ∈ Region.ready .any ops listed, (match ops[i]? with
          | none => none
          | some o => (run1 P (rcn m) md ops o t h).bind fun p => put N o.dst t p.1 fun t' => aOpsAny P (rcn m) md N ops (Kn m) fuel (listed.setIfInBounds i true) t' p.2) = some r := by
        refine Ev.list fun i hi => ?_
        have h3 := h1 _ (List.mem_map_of_mem hi)
        cases ho : ops[i]? with
        | none => simp [ho] at h3
        | some o =>
          simp only [ho] at h3 ⊢
          cases hp : run1 P rc md ops o t h with
          | none => simp [hp] at h3
          | some p =>
            simp only [hp, Option.bind_some] at h3
            have h4 : Ev fun m => run1 P (rcn m) md ops o t h = some p := by
              unfold run1 at hp ⊢
              cases hw : aWanted ops t o
              · rw [hw] at hp; exact Ev.of hp
              · rw [hw] at hp; exact aOp_ev hc t o h (kn := fun _ v h' => some (v, h')) (fun v h' h1 => Ev.of h1) hp
            refine (h4.and (put_ev (kn := fun m t' => aOpsAny P (rcn m) md N ops (Kn m) fuel (listed.setIfInBounds i true) t' p.2) (fun t' h2 => ih _ t' p.2 h2) h3)).imp fun m hm => ?_
            rw [hm.1, Option.bind_some]; exact hm.2
      refine h2.imp fun m hm => ?_
      rw [aOpsAny_succ he]
      refine agree_of (by simpa using he) fun y hy => ?_
      obtain ⟨i, hi, rfl⟩ := List.mem_map.1 hy
      exact hm i hi
theorem regOps_ev {cfg : Cfg} {α : Type} (hc : Chain rcn rc) {ops : Array Oper} {draw : Bool} {K : T → Heap → Option α} {Kn : Nat → T → Heap → Option α} {r : α}
    (hk : ∀ t h, K t h = some r → Ev fun m => Kn m t h = some r) {t : T} {h : Heap} (hr : regOps P cfg rc md N ops draw K t h = some r) : Ev fun m => regOps P cfg (rcn m) md N ops draw (Kn m) t h = some r := by
  unfold regOps at hr ⊢
  cases draw
  · exact aOps_ev hc hk _ _ _ hr
  · simp only [cond_true] at hr ⊢
    cases hco : commOk P cfg ops
    · rw [hco] at hr; exact aOpsAny_ev hc hk _ _ _ _ hr
    · rw [hco] at hr
      simp only [cond_true] at hr ⊢
      cases hb : hasFr P cfg ops
      · rw [hb] at hr; exact aOps_ev hc hk _ _ _ hr
      · rw [hb] at hr; exact aOpsD_ev hc hk _ _ _ _ hr

theorem exec_ev (hc : Chain rcn rc) : ∀ (c : Code) {α : Type} {K : Exit → T → Heap → Option α} {Kn : Nat → Exit → T → Heap → Option α} {r : α},
    (∀ e t h, K e t h = some r → Ev fun m => Kn m e t h = some r) → ∀ t h, exec P cfg rc md N c K t h = some r → Ev fun m => exec P cfg (rcn m) md N c (Kn m) t h = some r := by
  intro c
  induction c with
  | skip => intro α K Kn r hk t h hr; exact hk _ _ _ hr
  | label l => intro α K Kn r hk t h hr; exact hk _ _ _ hr
  | exit id => intro α K Kn r hk t h hr; exact hk _ _ _ hr
  | ret => intro α K Kn r hk t h hr; exact hk _ _ _ hr
  | goto l => intro α K Kn r hk t h hr; simp [exec] at hr
  | refuse s => intro α K Kn r hk t h hr; simp [exec] at hr
  | rangeFunc f ps x y => intro α K Kn r hk t h hr; simp [exec] at hr
  | region id ops draw => intro α K Kn r hk t h hr; simp only [exec] at hr ⊢; exact regOps_ev hc (fun t h => hk _ t h) hr
  | seq x y ihx ihy =>
    intro α K Kn r hk t h hr
    simp only [exec] at hr ⊢
    refine ihx (Kn := fun m e t h => match e with | .normal => exec P cfg (rcn m) md N y (Kn m) t h | e => Kn m e t h) (fun e t' h' h1 => ?_) t h hr
    cases e <;> first | exact ihy hk _ _ h1 | exact hk _ _ _ h1
  | cond c x y ihx ihy =>
    intro α K Kn r hk t h hr
    simp only [exec] at hr ⊢
    cases hc' : ev t c <;> simp only [hc'] at hr ⊢ <;> first | (cases hr; done) | skip
    rename_i q
    cases q
    · exact ihy hk _ _ hr
    · exact ihx hk _ _ hr
  | block id body ih =>
    intro α K Kn r hk t h hr
    simp only [exec] at hr ⊢
    refine ih (Kn := fun m e t h => match e with | .exit j => bif Nat.beq j id then Kn m .normal t h else Kn m (.exit j) t h | e => Kn m e t h) (fun e t' h' h1 => ?_) t h hr
    cases e <;> first | exact hk _ _ _ h1 | skip
    rename_i j
    simp only [] at h1 ⊢
    cases hj : Nat.beq j id <;> simp only [hj, cond_false, cond_true] at h1 ⊢ <;> exact hk _ _ _ h1
  | loop body ih =>
    intro α K Kn r hk t h hr
    simp only [exec] at hr ⊢
    cases hl : loopF (fun s : T × Heap => exec P cfg rc md N body roundK s.1 s.2) (t, h) with
    | none => simp [hl] at hr
    | some x =>
      obtain ⟨e0, t0, h0⟩ := x
      simp only [hl] at hr
      obtain ⟨n, hn⟩ := sup_some hl
      have key : ∀ n (s : T × Heap) x, loopN (fun s : T × Heap => exec P cfg rc md N body roundK s.1 s.2) n s = some x → Ev fun m => loopN (fun s : T × Heap => exec P cfg (rcn m) md N body roundK s.1 s.2) n s = some x := by
        intro n
        induction n with
        | zero => intro s x hx; simp [loopN] at hx
        | succ n ihn =>
          intro s x hx
          simp only [loopN] at hx
          cases hb : exec P cfg rc md N body roundK s.1 s.2 with
          | none => simp [hb] at hx
          | some y =>
            have h1 := ih (Kn := fun _ => roundK) (fun e t h h1 => Ev.of h1) _ _ hb
            cases y with
            | inl s' =>
              simp only [hb] at hx
              refine (h1.and (ihn s' x hx)).imp fun m hm => ?_
              simp only [loopN, hm.1]; exact hm.2
            | inr z =>
              simp only [hb] at hx
              refine h1.imp fun m hm => ?_
              simp only [loopN, hm]; exact hx
      refine ((key n _ _ hn).and (hk _ _ _ hr)).imp fun m hm => ?_
      rw [loopF_of hm.1]
      exact hm.2
  | scope body ih => intro α K Kn r hk t h hr; simp only [exec] at hr ⊢; exact ih hk _ _ hr

theorem callStep0_ev (hc : Chain rcn rc) {f : FuncId} {args : List Value} {h : Heap} {r : Value × Heap} (hr : callStep0 P cfg rc md f args h = some r) :
    Ev fun m => callStep0 P cfg (rcn m) md f args h = some r := by
  unfold callStep0 at hr ⊢
  cases hf : P.funcs[f]? with
  | none => simp [hf] at hr
  | some fn =>
    simp only [hf] at hr ⊢
    cases hb : fn.body with
    | none => simp [hb] at hr
    | some c =>
      simp only [hb] at hr ⊢
      cases hq : (okCode cfg c && !(fn.name == "runtime.NumGoroutine"))
      · simp [hq] at hr
      · simp only [hq, cond_true] at hr ⊢
        exact exec_ev hc c (K := retK P cfg f fn.results.toList h) (Kn := fun _ => retK P cfg f fn.results.toList h) (fun e t h h1 => Ev.of h1) _ _ hr

theorem callStep_ev (hc : Chain rcn rc) {f : FuncId} {args : List Value} {h : Heap} {r : Value × Heap} (hr : callStep P cfg rc md f args h = some r) :
    Ev fun m => callStep P cfg (rcn m) md f args h = some r := by
  unfold callStep at hr ⊢
  cases hb : Nat.beq (cfg f) 3
  · cases h4 : Nat.beq (cfg f) 4
    · simp only [hb, h4, cond_false] at hr ⊢; exact callStep0_ev hc hr
    · simp only [hb, h4, cond_false, cond_true] at hr ⊢; exact Ev.of hr
  · simp only [hb, cond_true] at hr ⊢
    cases ha : args.all plain1
    · rw [ha] at hr; cases hr
    · rw [ha] at hr
      simp only [cond_true] at hr ⊢
      cases hx : callStep0 P cfg rc ⟨0, 0⟩ f args [] with
      | none => rw [hx] at hr; cases hr
      | some p =>
        rw [hx] at hr
        exact (callStep0_ev hc hx).imp fun m hm => by rw [hm]; exact hr

theorem callStep_ne {f : FuncId} {args : List Value} {h : Heap} (hf : (Nat.beq (cfg f) 3 || Nat.beq (cfg f) 4) = false) : callStep P cfg rc md f args h = callStep0 P cfg rc md f args h := by
  rw [Bool.or_eq_false_iff] at hf
  unfold callStep; rw [hf.1, hf.2]; rfl
theorem callStep_ext {f : FuncId} {args : List Value} {h : Heap} {v : Value} (h3 : Nat.beq (cfg f) 3 = false) (h4 : Nat.beq (cfg f) 4 = true) (hx : cfg.x f args h = some v) (hp : plain2 v = true) : callStep P cfg rc md f args h = some (v, h) := by
  unfold callStep; rw [h3, h4, hx]; simp only [cond_true, cond_false, hp]

theorem callN_mono : ∀ {n m : Nat}, n ≤ m → ∀ md f args h r, callN P cfg n md f args h = some r → callN P cfg m md f args h = some r := by
  intro n
  induction n with
  | zero => intro m _ md f args h r hr; cases hr
  | succ n ih =>
    intro m hm md f args h r hr
    obtain ⟨m, rfl⟩ : ∃ k, m = k + 1 := ⟨m - 1, by omega⟩
    have : Chain (fun _ => callN P cfg m) (callN P cfg n) := fun md f args h r hr => Ev.of (ih (by omega) md f args h r hr)
    obtain ⟨k, hk⟩ := callStep_ev this hr
    exact hk k (Nat.le_refl _)

theorem call_chain : Chain (callN P cfg) (call P cfg) := by
  intro md f args h r hr
  obtain ⟨n, hn⟩ := sup_some hr
  exact ⟨n, fun m hm => callN_mono hm _ _ _ _ _ hn⟩

theorem call_of {n : Nat} {f : FuncId} {args : List Value} {h : Heap} {r : Value × Heap} (hr : callN P cfg n md f args h = some r) : call P cfg md f args h = some r :=
  sup_of (fun hm h => callN_mono hm _ _ _ _ _ h) hr

/-- A call is its body. -/
theorem call_eq (f : FuncId) (args : List Value) (h : Heap) : call P cfg md f args h = callStep P cfg (call P cfg) md f args h := by
  refine opt_ext fun r => ⟨fun hr => ?_, fun hr => ?_⟩
  · obtain ⟨n, hn⟩ := sup_some hr
    cases n with
    | zero => cases hn
    | succ n =>
      have : Chain (fun _ => call P cfg) (callN P cfg n) := fun md f args h r hr => Ev.of (call_of hr)
      obtain ⟨k, hk⟩ := callStep_ev this hn
      exact hk k (Nat.le_refl _)
  · obtain ⟨k, hk⟩ := callStep_ev call_chain hr
    exact call_of (n := k + 1) (hk k (Nat.le_refl _))

end Go.Det
