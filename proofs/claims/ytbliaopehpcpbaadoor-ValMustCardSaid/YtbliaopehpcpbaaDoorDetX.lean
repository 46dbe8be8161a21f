/- Calls that need nothing of what there is, worked out. -/
import Derived.Test.YtbliaopehpcpbaaDoorDetN
import Derived.KernelRfl
set_option autoImplicit false
set_option linter.unusedVariables false
set_option linter.unusedSimpArgs false
namespace Go.Det

def veq1 : Value → Value → Bool
  | .bool a, .bool b => a == b
  | .int k a, .int j b => decide (k = j) && decide (a = b)
  | .pointer none, .pointer none => true
  | .pointer (some ⟨b, i, none⟩), .pointer (some ⟨b', i', none⟩) => Nat.beq b b' && Nat.beq i i'
  | .slice none l c, .slice none l' c' => Nat.beq l l' && Nat.beq c c'
  | .slice (some ⟨b, i, none⟩) l c, .slice (some ⟨b', i', none⟩) l' c' => Nat.beq b b' && Nat.beq i i' && Nat.beq l l' && Nat.beq c c'
  | .nilFunc, .nilFunc => true
  | .nilIface, .nilIface => true
  | _, _ => false
theorem veq1_eq {v u : Value} (h : veq1 v u = true) : v = u := by
  unfold veq1 at h
  split at h <;> (try simp only [Bool.and_eq_true, beq_iff_eq, decide_eq_true_eq, Nat.beq_eq] at h)
  all_goals first | (cases h; done) | skip
  all_goals first | rfl | (subst h; rfl) | (obtain ⟨h1, h2⟩ := h; subst h1; subst h2; rfl) | (obtain ⟨⟨⟨h1, h2⟩, h3⟩, h4⟩ := h; subst h1; subst h2; subst h3; subst h4; rfl)
def all2 (f : Value → Value → Bool) : List Value → List Value → Bool
  | [], [] => true
  | x :: xs, y :: ys => f x y && all2 f xs ys
  | _, _ => false
theorem all2_eq {f : Value → Value → Bool} (hf : ∀ {v u}, f v u = true → v = u) : ∀ {l l' : List Value}, all2 f l l' = true → l = l'
  | [], [], _ => rfl
  | x :: xs, y :: ys, h => by
    simp only [all2, Bool.and_eq_true] at h
    rw [hf h.1, all2_eq hf h.2]
  | [], _ :: _, h => by simp [all2] at h
  | _ :: _, [], h => by simp [all2] at h
def veq : Value → Value → Bool
  | .agg a, .agg b => all2 veq1 a.toList b.toList
  | v, u => veq1 v u
theorem veq_eq {v u : Value} (h : veq v u = true) : v = u := by
  unfold veq at h
  split at h
  · rw [Array.toList_inj.1 (all2_eq veq1_eq h)]
  · exact veq1_eq h
def veqO : Option Value → Value → Bool
  | some v, u => veq v u
  | none, _ => false
theorem veqO_eq {v : Option Value} {u : Value} (h : veqO v u = true) : v = some u := by
  cases v with
  | none => cases h
  | some v => rw [veq_eq h]

section
variable (P : Program)
def compatC (rc : Rec) (md : Md) : Ent → Ent → Bool
  | .ld _ w q v, .ef _ g g' => !w || (veqO (rdV P rc md q g) v && veqO (rdV P rc md q g') v)
  | .ef _ g g', .ld _ w q v => !w || (veqO (rdV P rc md q g) v && veqO (rdV P rc md q g') v)
  | _, _ => true
theorem compatC_ok {rc : Rec} {md : Md} {x y : Ent} (h : compatC P rc md x y = true) : compat P rc md x y := by
  cases x <;> cases y <;> simp only [compatC, compat, Bool.or_eq_true, Bool.and_eq_true, Bool.not_eq_true'] at h ⊢
  all_goals
    intro hw
    rcases h with h | ⟨h1, h2⟩
    · rw [hw] at h; cases h
    · exact ⟨veqO_eq h1, veqO_eq h2⟩
def chkC (rc : Rec) (md : Md) (fr : Nat → Nat → Bool) (x : Ent) : List Ent → Bool
  | [] => true
  | y :: L => bif fr x.idx y.idx then compatC P rc md y x && chkC rc md fr x L else chkC rc md fr x L
theorem chkC_ok {rc : Rec} {md : Md} {fr : Nat → Nat → Bool} {x : Ent} {α : Type} {k : Option α} : ∀ {L : List Ent}, chkC P rc md fr x L = true → chk P rc md fr x L k = k
  | [], _ => rfl
  | y :: L, h => by
    simp only [chkC, chk] at h ⊢
    cases hf : fr x.idx y.idx
    · rw [hf] at h; exact chkC_ok h
    · rw [hf] at h
      simp only [cond_true, Bool.and_eq_true] at h ⊢
      rw [if_pos (compatC_ok P h.1)]
      exact chkC_ok h.2
def aOpsDC (cfg : Cfg) (rc : Rec) (md : Md) (N : Nat) (ops : Array Oper) (fr : Nat → Nat → Bool) {α : Type} (K : T → Heap → Option α) : List Nat → T → Heap → List Ent → Option α
  | [], t, h, _ => K t h
  | i :: rest, t, h, L =>
    match ops[i]? with
    | none => none
    | some o => (run1 P rc md ops o t h).bind fun p =>
      match entOf P cfg o i t (aWanted ops t o) p.1 h p.2 with
      | none => put N o.dst t p.1 fun t' => aOpsDC cfg rc md N ops fr K rest t' p.2 L
      | some x => bif chkC P rc md fr x L then put N o.dst t p.1 fun t' => aOpsDC cfg rc md N ops fr K rest t' p.2 (x :: L) else none
def agreeC {α : Type} (eqb : α → α → Bool) : List (Option α) → Option α
  | [] => none
  | none :: _ => none
  | some a :: l => bif l.all (fun y => match y with | some b => eqb a b | none => false) then some a else none
def aOpsAnyC (rc : Rec) (md : Md) (N : Nat) (ops : Array Oper) {α : Type} (eqb : α → α → Bool) (K : T → Heap → Option α) : Nat → Array Bool → T → Heap → Option α
  | 0, listed, t, h => bif (Region.ready .any ops listed).isEmpty then K t h else none
  | fuel + 1, listed, t, h => match Region.ready .any ops listed with
    | [] => K t h
    | l => agreeC eqb (l.map fun i => match ops[i]? with
      | none => none
      | some o => (run1 P rc md ops o t h).bind fun p => put N o.dst t p.1 fun t' => aOpsAnyC rc md N ops eqb K fuel (listed.setIfInBounds i true) t' p.2)
def regOpsC (cfg : Cfg) (rc : Rec) (md : Md) (N : Nat) (ops : Array Oper) (draw : Bool) {α : Type} (eqb : α → α → Bool) (K : T → Heap → Option α) (t : T) (h : Heap) : Option α :=
  bif draw then
    bif commOk P cfg ops then
      bif hasFr P cfg ops then aOpsDC P cfg rc md N ops (frOf P cfg ops) K (List.range ops.size) t h [] else aOps P rc md N ops K (List.range ops.size) t h
    else aOpsAnyC P rc md N ops eqb K ops.size (Array.replicate ops.size false) t h
  else aOps P rc md N ops K (List.range ops.size) t h
def execC (n : Nat) (cfg : Cfg) (rc : Rec) (md : Md) (N : Nat) : Code → {α : Type} → (α → α → Bool) → (Exit → T → Heap → Option α) → T → Heap → Option α
  | .skip, _, q, K, t, h => K .normal t h
  | .label _, _, q, K, t, h => K .normal t h
  | .region _ ops draw, _, q, K, t, h => regOpsC P cfg rc md N (regOf P cfg ops draw) draw q (K .normal) t h
  | .seq a b, _, q, K, t, h => execC n cfg rc md N a q (fun e t h => match e with | .normal => execC n cfg rc md N b q K t h | e => K e t h) t h
  | .cond c x y, _, q, K, t, h => match ev t c with
    | .bool b => bif b then execC n cfg rc md N x q K t h else execC n cfg rc md N y q K t h
    | _ => none
  | .block id body, _, q, K, t, h => execC n cfg rc md N body q (fun e t h => match e with
    | .exit j => bif Nat.beq j id then K .normal t h else K (.exit j) t h
    | e => K e t h) t h
  | .loop body, _, q, K, t, h =>
    match loopN (fun s : T × Heap => execC n cfg rc md N body (fun _ _ => false) roundK s.1 s.2) n (t, h) with
    | some (e, t, h) => K e t h
    | none => none
  | .scope body, _, q, K, t, h => execC n cfg rc md N body q K t h
  | .exit id, _, q, K, t, h => K (.exit id) t h
  | .ret, _, q, K, t, h => K .ret t h
  | _, _, _, _, _, _ => none
def blkEq : Blk → Blk → Bool
  | .dead, .dead => true
  | .ro a, .ro b => all2 veq a b
  | .own a, .own b => all2 veq a b
  | _, _ => false
def heapEq : Heap → Heap → Bool
  | [], [] => true
  | x :: xs, y :: ys => blkEq x y && heapEq xs ys
  | _, _ => false
def resEq (x y : Value × Heap) : Bool := veq x.1 y.1 && heapEq x.2 y.2
def callStep0C (n : Nat) (cfg : Cfg) (rc : Rec) : Rec := fun md f args h =>
  match P.funcs[f]? with
  | some fn =>
    match fn.body with
    | some c =>
      bif okCode cfg c && !(fn.name == "runtime.NumGoroutine") then
        execC P n cfg rc (mdOf cfg f md h.length) (args.length + (fn.ntmps - args.length)) c resEq
          (retK P cfg f fn.results.toList h) (args0 args) h
      else none
    | none => none
  | none => none
def callC (n : Nat) (cfg : Cfg) : Nat → Rec
  | 0 => fun _ _ _ _ => none
  | m + 1 => fun md f args h => bif Nat.beq (cfg f) 3 then (bif args.all plain1 then alone h (callStep0C P n cfg (callC n cfg m) ⟨0, 0⟩ f args []) else none) else bif Nat.beq (cfg f) 4 then (match cfg.x f args h with | some v => bif plain2 v then some (v, h) else none | none => none) else callStep0C P n cfg (callC n cfg m) md f args h
/-- Does a function without arguments answer true, worked out? -/
def aloneC (n m : Nat) (cfg : Cfg) (f : FuncId) : Bool :=
  bif Nat.beq (cfg f) 3 then (match callStep0C P n cfg (callC P n cfg m) ⟨0, 0⟩ f [] [] with | some (.bool true, _) => true | _ => false) else false
end

variable {P : Program} {cfg : Cfg} {rc : Rec} {md : Md} {N n : Nat}
theorem put_mono {α : Type} {d : Option Tmp} {t : T} {v : Value} {k k' : T → Option α} {r : α} (hk : ∀ t', k t' = some r → k' t' = some r) (hr : put N d t v k = some r) : put N d t v k' = some r := by
  unfold put at hr ⊢
  cases d with
  | none => exact hk _ hr
  | some d =>
    simp only [] at hr ⊢
    cases hb : Nat.blt d N
    · simp [hb] at hr
    · simp only [hb, cond_true] at hr ⊢; exact hk _ hr
theorem blkEq_eq {x y : Blk} (h : blkEq x y = true) : x = y := by
  unfold blkEq at h
  split at h
  · rfl
  · rw [all2_eq veq_eq h]
  · rw [all2_eq veq_eq h]
  · cases h
theorem heapEq_eq : ∀ {x y : Heap}, heapEq x y = true → x = y
  | [], [], _ => rfl
  | x :: xs, y :: ys, h => by
    simp only [heapEq, Bool.and_eq_true] at h
    rw [blkEq_eq h.1, heapEq_eq h.2]
  | [], _ :: _, h => by simp [heapEq] at h
  | _ :: _, [], h => by simp [heapEq] at h
theorem resEq_eq {x y : Value × Heap} (h : resEq x y = true) : x = y := by
  unfold resEq at h
  simp only [Bool.and_eq_true] at h
  obtain ⟨a, b⟩ := x; obtain ⟨c, d⟩ := y
  rw [show a = c from veq_eq h.1, show b = d from heapEq_eq h.2]
theorem agreeC_ok {α : Type} {eqb : α → α → Bool} (he : ∀ {x y}, eqb x y = true → x = y) {l : List (Option α)} {r : α} (h : agreeC eqb l = some r) : l ≠ [] ∧ ∀ y ∈ l, y = some r := by
  cases l with
  | nil => cases h
  | cons x l =>
    cases x with
    | none => cases h
    | some a =>
      simp only [agreeC] at h
      cases hb : l.all (fun y => match y with | some b => eqb a b | none => false)
      · rw [hb] at h; cases h
      · rw [hb] at h
        cases h
        refine ⟨by simp, fun y hy => ?_⟩
        rcases List.mem_cons.1 hy with rfl | hy
        · rfl
        · have := List.all_eq_true.1 hb y hy
          cases y with
          | none => cases this
          | some b => rw [he this]
theorem regOpsC_ok {α : Type} {ops : Array Oper} {draw : Bool} {q : α → α → Bool} (hq : ∀ {x y}, q x y = true → x = y) {K K' : T → Heap → Option α} {r : α} (hk : ∀ t h, K t h = some r → K' t h = some r) {t : T} {h : Heap}
    (hr : regOpsC P cfg rc md N ops draw q K t h = some r) : regOps P cfg rc md N ops draw K' t h = some r := by
  have pl : ∀ (l : List Nat), aOps P rc md N ops K l t h = some r → aOps P rc md N ops K' l t h = some r := fun l hr => by
    have c : Chain (fun _ => rc) rc := fun md f args h r hr => Ev.of hr
    obtain ⟨m, hm⟩ := aOps_ev (Kn := fun _ => K') c (fun t h h1 => Ev.of (hk t h h1)) _ _ _ hr
    exact hm m (Nat.le_refl _)
  unfold regOpsC at hr
  unfold regOps
  cases draw
  · exact pl _ hr
  simp only [cond_true] at hr ⊢
  cases hco : commOk P cfg ops
  · rw [hco] at hr
    simp only [cond_false] at hr ⊢
    have key : ∀ (fuel : Nat) (listed : Array Bool) (t : T) (h : Heap), aOpsAnyC P rc md N ops q K fuel listed t h = some r → aOpsAny P rc md N ops K' fuel listed t h = some r := by
      intro fuel
      induction fuel with
      | zero =>
        intro listed t h hr
        simp only [aOpsAny, aOpsAnyC] at hr ⊢
        cases hr' : (Region.ready .any ops listed).isEmpty
        · rw [hr'] at hr; cases hr
        · rw [hr'] at hr; exact hk t h hr
      | succ fuel ih =>
        intro listed t h hr
        by_cases he : Region.ready .any ops listed = []
        · simp only [aOpsAny, aOpsAnyC, he] at hr ⊢; exact hk t h hr
        · rw [aOpsAny_succ he]
          simp only [aOpsAnyC] at hr
          obtain ⟨_, h1⟩ := agreeC_ok hq hr
          refine agree_of (by simpa using he) fun y hy => ?_
          obtain ⟨i, hi, rfl⟩ := List.mem_map.1 hy
          have h2 := h1 _ (List.mem_map_of_mem hi)
          cases ho : ops[i]? with
          | none => simp [ho] at h2
          | some o =>
            simp only [ho] at h2 ⊢
            cases hp : run1 P rc md ops o t h with
            | none => simp [hp] at h2
            | some p =>
              simp only [hp, Option.bind_some] at h2 ⊢
              exact put_mono (fun t' h3 => ih _ _ _ h3) h2
    exact key _ _ _ _ hr
  rw [hco] at hr
  simp only [cond_true] at hr ⊢
  cases hb : hasFr P cfg ops
  · rw [hb] at hr; exact pl _ hr
  · rw [hb] at hr
    simp only [cond_true] at hr ⊢
    have key : ∀ (l : List Nat) (t : T) (h : Heap) (L : List Ent), aOpsDC P cfg rc md N ops (frOf P cfg ops) K l t h L = some r → aOpsD P cfg rc md N ops (frOf P cfg ops) K' l t h L = some r := by
      intro l
      induction l with
      | nil => intro t h L h1; exact hk t h h1
      | cons i rest ih =>
        intro t h L h1
        simp only [aOpsDC] at h1
        cases ho : ops[i]? with
        | none => simp [ho] at h1
        | some o =>
          simp only [ho] at h1
          rw [aOpsD_cons ho]
          cases hp : run1 P rc md ops o t h with
          | none => simp [hp] at h1
          | some p =>
            simp only [hp, Option.bind_some] at h1 ⊢
            unfold logK
            cases he : entOf P cfg o i t (aWanted ops t o) p.1 h p.2 with
            | none =>
              simp only [he] at h1 ⊢
              exact put_mono (fun t' h2 => ih _ _ _ h2) h1
            | some x =>
              simp only [he] at h1 ⊢
              cases hc : chkC P rc md (frOf P cfg ops) x L
              · simp [hc] at h1
              · simp only [hc, cond_true] at h1
                rw [chkC_ok P hc]
                exact put_mono (fun t' h2 => ih _ _ _ h2) h1
    exact key _ _ _ _ hr
theorem execC_ok : ∀ (c : Code) {α : Type} {q : α → α → Bool} (hq : ∀ {x y}, q x y = true → x = y) {K K' : Exit → T → Heap → Option α} {r : α}, (∀ e t h, K e t h = some r → K' e t h = some r) →
    ∀ t h, execC P n cfg rc md N c q K t h = some r → exec P cfg rc md N c K' t h = some r := by
  intro c
  induction c with
  | skip => intro α q hq K K' r hk t h hr; exact hk _ _ _ hr
  | label l => intro α q hq K K' r hk t h hr; exact hk _ _ _ hr
  | exit id => intro α q hq K K' r hk t h hr; exact hk _ _ _ hr
  | ret => intro α q hq K K' r hk t h hr; exact hk _ _ _ hr
  | goto l => intro α q hq K K' r hk t h hr; simp [execC] at hr
  | refuse s => intro α q hq K K' r hk t h hr; simp [execC] at hr
  | rangeFunc f ps x y => intro α q hq K K' r hk t h hr; simp [execC] at hr
  | region id ops draw => intro α q hq K K' r hk t h hr; simp only [execC, exec] at hr ⊢; exact regOpsC_ok hq (fun t h => hk _ t h) hr
  | seq x y ihx ihy =>
    intro α q hq K K' r hk t h hr
    simp only [execC, exec] at hr ⊢
    refine ihx hq (fun e t' h' h1 => ?_) t h hr
    cases e <;> first | exact ihy hq hk _ _ h1 | exact hk _ _ _ h1
  | cond c x y ihx ihy =>
    intro α q hq K K' r hk t h hr
    simp only [execC, exec] at hr ⊢
    cases hc' : ev t c <;> simp only [hc'] at hr ⊢ <;> first | (cases hr; done) | skip
    rename_i q
    cases q
    · exact ihy hq hk _ _ hr
    · exact ihx hq hk _ _ hr
  | block id body ih =>
    intro α q hq K K' r hk t h hr
    simp only [execC, exec] at hr ⊢
    refine ih hq (fun e t' h' h1 => ?_) t h hr
    cases e <;> first | exact hk _ _ _ h1 | skip
    rename_i j
    simp only [] at h1 ⊢
    cases hj : Nat.beq j id <;> simp only [hj, cond_false, cond_true] at h1 ⊢ <;> exact hk _ _ _ h1
  | loop body ih =>
    intro α q hq K K' r hk t h hr
    simp only [execC, exec] at hr ⊢
    have key : ∀ m (s : T × Heap) x, loopN (fun s : T × Heap => execC P n cfg rc md N body (fun _ _ => false) roundK s.1 s.2) m s = some x → loopN (fun s : T × Heap => exec P cfg rc md N body roundK s.1 s.2) m s = some x := by
      intro m
      induction m with
      | zero => intro s x hx; simp [loopN] at hx
      | succ m ihm =>
        intro s x hx
        simp only [loopN] at hx
        cases hb : execC P n cfg rc md N body (fun _ _ => false) roundK s.1 s.2 with
        | none => simp [hb] at hx
        | some y =>
          have h1 := ih (fun h => by cases h) (K' := roundK) (fun e t h h1 => h1) _ _ hb
          cases y with
          | inl s' => simp only [hb] at hx; simp only [loopN, h1]; exact ihm s' x hx
          | inr z => simp only [hb] at hx; simp only [loopN, h1]; exact hx
    cases hl : loopN (fun s : T × Heap => execC P n cfg rc md N body (fun _ _ => false) roundK s.1 s.2) n (t, h) with
    | none => simp [hl] at hr
    | some x =>
      obtain ⟨e0, t0, h0⟩ := x
      simp only [hl] at hr
      rw [loopF_of (key _ _ _ hl)]
      exact hk _ _ _ hr
  | scope body ih => intro α q hq K K' r hk t h hr; simp only [execC, exec] at hr ⊢; exact ih hq hk _ _ hr
theorem callStep0C_ok {f : FuncId} {args : List Value} {h : Heap} {r : Value × Heap} (hr : callStep0C P n cfg rc md f args h = some r) : callStep0 P cfg rc md f args h = some r := by
  unfold callStep0C at hr
  unfold callStep0
  cases hf : P.funcs[f]? with
  | none => simp [hf] at hr
  | some fn =>
    simp only [hf] at hr ⊢
    cases hb : fn.body with
    | none => simp [hb] at hr
    | some c =>
      simp only [hb] at hr ⊢
      cases hq : (okCode cfg c && !(fn.name == "runtime.NumGoroutine"))
      · simp [hq] at hr
      · simp only [hq, cond_true] at hr ⊢
        exact execC_ok c resEq_eq (fun e t h h1 => h1) _ _ hr
theorem callC_ok : ∀ (m : Nat) (md : Md) (f : FuncId) (args : List Value) (h : Heap) (r : Value × Heap), callC P n cfg m md f args h = some r → call P cfg md f args h = some r := by
  intro m
  induction m with
  | zero => intro md f args h r hr; cases hr
  | succ m ih =>
    intro md f args h r hr
    simp only [callC] at hr
    have c : Chain (fun _ => call P cfg) (callC P n cfg m) := fun md f args h r hr => Ev.of (ih md f args h r hr)
    have up : ∀ md args h r, callStep0C P n cfg (callC P n cfg m) md f args h = some r → callStep0 P cfg (call P cfg) md f args h = some r := fun md args h r hr => by
      obtain ⟨k, hk⟩ := callStep0_ev c (callStep0C_ok hr)
      exact hk k (Nat.le_refl _)
    rw [call_eq]
    unfold callStep
    cases h3 : Nat.beq (cfg f) 3
    · rw [h3] at hr
      cases h4 : Nat.beq (cfg f) 4
      · rw [h4] at hr; exact up _ _ _ _ hr
      · rw [h4] at hr; exact hr
    · rw [h3] at hr
      simp only [cond_true] at hr ⊢
      cases ha : args.all plain1
      · rw [ha] at hr; cases hr
      · rw [ha] at hr
        simp only [cond_true] at hr ⊢
        cases hx : callStep0C P n cfg (callC P n cfg m) ⟨0, 0⟩ f args [] with
        | none => rw [hx] at hr; cases hr
        | some p => rw [hx] at hr; rw [up _ _ _ _ hx]; exact hr
theorem alone_true {f : FuncId} (m : Nat) (hr : aloneC P n m cfg f = true) (md : Md) (h : Heap) : call P cfg md f [] h = some (.bool true, h) := by
  unfold aloneC at hr
  cases h3 : Nat.beq (cfg f) 3
  · rw [h3] at hr; cases hr
  · rw [h3] at hr
    simp only [cond_true] at hr
    split at hr
    · rename_i g hg
      have h1 := callStep0C_ok hg
      have c : Chain (fun _ => call P cfg) (callC P n cfg m) := fun md f args h r hr => Ev.of (callC_ok m md f args h r hr)
      obtain ⟨k, hk⟩ := callStep0_ev c h1
      rw [call_eq]
      unfold callStep
      rw [h3]
      simp only [cond_true]
      rw [hk k (Nat.le_refl _)]
      rfl
    · cases hr
end Go.Det
namespace Go.Det
variable {P : Program} {cfg : Cfg}
/-- What a call that needs nothing answers, worked out. -/
theorem free_ok {f : FuncId} {args : List Value} {v : Value} (n m : Nat) (h3 : Nat.beq (cfg f) 3 = true) (hr : (callC P n cfg m ⟨0, 0⟩ f args []).map Prod.fst = some v) (md : Md) (h : Heap) : call P cfg md f args h = some (v, h) := by
  cases hx : callC P n cfg m ⟨0, 0⟩ f args [] with
  | none => rw [hx] at hr; cases hr
  | some p =>
    rw [hx] at hr
    obtain ⟨u, g⟩ := p
    simp at hr
    subst hr
    have h1 := callC_ok m ⟨0, 0⟩ f args [] _ hx
    rw [call_eq] at h1 ⊢
    unfold callStep at h1 ⊢
    rw [h3] at h1 ⊢
    simp only [cond_true] at h1 ⊢
    cases ha : args.all plain1
    · rw [ha] at h1; cases h1
    · rw [ha] at h1
      simp only [cond_true] at h1 ⊢
      cases hy : callStep0 P cfg (call P cfg) ⟨0, 0⟩ f args [] with
      | none => rw [hy] at h1; cases h1
      | some q =>
        rw [hy] at h1
        obtain ⟨u', g'⟩ := q
        simp only [alone] at h1 ⊢
        cases hp : plain2 u'
        · rw [hp] at h1; cases h1
        · rw [hp] at h1
          simp only [cond_true, Option.some.injEq, Prod.mk.injEq] at h1 ⊢
          exact ⟨h1.1, trivial⟩
end Go.Det
