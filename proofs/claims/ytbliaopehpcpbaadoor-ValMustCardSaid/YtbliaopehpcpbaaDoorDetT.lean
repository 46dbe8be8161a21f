/- Code with holes: a loop, or a place that two ways lead to, as a function of its own. -/
import Derived.Test.YtbliaopehpcpbaaDoorDetR
set_option autoImplicit false
set_option linter.unusedVariables false
set_option linter.unusedSimpArgs false
namespace Go.Det

def tails (i : Bool) (S : List (List Nat × Nat)) : List (List Nat × Nat) :=
  S.filterMap fun x => match x.1 with
    | [] => none
    | j :: p => bif (Nat.beq j 0) == i then some (p, x.2) else none
def here (S : List (List Nat × Nat)) : Option Nat :=
  S.findSome? fun x => match x.1 with
    | [] => some x.2
    | _ => none
/-- Code with holes at the places of a list. -/
def replS : Code → List (List Nat × Nat) → Code
  | c, S => match here S with
    | some l => .goto l
    | none => match c with
      | .seq a b => .seq (replS a (tails true S)) (replS b (tails false S))
      | .cond x a b => .cond x (replS a (tails true S)) (replS b (tails false S))
      | .block id a => .block id (replS a (tails true S))
      | .scope a => .scope (replS a (tails true S))
      | .goto l => .refuse ""
      | c => c
termination_by structural c => c

section
variable (P : Program) (cfg : Cfg)
noncomputable def execG {α : Type} (X : Nat → T → Heap → Option α) (rc : Rec) (md : Md) (N : Nat) : Code → (Exit → T → Heap → Option α) → T → Heap → Option α
  | .skip, K, t, h => K .normal t h
  | .label _, K, t, h => K .normal t h
  | .region _ ops draw, K, t, h => regOps P cfg rc md N (regOf P cfg ops draw) draw (K .normal) t h
  | .seq a b, K, t, h => execG X rc md N a (fun e t h => match e with | .normal => execG X rc md N b K t h | e => K e t h) t h
  | .cond c x y, K, t, h => match ev t c with
    | .bool b => bif b then execG X rc md N x K t h else execG X rc md N y K t h
    | _ => none
  | .block id body, K, t, h => execG X rc md N body (fun e t h => match e with
    | .exit j => bif Nat.beq j id then K .normal t h else K (.exit j) t h
    | e => K e t h) t h
  | .loop body, K, t, h =>
    match loopF (fun s : T × Heap => exec P cfg rc md N body roundK s.1 s.2) (t, h) with
    | some (e, t, h) => K e t h
    | none => none
  | .scope body, K, t, h => execG X rc md N body K t h
  | .exit id, K, t, h => K (.exit id) t h
  | .ret, K, t, h => K .ret t h
  | .goto l, _, t, h => X l t h
  | _, _, _, _ => none
noncomputable def kAtG {α : Type} (X : Nat → T → Heap → Option α) (rc : Rec) (md : Md) (N : Nat) : Code → List Nat → (Exit → T → Heap → Option α) → Exit → T → Heap → Option α
  | _, [], K => K
  | .seq a b, i :: p, K => if i = 0 then kAtG X rc md N a p (fun e t h => match e with | .normal => execG P cfg X rc md N b K t h | e => K e t h) else kAtG X rc md N b p K
  | .cond _ a b, i :: p, K => if i = 0 then kAtG X rc md N a p K else kAtG X rc md N b p K
  | .block id a, _ :: p, K => kAtG X rc md N a p (fun e t h => match e with
    | .exit j => bif Nat.beq j id then K .normal t h else K (.exit j) t h
    | e => K e t h)
  | .scope a, _ :: p, K => kAtG X rc md N a p K
  | _, _, K => K
end
def okPath : Code → List Nat → Bool
  | _, [] => true
  | .seq a b, i :: p => if i = 0 then okPath a p else okPath b p
  | .cond _ a b, i :: p => if i = 0 then okPath a p else okPath b p
  | .block _ a, i :: p => if i = 0 then okPath a p else false
  | .scope a, i :: p => if i = 0 then okPath a p else false
  | _, _ => false
def pre : List Nat → List Nat → Bool
  | [], _ => true
  | _ :: _, [] => false
  | i :: q, j :: p => (Nat.beq i 0 == Nat.beq j 0) && pre q p
def noPre (S : List (List Nat × Nat)) (p : List Nat) : Bool := S.all fun x => !pre x.1 p

theorem here_mem {S : List (List Nat × Nat)} {l : Nat} (h : here S = some l) : ([], l) ∈ S := by
  obtain ⟨x, hx, he⟩ := List.exists_of_findSome?_eq_some h
  obtain ⟨p, m⟩ := x
  cases p with
  | nil => simp at he; subst he; exact hx
  | cons j p => simp at he
theorem tails_mem {S : List (List Nat × Nat)} {i : Bool} {p : List Nat} {l : Nat} (h : (p, l) ∈ tails i S) : ∃ j, (j :: p, l) ∈ S ∧ (Nat.beq j 0) = i := by
  obtain ⟨x, hx, he⟩ := List.mem_filterMap.1 h
  obtain ⟨q, m⟩ := x
  cases q with
  | nil => simp at he
  | cons j q =>
    simp only [] at he
    cases hb : (Nat.beq j 0 == i)
    · rw [hb] at he; cases he
    · rw [hb] at he; simp at he; obtain ⟨rfl, rfl⟩ := he; exact ⟨j, hx, by simpa using hb⟩
section
variable {P : Program} {cfg : Cfg} {α : Type} {X : Nat → T → Heap → Option α} {rc : Rec} {md : Md} {N : Nat}

theorem beq0 {j : Nat} : (Nat.beq j 0 = true → j = 0) ∧ (Nat.beq j 0 = false → j ≠ 0) := by
  cases j with
  | zero => exact ⟨fun _ => rfl, fun h => (by cases h)⟩
  | succ j => exact ⟨fun h => (by cases h), fun _ => by omega⟩

theorem execG_eq : ∀ (c : Code) (S : List (List Nat × Nat)) (K : Exit → T → Heap → Option α), (∀ p l, (p, l) ∈ S → X l = cut P cfg rc md N c p K) → ∀ t h, execG P cfg X rc md N (replS c S) K t h = exec P cfg rc md N c K t h := by
  have hh : ∀ (c : Code) (S : List (List Nat × Nat)) (K : Exit → T → Heap → Option α) (l : Nat), (∀ p l, (p, l) ∈ S → X l = cut P cfg rc md N c p K) → here S = some l → ∀ t h, execG P cfg X rc md N (.goto l) K t h = exec P cfg rc md N c K t h := by
    intro c S K l hX hl t h
    show X l t h = _
    rw [hX [] l (here_mem hl)]
    cases c <;> rfl
  intro c
  induction c with
  | seq a b iha ihb =>
    intro S K hX t h
    cases hl : here S with
    | some l =>
      have e : replS (.seq a b) S = .goto l := by rw [replS.eq_def]; simp only [hl]
      rw [e]; exact hh _ S K l hX hl t h
    | none =>
      have e : replS (.seq a b) S = .seq (replS a (tails true S)) (replS b (tails false S)) := by rw [replS.eq_def]; simp only [hl]
      rw [e]
      simp only [execG, exec]
      have hb : ∀ t h, execG P cfg X rc md N (replS b (tails false S)) K t h = exec P cfg rc md N b K t h := by
        refine ihb _ K fun p l hm => ?_
        obtain ⟨j, hj, hj0⟩ := tails_mem hm
        rw [hX _ _ hj]
        have := beq0.2 hj0
        funext t h
        simp only [cut, sub, kAt, if_neg this]
      simp only [hb]
      refine iha _ _ (fun p l hm => ?_) t h
      obtain ⟨j, hj, hj0⟩ := tails_mem hm
      rw [hX _ _ hj]
      have := beq0.1 hj0
      funext t h
      simp only [cut, sub, kAt, if_pos this] <;> rfl
  | cond x a b iha ihb =>
    intro S K hX t h
    cases hl : here S with
    | some l =>
      have e : replS (.cond x a b) S = .goto l := by rw [replS.eq_def]; simp only [hl]
      rw [e]; exact hh _ S K l hX hl t h
    | none =>
      have e : replS (.cond x a b) S = .cond x (replS a (tails true S)) (replS b (tails false S)) := by rw [replS.eq_def]; simp only [hl]
      rw [e]
      simp only [execG, exec]
      have hb : ∀ t h, execG P cfg X rc md N (replS b (tails false S)) K t h = exec P cfg rc md N b K t h := by
        refine ihb _ K fun p l hm => ?_
        obtain ⟨j, hj, hj0⟩ := tails_mem hm
        rw [hX _ _ hj]
        have := beq0.2 hj0
        funext t h
        simp only [cut, sub, kAt, if_neg this]
      have ha : ∀ t h, execG P cfg X rc md N (replS a (tails true S)) K t h = exec P cfg rc md N a K t h := by
        refine iha _ K fun p l hm => ?_
        obtain ⟨j, hj, hj0⟩ := tails_mem hm
        rw [hX _ _ hj]
        have := beq0.1 hj0
        funext t h
        simp only [cut, sub, kAt, if_pos this] <;> rfl
      simp only [ha, hb]
      rfl
  | block id a ih =>
    intro S K hX t h
    cases hl : here S with
    | some l =>
      have e : replS (.block id a) S = .goto l := by rw [replS.eq_def]; simp only [hl]
      rw [e]; exact hh _ S K l hX hl t h
    | none =>
      have e : replS (.block id a) S = .block id (replS a (tails true S)) := by rw [replS.eq_def]; simp only [hl]
      rw [e]
      simp only [execG, exec]
      refine ih _ _ (fun p l hm => ?_) t h
      obtain ⟨j, hj, _⟩ := tails_mem hm
      rw [hX _ _ hj]
      rfl
  | scope a ih =>
    intro S K hX t h
    cases hl : here S with
    | some l =>
      have e : replS (.scope a) S = .goto l := by rw [replS.eq_def]; simp only [hl]
      rw [e]; exact hh _ S K l hX hl t h
    | none =>
      have e : replS (.scope a) S = .scope (replS a (tails true S)) := by rw [replS.eq_def]; simp only [hl]
      rw [e]
      simp only [execG, exec]
      refine ih _ _ (fun p l hm => ?_) t h
      obtain ⟨j, hj, _⟩ := tails_mem hm
      rw [hX _ _ hj]
      rfl
  | _ =>
    intro S K hX t h
    cases hl : here S with
    | some l =>
      have e := replS.eq_def (Code.skip) S
      rw [replS.eq_def]; simp only [hl]
      exact hh _ S K l hX hl t h
    | none =>
      rw [replS.eq_def]; simp only [hl]
      rfl

theorem here_none {S : List (List Nat × Nat)} {p : List Nat} (h : noPre S p = true) : here S = none := by
  cases hl : here S with
  | none => rfl
  | some l =>
    have := List.all_eq_true.1 h _ (here_mem hl)
    simp [pre] at this
theorem noPre_tails {S : List (List Nat × Nat)} {j : Nat} {p : List Nat} (h : noPre S (j :: p) = true) : noPre (tails (Nat.beq j 0) S) p = true := by
  refine List.all_eq_true.2 fun x hx => ?_
  obtain ⟨q, l⟩ := x
  obtain ⟨i, hi, hi0⟩ := tails_mem hx
  have := List.all_eq_true.1 h _ hi
  simp only [pre, hi0] at this
  simpa using this
theorem cutG_both : ∀ (p : List Nat) (c : Code) (S : List (List Nat × Nat)) (K : Exit → T → Heap → Option α), (∀ q l, (q, l) ∈ S → X l = cut P cfg rc md N c q K) → okPath c p = true → noPre S p = true →
    (∀ e t h, kAtG P cfg X rc md N (replS c S) p K e t h = kAt P cfg rc md N c p K e t h) ∧
    (∀ t h, execG P cfg X rc md N (sub (replS c S) p) (kAtG P cfg X rc md N (replS c S) p K) t h = cut P cfg rc md N c p K t h) := by
  intro p
  induction p with
  | nil =>
    intro c S K hX _ _
    have e1 : ∀ c : Code, kAtG P cfg X rc md N c [] K = K := by intro c; cases c <;> rfl
    have e2 : ∀ c : Code, kAt P cfg rc md N c [] K = K := by intro c; cases c <;> rfl
    have e3 : ∀ c : Code, sub c [] = c := by intro c; cases c <;> rfl
    refine ⟨fun e t h => by rw [e1, e2], fun t h => ?_⟩
    rw [e1, e3, execG_eq c S K hX]
    unfold cut
    rw [e2, e3]
  | cons i p ih =>
    intro c S K hX hp hS
    have hl := here_none hS
    cases c with
    | seq a b =>
      have e : replS (.seq a b) S = .seq (replS a (tails true S)) (replS b (tails false S)) := by rw [replS.eq_def]; simp only [hl]
      rw [e]
      by_cases hi : i = 0
      · subst hi
        have hb : ∀ t h, execG P cfg X rc md N (replS b (tails false S)) K t h = exec P cfg rc md N b K t h := by
          refine execG_eq _ _ K fun p l hm => ?_
          obtain ⟨j, hj, hj0⟩ := tails_mem hm
          rw [hX _ _ hj]
          have := beq0.2 hj0
          funext t h
          simp only [cut, sub, kAt, if_neg this]
        have := ih a (tails true S) (fun e t h => match e with | .normal => exec P cfg rc md N b K t h | e => K e t h) (fun q l hm => by
          obtain ⟨j, hj, hj0⟩ := tails_mem hm
          rw [hX _ _ hj]
          have := beq0.1 hj0
          funext t h
          simp only [cut, sub, kAt, if_pos this] <;> rfl) (by simpa [okPath] using hp) (noPre_tails hS)
        simp only [cut, kAtG, sub, kAt, if_true, hb] at this ⊢
        exact this
      · have := ih b (tails false S) K (fun q l hm => by
          obtain ⟨j, hj, hj0⟩ := tails_mem hm
          rw [hX _ _ hj]
          have := beq0.2 hj0
          funext t h
          simp only [cut, sub, kAt, if_neg this]) (by simpa [okPath, hi] using hp) (by
            have := noPre_tails hS
            rwa [show Nat.beq i 0 = false by cases i with | zero => exact absurd rfl hi | succ i => rfl] at this)
        simp only [cut, kAtG, sub, kAt, if_neg hi] at this ⊢
        exact this
    | cond x a b =>
      have e : replS (.cond x a b) S = .cond x (replS a (tails true S)) (replS b (tails false S)) := by rw [replS.eq_def]; simp only [hl]
      rw [e]
      by_cases hi : i = 0
      · subst hi
        have := ih a (tails true S) K (fun q l hm => by
          obtain ⟨j, hj, hj0⟩ := tails_mem hm
          rw [hX _ _ hj]
          have := beq0.1 hj0
          funext t h
          simp only [cut, sub, kAt, if_pos this] <;> rfl) (by simpa [okPath] using hp) (noPre_tails hS)
        simp only [cut, kAtG, sub, kAt, if_true] at this ⊢
        exact this
      · have := ih b (tails false S) K (fun q l hm => by
          obtain ⟨j, hj, hj0⟩ := tails_mem hm
          rw [hX _ _ hj]
          have := beq0.2 hj0
          funext t h
          simp only [cut, sub, kAt, if_neg this]) (by simpa [okPath, hi] using hp) (by
            have := noPre_tails hS
            rwa [show Nat.beq i 0 = false by cases i with | zero => exact absurd rfl hi | succ i => rfl] at this)
        simp only [cut, kAtG, sub, kAt, if_neg hi] at this ⊢
        exact this
    | block id a =>
      have e : replS (.block id a) S = .block id (replS a (tails true S)) := by rw [replS.eq_def]; simp only [hl]
      rw [e]
      have hi : i = 0 := by
        by_cases hi : i = 0
        · exact hi
        · simp [okPath, hi] at hp
      subst hi
      exact ih a (tails true S) _ (fun q l hm => by
          obtain ⟨j, hj, hj0⟩ := tails_mem hm
          rw [hX _ _ hj]
          rfl) (by simpa [okPath] using hp) (noPre_tails hS)
    | scope a =>
      have e : replS (.scope a) S = .scope (replS a (tails true S)) := by rw [replS.eq_def]; simp only [hl]
      rw [e]
      have hi : i = 0 := by
        by_cases hi : i = 0
        · exact hi
        · simp [okPath, hi] at hp
      subst hi
      exact ih a (tails true S) _ (fun q l hm => by
          obtain ⟨j, hj, hj0⟩ := tails_mem hm
          rw [hX _ _ hj]
          rfl) (by simpa [okPath] using hp) (noPre_tails hS)
    | _ => simp [okPath] at hp

def pth (S : List (List Nat × Nat)) (l : Nat) : List Nat :=
  match S.find? (fun x => Nat.beq x.2 l) with
  | some x => x.1
  | none => []
def okS (S : List (List Nat × Nat)) : Bool := S.all fun x => pth S x.2 == x.1
noncomputable def goX (P : Program) (cfg : Cfg) (rc : Rec) (md : Md) (N : Nat) (c : Code) (S : List (List Nat × Nat)) (K : Exit → T → Heap → Option α) (l : Nat) : T → Heap → Option α := cut P cfg rc md N c (pth S l) K
theorem goX_ok {c : Code} {S : List (List Nat × Nat)} {K : Exit → T → Heap → Option α} (h : okS S = true) (q : List Nat) (l : Nat) (hm : (q, l) ∈ S) : goX P cfg rc md N c S K l = cut P cfg rc md N c q K := by
  have := List.all_eq_true.1 h _ hm
  simp only [beq_iff_eq] at this
  unfold goX
  rw [this]
theorem exec_holes {c : Code} {K : Exit → T → Heap → Option α} (S : List (List Nat × Nat)) (h : okS S = true) (t : T) (hp : Heap) :
    exec P cfg rc md N c K t hp = execG P cfg (goX P cfg rc md N c S K) rc md N (replS c S) K t hp := (execG_eq c S K (goX_ok h) t hp).symm
theorem cut_holes {c : Code} {K : Exit → T → Heap → Option α} (S : List (List Nat × Nat)) (p : List Nat) (h : (okS S && okPath c p && noPre S p) = true) (t : T) (hp : Heap) :
    cut P cfg rc md N c p K t hp = execG P cfg (goX P cfg rc md N c S K) rc md N (sub (replS c S) p) (kAtG P cfg (goX P cfg rc md N c S K) rc md N (replS c S) p K) t hp := by
  simp only [Bool.and_eq_true] at h
  exact ((cutG_both p c S K (goX_ok h.1.1) h.1.2 h.2).2 t hp).symm
theorem kAt_holes {c : Code} {K : Exit → T → Heap → Option α} (S : List (List Nat × Nat)) (p : List Nat) (h : (okS S && okPath c p && noPre S p) = true) (e : Exit) (t : T) (hp : Heap) :
    kAt P cfg rc md N c p K e t hp = kAtG P cfg (goX P cfg rc md N c S K) rc md N (replS c S) p K e t hp := by
  simp only [Bool.and_eq_true] at h
  exact ((cutG_both p c S K (goX_ok h.1.1) h.1.2 h.2).1 e t hp).symm
end

section
variable (P : Program) (cfg : Cfg)
def okF (f : FuncId) : Bool :=
  match P.funcs[f]? with
  | some fn => (match fn.body with | some c => okCode cfg c && !(fn.name == "runtime.NumGoroutine") | none => false)
  | none => false
def nOf (f : FuncId) (k : Nat) : Nat :=
  match P.funcs[f]? with
  | some fn => k + (fn.ntmps - k)
  | none => 0
end
/-- A call's step is its body. -/
theorem callStep0_run {P : Program} {cfg : Cfg} {rc : Rec} {md md' : Md} {f : FuncId} {args : List Value} {h : Heap} {N : Nat} (hok : okF P cfg f = true) (hmd : mdOf cfg f md h.length = md') (hN : nOf P f args.length = N) :
    callStep0 P cfg rc md f args h = exec P cfg rc md' N (bodyOf P f) (retK P cfg f (rsOf P f) h) (args0 args) h := by
  unfold okF at hok
  unfold nOf at hN
  unfold callStep0 bodyOf rsOf
  cases hf : P.funcs[f]? with
  | none => rw [hf] at hok; cases hok
  | some fn =>
    rw [hf] at hok hN
    simp only [] at hok hN ⊢
    cases hb : fn.body with
    | none => rw [hb] at hok; cases hok
    | some c =>
      rw [hb] at hok
      simp only [] at hok ⊢
      rw [hok, hmd, hN]
      rfl
end Go.Det
