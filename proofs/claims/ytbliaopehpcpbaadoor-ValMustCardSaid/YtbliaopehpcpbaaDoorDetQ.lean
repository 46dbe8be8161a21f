/- The words of the functions that are printed from the code. -/
import Derived.Test.YtbliaopehpcpbaaDoorDetN
import Derived.KernelRfl
set_option autoImplicit false
set_option linter.unusedVariables false
set_option linter.unusedSimpArgs false
namespace Go.Det

section
variable {α : Type}

def ld1 (x : Value) (h : Heap) (k : Value → Option α) : Option α :=
  match x with
  | .pointer (some ⟨b, i, none⟩) => (match rd h b i with | some v => k v | none => none)
  | _ => none
def ldN (n : Nat) (x : Value) (h : Heap) (k : Value → Option α) : Option α :=
  match x with
  | .pointer (some ⟨b, i, none⟩) => (match rdN h b i n with | some l => k (.agg l.toArray) | none => none)
  | _ => none
def st (md : Md) (n : Nat) (x v : Value) (h : Heap) (k : Heap → Option α) : Option α :=
  match x with
  | .pointer (some ⟨b, i, none⟩) =>
    if v.cells.toList.length = n then
      (if v.cells.toList.all isCell = true then (match wrN md h b i v.cells.toList with | some h' => k h' | none => none) else none)
    else none
  | _ => none
def fA (off : Nat) (x : Value) (k : Value → Option α) : Option α :=
  match x with
  | .pointer (some ⟨b, o, none⟩) => k (.pointer (some ⟨b, o + off, none⟩))
  | _ => none
def ixS (size : Nat) (x : Value) (n : Int) (k : Value → Option α) : Option α :=
  match x with
  | .slice (some ⟨b, o, none⟩) len _ => if 0 ≤ n ∧ n < (len : Int) then k (.pointer (some ⟨b, o + n.toNat * size, none⟩)) else none
  | _ => none
def ixA (len size : Nat) (x : Value) (n : Int) (k : Value → Option α) : Option α :=
  match x with
  | .pointer (some ⟨b, o, none⟩) => if 0 ≤ n ∧ n < (len : Int) then k (.pointer (some ⟨b, o + n.toNat * size, none⟩)) else none
  | _ => none
def lenS (x : Value) (k : Value → Option α) : Option α :=
  match x with
  | .slice _ n _ => k (.int .i64 n)
  | _ => none
def lenT (x : Value) (k : Value → Option α) : Option α :=
  match x with
  | .string s => k (.int .i64 s.size)
  | _ => none
def exT (x : Value) (i : Nat) (k : Value → Option α) : Option α :=
  match x with
  | .tuple vs => (match vs.toList[i]? with | some v => k v | none => none)
  | _ => none
def cl (x : Option (Value × Heap)) (k : Value → Heap → Option α) : Option α :=
  match x with
  | some (v, h) => k v h
  | none => none
def cIn (kd : IntKind) (x : Value) (k : Int → Option α) : Option α :=
  match x with
  | .int k' n => if k' = kd then k n else none
  | _ => none
def cBn (x : Value) (k : Bool → Option α) : Option α :=
  match x with
  | .bool b => k b
  | _ => none
def divI (op : BinOp) (a b : Int) (kd : IntKind) (k : Value → Option α) : Option α :=
  match intOp op a b kd with
  | some v => k v
  | none => none
def shI (op : BinOp) (a b : Int) (kd : IntKind) (k : Value → Option α) : Option α :=
  match shOp op a b kd with
  | some v => k v
  | none => none
def wantV (v : Value) (want : Bool) : Bool :=
  match (match v with | .bool b => some b | _ => none : Option Bool) with
  | some b => b == want
  | none => false
def fin1 (h : Heap) (v : Value) (h' : Heap) : Option (Value × Heap) := bif below h.length v then some (v, h'.take h.length) else none
def fin2 (h : Heap) (v : Value) : Option (Value × Heap) := bif below h.length v then some (v, h) else none

end

def bAnd (k : IntKind) (a b : Int) : Int := k.wrap ((BitVec.ofInt k.bits a &&& BitVec.ofInt k.bits b).toNat)
def bOr (k : IntKind) (a b : Int) : Int := k.wrap ((BitVec.ofInt k.bits a ||| BitVec.ofInt k.bits b).toNat)
def bXor (k : IntKind) (a b : Int) : Int := k.wrap ((BitVec.ofInt k.bits a ^^^ BitVec.ofInt k.bits b).toNat)
def bAndNot (k : IntKind) (a b : Int) : Int := k.wrap ((BitVec.ofInt k.bits a &&& ~~~ BitVec.ofInt k.bits b).toNat)

/-- A part of a piece of code: to the left, to the right, ... -/
def sub : Code → List Nat → Code
  | c, [] => c
  | .seq a b, i :: p => if i = 0 then sub a p else sub b p
  | .cond _ a b, i :: p => if i = 0 then sub a p else sub b p
  | .block _ a, _ :: p => sub a p
  | .loop a, _ :: p => sub a p
  | .scope a, _ :: p => sub a p
  | _, _ => .skip

def bodyOf (P : Program) (f : FuncId) : Code :=
  match P.funcs[f]? with
  | some fn => (match fn.body with | some c => c | none => .skip)
  | none => .skip

theorem put_bind {α γ : Type} {N : Nat} {d : Option Tmp} {t : T} {v : Value} {k : T → Option α} (f : α → Option γ) : (put N d t v k).bind f = put N d t v fun t' => (k t').bind f := by
  unfold put
  cases d with
  | none => rfl
  | some d => simp only []; cases Nat.blt d N <;> rfl

theorem aOps_map {P : Program} {rc : Rec} {md : Md} {N : Nat} {ops : Array Oper} {α γ : Type} {K : T → Heap → Option α} (f : α → Option γ) : ∀ (l : List Nat) (t : T) (h : Heap),
    aOps P rc md N ops (fun t h => (K t h).bind f) l t h = (aOps P rc md N ops K l t h).bind f := by
  intro l
  induction l with
  | nil => intro t h; rfl
  | cons i rest ih =>
    intro t h
    cases ho : ops[i]? with
    | none => simp only [aOps, ho]; rfl
    | some o =>
      rw [aOps_cons ho, aOps_cons ho]
      rw [Option.bind_assoc]
      congr 1
      funext p
      rw [put_bind]
      congr 1
      funext t'
      exact ih t' p.2

theorem aOpsD_map {P : Program} {cfg : Cfg} {rc : Rec} {md : Md} {N : Nat} {ops : Array Oper} {fr : Nat → Nat → Bool} {α γ : Type} {K : T → Heap → Option α} (f : α → Option γ) : ∀ (l : List Nat) (t : T) (h : Heap) (L : List Ent),
    aOpsD P cfg rc md N ops fr (fun t h => (K t h).bind f) l t h L = (aOpsD P cfg rc md N ops fr K l t h L).bind f := by
  have hchk : ∀ (x : Ent) (L : List Ent) (k : Option α), chk P rc md fr x L (k.bind f) = (chk P rc md fr x L k).bind f := by
    intro x L k
    induction L with
    | nil => rfl
    | cons y L ih =>
      simp only [chk]
      cases fr x.idx y.idx
      · exact ih
      · simp only [cond_true]
        split
        · exact ih
        · rfl
  intro l
  induction l with
  | nil => intro t h L; rfl
  | cons i rest ih =>
    intro t h L
    cases ho : ops[i]? with
    | none => simp only [aOpsD, ho]; rfl
    | some o =>
      rw [aOpsD_cons ho, aOpsD_cons ho]
      rw [Option.bind_assoc]
      congr 1
      funext p
      unfold logK
      cases entOf P cfg o i t (aWanted ops t o) p.1 h p.2 with
      | none =>
        simp only []
        rw [put_bind]
        congr 1
        funext t'
        exact ih t' p.2 _
      | some x =>
        simp only []
        rw [← hchk, put_bind]
        congr 2
        funext t'
        exact ih t' p.2 _
theorem regOps_map {P : Program} {cfg : Cfg} {rc : Rec} {md : Md} {N : Nat} {ops : Array Oper} {draw : Bool} (hno : (!draw || commOk P cfg ops) = true) {α γ : Type} {K : T → Heap → Option α} (f : α → Option γ) (t : T) (h : Heap) :
    regOps P cfg rc md N ops draw (fun t h => (K t h).bind f) t h = (regOps P cfg rc md N ops draw K t h).bind f := by
  unfold regOps
  cases draw
  · exact aOps_map f _ t h
  · simp only [Bool.not_true, Bool.false_or] at hno
    simp only [hno, cond_true]
    cases hasFr P cfg ops
    · exact aOps_map f _ t h
    · exact aOpsD_map f _ t h _
/-- Code whose regions are taken in one order. -/
def oneOrder (P : Program) (cfg : Cfg) : Code → Bool
  | .region _ ops draw => !draw || commOk P cfg (regOf P cfg ops draw)
  | .seq a b => oneOrder P cfg a && oneOrder P cfg b
  | .cond _ a b => oneOrder P cfg a && oneOrder P cfg b
  | .block _ b | .scope b => oneOrder P cfg b
  | _ => true

theorem exec_map {P : Program} {cfg : Cfg} {rc : Rec} {md : Md} {N : Nat} : ∀ (c : Code), oneOrder P cfg c = true → ∀ {α γ : Type} {K : Exit → T → Heap → Option α} (f : α → Option γ) (t : T) (h : Heap),
    exec P cfg rc md N c (fun e t h => (K e t h).bind f) t h = (exec P cfg rc md N c K t h).bind f := by
  intro c
  induction c with
  | skip => intro _ α γ K f t h; rfl
  | label l => intro _ α γ K f t h; rfl
  | exit id => intro _ α γ K f t h; rfl
  | ret => intro _ α γ K f t h; rfl
  | goto l => intro _ α γ K f t h; rfl
  | refuse s => intro _ α γ K f t h; rfl
  | rangeFunc f ps x y => intro _ α γ K f t h; rfl
  | region id ops draw => intro hno α γ K f t h; exact regOps_map hno f t h
  | seq x y ihx ihy =>
    intro hno α γ K f t h
    simp only [oneOrder, Bool.and_eq_true] at hno
    simp only [exec]
    rw [← ihx hno.1]
    congr 1
    funext e t h
    cases e <;> first | rfl | exact ihy hno.2 f t h
  | cond c x y ihx ihy =>
    intro hno α γ K f t h
    simp only [oneOrder, Bool.and_eq_true] at hno
    simp only [exec]
    cases ev t c <;> first | rfl | skip
    rename_i b
    cases b
    · exact ihy hno.2 f t h
    · exact ihx hno.1 f t h
  | block id body ih =>
    intro hno α γ K f t h
    simp only [oneOrder] at hno
    simp only [exec]
    rw [← ih hno]
    congr 1
    funext e t h
    cases e <;> first | rfl | skip
    rename_i j
    simp only []
    cases Nat.beq j id <;> rfl
  | loop body ih =>
    intro _ α γ K f t h
    simp only [exec]
    cases loopF (fun s : T × Heap => exec P cfg rc md N body roundK s.1 s.2) (t, h) with
    | none => rfl
    | some x => rfl
  | scope body ih => intro hno α γ K f t h; simp only [oneOrder] at hno; simp only [exec]; exact ih hno f t h

/-- A loop by a function on the slots that matter. -/
theorem loop_eq {P : Program} {cfg : Cfg} {rc : Rec} {md : Md} {N : Nat} {body : Code} {α σ : Type} {K : Exit → T → Heap → Option α} (hno : oneOrder P cfg body = true) (π : T → σ)
    (g : σ × Heap → Option ((σ × Heap) ⊕ (Exit × σ × Heap)))
    (hb : ∀ t h, exec P cfg rc md N body (fun e t h => some (match e with | .normal => .inl (π t, h) | e => .inr (e, π t, h))) t h = g (π t, h))
    (K' : Exit → σ → Heap → Option α) (hK : ∀ e t h, K e t h = K' e (π t) h) (t : T) (h : Heap) :
    exec P cfg rc md N (.loop body) K t h = match loopF g (π t, h) with | some (e, s, h) => K' e s h | none => none := by
  have hsim : ∀ s : T × Heap, g (π s.1, s.2) = (exec P cfg rc md N body roundK s.1 s.2).map (simMap (fun s : T × Heap => (π s.1, s.2)) (fun a : Exit × T × Heap => (a.1, π a.2.1, a.2.2))) := by
    intro s
    rw [← hb s.1 s.2]
    have hk : (fun (e : Exit) (t : T) (h : Heap) => (some (match e with | .normal => .inl (π t, h) | e => .inr (e, π t, h)) : Option ((σ × Heap) ⊕ (Exit × σ × Heap)))) =
        fun e t h => (roundK e t h).bind fun x => some (simMap (fun s : T × Heap => (π s.1, s.2)) (fun a : Exit × T × Heap => (a.1, π a.2.1, a.2.2)) x) := by
      funext e t h
      cases e <;> rfl
    rw [hk, exec_map body hno]
    cases exec P cfg rc md N body roundK s.1 s.2 with
    | none => rfl
    | some x => rfl
  have := loopF_sim (f := fun s : T × Heap => exec P cfg rc md N body roundK s.1 s.2) (g := g) (π := fun s : T × Heap => (π s.1, s.2)) (out := fun a : Exit × T × Heap => (a.1, π a.2.1, a.2.2)) hsim (t, h)
  simp only [exec]
  rw [this]
  cases loopF (fun s : T × Heap => exec P cfg rc md N body roundK s.1 s.2) (t, h) with
  | none => rfl
  | some x => exact hK x.1 x.2.1 x.2.2

end Go.Det
